/- Joined texts: ModelB Plain Wq PD RA RB RC RD RE RF RI. -/
import Derived.Test.YtfjgcenlllgonaaGreatDoorU7
import Derived.Test.YtfjgcenlllgonaaGreatDoorU1
import Derived.Test.YtfjgcenlllgonaaGreatDoorU4
open _root_.Decidable renaming decide->ah
open _root_.Bool renaming false->ag,true->af
open _root_.Option renaming none->ae,some->aa,bind_some->aoy,ne_none_iff_exists'->aqA
open _root_.Int renaming tdiv->aoM,tmod->aoP,tdiv_eq_ediv_of_nonneg->aoN
open _root_.Go.IntKind renaming i64->aoz
open _root_.Classical renaming propDecidable->apU
open _root_.List renaming getElem?_eq_getElem->aoA,getElem_of_mem->aoS,mem_take_iff_getElem->apN,drop_eq_getElem_cons->ao2,getElem_mem->aoG,length_append->aoH,length_cons->apa,length_map->ao5,length_take->ao0,take_length->ao3,mem_cons->apH,pairwise_cons->ap7,map_append->apj,take_add_one->apS
open _root_.Nat renaming le_refl->aoJ,lt_or_ge->aph
open _root_.Sum renaming inl->ao4,inr->aoV
namespace Go.Proofs.YtfjgcenlllgonaaGreatDoor
open Go Go.RowKit
set_option maxRecDepth 100000
set_option linter.unusedSimpArgs false
set_option linter.unusedVariables false
set_option linter.defProp false
section
noncomputable section
set_option maxRecDepth 100000
set_option linter.unusedVariables false
def M.ud(N:Nat)(a0:List Int)(a1:List Int):Option Bool:=
(if(!ah ((a0.length:Int)=(a1.length:Int)))then
aa ag
else
Loop (S:=Int) (X:=Bool) (λs1=>
((if(ah (s1<(a0.length:Int)))then
aa (ah (s1<(a1.length:Int)))
else
aa ag):Option Bool).bind λj2=>
(if j2 then
(idx a0 s1).bind λx3=>
(idx a1 s1).bind λx4=>
(if(!ah (x3=x4))then
aa (.inr ag)
else
aa (.inl (aoz.wrap (s1+1))))
else
aa (.inr af))) N 0)
theorem W23(N:Nat):Fo 23 (.i1 [.l (.slice aB), .l (.slice aB)]) (.i1 [.l .bool]) (u2 (M.ud N)):=fz N [] (.o (.o (.two (.o (.two (.lp 5 112 (.two (.mb 20 112) .nil)) .nil)) .nil))) Tryz.func23
def M.rc(N:Nat):Option (aA.den):=
aa (0,109573)
theorem W95(N:Nat):Fo 95 (.i1 []) (.i1 [.g aA]) (λ(x:Unit)=>M.rc N):=fz N [] .nil Tryz.func95
def M.lO(N:Nat)(a0:aP.den)(a1:Int):Option (ByteArray×aA.den×aA.den×List dM.den):=
(Loop (S:=Int×ByteArray×aA.den×aA.den×List dM.den) (X:=ByteArray×aA.den×aA.den×List dM.den) (λs2=>
(if(ah (s2.1<(a0.2.2.2.length:Int)))then
((idx a0.2.2.2 s2.1).bind λx4=>
(M.eZ N x4.1 a1).bind λy5=>
(if y5 then
(idx a0.2.2.2 s2.1).bind λx6=>
(M.rc N).bind λy7=>
(bR s2.2.2.2.2 ([(y7,x6.2)]:List dM.den)).bind λl8=>
aa (s2.2.1,s2.2.2.1,s2.2.2.2.1,l8)
else
aa (s2.2.1,s2.2.2.1,s2.2.2.2.1,s2.2.2.2.2)):Option (ByteArray×aA.den×aA.den×List dM.den)).bind λj3=>
aa (.inl (aoz.wrap (s2.1+1),j3.1,j3.2.1,j3.2.2.1,j3.2.2.2))
else
aa (.inr (s2.2.1,s2.2.2.1,s2.2.2.2.1,s2.2.2.2.2)))) N (0,a0.1,a0.2.1,a0.2.2.1,([]:List dM.den)):Option (ByteArray×aA.den×aA.den×List dM.den)).bind λj1=>
aa (j1.1,j1.2.1,j1.2.2.1,j1.2.2.2)
theorem W54(N:Nat):Fo 54 (.i1 [.g aP, .l aB]) (.j1 [.val af (.pair (.leaf .str) (.pair (.leaf aA) (.pair (.leaf aA) (.own 0))))] [.own 171 dM] 1) (u2 (M.lO N)):=fz N [ck (W94 N),ck (W95 N)] (.o (.o (.o (.meet ⟨[],[(48, .box 60 (.pair (.leaf .str) (.pair (.leaf aA) (.pair (.leaf aA) (.own 112))))),(112, .own 171 dM)],[],114⟩ (.o (.two (.loop ⟨[(6, .l aB)],[(48, .box 60 (.pair (.leaf .str) (.pair (.leaf aA) (.pair (.leaf aA) (.own 128))))),(128, .own 171 dM)],[],130⟩ (.o (.two (.meet ⟨[],[(48, .box 60 (.pair (.leaf .str) (.pair (.leaf aA) (.pair (.leaf aA) (.own 210))))),(210, .own 171 dM)],[128],212⟩ .nil .nil) .nil))) .nil)) .nil)))) Tryz.func54
def M.lP(N:Nat)(a0:aU.den)(a1:Int):Option (ByteArray×Int×(List bi.den)×(List bi.den)×List bn.den):=
(Loop (S:=Int×List Int) (X:=List Int) (λs2=>
(if(ah (s2.1<(a0.2.2.2.2.length:Int)))then
((idx a0.2.2.2.2 s2.1).bind λx4=>
(M.eZ N x4.2.2.2.2.1 a1).bind λy5=>
(if y5 then
(bR s2.2 ([s2.1]:List Int)).bind λl6=>
aa l6
else
aa s2.2):Option (List Int)).bind λj3=>
aa (.inl (aoz.wrap (s2.1+1),j3))
else
aa (.inr s2.2))) N (0,([]:List Int)):Option (List Int)).bind λj1=>
(Loop (S:=Int×ByteArray×Int×(List bi.den)×(List bi.den)×List bn.den) (X:=ByteArray×Int×(List bi.den)×(List bi.den)×List bn.den) (λs8=>
(if(ah (s8.1<(j1.length:Int)))then
(idx j1 s8.1).bind λx9=>
(idx a0.2.2.2.2 x9).bind λmj=>
(idx j1 s8.1).bind λnT=>
(M.nv N a0 j1 nT).bind λpJ=>
(M.rc N).bind λpT=>
(bR s8.2.2.2.2.2 ([(mj.1,(mj.2.1,(pJ,(mj.2.2.2.1,(pT,mj.2.2.2.2.2)))))]:List bn.den)).bind λZO=>
aa (.inl (aoz.wrap (s8.1+1),s8.2.1,s8.2.2.1,s8.2.2.2.1,s8.2.2.2.2.1,ZO))
else
aa (.inr (s8.2.1,s8.2.2.1,s8.2.2.2.1,s8.2.2.2.2.1,s8.2.2.2.2.2)))) N (0,a0.1,a0.2.1,a0.2.2.1,a0.2.2.2.1,([]:List bn.den)):Option (ByteArray×Int×(List bi.den)×(List bi.den)×List bn.den)).bind λj7=>
aa (j7.1,j7.2.1,j7.2.2.1,j7.2.2.2.1,j7.2.2.2.2)
theorem W55(N:Nat):Fo 55 (.i1 [.g aU, .l aB]) (.j1 [.val af (.pair (.leaf .str) (.pair (.leaf aB) (.pair (.leaf (.slice bi)) (.pair (.leaf (.slice bi)) (.own 0)))))] [.own 102 bn] 1) (u2 (M.lP N)):=fz N [ck (W94 N),ck (W95 N),ck (W96 N)] (.o (.o (.meet ⟨[(5, .val ag (.own 48))],[(48, .own 3 aB)],[],49⟩ (.o (.two (.loop ⟨[(5, .val ag (.own 64)),(6, .l aB)],[(64, .own 3 aB)],[],65⟩ (.o (.two (.meet ⟨[(5, .val ag (.own 145))],[(145, .own 3 aB)],[64],146⟩ .nil .nil) .nil))) .nil)) (.o (.o (.meet ⟨[],[(65, .box 63 (.pair (.leaf .str) (.pair (.leaf aB) (.pair (.leaf (.slice bi)) (.pair (.leaf (.slice bi)) (.own 129)))))),(129, .own 102 bn)],[],131⟩ (.o (.two (.loop ⟨[(8, .l aB)],[(65, .box 63 (.pair (.leaf .str) (.pair (.leaf aB) (.pair (.leaf (.slice bi)) (.pair (.leaf (.slice bi)) (.own 145)))))),(145, .own 102 bn)],[],147⟩ .nil) .nil)) .nil)))))) Tryz.func55
def M.qk(N:Nat)(a0:cQ.den)(a1:Int):Option ((List bA.den)×(List aP.den)×List aU.den):=
(Loop (S:=Int×(List bA.den)×List aP.den) (X:=(List bA.den)×List aP.den) (λs2=>
(if(ah (s2.1<(a0.2.1.length:Int)))then
(idx a0.2.1 s2.1).bind λx3=>
(M.lO N x3 a1).bind λy4=>
(bR s2.2.2 ([(y4.1,(y4.2.1,(y4.2.2.1,y4.2.2.2)))]:List aP.den)).bind λl5=>
aa (.inl (aoz.wrap (s2.1+1),s2.2.1,l5))
else
aa (.inr (s2.2.1,s2.2.2)))) N (0,a0.1,([]:List aP.den)):Option ((List bA.den)×List aP.den)).bind λj1=>
(Loop (S:=Int×(List bA.den)×(List aP.den)×List aU.den) (X:=(List bA.den)×(List aP.den)×List aU.den) (λs7=>
(if(ah (s7.1<(a0.2.2.length:Int)))then
(idx a0.2.2 s7.1).bind λx8=>
(M.lP N x8 a1).bind λy9=>
(bR s7.2.2.2 ([(y9.1,(y9.2.1,(y9.2.2.1,(y9.2.2.2.1,y9.2.2.2.2))))]:List aU.den)).bind λsE=>
aa (.inl (aoz.wrap (s7.1+1),s7.2.1,s7.2.2.1,sE))
else
aa (.inr (s7.2.1,s7.2.2.1,s7.2.2.2)))) N (0,j1.1,j1.2,([]:List aU.den)):Option ((List bA.den)×(List aP.den)×List aU.den)).bind λj6=>
aa (j6.1,j6.2.1,j6.2.2)
theorem W28(N:Nat):Fo 28 (.i1 [.g cQ, .l aB]) (.j1 [.val af (.pair (.leaf (.slice bA)) (.pair (.own 0) (.own 1)))] [.own 60 aP, .own 63 aU] 2) (u2 (M.qk N)):=fz N [ck (W54 N),ck (W55 N)] (.o (.o (.meet ⟨[],[(80, .box 26 (.pair (.leaf (.slice bA)) (.pair (.own 112) .nil))),(112, .own 60 aP)],[],114⟩ (.o (.two (.loop ⟨[(6, .l aB)],[(80, .box 26 (.pair (.leaf (.slice bA)) (.pair (.own 128) .nil))),(128, .own 60 aP)],[],130⟩ .nil) .nil)) (.meet ⟨[],[(80, .box 26 (.pair (.leaf (.slice bA)) (.pair (.own 112) (.own 114)))),(112, .own 60 aP),(114, .own 63 aU)],[],117⟩ (.o (.two (.loop ⟨[(7, .l aB)],[(80, .box 26 (.pair (.leaf (.slice bA)) (.pair (.own 112) (.own 130)))),(112, .own 60 aP),(130, .own 63 aU)],[],133⟩ .nil) .nil)) .nil)))) Tryz.func28
def M.fH(B:Nat):Nat->(List aA.den)->Int->(List aA.den)->Option (List aA.den)
 |0,_,_,_=>ae
 |N+1,a0,a1,a2=>
  (M.nl B a0 a1).bind λy2=>
  (idx a0 a1).bind λSI=>
  ((if(ah (SI.1=23))then
  aa (ah (SI.1=23))
  else
  aa (ah (SI.1=24))):Option Bool).bind λj62=>
  (if j62 then
  (idx y2 0).bind λx63=>
  (M.fH B N a0 x63 a2).bind λy64=>
  ((idx a0 a1).bind λx66=>
  (if(ah (x66.1=24))then
  aa 53
  else
  aa 52):Option Int).bind λj65=>
  (bR y64 ([(j65,0)]:List aA.den)).bind λl67=>
  (idx y2 1).bind λx68=>
  (M.fH B N a0 x68 l67).bind λWf=>
  (idx Wf (y64.length:Int)).bind λx70=>
  aa (be Wf (y64.length:Int) (x70.1,(Wf.length:Int)))
  else
  (if(ah (SI.1=26))then
  (idx y2 0).bind λx71=>
  (M.fH B N a0 x71 a2).bind λWg=>
  (bR Wg ([(50,0)]:List aA.den)).bind λl73=>
  (idx y2 1).bind λx74=>
  (M.fH B N a0 x74 l73).bind λWh=>
  (bR Wh ([(51,0)]:List aA.den)).bind λWi=>
  (idx Wi (Wg.length:Int)).bind λx77=>
  (idx y2 2).bind λx78=>
  (M.fH B N a0 x78 (be Wi (Wg.length:Int) (x77.1,(Wi.length:Int)))).bind λWj=>
  (idx Wj (Wh.length:Int)).bind λx80=>
  aa (be Wj (Wh.length:Int) (x80.1,(Wj.length:Int)))
  else
  (Loop (S:=Int×List aA.den) (X:=List aA.den) (λPG=>
  (if(ah (PG.1<(y2.length:Int)))then
  (idx y2 PG.1).bind λagm=>
  (M.fH B N a0 agm PG.2).bind λagn=>
  aa (.inl (aoz.wrap (PG.1+1),agn))
  else
  aa (.inr PG.2))) B (0,a2):Option (List aA.den)).bind λj99=>
  (idx a0 a1).bind λago=>
  (bR j99 ([ago]:List aA.den)).bind λagp=>
  aa agp))
def M.vf(N:Nat)(a0:List aA.den)(a1:Int)(a2:List aA.den):Option (List aA.den):=M.fH N N a0 a1 a2
def S98(N:Nat):rH:=⟨.j1 [.val ag (.own 0), .l (.slice aA), .l aB] [.own 67 aA] 1,⟨[(0, .val ag (.own 1))],[(1, .own 67 aA)],[],2⟩,u3 (M.vf N)⟩
def R98(B N:Nat):rH:={inn:=⟨[(0, .val ag (.own 0)),(1, .l (.slice aA)),(2, .l aB)],[(0, .own 67 aA)],[],1⟩,out:=⟨[(0, .val ag (.own 1))],[(1, .own 67 aA)],[],2⟩,fn:=λ(x:(List aA.den)×Int×List aA.den)=>M.fH B N x.1 x.2.1 x.2.2}
theorem Z3(B:Nat):∀N,kO Tryz.prog 98 (R98 B N)
 |0=>J5 Tryz.func98 (by kernel_rfl) (by kernel_rfl) λ_=>rfl
 |N+1=>fw (en [ck (Z3 B N),ck (afP B)] ag ag) (N:=B) (.o (.o (.two (.o (.two (.meet ⟨[(21, .l .bool)],[],[],161⟩ .nil (.two (.o (.o (.o (.meet ⟨[(9, .l aB)],[],[],337⟩ .nil .nil)))) .nil)) .nil)) (.meet ⟨[(0, .val ag (.own 193))],[(193, .own 67 aA)],[0],194⟩ (.o (.two (.loop ⟨[(0, .val ag (.own 209)),(12, .l aB)],[(209, .own 67 aA)],[0],210⟩ .nil) .nil)) .nil)))) Tryz.func98 (by kernel_rfl) λx=>by kernel_rfl
theorem W98(N:Nat):kO Tryz.prog 98 (S98 N):=Z3 N N
def M.ox(N:Nat)(a0:List aA.den):Option (Int×List aA.den):=
(M.rO N a0).bind λy1=>
(if(!ah (y1.1=0))then
aa (y1.1,([]:List aA.den))
else
(M.vf N a0 (aoz.wrap ((a0.length:Int)-1)) ([]:List aA.den)).bind λy2=>
aa (0,y2))
theorem W56(N:Nat):Fo 56 (.i1 [.l (.slice aA)]) (.j1 [.val ag (.own 0), .l aB] [.own 67 aA] 1) (M.ox N):=fz N [ck (W97 N),ck (W98 N)] .nil Tryz.func56
def M.nZ(N:Nat)(a0:Int):Option Bool:=
((if(ah (50<=a0))then
aa (ah (a0<=53))
else
aa ag):Option Bool).bind λj1=>
aa j1
theorem Z4(N:Nat):Fo 278 (.i1 [.l aB]) (.i1 [.l .bool]) (M.nZ N):=fz N [] (.o (.mb 2 16)) Tryz.func278
def M.mF(N:Nat)(a0:Int):Option Int:=
(if(ah (a0=51))then
aa 0
else
(M.nZ N a0).bind λy1=>
(if y1 then
aa 1
else
((if(ah (a0=23))then
aa af
else
(if(ah (a0=24))then
aa af
else
aa (ah (a0=26)))):Option Bool).bind λj2=>
(if j2 then
aa (-1)
else
(M.fj N a0).bind λy3=>
aa y3)))
theorem Z5(N:Nat):Fo 277 (.i1 [.l aB]) (.i1 [.l aB]) (M.mF N):=fz N [ck (ME N),ck (Z4 N)] (.o (.o (.o (.two (.mb 16 80) .nil)))) Tryz.func277
def M.pL(N:Nat)(a0:aA.den)(a1:Int):Option (Int×Int):=
(if(ah (a0.1=51))then
aa ((-1),a1)
else
(if(ah (a0.1=50))then
aa (aoz.wrap (a1-1),aoz.wrap (a1-1))
else
((if(ah (a0.1=52))then
aa (ah (a0.1=52))
else
aa (ah (a0.1=53))):Option Bool).bind λj1=>
(if j1 then
aa (aoz.wrap (a1-1),a1)
else
(M.mF N a0.1).bind λy2=>
aa (aoz.wrap ((aoz.wrap (a1-y2))+1),(-1)))))
theorem agq(N:Nat):Fo 279 (.i1 [.g aA, .l aB]) (.i1 [.l aB, .l aB]) (u2 (M.pL N)):=fz N [ck (Z5 N)] (.o (.two (.o (.two (.o (.o (.o (.o (.mb 17 144))))) .nil)) .nil)) Tryz.func279
def M.rS(N:Nat)(a0:List aA.den):Option (Int×Int):=
(if(ah (128<(a0.length:Int)))then
aa (0,4)
else
(if(ah ((a0.length:Int)=0))then
aa (0,5)
else
(pw (aoz.wrap ((a0.length:Int)+1)) 0).bind λl1=>
(Loop (S:=Int×List Int) (X:=List Int) (λs3=>
(if(ah (s3.1<=(a0.length:Int)))then
(idx s3.2 s3.1).bind λx4=>
aa (.inl (aoz.wrap (s3.1+1),be s3.2 s3.1 (-1)))
else
aa (.inr s3.2))) N (1,l1):Option (List Int)).bind λj2=>
bx (J:=List Int) (R:=Int×Int) (Loop (S:=Int×List Int) (X:=(List Int)⊕(Int×Int)) (λs6=>
(if(ah (s6.1<(a0.length:Int)))then
bx (J:=List Int) (R:=(Int×List Int)⊕((List Int)⊕(Int×Int))) ((idx s6.2 s6.1).bind λx8=>
(if(ah (x8<0))then
aa (.inl s6.2)
else
(idx a0 s6.1).bind λx9=>
(M.mF N x9.1).bind λnI=>
((if(ah (nI<0))then
aa af
else
(M.nZ N x9.1).bind λpJ=>
(if pJ then
(if(ah (x9.2<=s6.1))then
aa af
else
aa (ah ((a0.length:Int)<x9.2)))
else
aa ag)):Option Bool).bind λsK=>
(if sK then
aa (.inr (.inr (.inr (0,2))))
else
(idx s6.2 s6.1).bind λnK=>
(if(ah (nK<nI))then
aa (.inr (.inr (.inr (0,5))))
else
(idx s6.2 s6.1).bind λqE=>
(M.pL N x9 qE).bind λlv=>
(if(ah (12<lv.1))then
aa (.inr (.inr (.inr (0,16))))
else
bx (J:=List Int) (R:=(List Int)⊕((Int×List Int)⊕((List Int)⊕(Int×Int)))) ((if(ah (0<=lv.1))then
((idx s6.2 (aoz.wrap (s6.1+1))).bind λuN=>
(if(ah (0<=uN))then
(idx s6.2 (aoz.wrap (s6.1+1))).bind λDt=>
aa (!ah (Dt=lv.1))
else
aa ag):Option Bool).bind λRm=>
(if Rm then
aa (.inr (.inr (.inr (.inr (0,9)))))
else
(idx s6.2 (aoz.wrap (s6.1+1))).bind λY7=>
aa (.inl (be s6.2 (aoz.wrap (s6.1+1)) lv.1)))
else
aa (.inl s6.2))) λAO=>
(if(ah (0<=lv.2))then
((idx AO x9.2).bind λSG=>
(if(ah (0<=SG))then
(idx AO x9.2).bind λVZ=>
aa (!ah (VZ=lv.2))
else
aa ag):Option Bool).bind λV0=>
(if V0 then
aa (.inr (.inr (.inr (0,9))))
else
(idx AO x9.2).bind λx24=>
aa (.inl (be AO x9.2 lv.2)))
else
aa (.inl AO))))))) λj7=>
aa (.inl (aoz.wrap (s6.1+1),j7))
else
aa (.inr (.inl s6.2)))) N (0,j2)) λj5=>
(Loop (S:=Int×Int) (X:=Int) (λCb=>
(if(ah (Cb.2<=(a0.length:Int)))then
(idx j5 Cb.2).bind λMD=>
aa (.inl (if Cb.1<MD then MD else Cb.1,aoz.wrap (Cb.2+1)))
else
aa (.inr Cb.1))) N (0,0):Option Int).bind λj25=>
(idx j5 (a0.length:Int)).bind λx28=>
(if(ah (x28<1))then
aa (0,5)
else
(idx j5 (a0.length:Int)).bind λx29=>
(if(ah (1<x29))then
aa (0,4)
else
aa (j25,0)))))
theorem agr(N:Nat):Fo 244 (.i1 [.l (.slice aA)]) (.i1 [.l aB, .l aB]) (M.rS N):=fz N [ck (Z5 N),ck (Z4 N),ck (agq N)] (.o (.o (.o (.o (.meet ⟨[],[(176, .own 3 aB)],[],209⟩ (.o (.two (.loop ⟨[(5, .l aB)],[(176, .own 3 aB)],[],225⟩ .nil) .nil)) (.o (.join ⟨[],[(176, .own 3 aB)],[],226⟩ (.o (.two (.loop ⟨[(7, .l aB)],[(176, .own 3 aB)],[],242⟩ (.o (.two (.join ⟨[],[(176, .own 3 aB)],[],307⟩ (.o (.o (.o (.two (.mb 69 546) (.o (.o (.o (.join ⟨[],[(176, .own 3 aB)],[],851⟩ (.o (.two (.two (.mb 103 882) .nil) .nil)) (.o (.two (.two (.mb 125 883) .nil) .nil)))))))))) .nil) .nil))) .nil)) (.meet ⟨[(6, .l aB)],[],[],226⟩ (.o (.two (.loop ⟨[(6, .l aB),(12, .l aB)],[],[],242⟩ .nil) .nil)) .nil)))))))) Tryz.func244
def M.iY(N:Nat)(a0:List aA.den):Option Bool:=
(M.rS N a0).bind λy1=>
aa (ah (y1.2=0))
theorem WG(N:Nat):Fo 175 (.i1 [.l (.slice aA)]) (.i1 [.l .bool]) (M.iY N):=fz N [ck (agr N)] .nil Tryz.func175
def M.iI(N:Nat)(a0:Int):Option Bool:=
((if(ah (a0=50))then
aa af
else
(if(ah (a0=51))then
aa af
else
(if(ah (a0=52))then
aa af
else
aa (ah (a0=53))))):Option Bool).bind λj1=>
aa j1
theorem PH(N:Nat):Fo 177 (.i1 [.l aB]) (.i1 [.l .bool]) (M.iI N):=fz N [] (.o (.mb 2 16)) Tryz.func177
def M.hZ(N:Nat)(a0:List aA.den):Option (List Bool):=
(pw (aoz.wrap ((a0.length:Int)+1)) ag).bind λl1=>
(idx l1 0).bind λx2=>
Loop (S:=Int×List Bool) (X:=List Bool) (λs3=>
(if(ah (s3.1<(a0.length:Int)))then
((idx s3.2 s3.1).bind λx5=>
(if(!x5)then
aa s3.2
else
((idx a0 s3.1).bind λx7=>
(M.iI N x7.1).bind λy8=>
(if y8 then
(idx a0 s3.1).bind λx9=>
(idx s3.2 x9.2).bind λmj=>
aa (be s3.2 x9.2 af)
else
aa s3.2):Option (List Bool)).bind λj6=>
(idx a0 s3.1).bind λnT=>
(if(!ah (nT.1=51))then
(idx j6 (aoz.wrap (s3.1+1))).bind λqZ=>
aa (be j6 (aoz.wrap (s3.1+1)) af)
else
aa j6)):Option (List Bool)).bind λj4=>
aa (.inl (aoz.wrap (s3.1+1),j4))
else
aa (.inr s3.2))) N (0,be l1 0 af)
theorem ags(N:Nat):Fo 245 (.i1 [.l (.slice aA)]) (.w1 4 .bool) (M.hZ N):=fz N [ck (PH N)] (.o (.o (.o (.two (.o (.two (.loop ⟨[(4, .l aB)],[(64, .own 4 .bool)],[],161⟩ (.o (.two (.meet ⟨[],[(64, .own 4 .bool)],[],226⟩ (.o (.meet ⟨[],[(64, .own 4 .bool)],[],306⟩ .nil .nil)) .nil) .nil))) .nil)) .nil)))) Tryz.func245
def M.po(N:Nat)(a0:List aA.den):Option (List aA.den):=
(M.hZ N a0).bind λy1=>
(Loop (S:=Int×(List Int)×List aA.den) (X:=(List Int)×List aA.den) (λs3=>
(if(ah (s3.1<(a0.length:Int)))then
((bR s3.2.1 ([(s3.2.2.length:Int)]:List Int)).bind λl5=>
((idx y1 s3.1).bind λx7=>
(if x7 then
(idx a0 s3.1).bind λx8=>
(if(!ah (x8.1=51))then
aa af
else
(idx a0 s3.1).bind λx9=>
aa (!ah (x9.2=(aoz.wrap (s3.1+1)))))
else
aa ag):Option Bool).bind λj6=>
(if j6 then
(idx a0 s3.1).bind λmj=>
(bR s3.2.2 ([mj]:List aA.den)).bind λIv=>
aa (l5,Iv)
else
aa (l5,s3.2.2)):Option ((List Int)×List aA.den)).bind λj4=>
aa (.inl (aoz.wrap (s3.1+1),j4.1,j4.2))
else
aa (.inr (s3.2.1,s3.2.2)))) N (0,([]:List Int),([]:List aA.den)):Option ((List Int)×List aA.den)).bind λj2=>
(bR j2.1 ([(j2.2.length:Int)]:List Int)).bind λxO=>
Loop (S:=Int×List aA.den) (X:=List aA.den) (λpA=>
(if(ah (pA.1<(pA.2.length:Int)))then
((idx pA.2 pA.1).bind λub=>
(M.iI N ub.1).bind λzN=>
(if zN then
(idx pA.2 pA.1).bind λyJ=>
(idx xO yJ.2).bind λuN=>
(idx pA.2 pA.1).bind λDt=>
aa (be pA.2 pA.1 (Dt.1,uN))
else
aa pA.2):Option (List aA.den)).bind λAQ=>
aa (.inl (aoz.wrap (pA.1+1),AQ))
else
aa (.inr pA.2))) N (0,j2.2)
theorem agt(N:Nat):Fo 176 (.i1 [.l (.slice aA)]) (.w1 67 aA) (M.po N):=fz N [ck (PH N),ck (ags N)] (.o (.o (.o (.o (.meet ⟨[(4, .val ag (.own 128)),(5, .val ag (.own 129))],[(128, .own 3 aB),(129, .own 67 aA)],[64,96],130⟩ (.o (.two (.loop ⟨[(4, .val ag (.own 144)),(5, .val ag (.own 145)),(6, .l aB)],[(144, .own 3 aB),(145, .own 67 aA)],[64,96],146⟩ (.o (.two (.meet ⟨[(4, .val ag (.own 210)),(5, .val ag (.own 211))],[(210, .own 3 aB),(211, .own 67 aA)],[144,145],212⟩ (.o (.mb 44 306)) .nil) .nil))) .nil)) (.o (.two (.o (.two (.loop ⟨[(7, .l aB)],[(129, .own 67 aA)],[],243⟩ (.o (.two (.meet ⟨[],[(129, .own 67 aA)],[],308⟩ .nil .nil) .nil))) .nil)) .nil))))))) Tryz.func176
def M.fQ(N:Nat)(a0:List aA.den):Option (List aA.den):=
(bR ([]:List aA.den) a0).bind λl1=>
(M.iY N a0).bind λy2=>
(if(!y2)then
aa l1
else
Loop (S:=List aA.den) (X:=List aA.den) (λs3=>
(M.po N s3).bind λy4=>
(if(ah ((y4.length:Int)=(s3.length:Int)))then
aa (.inr y4)
else
aa (.inl y4))) N l1)
theorem W99(N:Nat):Fo 99 (.i1 [.l (.slice aA)]) (.w1 67 aA) (M.fQ N):=fz N [ck (WG N),ck (agt N)] (.o (.o (.o (.two (.loop ⟨[(3, .val ag (.own 128))],[(128, .own 67 aA)],[48],129⟩ .nil) .nil)))) Tryz.func99
def M.jS(N:Nat)(a0:List aA.den):Option (List aA.den):=
(bR ([]:List aA.den) a0).bind λl1=>
(M.iY N a0).bind λy2=>
(if(!y2)then
aa l1
else
Loop (S:=Int×List aA.den) (X:=List aA.den) (λs3=>
(if(ah (s3.1<(s3.2.length:Int)))then
(((idx s3.2 s3.1).bind λx6=>
(M.iI N x6.1).bind λy7=>
(if(!y7)then
aa s3.2
else
(idx a0 s3.1).bind λx8=>
(Loop (S:=Int) (X:=Int) (λpb=>
((if(ah (0<=pb))then
(if(ah (pb<(a0.length:Int)))then
(idx a0 pb).bind λqZ=>
(if(ah (qZ.1=51))then
(idx a0 pb).bind λnK=>
aa (ah (pb<nK.2))
else
aa ag)
else
aa ag)
else
aa ag):Option Bool).bind λsK=>
(if sK then
(idx a0 pb).bind λqE=>
aa (.inl qE.2)
else
aa (.inr pb))) N x8.2:Option Int).bind λj9=>
(idx s3.2 s3.1).bind λub=>
aa (be s3.2 s3.1 (ub.1,j9))):Option (List aA.den)).bind λj5=>
aa j5:Option (List aA.den)).bind λj4=>
aa (.inl (aoz.wrap (s3.1+1),j4))
else
aa (.inr s3.2))) N (0,l1))
theorem agu(N:Nat):Fo 100 (.i1 [.l (.slice aA)]) (.w1 67 aA) (M.jS N):=fz N [ck (WG N),ck (PH N)] (.o (.o (.o (.two (.o (.two (.loop ⟨[(4, .l aB)],[(48, .own 67 aA)],[],145⟩ (.o (.meet ⟨[],[(48, .own 67 aA)],[],210⟩ (.meet ⟨[],[(48, .own 67 aA)],[],210⟩ (.o (.o (.meet ⟨[(5, .l aB)],[],[],417⟩ (.two (.lp 5 417 (.two (.mb 55 417) .nil)) .nil) .nil))) .nil) .nil))) .nil)) .nil)))) Tryz.func100
def M.lQ(N:Nat)(a0:aA.den):Option (aC.den×Bool):=
bx (J:=Unit) (R:=aC.den×Bool) ((if(ah (a0.1=1))then
aa (.inr ((1,(0,a0.2)),af))
else
(if(ah (a0.1=2))then
aa (.inr ((2,(0,a0.2)),af))
else
(if(ah (a0.1=3))then
aa (.inr ((3,(0,a0.2)),af))
else
(if(ah (a0.1=4))then
aa (.inr ((4,(0,a0.2)),af))
else
(if(ah (a0.1=5))then
aa (.inr ((5,(0,a0.2)),af))
else
(if(ah (a0.1=6))then
((if(ah (0<=a0.2))then
aa (ah (a0.2<=127))
else
aa ag):Option Bool).bind λj2=>
(if j2 then
aa (.inr ((6,(aoz.wrap (aoM a0.2 16),aoP a0.2 16)),af))
else
aa (.inl ()))
else
aa (.inl ())))))))) λj1=>
aa ((0,(0,0)),ag)
theorem agv(N:Nat):Fo 280 (.i1 [.g aA]) (.i1 [.g aC, .l .bool]) (M.lQ N):=fz N [] (.o (.two (.o (.join ⟨[],[],[],80⟩ (.o (.o (.o (.o (.o (.o (.o (.o (.o (.o (.o (.two (.mb 40 272) .nil)))))))))))) .nil)) .nil)) Tryz.func280
def M.vg(N:Nat)(a0:aC.den):Option (aA.den):=
(if(ah (a0.1=1))then
aa (1,a0.2.2)
else
(if(ah (a0.1=2))then
aa (2,a0.2.2)
else
(if(ah (a0.1=3))then
aa (3,a0.2.2)
else
(if(ah (a0.1=4))then
aa (4,a0.2.2)
else
(if(ah (a0.1=5))then
aa (5,a0.2.2)
else
aa (6,aoz.wrap ((aoz.wrap (16*a0.2.1))+a0.2.2)))))))
theorem agw(N:Nat):Fo 281 (.i1 [.g aC]) (.i1 [.g aA]) (M.vg N):=fz N [] .nil Tryz.func281
def M.mq(N:Nat)(a0:List aA.den)(a1:Int):Option (aA.den×Int×Bool):=
(idx a0 a1).bind λx1=>
(M.iI N x1.1).bind λy2=>
(if y2 then
aa ((0,0),0,ag)
else
(idx a0 a1).bind λx3=>
(M.fj N x3.1).bind λy4=>
((if(ah (y4<1))then
aa af
else
aa (ah (a1<y4))):Option Bool).bind λj5=>
(if j5 then
aa ((0,0),0,ag)
else
bx (J:=List aC.den) (R:=aA.den×Int×Bool) (Loop (S:=Int×List aC.den) (X:=(List aC.den)⊕(aA.den×Int×Bool)) (λs7=>
(if(ah (s7.1<a1))then
(idx a0 s7.1).bind λx8=>
(M.lQ N x8).bind λy9=>
(if(!y9.2)then
aa (.inr (.inr ((0,0),0,ag)))
else
(bR s7.2 ([y9.1]:List aC.den)).bind λsE=>
aa (.inl (aoz.wrap (s7.1+1),sE)))
else
aa (.inr (.inl s7.2)))) N (aoz.wrap (a1-y4),([]:List aC.den))) λj6=>
bx (J:=Unit) (R:=aA.den×Int×Bool) (Loop (S:=Int) (X:=Unit⊕(aA.den×Int×Bool)) (λnW=>
(if(ah (nW<(a0.length:Int)))then
((idx a0 nW).bind λqE=>
(M.iI N qE.1).bind λlv=>
(if lv then
(idx a0 nW).bind λzM=>
(if(ah ((aoz.wrap (a1-y4))<zM.2))then
(idx a0 nW).bind λyJ=>
aa (ah (yJ.2<=a1))
else
aa ag)
else
aa ag):Option Bool).bind λFK=>
(if FK then
aa (.inr (.inr ((0,0),0,ag)))
else
aa (.inl (aoz.wrap (nW+1))))
else
aa (.inr (.inl ())))) N 0) λsK=>
(idx a0 a1).bind λuN=>
(M.kD N uN j6 (0,(([]:List aC.den),(([]:List aC.den),(([]:List (List aC.den)),(([]:List aA.den),([]:List aP.den))))))).bind λIw=>
(M.vg N Iw.1).bind λNC=>
aa (NC,y4,ah (Iw.2=0))))
theorem agx(N:Nat):Fo 246 (.i1 [.l (.slice aA), .l aB]) (.i1 [.g aA, .l aB, .l .bool]) (u2 (M.mq N)):=fz N [ck (PH N),ck (ME N),ck (agj N),ck (agv N),ck (agw N)] (.o (.o (.o (.two (.mb 34 256) (.o (.join ⟨[(8, .val ag (.own 288))],[(288, .own 71 aC)],[256],289⟩ (.o (.two (.loop ⟨[(8, .val ag (.own 352)),(9, .l aB)],[(352, .own 71 aC)],[256],353⟩ .nil) .nil)) (.join ⟨[],[],[],289⟩ (.o (.two (.lp 12 305 (.o (.two (.two (.mb 91 369) .nil) .nil))) .nil)) .nil))))))) Tryz.func246
def M.n4(N:Nat)(a0:List aA.den):Option ((List aA.den)×Bool):=
Loop (S:=Int) (X:=(List aA.den)×Bool) (λs1=>
(if(ah (s1<(a0.length:Int)))then
bx (J:=Unit) (R:=Int⊕((List aA.den)×Bool)) ((M.mq N a0 s1).bind λy3=>
(if(!y3.2.2)then
aa (.inl ())
else
(fo a0 0 (aoz.wrap (s1-y3.2.1))).bind λl4=>
(bR ([]:List aA.den) l4).bind λl5=>
(bR l5 ([y3.1]:List aA.den)).bind λl6=>
(fo a0 (aoz.wrap (s1+1)) (a0.length:Int)).bind λl7=>
(bR l6 l7).bind λl8=>
(Loop (S:=Int×List aA.den) (X:=List aA.den) (λpb=>
(if(ah (pb.1<(pb.2.length:Int)))then
(((idx pb.2 pb.1).bind λnK=>
(M.iI N nK.1).bind λlz=>
(if lz then
(idx pb.2 pb.1).bind λub=>
aa (ah (s1<ub.2))
else
aa ag):Option Bool).bind λsD=>
(if sD then
(idx pb.2 pb.1).bind λzM=>
(idx pb.2 pb.1).bind λyJ=>
aa (be pb.2 pb.1 (yJ.1,aoz.wrap (zM.2-y3.2.1)))
else
aa pb.2):Option (List aA.den)).bind λsK=>
aa (.inl (aoz.wrap (pb.1+1),sK))
else
aa (.inr pb.2))) N (0,l8):Option (List aA.den)).bind λj9=>
aa (.inr (.inr (j9,af))))) λj2=>
aa (.inl (aoz.wrap (s1+1)))
else
aa (.inr (a0,ag)))) N 0
theorem agy(N:Nat):Fo 178 (.i1 [.l (.slice aA)]) (.i1 [.l (.slice aA), .l .bool]) (M.n4 N):=fz N [ck (PH N),ck (agx N)] (.o (.two (.o (.two (.lp 4 48 (.o (.join ⟨[],[],[],112⟩ (.two (.o (.o (.o (.o (.o (.meet ⟨[],[(608, .own 67 aA)],[],641⟩ (.o (.two (.loop ⟨[(9, .l aB)],[(608, .own 67 aA)],[],657⟩ (.o (.two (.meet ⟨[],[(608, .own 67 aA)],[],722⟩ (.mb 62 721) .nil) .nil))) .nil)) .nil)))))) .nil) .nil))) .nil)) .nil)) Tryz.func178
def M.iO(N:Nat)(a0:List aA.den):Option (List aA.den):=
(bR ([]:List aA.den) a0).bind λl1=>
(M.iY N a0).bind λy2=>
(if(!y2)then
aa l1
else
Loop (S:=(List aA.den)×Bool) (X:=List aA.den) (λs3=>
(if s3.2 then
(M.n4 N s3.1).bind λy4=>
aa (.inl (y4.1,y4.2))
else
aa (.inr s3.1))) N (l1,af))
theorem agz(N:Nat):Fo 101 (.i1 [.l (.slice aA)]) (.i1 [.l (.slice aA)]) (M.iO N):=fz N [ck (WG N),ck (agy N)] (.o (.o (.o (.two (.o (.two (.loop ⟨[(3, .l (.slice aA)),(4, .l .bool)],[],[48],144⟩ .nil) .nil)) .nil)))) Tryz.func101
def M.nw(N:Nat)(a0:List aA.den):Option (List aA.den):=
(M.iO N a0).bind λy1=>
(M.jS N y1).bind λy2=>
(M.fQ N y2).bind λy3=>
aa y3
theorem W57(N:Nat):Fo 57 (.i1 [.l (.slice aA)]) (.w1 67 aA) (M.nw N):=fz N [ck (W99 N),ck (agu N),ck (agz N)] .nil Tryz.func57
def M.n5(N:Nat)(a0:List aA.den):Option (List aA.den):=
(if(ah ((a0.length:Int)=0))then
aa ([]:List aA.den)
else
(M.ox N a0).bind λy1=>
(M.nw N y1.2).bind λy2=>
aa y2)
theorem W29(N:Nat):Fo 29 (.i1 [.l (.slice aA)]) (.w1 67 aA) (M.n5 N):=fz N [ck (W56 N),ck (W57 N)] .nil Tryz.func29
def M.oy(N:Nat)(a0:cQ.den)(a1:Int)(a2:Int):Option ((List bn.den)×Int×(List Int)×(List (List aA.den))×List (List aA.den)):=
(M.om N a0).bind λy1=>
(if(!y1)then
aa (([]:List bn.den),1,([]:List Int),([]:List (List aA.den)),([]:List (List aA.den)))
else
((if(ah (a1<0))then
aa af
else
aa (ah ((a0.2.2.length:Int)<=a1))):Option Bool).bind λj2=>
(if j2 then
aa (([]:List bn.den),6,([]:List Int),([]:List (List aA.den)),([]:List (List aA.den)))
else
((if(ah (a2<0))then
aa af
else
aa (ah (109572<a2))):Option Bool).bind λj3=>
(if j3 then
aa (([]:List bn.den),3,([]:List Int),([]:List (List aA.den)),([]:List (List aA.den)))
else
(idx a0.2.2 a1).bind λx4=>
(M.gP N x4).bind λy5=>
(M.qk N a0 a2).bind λy6=>
(idx y6.2.2 a1).bind λx7=>
(Loop (S:=Int×(List bn.den)×(List Int)×(List (List aA.den))×List (List aA.den)) (X:=(List bn.den)×(List Int)×(List (List aA.den))×List (List aA.den)) (λs9=>
(if(ah (s9.1<(s9.2.1.length:Int)))then
(idx s9.2.1 s9.1).bind λmj=>
(M.n5 N mj.2.2.2.2.2.1).bind λqY=>
(bR s9.2.2.2.1 ([qY]:List (List aA.den))).bind λxO=>
(idx s9.2.1 s9.1).bind λnK=>
(M.n5 N nK.2.2.2.2.2.2.1).bind λlz=>
(bR s9.2.2.2.2 ([lz]:List (List aA.den))).bind λWe=>
aa (.inl (aoz.wrap (s9.1+1),s9.2.1,s9.2.2.1,xO,We))
else
aa (.inr (s9.2.1,s9.2.2.1,s9.2.2.2.1,s9.2.2.2.2)))) N (0,x7.2.2.2.2,y5.2,([]:List (List aA.den)),([]:List (List aA.den))):Option ((List bn.den)×(List Int)×(List (List aA.den))×List (List aA.den))).bind λj8=>
aa (j8.1,0,j8.2.1,j8.2.2.1,j8.2.2.2))))
theorem W12(N:Nat):Fo 12 (.i1 [.g cQ, .l aB, .l aB]) (.j1 [.val af (.pair (.own 0) (.pair (.leaf (.slice bn)) (.pair (.own 1) (.own 2)))), .l aB] [.own 3 aB, .own 68 (.slice aA), .own 68 (.slice aA)] 3) (u3 (M.oy N)):=fz N [ck (W26 N),ck (W27 N),ck (W28 N),ck (W29 N)] (.o (.o (.two (.mb 22 96) (.two (.mb 29 96) (.o (.o (.o (.meet ⟨[],[(112, .box 48 (.pair (.own 224) (.pair (.leaf (.slice bn)) (.pair (.own 480) (.own 481))))),(224, .own 3 aB),(480, .own 68 (.slice aA)),(481, .own 68 (.slice aA))],[],484⟩ (.o (.two (.loop ⟨[(9, .l aB)],[(112, .box 48 (.pair (.own 224) (.pair (.leaf (.slice bn)) (.pair (.own 496) (.own 497))))),(224, .own 3 aB),(496, .own 68 (.slice aA)),(497, .own 68 (.slice aA))],[],500⟩ .nil) .nil)) .nil)))))))) Tryz.func12
def M.ue(N:Nat)(a0:bn.den)(a1:bn.den):Option Bool:=
((if(ah (a0.1=a1.1))then
(if(ah (a0.2.1=a1.2.1))then
(if(ah (a0.2.2.1=a1.2.2.1))then
(if(ah (a0.2.2.2.1=a1.2.2.2.1))then
(if(px aA a0.2.2.2.2.1 a1.2.2.2.2.1)then
(if(ah (a0.2.2.2.2.2.2.2=a1.2.2.2.2.2.2.2))then
(M.mn N a0.2.2.2.2.2.1 a1.2.2.2.2.2.1).bind λy2=>
(if y2 then
(M.mn N a0.2.2.2.2.2.2.1 a1.2.2.2.2.2.2.1).bind λy3=>
aa y3
else
aa ag)
else
aa ag)
else
aa ag)
else
aa ag)
else
aa ag)
else
aa ag)
else
aa ag):Option Bool).bind λj1=>
aa j1
theorem W58(N:Nat):Fo 58 (.i1 [.g bn, .g bn]) (.i1 [.l .bool]) (u2 (M.ue N)):=fz N [ck (W16 N)] (.o (.mb 4 48)) Tryz.func58
def M.rT(N:Nat)(a0:List bn.den)(a1:List bn.den):Option Bool:=
(if(!ah ((a0.length:Int)=(a1.length:Int)))then
aa ag
else
Loop (S:=Int) (X:=Bool) (λs1=>
((if(ah (s1<(a0.length:Int)))then
aa (ah (s1<(a1.length:Int)))
else
aa ag):Option Bool).bind λj2=>
(if j2 then
(idx a0 s1).bind λx3=>
(idx a1 s1).bind λx4=>
(M.ue N x3 x4).bind λy5=>
(if(!y5)then
aa (.inr ag)
else
aa (.inl (aoz.wrap (s1+1))))
else
aa (.inr af))) N 0)
theorem W30(N:Nat):Fo 30 (.i1 [.l (.slice bn), .l (.slice bn)]) (.i1 [.l .bool]) (u2 (M.rT N)):=fz N [ck (W58 N)] (.o (.o (.two (.o (.two (.lp 5 112 (.two (.mb 20 112) .nil)) .nil)) .nil))) Tryz.func30
def M.pM(N:Nat)(a0:List (List aA.den))(a1:List (List aA.den)):Option Bool:=
(if(!ah ((a0.length:Int)=(a1.length:Int)))then
aa ag
else
Loop (S:=Int) (X:=Bool) (λs1=>
((if(ah (s1<(a0.length:Int)))then
aa (ah (s1<(a1.length:Int)))
else
aa ag):Option Bool).bind λj2=>
(if j2 then
(idx a0 s1).bind λx3=>
(idx a1 s1).bind λx4=>
(M.mn N x3 x4).bind λy5=>
(if(!y5)then
aa (.inr ag)
else
aa (.inl (aoz.wrap (s1+1))))
else
aa (.inr af))) N 0)
theorem W31(N:Nat):Fo 31 (.i1 [.l (.slice (.slice aA)), .l (.slice (.slice aA))]) (.i1 [.l .bool]) (u2 (M.pM N)):=fz N [ck (W16 N)] (.o (.o (.two (.o (.two (.lp 5 112 (.two (.mb 20 112) .nil)) .nil)) .nil))) Tryz.func31
def M.lc(N:Nat)(a0:pI.den)(a1:pI.den):Option Bool:=
((M.ud N a0.1 a1.1).bind λy2=>
(if y2 then
(M.rT N a0.2.1 a1.2.1).bind λy3=>
(if y3 then
(M.pM N a0.2.2.1 a1.2.2.1).bind λy4=>
(if y4 then
(M.pM N a0.2.2.2 a1.2.2.2).bind λy5=>
aa y5
else
aa ag)
else
aa ag)
else
aa ag):Option Bool).bind λj1=>
aa j1
theorem W13(N:Nat):Fo 13 (.i1 [.g pI, .g pI]) (.i1 [.l .bool]) (u2 (M.lc N)):=fz N [ck (W23 N),ck (W30 N),ck (W31 N)] (.o (.mb 4 48)) Tryz.func13
def M.jM(N:Nat)(a0:cQ.den)(a1:Int)(a2:Int):Option Bool:=
(M.oh N a0).bind λy1=>
(if(!y1)then
(M.oI N).bind λy2=>
aa y2
else
(M.gr N a0 a1 a2).bind λy3=>
(M.oy N a0 a1 a2).bind λy4=>
((M.lc N (y3.2.2.1,(y3.1,(y3.2.2.2.1,y3.2.2.2.2))) (y4.2.2.1,(y4.1,(y4.2.2.2.1,y4.2.2.2.2)))).bind λy6=>
(if y6 then
(if(ah (y3.2.1=y4.2.1))then
(M.oI N).bind λy7=>
aa y7
else
aa ag)
else
aa ag):Option Bool).bind λj5=>
aa j5)
theorem W4(N:Nat):Fo 4 (.i1 [.g cQ, .l aB, .l aB]) (.i1 [.l .bool]) (u3 (M.jM N)):=fz N [ck (W5 N),ck (W7 N),ck (W11 N),ck (W12 N),ck (W13 N)] (.o (.o (.o (.o (.mb 6 400))))) Tryz.func4
end
end
section
theorem aE{n:Int}(h0: -9223372036854775808<=n)(h1:n<=9223372036854775807):aoz.wrap n=n:=by
 simp[IntKind.wrap,IntKind.bits,IntKind.signed];omega
theorem aD{α:Type}{l:List α}{k:Nat}(h:k<l.length):idx l (k:Int)=aa l[k]:=by
 grind [idx]
theorem bF{α:Type}{l m:List α}(h:l.length+m.length<=4294967296):bR l m=aa (l++m):=aj h
theorem Cc{S X:Type}{body:S->Option (S⊕X)}(I:S->Prop)(μ:S->Nat)(Q:X->Prop)
 (step:∀s,I s->(∃s',body s=aa (.inl s')/\I s'/\μ s'<μ s)\/∃x,body s=aa (.inr x)/\Q x):
 ∀N s,I s->μ s<N->∃x,Loop body N s=aa x/\Q x
 |0,_,_,h=>absurd h (by omega)
 |N+1,s,hi,aJ=>by
  rcases step s hi with⟨s',hb,gh,hm⟩|⟨x,hb,hq⟩
  .obtain⟨x,hx,hq⟩:=Cc I μ Q step N s' gh (by omega)
   grind [Loop]
  grind [Loop]
theorem Iz{S X:Type}{body:S->Option (S⊕X)}(st:Nat->S){x:X}(m:Nat)(hs:∀i,i<m->body (st i)=aa (.inl (st (i+1))))(he:body (st m)=aa (.inr x)){N:Nat}(hN:m<N):Loop body N (st 0)=aa x:=by
 have:∀k i N,i+k=m->k<N->Loop body N (st i)=aa x:=by
  intro k
  induction k with
  |zero=>rintro i (_|N) hi hN;all_goals grind [Loop]
  |succ k ih=>
   rintro i (_|N) hi hN
   all_goals grind [Loop]
 grind
theorem yK{S X:Type}{body:S->Option (S⊕X)}{N:Nat}{s0:S}(st:Nat->S)(m:Nat)(x:X)(h0:s0=st 0)(hs:∀i,i<m->body (st i)=aa (.inl (st (i+1))))(he:body (st m)=aa (.inr x))(hN:m<N):Loop body N s0=aa x:=by
 rw[h0];exact Iz st m hs he hN
def aG:Nat:=18446744073709551616
section
variable {α:Type}
end
end
end Go.Proofs.YtfjgcenlllgonaaGreatDoor
section
open _root_.Bool renaming false->ag,true->af,false_eq_true->aoC,not_false->apd,not_true->aoX
open _root_.Option renaming none->ae,some->aa,bind_none->aqe,bind_some->aoy,some->aqv
open _root_.Classical renaming not_not->ap3
open _root_.Go.IntKind renaming i64->aoz
open _root_.List renaming replicate->aoE,take_length->ao3
open _root_.Nat renaming lt_or_ge->aph,zero_le->aoR
open _root_.Sum renaming inr->aoV
namespace Go.Proofs.YtfjgcenlllgonaaGreatDoor
open Go Go.RowKit
def Wp{α:Type}(m:Option α)(Q:α->Prop):Prop:=∃x,m=aa x/\Q x
theorem Wp.some{α:Type}{x:α}{Q:α->Prop}(h:Q x):Wp (aa x) Q:=⟨x,rfl,h⟩
theorem Wp.of{α:Type}{m:Option α}{x:α}{Q:α->Prop}(e:m=aqv x)(h:Q x):Wp m Q:=⟨x,e,h⟩
theorem Wp.eq{α:Type}{m:Option α}{x:α}(h:Wp m (· =x)):m=aqv x:=by obtain⟨y,e,rfl⟩:=h;exact e
theorem Wp.mono{α:Type}{m:Option α}{Q Q':α->Prop}(h:Wp m Q)(hq:∀x,Q x->Q' x):Wp m Q':=by obtain⟨x,e,h⟩:=h;exact⟨x,e,hq x h⟩
theorem Wp.bind{α β:Type}{m:Option α}{k:α->Option β}{Q:β->Prop}(h:Wp m λx=>Wp (k x) Q):Wp (m.bind k) Q:=by
 obtain⟨x,e,h⟩:=h;rw[e];exact h
theorem Wp.IA{α β:Type}{m:Option α}{k:α->Option β}{Q:β->Prop}{x:α}(e:m=aqv x)(h:Wp (k x) Q):Wp (m.bind k) Q:=by
 rw[e];exact h
theorem Wp.seq{α β:Type}{m:Option α}{k:α->Option β}{Q:β->Prop}(A:α->Prop)(h:Wp m A)(hk:∀x,A x->Wp (k x) Q):Wp (m.bind k) Q:= .bind (h.mono hk)
theorem Wp.map{α β:Type}{m:Option α}{f:α->β}{Q:β->Prop}(h:Wp m λx=>Q (f x)):Wp (m.map f) Q:=by
 obtain⟨x,e,h⟩:=h;rw[e];exact⟨_,rfl,h⟩
theorem Wp.ite{α:Type}{c:Prop}[Decidable c]{a b:Option α}{Q:α->Prop}(ha:c->Wp a Q)(hb:¬c->Wp b Q):Wp (if c then a else b) Q:=by
 grind
theorem Wp.dec{α:Type}{c:Prop}[Decidable c]{a b:Option α}{Q:α->Prop}(ha:c->Wp a Q)(hb:¬c->Wp b Q):Wp (if decide c=af then a else b) Q:=by
 grind
theorem Wp.uA{α:Type}{c:Prop}[Decidable c]{a b:Option α}{Q:α->Prop}(ha:¬c->Wp a Q)(hb:c->Wp b Q):Wp (if(!decide c)=af then a else b) Q:=by
 grind
def xP{J R:Type}(k:J->Option R)(Q:R->Prop):J⊕R->Prop
 | .inl j=>Wp (k j) Q
 | .inr r=>Q r
theorem Wp.join{J R:Type}{m:Option (J⊕R)}{k:J->Option R}{Q:R->Prop}(h:Wp m (xP k Q)):Wp (bx m k) Q:=by
 obtain⟨x,e,h⟩:=h;unfold bx;rw[e]
 cases x with
 |inl j=>exact h
 |inr r=>exact⟨r,rfl,h⟩
def FL{S X:Type}(I:S->Prop)(μ:S->Nat)(s:S)(Q:X->Prop):S⊕X->Prop
 | .inl s'=>I s'/\μ s'<μ s
 | .inr x=>Q x
theorem Wp.loop{S X:Type}{body:S->Option (S⊕X)}{N:Nat}{s0:S}{Q:X->Prop}(I:S->Prop)(μ:S->Nat)(h0:I s0)(hN:μ s0<N)(step:∀s,I s->Wp (body s) (FL I μ s Q)):Wp (Loop body N s0) Q:=
 Cc I μ Q (λs hs=>by
  obtain⟨x,e,h⟩:=step s hs
  cases x with
  |inl s'=>exact .inl ⟨s',e,h⟩
  |inr x=>exact .inr ⟨x,e,h⟩) N s0 h0 hN
theorem Wp.idx{α:Type}{l:List α}{i:Int}{Q:α->Prop}(k:Nat)(hi:i=k)(hk:k<l.length)(h:Q l[k]):Wp (idx l i) Q:=by
 subst hi;exact⟨_,aD hk,h⟩
theorem Wp.app{α:Type}{l m:List α}{Q:List α->Prop}(hl:l.length+m.length<=4294967296)(h:Q (l++m)):Wp (bR l m) Q:=⟨_,bF hl,h⟩
theorem rU{α:Type}{l:List α}{i j:Int}(a b:Nat)(hi:i=a)(hj:j=b)(h:a<=b)(hb:b<=l.length):fo l i j=aqv ((l.take b).drop a):=by
 grind [fo]
theorem Wp.cut{α:Type}{l:List α}{i j:Int}{Q:List α->Prop}(a b:Nat)(hi:i=a)(hj:j=b)(h:a<=b)(hb:b<=l.length)(hq:Q ((l.take b).drop a)):Wp (fo l i j) Q:=⟨_,rU a b hi hj h hb,hq⟩
theorem mG{α:Type}{l:List α}{b:Nat}(hb:b<=l.length):fo l 0 (b:Int)=aqv (l.take b):=by
 have:=rU (l:=l) 0 b rfl rfl (aoR _) hb
 grind
theorem aL{k:Nat}(h:k<9223372036854775807):aoz.wrap ((k:Int)+1)=((k+1:Nat):Int):=by rw[aE]<;>omega
theorem FM{k:Nat}(h:k<=9223372036854775807):aoz.wrap (k:Int)=(k:Int):=by rw[aE]<;>omega
end Go.Proofs.YtfjgcenlllgonaaGreatDoor
namespace Go.Proofs.YtfjgcenlllgonaaGreatDoor
open Go Go.RowKit
section
variable {α β:Type}
theorem mf{x:α}{Q:α->Prop}:Wp (aa x) Q↔Q x:=⟨λ⟨y,e,h⟩=>by grind,λh=>⟨x,rfl,h⟩⟩
theorem vX{Q:α->Prop}:Wp (ae:Option α) Q↔False:=⟨λ⟨y,e,h⟩=>(by cases e),False.elim⟩
theorem wp_bind{m:Option α}{k:α->Option β}{Q:β->Prop}:Wp (m.bind k) Q↔Wp m λx=>Wp (k x) Q:=by
 cases m with
 |none=>simp only[aqe,vX]
 |some x=>simp only[aoy,mf]
theorem PI{c:Prop}[Decidable c]{a b:Option α}{Q:α->Prop}:Wp (if c then a else b) Q↔(c->Wp a Q)/\(¬c->Wp b Q):=by
 grind
theorem PJ{c:Prop}[Decidable c]{a b:Option α}{Q:α->Prop}:Wp (if decide c=af then a else b) Q↔(c->Wp a Q)/\(¬c->Wp b Q):=by
 grind
theorem Kd{c:Prop}[Decidable c]{a b:Option α}{Q:α->Prop}:Wp (if(!decide c)=af then a else b) Q↔(¬c->Wp a Q)/\(c->Wp b Q):=by
 grind
theorem PK{c:Bool}{a b:Option α}{Q:α->Prop}:Wp (if(!c)=af then a else b) Q↔(c=ag->Wp a Q)/\(c=af->Wp b Q):=by
 grind
theorem wp_map{m:Option α}{f:α->β}{Q:β->Prop}:Wp (m.map f) Q↔Wp m λx=>Q (f x):=by
 cases m with
 |none=>simp only[Option.map_none,vX]
 |some x=>simp only[Option.map_some,mf]
theorem yL{J R:Type}{m:Option (J⊕R)}{k:J->Option R}{Q:R->Prop}:Wp (bx m k) Q↔Wp m (xP k Q):=by
 cases m with
 |none=>exact⟨λ⟨_,e,_⟩=>(by cases e),λ⟨_,e,_⟩=>(by cases e)⟩
 |some s=>cases s with
  |inl j=>rw[mf];exact Iff.rfl
  |inr r=>exact(mf (x:=r)).trans (mf (x:=aoV r) (Q:=xP k Q)).symm
theorem Cf{J R:Type}{k:J->Option R}{Q:R->Prop}{j:J}:xP k Q (.inl j)=Wp (k j) Q:=rfl
theorem Cg{J R:Type}{k:J->Option R}{Q:R->Prop}{r:R}:xP k Q (.inr r)=Q r:=rfl
theorem ee{l:List α}{i:Int}{Q:α->Prop}:Wp (idx l i) Q↔∃h:0<=i/\i<(l.length:Int),Q (l[i.toNat]'(by omega)):=by
 by_cases h:0<=i/\i<(l.length:Int)
 .grind [idx,mf]
 .refine⟨λ⟨y,e,_⟩=>?_,λg=>absurd g.1 h⟩
  grind [jv]
theorem ql{s:ByteArray}{i:Int}{Q:Int->Prop}:Wp (lj s i) Q↔∃h:0<=i/\i<(s.size:Int),Q ((s[i.toNat]'(by omega)).toNat:Int):=by
 unfold lj;rw[wp_map];by_cases h:0<=i/\i<(s.size:Int)
 .grind [mf]
 .refine⟨λ⟨y,e,_⟩=>?_,λg=>absurd g.1 h⟩
  grind
theorem lB{l m:List α}{Q:List α->Prop}:Wp (bR l m) Q↔l.length+m.length<=4294967296/\Q (l++m):=by
 grind [bR,mf,vX]
theorem wp_cut{l:List α}{i j:Int}{Q:List α->Prop}:Wp (fo l i j) Q↔(0<=i/\i<=j/\j<=l.length)/\Q ((l.take j.toNat).drop i.toNat):=by
 grind [fo,mf,vX]
theorem zP{m:Int}{z:α}{Q:List α->Prop}:Wp (pw m z) Q↔(0<=m/\m<=4294967296)/\Q (aoE m.toNat z):=by
 grind [pw,mf,vX]
theorem PL{m:Option α}{x:α}:Wp m (· =x)↔m=aa x:=⟨λ⟨_,e,h⟩=>h▸e,λe=>⟨x,e,rfl⟩⟩
theorem Wp.and{m:Option α}{P Q:α->Prop}(h:Wp m P)(g:Wp m Q):Wp m λx=>P x/\Q x:=by
 obtain⟨x,e,h⟩:=h;obtain⟨y,e',g⟩:=g;rw[e]at e';cases e';exact⟨x,e,h,g⟩
theorem Wp.getD{m:Option α}{Q:α->Prop}(h:Wp m Q)(d:α):m=aqv (m.getD d)/\Q (m.getD d):=by
 obtain⟨x,e,h⟩:=h
 grind
end
def IB{S X:Type}(vY:S->Int)(m k:Nat)(J:Nat->S->Prop)(Q:X->Prop):S⊕X->Prop
 | .inl s=>k<m/\vY s=((k+1:Nat):Int)/\J (k+1) s
 | .inr x=>Q x
theorem aQ{S X:Type}{vY:S->Int}{m k:Nat}{J:Nat->S->Prop}{Q:X->Prop}{s:S}:IB vY m k J Q (.inl s)=(k<m/\vY s=((k+1:Nat):Int)/\J (k+1) s):=rfl
theorem aO{S X:Type}{vY:S->Int}{m k:Nat}{J:Nat->S->Prop}{Q:X->Prop}{x:X}:IB vY m k J Q (.inr x)=Q x:=rfl
theorem Wp.count{S X:Type}{body:S->Option (S⊕X)}{s0:S}{Q:X->Prop}(vY:S->Int)(m:Nat)(J:Nat->S->Prop)(hm:m<=9223372036854775807)(h0:vY s0=0)(hJ:J 0 s0)
 (step:∀k s,k<=m->vY s=(k:Int)->J k s->Wp (body s) (IB vY m k J Q)):Wp (Loop body aG s0) Q:=by
 refine Wp.loop (λs=>∃k:Nat,vY s=k/\k<=m/\J k s) (λs=>m-(vY s).toNat) ⟨0,h0,aoR _,hJ⟩ (by unfold aG;omega) λs hs=>?_
 obtain⟨k,hi,hk,hj⟩:=hs
 refine(step k s hk hi hj).mono λr hr=>?_
 cases r with
 |inl s'=>
  obtain⟨h1,h2,h3⟩:=hr;exact⟨⟨k+1,h2,h1,h3⟩,by grind⟩
 |inr x=>exact hr
theorem bX{k:Nat}{m:Nat}(hm:m<=9223372036854775807)(h:k<m):aoz.wrap ((k:Int)+1)=((k+1:Nat):Int):=aL (by omega)
theorem dW{k m:Nat}(h:k<m):decide ((k:Int)<(m:Int))=af:=ao (by omega)
theorem tg{k m:Nat}(h:k<m):((k:Int)<(m:Int))=True:=eq_true (by omega)
theorem dB{m:Nat}:((m:Int)<(m:Int))=False:=eq_false (by omega)
def cF{α:Type}(f:Nat->Option α):Nat->Option α
 |0=>ae
 |m+1=>(cF f m).or (f m)
theorem bC{α:Type}{f:Nat->Option α}:∀{m:Nat},cF f m=ae↔∀k,k<m->f k=ae
 |0=>by simp[cF]
 |m+1=>by
  rw[cF,Option.or_eq_none_iff,bC]
  grind
theorem gm{α:Type}{f:Nat->Option α}{x:α}:∀{m:Nat},cF f m=aa x->∃k,k<m/\f k=aa x/\∀j,j<k->f j=ae
 |0,h=>by cases h
 |m+1,h=>by
  rw[cF]at h
  cases e:cF f m with
  |none=>grind [bC]
  |some y=>
   rw[e]at h;cases h;obtain⟨k,hk,h1,h2⟩:=gm e
   grind
theorem cU{α:Type}{f:Nat->Option α}{x:α}{k:Nat}(hx:f k=aa x)(hn:∀j,j<k->f j=ae):∀{m:Nat},k<m->cF f m=aa x
 |0,h=>by omega
 |m+1,h=>by
  rw[cF]
  rcases Nat.lt_succ_iff_lt_or_eq.1 h with h1|rfl
  .rw[cU hx hn h1];rfl
  .rw[bC.2 hn];exact hx
theorem Wp.first{S X Y:Type}{body:S->Option (S⊕X)}{s0:S}{Q:X->Prop}(vY:S->Int)(m:Nat)(f:Nat->Option Y)(hm:m<=9223372036854775807)(h0:vY s0=0)
 (h1:∀k s,k<m->vY s=(k:Int)->(∀j,j<k->f j=ae)->Wp (body s) λr=>(f k=ae/\∃s',r= .inl s'/\vY s'=((k+1:Nat):Int))\/∃x y,r= .inr x/\f k=aqv y/\(cF f m=aqv y->Q x))
 (he:∀s,vY s=(m:Int)->(cF f m=ae)->Wp (body s) λr=>∃x,r= .inr x/\Q x):Wp (Loop body aG s0) Q:=by
 refine Wp.count vY m (λk _=>∀j,j<k->f j=ae) hm h0 (λj h=>by omega) λk s hk hs hJ=>?_
 rcases aph k m with aJ|hge
 .refine(h1 k s aJ hs hJ).mono λr hr=>?_
  rcases hr with⟨hn,s',rfl,h2⟩|⟨x,y,rfl,h2,h3⟩
  .exact⟨aJ,h2,λj hj=>by grind⟩
  .exact h3 (cU h2 hJ aJ)
 .obtain rfl:k=m:=by omega
  exact(he s hs (bC.2 hJ)).mono λr hr=>by obtain⟨x,rfl,h⟩:=hr;exact h
def UJ{S X C:Type}(vY:S->Int)(acc:S->C)(k:Nat)(c:C)(I:Nat->C->Prop):S⊕X->Prop
 | .inl s=>vY s=((k+1:Nat):Int)/\acc s=c/\I (k+1) c
 | .inr _=>False
def UK{S X:Type}(Q:X->Prop):S⊕X->Prop
 | .inl _=>False
 | .inr x=>Q x
theorem n6{S X C:Type}{vY:S->Int}{acc:S->C}{k:Nat}{c:C}{I:Nat->C->Prop}{s:S}:UJ (X:=X) vY acc k c I (.inl s)=(vY s=((k+1:Nat):Int)/\acc s=c/\I (k+1) c):=rfl
theorem n7{S X:Type}{Q:X->Prop}{x:X}:UK (S:=S) Q (.inr x)=Q x:=rfl
theorem Wp.fold{S X C α:Type}{body:S->Option (S⊕X)}{s0:S}{Q:X->Prop}(vY:S->Int)(acc:S->C)(l:List α)(F:C->α->C)(c0:C)(I:Nat->C->Prop)(hm:l.length<=9223372036854775807)(h0:vY s0=0)(hc:acc s0=c0)(hI:I 0 c0)
 (step:∀k s(h:k<l.length),vY s=(k:Int)->I k (acc s)->Wp (body s) (UJ vY acc k (F (acc s) l[k]) I))
 (fin:∀s,vY s=(l.length:Int)->acc s=l.foldl F c0->I l.length (acc s)->Wp (body s) (UK Q)):Wp (Loop body aG s0) Q:=by
 refine Wp.count vY l.length (λk s=>acc s=(l.take k).foldl F c0/\I k (acc s)) hm h0 ⟨by rw[hc];rfl,hc▸hI⟩ λk s hk hs hJ=>?_
 rcases aph k l.length with aJ|hge
 .refine(step k s aJ hs hJ.2).mono λr hr=>?_
  cases r with
  |inl s'=>
   obtain⟨h1,h2,h3⟩:=hr;refine⟨aJ,h1,?_,h2▸h3⟩
   grind [List.take_append_getElem]
  |inr x=>exact hr.elim
 .obtain rfl:k=l.length:=by omega
  rw[ao3]at hJ
  refine(fin s hs hJ.1 hJ.2).mono λr hr=>?_
  cases r with
  |inl s'=>exact hr.elim
  |inr x=>exact hr
theorem W_:type_of% @ap3/\type_of% @mf/\type_of% @wp_bind/\type_of% @PJ/\type_of% @Kd/\type_of% @PK/\type_of% @PI/\type_of% @yL/\type_of% @Cf/\type_of% @Cg/\type_of% @if_true.{1}/\type_of% @if_false.{1}/\type_of% @ite_true.{1}/\type_of% @ite_false.{1}/\type_of% @aoC/\type_of% @Bool.true_eq_false/\type_of% @decide_true/\type_of% @decide_false/\type_of% @decide_eq_decide/\type_of% @true_eq_decide_iff/\type_of% @false_eq_decide_iff/\type_of% @ax/\type_of% @az/\type_of% @true_implies/\type_of% @false_implies/\type_of% @and_true/\type_of% @true_and/\type_of% @and_false/\type_of% @false_and/\type_of% @or_true/\type_of% @true_or/\type_of% @or_false/\type_of% @false_or/\type_of% @not_true_eq_false/\type_of% @not_false_eq_true/\type_of% @aoX/\type_of% @apd/\type_of% @Bool.not_eq_true/\type_of% @Bool.not_eq_false/\type_of% @Bool.not_eq_eq_eq_not:=
 ⟨@ap3,@mf,@wp_bind,@PJ,@Kd,@PK,@PI,@yL,@Cf,@Cg,@if_true.{1},@if_false.{1},@ite_true.{1},@ite_false.{1},@aoC,@Bool.true_eq_false,@decide_true,@decide_false,@decide_eq_decide,@true_eq_decide_iff,@false_eq_decide_iff,@ax,@az,@true_implies,@false_implies,@and_true,@true_and,@and_false,@false_and,@or_true,@true_or,@or_false,@false_or,@not_true_eq_false,@not_false_eq_true,@aoX,@apd,@Bool.not_eq_true,@Bool.not_eq_false,@Bool.not_eq_eq_eq_not⟩
end Go.Proofs.YtfjgcenlllgonaaGreatDoor
end
namespace Go.Proofs.YtfjgcenlllgonaaGreatDoor
open Go Go.RowKit
set_option maxRecDepth 100000
set_option linter.unusedSimpArgs false
set_option linter.unusedVariables false
set_option linter.defProp false
namespace L
abbrev Ty:Type:=aA.den
abbrev dR(l:List Nat):List Int:=l.map (λn:Nat=>(n:Int))
def ar(op:Int):Int:=
 if(1<=op/\op<=9)\/(35<=op/\op<=39)then 0 else if op=10\/op=25\/(31<=op/\op<=34)then 1 else if(11<=op/\op<=24)\/(27<=op/\op<=30)then 2 else if op=26 then 3 else-1
theorem kE(op:Int):ar op<=3:=by unfold ar;omega
def rr(a:Int)(i:Nat)(sk:List Nat):Nat:=if a=0 then i else sk.getD (sk.length-a.toNat) 0
def iN:List Ty->Nat->List Nat->List Nat->(Nat×Int)⊕(List Nat×List Nat)
 |[],_,st,sk=> .inr (st,sk)
 |n::e,i,st,sk=>
  if ar n.1<0 then .inl (i,2)else if(sk.length:Int)<ar n.1 then .inl (i,5)else
  if 12<sk.length-(ar n.1).toNat+1 then .inl (i,16)else iN e (i+1) (st++[rr (ar n.1) i sk]) (sk.take (sk.length-(ar n.1).toNat)++[rr (ar n.1) i sk])
def pV(e:List Ty):Int×Int×List Int:=
 if 48<e.length then(0,4,[])else if e.length=0 then(0,5,[])else match iN e 0 [] []with
  | .inl (i,c)=>(i,c,[])
  | .inr (st,sk)=>if 1<sk.length then(e.length,4,[])else(0,0,dR st)
def oY(t:Ty)(n:Nat):Prop:=(1<=(t.1:Int)/\(t.1:Int)<=5/\(t.2:Int)=0)\/((t.1:Int)=6/\0<=(t.2:Int)/\(t.2:Int)<n)
instance(t:Ty)(n:Nat):Decidable (oY t n):=by unfold oY;infer_instance
def VR(r:Ty):Prop:=0<=(r.1:Int)/\(r.1:Int)<=r.2/\(r.2:Int)<=109573
instance(r:Ty):Decidable (VR r):=by unfold VR;infer_instance
theorem Ke(a b:Ty):px aA a b=decide (a=b):=by
 grind [px]
end L
section
namespace L
abbrev En:Type:=bA.den
abbrev xQ:Type:=aP.den
abbrev Rw:Type:=dM.den
abbrev Fd:Type:=bi.den
abbrev Lw:Type:=cQ.den
abbrev kF:Type:=aU.den
abbrev jC:Type:=bn.den
theorem zQ(c:Int):M.oJ aG c=aa (decide (97<=c/\c<=122)):=by
 apply Wp.eq;unfold M.oJ;simp only[W_,au,av,reduceCtorEq];omega
theorem PM(c:Int):M.qf aG c=aa (decide (48<=c/\c<=57)):=by
 apply Wp.eq;unfold M.qf;simp only[W_,au,av,reduceCtorEq];omega
theorem Kf(c:Int):M.rN aG c=aa (decide ((97<=c/\c<=122)\/(48<=c/\c<=57)\/c=95)):=by
 apply Wp.eq;unfold M.rN;simp only[zQ,PM,W_,au,av,reduceCtorEq];omega
theorem FN:∃l,M.iU aG=aa l/\l.length<=100:=⟨(M.iU aG).getD [],by kernel_rfl,by decide+kernel⟩
noncomputable def mr(s:ByteArray):Bool:=(M.b7 aG s).getD ag
theorem vZ(s:ByteArray):M.b7 aG s=aa (mr s):=by
 obtain⟨l,el,hl⟩:=FN;refine(Wp.getD (Q:=λ_=>True) ?_ ag).1;unfold M.b7;simp only[zQ,Kf,el,W_,au,av,reduceCtorEq];intro h0 Kg;refine ql.2 ⟨by omega,λ_=>?_⟩
 refine Wp.count (λs=>s) s.size (λ_ _=>True) (by omega) rfl trivial λk c hk hs _=>?_
 obtain rfl:c=_:=hs;simp only[W_,au,av,reduceCtorEq,aQ,aO];refine⟨λaJ=>ql.2 ⟨by omega,λ_=>⟨by omega,aL (by omega)⟩⟩,λhge=>?_⟩
 refine Wp.count (λs=>s) l.length (λ_ _=>True) (by omega) rfl trivial λk c hk hs _=>?_
 obtain rfl:c=_:=hs;simp only[W_,au,av,reduceCtorEq,aQ,aO]
 exact λaJ=>ee.2 ⟨by omega,λ_=>⟨by omega,aL (by omega)⟩⟩
def eB{β:Type}(l:List (ByteArray×β))(nm:ByteArray):Prop:=∃x∈l,x.1=nm
noncomputable instance{β:Type}(l:List (ByteArray×β))(nm:ByteArray):Decidable (eB l nm):=apU _
noncomputable instance(m:ByteArray)(l:List ByteArray):Decidable (m∈l):=apU _
theorem Dv{β:Type}{l:List (ByteArray×β)}{nm:ByteArray}:eB l nm↔∃k,∃h:k<l.length,l[k].1=nm:=by
 grind [eB,aoS]
theorem n8{β:Type}{l:List (ByteArray×β)}{nm:ByteArray}{m:Nat}:eB (l.take m) nm↔∃k,∃h:k<l.length,k<m/\l[k].1=nm:=by
 rw[Dv];constructor
 all_goals grind
theorem ef{p:Nat->Prop}{k:Nat}(h:∀j,j<k->p j)(hk:p k):∀j,j<k+1->p j:=(by grind)
open Classical in
theorem rV(a:Lw)(sec:Int)(m:Nat)(nm:ByteArray)(hw:a.1.length<=maxLen/\a.2.1.length<=maxLen/\a.2.2.length<=maxLen):
 M.et aG a sec (m:Int) nm=aa (decide ((∃k,∃h:k<a.1.length,(1<sec\/k<m)/\(a.1[k].1:ByteArray)=nm)\/(∃k,∃h:k<a.2.1.length,(2<sec\/sec=2/\k<m)/\(a.2.1[k].1:ByteArray)=nm)\/∃k,∃h:k<a.2.2.length,(sec=3/\k<m)/\(a.2.2[k].1:ByteArray)=nm)):=by
 unfold maxLen at hw;apply Wp.eq;unfold M.et;simp only[yL]
 refine Wp.count (λs=>s) a.1.length (λk _=>∀j,j<k->∀h:j<a.1.length,¬((1<sec\/j<m)/\(a.1[j].1:ByteArray)=nm)) hw.1 rfl (λj hj=>by omega) λk c hk hs hJ=>?_
 obtain rfl:c=_:=hs;simp only[W_,au,av,reduceCtorEq,aQ,aO];refine⟨λaJ=>?_,λhge=>?_⟩
 .have aJ:k<a.1.length:=by omega
  simp only[aD aJ,W_,au,av,reduceCtorEq,bX hw.1 aJ];exact⟨λh1=>⟨λh2=> .inl ⟨k,aJ, .inl h1,h2⟩,λh2=>⟨aJ,ef hJ λ_ h=>h2 h.2⟩⟩,(by grind)⟩
 have hE:¬∃k,∃h:k<a.1.length,(1<sec\/k<m)/\(a.1[k].1:ByteArray)=nm:=(by grind)
 simp only[hE,false_or];clear hJ hE
 refine Wp.count (λs=>s) a.2.1.length (λk _=>∀j,j<k->∀h:j<a.2.1.length,¬((2<sec\/sec=2/\j<m)/\(a.2.1[j].1:ByteArray)=nm)) hw.2.1 rfl (λj hj=>by omega) λk c hk hs hJ=>?_
 obtain rfl:c=_:=hs;simp only[W_,au,av,reduceCtorEq,aQ,aO];refine⟨λaJ=>?_,λhge=>?_⟩
 .have aJ:k<a.2.1.length:=by omega
  simp only[aD aJ,W_,au,av,reduceCtorEq,bX hw.2.1 aJ];exact⟨λh1=>⟨λh2=> .inl ⟨k,aJ, .inl h1,h2⟩,λh2=>⟨aJ,ef hJ λ_ h=>h2 h.2⟩⟩,(by grind)⟩
 have hE:¬∃k,∃h:k<a.2.1.length,(2<sec\/sec=2/\k<m)/\(a.2.1[k].1:ByteArray)=nm:=(by grind)
 simp only[hE,false_or];clear hJ hE
 refine Wp.count (λs=>s) a.2.2.length (λk _=>∀j,j<k->∀h:j<a.2.2.length,¬((sec=3/\j<m)/\(a.2.2[j].1:ByteArray)=nm)) hw.2.2 rfl (λj hj=>by omega) λk c hk hs hJ=>?_
 obtain rfl:c=_:=hs;simp only[W_,au,av,reduceCtorEq,aQ,aO];refine⟨λaJ=>?_,λhge=>?_⟩
 .have aJ:k<a.2.2.length:=by omega
  simp only[aD aJ,W_,au,av,reduceCtorEq,bX hw.2.2 aJ]
  grind
 grind
theorem th(l:List Fd)(m:Nat)(nm:ByteArray)(hl:l.length<=maxLen):M.iV aG l (m:Int) nm=aa (decide (eB (l.take m) nm)):=by
 unfold maxLen at hl;apply Wp.eq;unfold M.iV
 refine Wp.count (λs=>s) l.length (λk _=>∀j,j<k->∀h:j<l.length,j<m->¬(l[j].1:ByteArray)=nm) hl rfl (λj hj=>by omega) λk c hk hs hJ=>?_
 obtain rfl:c=_:=hs
 have By:(k:Nat)>=l.length\/k>=m->¬eB (l.take m) nm:=λhge h=>by
  grind [n8]
 simp only[W_,au,av,reduceCtorEq,aQ,aO];refine⟨λh1=>⟨λh2=>?_,λh2=>By (by omega)⟩,λh1=>By (by omega)⟩
 have aJ:k<l.length:=by omega
 simp only[aD aJ,W_,au,av,reduceCtorEq,bX hl aJ];exact⟨λh=>n8.2 ⟨k,aJ,by omega,h⟩,(by grind)⟩
theorem cu(t:Ty)(E:List En):M.db aG t E=aa (decide (oY t E.length)):=by
 obtain⟨(k:Int),(e:Int)⟩:=t;apply Wp.eq;unfold M.db;simp only[W_,au,av,reduceCtorEq];simp only[oY];grind
theorem Kh(r:Ty):M.jk aG r=aa (decide (VR r)):=by
 obtain⟨(k:Int),(e:Int)⟩:=r;apply Wp.eq;unfold M.jk;simp only[W_,au,av,reduceCtorEq];simp only[VR];grind
def Uz(t:Ty)(E:List En):Int×Int:=
 if¬oY t E.length then(0,-1)else if(t.1:Int)=1 then(0,1)else if(t.1:Int)=2 then(-1000000000000,1000000000000)else if(t.1:Int)=3 then(-1000000000000000,1000000000000000)else if(t.1:Int)=4 then(-1000000000,1000000000)else if(t.1:Int)=5 then(0,109572)
 else(0,aoz.wrap ((((E[(t.2:Int).toNat]?).map λe=>(e.2.length:Int)).getD 0)-1))
theorem PN(t:Ty)(E:List En):M.m9 aG t E=aa (Uz t E):=by
 obtain⟨(k:Int),(e:Int)⟩:=t;apply Wp.eq;unfold M.m9 Uz;simp only[cu,W_,au,av,reduceCtorEq];by_cases hv:oY (k,e) E.length
 .simp only[hv,not_true_eq_false,if_false,false_implies,true_implies,true_and];refine⟨λh=>by rw[aj h],λh1=>⟨λh=>by rw[ai h1,aj h],λh2=>⟨λh=>by rw[ai h1,ai h2,aj h],λh3=>⟨λh=>by rw[ai h1,ai h2,ai h3,aj h],λh4=>⟨(by grind),λh5=>?_⟩⟩⟩⟩⟩;simp only[oY]at hv;dsimp only[aB,Row.den]at*
  have hi:e.toNat<E.length:=by omega
  refine ee.2 ⟨by omega,?_⟩
  grind
 grind
def Eh(n:Int)(t:Ty)(E:List En):Prop:=(Uz t E).1<=n/\n<=(Uz t E).2
instance(n:Int)(t:Ty)(E:List En):Decidable (Eh n t E):=by unfold Eh;infer_instance
theorem WH(n:Int)(t:Ty)(E:List En):M.q8 aG n t E=aa (decide (Eh n t E)):=by
 apply Wp.eq;unfold M.q8;simp only[PN,W_,au,av,reduceCtorEq];unfold Eh;omega
def pc(x:Rw)(t:xQ)(E:List En):Prop:=¬VR x.1\/(x.1.1:Int)=x.1.2\/(x.2.2.1:Int)<=x.2.1\/¬Eh x.2.1 t.2.1 E\/¬Eh (aoz.wrap ((x.2.2.1:Int)-1)) t.2.1 E\/¬Eh x.2.2.2 t.2.2.1 E
instance(x:Rw)(t:xQ)(E:List En):Decidable (pc x t E):=by unfold pc;infer_instance
theorem PO(x:Rw)(t:xQ)(E:List En):M.qg aG x t E=aa (decide (pc x t E)):=by
 apply Wp.eq;unfold M.qg;simp only[Kh,WH,W_,au,av,reduceCtorEq];unfold pc;grind
def nN(a b:Rw):Prop:=VR a.1/\VR b.1/\((a.1.1:Int)<a.1.2/\(a.1.1:Int)<b.1.2/\(b.1.1:Int)<a.1.2/\(b.1.1:Int)<b.1.2)/\(a.2.1:Int)<a.2.2.1/\(a.2.1:Int)<b.2.2.1/\(b.2.1:Int)<a.2.2.1/\(b.2.1:Int)<b.2.2.1
instance(a b:Rw):Decidable (nN a b):=by simp only[nN];dsimp only[aB,Row.den]at*;infer_instance
theorem PP(a b:Rw):M.nf aG a b=aa (decide (nN a b)):=by
 obtain⟨⟨(a1:Int),(a2:Int)⟩,(a3:Int),(a4:Int),(a5:Int)⟩:=a;obtain⟨⟨(b1:Int),(b2:Int)⟩,(b3:Int),(b4:Int),(b5:Int)⟩:=b;apply Wp.eq;unfold M.nf M.oX;simp only[Kh,W_,au,av,reduceCtorEq];simp only[nN];grind
open Classical in
noncomputable def qF(t:xQ)(E:List En)(k:Nat):Option (Int×Int):=match t.2.2.2[k]? with
 |none=>ae
 |some x=>if pc x t E then aa ((k:Int),3)else if∃y∈t.2.2.2.take k,nN y x then aa ((k:Int),11)else ae
noncomputable def mJ(t:xQ)(E:List En):Int×Int:=
 if 64<t.2.2.2.length then(64,4)else if¬(oY t.2.1 E.length/\oY t.2.2.1 E.length)then(-1,8)else(cF (qF t E) t.2.2.2.length).getD (0,0)
theorem SQ(t:xQ)(E:List En):M.nh aG t E=aa (mJ t E):=by
 apply Wp.eq;unfold M.nh mJ;simp only[cu,PO,PP,W_,au,av,reduceCtorEq];refine⟨λh=>by grind,λh64=>?_⟩;rw[ai (c:=64<t.2.2.2.length) (by omega)];refine⟨λh1=>by rw[aj (λg=>h1 g.1)],λh1=>⟨(by grind),λh2=>?_⟩⟩;rw[ai (λg=>g ⟨h1,h2⟩)]
 refine Wp.count (λs=>s) t.2.2.2.length (λk _=>∀j,j<k->qF t E j=ae) (by omega) rfl (λj hj=>by omega) λk s hk hs hJ=>?_
 obtain rfl:s=_:=hs;simp only[W_,au,av,reduceCtorEq,aQ,aO];refine⟨λaJ=>?_,λhge=>?_⟩
 .have aJ:k<t.2.2.2.length:=by omega
  have hf:qF t E k=if pc t.2.2.2[k] t E then aa ((k:Int),3)else if∃y∈t.2.2.2.take k,nN y t.2.2.2[k]then aa ((k:Int),11)else ae:=by
   unfold qF;rw[aoA aJ]
  simp only[aD aJ,W_,au,av,reduceCtorEq,bX (m:=t.2.2.2.length) (by omega) aJ];refine⟨λhw=>?_,λhw=>?_⟩
  .grind [cU]
  rw[ai hw]at hf
  refine Wp.count (λs=>s) k (λj _=>∀i,i<j->∀h:i<t.2.2.2.length,¬nN t.2.2.2[i] t.2.2.2[k]) (by omega) rfl (λj hj=>by omega) λj c hj hs hI=>?_
  obtain rfl:c=_:=hs;simp only[W_,au,av,reduceCtorEq,aQ,aO];refine⟨λRn=>?_,λRn=>⟨aJ,ef hJ ?_⟩⟩
  .have wY:j<t.2.2.2.length:=by omega
   simp only[aD wY,W_,au,av,reduceCtorEq,bX (m:=k) (by omega) (show j<k by omega)];refine⟨λhc=>?_,(by grind)⟩;rw[cU (hf.trans (aj ⟨_,apN.2 ⟨j,by omega,rfl⟩,hc⟩)) hJ aJ];rfl
  .rw[hf,ai]
   grind [apN]
 grind [bC]
end L
end
namespace L
abbrev rv:Type:=bB.den
theorem Ki(op:Int):M.fj aG op=aa (ar op):=by
 apply Wp.eq;unfold M.fj ar;simp only[W_,au,av,reduceCtorEq];omega
theorem PQ{sk:List Nat}{j:Nat}(h:j<sk.length):idx (dR sk) (j:Int)=aa ((sk.getD j 0:Nat):Int):=by
 grind [aD]
theorem tj(l:List Nat):(dR l).length=l.length:=ao5 _
theorem Ci(l:List Nat)(x:Nat):dR l++[(x:Int)]=dR (l++[x]):=by simp[dR]
theorem pO(e:List Ty):M.gZ aG e=aa (pV e):=by
 apply Wp.eq;unfold M.gZ;simp only[Ki,W_,au,av,reduceCtorEq];refine⟨λh=>by unfold pV;rw[aj (by omega)],λh48=>⟨λh0=>by unfold pV;rw[ai (by omega),aj (by omega)],λh0=>?_⟩⟩
 have hS:pV e=match iN e 0 [] []with
  | .inl (i,c)=>((i:Int),c,[])
  | .inr (st,sk)=>if 1<sk.length then((e.length:Int),4,[])else(0,0,dR st):=by unfold pV;rw[ai (by omega),ai (by omega)]<;>cases iN e 0 [] []<;>rfl
 refine Wp.count (λs=>s.1) e.length (λk s=>∃st sk,s.2=(dR st,dR sk)/\iN e 0 [] []=iN (e.drop k) k st sk/\sk.length<=12/\st.length=k) (by omega) rfl ⟨[],[],rfl,rfl,by simp,rfl⟩ λk s hk hs hJ=>?_
 obtain⟨i,_⟩:=s;obtain⟨st,sk,h,hr,h12,lm⟩:=hJ;dsimp only at hs h;subst hs h;simp only[W_,au,av,reduceCtorEq,aQ,aO,tj];refine⟨λaJ=>?_,λhge=>?_⟩
 .have aJ:k<e.length:=by omega
  rw[ao2 aJ,iN]at hr;simp only[aD aJ,W_,au,av,reduceCtorEq]
  obtain⟨a,ha⟩:∃a,a=ar e[k].1:=⟨_,rfl⟩
  have ha3:=kE e[k].1;simp only[<-ha]at hr ha3⊢;refine⟨λhn=>?_,λhn=>?_⟩
  .rw[hS,hr,aj hn]
  rw[ai hn]at hr;refine⟨λh5=>?_,λh5=>?_⟩
  .rw[hS,hr,aj h5]
  rw[ai h5]at hr
  have fin:∀x:Nat,x=rr a k sk->Wp (bR (dR (sk.take (sk.length-a.toNat))) [(x:Int)]) (λl8=>Wp (bR (dR st) [(x:Int)]) λl9=>(12<(l8.length:Int)->((k:Int),((16:Int),([]:List Int)))=pV e)/\(¬12<(l8.length:Int)->k<e.length/\aoz.wrap ((k:Int)+1)=((k+1:Nat):Int)/\∃st sk,(l9,l8)=(dR st,dR sk)/\iN e 0 [] []=iN (e.drop (k+1)) (k+1) st sk/\sk.length<=12/\st.length=k+1)):=by
   intro x hx;refine lB.2 ⟨by rw[tj,ao0];simp;omega,lB.2 ⟨by rw[tj];simp;omega,?_⟩⟩;rw[Ci,Ci,tj,aoH,ao0];simp only[apa,List.length_nil];refine⟨λh=>?_,λh=>⟨aJ,bX (m:=e.length) (by omega) aJ,st++[x],sk.take (sk.length-a.toNat)++[x],rfl,?_,?_,?_⟩⟩
   .rw[hS,hr,aj (by omega)]
   .rw[hr,ai (by omega),hx]
   .rw[aoH,ao0];simp;omega
   .rw[aoH,lm];rfl
  refine⟨λhp=>?_,λhp=>?_⟩
  .have w1:aoz.wrap ((sk.length:Int)-a)=((sk.length-a.toNat:Nat):Int):=by rw[aE (by omega) (by omega)];omega
   simp only[w1,PQ (show sk.length-a.toNat<sk.length by omega),mG (show sk.length-a.toNat<=(dR sk).length by rw[tj];omega),W_,au,av,reduceCtorEq];rw[<-List.map_take];exact fin _ (by unfold rr;rw[ai (by omega)])
  .have:a.toNat=0:=by omega
   have:=fin k (by unfold rr;rw[aj (by omega)]);rw[‹a.toNat=0›,Nat.sub_zero,ao3]at this;exact this
 .obtain rfl:k=e.length:=by omega
  rw[List.drop_length,iN]at hr;rw[hS,hr];refine⟨λh=>?_,λh=>?_⟩
  .exact(aj (c:=1<sk.length) (by omega)).symm
  .exact(ai (c:=1<sk.length) (by omega)).symm
theorem aW(op:Int):M.ol aG op=aa (decide ((1<=op/\op<=8)\/(14<=op/\op<=16)\/op=33\/op=34\/(36<=op/\op<=39))):=by
 apply Wp.eq;unfold M.ol;simp only[W_,au,av,reduceCtorEq];omega
theorem bf(k:Int):M.kW aG k=aa (decide (k=2\/k=3\/k=4)):=by
 apply Wp.eq;unfold M.kW;simp only[W_,au,av,reduceCtorEq];omega
theorem aT(k:Int):M.iF aG k=aa (decide (k=2\/k=3\/k=4\/k=5)):=by
 apply Wp.eq;unfold M.iF;simp only[bf,W_,au,av,reduceCtorEq];omega
theorem bG(k:Int):M.dQ aG k=aa ((k,(0:Int)):Ty):=rfl
def FO(op m:Int)(s:rv):Prop:=(1<=op/\op<=5->Eh m (op,(0:Int)) s.1)/\(14<=op/\op<=16->0<=m/\m<=5)/\(op=34->0<=m/\aoP m 8<=5)/\(op=6->0<=m)
instance(op m:Int)(s:rv):Decidable (FO op m s):=by unfold FO;infer_instance
theorem zR(n:Ty)(s:rv):M.jt aG n s=aa (decide (FO n.1 n.2 s)):=by
 obtain⟨(op:Int),(m:Int)⟩:=n;apply Wp.eq;unfold M.jt;simp only[bG,PN,W_,au,av,reduceCtorEq];unfold FO Eh;dsimp only[aB,Row.den]at*;omega
def SU(op m:Int)(s:rv):Prop:=
 (op=6->aoz.wrap (aoM m 16)<(s.1.length:Int)/\aoP m 16<(((s.1[(aoz.wrap (aoM m 16)).toNat]?).map λe=>(e.2.length:Int)).getD 0))/\
 (op=7->0<=m/\m<(s.2.2.1.length:Int))/\(op=8->0<=m/\m<(s.2.2.2.1.length:Int))/\(op=33->0<=m/\m<(s.2.1.length:Int))/\(op=34->aoz.wrap (aoM m 8)<(s.2.1.length:Int))/\
 (35<=op/\op<=39->s.2.2.2.2.2=af)/\(36<=op/\op<=39->0<=m/\m<(s.2.2.2.2.1.length:Int))
instance(op m:Int)(s:rv):Decidable (SU op m s):=by unfold SU;infer_instance
theorem Kj{m k:Int}(h0:0<=m)(h1:m<=9223372036854775807)(hk:0<k):0<=aoz.wrap (aoM m k):=by
 have h2:0<=aoM m k:=Int.tdiv_nonneg h0 (by omega)
 have h3:aoM m k<=m:=by rw[aoN h0];exact Int.ediv_le_self _ h0
 grind [aE]
theorem WI(n:Ty)(s:rv)(hm:(n.2:Int)<=9223372036854775807)(hr:FO n.1 n.2 s):M.bH aG n s=aa (decide (SU n.1 n.2 s)):=by
 obtain⟨(op:Int),(m:Int)⟩:=n;apply Wp.eq;unfold M.bH;simp only[W_,au,av,reduceCtorEq];unfold SU;unfold FO at hr;dsimp only[aB,Row.den]at*;refine⟨λh6=>⟨λh=>?_,λh=>?_⟩,λh6=>?_⟩
 .have h0:=Kj (k:=16) (hr.2.2.2 h6) hm (by omega);refine ee.2 ⟨⟨h0,h⟩,?_⟩
  grind
 .grind
 simp only[h6,W_,au,av,reduceCtorEq]
 cases h5:s.2.2.2.2.2<;>simp only[imp_false,W_,au,av,reduceCtorEq]<;>omega
theorem PR{op m:Int}{s:rv}(hf:SU op m s):Wp (M.cy aG (op,m) s) λ_=>True:=by
 unfold M.cy;simp only[bG,aT,cu,W_,au,av,reduceCtorEq];unfold SU at hf;dsimp only[aB,Row.den]at*
 refine λh6=>⟨λh7=>?_,λh7=>⟨λh8=>?_,λh8=>λh9 Kk=>?_⟩⟩
 .exact ee.2 ⟨hf.2.1 h7,trivial⟩
 .grind [ee]
 .by_cases h:36<=op/\op<=39
  .have:Wp (idx s.2.2.2.2.1 m) λ_=>True:=ee.2 ⟨hf.2.2.2.2.2.2 h,trivial⟩
   grind
  grind
theorem IC{op m:Int}{a:Ty}{s:rv}(hm:m<=9223372036854775807)(h1:ar op=1)(hr:FO op m s)(hf:SU op m s):Wp (M.cN aG (op,m) a s) λ_=>True:=by
 have gx:op=10\/op=25\/(31<=op/\op<=34):=by
  clear hr hf;unfold ar at h1;omega
 unfold M.cN;simp only[bG,bf,cu,W_,au,av,reduceCtorEq];unfold SU at hf;unfold FO at hr;dsimp only[aB,Row.den]at*
 grind [ee,Kj]
theorem ID(op a b:Int):Wp (M.kX aG op a b) λ_=>True:=by
 unfold M.kX;simp only[bG,W_,au,av,reduceCtorEq]
theorem IE(op:Int)(a b:Ty):Wp (M.ir aG op a b) λ_=>True:=by
 obtain⟨r,e,_⟩:=ID op a.1 b.1;unfold M.ir
 repeat' first|exact Wp.some trivial|exact⟨_,bf _,trivial⟩|exact⟨_,aT _,trivial⟩|exact⟨_,bG _,trivial⟩|exact⟨_,e,trivial⟩|refine Wp.seq (λ_=>True) ?_ λ_ _=>?_|refine Wp.dec (λ_=>?_) λ_=>?_|refine Wp.ite (λ_=>?_) λ_=>?_
noncomputable def Kl(n:Ty)(l:List Ty)(s:rv):Ty×Int:=(M.bg aG n l s).getD (((0:Int),(0:Int)),(0:Int))
theorem IF{n:Ty}{l:List Ty}{s:rv}(hw:WF aA n)(hl:(l.length:Int)=ar n.1):M.bg aG n l s=aa (Kl n l s):=by
 refine(Wp.getD (Q:=λ_=>True) ?_ _).1;have hm:(n.2:Int)<=9223372036854775807:=hw.2.2;have h3:=kE n.1
 have key:Wp (M.jt aG n s) λx=>x=af->Wp (M.bH aG n s) λx=>x=af->((l.length:Int)=0->Wp (M.cy aG n s) λ_=>True)/\(¬(l.length:Int)=0->((l.length:Int)=1->Wp (idx l 0) λx=>Wp (M.cN aG n x s) λ_=>True)/\
  (¬(l.length:Int)=1->((l.length:Int)=2->Wp (idx l 0) λx=>Wp (idx l 1) λx_1=>Wp (M.ir aG n.1 x x_1) λ_=>True)/\(¬(l.length:Int)=2->Wp (idx l 1) λ_=>Wp (idx l 0) λx=>(x.1:Int)=1->Wp (idx l 1) λ_=>Wp (idx l 2) λ_=>True))):=by
  rw[zR]
  refine .some λhr=>?_
  have hr:FO n.1 n.2 s:=ak hr;rw[WI n s hm hr]
  refine .some λhf=>?_
  have hf:SU n.1 n.2 s:=ak hf;exact⟨λ_=>PR hf,λh0=>⟨λh1=>ee.2 ⟨by omega,IC hm (by omega) hr hf⟩,λh1=>⟨λh2=>ee.2 ⟨by omega,ee.2 ⟨by omega,IE ..⟩⟩,λh2=>ee.2 ⟨by omega,ee.2 ⟨by omega,λ_=>ee.2 ⟨by omega,ee.2 ⟨by omega,trivial⟩⟩⟩⟩⟩⟩⟩
 unfold M.bg;simp only[aW,W_,au,av,reduceCtorEq]
 grind
noncomputable def nx(s:rv):List Ty->Nat->List Ty->(Nat×Int)⊕List Ty
 |[],_,ny=> .inr ny
 |n::e,i,ny=>
  if(Kl n (ny.drop (ny.length-(ar n.1).toNat)) s).2≠0 then .inl (i,(Kl n (ny.drop (ny.length-(ar n.1).toNat)) s).2)
  else nx s e (i+1) (ny.take (ny.length-(ar n.1).toNat)++[(Kl n (ny.drop (ny.length-(ar n.1).toNat)) s).1])
noncomputable def Hm(e:List Ty)(s:rv):Ty×Int×Int:=
 if(pV e).2.1≠0 then(((0:Int),(0:Int)),(pV e).1,(pV e).2.1)else match nx s e 0 []with
  | .inl (i,c)=>(((0:Int),(0:Int)),(i:Int),c)
  | .inr ny=>(ny.headD ((0:Int),(0:Int)),0,0)
theorem Km{e:List Ty}(h:(pV e).2.1=0):e.length<=48/\e≠[]/\∃st sk,iN e 0 [] []= .inr (st,sk):=by
 unfold pV at h;split at h
 .cases h
 split at h
 .cases h
 rename_i h1 h2;refine⟨by omega,λe=>h2 (by rw[e];rfl),?_⟩;split at h
 .rename_i c hc;exfalso
  have:∀(e:List Ty)(i:Nat)(st sk:List Nat)(j:Nat),iN e i st sk≠ .inl (j,0):=by
   intro e
   induction e with
   |nil=>intro i st sk j h;cases h
   |cons n e ih=>
    grind [iN]
  grind
 grind
theorem WJ{e:List Ty}{s:rv}(hw:∀n∈e,WF aA n):M.pk aG e s=aa (Hm e s):=by
 apply Wp.eq;unfold M.pk;simp only[pO,Ki,W_,au,av,reduceCtorEq];refine⟨λh=>by unfold Hm;rw[aj h],λh0=>?_⟩;obtain⟨h48,dS,cM,ND,Dw⟩:=Km h0
 have hT:Hm e s=match nx s e 0 []with
  | .inl (i,c)=>(((0:Int),(0:Int)),(i:Int),c)
  | .inr ny=>(ny.headD ((0:Int),(0:Int)),0,0):=by unfold Hm;rw[ai (by omega)]
 refine Wp.count (λs=>s.1) e.length (λk q=>∃st sk,q.2.length=sk.length/\iN e 0 [] []=iN (e.drop k) k st sk/\nx s e 0 []=nx s (e.drop k) k q.2/\q.2.length<=k/\(0<k->q.2≠[])) (by omega) rfl (by grind) λk q hk hs hJ=>?_
 obtain⟨i,ny⟩:=q;obtain⟨st,sk,hl,hr,ht,Ro,pC⟩:=hJ;dsimp only at hs hl ht Ro pC;subst hs;simp only[W_,au,av,reduceCtorEq,aQ,aO];refine⟨λaJ=>?_,λhge=>?_⟩
 .have aJ:k<e.length:=by omega
  rw[ao2 aJ,iN]at hr;rw[ao2 aJ,nx]at ht;rw[Dw]at hr;have ha3:=kE e[k].1;split at hr
  .cases hr
  split at hr
  .cases hr
  split at hr
  .cases hr
  rename_i ha0 ha1 ha2
  have w1:aoz.wrap ((ny.length:Int)-ar e[k].1)=((ny.length-(ar e[k].1).toNat:Nat):Int):=by rw[aE (by omega) (by omega)];omega
  have hd:((ny.drop (ny.length-(ar e[k].1).toNat)).length:Int)=ar e[k].1:=by rw[List.length_drop];omega
  simp only[aD aJ,w1,mG (show ny.length-(ar e[k].1).toNat<=ny.length by omega),rU (l:=ny) (ny.length-(ar e[k].1).toNat) ny.length rfl rfl (by omega) (aoJ _),ao3,IF (hw _ (aoG aJ)) hd,W_,au,av,reduceCtorEq];refine⟨λhc=>?_,λhc=>?_⟩
  .grind
  .rw[ai (λg=>g hc)]at ht;refine lB.2 ⟨by rw[ao0];simp;omega,aJ,bX (m:=e.length) (by omega) aJ,_,_,?_,Dw.trans hr,ht,?_,λ_=>by simp⟩
   all_goals grind
 .obtain rfl:k=e.length:=by omega
  rw[List.drop_length,nx]at ht;rw[hT,ht];have:ny≠[]:=pC (List.length_pos_iff.2 dS);obtain⟨a,l,rfl⟩:=List.exists_cons_of_ne_nil this;exact ee.2 ⟨by simp,rfl⟩
end L
namespace L
def ins(n:Int):List Int->List Int
 |[]=>[n]
 |x::l=>if x<n then x::ins n l else if x=n then x::l else n::x::l
theorem FP(n x:Int)(l:List Int):ins n (x::l)=if x<n then x::ins n l else if x=n then x::l else n::x::l:=rfl
theorem wa(n:Int):∀l:List Int,(ins n l).length<=l.length+1
 |[]=>aoJ _
 |x::l=>by
  have:=wa n l
  grind [ins]
theorem qm{n y:Int}:∀{l:List Int},y∈ins n l↔y=n\/y∈l
 |[]=>by simp[ins]
 |x::l=>by
  unfold ins;split
  .rw[apH,qm,apH]
   grind
  grind
theorem qn(l:List Int)(n:Int)(hl:l.length<=4294967000):M.kY aG l n=aa (ins n l):=by
 apply Wp.eq;unfold M.kY;rw[wp_bind]
 refine Wp.count (λs=>s.2.1) l.length (λk s=>(s.1=ag->s.2.2++ins n (l.drop k)=ins n l/\s.2.2.length<=k)/\(s.1=af->s.2.2++l.drop k=ins n l)/\s.2.2.length<=k+1) (by omega) rfl (by grind) λk s hk hs hJ=>?_
 obtain⟨d,i,out⟩:=s;dsimp only at hs hJ;subst hs;obtain⟨h1,h2,h3⟩:=hJ;simp only[W_,au,av,reduceCtorEq,aQ,aO];refine⟨λaJ=>?_,λhge=>?_⟩
 .have aJ:k<l.length:=by omega
  rw[ao2 aJ]at h1 h2;simp only[aD aJ,bX (m:=l.length) (by omega) aJ,W_,au,av,reduceCtorEq];refine⟨λhd=>?_,λhd=>?_⟩
  .obtain⟨h1,h4⟩:=h1 hd;rw[FP]at h1
   grind [lB]
  grind [lB]
 .obtain rfl:k=l.length:=by omega
  rw[List.drop_length]at h1 h2;refine⟨λhd=>lB.2 ⟨by simp;omega,(h1 hd).1⟩,λhd=>?_⟩
  grind
theorem tl(l:List Int)(n:Int)(hl:l.length<=4294967000):M.ni aG l n=aa (ins n l):=qn l n hl
def iJ(p:Int->Bool)(e:List Ty):List Int:=e.foldl (λl n=>if p n.1=af then ins n.2 l else l) []
theorem FQ(p:Int->Bool)(e:List Ty):(iJ p e).length<=e.length:=by
 unfold iJ
 suffices∀(e:List Ty)(l:List Int),(e.foldl (λl n=>if p n.1=af then ins n.2 l else l) l).length<=l.length+e.length by grind
 intro e
 induction e with
 |nil=>intro l;simp
 |cons n e ih=>
  grind [wa]
def FT(op:Int):Bool:=decide (op=7)
def ll(op:Int):Bool:=decide (op=8)
def FU(op:Int):Bool:=decide (36<=op/\op<=39)
theorem Kn(e:List Ty)(he:e.length<=100000):M.iX aG e=aa (iJ FT e,iJ ll e,iJ FU e):=by
 apply Wp.eq;unfold M.iX;rw[wp_bind]
 refine Wp.fold (λs=>s.1) (λs=>s.2) e (λ(c:List Int×List Int×List Int)n=>(if FT n.1=af then ins n.2 c.1 else c.1,if ll n.1=af then ins n.2 c.2.1 else c.2.1,if FU n.1=af then ins n.2 c.2.2 else c.2.2)) ([],[],[]) (λk c=>c.1.length<=k/\c.2.1.length<=k/\c.2.2.length<=k) (by omega) rfl rfl (by simp) (λk s aJ hs hI=>?_) λs hs hc hI=>?_
 .obtain⟨i,a,b,c⟩:=s;dsimp only at hs hI;subst hs;have l1:=wa e[k].2 a;have l2:=wa e[k].2 b;have l3:=wa e[k].2 c;simp only[aj (dW aJ),aD aJ,qn a _ (by omega),qn b _ (by omega),qn c _ (by omega),bX (m:=e.length) (by omega) aJ,W_,au,av,reduceCtorEq,n6];unfold FT ll FU;generalize e[k]=n at*;obtain⟨(op:Int),(m:Int)⟩:=n;dsimp only[aB,Row.den]at*;by_cases g1:op=7
  .subst g1;simp only[show¬(7:Int)=8 by omega,show¬(36:Int)<=7 by omega,W_,au,av,reduceCtorEq];omega
  by_cases g2:op=8
  .subst g2;simp only[show¬(8:Int)=7 by omega,show¬(36:Int)<=8 by omega,W_,au,av,reduceCtorEq];omega
  by_cases g3:36<=op<;>by_cases g4:op<=39<;>simp only[g1,g2,g3,g4,W_,au,av,reduceCtorEq]<;>omega
 .obtain⟨i,a,b,c⟩:=s;dsimp only at hs hc;subst hs;simp only[show¬((e.length:Int)<(e.length:Int)) by omega,W_,au,av,reduceCtorEq,n7]
  have:∀(e:List Ty)(c:List Int×List Int×List Int),e.foldl (λ(c:List Int×List Int×List Int)n=>(if FT n.1=af then ins n.2 c.1 else c.1,if ll n.1=af then ins n.2 c.2.1 else c.2.1,if FU n.1=af then ins n.2 c.2.2 else c.2.2)) c=(e.foldl (λl n=>if FT n.1=af then ins n.2 l else l) c.1,e.foldl (λl n=>if ll n.1=af then ins n.2 l else l) c.2.1,e.foldl (λl n=>if FU n.1=af then ins n.2 l else l) c.2.2):=by
   intro e
   induction e with
   |nil=>intro c;rfl
   |cons n e ih=>intro c;rw[List.foldl_cons,ih];rfl
  rw[hc,this];rfl
def uB(n:Nat)(l:List Int):Prop:=l.Pairwise (· < ·)/\∀x∈l,0<=x/\x<(n:Int)
theorem uB.nil{n:Nat}:uB n []:=⟨.nil,λ_ h=>by cases h⟩
theorem WK{l:List Int}:∀{a b:Int},l.Pairwise (· < ·)->(∀x∈l,a<=x/\x<b)->(l.length:Int)<=max 0 (b-a):=by
 induction l with
 |nil=>grind
 |cons x l ih=>
  intro a b hp hb;obtain⟨h1,h2⟩:=ap7.1 hp;have hx:=hb x (List.mem_cons_self ..);have:=ih (a:=x+1) (b:=b) h2 (by grind)
  grind
theorem uB.len{n:Nat}{l:List Int}(h:uB n l):l.length<=n:=by
 have:=WK h.1 h.2;omega
theorem IG{n:Int}:∀{l:List Int},l.Pairwise (· < ·)->(ins n l).Pairwise (· < ·)
 |[],_=>List.pairwise_singleton ..
 |x::l,h=>by
  obtain⟨h1,h2⟩:=ap7.1 h;rw[FP];split
  .exact ap7.2 ⟨λy hy=>by grind [qm],IG h2⟩
  grind [ap7]
theorem uB.ins{n:Nat}{x:Int}{l:List Int}(h:uB n l)(hx:0<=x/\x<(n:Int)):uB n (ins x l):=
 ⟨IG h.1,λy hy=>by rcases qm.1 hy with rfl|hy;exact hx;exact h.2 y hy⟩
def oM(n:Nat)(out l:List Int):List Int:=l.foldl (λo x=>if 0<=x/\x<(n:Int)then ins x o else o) out
theorem uB.oM{n:Nat}:∀{l out:List Int},uB n out->uB n (oM n out l)
 |[],_,h=>h
 |x::l,out,h=>by
  show uB n (L.oM n (if 0<=x/\x<(n:Int)then L.ins x out else out) l)
  refine uB.oM ?_;split
  .exact h.ins ‹_›
  .exact h
def lC(s:kF)(d:Int):List Int:=
 if 0<=d/\d<(s.2.2.2.1.length:Int)then s.2.2.2.2.foldl (λout r=>if(r.2.1:Int)=d then oM s.2.2.2.1.length (oM s.2.2.2.1.length out (iJ ll r.2.2.2.2.2.1)) (iJ ll r.2.2.2.2.2.2.1)else out) []else[]
theorem kG(s:kF)(d:Int):uB s.2.2.2.1.length (lC s d):=by
 unfold lC;split
 .suffices∀(rs:List jC)(out:List Int),uB s.2.2.2.1.length out->uB s.2.2.2.1.length (rs.foldl (λout r=>if(r.2.1:Int)=d then oM s.2.2.2.1.length (oM s.2.2.2.1.length out (iJ ll r.2.2.2.2.2.1)) (iJ ll r.2.2.2.2.2.2.1)else out) out)from this _ _ .nil
  intro rs
  induction rs with
  |nil=>grind
  |cons r rs ih=>
   grind [uB.oM]
 .exact .nil
theorem Z6(s:kF)(d:Int):M.q9 aG s d=aa (decide (0<=d/\d<(s.2.2.2.1.length:Int))):=by
 apply Wp.eq;unfold M.q9;simp only[W_,au,av,reduceCtorEq];omega
def Few(s:kF):Prop:=s.2.2.2.1.length<=100000/\s.2.2.2.2.length<=100000/\∀r∈s.2.2.2.2,r.2.2.2.2.2.1.length<=100000/\r.2.2.2.2.2.2.1.length<=100000
theorem Ko(s:kF)(hs:Few s)(d:Int):M.kZ aG s d=aa (lC s d):=by
 apply Wp.eq;unfold M.kZ;simp only[Z6,W_,au,av,reduceCtorEq];unfold lC;refine⟨λh=>by rw[ai h],λh=>?_⟩;rw[aj h];obtain⟨hn,hm,hr⟩:=hs
 refine Wp.fold (λs=>s.1) (λs=>s.2) s.2.2.2.2 (λout(r:jC)=>if(r.2.1:Int)=d then oM s.2.2.2.1.length (oM s.2.2.2.1.length out (iJ ll r.2.2.2.2.2.1)) (iJ ll r.2.2.2.2.2.2.1)else out) [] (λ_ c=>uB s.2.2.2.1.length c) (by omega) rfl rfl .nil (λk q aJ hs hI=>?_) λq hs hc hI=>?_
 .obtain⟨i,out⟩:=q;dsimp only at hs hI;subst hs;obtain⟨r1,r2⟩:=hr _ (aoG aJ);have l1:=FQ ll s.2.2.2.2[k].2.2.2.2.2.1;have l2:=FQ ll s.2.2.2.2[k].2.2.2.2.2.2.1;simp only[aj (dW aJ),tg aJ,aD aJ,Kn _ r1,Kn _ r2,bX (m:=s.2.2.2.2.length) (by omega) aJ,W_,au,av,reduceCtorEq,n6];refine⟨(by grind),λhd=>?_⟩
  .simp only[hd,if_true]
   refine Wp.fold (λs=>s.1) (λs=>s.2) (iJ ll s.2.2.2.2[k].2.2.2.2.2.1) (λo x=>if 0<=x/\x<(s.2.2.2.1.length:Int)then ins x o else o) _ (λ_ c=>uB s.2.2.2.1.length c) (by omega) rfl rfl hI (λi c FV hs hI=>?_) λc hs hc hI=>?_
   .obtain⟨i,o⟩:=c;dsimp only at hs hI;subst hs;have:=hI.len;simp only[aj (dW FV),tg FV,aD FV,tl o _ (by omega),bX (m:=(iJ ll s.2.2.2.2[k].2.2.2.2.2.1).length) (by omega) FV,W_,au,av,reduceCtorEq,n6];exact⟨λh=>⟨by rw[aj h],by rw[aj h];exact hI.ins h⟩,(by grind)⟩
   obtain⟨i,o⟩:=c;dsimp only at hs hc hI;subst hs;simp only[dB,W_,au,av,reduceCtorEq,n7];have hc:o=oM _ out (iJ ll s.2.2.2.2[k].2.2.2.2.2.1):=hc;subst hc
   refine Wp.fold (λs=>s.1) (λs=>s.2) (iJ ll s.2.2.2.2[k].2.2.2.2.2.2.1) (λo x=>if 0<=x/\x<(s.2.2.2.1.length:Int)then ins x o else o) _ (λ_ c=>uB s.2.2.2.1.length c) (by omega) rfl rfl hI (λi c FV hs hI=>?_) λc hs hc hI=>?_
   .obtain⟨i,o⟩:=c;dsimp only at hs hI;subst hs;have:=hI.len;simp only[aj (dW FV),tg FV,aD FV,tl o _ (by omega),bX (m:=(iJ ll s.2.2.2.2[k].2.2.2.2.2.2.1).length) (by omega) FV,W_,au,av,reduceCtorEq,n6];exact⟨λh=>⟨by rw[aj h],by rw[aj h];exact hI.ins h⟩,(by grind)⟩
   obtain⟨i,o⟩:=c;dsimp only at hs hc hI;subst hs;simp only[dB,W_,au,av,reduceCtorEq,n7]
   grind [oM]
 .obtain⟨i,out⟩:=q;dsimp only at hs hc;subst hs;simp only[dB,W_,au,av,reduceCtorEq,n7];exact hc
def stepT(s:kF)(out:List Int):List Int:=out.foldl (λo x=>(lC s x).foldl (λo y=>ins y o) o) out
def nz(s:kF):Nat->List Int->List Int
 |0,out=>out
 |n+1,out=>stepT s (nz s n out)
def Dx(s:kF)(d:Int):List Int:=nz s s.2.2.2.1.length (lC s d)
theorem uB.PS{n:Nat}:∀{l out:List Int},(∀x∈l,0<=x/\x<(n:Int))->uB n out->uB n (l.foldl (λo y=>L.ins y o) out)
 |[],_,_,h=>h
 |x::l,out,hx,h=>uB.PS (l:=l) (out:=L.ins x out) (by grind) (h.ins (hx x (List.mem_cons_self ..)))
theorem uf(s:kF){out:List Int}(h:uB s.2.2.2.1.length out):uB s.2.2.2.1.length (stepT s out):=by
 unfold stepT
 suffices∀(l o:List Int),uB s.2.2.2.1.length o->uB s.2.2.2.1.length (l.foldl (λo x=>(lC s x).foldl (λo y=>ins y o) o) o)from this _ _ h
 intro l
 induction l with
 |nil=>grind
 |cons x l ih=>intro o h;exact ih _ (h.PS (kG s x).2)
theorem WL(s:kF)(hs:Few s)(d:Int):M.k6 aG s d=aa (Dx s d):=by
 apply Wp.eq;unfold M.k6;simp only[Ko s hs,W_,au,av,reduceCtorEq];have hn:=hs.1
 refine Wp.count (λs=>s.2) s.2.2.2.1.length (λk q=>q.1=nz s k (lC s d)/\uB s.2.2.2.1.length q.1) (by omega) rfl ⟨rfl,kG s d⟩ λk q hk vh hJ=>?_
 obtain⟨out,i⟩:=q;dsimp only at vh hJ;subst vh;obtain⟨hJ,hI⟩:=hJ;have hlen:=hI.len;simp only[W_,au,av,reduceCtorEq,aQ,aO];refine⟨λaJ=>?_,λhge=>?_⟩
 .have aJ:k<s.2.2.2.1.length:=by omega
  refine Wp.fold (λs=>s.2) (λs=>s.1) out (λo x=>(lC s x).foldl (λo y=>ins y o) o) out (λ_ c=>uB s.2.2.2.1.length c) (by omega) rfl rfl hI (λj q WM vh Z7=>?_) λq vh hc Z7=>?_
  .obtain⟨o,i⟩:=q;dsimp only at vh Z7;subst vh;have dl:=(kG s out[j]).len;simp only[tg WM,aD WM,bX (m:=out.length) (by omega) WM,W_,au,av,reduceCtorEq,n6]
   refine Wp.fold (λs=>s.2) (λs=>s.1) (lC s out[j]) (λo y=>ins y o) o (λ_ c=>uB s.2.2.2.1.length c) (by omega) rfl rfl Z7 (λi q FV vh Z8=>?_) λq vh hc Z8=>?_
   .obtain⟨o,i'⟩:=q;dsimp only at vh Z8;subst vh;have:=Z8.len;simp only[tg FV,aD FV,tl o _ (by omega),bX (m:=(lC s out[j]).length) (by omega) FV,W_,au,av,reduceCtorEq,n6];exact Z8.ins ((kG s out[j]).2 _ (aoG FV))
   .obtain⟨o',i'⟩:=q;dsimp only at vh hc Z8;subst vh;simp only[dB,W_,au,av,reduceCtorEq,n7]
    grind
  .obtain⟨o,i⟩:=q;dsimp only at vh hc Z7;subst vh;simp only[dB,W_,au,av,reduceCtorEq,n7];exact⟨aJ,bX (m:=s.2.2.2.1.length) (by omega) aJ,by rw[hc,hJ];rfl,Z7⟩
 .obtain rfl:k=s.2.2.2.1.length:=by omega
  exact hJ
end L
namespace L
def lD(s:kF):Prop:=s.1.size<=80/\s.2.2.1.length<=14/\s.2.2.2.1.length<=14/\s.2.2.2.2.length<=60/\(∀f∈s.2.2.1,f.1.size<=80)/\(∀f∈s.2.2.2.1,f.1.size<=80)/\∀r∈s.2.2.2.2,r.1.size<=80/\r.2.2.2.2.2.2.2.size<=80/\r.2.2.2.2.2.1.length<=50/\r.2.2.2.2.2.2.1.length<=50
def lE(l:Lw):Prop:=l.1.length<=9/\l.2.1.length<=9/\l.2.2.length<=5/\(∀e∈l.1,e.1.size<=80/\e.2.length<=20/\∀m∈e.2,m.size<=80)/\(∀t∈l.2.1,t.1.size<=80)/\∀s∈l.2.2,lD s
theorem vi{α:Type}{l:List α}{p:α->Prop}(h:∀j,j<l.length->∀h:j<l.length,p l[j]):∀x∈l,p x:=λx hx=>by
 grind [aoS]
theorem MF(s:kF)(hw:WF aU s):Wp (M.lW aG s) λr=>r=af->lD s:=by
 have w1:=hw.2.2.1.1;have w2:=hw.2.2.2.1.1;have w3:=hw.2.2.2.2.1;unfold maxLen at w1 w2 w3;unfold M.lW;simp only[W_,au,av,reduceCtorEq]
 refine λh1 h2 h3 h4=>?_
 refine Wp.count (λs=>s) s.2.2.1.length (λk _=>∀j,j<k->∀h:j<s.2.2.1.length,(s.2.2.1[j].1:ByteArray).size<=80) w1 rfl (λj hj=>by omega) λk c hk hs hA=>?_
 obtain rfl:c=_:=hs;simp only[W_,au,av,reduceCtorEq,aQ,aO];refine⟨λaJ=>?_,λhge=>?_⟩
 .have aJ:k<s.2.2.1.length:=by omega
  simp only[aD aJ,bX w1 aJ,W_,au,av,reduceCtorEq]
  grind
 have hA:=λj(hj:j<s.2.2.1.length)=>hA j (by omega)
 refine Wp.count (λs=>s) s.2.2.2.1.length (λk _=>∀j,j<k->∀h:j<s.2.2.2.1.length,(s.2.2.2.1[j].1:ByteArray).size<=80) w2 rfl (λj hj=>by omega) λk c hk hs hB=>?_
 obtain rfl:c=_:=hs;simp only[W_,au,av,reduceCtorEq,aQ,aO];refine⟨λaJ=>?_,λhge=>?_⟩
 .have aJ:k<s.2.2.2.1.length:=by omega
  simp only[aD aJ,bX w2 aJ,W_,au,av,reduceCtorEq]
  grind
 have hB:=λj(hj:j<s.2.2.2.1.length)=>hB j (by omega)
 refine Wp.count (λs=>s) s.2.2.2.2.length (λk _=>∀j,j<k->∀h:j<s.2.2.2.2.length,(s.2.2.2.2[j].1:ByteArray).size<=80/\(s.2.2.2.2[j].2.2.2.2.2.2.2:ByteArray).size<=80/\s.2.2.2.2[j].2.2.2.2.2.1.length<=50/\s.2.2.2.2[j].2.2.2.2.2.2.1.length<=50) w3 rfl (λj hj=>by omega) λk c hk hs hC=>?_
 obtain rfl:c=_:=hs;simp only[W_,au,av,reduceCtorEq,aQ,aO];refine⟨λaJ=>?_,λhge=>?_⟩
 .have aJ:k<s.2.2.2.2.length:=by omega
  simp only[aD aJ,bX w3 aJ,W_,au,av,reduceCtorEq]
  exact λh1 h2 h3 h4=>⟨aJ,ef hC (by omega)⟩
 exact⟨by omega,by omega,by omega,by omega,vi hA,vi hB,vi λj hj=>hC j (by omega)⟩
theorem MG(l:Lw)(hw:WF cQ l):Wp (M.oh aG l) λr=>r=af->lE l:=by
 have w1:=hw.1.1;have w2:=hw.2.1.1;have w3:=hw.2.2.1;unfold maxLen at w1 w2 w3;unfold M.oh;simp only[W_,au,av,reduceCtorEq]
 refine λh1 h2 h3=>?_
 refine Wp.count (λs=>s) l.1.length (λk _=>∀j,j<k->∀h:j<l.1.length,(l.1[j].1:ByteArray).size<=80/\l.1[j].2.length<=20/\∀m∈l.1[j].2,ByteArray.size m<=80) w1 rfl (λj hj=>by omega) λk c hk hs hA=>?_
 obtain rfl:c=_:=hs;simp only[W_,au,av,reduceCtorEq,aQ,aO];refine⟨λaJ=>?_,λhge=>?_⟩
 .have aJ:k<l.1.length:=by omega
  simp only[aD aJ,bX w1 aJ,W_,au,av,reduceCtorEq]
  refine λg1 g2=>?_
  refine Wp.count (λs=>s) l.1[k].2.length (λi _=>∀j,j<i->∀h:j<l.1[k].2.length,ByteArray.size l.1[k].2[j]<=80) (by omega) rfl (λj hj=>by omega) λi c hi hs hB=>?_
  obtain rfl:c=_:=hs;simp only[W_,au,av,reduceCtorEq,aQ,aO];refine⟨λyp=>?_,λyp=>⟨aJ,ef hA λ_=>⟨by omega,by omega,vi λj hj=>hB j (by omega)⟩⟩⟩
  have yp:i<l.1[k].2.length:=by omega
  simp only[aD yp,bX (m:=l.1[k].2.length) (by omega) yp,W_,au,av,reduceCtorEq]
  grind
 have hA:=λj(hj:j<l.1.length)=>hA j (by omega)
 refine Wp.count (λs=>s.2) l.2.1.length (λk _=>∀j,j<k->∀h:j<l.2.1.length,(l.2.1[j].1:ByteArray).size<=80) w2 rfl (λj hj=>by omega) λk c hk hs hB=>?_
 obtain⟨c1,c2⟩:=c;dsimp only at hs;subst hs;simp only[W_,au,av,reduceCtorEq,aQ,aO];refine⟨λaJ=>?_,λhge=>?_⟩
 .have aJ:k<l.2.1.length:=by omega
  simp only[aD aJ,bX w2 aJ,W_,au,av,reduceCtorEq]
  grind
 have hB:=λj(hj:j<l.2.1.length)=>hB j (by omega)
 refine Wp.count (λs=>s.2) l.2.2.length (λk _=>∀j,j<k->∀h:j<l.2.2.length,lD l.2.2[j]) w3 rfl (λj hj=>by omega) λk c hk hs hC=>?_
 obtain⟨c1,c2⟩:=c;dsimp only at hs;subst hs;simp only[W_,au,av,reduceCtorEq,aQ,aO];refine⟨λaJ=>?_,λhge=>?_⟩
 .have aJ:k<l.2.2.length:=by omega
  simp only[aD aJ,bX w3 aJ,W_,au,av,reduceCtorEq]
  refine λh=>(MF _ (hw.2.2.2 _ (aoG aJ))).mono (by grind)
 exact⟨by omega,by omega,by omega,vi hA,vi hB,vi λj hj=>hC j (by omega)⟩
theorem lD.few{s:kF}(h:lD s):Few s:=⟨by have:=h.2.2.1;omega,by have:=h.2.2.2.1;omega,λr hr=>by
 have:=h.2.2.2.2.2.2 r hr
 omega⟩
abbrev LE:Type:=aF.den
def Rp:LE:=((0:Int),((0:Int),((0:Int),(0:Int))))
def nO(sec:Int)(k:Int):Option (Int×Int)->LE
 |none=>Rp
 |some (c,e)=>(c,(sec,(k,e)))
noncomputable def Dy(ms:List ByteArray)(i:Nat):Option (Int×Int):=match ms[i]? with
 |none=>ae
 |some m=>if mr m=ag then aa (2,100+(i:Int))else if m∈ms.take i then aa (7,100+(i:Int))else ae
noncomputable def oN(l:Lw)(k:Nat):Option (Int×Int):=match l.1[k]? with
 |none=>ae
 |some x=>if mr x.1=ag then aa (2,0)else if eB (l.1.take k) x.1 then aa (7,0)else if x.2.length=0 then aa (5,0)else if 16<x.2.length then aa (4,116)else cF (Dy x.2) x.2.length
theorem oz{k:Nat}{a:Int}(h:k<=100000)(ha:0<=a/\a<=1000):aoz.wrap (a+(k:Int))=a+(k:Int):=aE (by omega) (by omega)
theorem nt1(l:Lw)(hw:WF cQ l)(k:Nat)(nm:ByteArray):Wp (M.et aG l 1 (k:Int) nm) λr=>r=af↔eB (l.1.take k) nm:=by
 rw[rV l 1 k nm ⟨hw.1.1,hw.2.1.1,hw.2.2.1⟩];refine .some ?_
 grind [n8]
theorem nt2(l:Lw)(hw:WF cQ l)(k:Nat)(nm:ByteArray):Wp (M.et aG l 2 (k:Int) nm) λr=>r=af↔eB l.1 nm\/eB (l.2.1.take k) nm:=by
 rw[rV l 2 k nm ⟨hw.1.1,hw.2.1.1,hw.2.2.1⟩];refine .some ?_
 grind [Dv]
theorem nt3(l:Lw)(hw:WF cQ l)(k:Nat)(nm:ByteArray):Wp (M.et aG l 3 (k:Int) nm) λr=>r=af↔eB l.1 nm\/eB l.2.1 nm\/eB (l.2.2.take k) nm:=by
 rw[rV l 3 k nm ⟨hw.1.1,hw.2.1.1,hw.2.2.1⟩];refine .some ?_
 grind [Dv]
theorem isT{b:Bool}{P:Prop}(h:b=af↔P):(b=ag↔¬P):=by grind
theorem PT(l:Lw)(hw:WF cQ l)(k:Nat)(hk:k<l.1.length):M.mc aG l (k:Int)=aa (nO 1 k (oN l k)):=by
 apply Wp.eq;unfold M.mc;simp only[aD hk,vZ,W_,au,av,reduceCtorEq]
 have hE:oN l k=if mr l.1[k].1=ag then aa (2,0)else if eB (l.1.take k) l.1[k].1 then aa (7,0)else if l.1[k].2.length=0 then aa (5,0)else if 16<l.1[k].2.length then aa (4,116)else cF (Dy l.1[k].2) l.1[k].2.length:=by
  unfold oN;rw[aoA hk]
 rw[hE];refine⟨λh=>by rw[aj h];rfl,λh1=>?_⟩;rw[ai (by simp[h1])]
 refine(nt1 l hw k l.1[k].1).mono λr hr=>?_
 refine⟨λh=>by rw[aj (hr.1 h)];rfl,λh2=>?_⟩;rw[ai ((isT hr).1 (by simpa using h2))];refine⟨λh=>by rw[aj (by omega)];rfl,λh3=>?_⟩;rw[ai (by omega)];refine⟨λh=>by rw[aj (by omega)];rfl,λh4=>?_⟩;rw[ai (by omega)]
 refine Wp.count (λs=>s.1) l.1[k].2.length (λi s=>(∀j,j<i->Dy l.1[k].2 j=ae)/\s.2.2.1=(1:Int)/\s.2.2.2.1=(k:Int)) (by omega) rfl ⟨λj hj=>by omega,rfl,rfl⟩ λi s hi hs hJ=>?_
 obtain⟨c,s1,s2,s3,s4⟩:=s;dsimp only at hs hJ;subst hs;obtain⟨hJ,g2,g3⟩:=hJ;subst g2 g3;simp only[W_,au,av,reduceCtorEq,aQ,aO];refine⟨λaJ=>?_,λhge=>?_⟩
 .have aJ:i<l.1[k].2.length:=by omega
  have hf:Dy l.1[k].2 i=if mr l.1[k].2[i]=ag then aa (2,100+(i:Int))else if l.1[k].2[i]∈l.1[k].2.take i then aa (7,100+(i:Int))else ae:=by
   unfold Dy;rw[aoA aJ]
  simp only[aD aJ,oz (k:=i) (a:=100) (by omega) (by omega),bX (m:=l.1[k].2.length) (by omega) aJ,W_,au,av,reduceCtorEq];refine⟨λh=>?_,λh=>?_⟩
  .rw[cU (hf.trans (aj h)) hJ aJ];rfl
  rw[ai (by simp[h])]at hf
  refine Wp.count (λs=>s) i (λj _=>∀q,q<j->∀h:q<l.1[k].2.length,¬l.1[k].2[q]=l.1[k].2[i]) (by omega) rfl (λj hj=>by omega) λj c hj hs hI=>?_
  obtain rfl:c=_:=hs;simp only[W_,au,av,reduceCtorEq,aQ,aO];refine⟨λhji=>?_,λhji=>⟨aJ,ef hJ ?_⟩⟩
  .have wY:j<l.1[k].2.length:=by omega
   simp only[aD wY,bX (m:=i) (by omega) (show j<i by omega),W_,au,av,reduceCtorEq];refine⟨λhc=>?_,(by grind)⟩;rw[cU (hf.trans (aj (apN.2 ⟨j,by omega,hc⟩))) hJ aJ];rfl
  .rw[hf,ai]
   grind [apN]
 .rw[bC.2 λj hj=>hJ j (by omega)];rfl
end L
namespace L
theorem SV{t:xQ}{E:List En}{k:Nat}{x:Int×Int}(h:qF t E k=aa x):x.1=k/\(x.2=3\/x.2=11):=by
 unfold qF at h;split at h
 .cases h
 split at h
 .grind
 split at h
 all_goals grind
theorem SW(t:xQ)(E:List En): -1<=(mJ t E).1/\(mJ t E).1<=64:=by
 unfold mJ;split
 .grind
 split
 .grind
 cases h:cF (qF t E) t.2.2.2.length with
 |none=>grind
 |some x=>
  grind [gm,SV]
noncomputable def pW(l:Lw)(k:Nat):Option (Int×Int):=match l.2.1[k]? with
 |none=>ae
 |some x=>if mr x.1=ag then aa (2,0)else if eB l.1 x.1\/eB (l.2.1.take k) x.1 then aa (7,0)else if(mJ x l.1).2=0 then ae else aa ((mJ x l.1).2,if 0<=(mJ x l.1).1 then 100+(mJ x l.1).1 else 0)
theorem SX(l:Lw)(hw:WF cQ l)(k:Nat)(hk:k<l.2.1.length):M.kV aG l (k:Int)=aa (nO 2 k (pW l k)):=by
 apply Wp.eq;unfold M.kV;simp only[aD hk,vZ,SQ,W_,au,av,reduceCtorEq]
 have hE:pW l k=if mr l.2.1[k].1=ag then aa (2,0)else if eB l.1 l.2.1[k].1\/eB (l.2.1.take k) l.2.1[k].1 then aa (7,0)else if(mJ l.2.1[k] l.1).2=0 then ae else aa ((mJ l.2.1[k] l.1).2,if 0<=(mJ l.2.1[k] l.1).1 then 100+(mJ l.2.1[k] l.1).1 else 0):=by
  unfold pW;rw[aoA hk]
 rw[hE];refine⟨λh=>by rw[aj h];rfl,λh1=>?_⟩;rw[ai (by simp[h1])]
 refine(nt2 l hw k l.2.1[k].1).mono λr hr=>?_
 refine⟨λh=>by rw[aj (hr.1 h)];rfl,λh2=>?_⟩;rw[ai ((isT hr).1 (by simpa using h2))];have hle:=SW l.2.1[k] l.1;refine⟨λh=>by rw[aj h];rfl,λh3=>?_⟩;rw[ai h3];refine⟨λh=>?_,λh=>?_⟩
 .rw[aj h,aE (by omega) (by omega)];rfl
 .rw[ai h];rfl
noncomputable def Bi(l:Lw)(x:kF)(i:Nat):Option (Int×Int):=match x.2.2.1[i]? with
 |none=>ae
 |some f=>if mr f.1=ag then aa (2,100+(i:Int))else if eB (x.2.2.1.take i) f.1 then aa (7,100+(i:Int))else if¬oY f.2 l.1.length then aa (8,100+(i:Int))else ae
noncomputable def Bj(l:Lw)(x:kF)(i:Nat):Option (Int×Int):=match x.2.2.2.1[i]? with
 |none=>ae
 |some f=>if mr f.1=ag then aa (2,200+(i:Int))else if eB x.2.2.1 f.1\/eB (x.2.2.2.1.take i) f.1 then aa (7,200+(i:Int))else if¬oY f.2 l.1.length then aa (8,200+(i:Int))else ae
noncomputable def vj(l:Lw)(x:kF):Option (Int×Int):=(cF (Bi l x) x.2.2.1.length).or (cF (Bj l x) x.2.2.2.1.length)
theorem SY(l:Lw)(k:Nat)(hk:k<l.2.2.length)(h1:l.2.2[k].2.2.1.length<=12)(h2:l.2.2[k].2.2.2.1.length<=12):M.iW aG l (k:Int)=aa (nO 3 k (vj l l.2.2[k])):=by
 obtain⟨x,hx⟩:∃x,x=l.2.2[k]:=⟨_,rfl⟩
 rw[<-hx]at h1 h2⊢;apply Wp.eq;unfold M.iW;simp only[aD hk,<-hx,vZ,cu,W_,au,av,reduceCtorEq]
 refine Wp.count (λs=>s) x.2.2.1.length (λi _=>∀j,j<i->Bi l x j=ae) (by omega) rfl (λj hj=>by omega) λi c hi hs hJ=>?_
 obtain rfl:c=_:=hs;simp only[W_,au,av,reduceCtorEq,aQ,aO];refine⟨λaJ=>?_,λhge=>?_⟩
 .have aJ:i<x.2.2.1.length:=by omega
  have hf:Bi l x i=if mr x.2.2.1[i].1=ag then aa (2,100+(i:Int))else if eB (x.2.2.1.take i) x.2.2.1[i].1 then aa (7,100+(i:Int))else if¬oY x.2.2.1[i].2 l.1.length then aa (8,100+(i:Int))else ae:=by
   unfold Bi;rw[aoA aJ]
  simp only[aD aJ,th x.2.2.1 i _ (by unfold maxLen;omega),oz (k:=i) (a:=100) (by omega) (by omega),bX (m:=x.2.2.1.length) (by omega) aJ,W_,au,av,reduceCtorEq]
  have res:∀c:Int,c≠0->Bi l x i=aa (c,100+(i:Int))->(¬c=0->(c,(3:Int),(k:Int),100+(i:Int))=nO 3 (k:Int) (vj l x))/\(c=0->i<x.2.2.1.length/\∀j,j<i+1->Bi l x j=ae):=λc h0 h=>⟨λ_=>by
   unfold vj
   rw[cU h hJ aJ];rfl,λh=>absurd h h0⟩
  grind
 have hJ:=bC.2 λj(hj:j<x.2.2.1.length)=>hJ j (by omega)
 refine Wp.count (λs=>s) x.2.2.2.1.length (λi _=>∀j,j<i->Bj l x j=ae) (by omega) rfl (λj hj=>by omega) λi c hi hs hI=>?_
 obtain rfl:c=_:=hs;simp only[W_,au,av,reduceCtorEq,aQ,aO];refine⟨λaJ=>?_,λhge=>?_⟩
 .have aJ:i<x.2.2.2.1.length:=by omega
  have hf:Bj l x i=if mr x.2.2.2.1[i].1=ag then aa (2,200+(i:Int))else if eB x.2.2.1 x.2.2.2.1[i].1\/eB (x.2.2.2.1.take i) x.2.2.2.1[i].1 then aa (7,200+(i:Int))else if¬oY x.2.2.2.1[i].2 l.1.length then aa (8,200+(i:Int))else ae:=by
   unfold Bj;rw[aoA aJ]
  simp only[aD aJ,th x.2.2.2.1 i _ (by unfold maxLen;omega),th x.2.2.1 x.2.2.1.length _ (by unfold maxLen;omega),ao3,oz (k:=i) (a:=200) (by omega) (by omega),bX (m:=x.2.2.2.1.length) (by omega) aJ,W_,au,av,reduceCtorEq]
  have res:∀c:Int,c≠0->Bj l x i=aa (c,200+(i:Int))->(¬c=0->(c,(3:Int),(k:Int),200+(i:Int))=nO 3 (k:Int) (vj l x))/\(c=0->i<x.2.2.2.1.length/\∀j,j<i+1->Bj l x j=ae):=λc h0 h=>⟨λ_=>by
   unfold vj
   rw[hJ,cU h hI aJ];rfl,λh=>absurd h h0⟩
  grind
 unfold vj;rw[hJ,bC.2 λj hj=>hI j (by omega)];rfl
def plain(s:ByteArray):Prop:=(∀i,∀h:i<s.size,32<=(s[i].toNat:Int)/\(s[i].toNat:Int)<=126/\(s[i].toNat:Int)≠34)/\s.size<=64
noncomputable instance(s:ByteArray):Decidable (plain s):=apU _
theorem PU(s:ByteArray)(hs:s.size<=100000):M.jA aG s=aa (decide (plain s)):=by
 apply Wp.eq;unfold M.jA
 refine Wp.count (λs=>s) s.size (λi _=>∀j,j<i->∀h:j<s.size,32<=(s[j].toNat:Int)/\(s[j].toNat:Int)<=126/\(s[j].toNat:Int)≠34) (by omega) rfl (λj hj=>by omega) λi c hi hs hJ=>?_
 obtain rfl:c=_:=hs;simp only[W_,au,av,reduceCtorEq,aQ,aO];refine⟨λaJ=>?_,λhge=>?_⟩
 .have aJ:i<s.size:=by omega
  have hb:lj s (i:Int)=aa (s[i].toNat:Int):=PL.1 (ql.2 ⟨by omega,rfl⟩);simp only[hb,bX (m:=s.size) (by omega) aJ,W_,au,av,reduceCtorEq]
  have no:¬(32<=(s[i].toNat:Int)/\(s[i].toNat:Int)<=126/\(s[i].toNat:Int)≠34)->¬plain s:=λh g=>h (g.1 i aJ)
  exact⟨λh=>no (by omega),λh=>⟨λh'=>no (by omega),λh'=>⟨λh2=>no (by omega),λh2=>⟨aJ,(by grind)⟩⟩⟩⟩
 .refine⟨λh=>⟨λj hj=>hJ j (by omega) hj,by omega⟩,λh=>?_⟩;have:=h.2;omega
theorem zS(f:List Fd)(hf:f.length<=100000):M.gu aG f=aa (f.map (·.2)):=by
 apply Wp.eq;unfold M.gu
 refine Wp.fold (λs=>s.1) (λs=>s.2) f (λ(o:List Ty)x=>o++[x.2]) [] (λk c=>c.length<=k) (by omega) rfl rfl (aoJ _) (λk s aJ hs hI=>?_) λs hs hc hI=>?_
 .obtain⟨i,o⟩:=s;dsimp only at hs hI;subst hs;simp only[tg aJ,aD aJ,bX (m:=f.length) (by omega) aJ,W_,au,av,reduceCtorEq,n6]
  grind [lB]
 .obtain⟨i,o⟩:=s;dsimp only at hs hc;subst hs;simp only[dB,W_,au,av,reduceCtorEq,n7];rw[hc]
  have:∀(f:List Fd)(o:List Ty),f.foldl (λ(o:List Ty)x=>o++[x.2]) o=o++f.map (·.2):=by
   intro f
   induction f with
   |nil=>intro o;simp
   |cons x f ih=>grind
  rw[this];rfl
def fx(l:Lw)(x:kF):rv:=(l.1,(l.2.1,(x.2.2.1.map (·.2),(x.2.2.2.1.map (·.2),(match l.2.2[(x.2.1:Int).toNat]? with
 |some y=>if 0<=(x.2.1:Int)then y.2.2.2.1.map (·.2)else[]
 |none=>[],decide (0<=(x.2.1:Int)/\(x.2.1:Int)<(l.2.2.length:Int)))))))
theorem Kp(l:Lw)(k:Nat)(hk:k<l.2.2.length)(hs:∀s∈l.2.2,s.2.2.1.length<=100000/\s.2.2.2.1.length<=100000):M.gY aG l (k:Int)=aa ((fx l l.2.2[k]).1,(fx l l.2.2[k]).2.1,(fx l l.2.2[k]).2.2.2.2.2,(fx l l.2.2[k]).2.2.1,(fx l l.2.2[k]).2.2.2.1,(fx l l.2.2[k]).2.2.2.2.1):=by
 apply Wp.eq;unfold M.gY;have h1:=hs _ (aoG hk);simp only[show¬(k:Int)<0 by omega,show¬(l.2.2.length:Int)<=(k:Int) by omega,aD hk,zS _ h1.1,zS _ h1.2,W_,au,av,reduceCtorEq];unfold fx;generalize l.2.2[k]=x at*;obtain⟨x1,(x2:Int),x3,x4,x5⟩:=x;dsimp only[aB,Row.den]at*;refine⟨λh=>⟨λh'=>?_,λh'=>?_⟩,λh=>?_⟩
 .refine ee.2 ⟨by omega,?_⟩
  have hi:x2.toNat<l.2.2.length:=by omega
  simp only[zS _ (hs _ (aoG hi)).2,W_,au,av,reduceCtorEq,aoA hi,h,h',if_true]
 .rw[List.getElem?_eq_none (by omega)];simp only[h',W_,au,av,reduceCtorEq]
 .simp only[h,W_,au,av,reduceCtorEq]
  split<;>rfl
end L
namespace L
noncomputable def rf(e:List Ty)(s:rv)(want:Ty):Int:=if(Hm e s).2.2≠0 then(Hm e s).2.2 else if(Hm e s).1≠want then 8 else 0
theorem Kq{e:List Ty}{s:rv}(want:Ty)(hw:∀n∈e,WF aA n):M.fk aG e s want=aa (rf e s want):=by
 apply Wp.eq;unfold M.fk;simp only[WJ hw,Ke,W_,au,av,reduceCtorEq]
 grind [rf]
def yq(x:kF)(k:Nat)(d:Int):Nat:=(x.2.2.2.2.take k).countP λr=>decide ((r.2.1:Int)=d)
def rW(x:kF)(k:Nat)(r:jC):Prop:=(r.2.2.1:Int)≠-1/\((r.2.2.1:Int)<0\/(k:Int)<=r.2.2.1\/∃y,x.2.2.2.2[(r.2.2.1:Int).toNat]? =aa y/\(y.2.1:Int)≠r.2.1)
noncomputable instance(x:kF)(k:Nat)(r:jC):Decidable (rW x k r):=apU _
noncomputable def uC(l:Lw)(x:kF)(k:Nat)(r:jC):Int:=
 if mr r.1=ag then 2 else if eB (x.2.2.2.2.take k) r.1 then 7 else if¬(0<=(r.2.1:Int)/\(r.2.1:Int)<(x.2.2.2.1.length:Int))then 6 else if rW x k r then 9 else
 if(r.2.2.2.1:Int)<0\/9<(r.2.2.2.1:Int)\/¬VR r.2.2.2.2.1\/(r.2.2.2.2.1.1:Int)=r.2.2.2.2.1.2 then 3 else if 8<=yq x k r.2.1 then 4 else if¬plain r.2.2.2.2.2.2.2 then 2 else
 if 0<r.2.2.2.2.2.1.length/\rf r.2.2.2.2.2.1 (fx l x) ((1:Int),(0:Int))≠0 then rf r.2.2.2.2.2.1 (fx l x) ((1:Int),(0:Int))else
 match x.2.2.2.1[(r.2.1:Int).toNat]? with
 |some d=>rf r.2.2.2.2.2.2.1 (fx l x) d.2
 |none=>0
theorem SZ(l:Lw)(hw:WF cQ l)(oC:lE l)(i:Nat)(hi:i<l.2.2.length)(k:Nat)(hk:k<l.2.2[i].2.2.2.2.length):M.jB aG l (i:Int) (k:Int)=aa (uC l l.2.2[i] k l.2.2[i].2.2.2.2[k]):=by
 have PV:=Kp l i hi λs hs=>⟨by have:=(oC.2.2.2.2.2 s hs).2.1;omega,by have:=(oC.2.2.2.2.2 s hs).2.2.1;omega⟩
 have sq:=oC.2.2.2.2.2 _ (aoG hi);have MH:=hw.2.2.2 _ (aoG hi)
 obtain⟨x,hx⟩:∃x,x=l.2.2[i]:=⟨_,rfl⟩
 simp only[<-hx]at hk PV sq MH⊢;have NE:=MH.2.2.2.2.2 _ (aoG hk);have Dw:=sq.2.2.2.2.2.2 _ (aoG hk)
 obtain⟨r,hr⟩:∃r,r=x.2.2.2.2[k]:=⟨_,rfl⟩
 have WN:=sq.2.2.2.1;apply Wp.eq;unfold M.jB;simp only[aD hi,<-hx,aD hk,<-hr,vZ,Kh,W_,au,av,reduceCtorEq];simp only[<-hr]at NE Dw;unfold uC;refine⟨λh=>by rw[aj h],λh1=>?_⟩;rw[ai (c:=mr r.1=ag) (by simp[h1])]
 refine Wp.count (λs=>s.2) k (λj s=>(∀q,q<j->∀h:q<x.2.2.2.2.length,¬(x.2.2.2.2[q].1:ByteArray)=r.1)/\s.1=(((x.2.2.2.2.take j).countP λr'=>decide ((r'.2.1:Int)=r.2.1):Nat):Int)) (by omega) rfl ⟨λj hj=>by omega,rfl⟩ λj s hj hs hJ=>?_
 obtain⟨sb,c⟩:=s;dsimp only at hs hJ;subst hs;obtain⟨hJ,S0⟩:=hJ;have AN:(x.2.2.2.2.take j).countP (λr'=>decide ((r'.2.1:Int)=r.2.1))<=60:=Nat.le_trans List.countP_le_length (by grind);simp only[W_,au,av,reduceCtorEq,aQ,aO];refine⟨λRn=>?_,λRn=>?_⟩
 .have wY:j<x.2.2.2.2.length:=by omega
  simp only[aD wY,bX (m:=k) (by omega) (show j<k by omega),W_,au,av,reduceCtorEq];refine⟨λh=>?_,λh=>?_⟩
  .grind [n8]
  have VH:(x.2.2.2.2.take (j+1)).countP (λr'=>decide ((r'.2.1:Int)=r.2.1))=(x.2.2.2.2.take j).countP (λr'=>decide ((r'.2.1:Int)=r.2.1))+if(x.2.2.2.2[j].2.1:Int)=r.2.1 then 1 else 0:=by
   rw[<-List.take_append_getElem wY,List.countP_append];simp[List.countP_cons]
  refine⟨λh'=>⟨by omega,ef hJ λ_=>h,?_⟩,(by grind)⟩
  all_goals grind [aE]
 obtain rfl:j=k:=by omega
 rw[ai (c:=eB (x.2.2.2.2.take j) r.1) (λh=>by grind [n8])];clear hJ;have AN:yq x j r.2.1<=60:=AN;have S0:sb=(yq x j r.2.1:Int):=S0;clear hk hr Rn hj;generalize yq x j r.2.1=q at*;subst S0;have pS:=Dw.2.1;have hg:=NE.2.2.2.2.2.1.2;have hv:=NE.2.2.2.2.2.2.1.2;have NF:rW x j r↔(r.2.2.1:Int)≠-1/\((r.2.2.1:Int)<0\/(j:Int)<=r.2.2.1\/∃y,x.2.2.2.2[(r.2.2.1:Int).toNat]? =aa y/\(y.2.1:Int)≠r.2.1):=Iff.rfl;clear NE Dw;obtain⟨nm,(d:Int),(p:Int),(pr:Int),v,g,val,src⟩:=r;dsimp only[aB,Row.den]at*
 have rest:0<=d->d<(x.2.2.2.1.length:Int)->Wp (if decide (pr<0)=af then aa af else if decide (9<pr)=af then aa af else if¬VR v then aa af else aa (decide ((v.1:Int)=v.2))) (λsD=>Wp (if sD=af then aa (3:Int)else if decide ((8:Int)<=(q:Int))=af then aa 4 else(M.jA aG src).bind λlz=>if(!lz)=af then aa (2:Int)else(M.gY aG l (i:Int)).bind λlv=>bx (J:=Unit) (R:=Int) (if decide (0<(g.length:Int))=af then(M.fk aG g (lv.1,(lv.2.1,(lv.2.2.2.1,(lv.2.2.2.2.1,(lv.2.2.2.2.2,lv.2.2.1))))) ((1:Int),(0:Int))).bind λvy=>if(!decide (vy=0))=af then aa (aoV vy)else aa (ao4 ())else aa (ao4 ())) λ_=>(idx x.2.2.2.1 d).bind λuN=>(M.fk aG val (lv.1,(lv.2.1,(lv.2.2.2.1,(lv.2.2.2.2.1,(lv.2.2.2.2.2,lv.2.2.1))))) uN.2).bind λIw=>aa Iw)
  (· =if pr<0\/9<pr\/¬VR v\/(v.1:Int)=v.2 then 3 else if 8<=q then 4 else if¬plain src then 2 else if 0<g.length/\rf g (fx l x) ((1:Int),(0:Int))≠0 then rf g (fx l x) ((1:Int),(0:Int))else match x.2.2.2.1[d.toNat]? with
    |some d=>rf val (fx l x) d.2
    |none=>0)):=by
  intro XT ye
  refine Wp.mono (Q:=λsD=>sD=af↔pr<0\/9<pr\/¬VR v\/(v.1:Int)=v.2) (by simp only[W_,au,av,reduceCtorEq];grind) λsD h12=>?_
  by_cases g1:pr<0\/9<pr\/¬VR v\/(v.1:Int)=v.2
  .rw[aj g1,aj (h12.2 g1)];exact .some rfl
  rw[ai g1,ai λh=>g1 (h12.1 h)];by_cases g2:8<=q
  .rw[aj (ao (by omega)),aj g2];exact .some rfl
  rw[ai (by rw[ax];omega),ai g2,PU _ (by omega),aoy];by_cases g3:¬plain src
  .rw[aj (by simp[g3]),aj g3];exact .some rfl
  rw[ai (by simpa using g3),ai g3,PV,aoy]
  have hd:d.toNat<x.2.2.2.1.length:=by omega
  have last:Wp ((idx x.2.2.2.1 d).bind λuN=>(M.fk aG val (fx l x) uN.2).bind λIw=>aa Iw) (· =match x.2.2.2.1[d.toNat]? with
   |some d=>rf val (fx l x) d.2
   |none=>0):=by
   rw[wp_bind];refine ee.2 ⟨by omega,?_⟩;rw[Kq _ hv,aoA hd];exact .some rfl
  rw[yL];by_cases g4:0<g.length
  .rw[aj (by simpa using g4),wp_bind,show((fx l x).1,((fx l x).2.1,((fx l x).2.2.1,((fx l x).2.2.2.1,((fx l x).2.2.2.2.1,(fx l x).2.2.2.2.2)))))=fx l x from rfl,Kq _ hg];refine .some ?_;by_cases g5:rf g (fx l x) ((1:Int),(0:Int))=0
   .rw[ai (by simp[g5]),ai (λh=>h.2 g5)];exact .some last
   .rw[aj (by simp[g5]),aj ⟨g4,g5⟩];exact .some rfl
  .rw[ai (by simpa using g4),ai (λh=>g4 h.1)];exact .some last
 simp only[W_,au,av,reduceCtorEq]at rest;refine⟨λh=>by rw[aj (c:=¬(0<=d/\d<(x.2.2.2.1.length:Int))) (by omega)],λh2=>⟨(by grind),λh3=>?_⟩⟩;rw[ai (c:=¬(0<=d/\d<(x.2.2.2.1.length:Int))) (by omega)];have rest:=rest (by omega) (by omega)
 have AM:j<x.2.2.2.2.length:=by rw[hx];exact hk
 refine⟨λhp=>⟨λh=>by rw[aj (NF.2 ⟨hp, .inl h⟩)],λh=>⟨λh'=>by rw[aj (NF.2 ⟨hp, .inr (.inl h')⟩)],λh'=>ee.2 ⟨⟨by omega,by omega⟩,(by grind),λh5=>?_⟩⟩⟩,λhp=>?_⟩
 .rw[ai (λh=>by
   obtain⟨_,g1|g1|⟨y,g1,g2⟩⟩:=NF.1 h
   .omega
   .omega
   .rw[aoA (by omega)]at g1;cases g1
    exact g2 h5)]
  exact rest
 .rw[ai (λh=>(NF.1 h).1 hp)];exact rest
noncomputable def xm(l:Lw)(x:kF)(k:Nat):Option (Int×Int):=match x.2.2.2.2[k]? with
 |none=>ae
 |some r=>if uC l x k r≠0 then aa (uC l x k r,300+(k:Int))else ae
noncomputable def yr(x:kF)(d:Nat):Option (Int×Int):=if(d:Int)∈Dx x d then aa (9,200+(d:Int))else ae
def rX(l:Lw)(k:Nat)(x:kF):Prop:=(x.2.1:Int)≠-1/\((x.2.1:Int)<0\/(k:Int)<=x.2.1\/∃y,l.2.2[(x.2.1:Int).toNat]? =aa y/\(y.2.1:Int)≠-1)
noncomputable instance(l:Lw)(k:Nat)(x:kF):Decidable (rX l k x):=apU _
noncomputable def rY(l:Lw)(k:Nat):Option (Int×Int):=match l.2.2[k]? with
 |none=>ae
 |some x=>
  if mr x.1=ag then aa (2,0)else if eB l.1 x.1\/eB l.2.1 x.1\/eB (l.2.2.take k) x.1 then aa (7,0)else if rX l k x then aa (6,0)else
  if 12<x.2.2.1.length then aa (4,112)else if 12<x.2.2.2.1.length then aa (4,212)else((vj l x).or (cF (xm l x) x.2.2.2.2.length)).or (cF (yr x) x.2.2.2.1.length)
theorem FW{l:Lw}{x:kF}{e:Int×Int}(h:vj l x=aa e):e.1≠0:=by
 grind [gm,vj,Bi,Bj,Option.or_eq_some_iff]
theorem Kr(x:kF)(d:Int):uB x.2.2.2.1.length (Dx x d):=by
 have:∀m,uB x.2.2.2.1.length (nz x m (lC x d)):=λm=>by
  induction m with
  |zero=>exact kG x d
  |succ m ih=>exact uf x ih
 exact this _
theorem S3(l:Lw)(hw:WF cQ l)(oC:lE l)(k:Nat)(hk:k<l.2.2.length):M.k7 aG l (k:Int)=aa (nO 3 k (rY l k)):=by
 have sq:=oC.2.2.2.2.2 _ (aoG hk);have Z9:=SZ l hw oC k hk;have aaa:=SY l k hk
 have hE:rY l k=if mr l.2.2[k].1=ag then aa (2,0)else if eB l.1 l.2.2[k].1\/eB l.2.1 l.2.2[k].1\/eB (l.2.2.take k) l.2.2[k].1 then aa (7,0)else if rX l k l.2.2[k]then aa (6,0)else
  if 12<l.2.2[k].2.2.1.length then aa (4,112)else if 12<l.2.2[k].2.2.2.1.length then aa (4,212)else((vj l l.2.2[k]).or (cF (xm l l.2.2[k]) l.2.2[k].2.2.2.2.length)).or (cF (yr l.2.2[k]) l.2.2[k].2.2.2.1.length):=by
  unfold rY;rw[aoA hk]
 have hn3:=nt3 l hw k l.2.2[k].1
 obtain⟨x,hx⟩:∃x,x=l.2.2[k]:=⟨_,rfl⟩
 simp only[<-hx]at sq Z9 aaa hE hn3;have h5:=oC.2.2.1;have Rq:=sq.2.2.1;have WN:=sq.2.2.2.1;apply Wp.eq;unfold M.k7;simp only[aD hk,<-hx,vZ,WL x sq.few,W_,au,av,reduceCtorEq];rw[hE];refine⟨λh=>by rw[aj h];rfl,λh1=>?_⟩;rw[ai (c:=mr x.1=ag) (by simp[h1])]
 refine hn3.mono λr hr=>?_
 refine⟨λh=>by rw[aj (hr.1 h)];rfl,λh2=>?_⟩;rw[ai (c:=eB l.1 x.1\/eB l.2.1 x.1\/eB (l.2.2.take k) x.1) ((isT hr).1 (by simpa using h2))];clear hn3 hr h2 r
 have rest:Wp ((if(decide ((12:Int)<(x.2.2.1.length:Int)))=af then
  some ((4:Int),((3:Int),((k:Int),(112:Int))))
  else
  (if(decide ((12:Int)<(x.2.2.2.1.length:Int)))=af then
  some ((4:Int),((3:Int),((k:Int),(212:Int))))
  else
  (M.iW aG l (k:Int)).bind λy6=>
  (if(!decide (y6.1=(0:Int)))=af then
  some y6
  else
  bx (J:=Unit) (R:=aF.den) (Loop (S:=Int) (X:=(Unit)⊕(aF.den)) (λs8=>
  (if(decide (s8<(x.2.2.2.2.length:Int)))=af then
  (M.jB aG l (k:Int) s8).bind λy9=>
  (if(!decide (y9=(0:Int)))=af then
  some (aoV (aoV (y9,((3:Int),((k:Int),aoz.wrap ((300:Int)+s8))))))
  else
  some (ao4 (aoz.wrap (s8+(1:Int)))))
  else
  some (aoV (ao4 ())))) aG (0:Int)) λj7=>
  bx (J:=Unit) (R:=aF.den) (Loop (S:=Int) (X:=(Unit)⊕(aF.den)) (λnL=>
  (if(decide (nL<(x.2.2.2.1.length:Int)))=af then
  bx (J:=Unit) (R:=(Int)⊕((Unit)⊕(aF.den))) ((aa (Dx x nL)).bind λpT=>
  Loop (S:=Int) (X:=(Unit)⊕((Int)⊕((Unit)⊕(aF.den)))) (λrL=>
  (if(decide (rL<(pT.length:Int)))=af then
  (idx pT rL).bind λub=>
  (if(decide (ub=nL))=af then
  some (aoV (aoV (aoV (aoV ((9:Int),((3:Int),((k:Int),aoz.wrap ((200:Int)+nL))))))))
  else
  some (ao4 (aoz.wrap (rL+(1:Int)))))
  else
  some (aoV (ao4 ())))) aG (0:Int)) λsD=>
  some (ao4 (aoz.wrap (nL+(1:Int))))
  else
  some (aoV (ao4 ())))) aG (0:Int)) λsx=>
  some ((0:Int),((0:Int),((0:Int),(0:Int))))))):Option aF.den) (· =nO 3 (k:Int) (if 12<x.2.2.1.length then aa (4,112)else if 12<x.2.2.2.1.length then aa (4,212)else((vj l x).or (cF (xm l x) x.2.2.2.2.length)).or (cF (yr x) x.2.2.2.1.length))):=by
  by_cases h3:12<x.2.2.1.length
  .rw[aj h3,aj (ao (by omega))];exact .some rfl
  rw[ai h3,ai (by rw[ax];omega)];by_cases h4:12<x.2.2.2.1.length
  .rw[aj h4,aj (ao (by omega))];exact .some rfl
  rw[ai h4,ai (by rw[ax];omega),aaa (by omega) (by omega),aoy]
  cases hf:vj l x with
  |some e=>
   have:=FW hf;rw[aj (by show(!decide (e.1=0))=af;simp[this])];exact .some rfl
  |none=>
   rw[ai (by simp[nO,Rp]),Option.none_or];simp only[W_,au,av,reduceCtorEq]
   refine Wp.count (λs=>s) x.2.2.2.2.length (λi _=>∀j,j<i->xm l x j=ae) (by omega) rfl (λj hj=>by omega) λi c hi hs hJ=>?_
   obtain rfl:c=_:=hs;simp only[W_,au,av,reduceCtorEq,aQ,aO];refine⟨λaJ=>?_,λhge=>?_⟩
   .have aJ:i<x.2.2.2.2.length:=by omega
    have hr:xm l x i=if uC l x i x.2.2.2.2[i]≠0 then aa (uC l x i x.2.2.2.2[i],300+(i:Int))else ae:=by
     unfold xm;rw[aoA aJ]
    simp only[Z9 i aJ,oz (k:=i) (a:=300) (by omega) (by omega),bX (m:=x.2.2.2.2.length) (by omega) aJ,W_,au,av,reduceCtorEq];refine⟨λh=>?_,(by grind)⟩;rw[cU (hr.trans (aj h)) hJ aJ];rfl
   rw[bC.2 λj hj=>hJ j (by omega),Option.none_or];clear hJ
   refine Wp.count (λs=>s) x.2.2.2.1.length (λi _=>∀j,j<i->yr x j=ae) (by omega) rfl (λj hj=>by omega) λi c hi hs hJ=>?_
   obtain rfl:c=_:=hs;simp only[W_,au,av,reduceCtorEq,aQ,aO];refine⟨λaJ=>?_,λhge=>?_⟩
   .have aJ:i<x.2.2.2.1.length:=by omega
    have hlen:=(Kr x i).len
    refine Wp.count (λs=>s) (Dx x i).length (λj _=>∀q,q<j->∀h:q<(Dx x i).length,¬(Dx x i)[q]=(i:Int)) (by omega) rfl (λj hj=>by omega) λj c hj hs hI=>?_
    obtain rfl:c=_:=hs;simp only[W_,au,av,reduceCtorEq,aQ,aO,oz (k:=i) (a:=200) (by omega) (by omega),bX (m:=x.2.2.2.1.length) (by omega) aJ];refine⟨λwY=>?_,λwY=>⟨aJ,ef hJ ?_⟩⟩
    .have wY:j<(Dx x i).length:=by omega
     simp only[aD wY,bX (m:=(Dx x i).length) (by omega) wY,W_,au,av,reduceCtorEq];refine⟨λh=>?_,(by grind)⟩;rw[cU (show yr x i=aa (9,200+(i:Int))from aj (List.mem_of_getElem h)) hJ aJ];rfl
    .unfold yr;rw[ai]
     grind [aoS]
   .rw[bC.2 λj hj=>hJ j (by omega)];rfl
 simp only[W_,au,av,reduceCtorEq]at rest;have NG:rX l k x↔(x.2.1:Int)≠-1/\((x.2.1:Int)<0\/(k:Int)<=x.2.1\/∃y,l.2.2[(x.2.1:Int).toNat]? =aa y/\(y.2.1:Int)≠-1):=Iff.rfl;refine⟨λhp=>⟨λh=>by rw[aj (NG.2 ⟨hp, .inl h⟩)];rfl,λh=>⟨λh'=>by rw[aj (NG.2 ⟨hp, .inr (.inl h')⟩)];rfl,λh'=>?_⟩⟩,λhp=>?_⟩
 .obtain⟨(m:Int),hm⟩:∃m:Int,m=x.2.1:=⟨_,rfl⟩
  have XU:m.toNat<l.2.2.length:=by dsimp only[aB,Row.den]at*;omega
  refine ee.2 ⟨by dsimp only[aB,Row.den]at*;omega,λh5=>by rw[aj (NG.2 ⟨hp, .inr (.inr ⟨_,aoA (hm▸XU),h5⟩)⟩)];rfl,λh5=>?_⟩
  rw[ai (λh=>by
   obtain⟨_,g1|g1|⟨y,g1,g2⟩⟩:=NG.1 h
   .exact absurd g1 ‹_›
   .exact absurd g1 h'
   .rw[aoA (hm▸XU)]at g1;cases g1
    exact g2 h5)]
  exact rest
 grind
noncomputable def sF(l:Lw):LE:=
 if 8<l.1.length then((4:Int),((1:Int),((8:Int),(0:Int))))else match cF (λk=>(oN l k).map λe=>(k,e)) l.1.length with
 |some (k,e)=>nO 1 (k:Int) (aa e)
 |none=>if 8<l.2.1.length then((4:Int),((2:Int),((8:Int),(0:Int))))else match cF (λk=>(pW l k).map λe=>(k,e)) l.2.1.length with
  |some (k,e)=>nO 2 (k:Int) (aa e)
  |none=>if 4<l.2.2.length then((4:Int),((3:Int),((4:Int),(0:Int))))else match cF (λk=>(rY l k).map λe=>(k,e)) l.2.2.length with
   |some (k,e)=>nO 3 (k:Int) (aa e)
   |none=>Rp
theorem vl{f:Nat->Option (Int×Int)}(hf:∀i e,f i=aa e->e.1≠0){m:Nat}{e:Int×Int}(h:cF f m=aa e):e.1≠0:=by
 grind [gm]
theorem ug{l:Lw}{k:Nat}{e:Int×Int}(h:oN l k=aa e):e.1≠0:=by
 grind [oN,vl,Dy]
theorem zT{l:Lw}{k:Nat}{e:Int×Int}(h:pW l k=aa e):e.1≠0:=by
 grind [pW]
theorem zU{l:Lw}{k:Nat}{e:Int×Int}(h:rY l k=aa e):e.1≠0:=by
 unfold rY at h
 repeat' split at h
 all_goals first|cases h|skip
 all_goals first|simp;done|skip
 rcases Option.or_eq_some_iff.1 h with h|⟨_,h⟩
 .rcases Option.or_eq_some_iff.1 h with h|⟨_,h⟩
  all_goals grind [FW,vl,xm]
 grind [vl,yr]
theorem vm{sec k:Int}{o:Option (Int×Int)}(h:∀e,o=aa e->e.1≠0):(nO sec k o).1=0↔o=ae:=by
 cases o with
 |none=>exact⟨λ_=>rfl,λ_=>rfl⟩
 |some e=>exact⟨λg=>absurd g (h e rfl),λg=>by cases g⟩
theorem MI{f:Nat->Option (Int×Int)}{k:Nat}{e:Int×Int}(h:f k=aa e):(λk=>(f k).map λe=>(k,e)) k=aa (k,e):=by simp[h]
theorem WO{f:Nat->Option (Int×Int)}{k:Nat}(h:f k=ae):(λk=>(f k).map λe=>(k,e)) k=ae:=by simp[h]
theorem S4(l:Lw)(hw:WF cQ l)(oC:lE l):M.nk aG l=aa (sF l):=by
 apply Wp.eq;obtain⟨h9,h9',h5,_⟩:=oC;unfold M.nk;simp only[W_,au,av,reduceCtorEq];refine⟨λh=>by unfold sF;grind,λh8=>?_⟩
 refine Wp.count (λs=>s) l.1.length (λi _=>∀j,j<i->(λk=>(oN l k).map λe=>(k,e)) j=ae) (by omega) rfl (λj hj=>by omega) λi c hi hs hJ=>?_
 obtain rfl:c=_:=hs;simp only[W_,au,av,reduceCtorEq,aQ,aO];refine⟨λaJ=>?_,λhge=>?_⟩
 .have aJ:i<l.1.length:=by omega
  simp only[PT l hw i aJ,bX (m:=l.1.length) (by omega) aJ,W_,au,av,reduceCtorEq,vm λe he=>ug he];refine⟨λh=>?_,(by grind)⟩;obtain⟨e,he⟩:=aqA.1 h;unfold sF;rw[ai (by omega),cU (MI he) hJ aJ,he]
 have hA:=bC.2 λj(hj:j<l.1.length)=>hJ j (by omega)
 clear hJ;refine⟨λh=>by grind [sF],λh8'=>?_⟩
 refine Wp.count (λs=>s) l.2.1.length (λi _=>∀j,j<i->(λk=>(pW l k).map λe=>(k,e)) j=ae) (by omega) rfl (λj hj=>by omega) λi c hi hs hJ=>?_
 obtain rfl:c=_:=hs;simp only[W_,au,av,reduceCtorEq,aQ,aO];refine⟨λaJ=>?_,λhge=>?_⟩
 .have aJ:i<l.2.1.length:=by omega
  simp only[SX l hw i aJ,bX (m:=l.2.1.length) (by omega) aJ,W_,au,av,reduceCtorEq,vm λe he=>zT he];refine⟨λh=>?_,(by grind)⟩;obtain⟨e,he⟩:=aqA.1 h;unfold sF;rw[ai (by omega),hA];dsimp only;rw[ai (by omega),cU (MI he) hJ aJ,he]
 have hB:=bC.2 λj(hj:j<l.2.1.length)=>hJ j (by omega)
 clear hJ;refine⟨λh=>by grind [sF],λh4=>?_⟩
 refine Wp.count (λs=>s) l.2.2.length (λi _=>∀j,j<i->(λk=>(rY l k).map λe=>(k,e)) j=ae) (by omega) rfl (λj hj=>by omega) λi c hi hs hJ=>?_
 obtain rfl:c=_:=hs;simp only[W_,au,av,reduceCtorEq,aQ,aO];refine⟨λaJ=>?_,λhge=>?_⟩
 .have aJ:i<l.2.2.length:=by omega
  simp only[S3 l hw ⟨h9,h9',h5,‹_›⟩ i aJ,bX (m:=l.2.2.length) (by omega) aJ,W_,au,av,reduceCtorEq,vm λe he=>zU he];refine⟨λh=>?_,(by grind)⟩;obtain⟨e,he⟩:=aqA.1 h;unfold sF;rw[ai (by omega),hA];dsimp only;rw[ai (by omega),hB];dsimp only;rw[ai (by omega),cU (MI he) hJ aJ,he]
 have hC:=bC.2 λj(hj:j<l.2.2.length)=>hJ j (by omega)
 unfold sF;rw[ai (by omega),hA];dsimp only;rw[ai (by omega),hB];dsimp only;rw[ai (by omega),hC];rfl
def Valid(l:Lw):Prop:=(sF l).1=0
noncomputable instance(l:Lw):Decidable (Valid l):=apU _
theorem Valid.scopes{l:Lw}(h:Valid l):l.1.length<=8/\l.2.1.length<=8/\l.2.2.length<=4/\(∀k,k<l.1.length->oN l k=ae)/\(∀k,k<l.2.1.length->pW l k=ae)/\∀k,k<l.2.2.length->rY l k=ae:=by
 unfold Valid sF at h;split at h
 .cases h
 split at h
 .rename_i k e hf;obtain⟨j,_,hj,_⟩:=gm hf;obtain⟨e',Ph,h2⟩:=Option.map_eq_some_iff.1 hj;cases h2;exact absurd h (ug Ph)
 rename_i hA;split at h
 .cases h
 split at h
 .rename_i k e hf;obtain⟨j,_,hj,_⟩:=gm hf;obtain⟨e',Ph,h2⟩:=Option.map_eq_some_iff.1 hj;cases h2;exact absurd h (zT Ph)
 rename_i hB;split at h
 .cases h
 split at h
 .rename_i k e hf;obtain⟨j,_,hj,_⟩:=gm hf;obtain⟨e',Ph,h2⟩:=Option.map_eq_some_iff.1 hj;cases h2;exact absurd h (zU Ph)
 rename_i hC;exact⟨by omega,by omega,by omega,λk hk=>by simpa using bC.1 hA k hk,λk hk=>by simpa using bC.1 hB k hk,λk hk=>by simpa using bC.1 hC k hk⟩
theorem Valid.scope{l:Lw}(h:Valid l)(k:Nat)(hk:k<l.2.2.length):mr l.2.2[k].1=af/\¬eB (l.2.2.take k) l.2.2[k].1/\¬rX l k l.2.2[k]/\l.2.2[k].2.2.1.length<=12/\l.2.2[k].2.2.2.1.length<=12/\vj l l.2.2[k]=ae/\
 (∀i,∀hi:i<l.2.2[k].2.2.2.2.length,uC l l.2.2[k] i l.2.2[k].2.2.2.2[i]=0)/\∀d:Nat,d<l.2.2[k].2.2.2.1.length->¬(d:Int)∈Dx l.2.2[k] d:=by
 have h:=h.scopes.2.2.2.2.2 k hk;unfold rY at h;rw[aoA hk]at h
 grind [bC,xm,yr]
end L
namespace L
def gV{α:Type}(p:α->Bool)(l:List α):Int:=if l.findIdx p<l.length then((l.findIdx p:Nat):Int)else-1
theorem Dz{α:Type}{p:α->Bool}{l:List α}{k:Nat}(hk:k<l.length)(hp:p l[k]=af)(hn:∀j,j<k->∀h:j<l.length,p l[j]=ag):gV p l=(k:Int):=by
 grind [gV]
theorem Cj{α:Type}{p:α->Bool}{l:List α}(hn:∀j,∀h:j<l.length,p l[j]=ag):gV p l= -1:=by
 grind [gV]
theorem qp{α:Type}{p:α->Bool}{l:List α}:0<=gV p l↔∃x∈l,p x=af:=by
 grind [gV]
theorem zV{α Y:Type}{l:List α}{y:Y}{p:α->Bool}{body:Int×Y->Option ((Int×Y)⊕(Int×Y))}(hl:l.length<=maxLen)
 (hb:∀k,∀h:k<l.length,body ((k:Int),y)=if p l[k]=af then aa (.inr ((k:Int),y))else aa (.inl (aoz.wrap ((k:Int)+1),y)))
 (he:body ((l.length:Int),y)=aa (.inr ((-1:Int),y))):Loop body aG ((0:Int),y)=aa (gV p l,y):=by
 apply Wp.eq
 refine Wp.count (λs=>s.1) l.length (λk s=>s.2=y/\∀j,j<k->∀h:j<l.length,p l[j]=ag) hl rfl ⟨rfl,λj hj=>by omega⟩ λk c hk hs hJ=>?_
 obtain⟨c1,c2⟩:=c;obtain⟨h1,hJ⟩:=hJ;obtain rfl:c2=y:=h1;obtain rfl:c1=_:=hs
 rcases aph k l.length with aJ|hge
 .rw[hb k aJ];simp only[W_,au,av,reduceCtorEq,aQ,aO,bX hl aJ];exact⟨λh=>by rw[Dz aJ h hJ],(by grind)⟩
 .obtain rfl:k=l.length:=by omega
  rw[he];simp only[W_,au,av,reduceCtorEq,aO];rw[Cj λj h=>hJ j h h]
theorem DA{α:Type}{l:List α}{p:α->Bool}{body:Int->Option (Int⊕Int)}(hl:l.length<=maxLen)
 (hb:∀k,∀h:k<l.length,body (k:Int)=if p l[k]=af then aa (.inr (k:Int))else aa (.inl (aoz.wrap ((k:Int)+1))))
 (he:body (l.length:Int)=aa (.inr (-1:Int))):Loop body aG (0:Int)=aa (gV p l):=by
 apply Wp.eq
 refine Wp.count (λs=>s) l.length (λk _=>∀j,j<k->∀h:j<l.length,p l[j]=ag) hl rfl (λj hj=>by omega) λk c hk hs hJ=>?_
 obtain rfl:c=_:=hs
 rcases aph k l.length with aJ|hge
 .rw[hb k aJ];simp only[W_,au,av,reduceCtorEq,aQ,aO,bX hl aJ];exact⟨λh=>by rw[Dz aJ h hJ],(by grind)⟩
 .obtain rfl:k=l.length:=by omega
  rw[he];simp only[W_,au,av,reduceCtorEq,aO];rw[Cj λj h=>hJ j h h]
theorem tn{e:Row}{l:List e.den}{x:e.den}(h:x∈l):eg e x<=eg (.slice e) l:=by
 show eg e x<=(l.map (eg e)).sum+1
 induction l<;>grind
theorem lR{e:Row}(l:List e.den):l.length<=eg (.slice e) l:=by
 show l.length<=(l.map (eg e)).sum+1
 induction l with
 |nil=>simp
 |cons y l ih=>
  grind [Eo]
structure PW(l:Lw):Prop where
 en:∀e∈l.1,e.2.length<=1048576
 tb:∀t∈l.2.1,t.2.2.2.length<=1048576
 ru:∀s∈l.2.2,∀r∈s.2.2.2.2,r.2.2.2.2.2.1.length<=1048576/\r.2.2.2.2.2.2.1.length<=1048576
 en':l.1.length<=1048576
 tb':l.2.1.length<=1048576
 sc':l.2.2.length<=1048576
 sc:∀s∈l.2.2,s.2.2.1.length<=1048576/\s.2.2.2.1.length<=1048576/\s.2.2.2.2.length<=1048576
theorem PW.of{l:Lw}(h:eg cQ l<=1048576):PW l:=by
 have e1:eg cQ l=eg (.slice bA) l.1+(eg (.slice aP) l.2.1+eg (.slice aU) l.2.2):=rfl;rw[e1]at h;refine⟨λe he=>?_,λt ht=>?_,λs hs r hr=>?_,?_,?_,?_,λs hs=>?_⟩
 .have h1:=tn he;have h2:=lR (e:= .str) e.2;have h3:eg bA e=eg .str e.1+eg (.slice .str) e.2:=rfl;omega
 .have h1:=tn ht;have h2:=lR (e:=dM) t.2.2.2;have h3:eg aP t=eg .str t.1+(eg aA t.2.1+(eg aA t.2.2.1+eg (.slice dM) t.2.2.2)):=rfl;omega
 .have h1:=tn hs;have h3:eg aU s=eg .str s.1+(eg aB s.2.1+(eg (.slice bi) s.2.2.1+(eg (.slice bi) s.2.2.2.1+eg (.slice bn) s.2.2.2.2))):=rfl;have h4:=tn hr;have h5:=lR (e:=aA) r.2.2.2.2.2.1;have h6:=lR (e:=aA) r.2.2.2.2.2.2.1;have h7:eg bn r=eg .str r.1+(eg aB r.2.1+(eg aB r.2.2.1+(eg aB r.2.2.2.1+(eg aA r.2.2.2.2.1+(eg (.slice aA) r.2.2.2.2.2.1+(eg (.slice aA) r.2.2.2.2.2.2.1+eg .str r.2.2.2.2.2.2.2)))))):=rfl;omega
 .have:=lR (e:=bA) l.1;omega
 .have:=lR (e:=aP) l.2.1;omega
 .have:=lR (e:=aU) l.2.2;omega
 .have h1:=tn hs;have h3:eg aU s=eg .str s.1+(eg aB s.2.1+(eg (.slice bi) s.2.2.1+(eg (.slice bi) s.2.2.2.1+eg (.slice bn) s.2.2.2.2))):=rfl;have h5:=lR (e:=bi) s.2.2.1;have h6:=lR (e:=bi) s.2.2.2.1;have h7:=lR (e:=bn) s.2.2.2.2;omega
theorem Ks{α β:Type}(l:List α)(F:α->β){body:Int×List β->Option ((Int×List β)⊕List β)}(hl:l.length<=4294967296)
 (hb:∀k,∀h:k<l.length,∀o:List β,o.length=k->body ((k:Int),o)=aa (.inl (aoz.wrap ((k:Int)+1),o++[F l[k]])))
 (he:∀o:List β,body ((l.length:Int),o)=aa (.inr o)):Loop body aG ((0:Int),[])=aa (l.map F):=by
 have FX:l.length<aG:=by unfold aG;omega
 refine yK (λk=>((k:Int),(l.take k).map F)) l.length _ (by simp) (λk hk=>?_) (by grind) FX;rw[hb k hk _ (by simp;omega),bX (m:=l.length) (by omega) hk,apS,aoA hk,apj];rfl
theorem tq{α β S X:Type}(l:List α)(F:α->β)(mk:Int->List β->S)(out:List β->X){body:S->Option (S⊕X)}(hl:l.length<=4294967296)
 (hb:∀k,∀h:k<l.length,∀o:List β,o.length=k->body (mk (k:Int) o)=aa (.inl (mk (aoz.wrap ((k:Int)+1)) (o++[F l[k]]))))
 (he:∀o:List β,body (mk (l.length:Int) o)=aa (.inr (out o))):Loop body aG (mk (0:Int) [])=aa (out (l.map F)):=by
 have FX:l.length<aG:=by unfold aG;omega
 refine yK (λk=>mk (k:Int) ((l.take k).map F)) l.length _ (by simp) (λk hk=>?_) (by grind) FX;rw[hb k hk _ (by simp;omega),bX (m:=l.length) (by omega) hk,apS,aoA hk,apj];rfl
theorem xn{α:Type}{x:α}:zC (aa x) (aa x)=aa x:=by
 unfold zC;simp
theorem zW(r:Row)(x:r.den):px r x x=af:=by unfold px;simp
theorem wb{m:Nat}{body:Int->Option (Int⊕Bool)}(hm:m<=1048576)(hb:∀k,k<m->body (k:Int)=aa (.inl (aoz.wrap ((k:Int)+1))))(he:body (m:Int)=aa (.inr af)):Loop body aG (0:Int)=aa af:=by
 refine yK (λk=>(k:Int)) m _ (by simp) (λk hk=>?_) he (by unfold aG;omega);rw[hb k hk,bX (m:=m) (by omega) hk]
end L
end Go.Proofs.YtfjgcenlllgonaaGreatDoor
