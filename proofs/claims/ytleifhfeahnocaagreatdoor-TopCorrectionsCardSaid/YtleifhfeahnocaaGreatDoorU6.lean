/- Joined texts: Lays LG. -/
import Derived.Shelf.Small.Wraps
import Derived.Shelf.Strings.Search3
import Derived.Shelf.Sort.Plain
import Derived.Shelf.Bits.Mul64
import Derived.Shelf.Slices.Turned
import Derived.Ground.Names2Prog
import Derived.Shelf.Slices.CompactI
import Derived.Shelf.Slices.In.SortNone
import Derived.Shelf.Slices.Empties
import Derived.Ground.SlgfProg
import Derived.Shelf.SlicesE.DeleteFunc
import Derived.Test.YtleifhfeahnocaaGreatDoorProg
import Derived.RangeFuncNested
import Derived.RangeFuncBound
import Derived.RangeFuncCalls
import Derived.RangeFuncLeaves
import Derived.Shelf.Abstract
import Derived.Shelf.RegionOpen
import Derived.WalkKit
import Derived.OwnWalkIn
import Derived.TacticsInMore
import Derived.LoopNIn
import Derived.LoopIn
set_option linter.defProp false
section
open _root_.Option renaming none->ae,some->aa
open _root_.List renaming replicate->aji
open _root_.Go.Value renaming int->ajV
namespace Go.Proofs
open Go.Shelf
def Tryz.Dl:Go.Shelf.Ren:=⟨λ |144=>236|143=>248|219=>262|217=>279|225=>280|224=>281|267=>282|266=>289|314=>290|n=>n,λ |9=>9|4=>4|3=>3|5=>5|46=>156|146=>386|51=>200|n=>n,λ |1=>3|n=>n⟩
def Tryz.OV:Go.Proofs.Lays.n144 Tryz.prog Tryz.Dl:={
 mixed:=by kernel_rfl
 f143:=Tryz.func248.trans (congrArg aa (by kernel_rfl))
 f144:=Tryz.func236.trans (congrArg aa (by kernel_rfl))
 f217:=Tryz.func279.trans (congrArg aa (by kernel_rfl))
 f219:=Tryz.func262.trans (congrArg aa (by kernel_rfl))
 f224:=Tryz.func281.trans (congrArg aa (by kernel_rfl))
 f225:=Tryz.func280.trans (congrArg aa (by kernel_rfl))
 f266:=Tryz.func289.trans (congrArg aa (by kernel_rfl))
 f267:=Tryz.func282.trans (congrArg aa (by kernel_rfl))
 f314:=Tryz.func290.trans (congrArg aa (by kernel_rfl))
 t3:=Tryz.underlying3
 a3:=Tryz.isAgg3
 z3:=Tryz.sizeOf3
 v3:=Tryz.zeroValue3
 t4:=Tryz.underlying4
 a4:=Tryz.isAgg4
 z4:=Tryz.sizeOf4
 v4:=Tryz.zeroValue4
 t5:=Tryz.underlying5
 a5:=Tryz.isAgg5
 z5:=Tryz.sizeOf5
 v5:=Tryz.zeroValue5
 t9:=Tryz.underlying9
 a9:=Tryz.isAgg9
 z9:=Tryz.sizeOf9
 v9:=Tryz.zeroValue9
 t46:=Tryz.underlying156
 a46:=Tryz.isAgg156
 z46:=Tryz.sizeOf156
 v46:=Tryz.zeroValue156
 t51:=Tryz.underlying200
 a51:=Tryz.isAgg200
 z51:=Tryz.sizeOf200
 v51:=Tryz.zeroValue200
 t146:=Tryz.underlying386
 a146:=Tryz.isAgg386
 z146:=Tryz.sizeOf386
 v146:=Tryz.zeroValue386
 g1:=by kernel_rfl}
open Go.RowKit Go.Lib in
def Tryz.strings_Contains_one(s:ByteArray)(c:UInt8)(w:World):
 Calls Tryz.prog 236 #[.string s, .string ⟨#[c]⟩] w λe w'=>e= .returned (.bool (decide (0<=Lib.indexByte s.data.toList c)))/\w'=w:=Any.strings_Contains_one Tryz.OV s c w
def Tryz.Dm:Go.Shelf.Ren:=⟨λ |189=>40|125=>76|257=>75|128=>113|129=>114|294=>104|295=>105|296=>106|297=>107|298=>108|299=>109|216=>110|300=>111|301=>112|328=>145|329=>146|330=>147|331=>148|332=>149|215=>150|343=>170|n=>n,λ |28=>27|3=>3|46=>156|0=>0|51=>200|53=>202|4=>4|183=>194|182=>193|131=>173|5=>5|9=>9|218=>241|222=>245|228=>272|229=>124|n=>n,λ |n=>n⟩
def Tryz.Hm:Go.Proofs.Lays.n189 Tryz.prog Tryz.Dm:={
 mixed:=by kernel_rfl
 f125:=Tryz.func76.trans (congrArg aa (by kernel_rfl))
 f128:=Tryz.func113.trans (congrArg aa (by kernel_rfl))
 f129:=Tryz.func114.trans (congrArg aa (by kernel_rfl))
 f189:=Tryz.func40.trans (congrArg aa (by kernel_rfl))
 f215:=Tryz.func150.trans (congrArg aa (by kernel_rfl))
 f216:=Tryz.func110.trans (congrArg aa (by kernel_rfl))
 f257:=Tryz.func75.trans (congrArg aa (by kernel_rfl))
 f294:=Tryz.func104.trans (congrArg aa (by kernel_rfl))
 f295:=Tryz.func105.trans (congrArg aa (by kernel_rfl))
 f296:=Tryz.func106.trans (congrArg aa (by kernel_rfl))
 f297:=Tryz.func107.trans (congrArg aa (by kernel_rfl))
 f298:=Tryz.func108.trans (congrArg aa (by kernel_rfl))
 f299:=Tryz.func109.trans (congrArg aa (by kernel_rfl))
 f300:=Tryz.func111.trans (congrArg aa (by kernel_rfl))
 f301:=Tryz.func112.trans (congrArg aa (by kernel_rfl))
 f328:=Tryz.func145.trans (congrArg aa (by kernel_rfl))
 f329:=Tryz.func146.trans (congrArg aa (by kernel_rfl))
 f330:=Tryz.func147.trans (congrArg aa (by kernel_rfl))
 f331:=Tryz.func148.trans (congrArg aa (by kernel_rfl))
 f332:=Tryz.func149.trans (congrArg aa (by kernel_rfl))
 f343:=Tryz.func170.trans (congrArg aa (by kernel_rfl))
 t0:=Tryz.underlying0
 a0:=Tryz.isAgg0
 z0:=Tryz.sizeOf0
 v0:=Tryz.zeroValue0
 t3:=Tryz.underlying3
 a3:=Tryz.isAgg3
 z3:=Tryz.sizeOf3
 v3:=Tryz.zeroValue3
 t4:=Tryz.underlying4
 a4:=Tryz.isAgg4
 z4:=Tryz.sizeOf4
 v4:=Tryz.zeroValue4
 t5:=Tryz.underlying5
 a5:=Tryz.isAgg5
 z5:=Tryz.sizeOf5
 v5:=Tryz.zeroValue5
 t9:=Tryz.underlying9
 a9:=Tryz.isAgg9
 z9:=Tryz.sizeOf9
 v9:=Tryz.zeroValue9
 t28:=Tryz.underlying27
 a28:=Tryz.isAgg27
 z28:=Tryz.sizeOf27
 v28:=Tryz.zeroValue27
 t46:=Tryz.underlying156
 a46:=Tryz.isAgg156
 z46:=Tryz.sizeOf156
 v46:=Tryz.zeroValue156
 t51:=Tryz.underlying200
 a51:=Tryz.isAgg200
 z51:=Tryz.sizeOf200
 v51:=Tryz.zeroValue200
 t53:=Tryz.underlying202
 a53:=Tryz.isAgg202
 z53:=Tryz.sizeOf202
 v53:=Tryz.zeroValue202
 t131:=Tryz.underlying173
 a131:=Tryz.isAgg173
 z131:=Tryz.sizeOf173
 v131:=Tryz.zeroValue173
 t182:=Tryz.underlying193
 a182:=Tryz.isAgg193
 z182:=Tryz.sizeOf193
 v182:=Tryz.zeroValue193
 t183:=Tryz.underlying194
 a183:=Tryz.isAgg194
 z183:=Tryz.sizeOf194
 v183:=Tryz.zeroValue194
 t218:=Tryz.underlying241
 a218:=Tryz.isAgg241
 z218:=Tryz.sizeOf241
 v218:=Tryz.zeroValue241
 t222:=Tryz.underlying245
 a222:=Tryz.isAgg245
 z222:=Tryz.sizeOf245
 v222:=Tryz.zeroValue245
 t228:=Tryz.underlying272
 a228:=Tryz.isAgg272
 z228:=Tryz.sizeOf272
 v228:=Tryz.zeroValue272
 t229:=Tryz.underlying124
 a229:=Tryz.isAgg124
 z229:=Tryz.sizeOf124
 v229:=Tryz.zeroValue124}
open Go.Sort Go.RowKit in
def Tryz.slices_Sort_int(nG off cap:Nat)(zs:List Int)(w:World)(hH:Holds (ajV .i64) w nG off zs.toArray)(Oi:nG<w.heap.size)(kS:zs.length<4611686018427387904):
 Calls Tryz.prog 40 #[.slice (aa ⟨nG,off,ae⟩) zs.length cap] w λe w'=>
  e= .returned (.tuple #[])/\∃n os,w'=grow (putRow (ajV .i64) (Sort.ahead w n) nG off (zs.mergeSort λx y=>decide (x<=y)).toArray) os:=Any.slices_Sort_int Tryz.Hm nG off cap zs w hH Oi kS
def Tryz.yK:Go.Shelf.Ren:=⟨λ |20=>41|n=>n,λ |22=>27|3=>3|4=>4|0=>0|n=>n,λ |n=>n⟩
def Tryz.zH:Go.Proofs.Lays2.n20 Tryz.prog Tryz.yK:={
 mixed:=by kernel_rfl
 f20:=Tryz.func41.trans (congrArg aa (by kernel_rfl))
 t0:=Tryz.underlying0
 a0:=Tryz.isAgg0
 z0:=Tryz.sizeOf0
 v0:=Tryz.zeroValue0
 t3:=Tryz.underlying3
 a3:=Tryz.isAgg3
 z3:=Tryz.sizeOf3
 v3:=Tryz.zeroValue3
 t4:=Tryz.underlying4
 a4:=Tryz.isAgg4
 z4:=Tryz.sizeOf4
 v4:=Tryz.zeroValue4
 t22:=Tryz.underlying27
 a22:=Tryz.isAgg27
 z22:=Tryz.sizeOf27
 v22:=Tryz.zeroValue27
 i3:=by kernel_rfl}
open Go.RowKit Go.Lib Go.Sort in
def Tryz.slices_Compact_int(nG off cap:Nat)(zs:List Int)(w:World)(hH:Holds (ajV .i64) w nG off zs.toArray)(kS:zs.length<=9223372036854775807)(vA:zs.length<=cap):
 Calls Tryz.prog 41 #[.slice (aa ⟨nG,off,ae⟩) zs.length cap] w λe w'=>e= .returned (.slice (aa ⟨nG,off,ae⟩) (Lib.compact zs).length cap)/\∃q,w'=putRow (ajV .i64) (Sort.ahead w q) nG off (Lib.compact zs++aji (zs.length-(Lib.compact zs).length) 0).toArray:=Any.slices_Compact_int Tryz.zH nG off cap zs w hH kS vA
open Go.RowKit Go.Lib Go.Sort in
def Tryz.slices_Compact_int_empty(a:Option Addr)(cap:Nat)(w:World):
 Calls Tryz.prog 41 #[.slice a 0 cap] w λe w'=>e= .returned (.slice a 0 cap)/\w'=w:=Any.slices_Compact_int_empty Tryz.zH a cap w
open Go.RowKit Go.Sort in
def Tryz.slices_Sort_int_none(p:Option Addr)(cap:Nat)(w:World):
 Calls Tryz.prog 40 #[.slice p 0 cap] w λe w'=>e= .returned (.tuple #[])/\w'=w:=Any.slices_Sort_int_none Tryz.Hm p cap w
def Tryz.si:Go.Shelf.Ren:=⟨λ |10=>133|6=>160|n=>n,λ |22=>27|23=>3|25=>91|3=>3|4=>4|0=>0|n=>n,λ |n=>n⟩
def Tryz.qt:Go.Proofs.SlLaysH.n10 Tryz.prog Tryz.si:={
 mixed:=by kernel_rfl
 f6:=⟨Tryz.f160.name,by decide,Tryz.func160.trans (congrArg aa (by kernel_rfl))⟩
 f10:=⟨Tryz.f133.name,by decide,Tryz.func133.trans (congrArg aa (by kernel_rfl))⟩
 t0:=Tryz.underlying0
 a0:=Tryz.isAgg0
 z0:=Tryz.sizeOf0
 v0:=Tryz.zeroValue0
 t3:=Tryz.underlying3
 a3:=Tryz.isAgg3
 z3:=Tryz.sizeOf3
 v3:=Tryz.zeroValue3
 t4:=Tryz.underlying4
 a4:=Tryz.isAgg4
 z4:=Tryz.sizeOf4
 v4:=Tryz.zeroValue4
 t22:=Tryz.underlying27
 a22:=Tryz.isAgg27
 z22:=Tryz.sizeOf27
 v22:=Tryz.zeroValue27
 a23:=Tryz.isAgg3
 z23:=Tryz.sizeOf3
 t25:=Tryz.underlying91
 a25:=Tryz.isAgg91
 z25:=Tryz.sizeOf91
 v25:=Tryz.zeroValue91}
open Go.RowKit Go.Lib Go.Sort in
def Tryz.slices_DeleteFunc{α:Type}[Inhabited α](enc:α->Value)(hO:OneCell enc)(p:α->Bool)(g:Nat)(lb:Array Value)(eg:∀args w,(callFunc g args).run Tryz.prog w= .ok (.enter g args) w)(zr:α)(v23:∀w,(zeroValue 3).run Tryz.prog w= .ok (enc zr) w)(nG off cap:Nat)(d:Array α)(w:World)(hp:PredAt Tryz.prog g lb enc p w)(hpo:PredOver Tryz.prog g lb enc p nG off d.size w)(hH:Holds enc w nG off d)(kS:d.size<=9223372036854775807)(vA:d.size<=cap):
 Calls Tryz.prog 133 #[.slice (aa ⟨nG,off,ae⟩) d.size cap, .func (.func g) #[] lb] w λe w'=>e= .returned (.slice (aa ⟨nG,off,ae⟩) (d.toList.filter λx=> !p x).length cap)/\∃q,w'=putRow enc (Sort.ahead w q) nG off ((d.toList.filter λx=> !p x)++aji (d.size-(d.toList.filter λx=> !p x).length) zr).toArray:=AnyE.slices_DeleteFunc Tryz.qt enc hO p g lb eg zr v23 nG off cap d w hp hpo hH kS vA
end Go.Proofs
end
namespace Go.Proofs.YtleifhfeahnocaaGreatDoor
open Go Go.RowKit
set_option maxRecDepth 100000
set_option linter.unusedSimpArgs false
set_option linter.unusedVariables false
set_option linter.defProp false
section
open Go Go.RowKit Go.Shelf
attribute [local go_sem] Oper.semAt_some
abbrev P4 : Type := Int × Int × Int × Int
def P4.val (p : P4) : Value := .agg #[.int .i64 p.1, .int .i64 p.2.1, .int .i64 p.2.2.1, .int .i64 p.2.2.2]
def Posts (n0 : Nat) (W : World) (A : Option Addr) (ps : List P4) : Prop := ∀ i, ∀ h : i < ps.length, ∃ b off, A = some ⟨b, off, none⟩ ∧ b < n0 ∧ W.cell? ⟨b, off + i * 4, none⟩ = some (.int .i64 ps[i].1) ∧ W.cell? ⟨b, off + i * 4 + 1, none⟩ = some (.int .i64 ps[i].2.1) ∧ W.cell? ⟨b, off + i * 4 + 2, none⟩ = some (.int .i64 ps[i].2.2.1) ∧ W.cell? ⟨b, off + i * 4 + 3, none⟩ = some (.int .i64 ps[i].2.2.2)
theorem Posts.below {n0 : Nat} {W W' : World} {A : Option Addr} {ps : List P4} (h : Posts n0 W A ps) (hb : Below n0 W W') : Posts n0 W' A ps := fun i hi => by
  obtain ⟨b, off, e, hlt, h1, h2, h3, h4⟩ := h i hi
  exact ⟨b, off, e, hlt, (hb.cell (p := ⟨b, _, none⟩) hlt).trans h1, (hb.cell (p := ⟨b, _, none⟩) hlt).trans h2, (hb.cell (p := ⟨b, _, none⟩) hlt).trans h3, (hb.cell (p := ⟨b, _, none⟩) hlt).trans h4⟩
def ofK (k : Int) (ps : List P4) : List P4 := ps.filter fun p => decide (p.2.2.1 = k)
set_option maxRecDepth 100000 in
set_option maxHeartbeats 2000000 in
theorem kinds_in (F : Fence) (n : Nat) (h26 : F.fn 77) (hro : F.round = none) (hn : 1 ≤ n) (l Bs Bk n0 : Nat) (A : Option Addr) (cap : Nat) (ps : List P4) (k : Int) (J Jx : List P4 → World → Prop) (W0 : World)
    (hJ : AbidesFrom W0.heap.size J)
    (hY : ∀ pre x W, J pre W → pre.length < (ofK k ps).length → YieldAt F (n - 1) Tryz.prog l #[P4.val x] W fun e W' =>
      (e = .returned (.bool true) ∧ J (pre ++ [x]) W' ∧ (Below n0 W W' ∧ W'.cell? ⟨Bk, 0, none⟩ = W.cell? ⟨Bk, 0, none⟩)) ∨ (e = .returned (.bool false) ∧ Jx (pre ++ [x]) W'))
    (hlen : ps.length ≤ maxLen) (hBs : W0.cell? ⟨Bs, 0, none⟩ = some (.slice A ps.length cap)) (hBk : W0.cell? ⟨Bk, 0, none⟩ = some (.int .i64 k)) (hL : Posts n0 W0 A ps) (hn0 : n0 ≤ W0.heap.size) (h0 : J [] W0) :
    CallsIn F n Tryz.prog 77 #[.func (.yield l) #[] #[], .pointer (some ⟨Bs, 0, none⟩), .pointer (some ⟨Bk, 0, none⟩)] W0 fun e W' => (∃ v, e = .returned v) ∧
      ((∃ ys, ys = ofK k ps ∧ J ys W') ∨ (∃ pre, pre <+: ofK k ps ∧ Jx pre W')) := by
  refine callsIn_of_wp Tryz.func77 rfl h26 ?_ hro
  simp only [Tryz.ntmps77, List.size_toArray, List.length_cons, List.length_nil, Nat.reduceAdd, Nat.reduceSub, Array.replicate_succ, Array.replicate_zero, List.push_toArray, List.append_toArray, List.nil_append, List.cons_append]
  gi_wp2
  gi_loopw [8] (fun p wr => ∃ i : Nat, p = .int .i64 i ∧ i ≤ ps.length ∧ J (ofK k (ps.take i)) wr ∧ Below n0 W0 wr ∧ wr.cell? ⟨Bk, 0, none⟩ = some (.int .i64 k) ∧ W0.heap.size ≤ wr.heap.size)
    (fun p _ => ps.length - (intOf p).toNat)
  case atStart =>
    exact ⟨0, rfl, Nat.zero_le _, h0, Below.refl _ _, hBk, Nat.le_refl _⟩
  case round =>
    obtain ⟨i, rfl, hi, hJs, hB, hk, hsz⟩ := hrel
    by_cases hlt : i < ps.length
    · obtain ⟨b, off, rfl, hb, c1, c2, c3, c4⟩ := hL.below hB i hlt
      have hBklt : Bk < wr.heap.size := by
        unfold World.cell? at hk
        refine Classical.not_not.1 fun g => ?_
        rw [Array.getElem?_eq_none (by simpa using g)] at hk
        cases hk
      have hne : ¬ Bk = wr.heap.size := by omega
      have hne' : ¬ wr.heap.size = Bk := by omega
      have hnext : i + 1 ≤ ps.length := hlt
      have htake : ps.take (i + 1) = ps.take i ++ [ps[i]] := (List.take_append_getElem hlt).symm
      have hwi : wrap64 ((i : Int) + 1) = ((i + 1 : Nat) : Int) := by
        unfold maxLen at hlen
        unfold wrap64
        omega
      by_cases hkd : ps[i].2.2.1 = k
      · have hsnoc : ofK k (ps.take (i + 1)) = ofK k (ps.take i) ++ [ps[i]] := by
          unfold ofK
          rw [htake, List.filter_append, List.filter_cons_of_pos (by simpa using hkd)]
          rfl
        have hlen' : (ofK k (ps.take i)).length < (ofK k ps).length := by
          have h1 : (ofK k (ps.take (i + 1))).length ≤ (ofK k ps).length := (List.Sublist.filter _ (List.take_sublist _ _)).length_le
          rw [hsnoc] at h1
          simp at h1
          omega
        have hJ' := hJ (ofK k (ps.take i)) wr (wr.alloc (.cells #[.int .i64 ps[i].1, .int .i64 ps[i].2.1, .int .i64 k, .int .i64 ps[i].2.2.2] 87)) none hJs (World.grownBy_alloc wr _ none) (fun r e => by cases e)
        obtain ⟨fn, tmps, assign, body, hy, hR⟩ := hY (ofK k (ps.take i)) ps[i] _ hJ' hlen'
        unfold P4.val at hy
        rw [hkd] at hy
        gi_wp2
        refine hR.mono ?_
        rintro e W3 (⟨rfl, hJ3, hB3, hk3⟩ | ⟨rfl, hJx3⟩)
        · have hk4 : W3.cell? ⟨Bk, 0, none⟩ = some (.int .i64 k) := hk3.trans ((World.cell?_alloc_old _ _ _ (show Bk ≠ wr.heap.size from hne)).trans hk)
          gi_wp2
          go_roundw
          case rel =>
            refine ⟨i + 1, by simp [hwi], hnext, by rw [hsnoc]; exact hJ3, hB.trans (((Below.refl n0 wr).alloc (Nat.le_trans hn0 hsz) _).trans hB3), hk4, ?_⟩
            have := hB3.size
            rw [World.size_alloc] at this
            omega
          case measure =>
            rw [hwi]
            simp only [intOf, Int.toNat_natCast]
            omega
        · gi_wp2
          refine bodyPost_ret (results_none rfl _ _ _) rfl ?_
          refine ⟨⟨_, rfl⟩, .inr ⟨_, ?_, hJx3⟩⟩
          rw [← hsnoc]
          exact List.IsPrefix.filter _ (List.take_prefix _ _)
      · have hkb : (ps[i].2.2.1 == k) = false := by simpa using hkd
        gi_wp2
        refine ⟨fun f hf => (by cases hf), ?_⟩
        gi_wp2
        go_roundw
        case rel =>
          have hsame : ofK k (ps.take (i + 1)) = ofK k (ps.take i) := by
            unfold ofK
            rw [htake, List.filter_append, List.filter_cons_of_neg (by simpa using hkd)]
            simp
          refine ⟨i + 1, by simp [hwi], hnext, ?_, hB.trans ((Below.refl n0 wr).alloc (Nat.le_trans hn0 hsz) _), (World.cell?_alloc_old _ _ _ (show Bk ≠ wr.heap.size from hne)).trans hk, by rw [World.size_alloc]; omega⟩
          rw [hsame]
          exact hJ (ofK k (ps.take i)) wr _ none hJs (World.grownBy_alloc wr _ none) (fun r e => by cases e)
        case measure =>
          rw [hwi]
          simp only [intOf, Int.toNat_natCast]
          omega
    · gi_wp2
      go_end0
      obtain rfl : i = ps.length := by omega
      rw [List.take_length] at hJs
      exact ⟨⟨_, rfl⟩, .inl ⟨_, rfl, hJs⟩⟩
set_option maxHeartbeats 1000000 in
theorem kindOf_in (F : Fence) (n : Nat) (h23 : F.fn 42) (hro : F.round = none) (A : Option Addr) (len cap : Nat) (k : Int) (w : World) :
    CallsIn F n Tryz.prog 42 #[.slice A len cap, .int .i64 k] w fun e w' => e = .returned (.func (.func 77) #[] #[.pointer (some ⟨w.heap.size, 0, none⟩), .pointer (some ⟨w.heap.size + 1, 0, none⟩)]) ∧ w' = (w.alloc (.cells #[.slice A len cap] 40)).alloc (.cells #[.int .i64 k] 3) := by
  refine callsIn_of_wp Tryz.func42 rfl h23 ?_ hro
  simp only [Tryz.ntmps42, List.size_toArray, List.length_cons, List.length_nil, Nat.reduceAdd, Nat.reduceSub, Array.replicate_succ, Array.replicate_zero, List.push_toArray, List.append_toArray, List.nil_append, List.cons_append]
  gi_wp2
  go_ret
  exact ⟨by simp, rfl⟩
def KpB (n0 Bk : Nat) (W W' : World) : Prop := Below n0 W W' ∧ W'.cell? ⟨Bk, 0, none⟩ = W.cell? ⟨Bk, 0, none⟩
theorem KpB.t {n0 Bk : Nat} {A B C : World} (h : KpB n0 Bk A B) (k : KpB n0 Bk B C) : KpB n0 Bk A C := ⟨h.1.trans k.1, k.2.trans h.2⟩
theorem KpB.b {n0 Bk : Nat} {w : World} (hn : n0 ≤ w.heap.size) (hk : Bk < w.heap.size) (W : World) (l : Nat) (o o' : Obj) (hl : w.heap.size ≤ l) (h : W.heap[l]? = some o) (hc : o.isCells = false) (hw : o.isWalk = false) : KpB n0 Bk W (W.putObj l o') :=
  ⟨belowK_b hn W l o o' hl h hc hw, by
    have hg : (W.putObj l o').heap[Bk]? = W.heap[Bk]? := World.putObj_heap_other (by omega)
    unfold World.cell?
    rw [hg]⟩
theorem kinds_stops (F : Fence) (n : Nat) (h26 : F.fn 77) (hro : F.round = none) (hn : 1 ≤ n) (Bs Bk n0 : Nat) (A : Option Addr) (cap : Nat) (ps : List P4) (k : Int) (w : World)
    (hlen : ps.length ≤ maxLen) (hBs : Boxed w Bs 40 (.slice A ps.length cap)) (hBk : Boxed w Bk 3 (.int .i64 k)) (hL : Posts n0 w A ps) (hn0 : n0 ≤ w.heap.size) :
    SeqStopsK F n Tryz.prog 77 #[.pointer (some ⟨Bs, 0, none⟩), .pointer (some ⟨Bk, 0, none⟩)] (fun x : P4 => #[P4.val x]) (KpB n0 Bk) (fun ys => ys = ofK k ps) (fun pre => pre <+: ofK k ps) (ofK k ps).length w := fun l J Jx W hW hJ _ hY h0 =>
  kinds_in F n h26 hro hn l Bs Bk n0 A cap ps k J Jx W hJ hY hlen ((hW.cell (p := ⟨Bs, 0, none⟩) hBs.lt).trans hBs.cell) ((hW.cell (p := ⟨Bk, 0, none⟩) hBk.lt).trans hBk.cell) (hL.below (hW.mono hn0)) (Nat.le_trans hn0 hW.size) h0
def Box4 (W : World) (B : Nat) (p : P4) : Prop := W.heap[B]? = some (.cells #[.int .i64 p.1, .int .i64 p.2.1, .int .i64 p.2.2.1, .int .i64 p.2.2.2] 87 (0, 0))
theorem Box4.lt {W : World} {B : Nat} {p : P4} (h : Box4 W B p) : B < W.heap.size := (Array.getElem?_eq_some_iff.1 h).1
theorem Box4.own (B : Nat) (p : P4) (n : Nat) : OwnFrom n (fun (_ : Unit) W => Box4 W B p) := fun _ X Y row hs hg hr => (hg.block B hs.lt fun e => by
  obtain ⟨_, o, ho, hc⟩ := hr B e.symm
  rw [show X.heap[B]? = _ from hs] at ho
  cases ho
  cases hc).trans hs
theorem big_own {β : Type} (k n : Nat) : OwnFrom n (fun (_ : β) W => k ≤ W.heap.size) := fun _ X Y row hs hg _ => Nat.le_trans hs hg.size
theorem cell_other {W : World} {b c : Nat} {v : Value} (h : b ≠ c) : (W.setCell ⟨b, 0, none⟩ v).cell? ⟨c, 0, none⟩ = W.cell? ⟨c, 0, none⟩ := by
  have hg : (W.setCell ⟨b, 0, none⟩ v).heap[c]? = W.heap[c]? := Below.heap_setCell _ _ _ c (fun e => h e.symm)
  unfold World.cell?
  rw [hg]
def addW (m : Int) (a : Int) (p : P4) : Int := if p.2.1 = m then wrap64 (a + p.2.2.2) else a
def wavW (m : Int) (ps : List P4) : Int := ps.foldl (addW m) 0
set_option maxRecDepth 100000 in
set_option maxHeartbeats 4000000 in
theorem waived_in (F : Fence) (n : Nat) (h20 : F.fn 61) (h23 : F.fn 42) (h26 : F.fn 77) (hro : F.round = none) (hn : 6 ≤ n) (A : Option Addr) (cap : Nat) (ps : List P4) (m : Int) (w : World) (hlen : ps.length ≤ maxLen) (hL : Posts w.heap.size w A ps) :
    CallsIn F n Tryz.prog 61 #[.slice A ps.length cap, .int .i64 m] w fun e W' => e = .returned (.int .i64 (wavW m (ofK 4 ps))) ∧ Below w.heap.size w W' := by
  have h1 : 1 ≤ n := by omega
  refine callsIn_of_wp_marks Tryz.func61 rfl h20 ?_ hro
  simp only [Tryz.ntmps61, List.size_toArray, List.length_cons, List.length_nil, Nat.reduceAdd, Nat.reduceSub, Array.replicate_succ, Array.replicate_zero, List.push_toArray, List.append_toArray, List.nil_append, List.cons_append]
  gi_wp2_with (gi_at_call 42; refine (kindOf_in F (n - 1) h23 hro _ _ _ _ _).mono ?_; rintro e w' ⟨rfl, rfl⟩)
  have bM := (((Boxed.new w 3 (.int .i64 m)).alloc (.cells #[.int .i64 0] 3)).alloc (.cells #[.slice A ps.length cap] 40)).alloc (.cells #[.int .i64 4] 3)
  have bS := ((Boxed.new (w.alloc (.cells #[.int .i64 m] 3)) 3 (.int .i64 0)).alloc (.cells #[.slice A ps.length cap] 40)).alloc (.cells #[.int .i64 4] 3)
  have bL := (Boxed.new ((w.alloc (.cells #[.int .i64 m] 3)).alloc (.cells #[.int .i64 0] 3)) 40 (.slice A ps.length cap)).alloc (.cells #[.int .i64 4] 3)
  have bK := Boxed.new (((w.alloc (.cells #[.int .i64 m] 3)).alloc (.cells #[.int .i64 0] 3)).alloc (.cells #[.slice A ps.length cap] 40)) 3 (.int .i64 4)
  simp only [World.size_alloc] at bS bL bK
  have hB0 : Below w.heap.size w ((((w.alloc (.cells #[.int .i64 m] 3)).alloc (.cells #[.int .i64 0] 3)).alloc (.cells #[.slice A ps.length cap] 40)).alloc (.cells #[.int .i64 4] 3)) := ((((Below.refl _ w).alloc (Nat.le_refl _) _).alloc (by simp) _).alloc (by simp; omega) _).alloc (by simp; omega) _
  have hsz : ((((w.alloc (.cells #[.int .i64 m] 3)).alloc (.cells #[.int .i64 0] 3)).alloc (.cells #[.slice A ps.length cap] 40)).alloc (.cells #[.int .i64 4] 3)).heap.size = w.heap.size + 4 := by simp
  obtain ⟨W0, hW0⟩ : ∃ W0, ((((w.alloc (.cells #[.int .i64 m] 3)).alloc (.cells #[.int .i64 0] 3)).alloc (.cells #[.slice A ps.length cap] 40)).alloc (.cells #[.int .i64 4] 3)) = W0 := ⟨_, rfl⟩
  rw [hW0] at bM bS bL bK hB0 hsz ⊢
  clear hW0
  refine wpIn_rangeFunc_ownH hro h1 (gf := 77) (lb := #[.pointer (some ⟨w.heap.size + 1 + 1, 0, none⟩), .pointer (some ⟨w.heap.size + 1 + 1 + 1, 0, none⟩)]) rfl h26 (enters_of Tryz.func77 (by kernel_rfl) rfl)
    (kinds_stops F (n - 1) h26 hro (by omega) (w.heap.size + 1 + 1) (w.heap.size + 1 + 1 + 1) w.heap.size A cap ps 4 W0 hlen bL bK (hL.below hB0) (by omega)) KpB.t (KpB.b (by omega) (by omega)) (Below.refl _ _) (fun _ => rfl)
    (fun pre W => ((Boxed W (w.heap.size + 1) 3 (.int .i64 (wavW m pre)) ∧ Boxed W w.heap.size 3 (.int .i64 m)) ∧ Below w.heap.size w W) ∧ w.heap.size + 4 ≤ W.heap.size)
    (fun _ _ _ => False)
    (OwnFrom.and (OwnFrom.and (OwnFrom.and (Own.from (boxed_own _ _ _) _) (Own.from (boxed_own _ _ _) _)) (ownFrom_below (Nat.le_refl _) (by omega))) (big_own _ _))
    (fun _ _ _ _ _ hs _ _ => hs)
    ⟨⟨⟨bS, bM⟩, hB0⟩, by omega⟩
    (fun x a' W => ∃ Bx, w.heap.size + 1 + 1 + 1 < Bx ∧ Box4 W Bx x ∧ a' = { tmps := #[.slice A ps.length cap, .int .i64 m, undef, .pointer (some ⟨w.heap.size, 0, none⟩), .int .i64 0, .pointer (some ⟨w.heap.size + 1, 0, none⟩), .pointer (some ⟨Bx, 0, none⟩), .slice A ps.length cap, .func (.func 77) #[] #[.pointer (some ⟨w.heap.size + 1 + 1, 0, none⟩), .pointer (some ⟨w.heap.size + 1 + 1 + 1, 0, none⟩)], P4.val x, undef, undef, undef, undef, undef, undef, undef, undef, undef], defers := [] })
    (fun x a' _ X Y row hs hg hr => by obtain ⟨Bx, h1, h2, h3⟩ := hs; exact ⟨Bx, h1, Box4.own Bx x _ () X Y row h2 hg hr, h3⟩)
    ?assign ?body ?done ?stop
  case assign =>
    rintro l pre x W K ⟨⟨⟨bS1, bM1⟩, hB1⟩, hG⟩ hK
    unfold P4.val at hK ⊢
    gi_wp2
    refine hK _ _ ((KeepsOthers.alloc _ _).from _) ⟨(Below.refl _ W).alloc hB1.size _, ?_⟩ ⟨⟨⟨bS1.alloc _, bM1.alloc _⟩, hB1.alloc hB1.size _⟩, by rw [World.size_alloc]; omega⟩ ⟨W.heap.size, by omega, World.alloc_heap_new W _, rfl⟩
    exact World.cell?_alloc_old _ _ _ (show w.heap.size + 1 + 1 + 1 ≠ W.heap.size by omega)
  case body =>
    rintro l pre x a' W hl ⟨r, hr⟩ ⟨⟨⟨bS1, bM1⟩, hB1⟩, hG⟩ ⟨Bx, hBx, bX, rfl⟩ hlt
    unfold P4.val
    have cS := bS1.cell
    have fS := bS1.frozen
    have cM := bM1.cell
    have x1 : W.cell? ⟨Bx, 1, none⟩ = some (.int .i64 x.2.1) := by simp [World.cell?, show W.heap[Bx]? = _ from bX]
    have x3 : W.cell? ⟨Bx, 3, none⟩ = some (.int .i64 x.2.2.2) := by simp [World.cell?, show W.heap[Bx]? = _ from bX]
    have hsn : wavW m (pre ++ [x]) = addW m (wavW m pre) x := by unfold wavW; rw [List.foldl_append]; rfl
    by_cases hm : x.2.1 = m
    · have hsn' : wavW m (pre ++ [x]) = wrap64 (wavW m pre + x.2.2.2) := by rw [hsn]; exact if_pos hm
      gi_wp2
      exact ⟨(KeepsOthers.setCell _ _ _).from _, ⟨(Below.refl _ W).setCell (p := ⟨w.heap.size + 1, 0, none⟩) (by simp) _, cell_other (by omega)⟩, ⟨⟨by rw [hsn']; exact bS1.set _, bM1.kept (grownBy_setCell' W (w.heap.size + 1) _) (by simp)⟩, hB1.setCell (p := ⟨w.heap.size + 1, 0, none⟩) (by simp) _⟩, Nat.le_trans hG (grownBy_setCell' W (w.heap.size + 1) _).size⟩
    · have hmb : (x.2.1 == m) = false := by simpa using hm
      have hsn' : wavW m (pre ++ [x]) = wavW m pre := by rw [hsn]; exact if_neg hm
      gi_wp2
      exact ⟨KeepsFrom.refl _ _, ⟨Below.refl _ _, rfl⟩, ⟨⟨by rw [hsn']; exact bS1, bM1⟩, hB1⟩, hG⟩
  case done =>
    rintro D zs W hD rfl ⟨⟨⟨bS1, bM1⟩, hB1⟩, hG⟩ hK
    have cS := bS1.cell
    gi_wp2
    refine ⟨by simp, .inl ⟨_, _, rfl, run_takeDeferred hK, ?_⟩⟩
    exact ⟨_, results_tmp rfl _ _ _, rfl, hB1.trans (belowK_b (w := w) (Nat.le_refl _) W D _ _ (by omega) hK rfl rfl)⟩
  case stop =>
    rintro D c pre W _ _ h _
    exact h.elim
def amt (p : P4) : Int := if p.2.2.1 = 1 then p.2.2.2 else if p.2.2.1 = 2 ∨ p.2.2.1 = 3 then wrap64 (-p.2.2.2) else 0
set_option maxRecDepth 100000 in
set_option maxHeartbeats 2000000 in
theorem amount_in (F : Fence) (n : Nat) (h24 : F.fn 43) (hro : F.round = none) (p : P4) (w : World) :
    CallsIn F n Tryz.prog 43 #[P4.val p] w fun e w' => e = .returned (.int .i64 (amt p)) ∧ w' = w.alloc (.cells #[.int .i64 p.1, .int .i64 p.2.1, .int .i64 p.2.2.1, .int .i64 p.2.2.2] 87) := by
  obtain ⟨d, m, k, c⟩ := p
  unfold P4.val amt
  refine callsIn_of_wp Tryz.func43 rfl h24 ?_ hro
  simp only [Tryz.ntmps43, List.size_toArray, List.length_cons, List.length_nil, Nat.reduceAdd, Nat.reduceSub, Array.replicate_succ, Array.replicate_zero, List.push_toArray, List.append_toArray, List.nil_append, List.cons_append]
  by_cases k1 : k = 1
  · subst k1
    gi_wp2
    go_ret
    exact ⟨by simp, rfl⟩
  by_cases k2 : k = 2
  · subst k2
    gi_wp2
    go_ret
    exact ⟨by simp, rfl⟩
  by_cases k3 : k = 3
  · subst k3
    gi_wp2
    go_ret
    exact ⟨by simp, rfl⟩
  · have e1 : (k == 1) = false := by simpa using k1
    have e2 : (k == 2) = false := by simpa using k2
    have e3 : (k == 3) = false := by simpa using k3
    gi_wp2
    go_ret
    exact ⟨by simp [k1, k2, k3], rfl⟩
theorem mixed38 : Tryz.prog.follows .mixedOrders = true := by kernel_rfl
set_option maxRecDepth 100000 in
set_option maxHeartbeats 8000000 in
theorem addRegion (F : Fence) (n l : Nat) (h24 : F.fn 43) (hro : F.round = none) (h1 : 1 ≤ n) (Bs Bx : Nat) (acc : Int) (x : P4) (W : World) (po : String) (t0 t1 t2 t3 t4 t6 t7 t9 t10 t11 t12 t13 t14 t15 t16 t17 t18 t19 t20 t21 t22 t23 t24 t25 t26 : Value) (Q : Exit → Act → World → Prop)
    (bS : Boxed W Bs 3 (.int .i64 acc)) (bX : Box4 W Bx x)
    (hQ : Q .normal { tmps := #[t0, t1, t2, t3, t4, .pointer (some ⟨Bs, 0, none⟩), t6, t7, .pointer (some ⟨Bx, 0, none⟩), t9, t10, t11, t12, t13, t14, t15, t16, t17, t18, t19, t20, .int .i64 acc, P4.val x, .int .i64 (amt x), .int .i64 (wrap64 (acc + amt x)), t25, t26], defers := [] } ((W.alloc (.cells #[.int .i64 x.1, .int .i64 x.2.1, .int .i64 x.2.2.1, .int .i64 x.2.2.2] 87)).setCell ⟨Bs, 0, none⟩ (.int .i64 (wrap64 (acc + amt x)))).drew) :
    (Code.region 8
      #[{ dst := some 21, op := Op.load 3 (Operand.tmp 5), type := 3, pos := po, after := #[],
          guard := none },
        { dst := some 22, op := Op.load 87 (Operand.tmp 8), type := 87, pos := po, after := #[],
          guard := none },
        { dst := some 23,
          op := Op.call { callee := Callee.value (Operand.func 43), args := #[Operand.tmp 22], argTypes := #[87] },
          type := 3, pos := po, after := #[{ on := 1, ground := Ground.data }], guard := none },
        { dst := some 24, op := Op.binOp BinOp.add 3 (Operand.tmp 21) (Operand.tmp 23) 3, type := 3,
          pos := po, after := #[{ on := 0, ground := Ground.data }, { on := 2, ground := Ground.data }],
          guard := none },
        { dst := none, op := Op.store 3 (Operand.tmp 5) (Operand.tmp 24), type := 0, pos := po,
          after :=
            #[{ on := 3, ground := Ground.data }, { on := 2, ground := Ground.chain },
              { on := 0, ground := Ground.phase }, { on := 1, ground := Ground.phase },
              { on := 2, ground := Ground.phase }, { on := 3, ground := Ground.phase }],
          guard := none }]
      true).wpIn (F.inRound l) n Tryz.prog Q { tmps := #[t0, t1, t2, t3, t4, .pointer (some ⟨Bs, 0, none⟩), t6, t7, .pointer (some ⟨Bx, 0, none⟩), t9, t10, t11, t12, t13, t14, t15, t16, t17, t18, t19, t20, t21, t22, t23, t24, t25, t26], defers := [] } W := by
  have hmix := mixed38
  have cS := bS.cell
  have fS := bS.frozen
  have x0 : W.cell? ⟨Bx, 0, none⟩ = some (.int .i64 x.1) := by simp [World.cell?, show W.heap[Bx]? = _ from bX]
  have x1 : W.cell? ⟨Bx, 1, none⟩ = some (.int .i64 x.2.1) := by simp [World.cell?, show W.heap[Bx]? = _ from bX]
  have x2 : W.cell? ⟨Bx, 2, none⟩ = some (.int .i64 x.2.2.1) := by simp [World.cell?, show W.heap[Bx]? = _ from bX]
  have x3 : W.cell? ⟨Bx, 3, none⟩ = some (.int .i64 x.2.2.2) := by simp [World.cell?, show W.heap[Bx]? = _ from bX]
  have hn1 : ¬ Bs = W.heap.size := by have := bS.lt; omega
  have hn2 : ¬ W.heap.size = Bs := by have := bS.lt; omega
  unfold P4.val at hQ
  have ham := fun n w => amount_in F n h24 hro x w
  unfold P4.val at ham
  generalize amt x = am at *
  obtain ⟨d, m, k, c⟩ := x
  dsimp only at *
  have bS1 := bS.alloc (.cells #[.int .i64 d, .int .i64 m, .int .i64 k, .int .i64 c] 87)
  have cS1 := bS1.cell
  have fS1 := bS1.frozen
  gi_region_with_o (gi_at_call 43; refine (CallsIn.inRound l (ham _ _)).mono ?_; rintro e w' ⟨rfl, rfl⟩; skip)
  all_goals gi_wp2
  all_goals (try go_bits)
  all_goals exact hQ
def mark (D : Nat) : Deferred := { target := .collected D, args := #[] }
theorem leaves_marks {F : Fence} {n : Nat} {P : Program} {fn : Func} {tmps : Array Value} {R : Ending → World → Prop} {s : Nat} : ∀ (Ds : List Nat) (W : World), Ds.Pairwise (· ≠ ·) → (∀ D ∈ Ds, s ≤ D ∧ W.heap[D]? = some (.deferred (some []))) → s ≤ W.heap.size → (∀ W', Below s W W' → LeavesIn F n P fn tmps R [] .returning W') →
    LeavesInM F n P fn tmps R (Ds.map mark) .returning W
  | [], W, _, _, _, h => h W (Below.refl _ _)
  | D :: Ds, W, hp, hd, hs, h => by
    obtain ⟨p1, p2⟩ := List.pairwise_cons.1 hp
    obtain ⟨h1, h2⟩ := hd D (by simp)
    have hb : Below s W (W.putObj D (.deferred none)) := (Below.refl s W).grown (grownBy_putObj' W D _) hs (fun k e => by cases e; exact h1)
    refine ⟨by simp, .inl ⟨D, _, rfl, run_takeDeferred h2, leaves_marks Ds _ p2 (fun D' hD' => ?_) (Nat.le_trans hs hb.size) fun W' hW' => h W' (hb.trans hW')⟩⟩
    obtain ⟨g1, g2⟩ := hd D' (by simp [hD'])
    exact ⟨g1, (World.putObj_heap_other (fun e => p1 D' hD' e.symm)).trans g2⟩
theorem defs_own {β : Type} {Ds : List Nat} {B : Nat} (h : ∀ D ∈ Ds, D < B) : OwnFrom B (fun (_ : β) (W : World) => ∀ D ∈ Ds, W.heap[D]? = some (.deferred (some []))) := fun _ X Y row hs hg hr D hD =>
  (hg.block D (Array.getElem?_eq_some_iff.1 (hs D hD)).1 fun e => by
    have h1 := (hr D e.symm).1
    have h2 := h D hD
    omega).trans (hs D hD)
def addR (m : Int) (a : Int) (p : P4) : Int := if p.2.1 = m then wrap64 (a + amt p) else a
def recN (m : Int) (ps : List P4) : Nat → Int
  | 0 => 0
  | j + 1 => (ofK ((j : Int) + 1) ps).foldl (addR m) (recN m ps j)
theorem index_kinds (W : World) (j : Int) (r : Int) (h : (j = 0 ∧ r = 1) ∨ (j = 1 ∧ r = 2) ∨ (j = 2 ∧ r = 3)) : (Instr.index 106 (.agg #[.int .i64 1, .int .i64 2, .int .i64 3]) (.int .i64 j)).run Tryz.prog W = .ok (.int .i64 r) W := by
  rcases h with ⟨rfl, rfl⟩ | ⟨rfl, rfl⟩ | ⟨rfl, rfl⟩ <;> kernel_rfl
def OutI (A : Option Addr) (cap : Nat) (ps : List P4) (m : Int) (w : World) (a : Act) (W : World) : Prop :=
  ∃ (j : Nat) (Ds : List Nat) (v u6 u7 u8 u11 u12 u13 u14 u15 u16 u17 u18 u19 u20 u21 u22 u23 u24 u25 u26 : Value), j ≤ 3 ∧ a = { tmps := #[.slice A ps.length cap, .int .i64 m, v, .pointer (some ⟨w.heap.size, 0, none⟩), .int .i64 0, .pointer (some ⟨w.heap.size + 1, 0, none⟩), u6, u7, u8, .agg #[.int .i64 1, .int .i64 2, .int .i64 3], .int .i64 j, u11, u12, u13, u14, u15, u16, u17, u18, u19, u20, u21, u22, u23, u24, u25, u26], defers := Ds.map mark } ∧
    Boxed W (w.heap.size + 1) 3 (.int .i64 (recN m ps j)) ∧ Boxed W w.heap.size 3 (.int .i64 m) ∧ Below w.heap.size w W ∧ w.heap.size + 2 ≤ W.heap.size ∧ Ds.Pairwise (· ≠ ·) ∧ ∀ D ∈ Ds, w.heap.size + 2 ≤ D ∧ W.heap[D]? = some (.deferred (some []))
set_option maxRecDepth 100000 in
set_option maxHeartbeats 4000000 in
theorem received_in (F : Fence) (n : Nat) (h19 : F.fn 15) (h23 : F.fn 42) (h24 : F.fn 43) (h26 : F.fn 77) (hro : F.round = none) (hn : 6 ≤ n) (A : Option Addr) (cap : Nat) (ps : List P4) (m : Int) (w : World) (hlen : ps.length ≤ maxLen) (hL : Posts w.heap.size w A ps) :
    CallsIn F n Tryz.prog 15 #[.slice A ps.length cap, .int .i64 m] w fun e W' => e = .returned (.int .i64 (recN m ps 3)) ∧ Below w.heap.size w W' := by
  have h1 : 1 ≤ n := by omega
  refine callsIn_of_wp_marks Tryz.func15 rfl h19 ?_ hro
  simp only [Tryz.ntmps15, List.size_toArray, List.length_cons, List.length_nil, Nat.reduceAdd, Nat.reduceSub, Array.replicate_succ, Array.replicate_zero, List.push_toArray, List.append_toArray, List.nil_append, List.cons_append]
  gi_wp2
  refine wpIn_loop (OutI A cap ps m w) (fun a _ => 3 - (intOf (a.tmps.getD 10 undef)).toNat) ?start ?round
  case start =>
    have bM := (Boxed.new w 3 (.int .i64 m)).alloc (.cells #[.int .i64 0] 3)
    have bS := Boxed.new (w.alloc (.cells #[.int .i64 m] 3)) 3 (.int .i64 0)
    simp only [World.size_alloc] at bS
    exact ⟨0, [], _, _, _, _, _, _, _, _, _, _, _, _, _, _, _, _, _, _, _, _, by omega, rfl, bS, bM, ((Below.refl _ w).alloc (Nat.le_refl _) _).alloc (by simp) _, by simp, .nil, fun D h => by cases h⟩
  case round =>
    rintro a W ⟨j, Ds, v, u6, u7, u8, u11, u12, u13, u14, u15, u16, u17, u18, u19, u20, u21, u22, u23, u24, u25, u26, hj, rfl, bS, bM, hB, hG, hp, hD⟩
    rcases Nat.lt_or_ge j 3 with hlt | hge
    · have hix := index_kinds W (j : Int) ((j : Int) + 1) (by omega)
      have hl3 : (j : Int) < 3 := by omega
      have hw3 : wrap64 ((j : Int) + 1) = ((j + 1 : Nat) : Int) := by unfold wrap64; omega
      gi_wp2_with (gi_at_call 42; refine (kindOf_in F (n - 1) h23 hro _ _ _ _ _).mono ?_; rintro e w' ⟨rfl, rfl⟩)
      have hDlt : ∀ D ∈ Ds, D < W.heap.size := fun D h => (Array.getElem?_eq_some_iff.1 (hD D h).2).1
      have bL := (Boxed.new W 40 (.slice A ps.length cap)).alloc (.cells #[.int .i64 ((j : Int) + 1)] 3)
      have bK := Boxed.new (W.alloc (.cells #[.slice A ps.length cap] 40)) 3 (.int .i64 ((j : Int) + 1))
      simp only [World.size_alloc] at bK
      have bS0 := (bS.alloc (.cells #[.slice A ps.length cap] 40)).alloc (.cells #[.int .i64 ((j : Int) + 1)] 3)
      have bM0 := (bM.alloc (.cells #[.slice A ps.length cap] 40)).alloc (.cells #[.int .i64 ((j : Int) + 1)] 3)
      have hB0 : Below w.heap.size w ((W.alloc (.cells #[.slice A ps.length cap] 40)).alloc (.cells #[.int .i64 ((j : Int) + 1)] 3)) := hB.trans (((Below.refl _ W).alloc hB.size _).alloc (by simp; omega) _)
      have hsz : ((W.alloc (.cells #[.slice A ps.length cap] 40)).alloc (.cells #[.int .i64 ((j : Int) + 1)] 3)).heap.size = W.heap.size + 2 := by simp
      have hD0 : ∀ D ∈ Ds, ((W.alloc (.cells #[.slice A ps.length cap] 40)).alloc (.cells #[.int .i64 ((j : Int) + 1)] 3)).heap[D]? = some (.deferred (some [])) := fun D h => (Below.heap_alloc _ _ D (by have := hDlt D h; simp; omega)).trans ((Below.heap_alloc _ _ D (hDlt D h)).trans (hD D h).2)
      obtain ⟨W0, hW0⟩ : ∃ W0, ((W.alloc (.cells #[.slice A ps.length cap] 40)).alloc (.cells #[.int .i64 ((j : Int) + 1)] 3)) = W0 := ⟨_, rfl⟩
      rw [hW0] at bL bK bS0 bM0 hB0 hsz hD0 ⊢
      clear hW0
      refine wpIn_rangeFunc_ownH hro h1 (gf := 77) (lb := #[.pointer (some ⟨W.heap.size, 0, none⟩), .pointer (some ⟨W.heap.size + 1, 0, none⟩)]) rfl h26 (enters_of Tryz.func77 (by kernel_rfl) rfl)
        (kinds_stops F (n - 1) h26 hro (by omega) W.heap.size (W.heap.size + 1) w.heap.size A cap ps ((j : Int) + 1) W0 hlen bL bK (hL.below hB0) (by omega)) KpB.t (KpB.b (by omega) (by omega)) (Below.refl _ _) (fun _ => rfl)
        (fun pre W' => ((Boxed W' (w.heap.size + 1) 3 (.int .i64 (pre.foldl (addR m) (recN m ps j))) ∧ Boxed W' w.heap.size 3 (.int .i64 m)) ∧ Below w.heap.size w W') ∧ (W.heap.size + 2 ≤ W'.heap.size ∧ ∀ D ∈ Ds, W'.heap[D]? = some (.deferred (some []))))
        (fun _ _ _ => False)
        (OwnFrom.and (OwnFrom.and (OwnFrom.and (Own.from (boxed_own _ _ _) _) (Own.from (boxed_own _ _ _) _)) (ownFrom_below (Nat.le_refl _) (by omega))) (OwnFrom.and (big_own _ _) (defs_own fun D h => by have := hDlt D h; omega)))
        (fun _ _ _ _ _ hs _ _ => hs)
        ⟨⟨⟨bS0, bM0⟩, hB0⟩, by omega, hD0⟩
        (fun x a' W' => ∃ Bx, W.heap.size + 1 < Bx ∧ Box4 W' Bx x ∧ a' = { tmps := #[.slice A ps.length cap, .int .i64 m, v, .pointer (some ⟨w.heap.size, 0, none⟩), .int .i64 0, .pointer (some ⟨w.heap.size + 1, 0, none⟩), u6, .int .i64 ((j : Int) + 1), .pointer (some ⟨Bx, 0, none⟩), .agg #[.int .i64 1, .int .i64 2, .int .i64 3], .int .i64 (j : Int), .bool true, .int .i64 ((j : Int) + 1), .slice A ps.length cap, .int .i64 ((j : Int) + 1), .func (.func 77) #[] #[.pointer (some ⟨W.heap.size, 0, none⟩), .pointer (some ⟨W.heap.size + 1, 0, none⟩)], P4.val x, u17, u18, u19, u20, u21, u22, u23, u24, u25, u26], defers := [] })
        (fun x a' _ X Y row hs hg hr => by obtain ⟨Bx, h1, h2, h3⟩ := hs; exact ⟨Bx, h1, Box4.own Bx x _ () X Y row h2 hg hr, h3⟩)
        ?assign ?body ?done ?stop
      case assign =>
        rintro l pre x W' K ⟨⟨⟨bS1, bM1⟩, hB1⟩, hG1, hD1⟩ hK
        unfold P4.val at hK ⊢
        gi_wp2
        refine hK _ _ ((KeepsOthers.alloc _ _).from _) ⟨(Below.refl _ W').alloc hB1.size _, ?_⟩ ⟨⟨⟨bS1.alloc _, bM1.alloc _⟩, hB1.alloc hB1.size _⟩, by rw [World.size_alloc]; omega, fun D h => (Below.heap_alloc _ _ D (by have := hDlt D h; omega)).trans (hD1 D h)⟩ ⟨W'.heap.size, by omega, World.alloc_heap_new W' _, rfl⟩
        exact World.cell?_alloc_old _ _ _ (show W.heap.size + 1 ≠ W'.heap.size by omega)
      case body =>
        rintro l pre x a' W' hl ⟨r, hr⟩ ⟨⟨⟨bS1, bM1⟩, hB1⟩, hG1, hD1⟩ ⟨Bx, hBx, bX, rfl⟩ hlt
        have cS := bS1.cell
        have fS := bS1.frozen
        have cM := bM1.cell
        have x0 : W'.cell? ⟨Bx, 0, none⟩ = some (.int .i64 x.1) := by simp [World.cell?, show W'.heap[Bx]? = _ from bX]
        have x1 : W'.cell? ⟨Bx, 1, none⟩ = some (.int .i64 x.2.1) := by simp [World.cell?, show W'.heap[Bx]? = _ from bX]
        have x2 : W'.cell? ⟨Bx, 2, none⟩ = some (.int .i64 x.2.2.1) := by simp [World.cell?, show W'.heap[Bx]? = _ from bX]
        have x3 : W'.cell? ⟨Bx, 3, none⟩ = some (.int .i64 x.2.2.2) := by simp [World.cell?, show W'.heap[Bx]? = _ from bX]
        have hsn : (pre ++ [x]).foldl (addR m) (recN m ps j) = addR m (pre.foldl (addR m) (recN m ps j)) x := by rw [List.foldl_append]; rfl
        have h1' : 1 ≤ n - 1 - 1 := by omega
        generalize pre.foldl (addR m) (recN m ps j) = acc at *
        by_cases hm : x.2.1 = m
        · have hsn' : (pre ++ [x]).foldl (addR m) (recN m ps j) = wrap64 (acc + amt x) := by rw [hsn]; exact if_pos hm
          unfold P4.val
          gi_wp2
          refine addRegion F (n - 1 - 1) l h24 hro h1' (w.heap.size + 1) Bx acc x W' "ledger.go:65" _ _ _ _ _ _ _ _ _ _ _ _ _ _ _ _ _ _ _ _ _ _ _ _ _ _ bS1 bX ?_
          have hlt1 := bS1.lt
          have hb2 : Below w.heap.size W' ((W'.alloc (.cells #[.int .i64 x.1, .int .i64 x.2.1, .int .i64 x.2.2.1, .int .i64 x.2.2.2] 87)).setCell ⟨w.heap.size + 1, 0, none⟩ (.int .i64 (wrap64 (acc + amt x)))).drew := (((Below.refl _ W').alloc hB1.size _).setCell (p := ⟨w.heap.size + 1, 0, none⟩) (by simp) _).drew
          have ho2 : KeepsOthers W' ((W'.alloc (.cells #[.int .i64 x.1, .int .i64 x.2.1, .int .i64 x.2.2.1, .int .i64 x.2.2.2] 87)).setCell ⟨w.heap.size + 1, 0, none⟩ (.int .i64 (wrap64 (acc + amt x)))).drew := ((KeepsOthers.alloc _ _).trans (KeepsOthers.setCell _ _ _)).trans (KeepsOthers.drew _)
          refine ⟨ho2.from _, ⟨hb2, ?_⟩, ⟨⟨?_, ?_⟩, hB1.trans hb2⟩, Nat.le_trans hG1 ho2.size, fun D h => ho2.same D _ (hD1 D h) rfl⟩
          · exact (cell_other (by omega)).trans (World.cell?_alloc_old _ _ _ (show W.heap.size + 1 ≠ W'.heap.size by omega))
          · rw [hsn']
            exact (bS1.alloc _).set _
          · have bM2 : Boxed ((W'.alloc (.cells #[.int .i64 x.1, .int .i64 x.2.1, .int .i64 x.2.2.1, .int .i64 x.2.2.2] 87)).setCell ⟨w.heap.size + 1, 0, none⟩ (.int .i64 (wrap64 (acc + amt x)))) w.heap.size 3 (.int .i64 m) := (bM1.alloc _).kept (grownBy_setCell' _ (w.heap.size + 1) _) (by simp)
            exact bM2
        · have hmb : (x.2.1 == m) = false := by simpa using hm
          have hsn' : (pre ++ [x]).foldl (addR m) (recN m ps j) = acc := by rw [hsn]; exact if_neg hm
          unfold P4.val
          gi_wp2
          exact ⟨KeepsFrom.refl _ _, ⟨Below.refl _ _, rfl⟩, ⟨⟨by rw [hsn']; exact bS1, bM1⟩, hB1⟩, hG1, hD1⟩
      case done =>
        rintro D zs W' hDW rfl ⟨⟨⟨bS1, bM1⟩, hB1⟩, hG1, hD1⟩ hK
        gi_wp2
        refine ⟨⟨j + 1, D :: Ds, v, u6, _, u8, _, _, _, _, _, _, _, _, _, _, _, _, _, _, _, _, by omega, rfl, bS1, bM1, hB1, by omega, List.pairwise_cons.2 ⟨fun D' h' => by have := hDlt D' h'; omega, hp⟩, fun D' h' => ?_⟩, by simp [intOf]; omega⟩
        rcases List.mem_cons.1 h' with rfl | h'
        · exact ⟨by omega, hK⟩
        · exact ⟨(hD D' h').1, hD1 D' h'⟩
      case stop =>
        rintro D c pre W' _ _ h _
        exact h.elim
    · obtain rfl : j = 3 := by omega
      have cS := bS.cell
      rw [show ((3 : Nat) : Int) = 3 from rfl]
      gi_wp2
      exact leaves_marks Ds W hp (fun D h => ⟨by have := (hD D h).1; omega, (hD D h).2⟩) hB.size fun W' hW' => ⟨_, results_tmp rfl _ _ _, rfl, hB.trans hW'⟩

def BoxR (W : World) (B : Nat) : Prop := W.heap[B]? = some (.cells #[.int .i64 0, .int .i64 109573] 51 (0, 0))
theorem BoxR.lt {W : World} {B : Nat} (h : BoxR W B) : B < W.heap.size := (Array.getElem?_eq_some_iff.1 h).1
theorem BoxR.new (W : World) : BoxR (W.alloc (.cells #[.int .i64 0, .int .i64 109573] 51)) W.heap.size := World.alloc_heap_new W _
theorem BoxR.kept {W W' : World} {row : Option Nat} {B : Nat} (h : BoxR W B) (hg : W.grownBy W' row) (hne : some B ≠ row) : BoxR W' B := (hg.block B h.lt hne).trans h
theorem BoxR.alloc {W : World} {B : Nat} (h : BoxR W B) (o : Obj) : BoxR (W.alloc o) B := h.kept (World.grownBy_alloc W o none) (by simp)
theorem BoxR.c0 {W : World} {B : Nat} (h : BoxR W B) : W.cell? ⟨B, 0, none⟩ = some (.int .i64 0) := by simp [World.cell?, show W.heap[B]? = _ from h]
theorem BoxR.c1 {W : World} {B : Nat} (h : BoxR W B) : W.cell? ⟨B, 1, none⟩ = some (.int .i64 109573) := by simp [World.cell?, show W.heap[B]? = _ from h]
theorem BoxR.own {β : Type} (B n : Nat) : OwnFrom n (fun (_ : β) W => BoxR W B) := fun _ X Y row hs hg hr => (hg.block B hs.lt fun e => by
  obtain ⟨_, o, ho, hc⟩ := hr B e.symm
  rw [show X.heap[B]? = _ from hs] at ho
  cases ho
  cases hc).trans hs
def addC (a : Int) (p : P4) : Int := if 0 ≤ p.1 ∧ p.1 < 109573 then wrap64 (a + amt p) else a
def cashN (ps : List P4) : Nat → Int
  | 0 => 0
  | j + 1 => (ofK ((j : Int) + 1) ps).foldl addC (cashN ps j)
set_option maxRecDepth 100000 in
set_option maxHeartbeats 2000000 in
theorem valid_in (F : Fence) (n : Nat) (h135 : F.fn 135) (hro : F.round = none) (w : World) :
    CallsIn F n Tryz.prog 135 #[.agg #[.int .i64 0, .int .i64 109573]] w fun e w' => e = .returned (.bool true) ∧ w' = w.alloc (.cells #[.int .i64 0, .int .i64 109573] 51) := by
  refine callsIn_of_wp Tryz.func135 rfl h135 ?_ hro
  simp only [Tryz.ntmps135, List.size_toArray, List.length_cons, List.length_nil, Nat.reduceAdd, Nat.reduceSub, Array.replicate_succ, Array.replicate_zero, List.push_toArray, List.append_toArray, List.nil_append, List.cons_append]
  gi_wp2
  go_ret
  exact ⟨by simp, rfl⟩
set_option maxRecDepth 100000 in
set_option maxHeartbeats 2000000 in
theorem contains_in (F : Fence) (n : Nat) (h91 : F.fn 91) (h135 : F.fn 135) (hro : F.round = none) (h1 : 1 ≤ n) (d : Int) (w : World) :
    CallsIn F n Tryz.prog 91 #[.agg #[.int .i64 0, .int .i64 109573], .int .i64 d] w fun e w' => e = .returned (.bool (decide (0 ≤ d ∧ d < 109573))) ∧ w' = (w.alloc (.cells #[.int .i64 0, .int .i64 109573] 51)).alloc (.cells #[.int .i64 0, .int .i64 109573] 51) := by
  have hv := fun n w => valid_in F n h135 hro w
  refine callsIn_of_wp Tryz.func91 rfl h91 ?_ hro
  simp only [Tryz.ntmps91, List.size_toArray, List.length_cons, List.length_nil, Nat.reduceAdd, Nat.reduceSub, Array.replicate_succ, Array.replicate_zero, List.push_toArray, List.append_toArray, List.nil_append, List.cons_append]
  by_cases hd1 : 0 ≤ d
  · by_cases hd2 : d < 109573
    all_goals
      gi_wp2_with (gi_at_call 135; refine (hv _ _).mono ?_; rintro e w' ⟨rfl, rfl⟩)
      gi_wp2
      go_ret
      exact ⟨by simp [hd1, hd2], rfl⟩
  · gi_wp2_with (gi_at_call 135; refine (hv _ _).mono ?_; rintro e w' ⟨rfl, rfl⟩)
    gi_wp2
    go_ret
    exact ⟨by simp; omega, rfl⟩
def OutC (A : Option Addr) (cap : Nat) (ps : List P4) (w : World) (a : Act) (W : World) : Prop :=
  ∃ (j : Nat) (Ds : List Nat) (v u6 u7 u8 u11 u12 u13 u14 u15 u16 u17 u18 u19 u20 u21 u22 u23 u24 u25 u26 : Value), j ≤ 3 ∧ a = { tmps := #[.slice A ps.length cap, .agg #[.int .i64 0, .int .i64 109573], v, .pointer (some ⟨w.heap.size, 0, none⟩), .int .i64 0, .pointer (some ⟨w.heap.size + 1, 0, none⟩), u6, u7, u8, .agg #[.int .i64 1, .int .i64 2, .int .i64 3], .int .i64 j, u11, u12, u13, u14, u15, u16, u17, u18, u19, u20, u21, u22, u23, u24, u25, u26], defers := Ds.map mark } ∧
    Boxed W (w.heap.size + 1) 3 (.int .i64 (cashN ps j)) ∧ BoxR W w.heap.size ∧ Below w.heap.size w W ∧ w.heap.size + 2 ≤ W.heap.size ∧ Ds.Pairwise (· ≠ ·) ∧ ∀ D ∈ Ds, w.heap.size + 2 ≤ D ∧ W.heap[D]? = some (.deferred (some []))
set_option maxRecDepth 100000 in
set_option maxHeartbeats 4000000 in
theorem cash_in (F : Fence) (n : Nat) (h19 : F.fn 56) (h91 : F.fn 91) (h135 : F.fn 135) (h23 : F.fn 42) (h24 : F.fn 43) (h26 : F.fn 77) (hro : F.round = none) (hn : 6 ≤ n) (A : Option Addr) (cap : Nat) (ps : List P4) (w : World) (hlen : ps.length ≤ maxLen) (hL : Posts w.heap.size w A ps) :
    CallsIn F n Tryz.prog 56 #[.slice A ps.length cap, .agg #[.int .i64 0, .int .i64 109573]] w fun e W' => e = .returned (.int .i64 (cashN ps 3)) ∧ Below w.heap.size w W' := by
  have h1 : 1 ≤ n := by omega
  refine callsIn_of_wp_marks Tryz.func56 rfl h19 ?_ hro
  simp only [Tryz.ntmps56, List.size_toArray, List.length_cons, List.length_nil, Nat.reduceAdd, Nat.reduceSub, Array.replicate_succ, Array.replicate_zero, List.push_toArray, List.append_toArray, List.nil_append, List.cons_append]
  gi_wp2
  refine wpIn_loop (OutC A cap ps w) (fun a _ => 3 - (intOf (a.tmps.getD 10 undef)).toNat) ?start ?round
  case start =>
    have bM := (BoxR.new w).alloc (.cells #[.int .i64 0] 3)
    have bS := Boxed.new (w.alloc (.cells #[.int .i64 0, .int .i64 109573] 51)) 3 (.int .i64 0)
    simp only [World.size_alloc] at bS
    exact ⟨0, [], _, _, _, _, _, _, _, _, _, _, _, _, _, _, _, _, _, _, _, _, by omega, rfl, bS, bM, ((Below.refl _ w).alloc (Nat.le_refl _) _).alloc (by simp) _, by simp, .nil, fun D h => by cases h⟩
  case round =>
    rintro a W ⟨j, Ds, v, u6, u7, u8, u11, u12, u13, u14, u15, u16, u17, u18, u19, u20, u21, u22, u23, u24, u25, u26, hj, rfl, bS, bM, hB, hG, hp, hD⟩
    rcases Nat.lt_or_ge j 3 with hlt | hge
    · have hix := index_kinds W (j : Int) ((j : Int) + 1) (by omega)
      have hl3 : (j : Int) < 3 := by omega
      have hw3 : wrap64 ((j : Int) + 1) = ((j + 1 : Nat) : Int) := by unfold wrap64; omega
      gi_wp2_with (gi_at_call 42; refine (kindOf_in F (n - 1) h23 hro _ _ _ _ _).mono ?_; rintro e w' ⟨rfl, rfl⟩)
      have hDlt : ∀ D ∈ Ds, D < W.heap.size := fun D h => (Array.getElem?_eq_some_iff.1 (hD D h).2).1
      have bL := (Boxed.new W 40 (.slice A ps.length cap)).alloc (.cells #[.int .i64 ((j : Int) + 1)] 3)
      have bK := Boxed.new (W.alloc (.cells #[.slice A ps.length cap] 40)) 3 (.int .i64 ((j : Int) + 1))
      simp only [World.size_alloc] at bK
      have bS0 := (bS.alloc (.cells #[.slice A ps.length cap] 40)).alloc (.cells #[.int .i64 ((j : Int) + 1)] 3)
      have bM0 := (bM.alloc (.cells #[.slice A ps.length cap] 40)).alloc (.cells #[.int .i64 ((j : Int) + 1)] 3)
      have hB0 : Below w.heap.size w ((W.alloc (.cells #[.slice A ps.length cap] 40)).alloc (.cells #[.int .i64 ((j : Int) + 1)] 3)) := hB.trans (((Below.refl _ W).alloc hB.size _).alloc (by simp; omega) _)
      have hsz : ((W.alloc (.cells #[.slice A ps.length cap] 40)).alloc (.cells #[.int .i64 ((j : Int) + 1)] 3)).heap.size = W.heap.size + 2 := by simp
      have hD0 : ∀ D ∈ Ds, ((W.alloc (.cells #[.slice A ps.length cap] 40)).alloc (.cells #[.int .i64 ((j : Int) + 1)] 3)).heap[D]? = some (.deferred (some [])) := fun D h => (Below.heap_alloc _ _ D (by have := hDlt D h; simp; omega)).trans ((Below.heap_alloc _ _ D (hDlt D h)).trans (hD D h).2)
      obtain ⟨W0, hW0⟩ : ∃ W0, ((W.alloc (.cells #[.slice A ps.length cap] 40)).alloc (.cells #[.int .i64 ((j : Int) + 1)] 3)) = W0 := ⟨_, rfl⟩
      rw [hW0] at bL bK bS0 bM0 hB0 hsz hD0 ⊢
      clear hW0
      refine wpIn_rangeFunc_ownH hro h1 (gf := 77) (lb := #[.pointer (some ⟨W.heap.size, 0, none⟩), .pointer (some ⟨W.heap.size + 1, 0, none⟩)]) rfl h26 (enters_of Tryz.func77 (by kernel_rfl) rfl)
        (kinds_stops F (n - 1) h26 hro (by omega) W.heap.size (W.heap.size + 1) w.heap.size A cap ps ((j : Int) + 1) W0 hlen bL bK (hL.below hB0) (by omega)) KpB.t (KpB.b (by omega) (by omega)) (Below.refl _ _) (fun _ => rfl)
        (fun pre W' => ((Boxed W' (w.heap.size + 1) 3 (.int .i64 (pre.foldl addC (cashN ps j))) ∧ BoxR W' w.heap.size) ∧ Below w.heap.size w W') ∧ (W.heap.size + 2 ≤ W'.heap.size ∧ ∀ D ∈ Ds, W'.heap[D]? = some (.deferred (some []))))
        (fun _ _ _ => False)
        (OwnFrom.and (OwnFrom.and (OwnFrom.and (Own.from (boxed_own _ _ _) _) (BoxR.own _ _)) (ownFrom_below (Nat.le_refl _) (by omega))) (OwnFrom.and (big_own _ _) (defs_own fun D h => by have := hDlt D h; omega)))
        (fun _ _ _ _ _ hs _ _ => hs)
        ⟨⟨⟨bS0, bM0⟩, hB0⟩, by omega, hD0⟩
        (fun x a' W' => ∃ Bx, W.heap.size + 1 < Bx ∧ Box4 W' Bx x ∧ a' = { tmps := #[.slice A ps.length cap, .agg #[.int .i64 0, .int .i64 109573], v, .pointer (some ⟨w.heap.size, 0, none⟩), .int .i64 0, .pointer (some ⟨w.heap.size + 1, 0, none⟩), u6, .int .i64 ((j : Int) + 1), .pointer (some ⟨Bx, 0, none⟩), .agg #[.int .i64 1, .int .i64 2, .int .i64 3], .int .i64 (j : Int), .bool true, .int .i64 ((j : Int) + 1), .slice A ps.length cap, .int .i64 ((j : Int) + 1), .func (.func 77) #[] #[.pointer (some ⟨W.heap.size, 0, none⟩), .pointer (some ⟨W.heap.size + 1, 0, none⟩)], P4.val x, u17, u18, u19, u20, u21, u22, u23, u24, u25, u26], defers := [] })
        (fun x a' _ X Y row hs hg hr => by obtain ⟨Bx, h1, h2, h3⟩ := hs; exact ⟨Bx, h1, Box4.own Bx x _ () X Y row h2 hg hr, h3⟩)
        ?assign ?body ?done ?stop
      case assign =>
        rintro l pre x W' K ⟨⟨⟨bS1, bM1⟩, hB1⟩, hG1, hD1⟩ hK
        unfold P4.val at hK ⊢
        gi_wp2
        refine hK _ _ ((KeepsOthers.alloc _ _).from _) ⟨(Below.refl _ W').alloc hB1.size _, ?_⟩ ⟨⟨⟨bS1.alloc _, bM1.alloc _⟩, hB1.alloc hB1.size _⟩, by rw [World.size_alloc]; omega, fun D h => (Below.heap_alloc _ _ D (by have := hDlt D h; omega)).trans (hD1 D h)⟩ ⟨W'.heap.size, by omega, World.alloc_heap_new W' _, rfl⟩
        exact World.cell?_alloc_old _ _ _ (show W.heap.size + 1 ≠ W'.heap.size by omega)
      case body =>
        rintro l pre x a' W' hl ⟨r, hr⟩ ⟨⟨⟨bS1, bM1⟩, hB1⟩, hG1, hD1⟩ ⟨Bx, hBx, bX, rfl⟩ hlt
        have cS := bS1.cell
        have fS := bS1.frozen
        have x0 : W'.cell? ⟨Bx, 0, none⟩ = some (.int .i64 x.1) := by simp [World.cell?, show W'.heap[Bx]? = _ from bX]
        have x1 : W'.cell? ⟨Bx, 1, none⟩ = some (.int .i64 x.2.1) := by simp [World.cell?, show W'.heap[Bx]? = _ from bX]
        have x2 : W'.cell? ⟨Bx, 2, none⟩ = some (.int .i64 x.2.2.1) := by simp [World.cell?, show W'.heap[Bx]? = _ from bX]
        have x3 : W'.cell? ⟨Bx, 3, none⟩ = some (.int .i64 x.2.2.2) := by simp [World.cell?, show W'.heap[Bx]? = _ from bX]
        have hsn : (pre ++ [x]).foldl addC (cashN ps j) = addC (pre.foldl addC (cashN ps j)) x := by rw [List.foldl_append]; rfl
        have h1' : 1 ≤ n - 1 - 1 := by omega
        generalize pre.foldl addC (cashN ps j) = acc at *
        have cM0 : W'.cell? ⟨w.heap.size, 0, none⟩ = some (.int .i64 0) := bM1.c0
        have cM1 : W'.cell? ⟨w.heap.size, 1, none⟩ = some (.int .i64 109573) := bM1.c1
        obtain ⟨rb, hrb⟩ : ∃ rb : Obj, rb = .cells #[.int .i64 0, .int .i64 109573] 51 := ⟨_, rfl⟩
        have bX2 : Box4 ((W'.alloc rb).alloc rb) Bx x := (Below.heap_alloc _ _ Bx (by have := bX.lt; simp; omega)).trans ((Below.heap_alloc _ _ Bx bX.lt).trans bX)
        have bS2 := (bS1.alloc rb).alloc rb
        have bM2 := (bM1.alloc rb).alloc rb
        have hW2 : Below w.heap.size W' ((W'.alloc rb).alloc rb) := ((Below.refl _ W').alloc hB1.size _).alloc (by have := hB1.size; simp; omega) _
        have hB2 := hB1.trans hW2
        have hk2 : KeepsOthers W' ((W'.alloc rb).alloc rb) := (KeepsOthers.alloc _ _).trans (KeepsOthers.alloc _ _)
        have hc2 : ((W'.alloc rb).alloc rb).cell? ⟨W.heap.size + 1, 0, none⟩ = W'.cell? ⟨W.heap.size + 1, 0, none⟩ := (World.cell?_alloc_old _ _ _ (show W.heap.size + 1 ≠ (W'.alloc rb).heap.size by simp; omega)).trans (World.cell?_alloc_old _ _ _ (show W.heap.size + 1 ≠ W'.heap.size by omega))
        have hs2 : ((W'.alloc rb).alloc rb).heap.size = W'.heap.size + 2 := by simp
        obtain ⟨V, hV⟩ : ∃ V, V = (W'.alloc rb).alloc rb := ⟨_, rfl⟩
        rw [← hV] at bX2 bS2 bM2 hW2 hB2 hk2 hc2 hs2
        have hct := fun n h w => contains_in F n h91 h135 hro h x.1 w
        by_cases hx : 0 ≤ x.1 ∧ x.1 < 109573
        · have hsn' : (pre ++ [x]).foldl addC (cashN ps j) = wrap64 (acc + amt x) := hsn.trans (if_pos hx)
          rw [decide_eq_true hx] at hct
          unfold P4.val
          gi_wp2_with (gi_at_call 91; refine (CallsIn.inRound l (hct _ (by omega) _)).mono ?_; rintro e w' ⟨rfl, rfl⟩)
          gi_wp2
          rw [← hrb, ← hV]
          refine addRegion F (n - 1 - 1) l h24 hro h1' (w.heap.size + 1) Bx acc x V "ledger.go:89" _ _ _ _ _ _ _ _ _ _ _ _ _ _ _ _ _ _ _ _ _ _ _ _ _ _ bS2 bX2 ?_
          have hlt1 := bS2.lt
          have hb2 : Below w.heap.size V ((V.alloc (.cells #[.int .i64 x.1, .int .i64 x.2.1, .int .i64 x.2.2.1, .int .i64 x.2.2.2] 87)).setCell ⟨w.heap.size + 1, 0, none⟩ (.int .i64 (wrap64 (acc + amt x)))).drew := (((Below.refl _ V).alloc hB2.size _).setCell (p := ⟨w.heap.size + 1, 0, none⟩) (by simp) _).drew
          have ho2 : KeepsOthers V ((V.alloc (.cells #[.int .i64 x.1, .int .i64 x.2.1, .int .i64 x.2.2.1, .int .i64 x.2.2.2] 87)).setCell ⟨w.heap.size + 1, 0, none⟩ (.int .i64 (wrap64 (acc + amt x)))).drew := ((KeepsOthers.alloc _ _).trans (KeepsOthers.setCell _ _ _)).trans (KeepsOthers.drew _)
          have ho3 := hk2.trans ho2
          refine ⟨ho3.from _, ⟨hW2.trans hb2, ?_⟩, ⟨⟨?_, ?_⟩, hB2.trans hb2⟩, Nat.le_trans hG1 ho3.size, fun D h => ho3.same D _ (hD1 D h) rfl⟩
          · exact ((cell_other (by omega)).trans (World.cell?_alloc_old _ _ _ (show W.heap.size + 1 ≠ V.heap.size by omega))).trans hc2
          · rw [hsn']
            exact (bS2.alloc _).set _
          · have bM3 : BoxR ((V.alloc (.cells #[.int .i64 x.1, .int .i64 x.2.1, .int .i64 x.2.2.1, .int .i64 x.2.2.2] 87)).setCell ⟨w.heap.size + 1, 0, none⟩ (.int .i64 (wrap64 (acc + amt x)))) w.heap.size := (bM2.alloc _).kept (grownBy_setCell' _ (w.heap.size + 1) _) (by simp)
            exact bM3
        · have hsn' : (pre ++ [x]).foldl addC (cashN ps j) = acc := hsn.trans (if_neg hx)
          rw [decide_eq_false hx] at hct
          unfold P4.val
          gi_wp2_with (gi_at_call 91; refine (CallsIn.inRound l (hct _ (by omega) _)).mono ?_; rintro e w' ⟨rfl, rfl⟩)
          gi_wp2
          rw [← hrb, ← hV]
          exact ⟨hk2.from _, ⟨hW2, hc2⟩, ⟨⟨by rw [hsn']; exact bS2, bM2⟩, hB2⟩, Nat.le_trans hG1 hk2.size, fun D h => hk2.same D _ (hD1 D h) rfl⟩
      case done =>
        rintro D zs W' hDW rfl ⟨⟨⟨bS1, bM1⟩, hB1⟩, hG1, hD1⟩ hK
        gi_wp2
        refine ⟨⟨j + 1, D :: Ds, v, u6, _, u8, _, _, _, _, _, _, _, _, _, _, _, _, _, _, _, _, by omega, rfl, bS1, bM1, hB1, by omega, List.pairwise_cons.2 ⟨fun D' h' => by have := hDlt D' h'; omega, hp⟩, fun D' h' => ?_⟩, by simp [intOf]; omega⟩
        rcases List.mem_cons.1 h' with rfl | h'
        · exact ⟨by omega, hK⟩
        · exact ⟨(hD D' h').1, hD1 D' h'⟩
      case stop =>
        rintro D c pre W' _ _ h _
        exact h.elim
    · obtain rfl : j = 3 := by omega
      have cS := bS.cell
      rw [show ((3 : Nat) : Int) = 3 from rfl]
      gi_wp2
      exact leaves_marks Ds W hp (fun D h => ⟨by have := (hD D h).1; omega, (hD D h).2⟩) hB.size fun W' hW' => ⟨_, results_tmp rfl _ _ _, rfl, hB.trans hW'⟩
end
end Go.Proofs.YtleifhfeahnocaaGreatDoor
