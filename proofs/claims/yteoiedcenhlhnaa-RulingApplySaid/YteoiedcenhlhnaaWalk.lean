/- The walks, by program (gen.py): what each function returns is what its model says. -/
import Derived.Test.YteoiedcenhlhnaaRows
import Derived.Test.YteoiedcenhlhnaaModel
namespace Go.Proofs.Yteoiedcenhlhnaa
open Go Go.RowKit

theorem T3 : TI Try.prog 3 rInt := TI.mk (k := 1) (by kernel_rfl) rfl
theorem T30 : TI Try.prog 30 rAppeal := TI.mk (k := 7) (by kernel_rfl) rfl
theorem T40 : TI Try.prog 40 rInt := TI.mk (k := 1) (by kernel_rfl) rfl
theorem T42 : TI Try.prog 42 rAward := TI.mk (k := 3) (by kernel_rfl) rfl
theorem E3 : EqOK Try.prog 3 rInt 1 := eqT_int Try.underlying3
theorem E40 : EqOK Try.prog 40 rInt 1 := eqT_int Try.underlying40
theorem G42 : Try.prog.eqGuardType Try.prog.depth 42 = false := by kernel_rfl
theorem A42 : (Try.prog.underlying 42).any aggD = true := by rw [Try.underlying42]; rfl
theorem E42 : EqOK Try.prog 42 rAward 2 := eqT_struct Try.underlying42 (by kernel_rfl) (eqF_cons rfl rfl Try.underlying3 (by simp [aggD]) T3 E3 (eqF_cons rfl rfl Try.underlying3 (by simp [aggD]) T3 E3 (eqF_last rfl rfl Try.underlying40 (by simp [aggD]) T40 E40)))
theorem pl30 (w : World) : ((#[{ name := "Id", type := 3, offset := 0, embedded := false, tag := "", pkgPath := "", byteOffset := 0 }, { name := "From", type := 3, offset := 1, embedded := false, tag := "", pkgPath := "", byteOffset := 8 }, { name := "To", type := 3, offset := 2, embedded := false, tag := "", pkgPath := "", byteOffset := 16 }, { name := "Filed", type := 3, offset := 3, embedded := false, tag := "", pkgPath := "", byteOffset := 24 }, { name := "Deadline", type := 3, offset := 4, embedded := false, tag := "", pkgPath := "", byteOffset := 32 }, { name := "State", type := 3, offset := 5, embedded := false, tag := "", pkgPath := "", byteOffset := 40 }, { name := "Cents", type := 3, offset := 6, embedded := false, tag := "", pkgPath := "", byteOffset := 48 }] : Array Field).mapM fun (f : Field) => (do pure (f.offset, ← sizeOf f.type) : Sem (Nat × Nat))).run Try.prog w = .ok #[(0, 1), (1, 1), (2, 1), (3, 1), (4, 1), (5, 1), (6, 1)] w := by kernel_rfl
theorem pl42 (w : World) : ((#[{ name := "Month", type := 3, offset := 0, embedded := false, tag := "", pkgPath := "", byteOffset := 0 }, { name := "Cents", type := 3, offset := 1, embedded := false, tag := "", pkgPath := "", byteOffset := 8 }, { name := "Code", type := 40, offset := 2, embedded := false, tag := "", pkgPath := "", byteOffset := 16 }] : Array Field).mapM fun (f : Field) => (do pure (f.offset, ← sizeOf f.type) : Sem (Nat × Nat))).run Try.prog w = .ok #[(0, 1), (1, 1), (2, 1)] w := by kernel_rfl
theorem mixed : Try.prog.follows .mixedOrders = true := by kernel_rfl
theorem nm8 : (Try.f8.name == "runtime.NumGoroutine") = false := by kernel_rfl
theorem bd8 : Try.f8.body.isNone = false := by kernel_rfl
theorem nm9 : (Try.f9.name == "runtime.NumGoroutine") = false := by kernel_rfl
theorem bd9 : Try.f9.body.isNone = false := by kernel_rfl
theorem nm10 : (Try.f10.name == "runtime.NumGoroutine") = false := by kernel_rfl
theorem bd10 : Try.f10.body.isNone = false := by kernel_rfl
theorem nm11 : (Try.f11.name == "runtime.NumGoroutine") = false := by kernel_rfl
theorem bd11 : Try.f11.body.isNone = false := by kernel_rfl
theorem nm12 : (Try.f12.name == "runtime.NumGoroutine") = false := by kernel_rfl
theorem bd12 : Try.f12.body.isNone = false := by kernel_rfl
theorem nm13 : (Try.f13.name == "runtime.NumGoroutine") = false := by kernel_rfl
theorem bd13 : Try.f13.body.isNone = false := by kernel_rfl
theorem nm14 : (Try.f14.name == "runtime.NumGoroutine") = false := by kernel_rfl
theorem bd14 : Try.f14.body.isNone = false := by kernel_rfl
theorem nm15 : (Try.f15.name == "runtime.NumGoroutine") = false := by kernel_rfl
theorem bd15 : Try.f15.body.isNone = false := by kernel_rfl
theorem nm16 : (Try.f16.name == "runtime.NumGoroutine") = false := by kernel_rfl
theorem bd16 : Try.f16.body.isNone = false := by kernel_rfl
theorem nm17 : (Try.f17.name == "runtime.NumGoroutine") = false := by kernel_rfl
theorem bd17 : Try.f17.body.isNone = false := by kernel_rfl
theorem nm18 : (Try.f18.name == "runtime.NumGoroutine") = false := by kernel_rfl
theorem bd18 : Try.f18.body.isNone = false := by kernel_rfl

set_option maxRecDepth 100000 in
set_option maxHeartbeats 1000000 in
theorem M.ruling_Granted_walk (N : Nat) (w0 : World) (F0 : Nat → Prop) (hF0 : ∀ b, F0 b → b < w0.heap.size) (p0_l : List rAppeal.den) (vp0_l : Value) (hp0_l : Rep F0 w0 (Row.slice rAppeal) [vp0_l] p0_l) (p1_m : Int) (r : Int × Bool) (hm : M.ruling_Granted N p0_l p1_m = some r) :
    Calls Try.prog 14 [vp0_l, (Value.int .i64 p1_m)].toArray w0 fun e w => ∃ v, e = .returned v ∧ ∃ F, St w0 F0 w F ∧ ∃ u0 u1, v = .tuple #[u0, u1] ∧ (u0 = (Value.int .i64 r.1)) ∧ (u1 = (Value.bool r.2)) := by
  refine calls_of_wpC Try.func14 rfl (Nat.le_of_ble_eq_true rfl) ?_
  intro ρ hρ
  have st0 := St.refl hF0
  rw [M.ruling_Granted] at hm
  refine wpC_seq ?_
  refine wpC_region ?_
  refine wpS_pure (Value.int .i64 (0 : Int)) (pure_assign rfl) rfl ?_
  refine wpS_pure (Value.bool false) (pure_assign rfl) rfl ?_
  refine wpS_nil ?_
  refine thn_normal ?_
  refine wpC_seq ?_
  refine wpC_seq ?_
  refine wpC_region ?_
  refine wpS_pure vp0_l (pure_move (hρ 0 _ rfl)) rfl ?_
  refine wpS_len (v := vp0_l) Try.underlying22 rfl ((hp0_l.step (st0.step hF0))).reads rfl ?_
  refine wpS_pure (Value.int .i64 (IntKind.i64.wrap ((p0_l.length : Int) - (1 : Int)))) (pure_sub rfl rfl) rfl ?_
  refine wpS_pure (Value.int .i64 (IntKind.i64.wrap ((p0_l.length : Int) - (1 : Int)))) (pure_assign rfl) rfl ?_
  refine wpS_nil ?_
  refine thn_normal ?_
  refine wpC_block_join (fun ρ w => ∃ (F72 : Nat → Prop), St w0 F0 w F72 ∧ M.ruling_Granted_k1 N = some r) ?_ ?_
  · skip
    obtain ⟨x120, hL121, hm122⟩ := bind_some hm
    clear hm
    refine wpC_loop (fun (s : Int) ρ w => ∃ (a113 : Int) (F117 : Nat → Prop), a113 = s ∧ St w0 F0 w F117 ∧ ρ 0 = vp0_l ∧ ρ 1 = (Value.int .i64 p1_m) ∧ ρ 6 = (Value.int .i64 a113)) hL121 ?_ ?_
    · exact ⟨(IntKind.i64.wrap ((p0_l.length : Int) - (1 : Int))), _, rfl, st0, (hρ 0 _ rfl), (hρ 1 _ rfl), rfl⟩
    · skip
      rintro s ρ w y125 ⟨a113, F117, rfl, st118, r114, r115, r116⟩ hm126
      have hm : M.ruling_Granted_k2 N p0_l p1_m a113 = some y125 := hm126
      clear hm126
      rw [M.ruling_Granted_k2] at hm
      refine wpC_seq ?_
      refine wpC_seq ?_
      refine wpC_region ?_
      refine wpS_pure (Value.int .i64 a113) (pure_move r116) rfl ?_
      refine wpS_pure (Value.bool (decide ((0 : Int) ≤ a113))) (pure_geq rfl rfl) rfl ?_
      refine wpS_nil ?_
      refine thn_normal ?_
      by_cases hc127 : (decide ((0 : Int) ≤ a113)) = true
      · rw [if_pos hc127] at hm
        refine wpC_true (bval rfl hc127) ?_
        refine wpC_skip ?_
        refine thn_normal ?_
        refine wpC_seq ?_
        refine wpC_block ?_
        refine wpC_seq ?_
        refine wpC_region ?_
        refine wpS_pure vp0_l (pure_move r114) rfl ?_
        refine wpS_pure (Value.int .i64 a113) (pure_move r116) rfl ?_
        obtain ⟨x128, h129, hm⟩ := bind_some hm
        try dsimp only at hm
        refine wpS_indexT (v := vp0_l) Try.underlying22 T30 rfl rfl ((hp0_l.step (st118.step hF0))).reads h129 rfl ?_
        intro b130 o131 ha132
        refine wpS_load_rowT Try.underlying30 rfl T30 rfl ha132 rfl ?_
        intro es133 hr134
        refine wpS_allocT (base := w0.heap.size) rAppeal T30 st118.lt st118.below.size rfl ?_
        intro b135 w136 h137 hb138 hn139
        have hn140 : ∀ k, is b135 k → _ ≤ k := fun k hk => hk ▸ hn139
        have st141 := st118.trans h137
        refine wpS_store_boxT (v := (Value.agg es133.toArray)) (.here) T30 rfl rfl rfl rfl (hr134.step (h137.step st118.lt)) hb138 st141.lt ?_
        intro w143 he144 hb146
        have hb145 : BoxO w0.heap.size _ w143 b135 30 rAppeal (x128) := hb146
        have st147 := st141.ext he144 (hb138).ge
        refine wpS_nil ?_
        refine thn_normal ?_
        refine wpC_seq_join (fun ρ w => ∃ (a149 : Bool) (F155 : Nat → Prop), St w0 F0 w F155 ∧ BoxO w0.heap.size F155 w b135 30 rAppeal x128 ∧ ρ 0 = vp0_l ∧ ρ 1 = (Value.int .i64 p1_m) ∧ ρ 6 = (Value.int .i64 a113) ∧ ρ 7 = (Value.pointer (some ⟨b135, 0, none⟩)) ∧ ρ 33 = (Value.bool a149) ∧ M.ruling_Granted_k3 N a113 x128 a149 = some y125) ?_ ?_
        · skip
          refine wpC_region ?_
          refine wpS_pure (Value.pointer (some ⟨b135, 0 + 5, none⟩)) (pure_fieldT 5 Try.underlying30 rfl T3 rfl rfl) rfl ?_
          have ha158 : At _ _ rInt b135 (0 + 5) (x128.2.2.2.2.2.1) := (hb145).at.path (.snd (.snd (.snd (.snd (.snd (.fst (.here))))))) 5 rfl
          refine wpS_load_int Try.underlying3 rfl rfl ha158 rfl ?_
          refine wpS_pure (Value.bool (decide (x128.2.2.2.2.2.1 = (3 : Int)))) (pure_eql rfl rfl) rfl ?_
          refine wpS_pure (Value.bool (decide (x128.2.2.2.2.2.1 = (3 : Int)))) (pure_move rfl) rfl ?_
          by_cases hc159 : (decide (x128.2.2.2.2.2.1 = (3 : Int))) = true
          · rw [if_pos hc159] at hm
            refine wpS_on 22 rfl rfl (bval' rfl hc159) ?_
            refine wpS_pure (Value.pointer (some ⟨b135, 0 + 1, none⟩)) (pure_fieldT 1 Try.underlying30 rfl T3 rfl rfl) rfl ?_
            refine wpS_on 22 rfl rfl (bval' rfl hc159) ?_
            have ha160 : At _ _ rInt b135 (0 + 1) (x128.2.1) := (hb145).at.path (.snd (.fst (.here))) 1 rfl
            refine wpS_load_int Try.underlying3 rfl rfl ha160 rfl ?_
            refine wpS_on 22 rfl rfl (bval' rfl hc159) ?_
            refine wpS_pure (Value.int .i64 p1_m) (pure_move r115) rfl ?_
            refine wpS_on 22 rfl rfl (bval' rfl hc159) ?_
            refine wpS_pure (Value.bool (decide (x128.2.1 ≤ p1_m))) (pure_leq rfl rfl) rfl ?_
            refine wpS_pure (Value.bool (decide (x128.2.1 ≤ p1_m))) (pure_pick_true (bval rfl hc159) rfl) rfl ?_
            refine wpS_pure (Value.bool (decide (x128.2.1 ≤ p1_m))) (pure_move rfl) rfl ?_
            by_cases hc161 : (decide (x128.2.1 ≤ p1_m)) = true
            · rw [if_pos hc161] at hm
              refine wpS_on 28 rfl rfl (bval' rfl hc161) ?_
              refine wpS_pure (Value.int .i64 p1_m) (pure_move r115) rfl ?_
              refine wpS_on 28 rfl rfl (bval' rfl hc161) ?_
              refine wpS_pure (Value.pointer (some ⟨b135, 0 + 2, none⟩)) (pure_fieldT 2 Try.underlying30 rfl T3 rfl rfl) rfl ?_
              refine wpS_on 28 rfl rfl (bval' rfl hc161) ?_
              have ha162 : At _ _ rInt b135 (0 + 2) (x128.2.2.1) := (hb145).at.path (.snd (.snd (.fst (.here)))) 2 rfl
              refine wpS_load_int Try.underlying3 rfl rfl ha162 rfl ?_
              refine wpS_on 28 rfl rfl (bval' rfl hc161) ?_
              refine wpS_pure (Value.bool (decide (p1_m < x128.2.2.1))) (pure_lss rfl rfl) rfl ?_
              refine wpS_pure (Value.bool (decide (p1_m < x128.2.2.1))) (pure_pick_true (bval rfl hc161) rfl) rfl ?_
              refine wpS_nil ?_
              refine thn_normal ?_
              exact ⟨(decide (p1_m < x128.2.2.1)), _, st147, hb145, r114, r115, r116, rfl, rfl, hm⟩
            · rw [if_neg hc161] at hm
              replace hc161 := Bool.eq_false_iff.2 hc161
              refine wpS_off 28 rfl rfl (bval' rfl hc161) (by decide) rfl ?_
              refine wpS_off 28 rfl rfl (bval' rfl hc161) (by decide) rfl ?_
              refine wpS_off 28 rfl rfl (bval' rfl hc161) (by decide) rfl ?_
              refine wpS_off 28 rfl rfl (bval' rfl hc161) (by decide) rfl ?_
              refine wpS_pure (Value.bool false) (pure_pick_false (bval rfl hc161) rfl) rfl ?_
              refine wpS_nil ?_
              refine thn_normal ?_
              exact ⟨false, _, st147, hb145, r114, r115, r116, rfl, rfl, hm⟩
          · rw [if_neg hc159] at hm
            replace hc159 := Bool.eq_false_iff.2 hc159
            refine wpS_off 22 rfl rfl (bval' rfl hc159) (by decide) rfl ?_
            refine wpS_off 22 rfl rfl (bval' rfl hc159) (by decide) rfl ?_
            refine wpS_off 22 rfl rfl (bval' rfl hc159) (by decide) rfl ?_
            refine wpS_off 22 rfl rfl (bval' rfl hc159) (by decide) rfl ?_
            refine wpS_pure (Value.bool false) (pure_pick_false (bval rfl hc159) rfl) rfl ?_
            refine wpS_pure (Value.bool false) (pure_move rfl) rfl ?_
            refine wpS_off 28 rfl rfl rfl (by decide) rfl ?_
            refine wpS_off 28 rfl rfl rfl (by decide) rfl ?_
            refine wpS_off 28 rfl rfl rfl (by decide) rfl ?_
            refine wpS_off 28 rfl rfl rfl (by decide) rfl ?_
            refine wpS_pure (Value.bool false) (pure_pick_false rfl rfl) rfl ?_
            refine wpS_nil ?_
            refine thn_normal ?_
            exact ⟨false, _, st147, hb145, r114, r115, r116, rfl, rfl, hm⟩
        · skip
          rintro ρ w ⟨a149, F155, st156, hb148, r150, r151, r152, r153, r154, hm⟩
          rw [M.ruling_Granted_k3] at hm
          by_cases hc163 : a149 = true
          · rw [if_pos hc163] at hm
            refine wpC_true (bval r154 hc163) ?_
            refine wpC_seq ?_
            refine wpC_region ?_
            refine wpS_pure (Value.pointer (some ⟨b135, 0 + 6, none⟩)) (pure_fieldT 6 Try.underlying30 rfl T3 rfl r153) rfl ?_
            have ha164 : At _ _ rInt b135 (0 + 6) (x128.2.2.2.2.2.2) := (hb148).at.path (.snd (.snd (.snd (.snd (.snd (.snd (.here))))))) 6 rfl
            refine wpS_load_int Try.underlying3 rfl rfl ha164 rfl ?_
            refine wpS_pure (Value.int .i64 x128.2.2.2.2.2.2) (pure_assign rfl) rfl ?_
            refine wpS_pure (Value.bool true) (pure_assign rfl) rfl ?_
            refine wpS_nil ?_
            refine thn_normal ?_
            refine wpC_ret ?_
            refine inB_ret ?_
            refine thn_ret ?_
            obtain rfl := Option.some.inj hm
            refine loopQ_ret (fun hx => ?_)
            subst hx
            have hm165 : some ((x128.2.2.2.2.2.2, true)) = some r := hm122
            refine joinQ_ret ?_
            refine thn_ret ?_
            obtain rfl := Option.some.inj hm165
            refine bodyQ_ret2 Try.results14 (Value.int .i64 x128.2.2.2.2.2.2) (Value.bool true) rfl rfl ?_
            exact ⟨_, st156, _, _, rfl, rfl, rfl⟩
          · rw [if_neg hc163] at hm
            replace hc163 := Bool.eq_false_iff.2 hc163
            refine wpC_false (bval r154 hc163) ?_
            refine wpC_skip ?_
            refine inB_normal ?_
            refine thn_normal ?_
            refine wpC_region ?_
            refine wpS_pure (Value.int .i64 a113) (pure_move r152) rfl ?_
            refine wpS_pure (Value.int .i64 (IntKind.i64.wrap (a113 - (1 : Int)))) (pure_sub rfl rfl) rfl ?_
            refine wpS_pure (Value.int .i64 (IntKind.i64.wrap (a113 - (1 : Int)))) (pure_assign rfl) rfl ?_
            refine wpS_nil ?_
            obtain rfl := Option.some.inj hm
            refine loopQ_in ?_
            exact ⟨(IntKind.i64.wrap (a113 - (1 : Int))), _, rfl, st156, r150, r151, rfl⟩
      · rw [if_neg hc127] at hm
        replace hc127 := Bool.eq_false_iff.2 hc127
        refine wpC_false (bval rfl hc127) ?_
        refine wpC_exit ?_
        refine thn_exit ?_
        obtain rfl := Option.some.inj hm
        refine loopQ_exit (fun hx => ?_)
        subst hx
        have hm166 : M.ruling_Granted_k1 N = some r := hm122
        refine joinQ_same ?_
        exact ⟨_, st118, hm166⟩
  · skip
    rintro ρ w ⟨F72, st73, hm⟩
    rw [M.ruling_Granted_k1] at hm
    refine thn_normal ?_
    refine wpC_seq ?_
    refine wpC_region ?_
    refine wpS_pure (Value.int .i64 (0 : Int)) (pure_assign rfl) rfl ?_
    refine wpS_pure (Value.bool false) (pure_assign rfl) rfl ?_
    refine wpS_nil ?_
    refine thn_normal ?_
    refine wpC_ret ?_
    obtain rfl := Option.some.inj hm
    refine bodyQ_ret2 Try.results14 (Value.int .i64 (0 : Int)) (Value.bool false) rfl rfl ?_
    exact ⟨_, st73, _, _, rfl, rfl, rfl⟩

set_option maxRecDepth 100000 in
set_option maxHeartbeats 1000000 in
theorem M.ruling_Apply_walk (N : Nat) (w0 : World) (F0 : Nat → Prop) (hF0 : ∀ b, F0 b → b < w0.heap.size) (p0_a : List rAward.den) (vp0_a : Value) (hp0_a : Rep F0 w0 (Row.slice rAward) [vp0_a] p0_a) (p1_l : List rAppeal.den) (vp1_l : Value) (hp1_l : Rep F0 w0 (Row.slice rAppeal) [vp1_l] p1_l) (r : List rAward.den) (hm : M.ruling_Apply N p0_a p1_l = some r) :
    Calls Try.prog 17 [vp0_a, vp1_l].toArray w0 fun e w => ∃ v, e = .returned v ∧ ∃ F, St w0 F0 w F ∧ Own w0.heap.size F w 42 rAward v r ∧ ∀ k, mine v k → w0.heap.size ≤ k := by
  refine calls_of_wpC Try.func17 rfl (Nat.le_of_ble_eq_true rfl) ?_
  intro ρ hρ
  have st0 := St.refl hF0
  rw [M.ruling_Apply] at hm
  refine wpC_seq ?_
  refine wpC_region ?_
  refine wpS_pure (Value.slice none 0 0) (pure_assign rfl) rfl ?_
  refine wpS_nil ?_
  refine thn_normal ?_
  refine wpC_seq ?_
  refine wpC_region ?_
  refine wpS_pure (Value.slice none 0 0) (pure_assign rfl) rfl ?_
  refine wpS_nil ?_
  refine thn_normal ?_
  refine wpC_seq ?_
  refine wpC_seq ?_
  refine wpC_region ?_
  refine wpS_pure vp0_a (pure_move (hρ 0 _ rfl)) rfl ?_
  refine wpS_len (v := vp0_a) Try.underlying33 rfl ((hp0_a.step (st0.step hF0))).reads rfl ?_
  refine wpS_pure (Value.int .i64 (0 : Int)) (pure_move rfl) rfl ?_
  refine wpS_nil ?_
  refine thn_normal ?_
  refine wpC_block_join (fun ρ w => ∃ (a444 : List rAward.den) (F448 : Nat → Prop) (v443 : Value), St w0 F0 w F448 ∧ Own w0.heap.size F448 w 42 rAward v443 a444 ∧ ρ 5 = v443 ∧ M.ruling_Apply_k1 N a444 = some r) ?_ ?_
  · skip
    obtain ⟨x630, hL631, hm632⟩ := bind_some hm
    clear hm
    refine wpC_loop (fun (s : List rAward.den × Int) ρ w => ∃ (a618 : List rAward.den) (a621 : Int) (F627 : Nat → Prop) (v617 : Value), (a618, a621) = s ∧ St w0 F0 w F627 ∧ Own w0.heap.size F627 w 42 rAward v617 a618 ∧ ρ 1 = vp1_l ∧ ρ 5 = v617 ∧ ρ 10 = vp0_a ∧ ρ 11 = (Value.int .i64 (p0_a.length : Int)) ∧ ρ 12 = (Value.int .i64 a621)) hL631 ?_ ?_
    · exact ⟨[], (0 : Int), _, (Value.slice none 0 0), rfl, st0, (Own.nil _ _ _ _ _), (hρ 1 _ rfl), rfl, rfl, rfl, rfl⟩
    · skip
      rintro s ρ w y633 ⟨a618, a621, F627, v617, rfl, st628, ho620, r622, r623, r624, r625, r626⟩ hm634
      have hm : M.ruling_Apply_k2 N p0_a p1_l a618 a621 = some y633 := hm634
      clear hm634
      rw [M.ruling_Apply_k2] at hm
      refine wpC_seq ?_
      refine wpC_region ?_
      refine wpS_pure (Value.bool (decide (a621 < (p0_a.length : Int)))) (pure_lss r626 r625) rfl ?_
      refine wpS_nil ?_
      refine thn_normal ?_
      refine wpC_seq ?_
      by_cases hc635 : (decide (a621 < (p0_a.length : Int))) = true
      · rw [if_pos hc635] at hm
        refine wpC_true (bval rfl hc635) ?_
        refine wpC_skip ?_
        refine thn_normal ?_
        refine wpC_seq ?_
        refine wpC_block ?_
        refine wpC_seq ?_
        refine wpC_region ?_
        obtain ⟨x636, h637, hm⟩ := bind_some hm
        try dsimp only at hm
        refine wpS_indexT (v := vp0_a) Try.underlying33 T42 r624 r626 ((hp0_a.step (st628.step hF0))).reads h637 rfl ?_
        intro b638 o639 ha640
        refine wpS_load_rowT Try.underlying42 rfl T42 rfl ha640 rfl ?_
        intro es641 hr642
        refine wpS_allocT (base := w0.heap.size) rAward T42 st628.lt st628.below.size rfl ?_
        intro b643 w644 h645 hb646 hn647
        have hn648 : ∀ k, is b643 k → _ ≤ k := fun k hk => hk ▸ hn647
        have st649 := st628.trans h645
        refine wpS_store_boxT (v := (Value.agg es641.toArray)) (.here) T42 rfl rfl rfl rfl (hr642.step (h645.step st628.lt)) hb646 st649.lt ?_
        intro w651 he652 hb654
        have hb653 : BoxO w0.heap.size _ w651 b643 42 rAward (x636) := hb654
        have st655 := st649.ext he652 (hb646).ge
        refine wpS_nil ?_
        refine thn_normal ?_
        refine wpC_seq ?_
        refine wpC_seq ?_
        refine wpC_region ?_
        refine wpS_pure vp1_l (pure_move r622) rfl ?_
        refine wpS_pure (Value.pointer (some ⟨b643, 0 + 0, none⟩)) (pure_fieldT 0 Try.underlying42 rfl T3 rfl rfl) rfl ?_
        have ha656 : At _ _ rInt b643 (0 + 0) (x636.1) := (hb653).at.path (.fst (.here)) 0 rfl
        refine wpS_load_int Try.underlying3 rfl rfl ha656 rfl ?_
        obtain ⟨y657, h658, hm⟩ := bind_some hm
        try dsimp only at hm
        refine wpS_call (vs := [vp1_l, (Value.int .i64 x636.1)]) Try.func14 nm14 bd14 (m_cons rfl (m_cons rfl m_nil)) (M.ruling_Granted_walk N _ _ st655.lt p1_l vp1_l (hp1_l.step (st655.step hF0)) x636.1 y657 h658) rfl ?_
        rintro v659 w660 ⟨F661, h662, hv663⟩
        have h664 := h662.narrow st655.lt
        have st665 := st655.trans h664
        obtain ⟨v666, v667, rfl, hv668, hv669⟩ := hv663
        obtain rfl := hv668
        obtain rfl := hv669
        refine wpS_pure (Value.tuple #[(Value.int .i64 y657.1), (Value.bool y657.2)]) (pure_move rfl) rfl ?_
        refine wpS_pure (Value.int .i64 y657.1) (pure_extract rfl rfl) rfl ?_
        refine wpS_pure (Value.bool y657.2) (pure_extract rfl rfl) rfl ?_
        refine wpS_pure (Value.int .i64 y657.1) (pure_assign rfl) rfl ?_
        refine wpS_pure (Value.bool y657.2) (pure_assign rfl) rfl ?_
        refine wpS_nil ?_
        refine thn_normal ?_
        refine wpC_seq ?_
        refine wpC_region ?_
        refine wpS_pure (Value.bool y657.2) (pure_move rfl) rfl ?_
        refine wpS_nil ?_
        refine thn_normal ?_
        by_cases hc670 : y657.2 = true
        · rw [if_pos hc670] at hm
          refine wpC_true (bval rfl hc670) ?_
          refine wpC_region ?_
          refine wpS_pure (Value.pointer (some ⟨b643, 0 + 0, none⟩)) (pure_fieldT 0 Try.underlying42 rfl T3 rfl rfl) rfl ?_
          have ha671 : At _ _ rInt b643 (0 + 0) (x636.1) := ((hb653.st st655.lt h664)).at.path (.fst (.here)) 0 rfl
          refine wpS_load_int Try.underlying3 rfl rfl ha671 rfl ?_
          refine wpS_pure (Value.int .i64 y657.1) (pure_move rfl) rfl ?_
          refine wpS_structT (r := rAward) (qs := [(0, .tmp 25), (1, .tmp 26), (2, .const (Value.int .i64 (0 : Int)))]) (vs := [(Value.int .i64 x636.1), (Value.int .i64 y657.1), (Value.int .i64 (0 : Int))]) (a := (x636.1, y657.1, (0 : Int))) st665.lt Try.underlying42 T42 (pl42 _) (q_cons rfl (q_cons rfl (q_cons rfl q_nil))) (Bld.cons (.fst (.here)) rfl rfl rfl rfl rfl (Bld.cons (.snd (.fst (.here))) rfl rfl rfl rfl rfl (Bld.cons (.snd (.snd (.here))) rfl rfl rfl rfl rfl Bld.nil))) rfl ?_
          intro es672 hr673
          refine wpS_store_boxT (v := (Value.agg es672.toArray)) (.here) T42 rfl rfl rfl rfl hr673 (hb653.st st655.lt h664) st665.lt ?_
          intro w674 he675 hb677
          have hb676 : BoxO w0.heap.size _ w674 b643 42 rAward ((x636.1, y657.1, (0 : Int))) := hb677
          have st678 := st665.ext he675 ((hb653.st st655.lt h664)).ge
          refine wpS_nil ?_
          refine thn_normal ?_
          refine wpC_region ?_
          refine wpS_pure v617 (pure_move r623) rfl ?_
          refine wpS_load_rowT Try.underlying42 rfl T42 rfl (hb676).at rfl ?_
          intro es679 hr680
          refine wpS_oneT (base := w0.heap.size) (v := (Value.agg es679.toArray)) Try.underlying33 T42 rfl rfl rfl hr680 st678.lt st678.below.size rfl ?_
          intro v681 w682 h683 ho684 hn685
          have st686 := st678.trans h683
          obtain ⟨l688, h689, hm⟩ := bind_some hm
          try dsimp only at hm
          refine wpS_appendT (v := v617) (u := v681) Try.underlying33 T42 rfl rfl (((((ho620.st st628.lt h645).ext st649.lt he652 (hb646).no (ap_new (ho620).lt hn648)).st st655.lt h664).ext st665.lt he675 ((hb653.st st655.lt h664)).no (ap_new (ho620).lt hn648)).st st678.lt h683) (ho684).reads h689 st686.lt st686.below.size rfl ?_
          intro v690 w691 he692 ho693 hn694
          have st695 := st686.ext he692 ((((((ho620.st st628.lt h645).ext st649.lt he652 (hb646).no (ap_new (ho620).lt hn648)).st st655.lt h664).ext st665.lt he675 ((hb653.st st655.lt h664)).no (ap_new (ho620).lt hn648)).st st678.lt h683)).ge
          refine wpS_pure v690 (pure_assign rfl) rfl ?_
          refine wpS_nil ?_
          refine inB_normal ?_
          refine thn_normal ?_
          refine wpC_region ?_
          refine wpS_pure (Value.int .i64 (IntKind.i64.wrap (a621 + (1 : Int)))) (pure_add r626 rfl) rfl ?_
          refine wpS_pure (Value.int .i64 (IntKind.i64.wrap (a621 + (1 : Int)))) (pure_move rfl) rfl ?_
          refine wpS_nil ?_
          obtain rfl := Option.some.inj hm
          refine loopQ_in ?_
          exact ⟨l688, (IntKind.i64.wrap (a621 + (1 : Int))), _, v690, rfl, st695, ho693, r622, rfl, r624, r625, rfl⟩
        · rw [if_neg hc670] at hm
          replace hc670 := Bool.eq_false_iff.2 hc670
          refine wpC_false (bval rfl hc670) ?_
          refine wpC_skip ?_
          refine thn_normal ?_
          refine wpC_region ?_
          refine wpS_pure v617 (pure_move r623) rfl ?_
          refine wpS_load_rowT Try.underlying42 rfl T42 rfl ((hb653.st st655.lt h664)).at rfl ?_
          intro es696 hr697
          refine wpS_oneT (base := w0.heap.size) (v := (Value.agg es696.toArray)) Try.underlying33 T42 rfl rfl rfl hr697 st665.lt st665.below.size rfl ?_
          intro v698 w699 h700 ho701 hn702
          have st703 := st665.trans h700
          obtain ⟨l705, h706, hm⟩ := bind_some hm
          try dsimp only at hm
          refine wpS_appendT (v := v617) (u := v698) Try.underlying33 T42 rfl rfl ((((ho620.st st628.lt h645).ext st649.lt he652 (hb646).no (ap_new (ho620).lt hn648)).st st655.lt h664).st st665.lt h700) (ho701).reads h706 st703.lt st703.below.size rfl ?_
          intro v707 w708 he709 ho710 hn711
          have st712 := st703.ext he709 (((((ho620.st st628.lt h645).ext st649.lt he652 (hb646).no (ap_new (ho620).lt hn648)).st st655.lt h664).st st665.lt h700)).ge
          refine wpS_pure v707 (pure_assign rfl) rfl ?_
          refine wpS_nil ?_
          refine inB_normal ?_
          refine thn_normal ?_
          refine wpC_region ?_
          refine wpS_pure (Value.int .i64 (IntKind.i64.wrap (a621 + (1 : Int)))) (pure_add r626 rfl) rfl ?_
          refine wpS_pure (Value.int .i64 (IntKind.i64.wrap (a621 + (1 : Int)))) (pure_move rfl) rfl ?_
          refine wpS_nil ?_
          obtain rfl := Option.some.inj hm
          refine loopQ_in ?_
          exact ⟨l705, (IntKind.i64.wrap (a621 + (1 : Int))), _, v707, rfl, st712, ho710, r622, rfl, r624, r625, rfl⟩
      · rw [if_neg hc635] at hm
        replace hc635 := Bool.eq_false_iff.2 hc635
        refine wpC_false (bval rfl hc635) ?_
        refine wpC_exit ?_
        refine thn_exit ?_
        obtain rfl := Option.some.inj hm
        refine loopQ_exit (fun hx => ?_)
        subst hx
        have hm713 : M.ruling_Apply_k1 N a618 = some r := hm632
        refine joinQ_same ?_
        exact ⟨a618, _, v617, st628, ho620, r623, hm713⟩
  · skip
    rintro ρ w ⟨a444, F448, v443, st449, ho446, r447, hm⟩
    rw [M.ruling_Apply_k1] at hm
    refine thn_normal ?_
    refine wpC_seq ?_
    refine wpC_region ?_
    refine wpS_pure v443 (pure_move r447) rfl ?_
    refine wpS_pure v443 (pure_assign rfl) rfl ?_
    refine wpS_nil ?_
    refine thn_normal ?_
    refine wpC_ret ?_
    obtain rfl := Option.some.inj hm
    refine bodyQ_ret1 Try.results17 v443 rfl ?_
    exact ⟨_, st449, ⟨ho446, (ho446).ge⟩⟩

set_option maxRecDepth 100000 in
set_option maxHeartbeats 1000000 in
theorem M.ruling_StayedMonths_walk (N : Nat) (w0 : World) (F0 : Nat → Prop) (hF0 : ∀ b, F0 b → b < w0.heap.size) (p0_l : List rAppeal.den) (vp0_l : Value) (hp0_l : Rep F0 w0 (Row.slice rAppeal) [vp0_l] p0_l) (r : List Int) (hm : M.ruling_StayedMonths N p0_l = some r) :
    Calls Try.prog 10 [vp0_l].toArray w0 fun e w => ∃ v, e = .returned v ∧ ∃ F, St w0 F0 w F ∧ Own w0.heap.size F w 3 rInt v r ∧ ∀ k, mine v k → w0.heap.size ≤ k := by
  refine calls_of_wpC Try.func10 rfl (Nat.le_of_ble_eq_true rfl) ?_
  intro ρ hρ
  have st0 := St.refl hF0
  rw [M.ruling_StayedMonths] at hm
  refine wpC_seq ?_
  refine wpC_region ?_
  refine wpS_pure (Value.slice none 0 0) (pure_assign rfl) rfl ?_
  refine wpS_nil ?_
  refine thn_normal ?_
  refine wpC_seq ?_
  refine wpC_region ?_
  obtain ⟨l735, h736, hm⟩ := bind_some hm
  try dsimp only at hm
  refine wpS_makeT (base := w0.heap.size) Try.underlying25 T3 rfl rfl h736 st0.lt st0.below.size rfl ?_
  intro v737 w738 h739 ho740 hn741
  have st742 := st0.trans h739
  refine wpS_pure v737 (pure_assign rfl) rfl ?_
  refine wpS_nil ?_
  refine thn_normal ?_
  refine wpC_seq ?_
  refine wpC_seq ?_
  refine wpC_region ?_
  refine wpS_pure vp0_l (pure_move (hρ 0 _ rfl)) rfl ?_
  refine wpS_len (v := vp0_l) Try.underlying22 rfl ((hp0_l.step (st742.step hF0))).reads rfl ?_
  refine wpS_pure (Value.int .i64 (0 : Int)) (pure_move rfl) rfl ?_
  refine wpS_nil ?_
  refine thn_normal ?_
  refine wpC_block_join (fun ρ w => ∃ (a892 : List Int) (F895 : Nat → Prop) (v891 : Value), St w0 F0 w F895 ∧ Own w0.heap.size F895 w 3 rInt v891 a892 ∧ ρ 3 = v891 ∧ M.ruling_StayedMonths_k1 N a892 = some r) ?_ ?_
  · skip
    obtain ⟨x1007, hL1008, hm1009⟩ := bind_some hm
    clear hm
    refine wpC_loop (fun (s : List Int × Int) ρ w => ∃ (a997 : List Int) (a999 : Int) (F1004 : Nat → Prop) (v996 : Value), (a997, a999) = s ∧ St w0 F0 w F1004 ∧ Own w0.heap.size F1004 w 3 rInt v996 a997 ∧ ρ 3 = v996 ∧ ρ 12 = vp0_l ∧ ρ 13 = (Value.int .i64 (p0_l.length : Int)) ∧ ρ 14 = (Value.int .i64 a999)) hL1008 ?_ ?_
    · exact ⟨l735, (0 : Int), _, v737, rfl, st742, ho740, rfl, rfl, rfl, rfl⟩
    · skip
      rintro s ρ w y1010 ⟨a997, a999, F1004, v996, rfl, st1005, ho998, r1000, r1001, r1002, r1003⟩ hm1011
      have hm : M.ruling_StayedMonths_k2 N p0_l a997 a999 = some y1010 := hm1011
      clear hm1011
      rw [M.ruling_StayedMonths_k2] at hm
      refine wpC_seq ?_
      refine wpC_region ?_
      refine wpS_pure (Value.bool (decide (a999 < (p0_l.length : Int)))) (pure_lss r1003 r1002) rfl ?_
      refine wpS_nil ?_
      refine thn_normal ?_
      refine wpC_seq ?_
      by_cases hc1012 : (decide (a999 < (p0_l.length : Int))) = true
      · rw [if_pos hc1012] at hm
        refine wpC_true (bval rfl hc1012) ?_
        refine wpC_skip ?_
        refine thn_normal ?_
        refine wpC_seq ?_
        refine wpC_block ?_
        refine wpC_seq ?_
        refine wpC_region ?_
        obtain ⟨x1013, h1014, hm⟩ := bind_some hm
        try dsimp only at hm
        refine wpS_indexT (v := vp0_l) Try.underlying22 T30 r1001 r1003 ((hp0_l.step (st1005.step hF0))).reads h1014 rfl ?_
        intro b1015 o1016 ha1017
        refine wpS_load_rowT Try.underlying30 rfl T30 rfl ha1017 rfl ?_
        intro es1018 hr1019
        refine wpS_allocT (base := w0.heap.size) rAppeal T30 st1005.lt st1005.below.size rfl ?_
        intro b1020 w1021 h1022 hb1023 hn1024
        have hn1025 : ∀ k, is b1020 k → _ ≤ k := fun k hk => hk ▸ hn1024
        have st1026 := st1005.trans h1022
        refine wpS_store_boxT (v := (Value.agg es1018.toArray)) (.here) T30 rfl rfl rfl rfl (hr1019.step (h1022.step st1005.lt)) hb1023 st1026.lt ?_
        intro w1028 he1029 hb1031
        have hb1030 : BoxO w0.heap.size _ w1028 b1020 30 rAppeal (x1013) := hb1031
        have st1032 := st1026.ext he1029 (hb1023).ge
        refine wpS_nil ?_
        refine thn_normal ?_
        refine wpC_seq_join (fun ρ w => ∃ (F1041 : Nat → Prop) (v1033 : Value), St w0 F0 w F1041 ∧ Own w0.heap.size F1041 w 3 rInt v1033 a997 ∧ BoxO w0.heap.size F1041 w b1020 30 rAppeal x1013 ∧ (∀ k, mine v1033 k → ¬ is b1020 k) ∧ ρ 3 = v1033 ∧ ρ 5 = (Value.pointer (some ⟨b1020, 0, none⟩)) ∧ ρ 12 = vp0_l ∧ ρ 13 = (Value.int .i64 (p0_l.length : Int)) ∧ ρ 14 = (Value.int .i64 a999) ∧ M.ruling_StayedMonths_k3 N a997 a999 x1013 = some y1010) ?_ ?_
        · skip
          refine wpC_seq ?_
          refine wpC_region ?_
          refine wpS_pure (Value.pointer (some ⟨b1020, 0 + 5, none⟩)) (pure_fieldT 5 Try.underlying30 rfl T3 rfl rfl) rfl ?_
          have ha1045 : At _ _ rInt b1020 (0 + 5) (x1013.2.2.2.2.2.1) := (hb1030).at.path (.snd (.snd (.snd (.snd (.snd (.fst (.here))))))) 5 rfl
          refine wpS_load_int Try.underlying3 rfl rfl ha1045 rfl ?_
          refine wpS_pure (Value.bool (!decide (x1013.2.2.2.2.2.1 = (1 : Int)))) (pure_neq rfl rfl) rfl ?_
          refine wpS_pure (Value.bool (!decide (x1013.2.2.2.2.2.1 = (1 : Int)))) (pure_move rfl) rfl ?_
          by_cases hc1046 : (!decide (x1013.2.2.2.2.2.1 = (1 : Int))) = true
          · rw [if_pos hc1046] at hm
            refine wpS_on 21 rfl rfl (bval' rfl hc1046) ?_
            refine wpS_pure (Value.pointer (some ⟨b1020, 0 + 5, none⟩)) (pure_fieldT 5 Try.underlying30 rfl T3 rfl rfl) rfl ?_
            refine wpS_on 21 rfl rfl (bval' rfl hc1046) ?_
            have ha1047 : At _ _ rInt b1020 (0 + 5) (x1013.2.2.2.2.2.1) := (hb1030).at.path (.snd (.snd (.snd (.snd (.snd (.fst (.here))))))) 5 rfl
            refine wpS_load_int Try.underlying3 rfl rfl ha1047 rfl ?_
            refine wpS_on 21 rfl rfl (bval' rfl hc1046) ?_
            refine wpS_pure (Value.bool (!decide (x1013.2.2.2.2.2.1 = (2 : Int)))) (pure_neq rfl rfl) rfl ?_
            refine wpS_pure (Value.bool (!decide (x1013.2.2.2.2.2.1 = (2 : Int)))) (pure_pick_true (bval rfl hc1046) rfl) rfl ?_
            refine wpS_nil ?_
            refine thn_normal ?_
            by_cases hc1048 : (!decide (x1013.2.2.2.2.2.1 = (2 : Int))) = true
            · rw [if_pos hc1048] at hm
              refine wpC_true (bval rfl hc1048) ?_
              refine wpC_exit ?_
              refine thn_exit ?_
              refine inB_same ?_
              refine thn_normal ?_
              refine wpC_region ?_
              refine wpS_pure (Value.int .i64 (IntKind.i64.wrap (a999 + (1 : Int)))) (pure_add r1003 rfl) rfl ?_
              refine wpS_pure (Value.int .i64 (IntKind.i64.wrap (a999 + (1 : Int)))) (pure_move rfl) rfl ?_
              refine wpS_nil ?_
              obtain rfl := Option.some.inj hm
              refine loopQ_in ?_
              exact ⟨a997, (IntKind.i64.wrap (a999 + (1 : Int))), _, v996, rfl, st1032, ((ho998.st st1005.lt h1022).ext st1026.lt he1029 (hb1023).no (ap_new (ho998).lt hn1025)), r1000, r1001, r1002, rfl⟩
            · rw [if_neg hc1048] at hm
              replace hc1048 := Bool.eq_false_iff.2 hc1048
              refine wpC_false (bval rfl hc1048) ?_
              refine wpC_skip ?_
              refine thn_normal ?_
              exact ⟨_, v996, st1032, ((ho998.st st1005.lt h1022).ext st1026.lt he1029 (hb1023).no (ap_new (ho998).lt hn1025)), hb1030, (ap_symm (ap_new (ho998).lt hn1025)), r1000, rfl, r1001, r1002, r1003, hm⟩
          · rw [if_neg hc1046] at hm
            replace hc1046 := Bool.eq_false_iff.2 hc1046
            refine wpS_off 21 rfl rfl (bval' rfl hc1046) (by decide) rfl ?_
            refine wpS_off 21 rfl rfl (bval' rfl hc1046) (by decide) rfl ?_
            refine wpS_off 21 rfl rfl (bval' rfl hc1046) (by decide) rfl ?_
            refine wpS_pure (Value.bool false) (pure_pick_false (bval rfl hc1046) rfl) rfl ?_
            refine wpS_nil ?_
            refine thn_normal ?_
            refine wpC_false rfl ?_
            refine wpC_skip ?_
            refine thn_normal ?_
            exact ⟨_, v996, st1032, ((ho998.st st1005.lt h1022).ext st1026.lt he1029 (hb1023).no (ap_new (ho998).lt hn1025)), hb1030, (ap_symm (ap_new (ho998).lt hn1025)), r1000, rfl, r1001, r1002, r1003, hm⟩
        · skip
          rintro ρ w ⟨F1041, v1033, st1042, ho1034, hb1035, ap1043, r1036, r1037, r1038, r1039, r1040, hm⟩
          rw [M.ruling_StayedMonths_k3] at hm
          refine wpC_seq ?_
          refine wpC_draw st1042.lt mixed (by kernel_rfl) ?_
          refine wpQ_pure (Value.pointer (some ⟨b1020, 0 + 1, none⟩)) (pure_fieldT 1 Try.underlying30 rfl T3 rfl r1037) rfl ?_
          have ha1049 : At _ _ rInt b1020 (0 + 1) (x1013.2.1) := (hb1035).at.path (.snd (.fst (.here))) 1 rfl
          refine wpQ_load_int st1042.lt Try.underlying3 rfl rfl ha1049 rfl ?_
          refine wpQ_pure (Value.int .i64 (if x1013.2.1 < (0 : Int) then (0 : Int) else x1013.2.1)) (pure_max2 rfl rfl) rfl ?_
          refine wpQ_pure (Value.pointer (some ⟨b1020, 0 + 2, none⟩)) (pure_fieldT 2 Try.underlying30 rfl T3 rfl r1037) rfl ?_
          have ha1050 : At _ _ rInt b1020 (0 + 2) (x1013.2.2.1) := (hb1035).at.path (.snd (.snd (.fst (.here)))) 2 rfl
          refine wpQ_load_int st1042.lt Try.underlying3 rfl rfl ha1050 rfl ?_
          refine wpQ_pure (Value.int .i64 (if (3600 : Int) < x1013.2.2.1 then (3600 : Int) else x1013.2.2.1)) (pure_min2 rfl rfl) rfl ?_
          refine wpQ_pure (Value.int .i64 (if x1013.2.1 < (0 : Int) then (0 : Int) else x1013.2.1)) (pure_assign rfl) rfl ?_
          refine wpQ_pure (Value.int .i64 (if (3600 : Int) < x1013.2.2.1 then (3600 : Int) else x1013.2.2.1)) (pure_assign rfl) rfl ?_
          refine wpQ_nil ?_
          intro w1052 h1051
          have st1053 := st1042.trans h1051
          refine thn_normal ?_
          refine wpC_seq ?_
          refine wpC_region ?_
          refine wpS_pure (Value.int .i64 (if x1013.2.1 < (0 : Int) then (0 : Int) else x1013.2.1)) (pure_move rfl) rfl ?_
          refine wpS_pure (Value.int .i64 (if (3600 : Int) < x1013.2.2.1 then (3600 : Int) else x1013.2.2.1)) (pure_move rfl) rfl ?_
          refine wpS_pure (Value.bool (decide ((if x1013.2.1 < (0 : Int) then (0 : Int) else x1013.2.1) < (if (3600 : Int) < x1013.2.2.1 then (3600 : Int) else x1013.2.2.1)))) (pure_lss rfl rfl) rfl ?_
          refine wpS_nil ?_
          refine thn_normal ?_
          by_cases hc1054 : (decide ((if x1013.2.1 < (0 : Int) then (0 : Int) else x1013.2.1) < (if (3600 : Int) < x1013.2.2.1 then (3600 : Int) else x1013.2.2.1))) = true
          · rw [if_pos hc1054] at hm
            refine wpC_true (bval rfl hc1054) ?_
            refine wpC_seq ?_
            refine wpC_region ?_
            refine wpS_pure v1033 (pure_move r1036) rfl ?_
            refine wpS_pure (Value.int .i64 (if x1013.2.1 < (0 : Int) then (0 : Int) else x1013.2.1)) (pure_move rfl) rfl ?_
            obtain ⟨x1055, h1056, hm⟩ := bind_some hm
            try dsimp only at hm
            refine wpS_indexT (v := v1033) Try.underlying25 T3 rfl rfl ((ho1034.st st1042.lt h1051)).reads h1056 rfl ?_
            intro b1057 o1058 ha1059
            refine wpS_load_int Try.underlying3 rfl rfl ha1059 rfl ?_
            refine wpS_pure (Value.int .i64 (IntKind.i64.wrap (x1055 + (1 : Int)))) (pure_add rfl rfl) rfl ?_
            obtain ⟨x1060, h1061, hm⟩ := bind_some hm
            try dsimp only at hm
            refine wpS_elemT (v := v1033) Try.underlying25 T3 rfl rfl (ho1034.st st1042.lt h1051) h1061 rfl ?_
            intro g1062 q1063 hg1064 hq1065
            refine wpS_store_elemT (v := v1033) (val := (Value.int .i64 (IntKind.i64.wrap (x1055 + (1 : Int))))) (.here) T3 rfl (by simp [Path.off]) rfl rfl rfl (ho1034.st st1042.lt h1051) hg1064 hq1065 h1061 st1053.lt ?_
            intro w1066 he1067 ho1068
            have ho1069 : Own w0.heap.size _ w1066 3 rInt v1033 (setL a997 (if x1013.2.1 < (0 : Int) then (0 : Int) else x1013.2.1) (IntKind.i64.wrap (x1055 + (1 : Int)))) := ho1068
            have st1070 := st1053.ext he1067 ((ho1034.st st1042.lt h1051)).ge
            refine wpS_nil ?_
            refine thn_normal ?_
            refine wpC_region ?_
            refine wpS_pure v1033 (pure_move r1036) rfl ?_
            refine wpS_pure (Value.int .i64 (if (3600 : Int) < x1013.2.2.1 then (3600 : Int) else x1013.2.2.1)) (pure_move rfl) rfl ?_
            obtain ⟨x1071, h1072, hm⟩ := bind_some hm
            try dsimp only at hm
            refine wpS_indexT (v := v1033) Try.underlying25 T3 rfl rfl (ho1069).reads h1072 rfl ?_
            intro b1073 o1074 ha1075
            refine wpS_load_int Try.underlying3 rfl rfl ha1075 rfl ?_
            refine wpS_pure (Value.int .i64 (IntKind.i64.wrap (x1071 - (1 : Int)))) (pure_sub rfl rfl) rfl ?_
            obtain ⟨x1076, h1077, hm⟩ := bind_some hm
            try dsimp only at hm
            refine wpS_elemT (v := v1033) Try.underlying25 T3 rfl rfl ho1069 h1077 rfl ?_
            intro g1078 q1079 hg1080 hq1081
            refine wpS_store_elemT (v := v1033) (val := (Value.int .i64 (IntKind.i64.wrap (x1071 - (1 : Int))))) (.here) T3 rfl (by simp [Path.off]) rfl rfl rfl ho1069 hg1080 hq1081 h1077 st1070.lt ?_
            intro w1082 he1083 ho1084
            have ho1085 : Own w0.heap.size _ w1082 3 rInt v1033 (setL (setL a997 (if x1013.2.1 < (0 : Int) then (0 : Int) else x1013.2.1) (IntKind.i64.wrap (x1055 + (1 : Int)))) (if (3600 : Int) < x1013.2.2.1 then (3600 : Int) else x1013.2.2.1) (IntKind.i64.wrap (x1071 - (1 : Int)))) := ho1084
            have st1086 := st1070.ext he1083 (ho1069).ge
            refine wpS_nil ?_
            refine inB_normal ?_
            refine thn_normal ?_
            refine wpC_region ?_
            refine wpS_pure (Value.int .i64 (IntKind.i64.wrap (a999 + (1 : Int)))) (pure_add r1040 rfl) rfl ?_
            refine wpS_pure (Value.int .i64 (IntKind.i64.wrap (a999 + (1 : Int)))) (pure_move rfl) rfl ?_
            refine wpS_nil ?_
            obtain rfl := Option.some.inj hm
            refine loopQ_in ?_
            exact ⟨(setL (setL a997 (if x1013.2.1 < (0 : Int) then (0 : Int) else x1013.2.1) (IntKind.i64.wrap (x1055 + (1 : Int)))) (if (3600 : Int) < x1013.2.2.1 then (3600 : Int) else x1013.2.2.1) (IntKind.i64.wrap (x1071 - (1 : Int)))), (IntKind.i64.wrap (a999 + (1 : Int))), _, v1033, rfl, st1086, ho1085, r1036, r1038, r1039, rfl⟩
          · rw [if_neg hc1054] at hm
            replace hc1054 := Bool.eq_false_iff.2 hc1054
            refine wpC_false (bval rfl hc1054) ?_
            refine wpC_skip ?_
            refine inB_normal ?_
            refine thn_normal ?_
            refine wpC_region ?_
            refine wpS_pure (Value.int .i64 (IntKind.i64.wrap (a999 + (1 : Int)))) (pure_add r1040 rfl) rfl ?_
            refine wpS_pure (Value.int .i64 (IntKind.i64.wrap (a999 + (1 : Int)))) (pure_move rfl) rfl ?_
            refine wpS_nil ?_
            obtain rfl := Option.some.inj hm
            refine loopQ_in ?_
            exact ⟨a997, (IntKind.i64.wrap (a999 + (1 : Int))), _, v1033, rfl, st1053, (ho1034.st st1042.lt h1051), r1036, r1038, r1039, rfl⟩
      · rw [if_neg hc1012] at hm
        replace hc1012 := Bool.eq_false_iff.2 hc1012
        refine wpC_false (bval rfl hc1012) ?_
        refine wpC_exit ?_
        refine thn_exit ?_
        obtain rfl := Option.some.inj hm
        refine loopQ_exit (fun hx => ?_)
        subst hx
        have hm1087 : M.ruling_StayedMonths_k1 N a997 = some r := hm1009
        refine joinQ_same ?_
        exact ⟨a997, _, v996, st1005, ho998, r1000, hm1087⟩
  · skip
    rintro ρ w ⟨a892, F895, v891, st896, ho893, r894, hm⟩
    rw [M.ruling_StayedMonths_k1] at hm
    refine thn_normal ?_
    refine wpC_seq ?_
    refine wpC_region ?_
    refine wpS_pure (Value.slice none 0 0) (pure_assign rfl) rfl ?_
    refine wpS_nil ?_
    refine thn_normal ?_
    refine wpC_seq ?_
    refine wpC_region ?_
    refine wpS_pure (Value.int .i64 (0 : Int)) (pure_assign rfl) rfl ?_
    refine wpS_nil ?_
    refine thn_normal ?_
    refine wpC_seq ?_
    refine wpC_seq ?_
    refine wpC_region ?_
    refine wpS_pure (Value.int .i64 (0 : Int)) (pure_move rfl) rfl ?_
    refine wpS_nil ?_
    refine thn_normal ?_
    refine wpC_block_join (fun ρ w => ∃ (a1169 : List Int) (F1173 : Nat → Prop) (v1168 : Value), St w0 F0 w F1173 ∧ Own w0.heap.size F1173 w 3 rInt v1168 a1169 ∧ ρ 8 = v1168 ∧ M.ruling_StayedMonths_k4 N a1169 = some r) ?_ ?_
    · skip
      obtain ⟨x1253, hL1254, hm1255⟩ := bind_some hm
      clear hm
      refine wpC_loop (fun (s : List Int × Int × Int) ρ w => ∃ (a1240 : List Int) (a1243 : Int) (a1244 : Int) (F1249 : Nat → Prop) (v1237 : Value) (v1239 : Value), (a1240, a1243, a1244) = s ∧ St w0 F0 w F1249 ∧ Own w0.heap.size F1249 w 3 rInt v1237 a892 ∧ Own w0.heap.size F1249 w 3 rInt v1239 a1240 ∧ (∀ k, mine v1237 k → ¬ mine v1239 k) ∧ ρ 3 = v1237 ∧ ρ 8 = v1239 ∧ ρ 9 = (Value.int .i64 a1243) ∧ ρ 48 = (Value.int .i64 a1244)) hL1254 ?_ ?_
      · exact ⟨[], (0 : Int), (0 : Int), _, v891, (Value.slice none 0 0), rfl, st896, ho893, (Own.nil _ _ _ _ _), (fun k _ hk => by simp [mine, Value.ownBlock] at hk), r894, rfl, rfl, rfl⟩
      · skip
        rintro s ρ w y1256 ⟨a1240, a1243, a1244, F1249, v1237, v1239, rfl, st1250, ho1238, ho1242, ap1251, r1245, r1246, r1247, r1248⟩ hm1257
        have hm : M.ruling_StayedMonths_k5 N a892 a1240 a1243 a1244 = some y1256 := hm1257
        clear hm1257
        rw [M.ruling_StayedMonths_k5] at hm
        refine wpC_seq ?_
        refine wpC_region ?_
        refine wpS_pure (Value.bool (decide (a1244 < (3600 : Int)))) (pure_lss r1248 rfl) rfl ?_
        refine wpS_nil ?_
        refine thn_normal ?_
        refine wpC_seq ?_
        by_cases hc1258 : (decide (a1244 < (3600 : Int))) = true
        · rw [if_pos hc1258] at hm
          refine wpC_true (bval rfl hc1258) ?_
          refine wpC_skip ?_
          refine thn_normal ?_
          refine wpC_seq ?_
          refine wpC_block ?_
          refine wpC_seq ?_
          refine wpC_region ?_
          refine wpS_pure (Value.int .i64 a1244) (pure_move r1248) rfl ?_
          refine wpS_pure (Value.int .i64 a1244) (pure_assign rfl) rfl ?_
          refine wpS_nil ?_
          refine thn_normal ?_
          refine wpC_seq ?_
          refine wpC_region ?_
          refine wpS_pure (Value.int .i64 a1243) (pure_move r1247) rfl ?_
          refine wpS_pure v1237 (pure_move r1245) rfl ?_
          refine wpS_pure (Value.int .i64 a1244) (pure_move rfl) rfl ?_
          obtain ⟨x1259, h1260, hm⟩ := bind_some hm
          try dsimp only at hm
          refine wpS_indexT (v := v1237) Try.underlying25 T3 rfl rfl (ho1238).reads h1260 rfl ?_
          intro b1261 o1262 ha1263
          refine wpS_load_int Try.underlying3 rfl rfl ha1263 rfl ?_
          refine wpS_pure (Value.int .i64 (IntKind.i64.wrap (a1243 + x1259))) (pure_add rfl rfl) rfl ?_
          refine wpS_pure (Value.int .i64 (IntKind.i64.wrap (a1243 + x1259))) (pure_assign rfl) rfl ?_
          refine wpS_nil ?_
          refine thn_normal ?_
          refine wpC_seq ?_
          refine wpC_region ?_
          refine wpS_pure (Value.int .i64 (IntKind.i64.wrap (a1243 + x1259))) (pure_move rfl) rfl ?_
          refine wpS_pure (Value.bool (decide ((0 : Int) < (IntKind.i64.wrap (a1243 + x1259))))) (pure_gtr rfl rfl) rfl ?_
          refine wpS_nil ?_
          refine thn_normal ?_
          by_cases hc1264 : (decide ((0 : Int) < (IntKind.i64.wrap (a1243 + x1259)))) = true
          · rw [if_pos hc1264] at hm
            refine wpC_true (bval rfl hc1264) ?_
            refine wpC_region ?_
            refine wpS_pure v1239 (pure_move r1246) rfl ?_
            refine wpS_pure (Value.int .i64 a1244) (pure_move rfl) rfl ?_
            refine wpS_oneT (base := w0.heap.size) (v := (Value.int .i64 a1244)) Try.underlying25 T3 rfl rfl rfl rfl st1250.lt st1250.below.size rfl ?_
            intro v1265 w1266 h1267 ho1268 hn1269
            have st1270 := st1250.trans h1267
            obtain ⟨l1272, h1273, hm⟩ := bind_some hm
            try dsimp only at hm
            refine wpS_appendT (v := v1239) (u := v1265) Try.underlying25 T3 rfl rfl (ho1242.st st1250.lt h1267) (ho1268).reads h1273 st1270.lt st1270.below.size rfl ?_
            intro v1274 w1275 he1276 ho1277 hn1278
            have st1279 := st1270.ext he1276 ((ho1242.st st1250.lt h1267)).ge
            refine wpS_pure v1274 (pure_assign rfl) rfl ?_
            refine wpS_nil ?_
            refine inB_normal ?_
            refine thn_normal ?_
            refine wpC_region ?_
            refine wpS_pure (Value.int .i64 (IntKind.i64.wrap (a1244 + (1 : Int)))) (pure_add r1248 rfl) rfl ?_
            refine wpS_pure (Value.int .i64 (IntKind.i64.wrap (a1244 + (1 : Int)))) (pure_move rfl) rfl ?_
            refine wpS_nil ?_
            obtain rfl := Option.some.inj hm
            refine loopQ_in ?_
            exact ⟨l1272, (IntKind.i64.wrap (a1243 + x1259)), (IntKind.i64.wrap (a1244 + (1 : Int))), _, v1237, v1274, rfl, st1279, ((ho1238.st st1250.lt h1267).ext st1270.lt he1276 ((ho1242.st st1250.lt h1267)).no (ap_symm ap1251)), ho1277, (ap_symm (ap_app hn1278 (ap_symm ap1251) ((ho1238.st st1250.lt h1267)).lt)), r1245, rfl, rfl, rfl⟩
          · rw [if_neg hc1264] at hm
            replace hc1264 := Bool.eq_false_iff.2 hc1264
            refine wpC_false (bval rfl hc1264) ?_
            refine wpC_skip ?_
            refine inB_normal ?_
            refine thn_normal ?_
            refine wpC_region ?_
            refine wpS_pure (Value.int .i64 (IntKind.i64.wrap (a1244 + (1 : Int)))) (pure_add r1248 rfl) rfl ?_
            refine wpS_pure (Value.int .i64 (IntKind.i64.wrap (a1244 + (1 : Int)))) (pure_move rfl) rfl ?_
            refine wpS_nil ?_
            obtain rfl := Option.some.inj hm
            refine loopQ_in ?_
            exact ⟨a1240, (IntKind.i64.wrap (a1243 + x1259)), (IntKind.i64.wrap (a1244 + (1 : Int))), _, v1237, v1239, rfl, st1250, ho1238, ho1242, ap1251, r1245, r1246, rfl, rfl⟩
        · rw [if_neg hc1258] at hm
          replace hc1258 := Bool.eq_false_iff.2 hc1258
          refine wpC_false (bval rfl hc1258) ?_
          refine wpC_exit ?_
          refine thn_exit ?_
          obtain rfl := Option.some.inj hm
          refine loopQ_exit (fun hx => ?_)
          subst hx
          have hm1280 : M.ruling_StayedMonths_k4 N a1240 = some r := hm1255
          refine joinQ_same ?_
          exact ⟨a1240, _, v1239, st1250, ho1242, r1246, hm1280⟩
    · skip
      rintro ρ w ⟨a1169, F1173, v1168, st1174, ho1171, r1172, hm⟩
      rw [M.ruling_StayedMonths_k4] at hm
      refine thn_normal ?_
      refine wpC_seq ?_
      refine wpC_region ?_
      refine wpS_pure v1168 (pure_move r1172) rfl ?_
      refine wpS_pure v1168 (pure_assign rfl) rfl ?_
      refine wpS_nil ?_
      refine thn_normal ?_
      refine wpC_ret ?_
      obtain rfl := Option.some.inj hm
      refine bodyQ_ret1 Try.results10 v1168 rfl ?_
      exact ⟨_, st1174, ⟨ho1171, (ho1171).ge⟩⟩

set_option maxRecDepth 100000 in
set_option maxHeartbeats 1000000 in
theorem M.same_Ints_walk (N : Nat) (w0 : World) (F0 : Nat → Prop) (hF0 : ∀ b, F0 b → b < w0.heap.size) (p0_a : List Int) (vp0_a : Value) (hp0_a : Rep F0 w0 (Row.slice rInt) [vp0_a] p0_a) (p1_b : List Int) (vp1_b : Value) (hp1_b : Rep F0 w0 (Row.slice rInt) [vp1_b] p1_b) (r : Bool) (hm : M.same_Ints N p0_a p1_b = some r) :
    Calls Try.prog 9 [vp0_a, vp1_b].toArray w0 fun e w => ∃ v, e = .returned v ∧ ∃ F, St w0 F0 w F ∧ v = (Value.bool r) := by
  refine calls_of_wpC Try.func9 rfl (Nat.le_of_ble_eq_true rfl) ?_
  intro ρ hρ
  have st0 := St.refl hF0
  rw [M.same_Ints] at hm
  refine wpC_seq ?_
  refine wpC_region ?_
  refine wpS_pure (Value.bool false) (pure_assign rfl) rfl ?_
  refine wpS_nil ?_
  refine thn_normal ?_
  refine wpC_seq ?_
  refine wpC_seq ?_
  refine wpC_region ?_
  refine wpS_pure vp0_a (pure_move (hρ 0 _ rfl)) rfl ?_
  refine wpS_len (v := vp0_a) Try.underlying25 rfl ((hp0_a.step (st0.step hF0))).reads rfl ?_
  refine wpS_pure vp1_b (pure_move (hρ 1 _ rfl)) rfl ?_
  refine wpS_len (v := vp1_b) Try.underlying25 rfl ((hp1_b.step (st0.step hF0))).reads rfl ?_
  refine wpS_pure (Value.bool (!decide ((p0_a.length : Int) = (p1_b.length : Int)))) (pure_neq rfl rfl) rfl ?_
  refine wpS_nil ?_
  refine thn_normal ?_
  by_cases hc1300 : (!decide ((p0_a.length : Int) = (p1_b.length : Int))) = true
  · rw [if_pos hc1300] at hm
    refine wpC_true (bval rfl hc1300) ?_
    refine wpC_seq ?_
    refine wpC_region ?_
    refine wpS_pure (Value.bool false) (pure_assign rfl) rfl ?_
    refine wpS_nil ?_
    refine thn_normal ?_
    refine wpC_ret ?_
    refine thn_ret ?_
    obtain rfl := Option.some.inj hm
    refine bodyQ_ret1 Try.results9 (Value.bool false) rfl ?_
    exact ⟨_, st0, rfl⟩
  · rw [if_neg hc1300] at hm
    replace hc1300 := Bool.eq_false_iff.2 hc1300
    refine wpC_false (bval rfl hc1300) ?_
    refine wpC_skip ?_
    refine thn_normal ?_
    refine wpC_seq ?_
    refine wpC_seq ?_
    refine wpC_region ?_
    refine wpS_pure (Value.int .i64 (0 : Int)) (pure_assign rfl) rfl ?_
    refine wpS_nil ?_
    refine thn_normal ?_
    refine wpC_block_join (fun ρ w => ∃ (F1331 : Nat → Prop), St w0 F0 w F1331 ∧ M.same_Ints_k1 N = some r) ?_ ?_
    · skip
      obtain ⟨x1361, hL1362, hm1363⟩ := bind_some hm
      clear hm
      refine wpC_loop (fun (s : Int) ρ w => ∃ (a1354 : Int) (F1358 : Nat → Prop), a1354 = s ∧ St w0 F0 w F1358 ∧ ρ 0 = vp0_a ∧ ρ 1 = vp1_b ∧ ρ 5 = (Value.int .i64 a1354)) hL1362 ?_ ?_
      · exact ⟨(0 : Int), _, rfl, st0, (hρ 0 _ rfl), (hρ 1 _ rfl), rfl⟩
      · skip
        rintro s ρ w y1366 ⟨a1354, F1358, rfl, st1359, r1355, r1356, r1357⟩ hm1367
        have hm : M.same_Ints_k2 N p0_a p1_b a1354 = some y1366 := hm1367
        clear hm1367
        rw [M.same_Ints_k2] at hm
        refine wpC_seq_join (fun ρ w => ∃ (F1371 : Nat → Prop), St w0 F0 w F1371 ∧ ρ 0 = vp0_a ∧ ρ 1 = vp1_b ∧ ρ 5 = (Value.int .i64 a1354) ∧ M.same_Ints_k3 N p0_a p1_b a1354 = some y1366) ?_ ?_
        · skip
          refine wpC_seq ?_
          refine wpC_region ?_
          refine wpS_pure (Value.int .i64 a1354) (pure_move r1357) rfl ?_
          refine wpS_pure vp0_a (pure_move r1355) rfl ?_
          refine wpS_len (v := vp0_a) Try.underlying25 rfl ((hp0_a.step (st1359.step hF0))).reads rfl ?_
          refine wpS_pure (Value.bool (decide (a1354 < (p0_a.length : Int)))) (pure_lss rfl rfl) rfl ?_
          refine wpS_pure (Value.bool (decide (a1354 < (p0_a.length : Int)))) (pure_move rfl) rfl ?_
          by_cases hc1374 : (decide (a1354 < (p0_a.length : Int))) = true
          · rw [if_pos hc1374] at hm
            refine wpS_on 15 rfl rfl (bval' rfl hc1374) ?_
            refine wpS_pure (Value.int .i64 a1354) (pure_move r1357) rfl ?_
            refine wpS_on 15 rfl rfl (bval' rfl hc1374) ?_
            refine wpS_pure vp1_b (pure_move r1356) rfl ?_
            refine wpS_on 15 rfl rfl (bval' rfl hc1374) ?_
            refine wpS_len (v := vp1_b) Try.underlying25 rfl ((hp1_b.step (st1359.step hF0))).reads rfl ?_
            refine wpS_on 15 rfl rfl (bval' rfl hc1374) ?_
            refine wpS_pure (Value.bool (decide (a1354 < (p1_b.length : Int)))) (pure_lss rfl rfl) rfl ?_
            refine wpS_pure (Value.bool (decide (a1354 < (p1_b.length : Int)))) (pure_pick_true (bval rfl hc1374) rfl) rfl ?_
            refine wpS_nil ?_
            refine thn_normal ?_
            by_cases hc1375 : (decide (a1354 < (p1_b.length : Int))) = true
            · rw [if_pos hc1375] at hm
              refine wpC_true (bval rfl hc1375) ?_
              refine wpC_skip ?_
              refine thn_normal ?_
              exact ⟨_, st1359, r1355, r1356, r1357, hm⟩
            · rw [if_neg hc1375] at hm
              replace hc1375 := Bool.eq_false_iff.2 hc1375
              refine wpC_false (bval rfl hc1375) ?_
              refine wpC_exit ?_
              refine thn_exit ?_
              obtain rfl := Option.some.inj hm
              refine loopQ_exit (fun hx => ?_)
              subst hx
              have hm1376 : M.same_Ints_k1 N = some r := hm1363
              refine joinQ_same ?_
              exact ⟨_, st1359, hm1376⟩
          · rw [if_neg hc1374] at hm
            replace hc1374 := Bool.eq_false_iff.2 hc1374
            refine wpS_off 15 rfl rfl (bval' rfl hc1374) (by decide) rfl ?_
            refine wpS_off 15 rfl rfl (bval' rfl hc1374) (by decide) rfl ?_
            refine wpS_off 15 rfl rfl (bval' rfl hc1374) (by decide) rfl ?_
            refine wpS_off 15 rfl rfl (bval' rfl hc1374) (by decide) rfl ?_
            refine wpS_pure (Value.bool false) (pure_pick_false (bval rfl hc1374) rfl) rfl ?_
            refine wpS_nil ?_
            refine thn_normal ?_
            refine wpC_false rfl ?_
            refine wpC_exit ?_
            refine thn_exit ?_
            obtain rfl := Option.some.inj hm
            refine loopQ_exit (fun hx => ?_)
            subst hx
            have hm1377 : M.same_Ints_k1 N = some r := hm1363
            refine joinQ_same ?_
            exact ⟨_, st1359, hm1377⟩
        · skip
          rintro ρ w ⟨F1371, st1372, r1368, r1369, r1370, hm⟩
          rw [M.same_Ints_k3] at hm
          refine wpC_seq ?_
          refine wpC_block ?_
          refine wpC_seq ?_
          refine wpC_draw st1372.lt mixed (by kernel_rfl) ?_
          refine wpQ_pure vp0_a (pure_move r1368) rfl ?_
          refine wpQ_pure (Value.int .i64 a1354) (pure_move r1370) rfl ?_
          obtain ⟨x1378, h1379, hm⟩ := bind_some hm
          try dsimp only at hm
          refine wpQ_indexT (v := vp0_a) Try.underlying25 T3 rfl rfl ((hp0_a.step (st1372.step hF0))).reads h1379 rfl ?_
          intro b1380 o1381 ha1382
          refine wpQ_load_int st1372.lt Try.underlying3 rfl rfl ha1382 rfl ?_
          refine wpQ_pure vp1_b (pure_move r1369) rfl ?_
          refine wpQ_pure (Value.int .i64 a1354) (pure_move r1370) rfl ?_
          obtain ⟨x1383, h1384, hm⟩ := bind_some hm
          try dsimp only at hm
          refine wpQ_indexT (v := vp1_b) Try.underlying25 T3 rfl rfl ((hp1_b.step (st1372.step hF0))).reads h1384 rfl ?_
          intro b1385 o1386 ha1387
          refine wpQ_load_int st1372.lt Try.underlying3 rfl rfl ha1387 rfl ?_
          refine wpQ_pure (Value.bool (!decide (x1378 = x1383))) (pure_neq rfl rfl) rfl ?_
          refine wpQ_nil ?_
          intro w1389 h1388
          have st1390 := st1372.trans h1388
          refine thn_normal ?_
          by_cases hc1391 : (!decide (x1378 = x1383)) = true
          · rw [if_pos hc1391] at hm
            refine wpC_true (bval rfl hc1391) ?_
            refine wpC_seq ?_
            refine wpC_region ?_
            refine wpS_pure (Value.bool false) (pure_assign rfl) rfl ?_
            refine wpS_nil ?_
            refine thn_normal ?_
            refine wpC_ret ?_
            refine inB_ret ?_
            refine thn_ret ?_
            obtain rfl := Option.some.inj hm
            refine loopQ_ret (fun hx => ?_)
            subst hx
            have hm1392 : some (false) = some r := hm1363
            refine joinQ_ret ?_
            refine thn_ret ?_
            obtain rfl := Option.some.inj hm1392
            refine bodyQ_ret1 Try.results9 (Value.bool false) rfl ?_
            exact ⟨_, st1390, rfl⟩
          · rw [if_neg hc1391] at hm
            replace hc1391 := Bool.eq_false_iff.2 hc1391
            refine wpC_false (bval rfl hc1391) ?_
            refine wpC_skip ?_
            refine inB_normal ?_
            refine thn_normal ?_
            refine wpC_region ?_
            refine wpS_pure (Value.int .i64 a1354) (pure_move r1370) rfl ?_
            refine wpS_pure (Value.int .i64 (IntKind.i64.wrap (a1354 + (1 : Int)))) (pure_add rfl rfl) rfl ?_
            refine wpS_pure (Value.int .i64 (IntKind.i64.wrap (a1354 + (1 : Int)))) (pure_assign rfl) rfl ?_
            refine wpS_nil ?_
            obtain rfl := Option.some.inj hm
            refine loopQ_in ?_
            exact ⟨(IntKind.i64.wrap (a1354 + (1 : Int))), _, rfl, st1390, r1368, r1369, rfl⟩
    · skip
      rintro ρ w ⟨F1331, st1332, hm⟩
      rw [M.same_Ints_k1] at hm
      refine thn_normal ?_
      refine wpC_seq ?_
      refine wpC_region ?_
      refine wpS_pure (Value.bool true) (pure_assign rfl) rfl ?_
      refine wpS_nil ?_
      refine thn_normal ?_
      refine wpC_ret ?_
      obtain rfl := Option.some.inj hm
      refine bodyQ_ret1 Try.results9 (Value.bool true) rfl ?_
      exact ⟨_, st1332, rfl⟩

set_option maxRecDepth 100000 in
set_option maxHeartbeats 1000000 in
theorem M.same_Awards_walk (N : Nat) (w0 : World) (F0 : Nat → Prop) (hF0 : ∀ b, F0 b → b < w0.heap.size) (p0_a : List rAward.den) (vp0_a : Value) (hp0_a : Rep F0 w0 (Row.slice rAward) [vp0_a] p0_a) (p1_b : List rAward.den) (vp1_b : Value) (hp1_b : Rep F0 w0 (Row.slice rAward) [vp1_b] p1_b) (r : Bool) (hm : M.same_Awards N p0_a p1_b = some r) :
    Calls Try.prog 16 [vp0_a, vp1_b].toArray w0 fun e w => ∃ v, e = .returned v ∧ ∃ F, St w0 F0 w F ∧ v = (Value.bool r) := by
  refine calls_of_wpC Try.func16 rfl (Nat.le_of_ble_eq_true rfl) ?_
  intro ρ hρ
  have st0 := St.refl hF0
  rw [M.same_Awards] at hm
  refine wpC_seq ?_
  refine wpC_region ?_
  refine wpS_pure (Value.bool false) (pure_assign rfl) rfl ?_
  refine wpS_nil ?_
  refine thn_normal ?_
  refine wpC_seq ?_
  refine wpC_seq ?_
  refine wpC_region ?_
  refine wpS_pure vp0_a (pure_move (hρ 0 _ rfl)) rfl ?_
  refine wpS_len (v := vp0_a) Try.underlying33 rfl ((hp0_a.step (st0.step hF0))).reads rfl ?_
  refine wpS_pure vp1_b (pure_move (hρ 1 _ rfl)) rfl ?_
  refine wpS_len (v := vp1_b) Try.underlying33 rfl ((hp1_b.step (st0.step hF0))).reads rfl ?_
  refine wpS_pure (Value.bool (!decide ((p0_a.length : Int) = (p1_b.length : Int)))) (pure_neq rfl rfl) rfl ?_
  refine wpS_nil ?_
  refine thn_normal ?_
  by_cases hc1418 : (!decide ((p0_a.length : Int) = (p1_b.length : Int))) = true
  · rw [if_pos hc1418] at hm
    refine wpC_true (bval rfl hc1418) ?_
    refine wpC_seq ?_
    refine wpC_region ?_
    refine wpS_pure (Value.bool false) (pure_assign rfl) rfl ?_
    refine wpS_nil ?_
    refine thn_normal ?_
    refine wpC_ret ?_
    refine thn_ret ?_
    obtain rfl := Option.some.inj hm
    refine bodyQ_ret1 Try.results16 (Value.bool false) rfl ?_
    exact ⟨_, st0, rfl⟩
  · rw [if_neg hc1418] at hm
    replace hc1418 := Bool.eq_false_iff.2 hc1418
    refine wpC_false (bval rfl hc1418) ?_
    refine wpC_skip ?_
    refine thn_normal ?_
    refine wpC_seq ?_
    refine wpC_seq ?_
    refine wpC_region ?_
    refine wpS_pure (Value.int .i64 (0 : Int)) (pure_assign rfl) rfl ?_
    refine wpS_nil ?_
    refine thn_normal ?_
    refine wpC_block_join (fun ρ w => ∃ (F1461 : Nat → Prop), St w0 F0 w F1461 ∧ M.same_Awards_k1 N = some r) ?_ ?_
    · skip
      obtain ⟨x1499, hL1500, hm1501⟩ := bind_some hm
      clear hm
      refine wpC_loop (fun (s : Int) ρ w => ∃ (a1492 : Int) (F1496 : Nat → Prop), a1492 = s ∧ St w0 F0 w F1496 ∧ ρ 0 = vp0_a ∧ ρ 1 = vp1_b ∧ ρ 5 = (Value.int .i64 a1492)) hL1500 ?_ ?_
      · exact ⟨(0 : Int), _, rfl, st0, (hρ 0 _ rfl), (hρ 1 _ rfl), rfl⟩
      · skip
        rintro s ρ w y1504 ⟨a1492, F1496, rfl, st1497, r1493, r1494, r1495⟩ hm1505
        have hm : M.same_Awards_k2 N p0_a p1_b a1492 = some y1504 := hm1505
        clear hm1505
        rw [M.same_Awards_k2] at hm
        refine wpC_seq_join (fun ρ w => ∃ (F1509 : Nat → Prop), St w0 F0 w F1509 ∧ ρ 0 = vp0_a ∧ ρ 1 = vp1_b ∧ ρ 5 = (Value.int .i64 a1492) ∧ M.same_Awards_k3 N p0_a p1_b a1492 = some y1504) ?_ ?_
        · skip
          refine wpC_seq ?_
          refine wpC_region ?_
          refine wpS_pure (Value.int .i64 a1492) (pure_move r1495) rfl ?_
          refine wpS_pure vp0_a (pure_move r1493) rfl ?_
          refine wpS_len (v := vp0_a) Try.underlying33 rfl ((hp0_a.step (st1497.step hF0))).reads rfl ?_
          refine wpS_pure (Value.bool (decide (a1492 < (p0_a.length : Int)))) (pure_lss rfl rfl) rfl ?_
          refine wpS_pure (Value.bool (decide (a1492 < (p0_a.length : Int)))) (pure_move rfl) rfl ?_
          by_cases hc1512 : (decide (a1492 < (p0_a.length : Int))) = true
          · rw [if_pos hc1512] at hm
            refine wpS_on 15 rfl rfl (bval' rfl hc1512) ?_
            refine wpS_pure (Value.int .i64 a1492) (pure_move r1495) rfl ?_
            refine wpS_on 15 rfl rfl (bval' rfl hc1512) ?_
            refine wpS_pure vp1_b (pure_move r1494) rfl ?_
            refine wpS_on 15 rfl rfl (bval' rfl hc1512) ?_
            refine wpS_len (v := vp1_b) Try.underlying33 rfl ((hp1_b.step (st1497.step hF0))).reads rfl ?_
            refine wpS_on 15 rfl rfl (bval' rfl hc1512) ?_
            refine wpS_pure (Value.bool (decide (a1492 < (p1_b.length : Int)))) (pure_lss rfl rfl) rfl ?_
            refine wpS_pure (Value.bool (decide (a1492 < (p1_b.length : Int)))) (pure_pick_true (bval rfl hc1512) rfl) rfl ?_
            refine wpS_nil ?_
            refine thn_normal ?_
            by_cases hc1513 : (decide (a1492 < (p1_b.length : Int))) = true
            · rw [if_pos hc1513] at hm
              refine wpC_true (bval rfl hc1513) ?_
              refine wpC_skip ?_
              refine thn_normal ?_
              exact ⟨_, st1497, r1493, r1494, r1495, hm⟩
            · rw [if_neg hc1513] at hm
              replace hc1513 := Bool.eq_false_iff.2 hc1513
              refine wpC_false (bval rfl hc1513) ?_
              refine wpC_exit ?_
              refine thn_exit ?_
              obtain rfl := Option.some.inj hm
              refine loopQ_exit (fun hx => ?_)
              subst hx
              have hm1514 : M.same_Awards_k1 N = some r := hm1501
              refine joinQ_same ?_
              exact ⟨_, st1497, hm1514⟩
          · rw [if_neg hc1512] at hm
            replace hc1512 := Bool.eq_false_iff.2 hc1512
            refine wpS_off 15 rfl rfl (bval' rfl hc1512) (by decide) rfl ?_
            refine wpS_off 15 rfl rfl (bval' rfl hc1512) (by decide) rfl ?_
            refine wpS_off 15 rfl rfl (bval' rfl hc1512) (by decide) rfl ?_
            refine wpS_off 15 rfl rfl (bval' rfl hc1512) (by decide) rfl ?_
            refine wpS_pure (Value.bool false) (pure_pick_false (bval rfl hc1512) rfl) rfl ?_
            refine wpS_nil ?_
            refine thn_normal ?_
            refine wpC_false rfl ?_
            refine wpC_exit ?_
            refine thn_exit ?_
            obtain rfl := Option.some.inj hm
            refine loopQ_exit (fun hx => ?_)
            subst hx
            have hm1515 : M.same_Awards_k1 N = some r := hm1501
            refine joinQ_same ?_
            exact ⟨_, st1497, hm1515⟩
        · skip
          rintro ρ w ⟨F1509, st1510, r1506, r1507, r1508, hm⟩
          rw [M.same_Awards_k3] at hm
          refine wpC_seq ?_
          refine wpC_block ?_
          refine wpC_seq ?_
          refine wpC_draw st1510.lt mixed (by kernel_rfl) ?_
          refine wpQ_pure vp0_a (pure_move r1506) rfl ?_
          refine wpQ_pure (Value.int .i64 a1492) (pure_move r1508) rfl ?_
          obtain ⟨x1516, h1517, hm⟩ := bind_some hm
          try dsimp only at hm
          refine wpQ_indexT (v := vp0_a) Try.underlying33 T42 rfl rfl ((hp0_a.step (st1510.step hF0))).reads h1517 rfl ?_
          intro b1518 o1519 ha1520
          refine wpQ_load_rowT st1510.lt Try.underlying42 rfl T42 rfl ha1520 rfl ?_
          intro es1521 hr1522
          refine wpQ_pure vp1_b (pure_move r1507) rfl ?_
          refine wpQ_pure (Value.int .i64 a1492) (pure_move r1508) rfl ?_
          obtain ⟨x1523, h1524, hm⟩ := bind_some hm
          try dsimp only at hm
          refine wpQ_indexT (v := vp1_b) Try.underlying33 T42 rfl rfl ((hp1_b.step (st1510.step hF0))).reads h1524 rfl ?_
          intro b1525 o1526 ha1527
          refine wpQ_load_rowT st1510.lt Try.underlying42 rfl T42 rfl ha1527 rfl ?_
          intro es1528 hr1529
          refine wpQ_pure (Value.bool (!(eqR rAward x1516 x1523))) (pure_neqT E42 (d := 9998) rfl G42 A42 rfl rfl hr1522 hr1529) rfl ?_
          refine wpQ_nil ?_
          intro w1531 h1530
          have st1532 := st1510.trans h1530
          refine thn_normal ?_
          by_cases hc1533 : (!(eqR rAward x1516 x1523)) = true
          · rw [if_pos hc1533] at hm
            refine wpC_true (bval rfl hc1533) ?_
            refine wpC_seq ?_
            refine wpC_region ?_
            refine wpS_pure (Value.bool false) (pure_assign rfl) rfl ?_
            refine wpS_nil ?_
            refine thn_normal ?_
            refine wpC_ret ?_
            refine inB_ret ?_
            refine thn_ret ?_
            obtain rfl := Option.some.inj hm
            refine loopQ_ret (fun hx => ?_)
            subst hx
            have hm1534 : some (false) = some r := hm1501
            refine joinQ_ret ?_
            refine thn_ret ?_
            obtain rfl := Option.some.inj hm1534
            refine bodyQ_ret1 Try.results16 (Value.bool false) rfl ?_
            exact ⟨_, st1532, rfl⟩
          · rw [if_neg hc1533] at hm
            replace hc1533 := Bool.eq_false_iff.2 hc1533
            refine wpC_false (bval rfl hc1533) ?_
            refine wpC_skip ?_
            refine inB_normal ?_
            refine thn_normal ?_
            refine wpC_region ?_
            refine wpS_pure (Value.int .i64 a1492) (pure_move r1508) rfl ?_
            refine wpS_pure (Value.int .i64 (IntKind.i64.wrap (a1492 + (1 : Int)))) (pure_add rfl rfl) rfl ?_
            refine wpS_pure (Value.int .i64 (IntKind.i64.wrap (a1492 + (1 : Int)))) (pure_assign rfl) rfl ?_
            refine wpS_nil ?_
            obtain rfl := Option.some.inj hm
            refine loopQ_in ?_
            exact ⟨(IntKind.i64.wrap (a1492 + (1 : Int))), _, rfl, st1532, r1506, r1507, rfl⟩
    · skip
      rintro ρ w ⟨F1461, st1462, hm⟩
      rw [M.same_Awards_k1] at hm
      refine thn_normal ?_
      refine wpC_seq ?_
      refine wpC_region ?_
      refine wpS_pure (Value.bool true) (pure_assign rfl) rfl ?_
      refine wpS_nil ?_
      refine thn_normal ?_
      refine wpC_ret ?_
      obtain rfl := Option.some.inj hm
      refine bodyQ_ret1 Try.results16 (Value.bool true) rfl ?_
      exact ⟨_, st1462, rfl⟩

set_option maxRecDepth 100000 in
set_option maxHeartbeats 1000000 in
theorem M.law42_awake_walk (N : Nat) (w0 : World) (F0 : Nat → Prop) (hF0 : ∀ b, F0 b → b < w0.heap.size)  (r : Bool) (hm : M.law42_awake N = some r) :
    Calls Try.prog 8 [].toArray w0 fun e w => ∃ v, e = .returned v ∧ ∃ F, St w0 F0 w F ∧ v = (Value.bool r) := by
  refine calls_of_wpC Try.func8 rfl (Nat.le_of_ble_eq_true rfl) ?_
  intro ρ hρ
  have st0 := St.refl hF0
  rw [M.law42_awake] at hm
  refine wpC_seq ?_
  refine wpC_region ?_
  refine wpS_pure (Value.bool false) (pure_assign rfl) rfl ?_
  refine wpS_nil ?_
  refine thn_normal ?_
  refine wpC_seq ?_
  refine wpC_region ?_
  refine wpS_structT (r := rAppeal) (qs := [(1, .const (Value.int .i64 (3 : Int))), (2, .const (Value.int .i64 (6 : Int))), (5, .const (Value.int .i64 (3 : Int))), (6, .const (Value.int .i64 (500 : Int)))]) (vs := [(Value.int .i64 (3 : Int)), (Value.int .i64 (6 : Int)), (Value.int .i64 (3 : Int)), (Value.int .i64 (500 : Int))]) (a := ((0 : Int), (3 : Int), (6 : Int), (0 : Int), (0 : Int), (3 : Int), (500 : Int))) st0.lt Try.underlying30 T30 (pl30 _) (q_cons rfl (q_cons rfl (q_cons rfl (q_cons rfl q_nil)))) (Bld.cons (.snd (.fst (.here))) rfl rfl rfl rfl rfl (Bld.cons (.snd (.snd (.fst (.here)))) rfl rfl rfl rfl rfl (Bld.cons (.snd (.snd (.snd (.snd (.snd (.fst (.here))))))) rfl rfl rfl rfl rfl (Bld.cons (.snd (.snd (.snd (.snd (.snd (.snd (.here))))))) rfl rfl rfl rfl rfl Bld.nil)))) rfl ?_
  intro es2 hr3
  refine wpS_structT (r := rAppeal) (qs := [(1, .const (Value.int .i64 (5 : Int))), (2, .const (Value.int .i64 (8 : Int))), (5, .const (Value.int .i64 (3 : Int))), (6, .const (Value.int .i64 (700 : Int)))]) (vs := [(Value.int .i64 (5 : Int)), (Value.int .i64 (8 : Int)), (Value.int .i64 (3 : Int)), (Value.int .i64 (700 : Int))]) (a := ((0 : Int), (5 : Int), (8 : Int), (0 : Int), (0 : Int), (3 : Int), (700 : Int))) st0.lt Try.underlying30 T30 (pl30 _) (q_cons rfl (q_cons rfl (q_cons rfl (q_cons rfl q_nil)))) (Bld.cons (.snd (.fst (.here))) rfl rfl rfl rfl rfl (Bld.cons (.snd (.snd (.fst (.here)))) rfl rfl rfl rfl rfl (Bld.cons (.snd (.snd (.snd (.snd (.snd (.fst (.here))))))) rfl rfl rfl rfl rfl (Bld.cons (.snd (.snd (.snd (.snd (.snd (.snd (.here))))))) rfl rfl rfl rfl rfl Bld.nil)))) rfl ?_
  intro es4 hr5
  refine wpS_structT (r := rAppeal) (qs := [(1, .const (Value.int .i64 (5 : Int))), (2, .const (Value.int .i64 (7 : Int))), (5, .const (Value.int .i64 (2 : Int)))]) (vs := [(Value.int .i64 (5 : Int)), (Value.int .i64 (7 : Int)), (Value.int .i64 (2 : Int))]) (a := ((0 : Int), (5 : Int), (7 : Int), (0 : Int), (0 : Int), (2 : Int), (0 : Int))) st0.lt Try.underlying30 T30 (pl30 _) (q_cons rfl (q_cons rfl (q_cons rfl q_nil))) (Bld.cons (.snd (.fst (.here))) rfl rfl rfl rfl rfl (Bld.cons (.snd (.snd (.fst (.here)))) rfl rfl rfl rfl rfl (Bld.cons (.snd (.snd (.snd (.snd (.snd (.fst (.here))))))) rfl rfl rfl rfl rfl Bld.nil))) rfl ?_
  intro es6 hr7
  refine wpS_buildT (base := w0.heap.size) (xs := [.tmp 9, .tmp 10, .tmp 11]) (vs := [(Value.agg es2.toArray), (Value.agg es4.toArray), (Value.agg es6.toArray)]) Try.underlying22 T30 rfl rfl rfl (m_cons rfl (m_cons rfl (m_cons rfl m_nil))) (Lits.cons rfl hr3 (Lits.cons rfl hr5 (Lits.cons rfl hr7 Lits.nil))) st0.lt st0.below.size rfl ?_
  intro v8 w9 h10 ho11 hn12
  have st13 := st0.trans h10
  refine wpS_pure v8 (pure_assign rfl) rfl ?_
  refine wpS_nil ?_
  refine thn_normal ?_
  refine wpC_seq ?_
  refine wpC_region ?_
  refine wpS_pure v8 (pure_move rfl) rfl ?_
  have st167 := st13.fz ho11
  have hr168 := (ho11).freeze
  obtain ⟨y169, h170, hm⟩ := bind_some hm
  try dsimp only at hm
  refine wpS_call (vs := [v8, (Value.int .i64 (4 : Int))]) Try.func14 nm14 bd14 (m_cons rfl (m_cons rfl m_nil)) (M.ruling_Granted_walk N _ _ st167.lt ([((0 : Int), (3 : Int), (6 : Int), (0 : Int), (0 : Int), (3 : Int), (500 : Int)), ((0 : Int), (5 : Int), (8 : Int), (0 : Int), (0 : Int), (3 : Int), (700 : Int)), ((0 : Int), (5 : Int), (7 : Int), (0 : Int), (0 : Int), (2 : Int), (0 : Int))] : List rAppeal.den) v8 hr168 (4 : Int) y169 h170) rfl ?_
  rintro v171 w172 ⟨F173, h174, hv175⟩
  have h176 := h174.narrow st13.lt
  have st177 := st13.trans h176
  obtain ⟨v178, v179, rfl, hv180, hv181⟩ := hv175
  obtain rfl := hv180
  obtain rfl := hv181
  refine wpS_pure (Value.tuple #[(Value.int .i64 y169.1), (Value.bool y169.2)]) (pure_move rfl) rfl ?_
  refine wpS_pure (Value.int .i64 y169.1) (pure_extract rfl rfl) rfl ?_
  refine wpS_pure (Value.bool y169.2) (pure_extract rfl rfl) rfl ?_
  refine wpS_pure (Value.int .i64 y169.1) (pure_assign rfl) rfl ?_
  refine wpS_pure (Value.bool y169.2) (pure_assign rfl) rfl ?_
  refine wpS_nil ?_
  refine thn_normal ?_
  refine wpC_seq ?_
  refine wpC_region ?_
  refine wpS_pure v8 (pure_move rfl) rfl ?_
  have st182 := st177.fz (ho11.st st13.lt h176)
  have hr183 := ((ho11.st st13.lt h176)).freeze
  obtain ⟨y184, h185, hm⟩ := bind_some hm
  try dsimp only at hm
  refine wpS_call (vs := [v8, (Value.int .i64 (5 : Int))]) Try.func14 nm14 bd14 (m_cons rfl (m_cons rfl m_nil)) (M.ruling_Granted_walk N _ _ st182.lt ([((0 : Int), (3 : Int), (6 : Int), (0 : Int), (0 : Int), (3 : Int), (500 : Int)), ((0 : Int), (5 : Int), (8 : Int), (0 : Int), (0 : Int), (3 : Int), (700 : Int)), ((0 : Int), (5 : Int), (7 : Int), (0 : Int), (0 : Int), (2 : Int), (0 : Int))] : List rAppeal.den) v8 hr183 (5 : Int) y184 h185) rfl ?_
  rintro v186 w187 ⟨F188, h189, hv190⟩
  have h191 := h189.narrow st177.lt
  have st192 := st177.trans h191
  obtain ⟨v193, v194, rfl, hv195, hv196⟩ := hv190
  obtain rfl := hv195
  obtain rfl := hv196
  refine wpS_pure (Value.tuple #[(Value.int .i64 y184.1), (Value.bool y184.2)]) (pure_move rfl) rfl ?_
  refine wpS_pure (Value.int .i64 y184.1) (pure_extract rfl rfl) rfl ?_
  refine wpS_pure (Value.bool y184.2) (pure_extract rfl rfl) rfl ?_
  refine wpS_pure (Value.int .i64 y184.1) (pure_assign rfl) rfl ?_
  refine wpS_pure (Value.bool y184.2) (pure_assign rfl) rfl ?_
  refine wpS_nil ?_
  refine thn_normal ?_
  refine wpC_seq ?_
  refine wpC_region ?_
  refine wpS_pure v8 (pure_move rfl) rfl ?_
  have st197 := st192.fz ((ho11.st st13.lt h176).st st177.lt h191)
  have hr198 := (((ho11.st st13.lt h176).st st177.lt h191)).freeze
  obtain ⟨y199, h200, hm⟩ := bind_some hm
  try dsimp only at hm
  refine wpS_call (vs := [v8, (Value.int .i64 (8 : Int))]) Try.func14 nm14 bd14 (m_cons rfl (m_cons rfl m_nil)) (M.ruling_Granted_walk N _ _ st197.lt ([((0 : Int), (3 : Int), (6 : Int), (0 : Int), (0 : Int), (3 : Int), (500 : Int)), ((0 : Int), (5 : Int), (8 : Int), (0 : Int), (0 : Int), (3 : Int), (700 : Int)), ((0 : Int), (5 : Int), (7 : Int), (0 : Int), (0 : Int), (2 : Int), (0 : Int))] : List rAppeal.den) v8 hr198 (8 : Int) y199 h200) rfl ?_
  rintro v201 w202 ⟨F203, h204, hv205⟩
  have h206 := h204.narrow st192.lt
  have st207 := st192.trans h206
  obtain ⟨v208, v209, rfl, hv210, hv211⟩ := hv205
  obtain rfl := hv210
  obtain rfl := hv211
  refine wpS_pure (Value.tuple #[(Value.int .i64 y199.1), (Value.bool y199.2)]) (pure_move rfl) rfl ?_
  refine wpS_pure (Value.int .i64 y199.1) (pure_extract rfl rfl) rfl ?_
  refine wpS_pure (Value.bool y199.2) (pure_extract rfl rfl) rfl ?_
  refine wpS_pure (Value.int .i64 y199.1) (pure_assign rfl) rfl ?_
  refine wpS_pure (Value.bool y199.2) (pure_assign rfl) rfl ?_
  refine wpS_nil ?_
  refine thn_normal ?_
  refine wpC_seq ?_
  refine wpC_region ?_
  refine wpS_structT (r := rAward) (qs := [(0, .const (Value.int .i64 (2 : Int))), (1, .const (Value.int .i64 (100 : Int)))]) (vs := [(Value.int .i64 (2 : Int)), (Value.int .i64 (100 : Int))]) (a := ((2 : Int), (100 : Int), (0 : Int))) st207.lt Try.underlying42 T42 (pl42 _) (q_cons rfl (q_cons rfl q_nil)) (Bld.cons (.fst (.here)) rfl rfl rfl rfl rfl (Bld.cons (.snd (.fst (.here))) rfl rfl rfl rfl rfl Bld.nil)) rfl ?_
  intro es212 hr213
  refine wpS_structT (r := rAward) (qs := [(0, .const (Value.int .i64 (5 : Int))), (2, .const (Value.int .i64 (10 : Int)))]) (vs := [(Value.int .i64 (5 : Int)), (Value.int .i64 (10 : Int))]) (a := ((5 : Int), (0 : Int), (10 : Int))) st207.lt Try.underlying42 T42 (pl42 _) (q_cons rfl (q_cons rfl q_nil)) (Bld.cons (.fst (.here)) rfl rfl rfl rfl rfl (Bld.cons (.snd (.snd (.here))) rfl rfl rfl rfl rfl Bld.nil)) rfl ?_
  intro es214 hr215
  refine wpS_buildT (base := w0.heap.size) (xs := [.tmp 28, .tmp 29]) (vs := [(Value.agg es212.toArray), (Value.agg es214.toArray)]) Try.underlying33 T42 rfl rfl rfl (m_cons rfl (m_cons rfl m_nil)) (Lits.cons rfl hr213 (Lits.cons rfl hr215 Lits.nil)) st207.lt st207.below.size rfl ?_
  intro v216 w217 h218 ho219 hn220
  have st221 := st207.trans h218
  refine wpS_pure v8 (pure_move rfl) rfl ?_
  have hr715 := (ho219).freeze
  have st714 := st221.fz ho219
  have hr717 := ((((((ho11.st st13.lt h176).st st177.lt h191).st st192.lt h206).st st207.lt h218).fz (ap_new ((((ho11.st st13.lt h176).st st177.lt h191).st st192.lt h206)).lt hn220))).freeze
  have st716 := st714.fz (((((ho11.st st13.lt h176).st st177.lt h191).st st192.lt h206).st st207.lt h218).fz (ap_new ((((ho11.st st13.lt h176).st st177.lt h191).st st192.lt h206)).lt hn220))
  obtain ⟨y718, h719, hm⟩ := bind_some hm
  try dsimp only at hm
  refine wpS_call (vs := [v216, v8]) Try.func17 nm17 bd17 (m_cons rfl (m_cons rfl m_nil)) (M.ruling_Apply_walk N _ _ st716.lt ([((2 : Int), (100 : Int), (0 : Int)), ((5 : Int), (0 : Int), (10 : Int))] : List rAward.den) v216 (hr715.step (Step.freeze _ _ _)) ([((0 : Int), (3 : Int), (6 : Int), (0 : Int), (0 : Int), (3 : Int), (500 : Int)), ((0 : Int), (5 : Int), (8 : Int), (0 : Int), (0 : Int), (3 : Int), (700 : Int)), ((0 : Int), (5 : Int), (7 : Int), (0 : Int), (0 : Int), (2 : Int), (0 : Int))] : List rAppeal.den) v8 hr717 y718 h719) rfl ?_
  rintro v720 w721 ⟨F722, h723, hv724⟩
  have st725 := st716.trans h723
  obtain ⟨ho726, hn727⟩ := hv724
  have ho728 := ho726.lower st716.below.size
  refine wpS_pure v720 (pure_assign rfl) rfl ?_
  refine wpS_nil ?_
  refine thn_normal ?_
  refine wpC_seq ?_
  refine wpC_region ?_
  refine wpS_pure (Value.int .i64 y169.1) (pure_move rfl) rfl ?_
  refine wpS_pure (Value.bool (decide (y169.1 = (500 : Int)))) (pure_eql rfl rfl) rfl ?_
  refine wpS_pure (Value.bool (decide (y169.1 = (500 : Int)))) (pure_move rfl) rfl ?_
  by_cases hc730 : (decide (y169.1 = (500 : Int))) = true
  · rw [if_pos hc730] at hm
    refine wpS_on 35 rfl rfl (bval' rfl hc730) ?_
    refine wpS_pure (Value.bool y169.2) (pure_move rfl) rfl ?_
    refine wpS_pure (Value.bool y169.2) (pure_pick_true (bval rfl hc730) rfl) rfl ?_
    refine wpS_pure (Value.bool y169.2) (pure_move rfl) rfl ?_
    by_cases hc731 : y169.2 = true
    · rw [if_pos hc731] at hm
      refine wpS_on 38 rfl rfl (bval' rfl hc731) ?_
      refine wpS_pure (Value.int .i64 y184.1) (pure_move rfl) rfl ?_
      refine wpS_on 38 rfl rfl (bval' rfl hc731) ?_
      refine wpS_pure (Value.bool (decide (y184.1 = (700 : Int)))) (pure_eql rfl rfl) rfl ?_
      refine wpS_pure (Value.bool (decide (y184.1 = (700 : Int)))) (pure_pick_true (bval rfl hc731) rfl) rfl ?_
      refine wpS_pure (Value.bool (decide (y184.1 = (700 : Int)))) (pure_move rfl) rfl ?_
      by_cases hc732 : (decide (y184.1 = (700 : Int))) = true
      · rw [if_pos hc732] at hm
        refine wpS_on 42 rfl rfl (bval' rfl hc732) ?_
        refine wpS_pure (Value.bool y184.2) (pure_move rfl) rfl ?_
        refine wpS_pure (Value.bool y184.2) (pure_pick_true (bval rfl hc732) rfl) rfl ?_
        refine wpS_pure (Value.bool y184.2) (pure_move rfl) rfl ?_
        by_cases hc733 : y184.2 = true
        · rw [if_pos hc733] at hm
          refine wpS_on 45 rfl rfl (bval' rfl hc733) ?_
          refine wpS_pure (Value.bool y199.2) (pure_move rfl) rfl ?_
          refine wpS_on 45 rfl rfl (bval' rfl hc733) ?_
          refine wpS_pure (Value.bool (!y199.2)) (pure_not rfl) rfl ?_
          refine wpS_pure (Value.bool (!y199.2)) (pure_pick_true (bval rfl hc733) rfl) rfl ?_
          refine wpS_pure (Value.bool (!y199.2)) (pure_move rfl) rfl ?_
          by_cases hc734 : (!y199.2) = true
          · rw [if_pos hc734] at hm
            refine wpS_on 49 rfl rfl (bval' rfl hc734) ?_
            refine wpS_pure v8 (pure_move rfl) rfl ?_
            refine wpS_on 49 rfl rfl (bval' rfl hc734) ?_
            obtain ⟨y1281, h1282, hm⟩ := bind_some hm
            try dsimp only at hm
            refine wpS_call (vs := [v8]) Try.func10 nm10 bd10 (m_cons rfl m_nil) (M.ruling_StayedMonths_walk N _ _ st725.lt ([((0 : Int), (3 : Int), (6 : Int), (0 : Int), (0 : Int), (3 : Int), (500 : Int)), ((0 : Int), (5 : Int), (8 : Int), (0 : Int), (0 : Int), (3 : Int), (700 : Int)), ((0 : Int), (5 : Int), (7 : Int), (0 : Int), (0 : Int), (2 : Int), (0 : Int))] : List rAppeal.den) v8 (hr717.step (h723.step st716.lt)) y1281 h1282) rfl ?_
            rintro v1283 w1284 ⟨F1285, h1286, hv1287⟩
            have st1288 := st725.trans h1286
            obtain ⟨ho1289, hn1290⟩ := hv1287
            have ho1291 := ho1289.lower st725.below.size
            refine wpS_on 49 rfl rfl (bval' rfl hc734) ?_
            refine wpS_buildT (base := w0.heap.size) (xs := [.const (Value.int .i64 (5 : Int)), .const (Value.int .i64 (6 : Int))]) (vs := [(Value.int .i64 (5 : Int)), (Value.int .i64 (6 : Int))]) Try.underlying25 T3 rfl rfl rfl (m_cons rfl (m_cons rfl m_nil)) (Lits.cons rfl rfl (Lits.cons rfl rfl Lits.nil)) st1288.lt st1288.below.size rfl ?_
            intro v1293 w1294 h1295 ho1296 hn1297
            have st1298 := st1288.trans h1295
            refine wpS_on 49 rfl rfl (bval' rfl hc734) ?_
            have st1393 := st1298.fz (ho1291.st st1288.lt h1295)
            have hr1394 := ((ho1291.st st1288.lt h1295)).freeze
            have st1395 := st1393.fz (ho1296.fz (ap_symm (ap_new (ho1291).lt hn1297)))
            have hr1396 := ((ho1296.fz (ap_symm (ap_new (ho1291).lt hn1297)))).freeze
            obtain ⟨y1397, h1398, hm⟩ := bind_some hm
            try dsimp only at hm
            refine wpS_call (vs := [v1283, v1293]) Try.func9 nm9 bd9 (m_cons rfl (m_cons rfl m_nil)) (M.same_Ints_walk N _ _ st1395.lt y1281 v1283 (hr1394.step (Step.freeze _ _ _)) ([(5 : Int), (6 : Int)] : List Int) v1293 hr1396 y1397 h1398) rfl ?_
            rintro v1399 w1400 ⟨F1401, h1402, hv1403⟩
            have h1404 := h1402.narrow st1298.lt
            have st1405 := st1298.trans h1404
            obtain rfl := hv1403
            refine wpS_pure (Value.bool y1397) (pure_pick_true (bval rfl hc734) rfl) rfl ?_
            refine wpS_pure (Value.bool y1397) (pure_move rfl) rfl ?_
            by_cases hc1406 : y1397 = true
            · rw [if_pos hc1406] at hm
              refine wpS_on 55 rfl rfl (bval' rfl hc1406) ?_
              refine wpS_pure v720 (pure_move rfl) rfl ?_
              refine wpS_on 55 rfl rfl (bval' rfl hc1406) ?_
              refine wpS_structT (r := rAward) (qs := [(0, .const (Value.int .i64 (2 : Int))), (1, .const (Value.int .i64 (100 : Int)))]) (vs := [(Value.int .i64 (2 : Int)), (Value.int .i64 (100 : Int))]) (a := ((2 : Int), (100 : Int), (0 : Int))) st1405.lt Try.underlying42 T42 (pl42 _) (q_cons rfl (q_cons rfl q_nil)) (Bld.cons (.fst (.here)) rfl rfl rfl rfl rfl (Bld.cons (.snd (.fst (.here))) rfl rfl rfl rfl rfl Bld.nil)) rfl ?_
              intro es1407 hr1408
              refine wpS_on 55 rfl rfl (bval' rfl hc1406) ?_
              refine wpS_structT (r := rAward) (qs := [(0, .const (Value.int .i64 (5 : Int))), (1, .const (Value.int .i64 (700 : Int)))]) (vs := [(Value.int .i64 (5 : Int)), (Value.int .i64 (700 : Int))]) (a := ((5 : Int), (700 : Int), (0 : Int))) st1405.lt Try.underlying42 T42 (pl42 _) (q_cons rfl (q_cons rfl q_nil)) (Bld.cons (.fst (.here)) rfl rfl rfl rfl rfl (Bld.cons (.snd (.fst (.here))) rfl rfl rfl rfl rfl Bld.nil)) rfl ?_
              intro es1409 hr1410
              refine wpS_on 55 rfl rfl (bval' rfl hc1406) ?_
              refine wpS_buildT (base := w0.heap.size) (xs := [.tmp 57, .tmp 58]) (vs := [(Value.agg es1407.toArray), (Value.agg es1409.toArray)]) Try.underlying33 T42 rfl rfl rfl (m_cons rfl (m_cons rfl m_nil)) (Lits.cons rfl hr1408 (Lits.cons rfl hr1410 Lits.nil)) st1405.lt st1405.below.size rfl ?_
              intro v1411 w1412 h1413 ho1414 hn1415
              have st1416 := st1405.trans h1413
              refine wpS_on 55 rfl rfl (bval' rfl hc1406) ?_
              have st1535 := st1416.fz ((((ho728.st st725.lt h1286).st st1288.lt h1295).st st1298.lt h1404).st st1405.lt h1413)
              have hr1536 := (((((ho728.st st725.lt h1286).st st1288.lt h1295).st st1298.lt h1404).st st1405.lt h1413)).freeze
              have st1537 := st1535.fz (ho1414.fz (ap_symm (ap_new ((((ho728.st st725.lt h1286).st st1288.lt h1295).st st1298.lt h1404)).lt hn1415)))
              have hr1538 := ((ho1414.fz (ap_symm (ap_new ((((ho728.st st725.lt h1286).st st1288.lt h1295).st st1298.lt h1404)).lt hn1415)))).freeze
              obtain ⟨y1539, h1540, hm⟩ := bind_some hm
              try dsimp only at hm
              refine wpS_call (vs := [v720, v1411]) Try.func16 nm16 bd16 (m_cons rfl (m_cons rfl m_nil)) (M.same_Awards_walk N _ _ st1537.lt y718 v720 (hr1536.step (Step.freeze _ _ _)) ([((2 : Int), (100 : Int), (0 : Int)), ((5 : Int), (700 : Int), (0 : Int))] : List rAward.den) v1411 hr1538 y1539 h1540) rfl ?_
              rintro v1541 w1542 ⟨F1543, h1544, hv1545⟩
              have h1546 := h1544.narrow st1416.lt
              have st1547 := st1416.trans h1546
              obtain rfl := hv1545
              refine wpS_pure (Value.bool y1539) (pure_pick_true (bval rfl hc1406) rfl) rfl ?_
              refine wpS_pure (Value.bool y1539) (pure_assign rfl) rfl ?_
              refine wpS_nil ?_
              refine thn_normal ?_
              refine wpC_ret ?_
              obtain rfl := Option.some.inj hm
              refine bodyQ_ret1 Try.results8 (Value.bool y1539) rfl ?_
              exact ⟨_, st1547, rfl⟩
            · rw [if_neg hc1406] at hm
              replace hc1406 := Bool.eq_false_iff.2 hc1406
              refine wpS_off 55 rfl rfl (bval' rfl hc1406) (by decide) rfl ?_
              refine wpS_off 55 rfl rfl (bval' rfl hc1406) (by decide) rfl ?_
              refine wpS_off 55 rfl rfl (bval' rfl hc1406) (by decide) rfl ?_
              refine wpS_off 55 rfl rfl (bval' rfl hc1406) (by decide) rfl ?_
              refine wpS_off 55 rfl rfl (bval' rfl hc1406) (by decide) rfl ?_
              refine wpS_pure (Value.bool false) (pure_pick_false (bval rfl hc1406) rfl) rfl ?_
              refine wpS_pure (Value.bool false) (pure_assign rfl) rfl ?_
              refine wpS_nil ?_
              refine thn_normal ?_
              refine wpC_ret ?_
              obtain rfl := Option.some.inj hm
              refine bodyQ_ret1 Try.results8 (Value.bool false) rfl ?_
              exact ⟨_, st1405, rfl⟩
          · rw [if_neg hc734] at hm
            replace hc734 := Bool.eq_false_iff.2 hc734
            refine wpS_off 49 rfl rfl (bval' rfl hc734) (by decide) rfl ?_
            refine wpS_off 49 rfl rfl (bval' rfl hc734) (by decide) rfl ?_
            refine wpS_off 49 rfl rfl (bval' rfl hc734) (by decide) rfl ?_
            refine wpS_off 49 rfl rfl (bval' rfl hc734) (by decide) rfl ?_
            refine wpS_pure (Value.bool false) (pure_pick_false (bval rfl hc734) rfl) rfl ?_
            refine wpS_pure (Value.bool false) (pure_move rfl) rfl ?_
            refine wpS_off 55 rfl rfl rfl (by decide) rfl ?_
            refine wpS_off 55 rfl rfl rfl (by decide) rfl ?_
            refine wpS_off 55 rfl rfl rfl (by decide) rfl ?_
            refine wpS_off 55 rfl rfl rfl (by decide) rfl ?_
            refine wpS_off 55 rfl rfl rfl (by decide) rfl ?_
            refine wpS_pure (Value.bool false) (pure_pick_false rfl rfl) rfl ?_
            refine wpS_pure (Value.bool false) (pure_assign rfl) rfl ?_
            refine wpS_nil ?_
            refine thn_normal ?_
            refine wpC_ret ?_
            obtain rfl := Option.some.inj hm
            refine bodyQ_ret1 Try.results8 (Value.bool false) rfl ?_
            exact ⟨_, st725, rfl⟩
        · rw [if_neg hc733] at hm
          replace hc733 := Bool.eq_false_iff.2 hc733
          refine wpS_off 45 rfl rfl (bval' rfl hc733) (by decide) rfl ?_
          refine wpS_off 45 rfl rfl (bval' rfl hc733) (by decide) rfl ?_
          refine wpS_pure (Value.bool false) (pure_pick_false (bval rfl hc733) rfl) rfl ?_
          refine wpS_pure (Value.bool false) (pure_move rfl) rfl ?_
          refine wpS_off 49 rfl rfl rfl (by decide) rfl ?_
          refine wpS_off 49 rfl rfl rfl (by decide) rfl ?_
          refine wpS_off 49 rfl rfl rfl (by decide) rfl ?_
          refine wpS_off 49 rfl rfl rfl (by decide) rfl ?_
          refine wpS_pure (Value.bool false) (pure_pick_false rfl rfl) rfl ?_
          refine wpS_pure (Value.bool false) (pure_move rfl) rfl ?_
          refine wpS_off 55 rfl rfl rfl (by decide) rfl ?_
          refine wpS_off 55 rfl rfl rfl (by decide) rfl ?_
          refine wpS_off 55 rfl rfl rfl (by decide) rfl ?_
          refine wpS_off 55 rfl rfl rfl (by decide) rfl ?_
          refine wpS_off 55 rfl rfl rfl (by decide) rfl ?_
          refine wpS_pure (Value.bool false) (pure_pick_false rfl rfl) rfl ?_
          refine wpS_pure (Value.bool false) (pure_assign rfl) rfl ?_
          refine wpS_nil ?_
          refine thn_normal ?_
          refine wpC_ret ?_
          obtain rfl := Option.some.inj hm
          refine bodyQ_ret1 Try.results8 (Value.bool false) rfl ?_
          exact ⟨_, st725, rfl⟩
      · rw [if_neg hc732] at hm
        replace hc732 := Bool.eq_false_iff.2 hc732
        refine wpS_off 42 rfl rfl (bval' rfl hc732) (by decide) rfl ?_
        refine wpS_pure (Value.bool false) (pure_pick_false (bval rfl hc732) rfl) rfl ?_
        refine wpS_pure (Value.bool false) (pure_move rfl) rfl ?_
        refine wpS_off 45 rfl rfl rfl (by decide) rfl ?_
        refine wpS_off 45 rfl rfl rfl (by decide) rfl ?_
        refine wpS_pure (Value.bool false) (pure_pick_false rfl rfl) rfl ?_
        refine wpS_pure (Value.bool false) (pure_move rfl) rfl ?_
        refine wpS_off 49 rfl rfl rfl (by decide) rfl ?_
        refine wpS_off 49 rfl rfl rfl (by decide) rfl ?_
        refine wpS_off 49 rfl rfl rfl (by decide) rfl ?_
        refine wpS_off 49 rfl rfl rfl (by decide) rfl ?_
        refine wpS_pure (Value.bool false) (pure_pick_false rfl rfl) rfl ?_
        refine wpS_pure (Value.bool false) (pure_move rfl) rfl ?_
        refine wpS_off 55 rfl rfl rfl (by decide) rfl ?_
        refine wpS_off 55 rfl rfl rfl (by decide) rfl ?_
        refine wpS_off 55 rfl rfl rfl (by decide) rfl ?_
        refine wpS_off 55 rfl rfl rfl (by decide) rfl ?_
        refine wpS_off 55 rfl rfl rfl (by decide) rfl ?_
        refine wpS_pure (Value.bool false) (pure_pick_false rfl rfl) rfl ?_
        refine wpS_pure (Value.bool false) (pure_assign rfl) rfl ?_
        refine wpS_nil ?_
        refine thn_normal ?_
        refine wpC_ret ?_
        obtain rfl := Option.some.inj hm
        refine bodyQ_ret1 Try.results8 (Value.bool false) rfl ?_
        exact ⟨_, st725, rfl⟩
    · rw [if_neg hc731] at hm
      replace hc731 := Bool.eq_false_iff.2 hc731
      refine wpS_off 38 rfl rfl (bval' rfl hc731) (by decide) rfl ?_
      refine wpS_off 38 rfl rfl (bval' rfl hc731) (by decide) rfl ?_
      refine wpS_pure (Value.bool false) (pure_pick_false (bval rfl hc731) rfl) rfl ?_
      refine wpS_pure (Value.bool false) (pure_move rfl) rfl ?_
      refine wpS_off 42 rfl rfl rfl (by decide) rfl ?_
      refine wpS_pure (Value.bool false) (pure_pick_false rfl rfl) rfl ?_
      refine wpS_pure (Value.bool false) (pure_move rfl) rfl ?_
      refine wpS_off 45 rfl rfl rfl (by decide) rfl ?_
      refine wpS_off 45 rfl rfl rfl (by decide) rfl ?_
      refine wpS_pure (Value.bool false) (pure_pick_false rfl rfl) rfl ?_
      refine wpS_pure (Value.bool false) (pure_move rfl) rfl ?_
      refine wpS_off 49 rfl rfl rfl (by decide) rfl ?_
      refine wpS_off 49 rfl rfl rfl (by decide) rfl ?_
      refine wpS_off 49 rfl rfl rfl (by decide) rfl ?_
      refine wpS_off 49 rfl rfl rfl (by decide) rfl ?_
      refine wpS_pure (Value.bool false) (pure_pick_false rfl rfl) rfl ?_
      refine wpS_pure (Value.bool false) (pure_move rfl) rfl ?_
      refine wpS_off 55 rfl rfl rfl (by decide) rfl ?_
      refine wpS_off 55 rfl rfl rfl (by decide) rfl ?_
      refine wpS_off 55 rfl rfl rfl (by decide) rfl ?_
      refine wpS_off 55 rfl rfl rfl (by decide) rfl ?_
      refine wpS_off 55 rfl rfl rfl (by decide) rfl ?_
      refine wpS_pure (Value.bool false) (pure_pick_false rfl rfl) rfl ?_
      refine wpS_pure (Value.bool false) (pure_assign rfl) rfl ?_
      refine wpS_nil ?_
      refine thn_normal ?_
      refine wpC_ret ?_
      obtain rfl := Option.some.inj hm
      refine bodyQ_ret1 Try.results8 (Value.bool false) rfl ?_
      exact ⟨_, st725, rfl⟩
  · rw [if_neg hc730] at hm
    replace hc730 := Bool.eq_false_iff.2 hc730
    refine wpS_off 35 rfl rfl (bval' rfl hc730) (by decide) rfl ?_
    refine wpS_pure (Value.bool false) (pure_pick_false (bval rfl hc730) rfl) rfl ?_
    refine wpS_pure (Value.bool false) (pure_move rfl) rfl ?_
    refine wpS_off 38 rfl rfl rfl (by decide) rfl ?_
    refine wpS_off 38 rfl rfl rfl (by decide) rfl ?_
    refine wpS_pure (Value.bool false) (pure_pick_false rfl rfl) rfl ?_
    refine wpS_pure (Value.bool false) (pure_move rfl) rfl ?_
    refine wpS_off 42 rfl rfl rfl (by decide) rfl ?_
    refine wpS_pure (Value.bool false) (pure_pick_false rfl rfl) rfl ?_
    refine wpS_pure (Value.bool false) (pure_move rfl) rfl ?_
    refine wpS_off 45 rfl rfl rfl (by decide) rfl ?_
    refine wpS_off 45 rfl rfl rfl (by decide) rfl ?_
    refine wpS_pure (Value.bool false) (pure_pick_false rfl rfl) rfl ?_
    refine wpS_pure (Value.bool false) (pure_move rfl) rfl ?_
    refine wpS_off 49 rfl rfl rfl (by decide) rfl ?_
    refine wpS_off 49 rfl rfl rfl (by decide) rfl ?_
    refine wpS_off 49 rfl rfl rfl (by decide) rfl ?_
    refine wpS_off 49 rfl rfl rfl (by decide) rfl ?_
    refine wpS_pure (Value.bool false) (pure_pick_false rfl rfl) rfl ?_
    refine wpS_pure (Value.bool false) (pure_move rfl) rfl ?_
    refine wpS_off 55 rfl rfl rfl (by decide) rfl ?_
    refine wpS_off 55 rfl rfl rfl (by decide) rfl ?_
    refine wpS_off 55 rfl rfl rfl (by decide) rfl ?_
    refine wpS_off 55 rfl rfl rfl (by decide) rfl ?_
    refine wpS_off 55 rfl rfl rfl (by decide) rfl ?_
    refine wpS_pure (Value.bool false) (pure_pick_false rfl rfl) rfl ?_
    refine wpS_pure (Value.bool false) (pure_assign rfl) rfl ?_
    refine wpS_nil ?_
    refine thn_normal ?_
    refine wpC_ret ?_
    obtain rfl := Option.some.inj hm
    refine bodyQ_ret1 Try.results8 (Value.bool false) rfl ?_
    exact ⟨_, st725, rfl⟩

set_option maxRecDepth 100000 in
set_option maxHeartbeats 1000000 in
theorem M.ref42_Pending_walk (N : Nat) (w0 : World) (F0 : Nat → Prop) (hF0 : ∀ b, F0 b → b < w0.heap.size) (p0_x : rAppeal.den) (vp0_x : List Value) (hp0_x : Rep F0 w0 rAppeal vp0_x p0_x) (r : Bool) (hm : M.ref42_Pending N p0_x = some r) :
    Calls Try.prog 12 [(Value.agg vp0_x.toArray)].toArray w0 fun e w => ∃ v, e = .returned v ∧ ∃ F, St w0 F0 w F ∧ v = (Value.bool r) := by
  refine calls_of_wpC Try.func12 rfl (Nat.le_of_ble_eq_true rfl) ?_
  intro ρ hρ
  have st0 := St.refl hF0
  rw [M.ref42_Pending] at hm
  refine wpC_seq ?_
  refine wpC_region ?_
  refine wpS_box (base := w0.heap.size) (hρ 0 _ rfl) (hp0_x.step (st0.step hF0)) st0.lt st0.below.size rfl ?_
  intro b1576 w1577 h1578 hb1579 hn1580
  have hn1581 : ∀ k, is b1576 k → _ ≤ k := fun k hk => hk ▸ hn1580
  have st1582 := st0.trans h1578
  refine wpS_pure (Value.bool false) (pure_assign rfl) rfl ?_
  refine wpS_nil ?_
  refine thn_normal ?_
  refine wpC_seq ?_
  refine wpC_region ?_
  refine wpS_pure (Value.pointer (some ⟨b1576, 0 + 5, none⟩)) (pure_fieldT 5 Try.underlying30 rfl T3 rfl rfl) rfl ?_
  have ha1584 : At _ _ rInt b1576 (0 + 5) (p0_x.2.2.2.2.2.1) := (hb1579).at.path (.snd (.snd (.snd (.snd (.snd (.fst (.here))))))) 5 rfl
  refine wpS_load_int Try.underlying3 rfl rfl ha1584 rfl ?_
  refine wpS_pure (Value.bool (decide (p0_x.2.2.2.2.2.1 = (1 : Int)))) (pure_eql rfl rfl) rfl ?_
  refine wpS_pure (Value.bool (decide (p0_x.2.2.2.2.2.1 = (1 : Int)))) (pure_move rfl) rfl ?_
  by_cases hc1585 : (decide (p0_x.2.2.2.2.2.1 = (1 : Int))) = true
  · rw [if_pos hc1585] at hm
    refine wpS_off 6 rfl rfl (bval' rfl hc1585) (by decide) rfl ?_
    refine wpS_off 6 rfl rfl (bval' rfl hc1585) (by decide) rfl ?_
    refine wpS_off 6 rfl rfl (bval' rfl hc1585) (by decide) rfl ?_
    refine wpS_pure (Value.bool true) (pure_pick_true (bval rfl hc1585) rfl) rfl ?_
    refine wpS_pure (Value.bool true) (pure_assign rfl) rfl ?_
    refine wpS_nil ?_
    refine thn_normal ?_
    refine wpC_ret ?_
    obtain rfl := Option.some.inj hm
    refine bodyQ_ret1 Try.results12 (Value.bool true) rfl ?_
    exact ⟨_, st1582, rfl⟩
  · rw [if_neg hc1585] at hm
    replace hc1585 := Bool.eq_false_iff.2 hc1585
    refine wpS_on 6 rfl rfl (bval' rfl hc1585) ?_
    refine wpS_pure (Value.pointer (some ⟨b1576, 0 + 5, none⟩)) (pure_fieldT 5 Try.underlying30 rfl T3 rfl rfl) rfl ?_
    refine wpS_on 6 rfl rfl (bval' rfl hc1585) ?_
    have ha1586 : At _ _ rInt b1576 (0 + 5) (p0_x.2.2.2.2.2.1) := (hb1579).at.path (.snd (.snd (.snd (.snd (.snd (.fst (.here))))))) 5 rfl
    refine wpS_load_int Try.underlying3 rfl rfl ha1586 rfl ?_
    refine wpS_on 6 rfl rfl (bval' rfl hc1585) ?_
    refine wpS_pure (Value.bool (decide (p0_x.2.2.2.2.2.1 = (2 : Int)))) (pure_eql rfl rfl) rfl ?_
    refine wpS_pure (Value.bool (decide (p0_x.2.2.2.2.2.1 = (2 : Int)))) (pure_pick_false (bval rfl hc1585) rfl) rfl ?_
    refine wpS_pure (Value.bool (decide (p0_x.2.2.2.2.2.1 = (2 : Int)))) (pure_assign rfl) rfl ?_
    refine wpS_nil ?_
    refine thn_normal ?_
    refine wpC_ret ?_
    obtain rfl := Option.some.inj hm
    refine bodyQ_ret1 Try.results12 (Value.bool (decide (p0_x.2.2.2.2.2.1 = (2 : Int)))) rfl ?_
    exact ⟨_, st1582, rfl⟩

set_option maxRecDepth 100000 in
set_option maxHeartbeats 1000000 in
theorem M.ref42_Covers_walk (N : Nat) (w0 : World) (F0 : Nat → Prop) (hF0 : ∀ b, F0 b → b < w0.heap.size) (p0_x : rAppeal.den) (vp0_x : List Value) (hp0_x : Rep F0 w0 rAppeal vp0_x p0_x) (p1_m : Int) (r : Bool) (hm : M.ref42_Covers N p0_x p1_m = some r) :
    Calls Try.prog 13 [(Value.agg vp0_x.toArray), (Value.int .i64 p1_m)].toArray w0 fun e w => ∃ v, e = .returned v ∧ ∃ F, St w0 F0 w F ∧ v = (Value.bool r) := by
  refine calls_of_wpC Try.func13 rfl (Nat.le_of_ble_eq_true rfl) ?_
  intro ρ hρ
  have st0 := St.refl hF0
  rw [M.ref42_Covers] at hm
  refine wpC_seq ?_
  refine wpC_region ?_
  refine wpS_box (base := w0.heap.size) (hρ 0 _ rfl) (hp0_x.step (st0.step hF0)) st0.lt st0.below.size rfl ?_
  intro b1603 w1604 h1605 hb1606 hn1607
  have hn1608 : ∀ k, is b1603 k → _ ≤ k := fun k hk => hk ▸ hn1607
  have st1609 := st0.trans h1605
  refine wpS_pure (Value.bool false) (pure_assign rfl) rfl ?_
  refine wpS_nil ?_
  refine thn_normal ?_
  refine wpC_seq ?_
  refine wpC_region ?_
  refine wpS_pure (Value.pointer (some ⟨b1603, 0 + 1, none⟩)) (pure_fieldT 1 Try.underlying30 rfl T3 rfl rfl) rfl ?_
  have ha1611 : At _ _ rInt b1603 (0 + 1) (p0_x.2.1) := (hb1606).at.path (.snd (.fst (.here))) 1 rfl
  refine wpS_load_int Try.underlying3 rfl rfl ha1611 rfl ?_
  refine wpS_pure (Value.int .i64 p1_m) (pure_move (hρ 1 _ rfl)) rfl ?_
  refine wpS_pure (Value.bool (decide (p0_x.2.1 ≤ p1_m))) (pure_leq rfl rfl) rfl ?_
  refine wpS_pure (Value.bool (decide (p0_x.2.1 ≤ p1_m))) (pure_move rfl) rfl ?_
  by_cases hc1612 : (decide (p0_x.2.1 ≤ p1_m)) = true
  · rw [if_pos hc1612] at hm
    refine wpS_on 9 rfl rfl (bval' rfl hc1612) ?_
    refine wpS_pure (Value.int .i64 p1_m) (pure_move (hρ 1 _ rfl)) rfl ?_
    refine wpS_on 9 rfl rfl (bval' rfl hc1612) ?_
    refine wpS_pure (Value.pointer (some ⟨b1603, 0 + 2, none⟩)) (pure_fieldT 2 Try.underlying30 rfl T3 rfl rfl) rfl ?_
    refine wpS_on 9 rfl rfl (bval' rfl hc1612) ?_
    have ha1613 : At _ _ rInt b1603 (0 + 2) (p0_x.2.2.1) := (hb1606).at.path (.snd (.snd (.fst (.here)))) 2 rfl
    refine wpS_load_int Try.underlying3 rfl rfl ha1613 rfl ?_
    refine wpS_on 9 rfl rfl (bval' rfl hc1612) ?_
    refine wpS_pure (Value.bool (decide (p1_m < p0_x.2.2.1))) (pure_lss rfl rfl) rfl ?_
    refine wpS_pure (Value.bool (decide (p1_m < p0_x.2.2.1))) (pure_pick_true (bval rfl hc1612) rfl) rfl ?_
    refine wpS_pure (Value.bool (decide (p1_m < p0_x.2.2.1))) (pure_assign rfl) rfl ?_
    refine wpS_nil ?_
    refine thn_normal ?_
    refine wpC_ret ?_
    obtain rfl := Option.some.inj hm
    refine bodyQ_ret1 Try.results13 (Value.bool (decide (p1_m < p0_x.2.2.1))) rfl ?_
    exact ⟨_, st1609, rfl⟩
  · rw [if_neg hc1612] at hm
    replace hc1612 := Bool.eq_false_iff.2 hc1612
    refine wpS_off 9 rfl rfl (bval' rfl hc1612) (by decide) rfl ?_
    refine wpS_off 9 rfl rfl (bval' rfl hc1612) (by decide) rfl ?_
    refine wpS_off 9 rfl rfl (bval' rfl hc1612) (by decide) rfl ?_
    refine wpS_off 9 rfl rfl (bval' rfl hc1612) (by decide) rfl ?_
    refine wpS_pure (Value.bool false) (pure_pick_false (bval rfl hc1612) rfl) rfl ?_
    refine wpS_pure (Value.bool false) (pure_assign rfl) rfl ?_
    refine wpS_nil ?_
    refine thn_normal ?_
    refine wpC_ret ?_
    obtain rfl := Option.some.inj hm
    refine bodyQ_ret1 Try.results13 (Value.bool false) rfl ?_
    exact ⟨_, st1609, rfl⟩

set_option maxRecDepth 100000 in
set_option maxHeartbeats 1000000 in
theorem M.ref42_StayedMonths_walk (N : Nat) (w0 : World) (F0 : Nat → Prop) (hF0 : ∀ b, F0 b → b < w0.heap.size) (p0_l : List rAppeal.den) (vp0_l : Value) (hp0_l : Rep F0 w0 (Row.slice rAppeal) [vp0_l] p0_l) (r : List Int) (hm : M.ref42_StayedMonths N p0_l = some r) :
    Calls Try.prog 11 [vp0_l].toArray w0 fun e w => ∃ v, e = .returned v ∧ ∃ F, St w0 F0 w F ∧ Own w0.heap.size F w 3 rInt v r ∧ ∀ k, mine v k → w0.heap.size ≤ k := by
  refine calls_of_wpC Try.func11 rfl (Nat.le_of_ble_eq_true rfl) ?_
  intro ρ hρ
  have st0 := St.refl hF0
  rw [M.ref42_StayedMonths] at hm
  refine wpC_seq ?_
  refine wpC_region ?_
  refine wpS_pure (Value.slice none 0 0) (pure_assign rfl) rfl ?_
  refine wpS_nil ?_
  refine thn_normal ?_
  refine wpC_seq ?_
  refine wpC_region ?_
  refine wpS_pure (Value.slice none 0 0) (pure_assign rfl) rfl ?_
  refine wpS_nil ?_
  refine thn_normal ?_
  refine wpC_seq ?_
  refine wpC_seq ?_
  refine wpC_region ?_
  refine wpS_pure (Value.int .i64 (0 : Int)) (pure_assign rfl) rfl ?_
  refine wpS_nil ?_
  refine thn_normal ?_
  refine wpC_block_join (fun ρ w => ∃ (a2036 : List Int) (F2040 : Nat → Prop) (v2035 : Value), St w0 F0 w F2040 ∧ Own w0.heap.size F2040 w 3 rInt v2035 a2036 ∧ ρ 3 = v2035 ∧ M.ref42_StayedMonths_k1 N a2036 = some r) ?_ ?_
  · skip
    obtain ⟨x2388, hL2389, hm2390⟩ := bind_some hm
    clear hm
    refine wpC_loop (fun (s : List Int × Int) ρ w => ∃ (a2378 : List Int) (a2381 : Int) (F2385 : Nat → Prop) (v2377 : Value), (a2378, a2381) = s ∧ St w0 F0 w F2385 ∧ Own w0.heap.size F2385 w 3 rInt v2377 a2378 ∧ ρ 0 = vp0_l ∧ ρ 3 = v2377 ∧ ρ 4 = (Value.int .i64 a2381)) hL2389 ?_ ?_
    · exact ⟨[], (0 : Int), _, (Value.slice none 0 0), rfl, st0, (Own.nil _ _ _ _ _), (hρ 0 _ rfl), rfl, rfl⟩
    · skip
      rintro s ρ w y2391 ⟨a2378, a2381, F2385, v2377, rfl, st2386, ho2380, r2382, r2383, r2384⟩ hm2392
      have hm : M.ref42_StayedMonths_k2 N p0_l a2378 a2381 = some y2391 := hm2392
      clear hm2392
      rw [M.ref42_StayedMonths_k2] at hm
      refine wpC_seq ?_
      refine wpC_seq ?_
      refine wpC_region ?_
      refine wpS_pure (Value.int .i64 a2381) (pure_move r2384) rfl ?_
      refine wpS_pure (Value.bool (decide (a2381 ≤ (3599 : Int)))) (pure_leq rfl rfl) rfl ?_
      refine wpS_nil ?_
      refine thn_normal ?_
      by_cases hc2393 : (decide (a2381 ≤ (3599 : Int))) = true
      · rw [if_pos hc2393] at hm
        refine wpC_true (bval rfl hc2393) ?_
        refine wpC_skip ?_
        refine thn_normal ?_
        refine wpC_seq ?_
        refine wpC_block ?_
        refine wpC_seq ?_
        refine wpC_region ?_
        refine wpS_pure (Value.bool false) (pure_assign rfl) rfl ?_
        refine wpS_nil ?_
        refine thn_normal ?_
        refine wpC_seq ?_
        refine wpC_seq ?_
        refine wpC_region ?_
        refine wpS_pure (Value.int .i64 (0 : Int)) (pure_assign rfl) rfl ?_
        refine wpS_nil ?_
        refine thn_normal ?_
        refine wpC_block_join (fun ρ w => ∃ (a2492 : Bool) (F2497 : Nat → Prop) (v2490 : Value), St w0 F0 w F2497 ∧ Own w0.heap.size F2497 w 3 rInt v2490 a2378 ∧ ρ 0 = vp0_l ∧ ρ 3 = v2490 ∧ ρ 4 = (Value.int .i64 a2381) ∧ ρ 5 = (Value.bool a2492) ∧ M.ref42_StayedMonths_k3 N a2378 a2381 a2492 = some y2391) ?_ ?_
        · skip
          obtain ⟨x2576, hL2577, hm2578⟩ := bind_some hm
          clear hm
          refine wpC_loop (fun (s : Bool × Int) ρ w => ∃ (a2566 : Bool) (a2567 : Int) (F2573 : Nat → Prop) (v2564 : Value), (a2566, a2567) = s ∧ St w0 F0 w F2573 ∧ Own w0.heap.size F2573 w 3 rInt v2564 a2378 ∧ ρ 0 = vp0_l ∧ ρ 3 = v2564 ∧ ρ 4 = (Value.int .i64 a2381) ∧ ρ 5 = (Value.bool a2566) ∧ ρ 6 = (Value.int .i64 a2567)) hL2577 ?_ ?_
          · exact ⟨false, (0 : Int), _, v2377, rfl, st2386, ho2380, r2382, r2383, r2384, rfl, rfl⟩
          · skip
            rintro s ρ w y2579 ⟨a2566, a2567, F2573, v2564, rfl, st2574, ho2565, r2568, r2569, r2570, r2571, r2572⟩ hm2580
            have hm : M.ref42_StayedMonths_k4 N p0_l a2381 a2566 a2567 = some y2579 := hm2580
            clear hm2580
            rw [M.ref42_StayedMonths_k4] at hm
            refine wpC_seq ?_
            refine wpC_seq ?_
            refine wpC_region ?_
            refine wpS_pure (Value.int .i64 a2567) (pure_move r2572) rfl ?_
            refine wpS_pure vp0_l (pure_move r2568) rfl ?_
            refine wpS_len (v := vp0_l) Try.underlying22 rfl ((hp0_l.step (st2574.step hF0))).reads rfl ?_
            refine wpS_pure (Value.bool (decide (a2567 < (p0_l.length : Int)))) (pure_lss rfl rfl) rfl ?_
            refine wpS_nil ?_
            refine thn_normal ?_
            by_cases hc2581 : (decide (a2567 < (p0_l.length : Int))) = true
            · rw [if_pos hc2581] at hm
              refine wpC_true (bval rfl hc2581) ?_
              refine wpC_skip ?_
              refine thn_normal ?_
              refine wpC_seq ?_
              refine wpC_block ?_
              refine wpC_region ?_
              refine wpS_pure (Value.bool a2566) (pure_move r2571) rfl ?_
              refine wpS_pure (Value.bool a2566) (pure_move rfl) rfl ?_
              by_cases hc2582 : a2566 = true
              · rw [if_pos hc2582] at hm
                refine wpS_off 18 rfl rfl (bval' rfl hc2582) (by decide) rfl ?_
                refine wpS_off 18 rfl rfl (bval' rfl hc2582) (by decide) rfl ?_
                refine wpS_off 18 rfl rfl (bval' rfl hc2582) (by decide) rfl ?_
                refine wpS_off 18 rfl rfl (bval' rfl hc2582) (by decide) rfl ?_
                refine wpS_off 18 rfl rfl (bval' rfl hc2582) (by decide) rfl ?_
                refine wpS_off 18 rfl rfl (bval' rfl hc2582) (by decide) rfl ?_
                refine wpS_offu 24 rfl rfl rfl rfl ?_
                refine wpS_offu 24 rfl rfl rfl rfl ?_
                refine wpS_offu 24 rfl rfl rfl rfl ?_
                refine wpS_offu 24 rfl rfl rfl rfl ?_
                refine wpS_offu 24 rfl rfl rfl rfl ?_
                refine wpS_offu 24 rfl rfl rfl rfl ?_
                refine wpS_off 18 rfl rfl (bval' rfl hc2582) (by decide) rfl ?_
                refine wpS_pure (Value.bool true) (pure_pick_true (bval rfl hc2582) rfl) rfl ?_
                refine wpS_pure (Value.bool true) (pure_assign rfl) rfl ?_
                refine wpS_nil ?_
                refine inB_normal ?_
                refine thn_normal ?_
                refine wpC_region ?_
                refine wpS_pure (Value.int .i64 a2567) (pure_move r2572) rfl ?_
                refine wpS_pure (Value.int .i64 (IntKind.i64.wrap (a2567 + (1 : Int)))) (pure_add rfl rfl) rfl ?_
                refine wpS_pure (Value.int .i64 (IntKind.i64.wrap (a2567 + (1 : Int)))) (pure_assign rfl) rfl ?_
                refine wpS_nil ?_
                obtain rfl := Option.some.inj hm
                refine loopQ_in ?_
                exact ⟨true, (IntKind.i64.wrap (a2567 + (1 : Int))), _, v2564, rfl, st2574, ho2565, r2568, r2569, r2570, rfl, rfl⟩
              · rw [if_neg hc2582] at hm
                replace hc2582 := Bool.eq_false_iff.2 hc2582
                refine wpS_on 18 rfl rfl (bval' rfl hc2582) ?_
                refine wpS_pure vp0_l (pure_move r2568) rfl ?_
                refine wpS_on 18 rfl rfl (bval' rfl hc2582) ?_
                refine wpS_pure (Value.int .i64 a2567) (pure_move r2572) rfl ?_
                refine wpS_on 18 rfl rfl (bval' rfl hc2582) ?_
                obtain ⟨x2583, h2584, hm⟩ := bind_some hm
                try dsimp only at hm
                refine wpS_indexT (v := vp0_l) Try.underlying22 T30 rfl rfl ((hp0_l.step (st2574.step hF0))).reads h2584 rfl ?_
                intro b2585 o2586 ha2587
                refine wpS_on 18 rfl rfl (bval' rfl hc2582) ?_
                refine wpS_load_rowT Try.underlying30 rfl T30 rfl ha2587 rfl ?_
                intro es2588 hr2589
                refine wpS_on 18 rfl rfl (bval' rfl hc2582) ?_
                obtain ⟨y2590, h2591, hm⟩ := bind_some hm
                try dsimp only at hm
                refine wpS_call (vs := [(Value.agg es2588.toArray)]) Try.func12 nm12 bd12 (m_cons rfl m_nil) (M.ref42_Pending_walk N _ _ st2574.lt x2583 es2588 hr2589 y2590 h2591) rfl ?_
                rintro v2592 w2593 ⟨F2594, h2595, hv2596⟩
                have h2597 := h2595.narrow st2574.lt
                have st2598 := st2574.trans h2597
                obtain rfl := hv2596
                refine wpS_on 18 rfl rfl (bval' rfl hc2582) ?_
                refine wpS_pure (Value.bool y2590) (pure_move rfl) rfl ?_
                by_cases hc2599 : y2590 = true
                · rw [if_pos hc2599] at hm
                  refine wpS_on 24 rfl rfl (bval' rfl hc2599) ?_
                  refine wpS_pure vp0_l (pure_move r2568) rfl ?_
                  refine wpS_on 24 rfl rfl (bval' rfl hc2599) ?_
                  refine wpS_pure (Value.int .i64 a2567) (pure_move r2572) rfl ?_
                  refine wpS_on 24 rfl rfl (bval' rfl hc2599) ?_
                  obtain ⟨x2600, h2601, hm⟩ := bind_some hm
                  try dsimp only at hm
                  refine wpS_indexT (v := vp0_l) Try.underlying22 T30 rfl rfl ((hp0_l.step (st2598.step hF0))).reads h2601 rfl ?_
                  intro b2602 o2603 ha2604
                  refine wpS_on 24 rfl rfl (bval' rfl hc2599) ?_
                  refine wpS_load_rowT Try.underlying30 rfl T30 rfl ha2604 rfl ?_
                  intro es2605 hr2606
                  refine wpS_on 24 rfl rfl (bval' rfl hc2599) ?_
                  refine wpS_pure (Value.int .i64 a2381) (pure_move r2570) rfl ?_
                  refine wpS_on 24 rfl rfl (bval' rfl hc2599) ?_
                  obtain ⟨y2607, h2608, hm⟩ := bind_some hm
                  try dsimp only at hm
                  refine wpS_call (vs := [(Value.agg es2605.toArray), (Value.int .i64 a2381)]) Try.func13 nm13 bd13 (m_cons rfl (m_cons rfl m_nil)) (M.ref42_Covers_walk N _ _ st2598.lt x2600 es2605 hr2606 a2381 y2607 h2608) rfl ?_
                  rintro v2609 w2610 ⟨F2611, h2612, hv2613⟩
                  have h2614 := h2612.narrow st2598.lt
                  have st2615 := st2598.trans h2614
                  obtain rfl := hv2613
                  refine wpS_on 18 rfl rfl (bval' rfl hc2582) ?_
                  refine wpS_pure (Value.bool y2607) (pure_pick_true (bval rfl hc2599) rfl) rfl ?_
                  refine wpS_pure (Value.bool y2607) (pure_pick_false (bval rfl hc2582) rfl) rfl ?_
                  refine wpS_pure (Value.bool y2607) (pure_assign rfl) rfl ?_
                  refine wpS_nil ?_
                  refine inB_normal ?_
                  refine thn_normal ?_
                  refine wpC_region ?_
                  refine wpS_pure (Value.int .i64 a2567) (pure_move r2572) rfl ?_
                  refine wpS_pure (Value.int .i64 (IntKind.i64.wrap (a2567 + (1 : Int)))) (pure_add rfl rfl) rfl ?_
                  refine wpS_pure (Value.int .i64 (IntKind.i64.wrap (a2567 + (1 : Int)))) (pure_assign rfl) rfl ?_
                  refine wpS_nil ?_
                  obtain rfl := Option.some.inj hm
                  refine loopQ_in ?_
                  exact ⟨y2607, (IntKind.i64.wrap (a2567 + (1 : Int))), _, v2564, rfl, st2615, ((ho2565.st st2574.lt h2597).st st2598.lt h2614), r2568, r2569, r2570, rfl, rfl⟩
                · rw [if_neg hc2599] at hm
                  replace hc2599 := Bool.eq_false_iff.2 hc2599
                  refine wpS_off 24 rfl rfl (bval' rfl hc2599) (by decide) rfl ?_
                  refine wpS_off 24 rfl rfl (bval' rfl hc2599) (by decide) rfl ?_
                  refine wpS_off 24 rfl rfl (bval' rfl hc2599) (by decide) rfl ?_
                  refine wpS_off 24 rfl rfl (bval' rfl hc2599) (by decide) rfl ?_
                  refine wpS_off 24 rfl rfl (bval' rfl hc2599) (by decide) rfl ?_
                  refine wpS_off 24 rfl rfl (bval' rfl hc2599) (by decide) rfl ?_
                  refine wpS_on 18 rfl rfl (bval' rfl hc2582) ?_
                  refine wpS_pure (Value.bool false) (pure_pick_false (bval rfl hc2599) rfl) rfl ?_
                  refine wpS_pure (Value.bool false) (pure_pick_false (bval rfl hc2582) rfl) rfl ?_
                  refine wpS_pure (Value.bool false) (pure_assign rfl) rfl ?_
                  refine wpS_nil ?_
                  refine inB_normal ?_
                  refine thn_normal ?_
                  refine wpC_region ?_
                  refine wpS_pure (Value.int .i64 a2567) (pure_move r2572) rfl ?_
                  refine wpS_pure (Value.int .i64 (IntKind.i64.wrap (a2567 + (1 : Int)))) (pure_add rfl rfl) rfl ?_
                  refine wpS_pure (Value.int .i64 (IntKind.i64.wrap (a2567 + (1 : Int)))) (pure_assign rfl) rfl ?_
                  refine wpS_nil ?_
                  obtain rfl := Option.some.inj hm
                  refine loopQ_in ?_
                  exact ⟨false, (IntKind.i64.wrap (a2567 + (1 : Int))), _, v2564, rfl, st2598, (ho2565.st st2574.lt h2597), r2568, r2569, r2570, rfl, rfl⟩
            · rw [if_neg hc2581] at hm
              replace hc2581 := Bool.eq_false_iff.2 hc2581
              refine wpC_false (bval rfl hc2581) ?_
              refine wpC_exit ?_
              refine thn_exit ?_
              obtain rfl := Option.some.inj hm
              refine loopQ_exit (fun hx => ?_)
              subst hx
              have hm2616 : M.ref42_StayedMonths_k3 N a2378 a2381 a2566 = some y2391 := hm2578
              refine joinQ_same ?_
              exact ⟨a2566, _, v2564, st2574, ho2565, r2568, r2569, r2570, r2571, hm2616⟩
        · skip
          rintro ρ w ⟨a2492, F2497, v2490, st2498, ho2491, r2493, r2494, r2495, r2496, hm⟩
          rw [M.ref42_StayedMonths_k3] at hm
          refine thn_normal ?_
          refine wpC_seq ?_
          refine wpC_region ?_
          refine wpS_pure (Value.bool a2492) (pure_move r2496) rfl ?_
          refine wpS_nil ?_
          refine thn_normal ?_
          by_cases hc2617 : a2492 = true
          · rw [if_pos hc2617] at hm
            refine wpC_true (bval rfl hc2617) ?_
            refine wpC_region ?_
            refine wpS_pure v2490 (pure_move r2494) rfl ?_
            refine wpS_pure (Value.int .i64 a2381) (pure_move r2495) rfl ?_
            refine wpS_oneT (base := w0.heap.size) (v := (Value.int .i64 a2381)) Try.underlying25 T3 rfl rfl rfl rfl st2498.lt st2498.below.size rfl ?_
            intro v2618 w2619 h2620 ho2621 hn2622
            have st2623 := st2498.trans h2620
            obtain ⟨l2625, h2626, hm⟩ := bind_some hm
            try dsimp only at hm
            refine wpS_appendT (v := v2490) (u := v2618) Try.underlying25 T3 rfl rfl (ho2491.st st2498.lt h2620) (ho2621).reads h2626 st2623.lt st2623.below.size rfl ?_
            intro v2627 w2628 he2629 ho2630 hn2631
            have st2632 := st2623.ext he2629 ((ho2491.st st2498.lt h2620)).ge
            refine wpS_pure v2627 (pure_assign rfl) rfl ?_
            refine wpS_nil ?_
            refine inB_normal ?_
            refine thn_normal ?_
            refine wpC_region ?_
            refine wpS_pure (Value.int .i64 a2381) (pure_move r2495) rfl ?_
            refine wpS_pure (Value.int .i64 (IntKind.i64.wrap (a2381 + (1 : Int)))) (pure_add rfl rfl) rfl ?_
            refine wpS_pure (Value.int .i64 (IntKind.i64.wrap (a2381 + (1 : Int)))) (pure_assign rfl) rfl ?_
            refine wpS_nil ?_
            obtain rfl := Option.some.inj hm
            refine loopQ_in ?_
            exact ⟨l2625, (IntKind.i64.wrap (a2381 + (1 : Int))), _, v2627, rfl, st2632, ho2630, r2493, rfl, rfl⟩
          · rw [if_neg hc2617] at hm
            replace hc2617 := Bool.eq_false_iff.2 hc2617
            refine wpC_false (bval rfl hc2617) ?_
            refine wpC_skip ?_
            refine inB_normal ?_
            refine thn_normal ?_
            refine wpC_region ?_
            refine wpS_pure (Value.int .i64 a2381) (pure_move r2495) rfl ?_
            refine wpS_pure (Value.int .i64 (IntKind.i64.wrap (a2381 + (1 : Int)))) (pure_add rfl rfl) rfl ?_
            refine wpS_pure (Value.int .i64 (IntKind.i64.wrap (a2381 + (1 : Int)))) (pure_assign rfl) rfl ?_
            refine wpS_nil ?_
            obtain rfl := Option.some.inj hm
            refine loopQ_in ?_
            exact ⟨a2378, (IntKind.i64.wrap (a2381 + (1 : Int))), _, v2490, rfl, st2498, ho2491, r2493, r2494, rfl⟩
      · rw [if_neg hc2393] at hm
        replace hc2393 := Bool.eq_false_iff.2 hc2393
        refine wpC_false (bval rfl hc2393) ?_
        refine wpC_exit ?_
        refine thn_exit ?_
        obtain rfl := Option.some.inj hm
        refine loopQ_exit (fun hx => ?_)
        subst hx
        have hm2633 : M.ref42_StayedMonths_k1 N a2378 = some r := hm2390
        refine joinQ_same ?_
        exact ⟨a2378, _, v2377, st2386, ho2380, r2383, hm2633⟩
  · skip
    rintro ρ w ⟨a2036, F2040, v2035, st2041, ho2038, r2039, hm⟩
    rw [M.ref42_StayedMonths_k1] at hm
    refine thn_normal ?_
    refine wpC_seq ?_
    refine wpC_region ?_
    refine wpS_pure v2035 (pure_move r2039) rfl ?_
    refine wpS_pure v2035 (pure_assign rfl) rfl ?_
    refine wpS_nil ?_
    refine thn_normal ?_
    refine wpC_ret ?_
    obtain rfl := Option.some.inj hm
    refine bodyQ_ret1 Try.results11 v2035 rfl ?_
    exact ⟨_, st2041, ⟨ho2038, (ho2038).ge⟩⟩

set_option maxRecDepth 100000 in
set_option maxHeartbeats 1000000 in
theorem M.law42_RulingStayed_walk (N : Nat) (w0 : World) (F0 : Nat → Prop) (hF0 : ∀ b, F0 b → b < w0.heap.size) (p0_l : List rAppeal.den) (vp0_l : Value) (hp0_l : Rep F0 w0 (Row.slice rAppeal) [vp0_l] p0_l) (r : Bool) (hm : M.law42_RulingStayed N p0_l = some r) :
    Calls Try.prog 3 [vp0_l].toArray w0 fun e w => ∃ v, e = .returned v ∧ ∃ F, St w0 F0 w F ∧ v = (Value.bool r) := by
  refine calls_of_wpC Try.func3 rfl (Nat.le_of_ble_eq_true rfl) ?_
  intro ρ hρ
  have st0 := St.refl hF0
  rw [M.law42_RulingStayed] at hm
  refine wpC_seq ?_
  refine wpC_region ?_
  refine wpS_pure (Value.bool false) (pure_assign rfl) rfl ?_
  refine wpS_nil ?_
  refine thn_normal ?_
  refine wpC_seq ?_
  refine wpC_seq ?_
  refine wpC_region ?_
  refine wpS_pure vp0_l (pure_move (hρ 0 _ rfl)) rfl ?_
  refine wpS_len (v := vp0_l) Try.underlying22 rfl ((hp0_l.step (st0.step hF0))).reads rfl ?_
  refine wpS_pure (Value.bool (decide ((30 : Int) < (p0_l.length : Int)))) (pure_gtr rfl rfl) rfl ?_
  refine wpS_nil ?_
  refine thn_normal ?_
  by_cases hc1 : (decide ((30 : Int) < (p0_l.length : Int))) = true
  · rw [if_pos hc1] at hm
    refine wpC_true (bval rfl hc1) ?_
    refine wpC_seq ?_
    refine wpC_region ?_
    obtain ⟨y1548, h1549, hm⟩ := bind_some hm
    try dsimp only at hm
    refine wpS_call (vs := []) Try.func8 nm8 bd8 m_nil (M.law42_awake_walk N _ _ st0.lt y1548 h1549) rfl ?_
    rintro v1550 w1551 ⟨F1552, h1553, hv1554⟩
    have h1555 := h1553.narrow st0.lt
    have st1556 := st0.trans h1555
    obtain rfl := hv1554
    refine wpS_pure (Value.bool y1548) (pure_assign rfl) rfl ?_
    refine wpS_nil ?_
    refine thn_normal ?_
    refine wpC_ret ?_
    refine thn_ret ?_
    obtain rfl := Option.some.inj hm
    refine bodyQ_ret1 Try.results3 (Value.bool y1548) rfl ?_
    exact ⟨_, st1556, rfl⟩
  · rw [if_neg hc1] at hm
    replace hc1 := Bool.eq_false_iff.2 hc1
    refine wpC_false (bval rfl hc1) ?_
    refine wpC_skip ?_
    refine thn_normal ?_
    refine wpC_seq ?_
    refine wpC_region ?_
    refine wpS_pure vp0_l (pure_move (hρ 0 _ rfl)) rfl ?_
    obtain ⟨y1557, h1558, hm⟩ := bind_some hm
    try dsimp only at hm
    refine wpS_call (vs := [vp0_l]) Try.func10 nm10 bd10 (m_cons rfl m_nil) (M.ruling_StayedMonths_walk N _ _ st0.lt p0_l vp0_l (hp0_l.step (st0.step hF0)) y1557 h1558) rfl ?_
    rintro v1559 w1560 ⟨F1561, h1562, hv1563⟩
    have st1564 := st0.trans h1562
    obtain ⟨ho1565, hn1566⟩ := hv1563
    have ho1567 := ho1565.lower st0.below.size
    refine wpS_pure vp0_l (pure_move (hρ 0 _ rfl)) rfl ?_
    obtain ⟨y2634, h2635, hm⟩ := bind_some hm
    try dsimp only at hm
    refine wpS_call (vs := [vp0_l]) Try.func11 nm11 bd11 (m_cons rfl m_nil) (M.ref42_StayedMonths_walk N _ _ st1564.lt p0_l vp0_l (hp0_l.step (st1564.step hF0)) y2634 h2635) rfl ?_
    rintro v2636 w2637 ⟨F2638, h2639, hv2640⟩
    have st2641 := st1564.trans h2639
    obtain ⟨ho2642, hn2643⟩ := hv2640
    have ho2644 := ho2642.lower st1564.below.size
    have st2646 := st2641.fz (ho1567.st st1564.lt h2639)
    have hr2647 := ((ho1567.st st1564.lt h2639)).freeze
    have st2648 := st2646.fz (ho2644.fz (ap_symm (ap_new (ho1567).lt hn2643)))
    have hr2649 := ((ho2644.fz (ap_symm (ap_new (ho1567).lt hn2643)))).freeze
    obtain ⟨y2650, h2651, hm⟩ := bind_some hm
    try dsimp only at hm
    refine wpS_call (vs := [v1559, v2636]) Try.func9 nm9 bd9 (m_cons rfl (m_cons rfl m_nil)) (M.same_Ints_walk N _ _ st2648.lt y1557 v1559 (hr2647.step (Step.freeze _ _ _)) y2634 v2636 hr2649 y2650 h2651) rfl ?_
    rintro v2652 w2653 ⟨F2654, h2655, hv2656⟩
    have h2657 := h2655.narrow st2641.lt
    have st2658 := st2641.trans h2657
    obtain rfl := hv2656
    refine wpS_pure (Value.bool y2650) (pure_move rfl) rfl ?_
    by_cases hc2659 : y2650 = true
    · rw [if_pos hc2659] at hm
      refine wpS_on 12 rfl rfl (bval' rfl hc2659) ?_
      obtain ⟨y2660, h2661, hm⟩ := bind_some hm
      try dsimp only at hm
      refine wpS_call (vs := []) Try.func8 nm8 bd8 m_nil (M.law42_awake_walk N _ _ st2658.lt y2660 h2661) rfl ?_
      rintro v2662 w2663 ⟨F2664, h2665, hv2666⟩
      have h2667 := h2665.narrow st2658.lt
      have st2668 := st2658.trans h2667
      obtain rfl := hv2666
      refine wpS_pure (Value.bool y2660) (pure_pick_true (bval rfl hc2659) rfl) rfl ?_
      refine wpS_pure (Value.bool y2660) (pure_assign rfl) rfl ?_
      refine wpS_nil ?_
      refine thn_normal ?_
      refine wpC_ret ?_
      obtain rfl := Option.some.inj hm
      refine bodyQ_ret1 Try.results3 (Value.bool y2660) rfl ?_
      exact ⟨_, st2668, rfl⟩
    · rw [if_neg hc2659] at hm
      replace hc2659 := Bool.eq_false_iff.2 hc2659
      refine wpS_off 12 rfl rfl (bval' rfl hc2659) (by decide) rfl ?_
      refine wpS_pure (Value.bool false) (pure_pick_false (bval rfl hc2659) rfl) rfl ?_
      refine wpS_pure (Value.bool false) (pure_assign rfl) rfl ?_
      refine wpS_nil ?_
      refine thn_normal ?_
      refine wpC_ret ?_
      obtain rfl := Option.some.inj hm
      refine bodyQ_ret1 Try.results3 (Value.bool false) rfl ?_
      exact ⟨_, st2658, rfl⟩

set_option maxRecDepth 100000 in
set_option maxHeartbeats 1000000 in
theorem M.law42_RulingStayedMonth_walk (N : Nat) (w0 : World) (F0 : Nat → Prop) (hF0 : ∀ b, F0 b → b < w0.heap.size) (p0_l : List rAppeal.den) (vp0_l : Value) (hp0_l : Rep F0 w0 (Row.slice rAppeal) [vp0_l] p0_l) (p1_m : Int) (r : Bool) (hm : M.law42_RulingStayedMonth N p0_l p1_m = some r) :
    Calls Try.prog 4 [vp0_l, (Value.int .i64 p1_m)].toArray w0 fun e w => ∃ v, e = .returned v ∧ ∃ F, St w0 F0 w F ∧ v = (Value.bool r) := by
  refine calls_of_wpC Try.func4 rfl (Nat.le_of_ble_eq_true rfl) ?_
  intro ρ hρ
  have st0 := St.refl hF0
  rw [M.law42_RulingStayedMonth] at hm
  refine wpC_seq ?_
  refine wpC_region ?_
  refine wpS_pure (Value.bool false) (pure_assign rfl) rfl ?_
  refine wpS_nil ?_
  refine thn_normal ?_
  refine wpC_seq ?_
  refine wpC_seq ?_
  refine wpC_region ?_
  refine wpS_pure vp0_l (pure_move (hρ 0 _ rfl)) rfl ?_
  refine wpS_len (v := vp0_l) Try.underlying22 rfl ((hp0_l.step (st0.step hF0))).reads rfl ?_
  refine wpS_pure (Value.bool (decide ((30 : Int) < (p0_l.length : Int)))) (pure_gtr rfl rfl) rfl ?_
  refine wpS_nil ?_
  refine thn_normal ?_
  by_cases hc2669 : (decide ((30 : Int) < (p0_l.length : Int))) = true
  · rw [if_pos hc2669] at hm
    refine wpC_true (bval rfl hc2669) ?_
    refine wpC_seq ?_
    refine wpC_region ?_
    obtain ⟨y2670, h2671, hm⟩ := bind_some hm
    try dsimp only at hm
    refine wpS_call (vs := []) Try.func8 nm8 bd8 m_nil (M.law42_awake_walk N _ _ st0.lt y2670 h2671) rfl ?_
    rintro v2672 w2673 ⟨F2674, h2675, hv2676⟩
    have h2677 := h2675.narrow st0.lt
    have st2678 := st0.trans h2677
    obtain rfl := hv2676
    refine wpS_pure (Value.bool y2670) (pure_assign rfl) rfl ?_
    refine wpS_nil ?_
    refine thn_normal ?_
    refine wpC_ret ?_
    refine thn_ret ?_
    obtain rfl := Option.some.inj hm
    refine bodyQ_ret1 Try.results4 (Value.bool y2670) rfl ?_
    exact ⟨_, st2678, rfl⟩
  · rw [if_neg hc2669] at hm
    replace hc2669 := Bool.eq_false_iff.2 hc2669
    refine wpC_false (bval rfl hc2669) ?_
    refine wpC_skip ?_
    refine thn_normal ?_
    refine wpC_seq ?_
    refine wpC_region ?_
    refine wpS_pure vp0_l (pure_move (hρ 0 _ rfl)) rfl ?_
    obtain ⟨y2679, h2680, hm⟩ := bind_some hm
    try dsimp only at hm
    refine wpS_call (vs := [vp0_l]) Try.func10 nm10 bd10 (m_cons rfl m_nil) (M.ruling_StayedMonths_walk N _ _ st0.lt p0_l vp0_l (hp0_l.step (st0.step hF0)) y2679 h2680) rfl ?_
    rintro v2681 w2682 ⟨F2683, h2684, hv2685⟩
    have st2686 := st0.trans h2684
    obtain ⟨ho2687, hn2688⟩ := hv2685
    have ho2689 := ho2687.lower st0.below.size
    refine wpS_pure v2681 (pure_assign rfl) rfl ?_
    refine wpS_nil ?_
    refine thn_normal ?_
    refine wpC_seq ?_
    refine wpC_region ?_
    refine wpS_pure (Value.bool false) (pure_assign rfl) rfl ?_
    refine wpS_pure (Value.bool false) (pure_assign rfl) rfl ?_
    refine wpS_nil ?_
    refine thn_normal ?_
    refine wpC_seq ?_
    refine wpC_seq ?_
    refine wpC_region ?_
    refine wpS_pure (Value.int .i64 (0 : Int)) (pure_assign rfl) rfl ?_
    refine wpS_nil ?_
    refine thn_normal ?_
    refine wpC_block_join (fun ρ w => ∃ (a2736 : Bool) (F2741 : Nat → Prop), St w0 F0 w F2741 ∧ ρ 0 = vp0_l ∧ ρ 1 = (Value.int .i64 p1_m) ∧ ρ 6 = (Value.bool a2736) ∧ ρ 7 = (Value.bool false) ∧ M.law42_RulingStayedMonth_k1 N p0_l p1_m a2736 = some r) ?_ ?_
    · skip
      obtain ⟨x2787, hL2788, hm2789⟩ := bind_some hm
      clear hm
      refine wpC_loop (fun (s : Bool × Int) ρ w => ∃ (a2776 : Bool) (a2777 : Int) (F2784 : Nat → Prop) (v2774 : Value), (a2776, a2777) = s ∧ St w0 F0 w F2784 ∧ Own w0.heap.size F2784 w 3 rInt v2774 y2679 ∧ ρ 0 = vp0_l ∧ ρ 1 = (Value.int .i64 p1_m) ∧ ρ 5 = v2774 ∧ ρ 6 = (Value.bool a2776) ∧ ρ 7 = (Value.bool false) ∧ ρ 8 = (Value.int .i64 a2777)) hL2788 ?_ ?_
      · exact ⟨false, (0 : Int), _, v2681, rfl, st2686, ho2689, (hρ 0 _ rfl), (hρ 1 _ rfl), rfl, rfl, rfl, rfl⟩
      · skip
        rintro s ρ w y2792 ⟨a2776, a2777, F2784, v2774, rfl, st2785, ho2775, r2778, r2779, r2780, r2781, r2782, r2783⟩ hm2793
        have hm : M.law42_RulingStayedMonth_k2 N p1_m y2679 a2776 a2777 = some y2792 := hm2793
        clear hm2793
        rw [M.law42_RulingStayedMonth_k2] at hm
        refine wpC_seq ?_
        refine wpC_seq ?_
        refine wpC_region ?_
        refine wpS_pure (Value.int .i64 a2777) (pure_move r2783) rfl ?_
        refine wpS_pure v2774 (pure_move r2780) rfl ?_
        refine wpS_len (v := v2774) Try.underlying25 rfl (ho2775).reads rfl ?_
        refine wpS_pure (Value.bool (decide (a2777 < (y2679.length : Int)))) (pure_lss rfl rfl) rfl ?_
        refine wpS_nil ?_
        refine thn_normal ?_
        by_cases hc2794 : (decide (a2777 < (y2679.length : Int))) = true
        · rw [if_pos hc2794] at hm
          refine wpC_true (bval rfl hc2794) ?_
          refine wpC_skip ?_
          refine thn_normal ?_
          refine wpC_seq ?_
          refine wpC_block ?_
          refine wpC_seq_join (fun ρ w => ∃ (a2802 : Bool) (F2809 : Nat → Prop) (v2800 : Value), St w0 F0 w F2809 ∧ Own w0.heap.size F2809 w 3 rInt v2800 y2679 ∧ ρ 0 = vp0_l ∧ ρ 1 = (Value.int .i64 p1_m) ∧ ρ 5 = v2800 ∧ ρ 6 = (Value.bool a2802) ∧ ρ 7 = (Value.bool false) ∧ ρ 8 = (Value.int .i64 a2777) ∧ M.law42_RulingStayedMonth_k3 N y2679 a2777 a2802 = some y2792) ?_ ?_
          · skip
            refine wpC_region ?_
            refine wpS_pure (Value.bool a2776) (pure_move r2781) rfl ?_
            refine wpS_pure (Value.bool a2776) (pure_move rfl) rfl ?_
            by_cases hc2812 : a2776 = true
            · rw [if_pos hc2812] at hm
              refine wpS_off 23 rfl rfl (bval' rfl hc2812) (by decide) rfl ?_
              refine wpS_off 23 rfl rfl (bval' rfl hc2812) (by decide) rfl ?_
              refine wpS_off 23 rfl rfl (bval' rfl hc2812) (by decide) rfl ?_
              refine wpS_off 23 rfl rfl (bval' rfl hc2812) (by decide) rfl ?_
              refine wpS_off 23 rfl rfl (bval' rfl hc2812) (by decide) rfl ?_
              refine wpS_off 23 rfl rfl (bval' rfl hc2812) (by decide) rfl ?_
              refine wpS_pure (Value.bool true) (pure_pick_true (bval rfl hc2812) rfl) rfl ?_
              refine wpS_pure (Value.bool true) (pure_assign rfl) rfl ?_
              refine wpS_nil ?_
              refine thn_normal ?_
              exact ⟨true, _, v2774, st2785, ho2775, r2778, r2779, r2780, rfl, r2782, r2783, hm⟩
            · rw [if_neg hc2812] at hm
              replace hc2812 := Bool.eq_false_iff.2 hc2812
              refine wpS_on 23 rfl rfl (bval' rfl hc2812) ?_
              refine wpS_pure v2774 (pure_move r2780) rfl ?_
              refine wpS_on 23 rfl rfl (bval' rfl hc2812) ?_
              refine wpS_pure (Value.int .i64 a2777) (pure_move r2783) rfl ?_
              refine wpS_on 23 rfl rfl (bval' rfl hc2812) ?_
              obtain ⟨x2813, h2814, hm⟩ := bind_some hm
              try dsimp only at hm
              refine wpS_indexT (v := v2774) Try.underlying25 T3 rfl rfl (ho2775).reads h2814 rfl ?_
              intro b2815 o2816 ha2817
              refine wpS_on 23 rfl rfl (bval' rfl hc2812) ?_
              refine wpS_load_int Try.underlying3 rfl rfl ha2817 rfl ?_
              refine wpS_on 23 rfl rfl (bval' rfl hc2812) ?_
              refine wpS_pure (Value.int .i64 p1_m) (pure_move r2779) rfl ?_
              refine wpS_on 23 rfl rfl (bval' rfl hc2812) ?_
              refine wpS_pure (Value.bool (decide (x2813 = p1_m))) (pure_eql rfl rfl) rfl ?_
              refine wpS_pure (Value.bool (decide (x2813 = p1_m))) (pure_pick_false (bval rfl hc2812) rfl) rfl ?_
              refine wpS_pure (Value.bool (decide (x2813 = p1_m))) (pure_assign rfl) rfl ?_
              refine wpS_nil ?_
              refine thn_normal ?_
              exact ⟨(decide (x2813 = p1_m)), _, v2774, st2785, ho2775, r2778, r2779, r2780, rfl, r2782, r2783, hm⟩
          · skip
            rintro ρ w ⟨a2802, F2809, v2800, st2810, ho2801, r2803, r2804, r2805, r2806, r2807, r2808, hm⟩
            rw [M.law42_RulingStayedMonth_k3] at hm
            refine wpC_seq ?_
            refine wpC_draw st2810.lt mixed (by kernel_rfl) ?_
            refine wpQ_pure (Value.int .i64 a2777) (pure_move r2808) rfl ?_
            refine wpQ_pure (Value.bool (decide ((0 : Int) < a2777))) (pure_gtr rfl rfl) rfl ?_
            refine wpQ_pure (Value.bool (decide ((0 : Int) < a2777))) (pure_move rfl) rfl ?_
            by_cases hc2818 : (decide ((0 : Int) < a2777)) = true
            · rw [if_pos hc2818] at hm
              refine wpQ_on 33 rfl rfl (bval' rfl hc2818) ?_
              refine wpQ_pure v2800 (pure_move r2805) rfl ?_
              refine wpQ_on 33 rfl rfl (bval' rfl hc2818) ?_
              refine wpQ_pure (Value.int .i64 a2777) (pure_move r2808) rfl ?_
              refine wpQ_on 33 rfl rfl (bval' rfl hc2818) ?_
              refine wpQ_pure (Value.int .i64 (IntKind.i64.wrap (a2777 - (1 : Int)))) (pure_sub rfl rfl) rfl ?_
              refine wpQ_on 33 rfl rfl (bval' rfl hc2818) ?_
              obtain ⟨x2819, h2820, hm⟩ := bind_some hm
              try dsimp only at hm
              refine wpQ_indexT (v := v2800) Try.underlying25 T3 rfl rfl (ho2801).reads h2820 rfl ?_
              intro b2821 o2822 ha2823
              refine wpQ_on 33 rfl rfl (bval' rfl hc2818) ?_
              refine wpQ_load_int st2810.lt Try.underlying3 rfl rfl ha2823 rfl ?_
              refine wpQ_on 33 rfl rfl (bval' rfl hc2818) ?_
              refine wpQ_pure v2800 (pure_move r2805) rfl ?_
              refine wpQ_on 33 rfl rfl (bval' rfl hc2818) ?_
              refine wpQ_pure (Value.int .i64 a2777) (pure_move r2808) rfl ?_
              refine wpQ_on 33 rfl rfl (bval' rfl hc2818) ?_
              obtain ⟨x2824, h2825, hm⟩ := bind_some hm
              try dsimp only at hm
              refine wpQ_indexT (v := v2800) Try.underlying25 T3 rfl rfl (ho2801).reads h2825 rfl ?_
              intro b2826 o2827 ha2828
              refine wpQ_on 33 rfl rfl (bval' rfl hc2818) ?_
              refine wpQ_load_int st2810.lt Try.underlying3 rfl rfl ha2828 rfl ?_
              refine wpQ_on 33 rfl rfl (bval' rfl hc2818) ?_
              refine wpQ_pure (Value.bool (decide (x2824 ≤ x2819))) (pure_geq rfl rfl) rfl ?_
              refine wpQ_pure (Value.bool (decide (x2824 ≤ x2819))) (pure_pick_true (bval rfl hc2818) rfl) rfl ?_
              refine wpQ_nil ?_
              intro w2830 h2829
              have st2831 := st2810.trans h2829
              refine thn_normal ?_
              by_cases hc2832 : (decide (x2824 ≤ x2819)) = true
              · rw [if_pos hc2832] at hm
                refine wpC_true (bval rfl hc2832) ?_
                refine wpC_seq ?_
                refine wpC_region ?_
                refine wpS_pure (Value.bool false) (pure_assign rfl) rfl ?_
                refine wpS_nil ?_
                refine thn_normal ?_
                refine wpC_ret ?_
                refine inB_ret ?_
                refine thn_ret ?_
                obtain rfl := Option.some.inj hm
                refine loopQ_ret (fun hx => ?_)
                subst hx
                have hm2833 : some (false) = some r := hm2789
                refine joinQ_ret ?_
                refine thn_ret ?_
                obtain rfl := Option.some.inj hm2833
                refine bodyQ_ret1 Try.results4 (Value.bool false) rfl ?_
                exact ⟨_, st2831, rfl⟩
              · rw [if_neg hc2832] at hm
                replace hc2832 := Bool.eq_false_iff.2 hc2832
                refine wpC_false (bval rfl hc2832) ?_
                refine wpC_skip ?_
                refine inB_normal ?_
                refine thn_normal ?_
                refine wpC_region ?_
                refine wpS_pure (Value.int .i64 a2777) (pure_move r2808) rfl ?_
                refine wpS_pure (Value.int .i64 (IntKind.i64.wrap (a2777 + (1 : Int)))) (pure_add rfl rfl) rfl ?_
                refine wpS_pure (Value.int .i64 (IntKind.i64.wrap (a2777 + (1 : Int)))) (pure_assign rfl) rfl ?_
                refine wpS_nil ?_
                obtain rfl := Option.some.inj hm
                refine loopQ_in ?_
                exact ⟨a2802, (IntKind.i64.wrap (a2777 + (1 : Int))), _, v2800, rfl, st2831, (ho2801.st st2810.lt h2829), r2803, r2804, r2805, r2806, r2807, rfl⟩
            · rw [if_neg hc2818] at hm
              replace hc2818 := Bool.eq_false_iff.2 hc2818
              refine wpQ_off 33 rfl rfl (bval' rfl hc2818) (by decide) rfl ?_
              refine wpQ_off 33 rfl rfl (bval' rfl hc2818) (by decide) rfl ?_
              refine wpQ_off 33 rfl rfl (bval' rfl hc2818) (by decide) rfl ?_
              refine wpQ_off 33 rfl rfl (bval' rfl hc2818) (by decide) rfl ?_
              refine wpQ_off 33 rfl rfl (bval' rfl hc2818) (by decide) rfl ?_
              refine wpQ_off 33 rfl rfl (bval' rfl hc2818) (by decide) rfl ?_
              refine wpQ_off 33 rfl rfl (bval' rfl hc2818) (by decide) rfl ?_
              refine wpQ_off 33 rfl rfl (bval' rfl hc2818) (by decide) rfl ?_
              refine wpQ_off 33 rfl rfl (bval' rfl hc2818) (by decide) rfl ?_
              refine wpQ_off 33 rfl rfl (bval' rfl hc2818) (by decide) rfl ?_
              refine wpQ_pure (Value.bool false) (pure_pick_false (bval rfl hc2818) rfl) rfl ?_
              refine wpQ_nil ?_
              intro w2835 h2834
              have st2836 := st2810.trans h2834
              refine thn_normal ?_
              refine wpC_false rfl ?_
              refine wpC_skip ?_
              refine inB_normal ?_
              refine thn_normal ?_
              refine wpC_region ?_
              refine wpS_pure (Value.int .i64 a2777) (pure_move r2808) rfl ?_
              refine wpS_pure (Value.int .i64 (IntKind.i64.wrap (a2777 + (1 : Int)))) (pure_add rfl rfl) rfl ?_
              refine wpS_pure (Value.int .i64 (IntKind.i64.wrap (a2777 + (1 : Int)))) (pure_assign rfl) rfl ?_
              refine wpS_nil ?_
              obtain rfl := Option.some.inj hm
              refine loopQ_in ?_
              exact ⟨a2802, (IntKind.i64.wrap (a2777 + (1 : Int))), _, v2800, rfl, st2836, (ho2801.st st2810.lt h2834), r2803, r2804, r2805, r2806, r2807, rfl⟩
        · rw [if_neg hc2794] at hm
          replace hc2794 := Bool.eq_false_iff.2 hc2794
          refine wpC_false (bval rfl hc2794) ?_
          refine wpC_exit ?_
          refine thn_exit ?_
          obtain rfl := Option.some.inj hm
          refine loopQ_exit (fun hx => ?_)
          subst hx
          have hm2837 : M.law42_RulingStayedMonth_k1 N p0_l p1_m a2776 = some r := hm2789
          refine joinQ_same ?_
          exact ⟨a2776, _, st2785, r2778, r2779, r2781, r2782, hm2837⟩
    · skip
      rintro ρ w ⟨a2736, F2741, st2742, r2737, r2738, r2739, r2740, hm⟩
      rw [M.law42_RulingStayedMonth_k1] at hm
      refine thn_normal ?_
      refine wpC_seq ?_
      refine wpC_seq ?_
      refine wpC_region ?_
      refine wpS_pure (Value.int .i64 (0 : Int)) (pure_assign rfl) rfl ?_
      refine wpS_nil ?_
      refine thn_normal ?_
      refine wpC_block_join (fun ρ w => ∃ (a2934 : Bool) (F2938 : Nat → Prop), St w0 F0 w F2938 ∧ ρ 1 = (Value.int .i64 p1_m) ∧ ρ 6 = (Value.bool a2736) ∧ ρ 7 = (Value.bool a2934) ∧ M.law42_RulingStayedMonth_k4 N p1_m a2736 a2934 = some r) ?_ ?_
      · skip
        obtain ⟨x3015, hL3016, hm3017⟩ := bind_some hm
        clear hm
        refine wpC_loop (fun (s : Bool × Int) ρ w => ∃ (a3005 : Bool) (a3006 : Int) (F3012 : Nat → Prop), (a3005, a3006) = s ∧ St w0 F0 w F3012 ∧ ρ 0 = vp0_l ∧ ρ 1 = (Value.int .i64 p1_m) ∧ ρ 6 = (Value.bool a2736) ∧ ρ 7 = (Value.bool a3005) ∧ ρ 9 = (Value.int .i64 a3006)) hL3016 ?_ ?_
        · exact ⟨false, (0 : Int), _, rfl, st2742, r2737, r2738, r2739, r2740, rfl⟩
        · skip
          rintro s ρ w y3018 ⟨a3005, a3006, F3012, rfl, st3013, r3007, r3008, r3009, r3010, r3011⟩ hm3019
          have hm : M.law42_RulingStayedMonth_k5 N p0_l p1_m a3005 a3006 = some y3018 := hm3019
          clear hm3019
          rw [M.law42_RulingStayedMonth_k5] at hm
          refine wpC_seq ?_
          refine wpC_seq ?_
          refine wpC_region ?_
          refine wpS_pure (Value.int .i64 a3006) (pure_move r3011) rfl ?_
          refine wpS_pure vp0_l (pure_move r3007) rfl ?_
          refine wpS_len (v := vp0_l) Try.underlying22 rfl ((hp0_l.step (st3013.step hF0))).reads rfl ?_
          refine wpS_pure (Value.bool (decide (a3006 < (p0_l.length : Int)))) (pure_lss rfl rfl) rfl ?_
          refine wpS_nil ?_
          refine thn_normal ?_
          by_cases hc3020 : (decide (a3006 < (p0_l.length : Int))) = true
          · rw [if_pos hc3020] at hm
            refine wpC_true (bval rfl hc3020) ?_
            refine wpC_skip ?_
            refine thn_normal ?_
            refine wpC_seq ?_
            refine wpC_block ?_
            refine wpC_region ?_
            refine wpS_pure (Value.bool a3005) (pure_move r3010) rfl ?_
            refine wpS_pure (Value.bool a3005) (pure_move rfl) rfl ?_
            by_cases hc3021 : a3005 = true
            · rw [if_pos hc3021] at hm
              refine wpS_off 52 rfl rfl (bval' rfl hc3021) (by decide) rfl ?_
              refine wpS_off 52 rfl rfl (bval' rfl hc3021) (by decide) rfl ?_
              refine wpS_off 52 rfl rfl (bval' rfl hc3021) (by decide) rfl ?_
              refine wpS_off 52 rfl rfl (bval' rfl hc3021) (by decide) rfl ?_
              refine wpS_off 52 rfl rfl (bval' rfl hc3021) (by decide) rfl ?_
              refine wpS_off 52 rfl rfl (bval' rfl hc3021) (by decide) rfl ?_
              refine wpS_offu 58 rfl rfl rfl rfl ?_
              refine wpS_offu 58 rfl rfl rfl rfl ?_
              refine wpS_offu 58 rfl rfl rfl rfl ?_
              refine wpS_offu 58 rfl rfl rfl rfl ?_
              refine wpS_offu 58 rfl rfl rfl rfl ?_
              refine wpS_offu 58 rfl rfl rfl rfl ?_
              refine wpS_off 52 rfl rfl (bval' rfl hc3021) (by decide) rfl ?_
              refine wpS_pure (Value.bool true) (pure_pick_true (bval rfl hc3021) rfl) rfl ?_
              refine wpS_pure (Value.bool true) (pure_assign rfl) rfl ?_
              refine wpS_nil ?_
              refine inB_normal ?_
              refine thn_normal ?_
              refine wpC_region ?_
              refine wpS_pure (Value.int .i64 a3006) (pure_move r3011) rfl ?_
              refine wpS_pure (Value.int .i64 (IntKind.i64.wrap (a3006 + (1 : Int)))) (pure_add rfl rfl) rfl ?_
              refine wpS_pure (Value.int .i64 (IntKind.i64.wrap (a3006 + (1 : Int)))) (pure_assign rfl) rfl ?_
              refine wpS_nil ?_
              obtain rfl := Option.some.inj hm
              refine loopQ_in ?_
              exact ⟨true, (IntKind.i64.wrap (a3006 + (1 : Int))), _, rfl, st3013, r3007, r3008, r3009, rfl, rfl⟩
            · rw [if_neg hc3021] at hm
              replace hc3021 := Bool.eq_false_iff.2 hc3021
              refine wpS_on 52 rfl rfl (bval' rfl hc3021) ?_
              refine wpS_pure vp0_l (pure_move r3007) rfl ?_
              refine wpS_on 52 rfl rfl (bval' rfl hc3021) ?_
              refine wpS_pure (Value.int .i64 a3006) (pure_move r3011) rfl ?_
              refine wpS_on 52 rfl rfl (bval' rfl hc3021) ?_
              obtain ⟨x3022, h3023, hm⟩ := bind_some hm
              try dsimp only at hm
              refine wpS_indexT (v := vp0_l) Try.underlying22 T30 rfl rfl ((hp0_l.step (st3013.step hF0))).reads h3023 rfl ?_
              intro b3024 o3025 ha3026
              refine wpS_on 52 rfl rfl (bval' rfl hc3021) ?_
              refine wpS_load_rowT Try.underlying30 rfl T30 rfl ha3026 rfl ?_
              intro es3027 hr3028
              refine wpS_on 52 rfl rfl (bval' rfl hc3021) ?_
              obtain ⟨y3029, h3030, hm⟩ := bind_some hm
              try dsimp only at hm
              refine wpS_call (vs := [(Value.agg es3027.toArray)]) Try.func12 nm12 bd12 (m_cons rfl m_nil) (M.ref42_Pending_walk N _ _ st3013.lt x3022 es3027 hr3028 y3029 h3030) rfl ?_
              rintro v3031 w3032 ⟨F3033, h3034, hv3035⟩
              have h3036 := h3034.narrow st3013.lt
              have st3037 := st3013.trans h3036
              obtain rfl := hv3035
              refine wpS_on 52 rfl rfl (bval' rfl hc3021) ?_
              refine wpS_pure (Value.bool y3029) (pure_move rfl) rfl ?_
              by_cases hc3038 : y3029 = true
              · rw [if_pos hc3038] at hm
                refine wpS_on 58 rfl rfl (bval' rfl hc3038) ?_
                refine wpS_pure vp0_l (pure_move r3007) rfl ?_
                refine wpS_on 58 rfl rfl (bval' rfl hc3038) ?_
                refine wpS_pure (Value.int .i64 a3006) (pure_move r3011) rfl ?_
                refine wpS_on 58 rfl rfl (bval' rfl hc3038) ?_
                obtain ⟨x3039, h3040, hm⟩ := bind_some hm
                try dsimp only at hm
                refine wpS_indexT (v := vp0_l) Try.underlying22 T30 rfl rfl ((hp0_l.step (st3037.step hF0))).reads h3040 rfl ?_
                intro b3041 o3042 ha3043
                refine wpS_on 58 rfl rfl (bval' rfl hc3038) ?_
                refine wpS_load_rowT Try.underlying30 rfl T30 rfl ha3043 rfl ?_
                intro es3044 hr3045
                refine wpS_on 58 rfl rfl (bval' rfl hc3038) ?_
                refine wpS_pure (Value.int .i64 p1_m) (pure_move r3008) rfl ?_
                refine wpS_on 58 rfl rfl (bval' rfl hc3038) ?_
                obtain ⟨y3046, h3047, hm⟩ := bind_some hm
                try dsimp only at hm
                refine wpS_call (vs := [(Value.agg es3044.toArray), (Value.int .i64 p1_m)]) Try.func13 nm13 bd13 (m_cons rfl (m_cons rfl m_nil)) (M.ref42_Covers_walk N _ _ st3037.lt x3039 es3044 hr3045 p1_m y3046 h3047) rfl ?_
                rintro v3048 w3049 ⟨F3050, h3051, hv3052⟩
                have h3053 := h3051.narrow st3037.lt
                have st3054 := st3037.trans h3053
                obtain rfl := hv3052
                refine wpS_on 52 rfl rfl (bval' rfl hc3021) ?_
                refine wpS_pure (Value.bool y3046) (pure_pick_true (bval rfl hc3038) rfl) rfl ?_
                refine wpS_pure (Value.bool y3046) (pure_pick_false (bval rfl hc3021) rfl) rfl ?_
                refine wpS_pure (Value.bool y3046) (pure_assign rfl) rfl ?_
                refine wpS_nil ?_
                refine inB_normal ?_
                refine thn_normal ?_
                refine wpC_region ?_
                refine wpS_pure (Value.int .i64 a3006) (pure_move r3011) rfl ?_
                refine wpS_pure (Value.int .i64 (IntKind.i64.wrap (a3006 + (1 : Int)))) (pure_add rfl rfl) rfl ?_
                refine wpS_pure (Value.int .i64 (IntKind.i64.wrap (a3006 + (1 : Int)))) (pure_assign rfl) rfl ?_
                refine wpS_nil ?_
                obtain rfl := Option.some.inj hm
                refine loopQ_in ?_
                exact ⟨y3046, (IntKind.i64.wrap (a3006 + (1 : Int))), _, rfl, st3054, r3007, r3008, r3009, rfl, rfl⟩
              · rw [if_neg hc3038] at hm
                replace hc3038 := Bool.eq_false_iff.2 hc3038
                refine wpS_off 58 rfl rfl (bval' rfl hc3038) (by decide) rfl ?_
                refine wpS_off 58 rfl rfl (bval' rfl hc3038) (by decide) rfl ?_
                refine wpS_off 58 rfl rfl (bval' rfl hc3038) (by decide) rfl ?_
                refine wpS_off 58 rfl rfl (bval' rfl hc3038) (by decide) rfl ?_
                refine wpS_off 58 rfl rfl (bval' rfl hc3038) (by decide) rfl ?_
                refine wpS_off 58 rfl rfl (bval' rfl hc3038) (by decide) rfl ?_
                refine wpS_on 52 rfl rfl (bval' rfl hc3021) ?_
                refine wpS_pure (Value.bool false) (pure_pick_false (bval rfl hc3038) rfl) rfl ?_
                refine wpS_pure (Value.bool false) (pure_pick_false (bval rfl hc3021) rfl) rfl ?_
                refine wpS_pure (Value.bool false) (pure_assign rfl) rfl ?_
                refine wpS_nil ?_
                refine inB_normal ?_
                refine thn_normal ?_
                refine wpC_region ?_
                refine wpS_pure (Value.int .i64 a3006) (pure_move r3011) rfl ?_
                refine wpS_pure (Value.int .i64 (IntKind.i64.wrap (a3006 + (1 : Int)))) (pure_add rfl rfl) rfl ?_
                refine wpS_pure (Value.int .i64 (IntKind.i64.wrap (a3006 + (1 : Int)))) (pure_assign rfl) rfl ?_
                refine wpS_nil ?_
                obtain rfl := Option.some.inj hm
                refine loopQ_in ?_
                exact ⟨false, (IntKind.i64.wrap (a3006 + (1 : Int))), _, rfl, st3037, r3007, r3008, r3009, rfl, rfl⟩
          · rw [if_neg hc3020] at hm
            replace hc3020 := Bool.eq_false_iff.2 hc3020
            refine wpC_false (bval rfl hc3020) ?_
            refine wpC_exit ?_
            refine thn_exit ?_
            obtain rfl := Option.some.inj hm
            refine loopQ_exit (fun hx => ?_)
            subst hx
            have hm3055 : M.law42_RulingStayedMonth_k4 N p1_m a2736 a3005 = some r := hm3017
            refine joinQ_same ?_
            exact ⟨a3005, _, st3013, r3008, r3009, r3010, hm3055⟩
      · skip
        rintro ρ w ⟨a2934, F2938, st2939, r2935, r2936, r2937, hm⟩
        rw [M.law42_RulingStayedMonth_k4] at hm
        refine thn_normal ?_
        refine wpC_seq ?_
        refine wpC_region ?_
        refine wpS_pure (Value.bool a2736) (pure_move r2936) rfl ?_
        refine wpS_pure (Value.bool a2934) (pure_move r2937) rfl ?_
        refine wpS_pure (Value.bool a2934) (pure_move rfl) rfl ?_
        by_cases hc3056 : a2934 = true
        · rw [if_pos hc3056] at hm
          refine wpS_on 69 rfl rfl (bval' rfl hc3056) ?_
          refine wpS_pure (Value.int .i64 p1_m) (pure_move r2935) rfl ?_
          refine wpS_on 69 rfl rfl (bval' rfl hc3056) ?_
          refine wpS_pure (Value.bool (decide ((0 : Int) ≤ p1_m))) (pure_geq rfl rfl) rfl ?_
          refine wpS_pure (Value.bool (decide ((0 : Int) ≤ p1_m))) (pure_pick_true (bval rfl hc3056) rfl) rfl ?_
          refine wpS_pure (Value.bool (decide ((0 : Int) ≤ p1_m))) (pure_move rfl) rfl ?_
          by_cases hc3057 : (decide ((0 : Int) ≤ p1_m)) = true
          · rw [if_pos hc3057] at hm
            refine wpS_on 73 rfl rfl (bval' rfl hc3057) ?_
            refine wpS_pure (Value.int .i64 p1_m) (pure_move r2935) rfl ?_
            refine wpS_on 73 rfl rfl (bval' rfl hc3057) ?_
            refine wpS_pure (Value.bool (decide (p1_m ≤ (3599 : Int)))) (pure_leq rfl rfl) rfl ?_
            refine wpS_pure (Value.bool (decide (p1_m ≤ (3599 : Int)))) (pure_pick_true (bval rfl hc3057) rfl) rfl ?_
            refine wpS_pure (Value.bool (decide (a2736 = (decide (p1_m ≤ (3599 : Int)))))) (pure_eqlb Try.underlying4 rfl rfl) rfl ?_
            refine wpS_pure (Value.bool (decide (a2736 = (decide (p1_m ≤ (3599 : Int)))))) (pure_move rfl) rfl ?_
            by_cases hc3058 : (decide (a2736 = (decide (p1_m ≤ (3599 : Int))))) = true
            · rw [if_pos hc3058] at hm
              refine wpS_on 78 rfl rfl (bval' rfl hc3058) ?_
              obtain ⟨y3059, h3060, hm⟩ := bind_some hm
              try dsimp only at hm
              refine wpS_call (vs := []) Try.func8 nm8 bd8 m_nil (M.law42_awake_walk N _ _ st2939.lt y3059 h3060) rfl ?_
              rintro v3061 w3062 ⟨F3063, h3064, hv3065⟩
              have h3066 := h3064.narrow st2939.lt
              have st3067 := st2939.trans h3066
              obtain rfl := hv3065
              refine wpS_pure (Value.bool y3059) (pure_pick_true (bval rfl hc3058) rfl) rfl ?_
              refine wpS_pure (Value.bool y3059) (pure_assign rfl) rfl ?_
              refine wpS_nil ?_
              refine thn_normal ?_
              refine wpC_ret ?_
              obtain rfl := Option.some.inj hm
              refine bodyQ_ret1 Try.results4 (Value.bool y3059) rfl ?_
              exact ⟨_, st3067, rfl⟩
            · rw [if_neg hc3058] at hm
              replace hc3058 := Bool.eq_false_iff.2 hc3058
              refine wpS_off 78 rfl rfl (bval' rfl hc3058) (by decide) rfl ?_
              refine wpS_pure (Value.bool false) (pure_pick_false (bval rfl hc3058) rfl) rfl ?_
              refine wpS_pure (Value.bool false) (pure_assign rfl) rfl ?_
              refine wpS_nil ?_
              refine thn_normal ?_
              refine wpC_ret ?_
              obtain rfl := Option.some.inj hm
              refine bodyQ_ret1 Try.results4 (Value.bool false) rfl ?_
              exact ⟨_, st2939, rfl⟩
          · rw [if_neg hc3057] at hm
            replace hc3057 := Bool.eq_false_iff.2 hc3057
            refine wpS_off 73 rfl rfl (bval' rfl hc3057) (by decide) rfl ?_
            refine wpS_off 73 rfl rfl (bval' rfl hc3057) (by decide) rfl ?_
            refine wpS_pure (Value.bool false) (pure_pick_false (bval rfl hc3057) rfl) rfl ?_
            refine wpS_pure (Value.bool (decide (a2736 = false))) (pure_eqlb Try.underlying4 rfl rfl) rfl ?_
            refine wpS_pure (Value.bool (decide (a2736 = false))) (pure_move rfl) rfl ?_
            by_cases hc3068 : (decide (a2736 = false)) = true
            · rw [if_pos hc3068] at hm
              refine wpS_on 78 rfl rfl (bval' rfl hc3068) ?_
              obtain ⟨y3069, h3070, hm⟩ := bind_some hm
              try dsimp only at hm
              refine wpS_call (vs := []) Try.func8 nm8 bd8 m_nil (M.law42_awake_walk N _ _ st2939.lt y3069 h3070) rfl ?_
              rintro v3071 w3072 ⟨F3073, h3074, hv3075⟩
              have h3076 := h3074.narrow st2939.lt
              have st3077 := st2939.trans h3076
              obtain rfl := hv3075
              refine wpS_pure (Value.bool y3069) (pure_pick_true (bval rfl hc3068) rfl) rfl ?_
              refine wpS_pure (Value.bool y3069) (pure_assign rfl) rfl ?_
              refine wpS_nil ?_
              refine thn_normal ?_
              refine wpC_ret ?_
              obtain rfl := Option.some.inj hm
              refine bodyQ_ret1 Try.results4 (Value.bool y3069) rfl ?_
              exact ⟨_, st3077, rfl⟩
            · rw [if_neg hc3068] at hm
              replace hc3068 := Bool.eq_false_iff.2 hc3068
              refine wpS_off 78 rfl rfl (bval' rfl hc3068) (by decide) rfl ?_
              refine wpS_pure (Value.bool false) (pure_pick_false (bval rfl hc3068) rfl) rfl ?_
              refine wpS_pure (Value.bool false) (pure_assign rfl) rfl ?_
              refine wpS_nil ?_
              refine thn_normal ?_
              refine wpC_ret ?_
              obtain rfl := Option.some.inj hm
              refine bodyQ_ret1 Try.results4 (Value.bool false) rfl ?_
              exact ⟨_, st2939, rfl⟩
        · rw [if_neg hc3056] at hm
          replace hc3056 := Bool.eq_false_iff.2 hc3056
          refine wpS_off 69 rfl rfl (bval' rfl hc3056) (by decide) rfl ?_
          refine wpS_off 69 rfl rfl (bval' rfl hc3056) (by decide) rfl ?_
          refine wpS_pure (Value.bool false) (pure_pick_false (bval rfl hc3056) rfl) rfl ?_
          refine wpS_pure (Value.bool false) (pure_move rfl) rfl ?_
          refine wpS_off 73 rfl rfl rfl (by decide) rfl ?_
          refine wpS_off 73 rfl rfl rfl (by decide) rfl ?_
          refine wpS_pure (Value.bool false) (pure_pick_false rfl rfl) rfl ?_
          refine wpS_pure (Value.bool (decide (a2736 = false))) (pure_eqlb Try.underlying4 rfl rfl) rfl ?_
          refine wpS_pure (Value.bool (decide (a2736 = false))) (pure_move rfl) rfl ?_
          by_cases hc3078 : (decide (a2736 = false)) = true
          · rw [if_pos hc3078] at hm
            refine wpS_on 78 rfl rfl (bval' rfl hc3078) ?_
            obtain ⟨y3079, h3080, hm⟩ := bind_some hm
            try dsimp only at hm
            refine wpS_call (vs := []) Try.func8 nm8 bd8 m_nil (M.law42_awake_walk N _ _ st2939.lt y3079 h3080) rfl ?_
            rintro v3081 w3082 ⟨F3083, h3084, hv3085⟩
            have h3086 := h3084.narrow st2939.lt
            have st3087 := st2939.trans h3086
            obtain rfl := hv3085
            refine wpS_pure (Value.bool y3079) (pure_pick_true (bval rfl hc3078) rfl) rfl ?_
            refine wpS_pure (Value.bool y3079) (pure_assign rfl) rfl ?_
            refine wpS_nil ?_
            refine thn_normal ?_
            refine wpC_ret ?_
            obtain rfl := Option.some.inj hm
            refine bodyQ_ret1 Try.results4 (Value.bool y3079) rfl ?_
            exact ⟨_, st3087, rfl⟩
          · rw [if_neg hc3078] at hm
            replace hc3078 := Bool.eq_false_iff.2 hc3078
            refine wpS_off 78 rfl rfl (bval' rfl hc3078) (by decide) rfl ?_
            refine wpS_pure (Value.bool false) (pure_pick_false (bval rfl hc3078) rfl) rfl ?_
            refine wpS_pure (Value.bool false) (pure_assign rfl) rfl ?_
            refine wpS_nil ?_
            refine thn_normal ?_
            refine wpC_ret ?_
            obtain rfl := Option.some.inj hm
            refine bodyQ_ret1 Try.results4 (Value.bool false) rfl ?_
            exact ⟨_, st2939, rfl⟩

set_option maxRecDepth 100000 in
set_option maxHeartbeats 1000000 in
theorem M.ref42_Granted_walk (N : Nat) (w0 : World) (F0 : Nat → Prop) (hF0 : ∀ b, F0 b → b < w0.heap.size) (p0_l : List rAppeal.den) (vp0_l : Value) (hp0_l : Rep F0 w0 (Row.slice rAppeal) [vp0_l] p0_l) (p1_m : Int) (r : Int × Bool) (hm : M.ref42_Granted N p0_l p1_m = some r) :
    Calls Try.prog 15 [vp0_l, (Value.int .i64 p1_m)].toArray w0 fun e w => ∃ v, e = .returned v ∧ ∃ F, St w0 F0 w F ∧ ∃ u0 u1, v = .tuple #[u0, u1] ∧ (u0 = (Value.int .i64 r.1)) ∧ (u1 = (Value.bool r.2)) := by
  refine calls_of_wpC Try.func15 rfl (Nat.le_of_ble_eq_true rfl) ?_
  intro ρ hρ
  have st0 := St.refl hF0
  rw [M.ref42_Granted] at hm
  refine wpC_seq ?_
  refine wpC_region ?_
  refine wpS_pure (Value.int .i64 (0 : Int)) (pure_assign rfl) rfl ?_
  refine wpS_pure (Value.bool false) (pure_assign rfl) rfl ?_
  refine wpS_nil ?_
  refine thn_normal ?_
  refine wpC_seq ?_
  refine wpC_seq ?_
  refine wpC_region ?_
  refine wpS_pure vp0_l (pure_move (hρ 0 _ rfl)) rfl ?_
  refine wpS_len (v := vp0_l) Try.underlying22 rfl ((hp0_l.step (st0.step hF0))).reads rfl ?_
  refine wpS_pure (Value.int .i64 (IntKind.i64.wrap ((p0_l.length : Int) - (1 : Int)))) (pure_sub rfl rfl) rfl ?_
  refine wpS_pure (Value.int .i64 (IntKind.i64.wrap ((p0_l.length : Int) - (1 : Int)))) (pure_assign rfl) rfl ?_
  refine wpS_nil ?_
  refine thn_normal ?_
  refine wpC_block_join (fun ρ w => ∃ (F3220 : Nat → Prop), St w0 F0 w F3220 ∧ M.ref42_Granted_k1 N = some r) ?_ ?_
  · skip
    obtain ⟨x3286, hL3287, hm3288⟩ := bind_some hm
    clear hm
    refine wpC_loop (fun (s : Int) ρ w => ∃ (a3279 : Int) (F3283 : Nat → Prop), a3279 = s ∧ St w0 F0 w F3283 ∧ ρ 0 = vp0_l ∧ ρ 1 = (Value.int .i64 p1_m) ∧ ρ 6 = (Value.int .i64 a3279)) hL3287 ?_ ?_
    · exact ⟨(IntKind.i64.wrap ((p0_l.length : Int) - (1 : Int))), _, rfl, st0, (hρ 0 _ rfl), (hρ 1 _ rfl), rfl⟩
    · skip
      rintro s ρ w y3291 ⟨a3279, F3283, rfl, st3284, r3280, r3281, r3282⟩ hm3292
      have hm : M.ref42_Granted_k2 N p0_l p1_m a3279 = some y3291 := hm3292
      clear hm3292
      rw [M.ref42_Granted_k2] at hm
      refine wpC_seq ?_
      refine wpC_seq ?_
      refine wpC_region ?_
      refine wpS_pure (Value.int .i64 a3279) (pure_move r3282) rfl ?_
      refine wpS_pure (Value.bool (decide ((0 : Int) ≤ a3279))) (pure_geq rfl rfl) rfl ?_
      refine wpS_nil ?_
      refine thn_normal ?_
      by_cases hc3293 : (decide ((0 : Int) ≤ a3279)) = true
      · rw [if_pos hc3293] at hm
        refine wpC_true (bval rfl hc3293) ?_
        refine wpC_skip ?_
        refine thn_normal ?_
        refine wpC_seq ?_
        refine wpC_block ?_
        refine wpC_seq_join (fun ρ w => ∃ (a3316 : Bool) (F3321 : Nat → Prop), St w0 F0 w F3321 ∧ ρ 0 = vp0_l ∧ ρ 1 = (Value.int .i64 p1_m) ∧ ρ 6 = (Value.int .i64 a3279) ∧ ρ 27 = (Value.bool a3316) ∧ M.ref42_Granted_k3 N p0_l a3279 a3316 = some y3291) ?_ ?_
        · skip
          refine wpC_region ?_
          refine wpS_pure vp0_l (pure_move r3280) rfl ?_
          refine wpS_pure (Value.int .i64 a3279) (pure_move r3282) rfl ?_
          obtain ⟨x3324, h3325, hm⟩ := bind_some hm
          try dsimp only at hm
          refine wpS_indexT (v := vp0_l) Try.underlying22 T30 rfl rfl ((hp0_l.step (st3284.step hF0))).reads h3325 rfl ?_
          intro b3326 o3327 ha3328
          have ha3329 : At _ _ rInt b3326 (o3327 + 5) (x3324.2.2.2.2.2.1) := ha3328.path (.snd (.snd (.snd (.snd (.snd (.fst (.here))))))) 5 rfl
          refine wpS_pure (Value.pointer (some ⟨b3326, o3327 + 5, none⟩)) (pure_fieldT 5 Try.underlying30 rfl T3 rfl rfl) rfl ?_
          refine wpS_load_int Try.underlying3 rfl rfl ha3329 rfl ?_
          refine wpS_pure (Value.bool (decide (x3324.2.2.2.2.2.1 = (3 : Int)))) (pure_eql rfl rfl) rfl ?_
          refine wpS_pure (Value.bool (decide (x3324.2.2.2.2.2.1 = (3 : Int)))) (pure_move rfl) rfl ?_
          by_cases hc3330 : (decide (x3324.2.2.2.2.2.1 = (3 : Int))) = true
          · rw [if_pos hc3330] at hm
            refine wpS_on 20 rfl rfl (bval' rfl hc3330) ?_
            refine wpS_pure vp0_l (pure_move r3280) rfl ?_
            refine wpS_on 20 rfl rfl (bval' rfl hc3330) ?_
            refine wpS_pure (Value.int .i64 a3279) (pure_move r3282) rfl ?_
            refine wpS_on 20 rfl rfl (bval' rfl hc3330) ?_
            obtain ⟨x3331, h3332, hm⟩ := bind_some hm
            try dsimp only at hm
            refine wpS_indexT (v := vp0_l) Try.underlying22 T30 rfl rfl ((hp0_l.step (st3284.step hF0))).reads h3332 rfl ?_
            intro b3333 o3334 ha3335
            refine wpS_on 20 rfl rfl (bval' rfl hc3330) ?_
            refine wpS_load_rowT Try.underlying30 rfl T30 rfl ha3335 rfl ?_
            intro es3336 hr3337
            refine wpS_on 20 rfl rfl (bval' rfl hc3330) ?_
            refine wpS_pure (Value.int .i64 p1_m) (pure_move r3281) rfl ?_
            refine wpS_on 20 rfl rfl (bval' rfl hc3330) ?_
            obtain ⟨y3338, h3339, hm⟩ := bind_some hm
            try dsimp only at hm
            refine wpS_call (vs := [(Value.agg es3336.toArray), (Value.int .i64 p1_m)]) Try.func13 nm13 bd13 (m_cons rfl (m_cons rfl m_nil)) (M.ref42_Covers_walk N _ _ st3284.lt x3331 es3336 hr3337 p1_m y3338 h3339) rfl ?_
            rintro v3340 w3341 ⟨F3342, h3343, hv3344⟩
            have h3345 := h3343.narrow st3284.lt
            have st3346 := st3284.trans h3345
            obtain rfl := hv3344
            refine wpS_pure (Value.bool y3338) (pure_pick_true (bval rfl hc3330) rfl) rfl ?_
            refine wpS_nil ?_
            refine thn_normal ?_
            exact ⟨y3338, _, st3346, r3280, r3281, r3282, rfl, hm⟩
          · rw [if_neg hc3330] at hm
            replace hc3330 := Bool.eq_false_iff.2 hc3330
            refine wpS_off 20 rfl rfl (bval' rfl hc3330) (by decide) rfl ?_
            refine wpS_off 20 rfl rfl (bval' rfl hc3330) (by decide) rfl ?_
            refine wpS_off 20 rfl rfl (bval' rfl hc3330) (by decide) rfl ?_
            refine wpS_off 20 rfl rfl (bval' rfl hc3330) (by decide) rfl ?_
            refine wpS_off 20 rfl rfl (bval' rfl hc3330) (by decide) rfl ?_
            refine wpS_off 20 rfl rfl (bval' rfl hc3330) (by decide) rfl ?_
            refine wpS_pure (Value.bool false) (pure_pick_false (bval rfl hc3330) rfl) rfl ?_
            refine wpS_nil ?_
            refine thn_normal ?_
            exact ⟨false, _, st3284, r3280, r3281, r3282, rfl, hm⟩
        · skip
          rintro ρ w ⟨a3316, F3321, st3322, r3317, r3318, r3319, r3320, hm⟩
          rw [M.ref42_Granted_k3] at hm
          by_cases hc3347 : a3316 = true
          · rw [if_pos hc3347] at hm
            refine wpC_true (bval r3320 hc3347) ?_
            refine wpC_seq ?_
            refine wpC_region ?_
            refine wpS_pure vp0_l (pure_move r3317) rfl ?_
            refine wpS_pure (Value.int .i64 a3279) (pure_move r3319) rfl ?_
            obtain ⟨x3348, h3349, hm⟩ := bind_some hm
            try dsimp only at hm
            refine wpS_indexT (v := vp0_l) Try.underlying22 T30 rfl rfl ((hp0_l.step (st3322.step hF0))).reads h3349 rfl ?_
            intro b3350 o3351 ha3352
            have ha3353 : At _ _ rInt b3350 (o3351 + 6) (x3348.2.2.2.2.2.2) := ha3352.path (.snd (.snd (.snd (.snd (.snd (.snd (.here))))))) 6 rfl
            refine wpS_pure (Value.pointer (some ⟨b3350, o3351 + 6, none⟩)) (pure_fieldT 6 Try.underlying30 rfl T3 rfl rfl) rfl ?_
            refine wpS_load_int Try.underlying3 rfl rfl ha3353 rfl ?_
            refine wpS_pure (Value.int .i64 x3348.2.2.2.2.2.2) (pure_assign rfl) rfl ?_
            refine wpS_pure (Value.bool true) (pure_assign rfl) rfl ?_
            refine wpS_nil ?_
            refine thn_normal ?_
            refine wpC_ret ?_
            refine inB_ret ?_
            refine thn_ret ?_
            obtain rfl := Option.some.inj hm
            refine loopQ_ret (fun hx => ?_)
            subst hx
            have hm3354 : some ((x3348.2.2.2.2.2.2, true)) = some r := hm3288
            refine joinQ_ret ?_
            refine thn_ret ?_
            obtain rfl := Option.some.inj hm3354
            refine bodyQ_ret2 Try.results15 (Value.int .i64 x3348.2.2.2.2.2.2) (Value.bool true) rfl rfl ?_
            exact ⟨_, st3322, _, _, rfl, rfl, rfl⟩
          · rw [if_neg hc3347] at hm
            replace hc3347 := Bool.eq_false_iff.2 hc3347
            refine wpC_false (bval r3320 hc3347) ?_
            refine wpC_skip ?_
            refine inB_normal ?_
            refine thn_normal ?_
            refine wpC_region ?_
            refine wpS_pure (Value.int .i64 a3279) (pure_move r3319) rfl ?_
            refine wpS_pure (Value.int .i64 (IntKind.i64.wrap (a3279 - (1 : Int)))) (pure_sub rfl rfl) rfl ?_
            refine wpS_pure (Value.int .i64 (IntKind.i64.wrap (a3279 - (1 : Int)))) (pure_assign rfl) rfl ?_
            refine wpS_nil ?_
            obtain rfl := Option.some.inj hm
            refine loopQ_in ?_
            exact ⟨(IntKind.i64.wrap (a3279 - (1 : Int))), _, rfl, st3322, r3317, r3318, rfl⟩
      · rw [if_neg hc3293] at hm
        replace hc3293 := Bool.eq_false_iff.2 hc3293
        refine wpC_false (bval rfl hc3293) ?_
        refine wpC_exit ?_
        refine thn_exit ?_
        obtain rfl := Option.some.inj hm
        refine loopQ_exit (fun hx => ?_)
        subst hx
        have hm3355 : M.ref42_Granted_k1 N = some r := hm3288
        refine joinQ_same ?_
        exact ⟨_, st3284, hm3355⟩
  · skip
    rintro ρ w ⟨F3220, st3221, hm⟩
    rw [M.ref42_Granted_k1] at hm
    refine thn_normal ?_
    refine wpC_seq ?_
    refine wpC_region ?_
    refine wpS_pure (Value.int .i64 (0 : Int)) (pure_assign rfl) rfl ?_
    refine wpS_pure (Value.bool false) (pure_assign rfl) rfl ?_
    refine wpS_nil ?_
    refine thn_normal ?_
    refine wpC_ret ?_
    obtain rfl := Option.some.inj hm
    refine bodyQ_ret2 Try.results15 (Value.int .i64 (0 : Int)) (Value.bool false) rfl rfl ?_
    exact ⟨_, st3221, _, _, rfl, rfl, rfl⟩

set_option maxRecDepth 100000 in
set_option maxHeartbeats 1000000 in
theorem M.ref42_Apply_walk (N : Nat) (w0 : World) (F0 : Nat → Prop) (hF0 : ∀ b, F0 b → b < w0.heap.size) (p0_a : List rAward.den) (vp0_a : Value) (hp0_a : Rep F0 w0 (Row.slice rAward) [vp0_a] p0_a) (p1_l : List rAppeal.den) (vp1_l : Value) (hp1_l : Rep F0 w0 (Row.slice rAppeal) [vp1_l] p1_l) (r : List rAward.den) (hm : M.ref42_Apply N p0_a p1_l = some r) :
    Calls Try.prog 18 [vp0_a, vp1_l].toArray w0 fun e w => ∃ v, e = .returned v ∧ ∃ F, St w0 F0 w F ∧ Own w0.heap.size F w 42 rAward v r ∧ ∀ k, mine v k → w0.heap.size ≤ k := by
  refine calls_of_wpC Try.func18 rfl (Nat.le_of_ble_eq_true rfl) ?_
  intro ρ hρ
  have st0 := St.refl hF0
  rw [M.ref42_Apply] at hm
  refine wpC_seq ?_
  refine wpC_region ?_
  refine wpS_pure (Value.slice none 0 0) (pure_assign rfl) rfl ?_
  refine wpS_nil ?_
  refine thn_normal ?_
  refine wpC_seq ?_
  refine wpC_region ?_
  refine wpS_pure (Value.slice none 0 0) (pure_assign rfl) rfl ?_
  refine wpS_nil ?_
  refine thn_normal ?_
  refine wpC_seq ?_
  refine wpC_seq ?_
  refine wpC_region ?_
  refine wpS_pure (Value.int .i64 (0 : Int)) (pure_assign rfl) rfl ?_
  refine wpS_nil ?_
  refine thn_normal ?_
  refine wpC_block_join (fun ρ w => ∃ (a3640 : List rAward.den) (F3644 : Nat → Prop) (v3639 : Value), St w0 F0 w F3644 ∧ Own w0.heap.size F3644 w 42 rAward v3639 a3640 ∧ ρ 5 = v3639 ∧ M.ref42_Apply_k1 N a3640 = some r) ?_ ?_
  · skip
    obtain ⟨x3853, hL3854, hm3855⟩ := bind_some hm
    clear hm
    refine wpC_loop (fun (s : List rAward.den × Int) ρ w => ∃ (a3842 : List rAward.den) (a3845 : Int) (F3850 : Nat → Prop) (v3841 : Value), (a3842, a3845) = s ∧ St w0 F0 w F3850 ∧ Own w0.heap.size F3850 w 42 rAward v3841 a3842 ∧ ρ 0 = vp0_a ∧ ρ 1 = vp1_l ∧ ρ 5 = v3841 ∧ ρ 6 = (Value.int .i64 a3845)) hL3854 ?_ ?_
    · exact ⟨[], (0 : Int), _, (Value.slice none 0 0), rfl, st0, (Own.nil _ _ _ _ _), (hρ 0 _ rfl), (hρ 1 _ rfl), rfl, rfl⟩
    · skip
      rintro s ρ w y3856 ⟨a3842, a3845, F3850, v3841, rfl, st3851, ho3844, r3846, r3847, r3848, r3849⟩ hm3857
      have hm : M.ref42_Apply_k2 N p0_a p1_l a3842 a3845 = some y3856 := hm3857
      clear hm3857
      rw [M.ref42_Apply_k2] at hm
      refine wpC_seq ?_
      refine wpC_seq ?_
      refine wpC_region ?_
      refine wpS_pure (Value.int .i64 a3845) (pure_move r3849) rfl ?_
      refine wpS_pure vp0_a (pure_move r3846) rfl ?_
      refine wpS_len (v := vp0_a) Try.underlying33 rfl ((hp0_a.step (st3851.step hF0))).reads rfl ?_
      refine wpS_pure (Value.bool (decide (a3845 < (p0_a.length : Int)))) (pure_lss rfl rfl) rfl ?_
      refine wpS_nil ?_
      refine thn_normal ?_
      by_cases hc3858 : (decide (a3845 < (p0_a.length : Int))) = true
      · rw [if_pos hc3858] at hm
        refine wpC_true (bval rfl hc3858) ?_
        refine wpC_skip ?_
        refine thn_normal ?_
        refine wpC_seq ?_
        refine wpC_block ?_
        refine wpC_seq ?_
        refine wpC_region ?_
        refine wpS_pure vp1_l (pure_move r3847) rfl ?_
        refine wpS_pure vp0_a (pure_move r3846) rfl ?_
        refine wpS_pure (Value.int .i64 a3845) (pure_move r3849) rfl ?_
        obtain ⟨x3859, h3860, hm⟩ := bind_some hm
        try dsimp only at hm
        refine wpS_indexT (v := vp0_a) Try.underlying33 T42 rfl rfl ((hp0_a.step (st3851.step hF0))).reads h3860 rfl ?_
        intro b3861 o3862 ha3863
        have ha3864 : At _ _ rInt b3861 (o3862 + 0) (x3859.1) := ha3863.path (.fst (.here)) 0 rfl
        refine wpS_pure (Value.pointer (some ⟨b3861, o3862 + 0, none⟩)) (pure_fieldT 0 Try.underlying42 rfl T3 rfl rfl) rfl ?_
        refine wpS_load_int Try.underlying3 rfl rfl ha3864 rfl ?_
        obtain ⟨y3865, h3866, hm⟩ := bind_some hm
        try dsimp only at hm
        refine wpS_call (vs := [vp1_l, (Value.int .i64 x3859.1)]) Try.func15 nm15 bd15 (m_cons rfl (m_cons rfl m_nil)) (M.ref42_Granted_walk N _ _ st3851.lt p1_l vp1_l (hp1_l.step (st3851.step hF0)) x3859.1 y3865 h3866) rfl ?_
        rintro v3867 w3868 ⟨F3869, h3870, hv3871⟩
        have h3872 := h3870.narrow st3851.lt
        have st3873 := st3851.trans h3872
        obtain ⟨v3874, v3875, rfl, hv3876, hv3877⟩ := hv3871
        obtain rfl := hv3876
        obtain rfl := hv3877
        refine wpS_pure (Value.tuple #[(Value.int .i64 y3865.1), (Value.bool y3865.2)]) (pure_move rfl) rfl ?_
        refine wpS_pure (Value.int .i64 y3865.1) (pure_extract rfl rfl) rfl ?_
        refine wpS_pure (Value.bool y3865.2) (pure_extract rfl rfl) rfl ?_
        refine wpS_pure (Value.int .i64 y3865.1) (pure_assign rfl) rfl ?_
        refine wpS_pure (Value.bool y3865.2) (pure_assign rfl) rfl ?_
        refine wpS_nil ?_
        refine thn_normal ?_
        refine wpC_seq ?_
        refine wpC_region ?_
        refine wpS_pure (Value.bool y3865.2) (pure_move rfl) rfl ?_
        refine wpS_nil ?_
        refine thn_normal ?_
        by_cases hc3878 : y3865.2 = true
        · rw [if_pos hc3878] at hm
          refine wpC_true (bval rfl hc3878) ?_
          refine wpC_region ?_
          refine wpS_pure v3841 (pure_move r3848) rfl ?_
          refine wpS_pure vp0_a (pure_move r3846) rfl ?_
          refine wpS_pure (Value.int .i64 a3845) (pure_move r3849) rfl ?_
          obtain ⟨x3879, h3880, hm⟩ := bind_some hm
          try dsimp only at hm
          refine wpS_indexT (v := vp0_a) Try.underlying33 T42 rfl rfl ((hp0_a.step (st3873.step hF0))).reads h3880 rfl ?_
          intro b3881 o3882 ha3883
          have ha3884 : At _ _ rInt b3881 (o3882 + 0) (x3879.1) := ha3883.path (.fst (.here)) 0 rfl
          refine wpS_pure (Value.pointer (some ⟨b3881, o3882 + 0, none⟩)) (pure_fieldT 0 Try.underlying42 rfl T3 rfl rfl) rfl ?_
          refine wpS_load_int Try.underlying3 rfl rfl ha3884 rfl ?_
          refine wpS_pure (Value.int .i64 y3865.1) (pure_move rfl) rfl ?_
          refine wpS_structT (r := rAward) (qs := [(0, .tmp 31), (1, .tmp 32)]) (vs := [(Value.int .i64 x3879.1), (Value.int .i64 y3865.1)]) (a := (x3879.1, y3865.1, (0 : Int))) st3873.lt Try.underlying42 T42 (pl42 _) (q_cons rfl (q_cons rfl q_nil)) (Bld.cons (.fst (.here)) rfl rfl rfl rfl rfl (Bld.cons (.snd (.fst (.here))) rfl rfl rfl rfl rfl Bld.nil)) rfl ?_
          intro es3885 hr3886
          refine wpS_oneT (base := w0.heap.size) (v := (Value.agg es3885.toArray)) Try.underlying33 T42 rfl rfl rfl hr3886 st3873.lt st3873.below.size rfl ?_
          intro v3887 w3888 h3889 ho3890 hn3891
          have st3892 := st3873.trans h3889
          obtain ⟨l3894, h3895, hm⟩ := bind_some hm
          try dsimp only at hm
          refine wpS_appendT (v := v3841) (u := v3887) Try.underlying33 T42 rfl rfl ((ho3844.st st3851.lt h3872).st st3873.lt h3889) (ho3890).reads h3895 st3892.lt st3892.below.size rfl ?_
          intro v3896 w3897 he3898 ho3899 hn3900
          have st3901 := st3892.ext he3898 (((ho3844.st st3851.lt h3872).st st3873.lt h3889)).ge
          refine wpS_pure v3896 (pure_assign rfl) rfl ?_
          refine wpS_nil ?_
          refine inB_normal ?_
          refine thn_normal ?_
          refine wpC_region ?_
          refine wpS_pure (Value.int .i64 a3845) (pure_move r3849) rfl ?_
          refine wpS_pure (Value.int .i64 (IntKind.i64.wrap (a3845 + (1 : Int)))) (pure_add rfl rfl) rfl ?_
          refine wpS_pure (Value.int .i64 (IntKind.i64.wrap (a3845 + (1 : Int)))) (pure_assign rfl) rfl ?_
          refine wpS_nil ?_
          obtain rfl := Option.some.inj hm
          refine loopQ_in ?_
          exact ⟨l3894, (IntKind.i64.wrap (a3845 + (1 : Int))), _, v3896, rfl, st3901, ho3899, r3846, r3847, rfl, rfl⟩
        · rw [if_neg hc3878] at hm
          replace hc3878 := Bool.eq_false_iff.2 hc3878
          refine wpC_false (bval rfl hc3878) ?_
          refine wpC_region ?_
          refine wpS_pure v3841 (pure_move r3848) rfl ?_
          refine wpS_pure vp0_a (pure_move r3846) rfl ?_
          refine wpS_pure (Value.int .i64 a3845) (pure_move r3849) rfl ?_
          obtain ⟨x3902, h3903, hm⟩ := bind_some hm
          try dsimp only at hm
          refine wpS_indexT (v := vp0_a) Try.underlying33 T42 rfl rfl ((hp0_a.step (st3873.step hF0))).reads h3903 rfl ?_
          intro b3904 o3905 ha3906
          refine wpS_load_rowT Try.underlying42 rfl T42 rfl ha3906 rfl ?_
          intro es3907 hr3908
          refine wpS_oneT (base := w0.heap.size) (v := (Value.agg es3907.toArray)) Try.underlying33 T42 rfl rfl rfl hr3908 st3873.lt st3873.below.size rfl ?_
          intro v3909 w3910 h3911 ho3912 hn3913
          have st3914 := st3873.trans h3911
          obtain ⟨l3916, h3917, hm⟩ := bind_some hm
          try dsimp only at hm
          refine wpS_appendT (v := v3841) (u := v3909) Try.underlying33 T42 rfl rfl ((ho3844.st st3851.lt h3872).st st3873.lt h3911) (ho3912).reads h3917 st3914.lt st3914.below.size rfl ?_
          intro v3918 w3919 he3920 ho3921 hn3922
          have st3923 := st3914.ext he3920 (((ho3844.st st3851.lt h3872).st st3873.lt h3911)).ge
          refine wpS_pure v3918 (pure_assign rfl) rfl ?_
          refine wpS_nil ?_
          refine inB_normal ?_
          refine thn_normal ?_
          refine wpC_region ?_
          refine wpS_pure (Value.int .i64 a3845) (pure_move r3849) rfl ?_
          refine wpS_pure (Value.int .i64 (IntKind.i64.wrap (a3845 + (1 : Int)))) (pure_add rfl rfl) rfl ?_
          refine wpS_pure (Value.int .i64 (IntKind.i64.wrap (a3845 + (1 : Int)))) (pure_assign rfl) rfl ?_
          refine wpS_nil ?_
          obtain rfl := Option.some.inj hm
          refine loopQ_in ?_
          exact ⟨l3916, (IntKind.i64.wrap (a3845 + (1 : Int))), _, v3918, rfl, st3923, ho3921, r3846, r3847, rfl, rfl⟩
      · rw [if_neg hc3858] at hm
        replace hc3858 := Bool.eq_false_iff.2 hc3858
        refine wpC_false (bval rfl hc3858) ?_
        refine wpC_exit ?_
        refine thn_exit ?_
        obtain rfl := Option.some.inj hm
        refine loopQ_exit (fun hx => ?_)
        subst hx
        have hm3924 : M.ref42_Apply_k1 N a3842 = some r := hm3855
        refine joinQ_same ?_
        exact ⟨a3842, _, v3841, st3851, ho3844, r3848, hm3924⟩
  · skip
    rintro ρ w ⟨a3640, F3644, v3639, st3645, ho3642, r3643, hm⟩
    rw [M.ref42_Apply_k1] at hm
    refine thn_normal ?_
    refine wpC_seq ?_
    refine wpC_region ?_
    refine wpS_pure v3639 (pure_move r3643) rfl ?_
    refine wpS_pure v3639 (pure_assign rfl) rfl ?_
    refine wpS_nil ?_
    refine thn_normal ?_
    refine wpC_ret ?_
    obtain rfl := Option.some.inj hm
    refine bodyQ_ret1 Try.results18 v3639 rfl ?_
    exact ⟨_, st3645, ⟨ho3642, (ho3642).ge⟩⟩

set_option maxRecDepth 100000 in
set_option maxHeartbeats 1000000 in
theorem M.law42_RulingApply_walk (N : Nat) (w0 : World) (F0 : Nat → Prop) (hF0 : ∀ b, F0 b → b < w0.heap.size) (p0_a : List rAward.den) (vp0_a : Value) (hp0_a : Rep F0 w0 (Row.slice rAward) [vp0_a] p0_a) (p1_l : List rAppeal.den) (vp1_l : Value) (hp1_l : Rep F0 w0 (Row.slice rAppeal) [vp1_l] p1_l) (p2_m : Int) (r : Bool) (hm : M.law42_RulingApply N p0_a p1_l p2_m = some r) :
    Calls Try.prog 5 [vp0_a, vp1_l, (Value.int .i64 p2_m)].toArray w0 fun e w => ∃ v, e = .returned v ∧ ∃ F, St w0 F0 w F ∧ v = (Value.bool r) := by
  refine calls_of_wpC Try.func5 rfl (Nat.le_of_ble_eq_true rfl) ?_
  intro ρ hρ
  have st0 := St.refl hF0
  rw [M.law42_RulingApply] at hm
  refine wpC_seq ?_
  refine wpC_region ?_
  refine wpS_pure (Value.bool false) (pure_assign rfl) rfl ?_
  refine wpS_nil ?_
  refine thn_normal ?_
  refine wpC_seq_join (fun ρ w => ∃ (F3100 : Nat → Prop), St w0 F0 w F3100 ∧ ρ 0 = vp0_a ∧ ρ 1 = vp1_l ∧ ρ 2 = (Value.int .i64 p2_m) ∧ M.law42_RulingApply_k1 N p0_a p1_l p2_m = some r) ?_ ?_
  · skip
    refine wpC_seq ?_
    refine wpC_region ?_
    refine wpS_pure vp0_a (pure_move (hρ 0 _ rfl)) rfl ?_
    refine wpS_len (v := vp0_a) Try.underlying33 rfl ((hp0_a.step (st0.step hF0))).reads rfl ?_
    refine wpS_pure (Value.bool (decide ((200 : Int) < (p0_a.length : Int)))) (pure_gtr rfl rfl) rfl ?_
    refine wpS_pure (Value.bool (decide ((200 : Int) < (p0_a.length : Int)))) (pure_move rfl) rfl ?_
    by_cases hc3103 : (decide ((200 : Int) < (p0_a.length : Int))) = true
    · rw [if_pos hc3103] at hm
      refine wpS_off 14 rfl rfl (bval' rfl hc3103) (by decide) rfl ?_
      refine wpS_off 14 rfl rfl (bval' rfl hc3103) (by decide) rfl ?_
      refine wpS_off 14 rfl rfl (bval' rfl hc3103) (by decide) rfl ?_
      refine wpS_pure (Value.bool true) (pure_pick_true (bval rfl hc3103) rfl) rfl ?_
      refine wpS_nil ?_
      refine thn_normal ?_
      refine wpC_true rfl ?_
      refine wpC_seq ?_
      refine wpC_region ?_
      obtain ⟨y3104, h3105, hm⟩ := bind_some hm
      try dsimp only at hm
      refine wpS_call (vs := []) Try.func8 nm8 bd8 m_nil (M.law42_awake_walk N _ _ st0.lt y3104 h3105) rfl ?_
      rintro v3106 w3107 ⟨F3108, h3109, hv3110⟩
      have h3111 := h3109.narrow st0.lt
      have st3112 := st0.trans h3111
      obtain rfl := hv3110
      refine wpS_pure (Value.bool y3104) (pure_assign rfl) rfl ?_
      refine wpS_nil ?_
      refine thn_normal ?_
      refine wpC_ret ?_
      refine thn_ret ?_
      obtain rfl := Option.some.inj hm
      refine bodyQ_ret1 Try.results5 (Value.bool y3104) rfl ?_
      exact ⟨_, st3112, rfl⟩
    · rw [if_neg hc3103] at hm
      replace hc3103 := Bool.eq_false_iff.2 hc3103
      refine wpS_on 14 rfl rfl (bval' rfl hc3103) ?_
      refine wpS_pure vp1_l (pure_move (hρ 1 _ rfl)) rfl ?_
      refine wpS_on 14 rfl rfl (bval' rfl hc3103) ?_
      refine wpS_len (v := vp1_l) Try.underlying22 rfl ((hp1_l.step (st0.step hF0))).reads rfl ?_
      refine wpS_on 14 rfl rfl (bval' rfl hc3103) ?_
      refine wpS_pure (Value.bool (decide ((100 : Int) < (p1_l.length : Int)))) (pure_gtr rfl rfl) rfl ?_
      refine wpS_pure (Value.bool (decide ((100 : Int) < (p1_l.length : Int)))) (pure_pick_false (bval rfl hc3103) rfl) rfl ?_
      refine wpS_nil ?_
      refine thn_normal ?_
      by_cases hc3113 : (decide ((100 : Int) < (p1_l.length : Int))) = true
      · rw [if_pos hc3113] at hm
        refine wpC_true (bval rfl hc3113) ?_
        refine wpC_seq ?_
        refine wpC_region ?_
        obtain ⟨y3114, h3115, hm⟩ := bind_some hm
        try dsimp only at hm
        refine wpS_call (vs := []) Try.func8 nm8 bd8 m_nil (M.law42_awake_walk N _ _ st0.lt y3114 h3115) rfl ?_
        rintro v3116 w3117 ⟨F3118, h3119, hv3120⟩
        have h3121 := h3119.narrow st0.lt
        have st3122 := st0.trans h3121
        obtain rfl := hv3120
        refine wpS_pure (Value.bool y3114) (pure_assign rfl) rfl ?_
        refine wpS_nil ?_
        refine thn_normal ?_
        refine wpC_ret ?_
        refine thn_ret ?_
        obtain rfl := Option.some.inj hm
        refine bodyQ_ret1 Try.results5 (Value.bool y3114) rfl ?_
        exact ⟨_, st3122, rfl⟩
      · rw [if_neg hc3113] at hm
        replace hc3113 := Bool.eq_false_iff.2 hc3113
        refine wpC_false (bval rfl hc3113) ?_
        refine wpC_skip ?_
        refine thn_normal ?_
        exact ⟨_, st0, (hρ 0 _ rfl), (hρ 1 _ rfl), (hρ 2 _ rfl), hm⟩
  · skip
    rintro ρ w ⟨F3100, st3101, r3097, r3098, r3099, hm⟩
    rw [M.law42_RulingApply_k1] at hm
    refine wpC_seq ?_
    refine wpC_region ?_
    refine wpS_pure vp1_l (pure_move r3098) rfl ?_
    refine wpS_pure (Value.int .i64 p2_m) (pure_move r3099) rfl ?_
    obtain ⟨y3123, h3124, hm⟩ := bind_some hm
    try dsimp only at hm
    refine wpS_call (vs := [vp1_l, (Value.int .i64 p2_m)]) Try.func14 nm14 bd14 (m_cons rfl (m_cons rfl m_nil)) (M.ruling_Granted_walk N _ _ st3101.lt p1_l vp1_l (hp1_l.step (st3101.step hF0)) p2_m y3123 h3124) rfl ?_
    rintro v3125 w3126 ⟨F3127, h3128, hv3129⟩
    have h3130 := h3128.narrow st3101.lt
    have st3131 := st3101.trans h3130
    obtain ⟨v3132, v3133, rfl, hv3134, hv3135⟩ := hv3129
    obtain rfl := hv3134
    obtain rfl := hv3135
    refine wpS_pure (Value.tuple #[(Value.int .i64 y3123.1), (Value.bool y3123.2)]) (pure_move rfl) rfl ?_
    refine wpS_pure (Value.int .i64 y3123.1) (pure_extract rfl rfl) rfl ?_
    refine wpS_pure (Value.bool y3123.2) (pure_extract rfl rfl) rfl ?_
    refine wpS_pure (Value.int .i64 y3123.1) (pure_assign rfl) rfl ?_
    refine wpS_pure (Value.bool y3123.2) (pure_assign rfl) rfl ?_
    refine wpS_nil ?_
    refine thn_normal ?_
    refine wpC_seq ?_
    refine wpC_region ?_
    refine wpS_pure vp1_l (pure_move r3098) rfl ?_
    refine wpS_pure (Value.int .i64 p2_m) (pure_move r3099) rfl ?_
    obtain ⟨y3356, h3357, hm⟩ := bind_some hm
    try dsimp only at hm
    refine wpS_call (vs := [vp1_l, (Value.int .i64 p2_m)]) Try.func15 nm15 bd15 (m_cons rfl (m_cons rfl m_nil)) (M.ref42_Granted_walk N _ _ st3131.lt p1_l vp1_l (hp1_l.step (st3131.step hF0)) p2_m y3356 h3357) rfl ?_
    rintro v3358 w3359 ⟨F3360, h3361, hv3362⟩
    have h3363 := h3361.narrow st3131.lt
    have st3364 := st3131.trans h3363
    obtain ⟨v3365, v3366, rfl, hv3367, hv3368⟩ := hv3362
    obtain rfl := hv3367
    obtain rfl := hv3368
    refine wpS_pure (Value.tuple #[(Value.int .i64 y3356.1), (Value.bool y3356.2)]) (pure_move rfl) rfl ?_
    refine wpS_pure (Value.int .i64 y3356.1) (pure_extract rfl rfl) rfl ?_
    refine wpS_pure (Value.bool y3356.2) (pure_extract rfl rfl) rfl ?_
    refine wpS_pure (Value.int .i64 y3356.1) (pure_assign rfl) rfl ?_
    refine wpS_pure (Value.bool y3356.2) (pure_assign rfl) rfl ?_
    refine wpS_nil ?_
    refine thn_normal ?_
    refine wpC_seq ?_
    refine wpC_region ?_
    refine wpS_pure (Value.int .i64 y3123.1) (pure_move rfl) rfl ?_
    refine wpS_pure (Value.int .i64 y3356.1) (pure_move rfl) rfl ?_
    refine wpS_pure (Value.bool (decide (y3123.1 = y3356.1))) (pure_eql rfl rfl) rfl ?_
    refine wpS_pure (Value.bool (decide (y3123.1 = y3356.1))) (pure_move rfl) rfl ?_
    by_cases hc3369 : (decide (y3123.1 = y3356.1)) = true
    · rw [if_pos hc3369] at hm
      refine wpS_on 35 rfl rfl (bval' rfl hc3369) ?_
      refine wpS_pure (Value.bool y3123.2) (pure_move rfl) rfl ?_
      refine wpS_on 35 rfl rfl (bval' rfl hc3369) ?_
      refine wpS_pure (Value.bool y3356.2) (pure_move rfl) rfl ?_
      refine wpS_on 35 rfl rfl (bval' rfl hc3369) ?_
      refine wpS_pure (Value.bool (decide (y3123.2 = y3356.2))) (pure_eqlb Try.underlying4 rfl rfl) rfl ?_
      refine wpS_pure (Value.bool (decide (y3123.2 = y3356.2))) (pure_pick_true (bval rfl hc3369) rfl) rfl ?_
      refine wpS_pure (Value.bool (decide (y3123.2 = y3356.2))) (pure_move rfl) rfl ?_
      by_cases hc3370 : (decide (y3123.2 = y3356.2)) = true
      · rw [if_pos hc3370] at hm
        refine wpS_on 40 rfl rfl (bval' rfl hc3370) ?_
        refine wpS_pure vp0_a (pure_move r3097) rfl ?_
        refine wpS_on 40 rfl rfl (bval' rfl hc3370) ?_
        refine wpS_pure vp1_l (pure_move r3098) rfl ?_
        refine wpS_on 40 rfl rfl (bval' rfl hc3370) ?_
        obtain ⟨y3371, h3372, hm⟩ := bind_some hm
        try dsimp only at hm
        refine wpS_call (vs := [vp0_a, vp1_l]) Try.func17 nm17 bd17 (m_cons rfl (m_cons rfl m_nil)) (M.ruling_Apply_walk N _ _ st3364.lt p0_a vp0_a (hp0_a.step (st3364.step hF0)) p1_l vp1_l (hp1_l.step (st3364.step hF0)) y3371 h3372) rfl ?_
        rintro v3373 w3374 ⟨F3375, h3376, hv3377⟩
        have st3378 := st3364.trans h3376
        obtain ⟨ho3379, hn3380⟩ := hv3377
        have ho3381 := ho3379.lower st3364.below.size
        refine wpS_on 40 rfl rfl (bval' rfl hc3370) ?_
        refine wpS_pure vp0_a (pure_move r3097) rfl ?_
        refine wpS_on 40 rfl rfl (bval' rfl hc3370) ?_
        refine wpS_pure vp1_l (pure_move r3098) rfl ?_
        refine wpS_on 40 rfl rfl (bval' rfl hc3370) ?_
        obtain ⟨y3925, h3926, hm⟩ := bind_some hm
        try dsimp only at hm
        refine wpS_call (vs := [vp0_a, vp1_l]) Try.func18 nm18 bd18 (m_cons rfl (m_cons rfl m_nil)) (M.ref42_Apply_walk N _ _ st3378.lt p0_a vp0_a (hp0_a.step (st3378.step hF0)) p1_l vp1_l (hp1_l.step (st3378.step hF0)) y3925 h3926) rfl ?_
        rintro v3927 w3928 ⟨F3929, h3930, hv3931⟩
        have st3932 := st3378.trans h3930
        obtain ⟨ho3933, hn3934⟩ := hv3931
        have ho3935 := ho3933.lower st3378.below.size
        refine wpS_on 40 rfl rfl (bval' rfl hc3370) ?_
        have st3937 := st3932.fz (ho3381.st st3378.lt h3930)
        have hr3938 := ((ho3381.st st3378.lt h3930)).freeze
        have st3939 := st3937.fz (ho3935.fz (ap_symm (ap_new (ho3381).lt hn3934)))
        have hr3940 := ((ho3935.fz (ap_symm (ap_new (ho3381).lt hn3934)))).freeze
        obtain ⟨y3941, h3942, hm⟩ := bind_some hm
        try dsimp only at hm
        refine wpS_call (vs := [v3373, v3927]) Try.func16 nm16 bd16 (m_cons rfl (m_cons rfl m_nil)) (M.same_Awards_walk N _ _ st3939.lt y3371 v3373 (hr3938.step (Step.freeze _ _ _)) y3925 v3927 hr3940 y3941 h3942) rfl ?_
        rintro v3943 w3944 ⟨F3945, h3946, hv3947⟩
        have h3948 := h3946.narrow st3932.lt
        have st3949 := st3932.trans h3948
        obtain rfl := hv3947
        refine wpS_pure (Value.bool y3941) (pure_pick_true (bval rfl hc3370) rfl) rfl ?_
        refine wpS_pure (Value.bool y3941) (pure_move rfl) rfl ?_
        by_cases hc3950 : y3941 = true
        · rw [if_pos hc3950] at hm
          refine wpS_on 49 rfl rfl (bval' rfl hc3950) ?_
          obtain ⟨y3951, h3952, hm⟩ := bind_some hm
          try dsimp only at hm
          refine wpS_call (vs := []) Try.func8 nm8 bd8 m_nil (M.law42_awake_walk N _ _ st3949.lt y3951 h3952) rfl ?_
          rintro v3953 w3954 ⟨F3955, h3956, hv3957⟩
          have h3958 := h3956.narrow st3949.lt
          have st3959 := st3949.trans h3958
          obtain rfl := hv3957
          refine wpS_pure (Value.bool y3951) (pure_pick_true (bval rfl hc3950) rfl) rfl ?_
          refine wpS_pure (Value.bool y3951) (pure_assign rfl) rfl ?_
          refine wpS_nil ?_
          refine thn_normal ?_
          refine wpC_ret ?_
          obtain rfl := Option.some.inj hm
          refine bodyQ_ret1 Try.results5 (Value.bool y3951) rfl ?_
          exact ⟨_, st3959, rfl⟩
        · rw [if_neg hc3950] at hm
          replace hc3950 := Bool.eq_false_iff.2 hc3950
          refine wpS_off 49 rfl rfl (bval' rfl hc3950) (by decide) rfl ?_
          refine wpS_pure (Value.bool false) (pure_pick_false (bval rfl hc3950) rfl) rfl ?_
          refine wpS_pure (Value.bool false) (pure_assign rfl) rfl ?_
          refine wpS_nil ?_
          refine thn_normal ?_
          refine wpC_ret ?_
          obtain rfl := Option.some.inj hm
          refine bodyQ_ret1 Try.results5 (Value.bool false) rfl ?_
          exact ⟨_, st3949, rfl⟩
      · rw [if_neg hc3370] at hm
        replace hc3370 := Bool.eq_false_iff.2 hc3370
        refine wpS_off 40 rfl rfl (bval' rfl hc3370) (by decide) rfl ?_
        refine wpS_off 40 rfl rfl (bval' rfl hc3370) (by decide) rfl ?_
        refine wpS_off 40 rfl rfl (bval' rfl hc3370) (by decide) rfl ?_
        refine wpS_off 40 rfl rfl (bval' rfl hc3370) (by decide) rfl ?_
        refine wpS_off 40 rfl rfl (bval' rfl hc3370) (by decide) rfl ?_
        refine wpS_off 40 rfl rfl (bval' rfl hc3370) (by decide) rfl ?_
        refine wpS_off 40 rfl rfl (bval' rfl hc3370) (by decide) rfl ?_
        refine wpS_pure (Value.bool false) (pure_pick_false (bval rfl hc3370) rfl) rfl ?_
        refine wpS_pure (Value.bool false) (pure_move rfl) rfl ?_
        refine wpS_off 49 rfl rfl rfl (by decide) rfl ?_
        refine wpS_pure (Value.bool false) (pure_pick_false rfl rfl) rfl ?_
        refine wpS_pure (Value.bool false) (pure_assign rfl) rfl ?_
        refine wpS_nil ?_
        refine thn_normal ?_
        refine wpC_ret ?_
        obtain rfl := Option.some.inj hm
        refine bodyQ_ret1 Try.results5 (Value.bool false) rfl ?_
        exact ⟨_, st3364, rfl⟩
    · rw [if_neg hc3369] at hm
      replace hc3369 := Bool.eq_false_iff.2 hc3369
      refine wpS_off 35 rfl rfl (bval' rfl hc3369) (by decide) rfl ?_
      refine wpS_off 35 rfl rfl (bval' rfl hc3369) (by decide) rfl ?_
      refine wpS_off 35 rfl rfl (bval' rfl hc3369) (by decide) rfl ?_
      refine wpS_pure (Value.bool false) (pure_pick_false (bval rfl hc3369) rfl) rfl ?_
      refine wpS_pure (Value.bool false) (pure_move rfl) rfl ?_
      refine wpS_off 40 rfl rfl rfl (by decide) rfl ?_
      refine wpS_off 40 rfl rfl rfl (by decide) rfl ?_
      refine wpS_off 40 rfl rfl rfl (by decide) rfl ?_
      refine wpS_off 40 rfl rfl rfl (by decide) rfl ?_
      refine wpS_off 40 rfl rfl rfl (by decide) rfl ?_
      refine wpS_off 40 rfl rfl rfl (by decide) rfl ?_
      refine wpS_off 40 rfl rfl rfl (by decide) rfl ?_
      refine wpS_pure (Value.bool false) (pure_pick_false rfl rfl) rfl ?_
      refine wpS_pure (Value.bool false) (pure_move rfl) rfl ?_
      refine wpS_off 49 rfl rfl rfl (by decide) rfl ?_
      refine wpS_pure (Value.bool false) (pure_pick_false rfl rfl) rfl ?_
      refine wpS_pure (Value.bool false) (pure_assign rfl) rfl ?_
      refine wpS_nil ?_
      refine thn_normal ?_
      refine wpC_ret ?_
      obtain rfl := Option.some.inj hm
      refine bodyQ_ret1 Try.results5 (Value.bool false) rfl ?_
      exact ⟨_, st3364, rfl⟩

set_option maxRecDepth 100000 in
set_option maxHeartbeats 1000000 in
theorem M.law42_RulingIdempotent_walk (N : Nat) (w0 : World) (F0 : Nat → Prop) (hF0 : ∀ b, F0 b → b < w0.heap.size) (p0_a : List rAward.den) (vp0_a : Value) (hp0_a : Rep F0 w0 (Row.slice rAward) [vp0_a] p0_a) (p1_l : List rAppeal.den) (vp1_l : Value) (hp1_l : Rep F0 w0 (Row.slice rAppeal) [vp1_l] p1_l) (r : Bool) (hm : M.law42_RulingIdempotent N p0_a p1_l = some r) :
    Calls Try.prog 7 [vp0_a, vp1_l].toArray w0 fun e w => ∃ v, e = .returned v ∧ ∃ F, St w0 F0 w F ∧ v = (Value.bool r) := by
  refine calls_of_wpC Try.func7 rfl (Nat.le_of_ble_eq_true rfl) ?_
  intro ρ hρ
  have st0 := St.refl hF0
  rw [M.law42_RulingIdempotent] at hm
  refine wpC_seq ?_
  refine wpC_region ?_
  refine wpS_pure (Value.bool false) (pure_assign rfl) rfl ?_
  refine wpS_nil ?_
  refine thn_normal ?_
  refine wpC_seq_join (fun ρ w => ∃ (F4002 : Nat → Prop), St w0 F0 w F4002 ∧ ρ 0 = vp0_a ∧ ρ 1 = vp1_l ∧ M.law42_RulingIdempotent_k1 N p0_a p1_l = some r) ?_ ?_
  · skip
    refine wpC_seq ?_
    refine wpC_region ?_
    refine wpS_pure vp0_a (pure_move (hρ 0 _ rfl)) rfl ?_
    refine wpS_len (v := vp0_a) Try.underlying33 rfl ((hp0_a.step (st0.step hF0))).reads rfl ?_
    refine wpS_pure (Value.bool (decide ((200 : Int) < (p0_a.length : Int)))) (pure_gtr rfl rfl) rfl ?_
    refine wpS_pure (Value.bool (decide ((200 : Int) < (p0_a.length : Int)))) (pure_move rfl) rfl ?_
    by_cases hc4005 : (decide ((200 : Int) < (p0_a.length : Int))) = true
    · rw [if_pos hc4005] at hm
      refine wpS_off 12 rfl rfl (bval' rfl hc4005) (by decide) rfl ?_
      refine wpS_off 12 rfl rfl (bval' rfl hc4005) (by decide) rfl ?_
      refine wpS_off 12 rfl rfl (bval' rfl hc4005) (by decide) rfl ?_
      refine wpS_pure (Value.bool true) (pure_pick_true (bval rfl hc4005) rfl) rfl ?_
      refine wpS_nil ?_
      refine thn_normal ?_
      refine wpC_true rfl ?_
      refine wpC_seq ?_
      refine wpC_region ?_
      obtain ⟨y4006, h4007, hm⟩ := bind_some hm
      try dsimp only at hm
      refine wpS_call (vs := []) Try.func8 nm8 bd8 m_nil (M.law42_awake_walk N _ _ st0.lt y4006 h4007) rfl ?_
      rintro v4008 w4009 ⟨F4010, h4011, hv4012⟩
      have h4013 := h4011.narrow st0.lt
      have st4014 := st0.trans h4013
      obtain rfl := hv4012
      refine wpS_pure (Value.bool y4006) (pure_assign rfl) rfl ?_
      refine wpS_nil ?_
      refine thn_normal ?_
      refine wpC_ret ?_
      refine thn_ret ?_
      obtain rfl := Option.some.inj hm
      refine bodyQ_ret1 Try.results7 (Value.bool y4006) rfl ?_
      exact ⟨_, st4014, rfl⟩
    · rw [if_neg hc4005] at hm
      replace hc4005 := Bool.eq_false_iff.2 hc4005
      refine wpS_on 12 rfl rfl (bval' rfl hc4005) ?_
      refine wpS_pure vp1_l (pure_move (hρ 1 _ rfl)) rfl ?_
      refine wpS_on 12 rfl rfl (bval' rfl hc4005) ?_
      refine wpS_len (v := vp1_l) Try.underlying22 rfl ((hp1_l.step (st0.step hF0))).reads rfl ?_
      refine wpS_on 12 rfl rfl (bval' rfl hc4005) ?_
      refine wpS_pure (Value.bool (decide ((100 : Int) < (p1_l.length : Int)))) (pure_gtr rfl rfl) rfl ?_
      refine wpS_pure (Value.bool (decide ((100 : Int) < (p1_l.length : Int)))) (pure_pick_false (bval rfl hc4005) rfl) rfl ?_
      refine wpS_nil ?_
      refine thn_normal ?_
      by_cases hc4015 : (decide ((100 : Int) < (p1_l.length : Int))) = true
      · rw [if_pos hc4015] at hm
        refine wpC_true (bval rfl hc4015) ?_
        refine wpC_seq ?_
        refine wpC_region ?_
        obtain ⟨y4016, h4017, hm⟩ := bind_some hm
        try dsimp only at hm
        refine wpS_call (vs := []) Try.func8 nm8 bd8 m_nil (M.law42_awake_walk N _ _ st0.lt y4016 h4017) rfl ?_
        rintro v4018 w4019 ⟨F4020, h4021, hv4022⟩
        have h4023 := h4021.narrow st0.lt
        have st4024 := st0.trans h4023
        obtain rfl := hv4022
        refine wpS_pure (Value.bool y4016) (pure_assign rfl) rfl ?_
        refine wpS_nil ?_
        refine thn_normal ?_
        refine wpC_ret ?_
        refine thn_ret ?_
        obtain rfl := Option.some.inj hm
        refine bodyQ_ret1 Try.results7 (Value.bool y4016) rfl ?_
        exact ⟨_, st4024, rfl⟩
      · rw [if_neg hc4015] at hm
        replace hc4015 := Bool.eq_false_iff.2 hc4015
        refine wpC_false (bval rfl hc4015) ?_
        refine wpC_skip ?_
        refine thn_normal ?_
        exact ⟨_, st0, (hρ 0 _ rfl), (hρ 1 _ rfl), hm⟩
  · skip
    rintro ρ w ⟨F4002, st4003, r4000, r4001, hm⟩
    rw [M.law42_RulingIdempotent_k1] at hm
    refine wpC_seq ?_
    refine wpC_region ?_
    refine wpS_pure vp0_a (pure_move r4000) rfl ?_
    refine wpS_pure vp1_l (pure_move r4001) rfl ?_
    obtain ⟨y4025, h4026, hm⟩ := bind_some hm
    try dsimp only at hm
    refine wpS_call (vs := [vp0_a, vp1_l]) Try.func17 nm17 bd17 (m_cons rfl (m_cons rfl m_nil)) (M.ruling_Apply_walk N _ _ st4003.lt p0_a vp0_a (hp0_a.step (st4003.step hF0)) p1_l vp1_l (hp1_l.step (st4003.step hF0)) y4025 h4026) rfl ?_
    rintro v4027 w4028 ⟨F4029, h4030, hv4031⟩
    have st4032 := st4003.trans h4030
    obtain ⟨ho4033, hn4034⟩ := hv4031
    have ho4035 := ho4033.lower st4003.below.size
    refine wpS_pure v4027 (pure_assign rfl) rfl ?_
    refine wpS_nil ?_
    refine thn_normal ?_
    refine wpC_seq ?_
    refine wpC_seq ?_
    refine wpC_region ?_
    refine wpS_pure v4027 (pure_move rfl) rfl ?_
    refine wpS_len (v := v4027) Try.underlying33 rfl (ho4035).reads rfl ?_
    refine wpS_pure vp0_a (pure_move r4000) rfl ?_
    refine wpS_len (v := vp0_a) Try.underlying33 rfl ((hp0_a.step (st4032.step hF0))).reads rfl ?_
    refine wpS_pure (Value.bool (!decide ((y4025.length : Int) = (p0_a.length : Int)))) (pure_neq rfl rfl) rfl ?_
    refine wpS_nil ?_
    refine thn_normal ?_
    by_cases hc4037 : (!decide ((y4025.length : Int) = (p0_a.length : Int))) = true
    · rw [if_pos hc4037] at hm
      refine wpC_true (bval rfl hc4037) ?_
      refine wpC_seq ?_
      refine wpC_region ?_
      refine wpS_pure (Value.bool false) (pure_assign rfl) rfl ?_
      refine wpS_nil ?_
      refine thn_normal ?_
      refine wpC_ret ?_
      refine thn_ret ?_
      obtain rfl := Option.some.inj hm
      refine bodyQ_ret1 Try.results7 (Value.bool false) rfl ?_
      exact ⟨_, st4032, rfl⟩
    · rw [if_neg hc4037] at hm
      replace hc4037 := Bool.eq_false_iff.2 hc4037
      refine wpC_false (bval rfl hc4037) ?_
      refine wpC_skip ?_
      refine thn_normal ?_
      refine wpC_seq ?_
      refine wpC_seq ?_
      refine wpC_region ?_
      refine wpS_pure (Value.int .i64 (0 : Int)) (pure_assign rfl) rfl ?_
      refine wpS_nil ?_
      refine thn_normal ?_
      refine wpC_block_join (fun ρ w => ∃ (F4213 : Nat → Prop) (v4209 : Value), St w0 F0 w F4213 ∧ Own w0.heap.size F4213 w 42 rAward v4209 y4025 ∧ ρ 1 = vp1_l ∧ ρ 5 = v4209 ∧ M.law42_RulingIdempotent_k2 N p1_l y4025 = some r) ?_ ?_
      · skip
        obtain ⟨x4340, hL4341, hm4342⟩ := bind_some hm
        clear hm
        refine wpC_loop (fun (s : Int) ρ w => ∃ (a4332 : Int) (F4337 : Nat → Prop) (v4330 : Value), a4332 = s ∧ St w0 F0 w F4337 ∧ Own w0.heap.size F4337 w 42 rAward v4330 y4025 ∧ ρ 0 = vp0_a ∧ ρ 1 = vp1_l ∧ ρ 5 = v4330 ∧ ρ 6 = (Value.int .i64 a4332)) hL4341 ?_ ?_
        · exact ⟨(0 : Int), _, v4027, rfl, st4032, ho4035, r4000, r4001, rfl, rfl⟩
        · skip
          rintro s ρ w y4345 ⟨a4332, F4337, v4330, rfl, st4338, ho4331, r4333, r4334, r4335, r4336⟩ hm4346
          have hm : M.law42_RulingIdempotent_k3 N p0_a p1_l y4025 a4332 = some y4345 := hm4346
          clear hm4346
          rw [M.law42_RulingIdempotent_k3] at hm
          refine wpC_seq ?_
          refine wpC_seq ?_
          refine wpC_region ?_
          refine wpS_pure (Value.int .i64 a4332) (pure_move r4336) rfl ?_
          refine wpS_pure vp0_a (pure_move r4333) rfl ?_
          refine wpS_len (v := vp0_a) Try.underlying33 rfl ((hp0_a.step (st4338.step hF0))).reads rfl ?_
          refine wpS_pure (Value.bool (decide (a4332 < (p0_a.length : Int)))) (pure_lss rfl rfl) rfl ?_
          refine wpS_nil ?_
          refine thn_normal ?_
          by_cases hc4347 : (decide (a4332 < (p0_a.length : Int))) = true
          · rw [if_pos hc4347] at hm
            refine wpC_true (bval rfl hc4347) ?_
            refine wpC_skip ?_
            refine thn_normal ?_
            refine wpC_seq ?_
            refine wpC_block ?_
            refine wpC_seq ?_
            refine wpC_region ?_
            refine wpS_pure vp1_l (pure_move r4334) rfl ?_
            refine wpS_pure vp0_a (pure_move r4333) rfl ?_
            refine wpS_pure (Value.int .i64 a4332) (pure_move r4336) rfl ?_
            obtain ⟨x4348, h4349, hm⟩ := bind_some hm
            try dsimp only at hm
            refine wpS_indexT (v := vp0_a) Try.underlying33 T42 rfl rfl ((hp0_a.step (st4338.step hF0))).reads h4349 rfl ?_
            intro b4350 o4351 ha4352
            have ha4353 : At _ _ rInt b4350 (o4351 + 0) (x4348.1) := ha4352.path (.fst (.here)) 0 rfl
            refine wpS_pure (Value.pointer (some ⟨b4350, o4351 + 0, none⟩)) (pure_fieldT 0 Try.underlying42 rfl T3 rfl rfl) rfl ?_
            refine wpS_load_int Try.underlying3 rfl rfl ha4353 rfl ?_
            obtain ⟨y4354, h4355, hm⟩ := bind_some hm
            try dsimp only at hm
            refine wpS_call (vs := [vp1_l, (Value.int .i64 x4348.1)]) Try.func14 nm14 bd14 (m_cons rfl (m_cons rfl m_nil)) (M.ruling_Granted_walk N _ _ st4338.lt p1_l vp1_l (hp1_l.step (st4338.step hF0)) x4348.1 y4354 h4355) rfl ?_
            rintro v4356 w4357 ⟨F4358, h4359, hv4360⟩
            have h4361 := h4359.narrow st4338.lt
            have st4362 := st4338.trans h4361
            obtain ⟨v4363, v4364, rfl, hv4365, hv4366⟩ := hv4360
            obtain rfl := hv4365
            obtain rfl := hv4366
            refine wpS_pure (Value.tuple #[(Value.int .i64 y4354.1), (Value.bool y4354.2)]) (pure_move rfl) rfl ?_
            refine wpS_pure (Value.int .i64 y4354.1) (pure_extract rfl rfl) rfl ?_
            refine wpS_pure (Value.bool y4354.2) (pure_extract rfl rfl) rfl ?_
            refine wpS_pure (Value.int .i64 y4354.1) (pure_assign rfl) rfl ?_
            refine wpS_pure (Value.bool y4354.2) (pure_assign rfl) rfl ?_
            refine wpS_nil ?_
            refine thn_normal ?_
            refine wpC_seq_join (fun ρ w => ∃ (a4407 : Bool) (F4413 : Nat → Prop) (v4405 : Value), St w0 F0 w F4413 ∧ Own w0.heap.size F4413 w 42 rAward v4405 y4025 ∧ ρ 0 = vp0_a ∧ ρ 1 = vp1_l ∧ ρ 5 = v4405 ∧ ρ 6 = (Value.int .i64 a4332) ∧ ρ 87 = (Value.bool a4407) ∧ M.law42_RulingIdempotent_k4 N a4332 a4407 = some y4345) ?_ ?_
            · skip
              refine wpC_draw st4362.lt mixed (by kernel_rfl) ?_
              refine wpQ_pure v4330 (pure_move r4335) rfl ?_
              refine wpQ_pure (Value.int .i64 a4332) (pure_move r4336) rfl ?_
              obtain ⟨x4416, h4417, hm⟩ := bind_some hm
              try dsimp only at hm
              refine wpQ_indexT (v := v4330) Try.underlying33 T42 rfl rfl ((ho4331.st st4338.lt h4361)).reads h4417 rfl ?_
              intro b4418 o4419 ha4420
              have ha4421 : At _ _ rInt b4418 (o4419 + 0) (x4416.1) := ha4420.path (.fst (.here)) 0 rfl
              refine wpQ_pure (Value.pointer (some ⟨b4418, o4419 + 0, none⟩)) (pure_fieldT 0 Try.underlying42 rfl T3 rfl rfl) rfl ?_
              refine wpQ_load_int st4362.lt Try.underlying3 rfl rfl ha4421 rfl ?_
              refine wpQ_pure vp0_a (pure_move r4333) rfl ?_
              refine wpQ_pure (Value.int .i64 a4332) (pure_move r4336) rfl ?_
              obtain ⟨x4422, h4423, hm⟩ := bind_some hm
              try dsimp only at hm
              refine wpQ_indexT (v := vp0_a) Try.underlying33 T42 rfl rfl ((hp0_a.step (st4362.step hF0))).reads h4423 rfl ?_
              intro b4424 o4425 ha4426
              have ha4427 : At _ _ rInt b4424 (o4425 + 0) (x4422.1) := ha4426.path (.fst (.here)) 0 rfl
              refine wpQ_pure (Value.pointer (some ⟨b4424, o4425 + 0, none⟩)) (pure_fieldT 0 Try.underlying42 rfl T3 rfl rfl) rfl ?_
              refine wpQ_load_int st4362.lt Try.underlying3 rfl rfl ha4427 rfl ?_
              refine wpQ_pure (Value.bool (!decide (x4416.1 = x4422.1))) (pure_neq rfl rfl) rfl ?_
              refine wpQ_pure (Value.bool (!decide (x4416.1 = x4422.1))) (pure_move rfl) rfl ?_
              by_cases hc4428 : (!decide (x4416.1 = x4422.1)) = true
              · rw [if_pos hc4428] at hm
                refine wpQ_off 53 rfl rfl (bval' rfl hc4428) (by decide) rfl ?_
                refine wpQ_off 53 rfl rfl (bval' rfl hc4428) (by decide) rfl ?_
                refine wpQ_off 53 rfl rfl (bval' rfl hc4428) (by decide) rfl ?_
                refine wpQ_offu 56 rfl rfl rfl rfl ?_
                refine wpQ_offu 56 rfl rfl rfl rfl ?_
                refine wpQ_offu 56 rfl rfl rfl rfl ?_
                refine wpQ_offu 56 rfl rfl rfl rfl ?_
                refine wpQ_offu 56 rfl rfl rfl rfl ?_
                refine wpQ_offu 56 rfl rfl rfl rfl ?_
                refine wpQ_offu 56 rfl rfl rfl rfl ?_
                refine wpQ_offu 56 rfl rfl rfl rfl ?_
                refine wpQ_offu 56 rfl rfl rfl rfl ?_
                refine wpQ_off 53 rfl rfl (bval' rfl hc4428) (by decide) rfl ?_
                refine wpQ_pure (Value.bool true) (pure_pick_true (bval rfl hc4428) rfl) rfl ?_
                refine wpQ_pure (Value.bool true) (pure_move rfl) rfl ?_
                refine wpQ_off 68 rfl rfl rfl (by decide) rfl ?_
                refine wpQ_off 68 rfl rfl rfl (by decide) rfl ?_
                refine wpQ_offu 70 rfl rfl rfl rfl ?_
                refine wpQ_offu 70 rfl rfl rfl rfl ?_
                refine wpQ_offu 70 rfl rfl rfl rfl ?_
                refine wpQ_offu 70 rfl rfl rfl rfl ?_
                refine wpQ_offu 70 rfl rfl rfl rfl ?_
                refine wpQ_offu 70 rfl rfl rfl rfl ?_
                refine wpQ_offu 70 rfl rfl rfl rfl ?_
                refine wpQ_offu 70 rfl rfl rfl rfl ?_
                refine wpQ_offu 78 rfl rfl rfl rfl ?_
                refine wpQ_offu 78 rfl rfl rfl rfl ?_
                refine wpQ_offu 78 rfl rfl rfl rfl ?_
                refine wpQ_offu 78 rfl rfl rfl rfl ?_
                refine wpQ_offu 78 rfl rfl rfl rfl ?_
                refine wpQ_offu 78 rfl rfl rfl rfl ?_
                refine wpQ_offu 70 rfl rfl rfl rfl ?_
                refine wpQ_off 68 rfl rfl rfl (by decide) rfl ?_
                refine wpQ_pure (Value.bool true) (pure_pick_true rfl rfl) rfl ?_
                refine wpQ_nil ?_
                intro w4430 h4429
                have st4431 := st4362.trans h4429
                refine thn_normal ?_
                exact ⟨true, _, v4330, st4431, ((ho4331.st st4338.lt h4361).st st4362.lt h4429), r4333, r4334, r4335, r4336, rfl, hm⟩
              · rw [if_neg hc4428] at hm
                replace hc4428 := Bool.eq_false_iff.2 hc4428
                refine wpQ_on 53 rfl rfl (bval' rfl hc4428) ?_
                refine wpQ_pure (Value.bool y4354.2) (pure_move rfl) rfl ?_
                refine wpQ_on 53 rfl rfl (bval' rfl hc4428) ?_
                refine wpQ_pure (Value.bool (!y4354.2)) (pure_not rfl) rfl ?_
                refine wpQ_on 53 rfl rfl (bval' rfl hc4428) ?_
                refine wpQ_pure (Value.bool (!y4354.2)) (pure_move rfl) rfl ?_
                by_cases hc4432 : (!y4354.2) = true
                · rw [if_pos hc4432] at hm
                  refine wpQ_on 56 rfl rfl (bval' rfl hc4432) ?_
                  refine wpQ_pure v4330 (pure_move r4335) rfl ?_
                  refine wpQ_on 56 rfl rfl (bval' rfl hc4432) ?_
                  refine wpQ_pure (Value.int .i64 a4332) (pure_move r4336) rfl ?_
                  refine wpQ_on 56 rfl rfl (bval' rfl hc4432) ?_
                  obtain ⟨x4433, h4434, hm⟩ := bind_some hm
                  try dsimp only at hm
                  refine wpQ_indexT (v := v4330) Try.underlying33 T42 rfl rfl ((ho4331.st st4338.lt h4361)).reads h4434 rfl ?_
                  intro b4435 o4436 ha4437
                  refine wpQ_on 56 rfl rfl (bval' rfl hc4432) ?_
                  refine wpQ_load_rowT st4362.lt Try.underlying42 rfl T42 rfl ha4437 rfl ?_
                  intro es4438 hr4439
                  refine wpQ_on 56 rfl rfl (bval' rfl hc4432) ?_
                  refine wpQ_pure vp0_a (pure_move r4333) rfl ?_
                  refine wpQ_on 56 rfl rfl (bval' rfl hc4432) ?_
                  refine wpQ_pure (Value.int .i64 a4332) (pure_move r4336) rfl ?_
                  refine wpQ_on 56 rfl rfl (bval' rfl hc4432) ?_
                  obtain ⟨x4440, h4441, hm⟩ := bind_some hm
                  try dsimp only at hm
                  refine wpQ_indexT (v := vp0_a) Try.underlying33 T42 rfl rfl ((hp0_a.step (st4362.step hF0))).reads h4441 rfl ?_
                  intro b4442 o4443 ha4444
                  refine wpQ_on 56 rfl rfl (bval' rfl hc4432) ?_
                  refine wpQ_load_rowT st4362.lt Try.underlying42 rfl T42 rfl ha4444 rfl ?_
                  intro es4445 hr4446
                  refine wpQ_on 56 rfl rfl (bval' rfl hc4432) ?_
                  refine wpQ_pure (Value.bool (!(eqR rAward x4433 x4440))) (pure_neqT E42 (d := 9998) rfl G42 A42 rfl rfl hr4439 hr4446) rfl ?_
                  refine wpQ_on 53 rfl rfl (bval' rfl hc4428) ?_
                  refine wpQ_pure (Value.bool (!(eqR rAward x4433 x4440))) (pure_pick_true (bval rfl hc4432) rfl) rfl ?_
                  refine wpQ_pure (Value.bool (!(eqR rAward x4433 x4440))) (pure_pick_false (bval rfl hc4428) rfl) rfl ?_
                  refine wpQ_pure (Value.bool (!(eqR rAward x4433 x4440))) (pure_move rfl) rfl ?_
                  by_cases hc4447 : (!(eqR rAward x4433 x4440)) = true
                  · rw [if_pos hc4447] at hm
                    refine wpQ_off 68 rfl rfl (bval' rfl hc4447) (by decide) rfl ?_
                    refine wpQ_off 68 rfl rfl (bval' rfl hc4447) (by decide) rfl ?_
                    refine wpQ_offu 70 rfl rfl rfl rfl ?_
                    refine wpQ_offu 70 rfl rfl rfl rfl ?_
                    refine wpQ_offu 70 rfl rfl rfl rfl ?_
                    refine wpQ_offu 70 rfl rfl rfl rfl ?_
                    refine wpQ_offu 70 rfl rfl rfl rfl ?_
                    refine wpQ_offu 70 rfl rfl rfl rfl ?_
                    refine wpQ_offu 70 rfl rfl rfl rfl ?_
                    refine wpQ_offu 70 rfl rfl rfl rfl ?_
                    refine wpQ_offu 78 rfl rfl rfl rfl ?_
                    refine wpQ_offu 78 rfl rfl rfl rfl ?_
                    refine wpQ_offu 78 rfl rfl rfl rfl ?_
                    refine wpQ_offu 78 rfl rfl rfl rfl ?_
                    refine wpQ_offu 78 rfl rfl rfl rfl ?_
                    refine wpQ_offu 78 rfl rfl rfl rfl ?_
                    refine wpQ_offu 70 rfl rfl rfl rfl ?_
                    refine wpQ_off 68 rfl rfl (bval' rfl hc4447) (by decide) rfl ?_
                    refine wpQ_pure (Value.bool true) (pure_pick_true (bval rfl hc4447) rfl) rfl ?_
                    refine wpQ_nil ?_
                    intro w4449 h4448
                    have st4450 := st4362.trans h4448
                    refine thn_normal ?_
                    exact ⟨true, _, v4330, st4450, ((ho4331.st st4338.lt h4361).st st4362.lt h4448), r4333, r4334, r4335, r4336, rfl, hm⟩
                  · rw [if_neg hc4447] at hm
                    replace hc4447 := Bool.eq_false_iff.2 hc4447
                    refine wpQ_on 68 rfl rfl (bval' rfl hc4447) ?_
                    refine wpQ_pure (Value.bool y4354.2) (pure_move rfl) rfl ?_
                    refine wpQ_on 68 rfl rfl (bval' rfl hc4447) ?_
                    refine wpQ_pure (Value.bool y4354.2) (pure_move rfl) rfl ?_
                    by_cases hc4451 : y4354.2 = true
                    · rw [if_pos hc4451] at hm
                      refine wpQ_on 70 rfl rfl (bval' rfl hc4451) ?_
                      refine wpQ_pure v4330 (pure_move r4335) rfl ?_
                      refine wpQ_on 70 rfl rfl (bval' rfl hc4451) ?_
                      refine wpQ_pure (Value.int .i64 a4332) (pure_move r4336) rfl ?_
                      refine wpQ_on 70 rfl rfl (bval' rfl hc4451) ?_
                      obtain ⟨x4452, h4453, hm⟩ := bind_some hm
                      try dsimp only at hm
                      refine wpQ_indexT (v := v4330) Try.underlying33 T42 rfl rfl ((ho4331.st st4338.lt h4361)).reads h4453 rfl ?_
                      intro b4454 o4455 ha4456
                      refine wpQ_on 70 rfl rfl (bval' rfl hc4451) ?_
                      have ha4457 : At _ _ rInt b4454 (o4455 + 1) (x4452.2.1) := ha4456.path (.snd (.fst (.here))) 1 rfl
                      refine wpQ_pure (Value.pointer (some ⟨b4454, o4455 + 1, none⟩)) (pure_fieldT 1 Try.underlying42 rfl T3 rfl rfl) rfl ?_
                      refine wpQ_on 70 rfl rfl (bval' rfl hc4451) ?_
                      refine wpQ_load_int st4362.lt Try.underlying3 rfl rfl ha4457 rfl ?_
                      refine wpQ_on 70 rfl rfl (bval' rfl hc4451) ?_
                      refine wpQ_pure (Value.int .i64 y4354.1) (pure_move rfl) rfl ?_
                      refine wpQ_on 70 rfl rfl (bval' rfl hc4451) ?_
                      refine wpQ_pure (Value.bool (!decide (x4452.2.1 = y4354.1))) (pure_neq rfl rfl) rfl ?_
                      refine wpQ_on 70 rfl rfl (bval' rfl hc4451) ?_
                      refine wpQ_pure (Value.bool (!decide (x4452.2.1 = y4354.1))) (pure_move rfl) rfl ?_
                      by_cases hc4458 : (!decide (x4452.2.1 = y4354.1)) = true
                      · rw [if_pos hc4458] at hm
                        refine wpQ_off 78 rfl rfl (bval' rfl hc4458) (by decide) rfl ?_
                        refine wpQ_off 78 rfl rfl (bval' rfl hc4458) (by decide) rfl ?_
                        refine wpQ_off 78 rfl rfl (bval' rfl hc4458) (by decide) rfl ?_
                        refine wpQ_off 78 rfl rfl (bval' rfl hc4458) (by decide) rfl ?_
                        refine wpQ_off 78 rfl rfl (bval' rfl hc4458) (by decide) rfl ?_
                        refine wpQ_off 78 rfl rfl (bval' rfl hc4458) (by decide) rfl ?_
                        refine wpQ_on 70 rfl rfl (bval' rfl hc4451) ?_
                        refine wpQ_pure (Value.bool true) (pure_pick_true (bval rfl hc4458) rfl) rfl ?_
                        refine wpQ_on 68 rfl rfl (bval' rfl hc4447) ?_
                        refine wpQ_pure (Value.bool true) (pure_pick_true (bval rfl hc4451) rfl) rfl ?_
                        refine wpQ_pure (Value.bool true) (pure_pick_false (bval rfl hc4447) rfl) rfl ?_
                        refine wpQ_nil ?_
                        intro w4460 h4459
                        have st4461 := st4362.trans h4459
                        refine thn_normal ?_
                        exact ⟨true, _, v4330, st4461, ((ho4331.st st4338.lt h4361).st st4362.lt h4459), r4333, r4334, r4335, r4336, rfl, hm⟩
                      · rw [if_neg hc4458] at hm
                        replace hc4458 := Bool.eq_false_iff.2 hc4458
                        refine wpQ_on 78 rfl rfl (bval' rfl hc4458) ?_
                        refine wpQ_pure v4330 (pure_move r4335) rfl ?_
                        refine wpQ_on 78 rfl rfl (bval' rfl hc4458) ?_
                        refine wpQ_pure (Value.int .i64 a4332) (pure_move r4336) rfl ?_
                        refine wpQ_on 78 rfl rfl (bval' rfl hc4458) ?_
                        obtain ⟨x4462, h4463, hm⟩ := bind_some hm
                        try dsimp only at hm
                        refine wpQ_indexT (v := v4330) Try.underlying33 T42 rfl rfl ((ho4331.st st4338.lt h4361)).reads h4463 rfl ?_
                        intro b4464 o4465 ha4466
                        refine wpQ_on 78 rfl rfl (bval' rfl hc4458) ?_
                        have ha4467 : At _ _ rInt b4464 (o4465 + 2) (x4462.2.2) := ha4466.path (.snd (.snd (.here))) 2 rfl
                        refine wpQ_pure (Value.pointer (some ⟨b4464, o4465 + 2, none⟩)) (pure_fieldT 2 Try.underlying42 rfl T40 rfl rfl) rfl ?_
                        refine wpQ_on 78 rfl rfl (bval' rfl hc4458) ?_
                        refine wpQ_load_int st4362.lt Try.underlying40 rfl rfl ha4467 rfl ?_
                        refine wpQ_on 78 rfl rfl (bval' rfl hc4458) ?_
                        refine wpQ_pure (Value.bool (!decide (x4462.2.2 = (0 : Int)))) (pure_neq rfl rfl) rfl ?_
                        refine wpQ_on 70 rfl rfl (bval' rfl hc4451) ?_
                        refine wpQ_pure (Value.bool (!decide (x4462.2.2 = (0 : Int)))) (pure_pick_false (bval rfl hc4458) rfl) rfl ?_
                        refine wpQ_on 68 rfl rfl (bval' rfl hc4447) ?_
                        refine wpQ_pure (Value.bool (!decide (x4462.2.2 = (0 : Int)))) (pure_pick_true (bval rfl hc4451) rfl) rfl ?_
                        refine wpQ_pure (Value.bool (!decide (x4462.2.2 = (0 : Int)))) (pure_pick_false (bval rfl hc4447) rfl) rfl ?_
                        refine wpQ_nil ?_
                        intro w4469 h4468
                        have st4470 := st4362.trans h4468
                        refine thn_normal ?_
                        exact ⟨(!decide (x4462.2.2 = (0 : Int))), _, v4330, st4470, ((ho4331.st st4338.lt h4361).st st4362.lt h4468), r4333, r4334, r4335, r4336, rfl, hm⟩
                    · rw [if_neg hc4451] at hm
                      replace hc4451 := Bool.eq_false_iff.2 hc4451
                      refine wpQ_off 70 rfl rfl (bval' rfl hc4451) (by decide) rfl ?_
                      refine wpQ_off 70 rfl rfl (bval' rfl hc4451) (by decide) rfl ?_
                      refine wpQ_off 70 rfl rfl (bval' rfl hc4451) (by decide) rfl ?_
                      refine wpQ_off 70 rfl rfl (bval' rfl hc4451) (by decide) rfl ?_
                      refine wpQ_off 70 rfl rfl (bval' rfl hc4451) (by decide) rfl ?_
                      refine wpQ_off 70 rfl rfl (bval' rfl hc4451) (by decide) rfl ?_
                      refine wpQ_off 70 rfl rfl (bval' rfl hc4451) (by decide) rfl ?_
                      refine wpQ_off 70 rfl rfl (bval' rfl hc4451) (by decide) rfl ?_
                      refine wpQ_offu 78 rfl rfl rfl rfl ?_
                      refine wpQ_offu 78 rfl rfl rfl rfl ?_
                      refine wpQ_offu 78 rfl rfl rfl rfl ?_
                      refine wpQ_offu 78 rfl rfl rfl rfl ?_
                      refine wpQ_offu 78 rfl rfl rfl rfl ?_
                      refine wpQ_offu 78 rfl rfl rfl rfl ?_
                      refine wpQ_off 70 rfl rfl (bval' rfl hc4451) (by decide) rfl ?_
                      refine wpQ_on 68 rfl rfl (bval' rfl hc4447) ?_
                      refine wpQ_pure (Value.bool false) (pure_pick_false (bval rfl hc4451) rfl) rfl ?_
                      refine wpQ_pure (Value.bool false) (pure_pick_false (bval rfl hc4447) rfl) rfl ?_
                      refine wpQ_nil ?_
                      intro w4472 h4471
                      have st4473 := st4362.trans h4471
                      refine thn_normal ?_
                      exact ⟨false, _, v4330, st4473, ((ho4331.st st4338.lt h4361).st st4362.lt h4471), r4333, r4334, r4335, r4336, rfl, hm⟩
                · rw [if_neg hc4432] at hm
                  replace hc4432 := Bool.eq_false_iff.2 hc4432
                  refine wpQ_off 56 rfl rfl (bval' rfl hc4432) (by decide) rfl ?_
                  refine wpQ_off 56 rfl rfl (bval' rfl hc4432) (by decide) rfl ?_
                  refine wpQ_off 56 rfl rfl (bval' rfl hc4432) (by decide) rfl ?_
                  refine wpQ_off 56 rfl rfl (bval' rfl hc4432) (by decide) rfl ?_
                  refine wpQ_off 56 rfl rfl (bval' rfl hc4432) (by decide) rfl ?_
                  refine wpQ_off 56 rfl rfl (bval' rfl hc4432) (by decide) rfl ?_
                  refine wpQ_off 56 rfl rfl (bval' rfl hc4432) (by decide) rfl ?_
                  refine wpQ_off 56 rfl rfl (bval' rfl hc4432) (by decide) rfl ?_
                  refine wpQ_off 56 rfl rfl (bval' rfl hc4432) (by decide) rfl ?_
                  refine wpQ_on 53 rfl rfl (bval' rfl hc4428) ?_
                  refine wpQ_pure (Value.bool false) (pure_pick_false (bval rfl hc4432) rfl) rfl ?_
                  refine wpQ_pure (Value.bool false) (pure_pick_false (bval rfl hc4428) rfl) rfl ?_
                  refine wpQ_pure (Value.bool false) (pure_move rfl) rfl ?_
                  refine wpQ_on 68 rfl rfl rfl ?_
                  refine wpQ_pure (Value.bool y4354.2) (pure_move rfl) rfl ?_
                  refine wpQ_on 68 rfl rfl rfl ?_
                  refine wpQ_pure (Value.bool y4354.2) (pure_move rfl) rfl ?_
                  by_cases hc4474 : y4354.2 = true
                  · rw [if_pos hc4474] at hm
                    refine wpQ_on 70 rfl rfl (bval' rfl hc4474) ?_
                    refine wpQ_pure v4330 (pure_move r4335) rfl ?_
                    refine wpQ_on 70 rfl rfl (bval' rfl hc4474) ?_
                    refine wpQ_pure (Value.int .i64 a4332) (pure_move r4336) rfl ?_
                    refine wpQ_on 70 rfl rfl (bval' rfl hc4474) ?_
                    obtain ⟨x4475, h4476, hm⟩ := bind_some hm
                    try dsimp only at hm
                    refine wpQ_indexT (v := v4330) Try.underlying33 T42 rfl rfl ((ho4331.st st4338.lt h4361)).reads h4476 rfl ?_
                    intro b4477 o4478 ha4479
                    refine wpQ_on 70 rfl rfl (bval' rfl hc4474) ?_
                    have ha4480 : At _ _ rInt b4477 (o4478 + 1) (x4475.2.1) := ha4479.path (.snd (.fst (.here))) 1 rfl
                    refine wpQ_pure (Value.pointer (some ⟨b4477, o4478 + 1, none⟩)) (pure_fieldT 1 Try.underlying42 rfl T3 rfl rfl) rfl ?_
                    refine wpQ_on 70 rfl rfl (bval' rfl hc4474) ?_
                    refine wpQ_load_int st4362.lt Try.underlying3 rfl rfl ha4480 rfl ?_
                    refine wpQ_on 70 rfl rfl (bval' rfl hc4474) ?_
                    refine wpQ_pure (Value.int .i64 y4354.1) (pure_move rfl) rfl ?_
                    refine wpQ_on 70 rfl rfl (bval' rfl hc4474) ?_
                    refine wpQ_pure (Value.bool (!decide (x4475.2.1 = y4354.1))) (pure_neq rfl rfl) rfl ?_
                    refine wpQ_on 70 rfl rfl (bval' rfl hc4474) ?_
                    refine wpQ_pure (Value.bool (!decide (x4475.2.1 = y4354.1))) (pure_move rfl) rfl ?_
                    by_cases hc4481 : (!decide (x4475.2.1 = y4354.1)) = true
                    · rw [if_pos hc4481] at hm
                      refine wpQ_off 78 rfl rfl (bval' rfl hc4481) (by decide) rfl ?_
                      refine wpQ_off 78 rfl rfl (bval' rfl hc4481) (by decide) rfl ?_
                      refine wpQ_off 78 rfl rfl (bval' rfl hc4481) (by decide) rfl ?_
                      refine wpQ_off 78 rfl rfl (bval' rfl hc4481) (by decide) rfl ?_
                      refine wpQ_off 78 rfl rfl (bval' rfl hc4481) (by decide) rfl ?_
                      refine wpQ_off 78 rfl rfl (bval' rfl hc4481) (by decide) rfl ?_
                      refine wpQ_on 70 rfl rfl (bval' rfl hc4474) ?_
                      refine wpQ_pure (Value.bool true) (pure_pick_true (bval rfl hc4481) rfl) rfl ?_
                      refine wpQ_on 68 rfl rfl rfl ?_
                      refine wpQ_pure (Value.bool true) (pure_pick_true (bval rfl hc4474) rfl) rfl ?_
                      refine wpQ_pure (Value.bool true) (pure_pick_false rfl rfl) rfl ?_
                      refine wpQ_nil ?_
                      intro w4483 h4482
                      have st4484 := st4362.trans h4482
                      refine thn_normal ?_
                      exact ⟨true, _, v4330, st4484, ((ho4331.st st4338.lt h4361).st st4362.lt h4482), r4333, r4334, r4335, r4336, rfl, hm⟩
                    · rw [if_neg hc4481] at hm
                      replace hc4481 := Bool.eq_false_iff.2 hc4481
                      refine wpQ_on 78 rfl rfl (bval' rfl hc4481) ?_
                      refine wpQ_pure v4330 (pure_move r4335) rfl ?_
                      refine wpQ_on 78 rfl rfl (bval' rfl hc4481) ?_
                      refine wpQ_pure (Value.int .i64 a4332) (pure_move r4336) rfl ?_
                      refine wpQ_on 78 rfl rfl (bval' rfl hc4481) ?_
                      obtain ⟨x4485, h4486, hm⟩ := bind_some hm
                      try dsimp only at hm
                      refine wpQ_indexT (v := v4330) Try.underlying33 T42 rfl rfl ((ho4331.st st4338.lt h4361)).reads h4486 rfl ?_
                      intro b4487 o4488 ha4489
                      refine wpQ_on 78 rfl rfl (bval' rfl hc4481) ?_
                      have ha4490 : At _ _ rInt b4487 (o4488 + 2) (x4485.2.2) := ha4489.path (.snd (.snd (.here))) 2 rfl
                      refine wpQ_pure (Value.pointer (some ⟨b4487, o4488 + 2, none⟩)) (pure_fieldT 2 Try.underlying42 rfl T40 rfl rfl) rfl ?_
                      refine wpQ_on 78 rfl rfl (bval' rfl hc4481) ?_
                      refine wpQ_load_int st4362.lt Try.underlying40 rfl rfl ha4490 rfl ?_
                      refine wpQ_on 78 rfl rfl (bval' rfl hc4481) ?_
                      refine wpQ_pure (Value.bool (!decide (x4485.2.2 = (0 : Int)))) (pure_neq rfl rfl) rfl ?_
                      refine wpQ_on 70 rfl rfl (bval' rfl hc4474) ?_
                      refine wpQ_pure (Value.bool (!decide (x4485.2.2 = (0 : Int)))) (pure_pick_false (bval rfl hc4481) rfl) rfl ?_
                      refine wpQ_on 68 rfl rfl rfl ?_
                      refine wpQ_pure (Value.bool (!decide (x4485.2.2 = (0 : Int)))) (pure_pick_true (bval rfl hc4474) rfl) rfl ?_
                      refine wpQ_pure (Value.bool (!decide (x4485.2.2 = (0 : Int)))) (pure_pick_false rfl rfl) rfl ?_
                      refine wpQ_nil ?_
                      intro w4492 h4491
                      have st4493 := st4362.trans h4491
                      refine thn_normal ?_
                      exact ⟨(!decide (x4485.2.2 = (0 : Int))), _, v4330, st4493, ((ho4331.st st4338.lt h4361).st st4362.lt h4491), r4333, r4334, r4335, r4336, rfl, hm⟩
                  · rw [if_neg hc4474] at hm
                    replace hc4474 := Bool.eq_false_iff.2 hc4474
                    refine wpQ_off 70 rfl rfl (bval' rfl hc4474) (by decide) rfl ?_
                    refine wpQ_off 70 rfl rfl (bval' rfl hc4474) (by decide) rfl ?_
                    refine wpQ_off 70 rfl rfl (bval' rfl hc4474) (by decide) rfl ?_
                    refine wpQ_off 70 rfl rfl (bval' rfl hc4474) (by decide) rfl ?_
                    refine wpQ_off 70 rfl rfl (bval' rfl hc4474) (by decide) rfl ?_
                    refine wpQ_off 70 rfl rfl (bval' rfl hc4474) (by decide) rfl ?_
                    refine wpQ_off 70 rfl rfl (bval' rfl hc4474) (by decide) rfl ?_
                    refine wpQ_off 70 rfl rfl (bval' rfl hc4474) (by decide) rfl ?_
                    refine wpQ_offu 78 rfl rfl rfl rfl ?_
                    refine wpQ_offu 78 rfl rfl rfl rfl ?_
                    refine wpQ_offu 78 rfl rfl rfl rfl ?_
                    refine wpQ_offu 78 rfl rfl rfl rfl ?_
                    refine wpQ_offu 78 rfl rfl rfl rfl ?_
                    refine wpQ_offu 78 rfl rfl rfl rfl ?_
                    refine wpQ_off 70 rfl rfl (bval' rfl hc4474) (by decide) rfl ?_
                    refine wpQ_on 68 rfl rfl rfl ?_
                    refine wpQ_pure (Value.bool false) (pure_pick_false (bval rfl hc4474) rfl) rfl ?_
                    refine wpQ_pure (Value.bool false) (pure_pick_false rfl rfl) rfl ?_
                    refine wpQ_nil ?_
                    intro w4495 h4494
                    have st4496 := st4362.trans h4494
                    refine thn_normal ?_
                    exact ⟨false, _, v4330, st4496, ((ho4331.st st4338.lt h4361).st st4362.lt h4494), r4333, r4334, r4335, r4336, rfl, hm⟩
            · skip
              rintro ρ w ⟨a4407, F4413, v4405, st4414, ho4406, r4408, r4409, r4410, r4411, r4412, hm⟩
              rw [M.law42_RulingIdempotent_k4] at hm
              by_cases hc4497 : a4407 = true
              · rw [if_pos hc4497] at hm
                refine wpC_true (bval r4412 hc4497) ?_
                refine wpC_seq ?_
                refine wpC_region ?_
                refine wpS_pure (Value.bool false) (pure_assign rfl) rfl ?_
                refine wpS_nil ?_
                refine thn_normal ?_
                refine wpC_ret ?_
                refine inB_ret ?_
                refine thn_ret ?_
                obtain rfl := Option.some.inj hm
                refine loopQ_ret (fun hx => ?_)
                subst hx
                have hm4498 : some (false) = some r := hm4342
                refine joinQ_ret ?_
                refine thn_ret ?_
                obtain rfl := Option.some.inj hm4498
                refine bodyQ_ret1 Try.results7 (Value.bool false) rfl ?_
                exact ⟨_, st4414, rfl⟩
              · rw [if_neg hc4497] at hm
                replace hc4497 := Bool.eq_false_iff.2 hc4497
                refine wpC_false (bval r4412 hc4497) ?_
                refine wpC_skip ?_
                refine inB_normal ?_
                refine thn_normal ?_
                refine wpC_region ?_
                refine wpS_pure (Value.int .i64 a4332) (pure_move r4411) rfl ?_
                refine wpS_pure (Value.int .i64 (IntKind.i64.wrap (a4332 + (1 : Int)))) (pure_add rfl rfl) rfl ?_
                refine wpS_pure (Value.int .i64 (IntKind.i64.wrap (a4332 + (1 : Int)))) (pure_assign rfl) rfl ?_
                refine wpS_nil ?_
                obtain rfl := Option.some.inj hm
                refine loopQ_in ?_
                exact ⟨(IntKind.i64.wrap (a4332 + (1 : Int))), _, v4405, rfl, st4414, ho4406, r4408, r4409, r4410, rfl⟩
          · rw [if_neg hc4347] at hm
            replace hc4347 := Bool.eq_false_iff.2 hc4347
            refine wpC_false (bval rfl hc4347) ?_
            refine wpC_exit ?_
            refine thn_exit ?_
            obtain rfl := Option.some.inj hm
            refine loopQ_exit (fun hx => ?_)
            subst hx
            have hm4499 : M.law42_RulingIdempotent_k2 N p1_l y4025 = some r := hm4342
            refine joinQ_same ?_
            exact ⟨_, v4330, st4338, ho4331, r4334, r4335, hm4499⟩
      · skip
        rintro ρ w ⟨F4213, v4209, st4214, ho4210, r4211, r4212, hm⟩
        rw [M.law42_RulingIdempotent_k2] at hm
        refine thn_normal ?_
        refine wpC_seq ?_
        refine wpC_region ?_
        refine wpS_pure v4209 (pure_move r4212) rfl ?_
        refine wpS_pure vp1_l (pure_move r4211) rfl ?_
        have hr4501 := (ho4210).freeze
        have st4500 := st4214.fz ho4210
        obtain ⟨y4502, h4503, hm⟩ := bind_some hm
        try dsimp only at hm
        refine wpS_call (vs := [v4209, vp1_l]) Try.func17 nm17 bd17 (m_cons rfl (m_cons rfl m_nil)) (M.ruling_Apply_walk N _ _ st4500.lt y4025 v4209 hr4501 p1_l vp1_l (hp1_l.step (st4500.step hF0)) y4502 h4503) rfl ?_
        rintro v4504 w4505 ⟨F4506, h4507, hv4508⟩
        have st4509 := st4500.trans h4507
        obtain ⟨ho4510, hn4511⟩ := hv4508
        have ho4512 := ho4510.lower st4500.below.size
        refine wpS_pure v4209 (pure_move r4212) rfl ?_
        have st4514 := st4509.fz ho4512
        have hr4515 := (ho4512).freeze
        obtain ⟨y4516, h4517, hm⟩ := bind_some hm
        try dsimp only at hm
        refine wpS_call (vs := [v4504, v4209]) Try.func16 nm16 bd16 (m_cons rfl (m_cons rfl m_nil)) (M.same_Awards_walk N _ _ st4514.lt y4502 v4504 hr4515 y4025 v4209 ((hr4501.step (h4507.step st4500.lt)).step (Step.freeze _ _ _)) y4516 h4517) rfl ?_
        rintro v4518 w4519 ⟨F4520, h4521, hv4522⟩
        have h4523 := h4521.narrow st4509.lt
        have st4524 := st4509.trans h4523
        obtain rfl := hv4522
        refine wpS_pure (Value.bool y4516) (pure_move rfl) rfl ?_
        by_cases hc4525 : y4516 = true
        · rw [if_pos hc4525] at hm
          refine wpS_on 93 rfl rfl (bval' rfl hc4525) ?_
          obtain ⟨y4526, h4527, hm⟩ := bind_some hm
          try dsimp only at hm
          refine wpS_call (vs := []) Try.func8 nm8 bd8 m_nil (M.law42_awake_walk N _ _ st4524.lt y4526 h4527) rfl ?_
          rintro v4528 w4529 ⟨F4530, h4531, hv4532⟩
          have h4533 := h4531.narrow st4524.lt
          have st4534 := st4524.trans h4533
          obtain rfl := hv4532
          refine wpS_pure (Value.bool y4526) (pure_pick_true (bval rfl hc4525) rfl) rfl ?_
          refine wpS_pure (Value.bool y4526) (pure_assign rfl) rfl ?_
          refine wpS_nil ?_
          refine thn_normal ?_
          refine wpC_ret ?_
          obtain rfl := Option.some.inj hm
          refine bodyQ_ret1 Try.results7 (Value.bool y4526) rfl ?_
          exact ⟨_, st4534, rfl⟩
        · rw [if_neg hc4525] at hm
          replace hc4525 := Bool.eq_false_iff.2 hc4525
          refine wpS_off 93 rfl rfl (bval' rfl hc4525) (by decide) rfl ?_
          refine wpS_pure (Value.bool false) (pure_pick_false (bval rfl hc4525) rfl) rfl ?_
          refine wpS_pure (Value.bool false) (pure_assign rfl) rfl ?_
          refine wpS_nil ?_
          refine thn_normal ?_
          refine wpC_ret ?_
          obtain rfl := Option.some.inj hm
          refine bodyQ_ret1 Try.results7 (Value.bool false) rfl ?_
          exact ⟨_, st4524, rfl⟩

end Go.Proofs.Yteoiedcenhlhnaa
