/- The walks, by program (gen.py), the next part: what each function returns is what its model says. -/
import Derived.Test.YtncajogcgkmpmaaWalkA
namespace Go.Proofs.Ytncajogcgkmpmaa
open Go Go.RowKit

set_option maxRecDepth 100000 in
set_option maxHeartbeats 1000000 in
theorem M.law48_ShardPartition_walk (N : Nat) (w0 : World) (F0 : Nat → Prop) (hF0 : ∀ b, F0 b → b < w0.heap.size) (p0_ids : List Int) (vp0_ids : Value) (hp0_ids : Rep F0 w0 (Row.slice rInt) [vp0_ids] p0_ids) (p1_n : Int) (r : Bool) (hm : M.law48_ShardPartition N p0_ids p1_n = some r) :
    Calls Try.prog 6 [vp0_ids, (Value.int .i64 p1_n)].toArray w0 fun e w => ∃ v, e = .returned v ∧ ∃ F, St w0 F0 w F ∧ v = (Value.bool r) := by
 refine calls_of_wpC Try.func6 rfl (Nat.le_of_ble_eq_true rfl) ?_
 intro ρ hρ
 have st0 := St.refl hF0
 rw [M.law48_ShardPartition] at hm
 refine wpC_seq ?_
 refine wpC_region ?_
 refine wpS_pure (Value.bool false) (pure_assign rfl) rfl ?_
 refine wpS_nil ?_
 refine thn_normal ?_
 refine wpC_seq ?_
 refine wpC_seq ?_
 refine wpC_region ?_
 refine wpS_pure vp0_ids (pure_move (hρ 0 _ rfl)) rfl ?_
 refine wpS_len (v := vp0_ids) Try.underlying25 rfl ((hp0_ids.step (st0.step hF0))).reads rfl ?_
 refine wpS_pure (Value.bool (decide ((200 : Int) < (p0_ids.length : Int)))) (pure_gtr rfl rfl) rfl ?_
 refine wpS_pure (Value.bool (decide ((200 : Int) < (p0_ids.length : Int)))) (pure_move rfl) rfl ?_
 refine wpS_gpure (dj := 19) rfl rfl rfl (Value.int .i64 p1_n) (fun hg => pure_move (hρ 1 _ rfl)) rfl ?_
 refine wpS_gpure (dj := 19) rfl rfl rfl (Value.bool (decide (p1_n < (1 : Int)))) (fun hg => pure_lss (gval rfl hg) rfl) rfl ?_
 refine wpS_pure (Value.bool ((decide ((200 : Int) < (p0_ids.length : Int))) || (decide (p1_n < (1 : Int))))) (pure_pick_or rfl rfl rfl) rfl ?_
 refine wpS_pure (Value.bool ((decide ((200 : Int) < (p0_ids.length : Int))) || (decide (p1_n < (1 : Int))))) (pure_move rfl) rfl ?_
 refine wpS_gpure (dj := 23) rfl rfl rfl (Value.int .i64 p1_n) (fun hg => pure_move (hρ 1 _ rfl)) rfl ?_
 refine wpS_gpure (dj := 23) rfl rfl rfl (Value.bool (decide ((8 : Int) < p1_n))) (fun hg => pure_gtr (gval rfl hg) rfl) rfl ?_
 refine wpS_pure (Value.bool (((decide ((200 : Int) < (p0_ids.length : Int))) || (decide (p1_n < (1 : Int)))) || (decide ((8 : Int) < p1_n)))) (pure_pick_or rfl rfl rfl) rfl ?_
 refine wpS_nil ?_
 refine thn_normal ?_
 by_cases hc6333 : (((decide ((200 : Int) < (p0_ids.length : Int))) || (decide (p1_n < (1 : Int)))) || (decide ((8 : Int) < p1_n))) = true
 ·rw [if_pos hc6333] at hm
  refine wpC_true (bval rfl hc6333) ?_
  refine wpC_seq ?_
  refine wpC_region ?_
  obtain ⟨y6334, h6335, hm⟩ := bind_some hm
  try dsimp only at hm
  refine wpS_call (vs := []) Try.func9 nm9 bd9 m_nil (M.law48_awake_walk N _ _ st0.lt y6334 h6335) rfl ?_
  rintro v6336 w6337 ⟨F6338, h6339, hv6340⟩
  have h6341 := h6339.narrow st0.lt
  have st6342 := st0.trans h6341
  obtain rfl := hv6340
  refine wpS_pure (Value.bool y6334) (pure_assign rfl) rfl ?_
  refine wpS_nil ?_
  refine thn_normal ?_
  refine wpC_ret ?_
  refine thn_ret ?_
  obtain rfl := Option.some.inj hm
  refine bodyQ_ret1 Try.results6 (Value.bool y6334) rfl ?_
  exact ⟨_, st6342, rfl⟩
 ·rw [if_neg hc6333] at hm
  replace hc6333 := Bool.eq_false_iff.2 hc6333
  refine wpC_false (bval rfl hc6333) ?_
  refine wpC_skip ?_
  refine thn_normal ?_
  refine wpC_seq ?_
  refine wpC_region ?_
  refine wpS_pure vp0_ids (pure_move (hρ 0 _ rfl)) rfl ?_
  obtain ⟨y6343, h6344, hm⟩ := bind_some hm
  try dsimp only at hm
  refine wpS_call (vs := [vp0_ids]) Try.func10 nm10 bd10 (m_cons rfl m_nil) (M.law48_accounts_walk N _ _ st0.lt p0_ids vp0_ids (hp0_ids.step (st0.step hF0)) y6343 h6344) rfl ?_
  rintro v6345 w6346 ⟨F6347, h6348, hv6349⟩
  have st6350 := st0.trans h6348
  obtain ⟨ho6351, hn6352⟩ := hv6349
  have ho6353 := ho6351.lower st0.below.size
  refine wpS_pure v6345 (pure_assign rfl) rfl ?_
  refine wpS_nil ?_
  refine thn_normal ?_
  refine wpC_seq ?_
  refine wpC_region ?_
  refine wpS_pure v6345 (pure_move rfl) rfl ?_
  refine wpS_pure (Value.int .i64 p1_n) (pure_move (hρ 1 _ rfl)) rfl ?_
  have hr6356 := (ho6353).freeze
  have st6355 := st6350.fz ho6353
  obtain ⟨y6357, h6358, hm⟩ := bind_some hm
  try dsimp only at hm
  refine wpS_call (vs := [v6345, (Value.int .i64 p1_n)]) Try.func12 nm12 bd12 (m_cons rfl (m_cons rfl m_nil)) (M.shard_Partition_walk N _ _ st6355.lt y6343 v6345 hr6356 p1_n y6357 h6358) rfl ?_
  rintro v6359 w6360 ⟨F6361, h6362, hv6363⟩
  have st6364 := st6355.trans h6362
  refine wpS_pure v6359 (pure_assign rfl) rfl ?_
  refine wpS_nil ?_
  refine thn_normal ?_
  refine wpC_seq ?_
  refine wpC_seq ?_
  refine wpC_region ?_
  refine wpS_pure v6359 (pure_move rfl) rfl ?_
  refine wpS_len (v := v6359) Try.underlying29 rfl (hv6363).reads rfl ?_
  refine wpS_pure (Value.int .i64 p1_n) (pure_move (hρ 1 _ rfl)) rfl ?_
  refine wpS_pure (Value.bool (!decide ((y6357.length : Int) = p1_n))) (pure_neq rfl rfl) rfl ?_
  refine wpS_nil ?_
  refine thn_normal ?_
  by_cases hc6365 : (!decide ((y6357.length : Int) = p1_n)) = true
  ·rw [if_pos hc6365] at hm
   refine wpC_true (bval rfl hc6365) ?_
   refine wpC_seq ?_
   refine wpC_region ?_
   refine wpS_pure (Value.bool false) (pure_assign rfl) rfl ?_
   refine wpS_nil ?_
   refine thn_normal ?_
   refine wpC_ret ?_
   refine thn_ret ?_
   obtain rfl := Option.some.inj hm
   refine bodyQ_ret1 Try.results6 (Value.bool false) rfl ?_
   exact ⟨_, st6364, rfl⟩
  ·rw [if_neg hc6365] at hm
   replace hc6365 := Bool.eq_false_iff.2 hc6365
   refine wpC_false (bval rfl hc6365) ?_
   refine wpC_skip ?_
   refine thn_normal ?_
   refine wpC_seq ?_
   refine wpC_region ?_
   refine wpS_pure v6345 (pure_move rfl) rfl ?_
   refine wpS_len (v := v6345) Try.underlying26 rfl ((hr6356.step (h6362.step st6355.lt))).reads rfl ?_
   obtain ⟨l6366, h6367, hm⟩ := bind_some hm
   try dsimp only at hm
   refine wpS_makeT (base := w0.heap.size) Try.underlying25 T3 rfl rfl h6367 st6364.lt st6364.below.size rfl ?_
   intro v6368 w6369 h6370 ho6371 hn6372
   have st6373 := st6364.trans h6370
   refine wpS_pure v6368 (pure_assign rfl) rfl ?_
   refine wpS_nil ?_
   refine thn_normal ?_
   refine wpC_seq ?_
   refine wpC_region ?_
   refine wpS_pure (Value.slice none 0 0) (pure_assign rfl) rfl ?_
   refine wpS_nil ?_
   refine thn_normal ?_
   refine wpC_seq ?_
   refine wpC_seq ?_
   refine wpC_region ?_
   refine wpS_pure (Value.int .i64 (0 : Int)) (pure_assign rfl) rfl ?_
   refine wpS_nil ?_
   refine thn_normal ?_
   refine wpC_block_join (fun ρ w => ∃ (a8048 : List Int) (a8051 : List (List rAccount.den)) (F8059 : Nat → Prop) (v8043 : Value) (v8045 : Value) (v8047 : Value) (v8050 : Value), St w0 F0 w F8059 ∧ Own w0.heap.size F8059 w 3 rInt v8047 a8048 ∧ Own w0.heap.size F8059 w 26 (Row.slice rAccount) v8050 a8051 ∧ (∀ k, mine v8047 k → ¬ mine v8050 k) ∧ ρ 0 = vp0_ids ∧ ρ 5 = v8043 ∧ Rep F8059 w (Row.slice rAccount) [v8043] y6343 ∧ ρ 6 = v8045 ∧ Rep F8059 w (Row.slice (Row.slice rInt)) [v8045] y6357 ∧ ρ 7 = v8047 ∧ ρ 8 = v8050 ∧ M.law48_ShardPartition_k1 N p0_ids y6343 y6357 a8048 a8051 = some r) ?_ ?_
   ·skip
    obtain ⟨x9338, hL9339, hm9340⟩ := bind_some hm
    clear hm
    refine wpC_loop (fun (s : List Int × List (List rAccount.den) × Int) ρ w => ∃ (a9320 : List Int) (a9323 : List (List rAccount.den)) (a9326 : Int) (F9334 : Nat → Prop) (v9315 : Value) (v9317 : Value) (v9319 : Value) (v9322 : Value), (a9320, a9323, a9326) = s ∧ St w0 F0 w F9334 ∧ Own w0.heap.size F9334 w 3 rInt v9319 a9320 ∧ Own w0.heap.size F9334 w 26 (Row.slice rAccount) v9322 a9323 ∧ (∀ k, mine v9319 k → ¬ mine v9322 k) ∧ ρ 0 = vp0_ids ∧ ρ 1 = (Value.int .i64 p1_n) ∧ ρ 5 = v9315 ∧ Rep F9334 w (Row.slice rAccount) [v9315] y6343 ∧ ρ 6 = v9317 ∧ Rep F9334 w (Row.slice (Row.slice rInt)) [v9317] y6357 ∧ ρ 7 = v9319 ∧ ρ 8 = v9322 ∧ ρ 9 = (Value.int .i64 a9326)) hL9339 ?_ ?_
    ·exact ⟨l6366, [], (0 : Int), _, v6345, v6359, v6368, (Value.slice none 0 0), rfl, st6373, ho6371, (Own.nil _ _ _ _ _), (fun k _ hk => by simp [mine, Value.ownBlock] at hk), (hρ 0 _ rfl), (hρ 1 _ rfl), rfl, ((hr6356.step (h6362.step st6355.lt)).step (h6370.step st6364.lt)), rfl, (hv6363.step (h6370.step st6364.lt)), rfl, rfl, rfl⟩
    ·skip
     rintro s ρ w y9343 ⟨a9320, a9323, a9326, F9334, v9315, v9317, v9319, v9322, rfl, st9335, ho9321, ho9325, ap9336, r9327, r9328, r9329, hr9316, r9330, hr9318, r9331, r9332, r9333⟩ hm9344
     have hm : M.law48_ShardPartition_k2 N p0_ids p1_n y6343 y6357 a9320 a9323 a9326 = some y9343 := hm9344
     clear hm9344
     rw [M.law48_ShardPartition_k2] at hm
     refine wpC_seq ?_
     refine wpC_seq ?_
     refine wpC_region ?_
     refine wpS_pure (Value.int .i64 a9326) (pure_move r9333) rfl ?_
     refine wpS_pure (Value.int .i64 p1_n) (pure_move r9328) rfl ?_
     refine wpS_pure (Value.bool (decide (a9326 < p1_n))) (pure_lss rfl rfl) rfl ?_
     refine wpS_nil ?_
     refine thn_normal ?_
     by_cases hc9345 : (decide (a9326 < p1_n)) = true
     ·rw [if_pos hc9345] at hm
      refine wpC_true (bval rfl hc9345) ?_
      refine wpC_skip ?_
      refine thn_normal ?_
      refine wpC_seq ?_
      refine wpC_block ?_
      refine wpC_seq ?_
      refine wpC_region ?_
      refine wpS_pure (Value.slice none 0 0) (pure_assign rfl) rfl ?_
      refine wpS_nil ?_
      refine thn_normal ?_
      refine wpC_seq ?_
      refine wpC_seq ?_
      refine wpC_region ?_
      refine wpS_pure (Value.int .i64 (0 : Int)) (pure_assign rfl) rfl ?_
      refine wpS_nil ?_
      refine thn_normal ?_
      refine wpC_block_join (fun ρ w => ∃ (a9751 : List Int) (a9756 : List rAccount.den) (F9767 : Nat → Prop) (v9746 : Value) (v9748 : Value) (v9750 : Value) (v9753 : Value) (v9755 : Value), St w0 F0 w F9767 ∧ Own w0.heap.size F9767 w 3 rInt v9750 a9751 ∧ Own w0.heap.size F9767 w 26 (Row.slice rAccount) v9753 a9323 ∧ Own w0.heap.size F9767 w 42 rAccount v9755 a9756 ∧ (∀ k, mine v9750 k → ¬ mine v9753 k) ∧ (∀ k, mine v9750 k → ¬ mine v9755 k) ∧ (∀ k, mine v9753 k → ¬ mine v9755 k) ∧ ρ 0 = vp0_ids ∧ ρ 1 = (Value.int .i64 p1_n) ∧ ρ 5 = v9746 ∧ Rep F9767 w (Row.slice rAccount) [v9746] y6343 ∧ ρ 6 = v9748 ∧ Rep F9767 w (Row.slice (Row.slice rInt)) [v9748] y6357 ∧ ρ 7 = v9750 ∧ ρ 8 = v9753 ∧ ρ 9 = (Value.int .i64 a9326) ∧ ρ 10 = v9755 ∧ M.law48_ShardPartition_k3 N a9323 a9326 a9751 a9756 = some y9343) ?_ ?_
      ·skip
       obtain ⟨x10103, hL10104, hm10105⟩ := bind_some hm
       clear hm
       refine wpC_loop (fun (s : List Int × List rAccount.den × Int) ρ w => ∃ (a10079 : List Int) (a10084 : List rAccount.den) (a10087 : Int) (F10097 : Nat → Prop) (v10074 : Value) (v10076 : Value) (v10078 : Value) (v10081 : Value) (v10083 : Value), (a10079, a10084, a10087) = s ∧ St w0 F0 w F10097 ∧ Own w0.heap.size F10097 w 3 rInt v10078 a10079 ∧ Own w0.heap.size F10097 w 26 (Row.slice rAccount) v10081 a9323 ∧ Own w0.heap.size F10097 w 42 rAccount v10083 a10084 ∧ (∀ k, mine v10078 k → ¬ mine v10081 k) ∧ (∀ k, mine v10078 k → ¬ mine v10083 k) ∧ (∀ k, mine v10081 k → ¬ mine v10083 k) ∧ ρ 0 = vp0_ids ∧ ρ 1 = (Value.int .i64 p1_n) ∧ ρ 5 = v10074 ∧ Rep F10097 w (Row.slice rAccount) [v10074] y6343 ∧ ρ 6 = v10076 ∧ Rep F10097 w (Row.slice (Row.slice rInt)) [v10076] y6357 ∧ ρ 7 = v10078 ∧ ρ 8 = v10081 ∧ ρ 9 = (Value.int .i64 a9326) ∧ ρ 10 = v10083 ∧ ρ 11 = (Value.int .i64 a10087)) hL10104 ?_ ?_
       ·exact ⟨a9320, [], (0 : Int), _, v9315, v9317, v9319, v9322, (Value.slice none 0 0), rfl, st9335, ho9321, ho9325, (Own.nil _ _ _ _ _), ap9336, (fun k _ hk => by simp [mine, Value.ownBlock] at hk), (fun k _ hk => by simp [mine, Value.ownBlock] at hk), r9327, r9328, r9329, hr9316, r9330, hr9318, r9331, r9332, r9333, rfl, rfl⟩
       ·skip
        rintro s ρ w y10108 ⟨a10079, a10084, a10087, F10097, v10074, v10076, v10078, v10081, v10083, rfl, st10098, ho10080, ho10082, ho10086, ap10099, ap10100, ap10101, r10088, r10089, r10090, hr10075, r10091, hr10077, r10092, r10093, r10094, r10095, r10096⟩ hm10109
        have hm : M.law48_ShardPartition_k4 N p0_ids p1_n y6343 y6357 a9326 a10079 a10084 a10087 = some y10108 := hm10109
        clear hm10109
        rw [M.law48_ShardPartition_k4] at hm
        refine wpC_seq ?_
        refine wpC_seq ?_
        refine wpC_region ?_
        refine wpS_pure (Value.int .i64 a10087) (pure_move r10096) rfl ?_
        refine wpS_pure v10076 (pure_move r10091) rfl ?_
        refine wpS_pure (Value.int .i64 a9326) (pure_move r10094) rfl ?_
        obtain ⟨x10110, h10111, hm⟩ := bind_some hm
        try dsimp only at hm
        refine wpS_indexT (v := v10076) Try.underlying29 T25 rfl rfl (hr10077).reads h10111 rfl ?_
        intro b10112 o10113 ha10114
        refine wpS_load_slice Try.underlying25 rfl rfl ha10114 rfl ?_
        intro v10115 hr10116
        refine wpS_len (v := v10115) Try.underlying25 rfl (hr10116).reads rfl ?_
        refine wpS_pure (Value.bool (decide (a10087 < (x10110.length : Int)))) (pure_lss rfl rfl) rfl ?_
        refine wpS_nil ?_
        refine thn_normal ?_
        by_cases hc10117 : (decide (a10087 < (x10110.length : Int))) = true
        ·rw [if_pos hc10117] at hm
         refine wpC_true (bval rfl hc10117) ?_
         refine wpC_skip ?_
         refine thn_normal ?_
         refine wpC_seq ?_
         refine wpC_block ?_
         refine wpC_seq ?_
         refine wpC_region ?_
         refine wpS_pure v10076 (pure_move r10091) rfl ?_
         refine wpS_pure (Value.int .i64 a9326) (pure_move r10094) rfl ?_
         obtain ⟨x10118, h10119, hm⟩ := bind_some hm
         try dsimp only at hm
         refine wpS_indexT (v := v10076) Try.underlying29 T25 rfl rfl (hr10077).reads h10119 rfl ?_
         intro b10120 o10121 ha10122
         refine wpS_load_slice Try.underlying25 rfl rfl ha10122 rfl ?_
         intro v10123 hr10124
         refine wpS_pure (Value.int .i64 a10087) (pure_move r10096) rfl ?_
         obtain ⟨x10125, h10126, hm⟩ := bind_some hm
         try dsimp only at hm
         refine wpS_indexT (v := v10123) Try.underlying25 T3 rfl rfl (hr10124).reads h10126 rfl ?_
         intro b10127 o10128 ha10129
         refine wpS_load_int Try.underlying3 rfl rfl ha10129 rfl ?_
         refine wpS_pure (Value.int .i64 x10125) (pure_assign rfl) rfl ?_
         refine wpS_nil ?_
         refine thn_normal ?_
         refine wpC_seq_join (fun ρ w => ∃ (F10176 : Nat → Prop) (v10156 : Value) (v10158 : Value) (v10160 : Value) (v10162 : Value) (v10164 : Value), St w0 F0 w F10176 ∧ Own w0.heap.size F10176 w 3 rInt v10160 a10079 ∧ Own w0.heap.size F10176 w 26 (Row.slice rAccount) v10162 a9323 ∧ Own w0.heap.size F10176 w 42 rAccount v10164 a10084 ∧ (∀ k, mine v10160 k → ¬ mine v10162 k) ∧ (∀ k, mine v10160 k → ¬ mine v10164 k) ∧ (∀ k, mine v10162 k → ¬ mine v10164 k) ∧ ρ 0 = vp0_ids ∧ ρ 1 = (Value.int .i64 p1_n) ∧ ρ 5 = v10156 ∧ Rep F10176 w (Row.slice rAccount) [v10156] y6343 ∧ ρ 6 = v10158 ∧ Rep F10176 w (Row.slice (Row.slice rInt)) [v10158] y6357 ∧ ρ 7 = v10160 ∧ ρ 8 = v10162 ∧ ρ 9 = (Value.int .i64 a9326) ∧ ρ 10 = v10164 ∧ ρ 11 = (Value.int .i64 a10087) ∧ ρ 12 = (Value.int .i64 x10125) ∧ M.law48_ShardPartition_k5 N y6343 a10079 a10084 a10087 x10125 = some y10108) ?_ ?_
         ·skip
          refine wpC_seq ?_
          refine wpC_region ?_
          refine wpS_pure (Value.int .i64 x10125) (pure_move rfl) rfl ?_
          refine wpS_pure (Value.bool (decide (x10125 < (0 : Int)))) (pure_lss rfl rfl) rfl ?_
          refine wpS_pure (Value.bool (decide (x10125 < (0 : Int)))) (pure_move rfl) rfl ?_
          by_cases hc10182 : (decide (x10125 < (0 : Int))) = true
          ·rw [if_pos hc10182] at hm
           refine wpS_off 63 rfl rfl (bval' rfl hc10182) (by decide) rfl ?_
           refine wpS_off 63 rfl rfl (bval' rfl hc10182) (by decide) rfl ?_
           refine wpS_off 63 rfl rfl (bval' rfl hc10182) (by decide) rfl ?_
           refine wpS_off 63 rfl rfl (bval' rfl hc10182) (by decide) rfl ?_
           refine wpS_pure (Value.bool true) (pure_pick_true (bval rfl hc10182) rfl) rfl ?_
           refine wpS_pure (Value.bool true) (pure_move rfl) rfl ?_
           refine wpS_off 69 rfl rfl rfl (by decide) rfl ?_
           refine wpS_off 69 rfl rfl rfl (by decide) rfl ?_
           refine wpS_off 69 rfl rfl rfl (by decide) rfl ?_
           refine wpS_off 69 rfl rfl rfl (by decide) rfl ?_
           refine wpS_off 69 rfl rfl rfl (by decide) rfl ?_
           refine wpS_off 69 rfl rfl rfl (by decide) rfl ?_
           refine wpS_off 69 rfl rfl rfl (by decide) rfl ?_
           refine wpS_off 69 rfl rfl rfl (by decide) rfl ?_
           refine wpS_pure (Value.bool true) (pure_pick_true rfl rfl) rfl ?_
           refine wpS_pure (Value.bool true) (pure_move rfl) rfl ?_
           refine wpS_off 79 rfl rfl rfl (by decide) rfl ?_
           refine wpS_off 79 rfl rfl rfl (by decide) rfl ?_
           refine wpS_off 79 rfl rfl rfl (by decide) rfl ?_
           refine wpS_offu 82 rfl rfl rfl rfl ?_
           refine wpS_offu 82 rfl rfl rfl rfl ?_
           refine wpS_offu 82 rfl rfl rfl rfl ?_
           refine wpS_offu 82 rfl rfl rfl rfl ?_
           refine wpS_offu 82 rfl rfl rfl rfl ?_
           refine wpS_offu 82 rfl rfl rfl rfl ?_
           refine wpS_offu 82 rfl rfl rfl rfl ?_
           refine wpS_offu 82 rfl rfl rfl rfl ?_
           refine wpS_offu 82 rfl rfl rfl rfl ?_
           refine wpS_offu 82 rfl rfl rfl rfl ?_
           refine wpS_off 79 rfl rfl rfl (by decide) rfl ?_
           refine wpS_pure (Value.bool true) (pure_pick_true rfl rfl) rfl ?_
           refine wpS_nil ?_
           refine thn_normal ?_
           refine wpC_true rfl ?_
           refine wpC_seq ?_
           refine wpC_region ?_
           refine wpS_pure (Value.bool false) (pure_assign rfl) rfl ?_
           refine wpS_nil ?_
           refine thn_normal ?_
           refine wpC_ret ?_
           refine thn_ret ?_
           refine inB_ret ?_
           refine thn_ret ?_
           obtain rfl := Option.some.inj hm
           refine loopQ_ret (fun hx => ?_)
           subst hx
           have hm10183 : some (.inr (.inr false)) = some y9343 := hm10105
           refine joinQ_ret ?_
           refine thn_ret ?_
           refine inB_ret ?_
           refine thn_ret ?_
           obtain rfl := Option.some.inj hm10183
           refine loopQ_ret (fun hx => ?_)
           subst hx
           have hm10184 : some (false) = some r := hm9340
           refine joinQ_ret ?_
           refine thn_ret ?_
           obtain rfl := Option.some.inj hm10184
           refine bodyQ_ret1 Try.results6 (Value.bool false) rfl ?_
           exact ⟨_, st10098, rfl⟩
          ·rw [if_neg hc10182] at hm
           replace hc10182 := Bool.eq_false_iff.2 hc10182
           refine wpS_on 63 rfl rfl (bval' rfl hc10182) ?_
           refine wpS_pure (Value.int .i64 x10125) (pure_move rfl) rfl ?_
           refine wpS_on 63 rfl rfl (bval' rfl hc10182) ?_
           refine wpS_pure v10074 (pure_move r10090) rfl ?_
           refine wpS_on 63 rfl rfl (bval' rfl hc10182) ?_
           refine wpS_len (v := v10074) Try.underlying26 rfl (hr10075).reads rfl ?_
           refine wpS_on 63 rfl rfl (bval' rfl hc10182) ?_
           refine wpS_pure (Value.bool (decide ((y6343.length : Int) ≤ x10125))) (pure_geq rfl rfl) rfl ?_
           refine wpS_pure (Value.bool (decide ((y6343.length : Int) ≤ x10125))) (pure_pick_false (bval rfl hc10182) rfl) rfl ?_
           refine wpS_pure (Value.bool (decide ((y6343.length : Int) ≤ x10125))) (pure_move rfl) rfl ?_
           by_cases hc10185 : (decide ((y6343.length : Int) ≤ x10125)) = true
           ·rw [if_pos hc10185] at hm
            refine wpS_off 69 rfl rfl (bval' rfl hc10185) (by decide) rfl ?_
            refine wpS_off 69 rfl rfl (bval' rfl hc10185) (by decide) rfl ?_
            refine wpS_off 69 rfl rfl (bval' rfl hc10185) (by decide) rfl ?_
            refine wpS_off 69 rfl rfl (bval' rfl hc10185) (by decide) rfl ?_
            refine wpS_off 69 rfl rfl (bval' rfl hc10185) (by decide) rfl ?_
            refine wpS_off 69 rfl rfl (bval' rfl hc10185) (by decide) rfl ?_
            refine wpS_off 69 rfl rfl (bval' rfl hc10185) (by decide) rfl ?_
            refine wpS_off 69 rfl rfl (bval' rfl hc10185) (by decide) rfl ?_
            refine wpS_pure (Value.bool true) (pure_pick_true (bval rfl hc10185) rfl) rfl ?_
            refine wpS_pure (Value.bool true) (pure_move rfl) rfl ?_
            refine wpS_off 79 rfl rfl rfl (by decide) rfl ?_
            refine wpS_off 79 rfl rfl rfl (by decide) rfl ?_
            refine wpS_off 79 rfl rfl rfl (by decide) rfl ?_
            refine wpS_offu 82 rfl rfl rfl rfl ?_
            refine wpS_offu 82 rfl rfl rfl rfl ?_
            refine wpS_offu 82 rfl rfl rfl rfl ?_
            refine wpS_offu 82 rfl rfl rfl rfl ?_
            refine wpS_offu 82 rfl rfl rfl rfl ?_
            refine wpS_offu 82 rfl rfl rfl rfl ?_
            refine wpS_offu 82 rfl rfl rfl rfl ?_
            refine wpS_offu 82 rfl rfl rfl rfl ?_
            refine wpS_offu 82 rfl rfl rfl rfl ?_
            refine wpS_offu 82 rfl rfl rfl rfl ?_
            refine wpS_off 79 rfl rfl rfl (by decide) rfl ?_
            refine wpS_pure (Value.bool true) (pure_pick_true rfl rfl) rfl ?_
            refine wpS_nil ?_
            refine thn_normal ?_
            refine wpC_true rfl ?_
            refine wpC_seq ?_
            refine wpC_region ?_
            refine wpS_pure (Value.bool false) (pure_assign rfl) rfl ?_
            refine wpS_nil ?_
            refine thn_normal ?_
            refine wpC_ret ?_
            refine thn_ret ?_
            refine inB_ret ?_
            refine thn_ret ?_
            obtain rfl := Option.some.inj hm
            refine loopQ_ret (fun hx => ?_)
            subst hx
            have hm10186 : some (.inr (.inr false)) = some y9343 := hm10105
            refine joinQ_ret ?_
            refine thn_ret ?_
            refine inB_ret ?_
            refine thn_ret ?_
            obtain rfl := Option.some.inj hm10186
            refine loopQ_ret (fun hx => ?_)
            subst hx
            have hm10187 : some (false) = some r := hm9340
            refine joinQ_ret ?_
            refine thn_ret ?_
            obtain rfl := Option.some.inj hm10187
            refine bodyQ_ret1 Try.results6 (Value.bool false) rfl ?_
            exact ⟨_, st10098, rfl⟩
           ·rw [if_neg hc10185] at hm
            replace hc10185 := Bool.eq_false_iff.2 hc10185
            refine wpS_on 69 rfl rfl (bval' rfl hc10185) ?_
            refine wpS_pure vp0_ids (pure_move r10088) rfl ?_
            refine wpS_on 69 rfl rfl (bval' rfl hc10185) ?_
            refine wpS_pure (Value.int .i64 x10125) (pure_move rfl) rfl ?_
            refine wpS_on 69 rfl rfl (bval' rfl hc10185) ?_
            obtain ⟨x10188, h10189, hm⟩ := bind_some hm
            try dsimp only at hm
            refine wpS_indexT (v := vp0_ids) Try.underlying25 T3 rfl rfl ((hp0_ids.step (st10098.step hF0))).reads h10189 rfl ?_
            intro b10190 o10191 ha10192
            refine wpS_on 69 rfl rfl (bval' rfl hc10185) ?_
            refine wpS_load_int Try.underlying3 rfl rfl ha10192 rfl ?_
            refine wpS_on 69 rfl rfl (bval' rfl hc10185) ?_
            refine wpS_pure (Value.int .i64 p1_n) (pure_move r10089) rfl ?_
            refine wpS_on 69 rfl rfl (bval' rfl hc10185) ?_
            obtain ⟨y10193, h10194, hm⟩ := bind_some hm
            try dsimp only at hm
            refine wpS_call (vs := [(Value.int .i64 x10188), (Value.int .i64 p1_n)]) Try.func7 nm7 bd7 (m_cons rfl (m_cons rfl m_nil)) (M.shard_Of_walk N _ _ st10098.lt x10188 p1_n y10193 h10194) rfl ?_
            rintro v10195 w10196 ⟨F10197, h10198, hv10199⟩
            have h10200 := h10198.narrow st10098.lt
            have st10201 := st10098.trans h10200
            obtain rfl := hv10199
            refine wpS_on 69 rfl rfl (bval' rfl hc10185) ?_
            refine wpS_pure (Value.int .i64 a9326) (pure_move r10094) rfl ?_
            refine wpS_on 69 rfl rfl (bval' rfl hc10185) ?_
            refine wpS_pure (Value.bool (!decide (y10193 = a9326))) (pure_neq rfl rfl) rfl ?_
            refine wpS_pure (Value.bool (!decide (y10193 = a9326))) (pure_pick_false (bval rfl hc10185) rfl) rfl ?_
            refine wpS_pure (Value.bool (!decide (y10193 = a9326))) (pure_move rfl) rfl ?_
            by_cases hc10202 : (!decide (y10193 = a9326)) = true
            ·rw [if_pos hc10202] at hm
             refine wpS_off 79 rfl rfl (bval' rfl hc10202) (by decide) rfl ?_
             refine wpS_off 79 rfl rfl (bval' rfl hc10202) (by decide) rfl ?_
             refine wpS_off 79 rfl rfl (bval' rfl hc10202) (by decide) rfl ?_
             refine wpS_offu 82 rfl rfl rfl rfl ?_
             refine wpS_offu 82 rfl rfl rfl rfl ?_
             refine wpS_offu 82 rfl rfl rfl rfl ?_
             refine wpS_offu 82 rfl rfl rfl rfl ?_
             refine wpS_offu 82 rfl rfl rfl rfl ?_
             refine wpS_offu 82 rfl rfl rfl rfl ?_
             refine wpS_offu 82 rfl rfl rfl rfl ?_
             refine wpS_offu 82 rfl rfl rfl rfl ?_
             refine wpS_offu 82 rfl rfl rfl rfl ?_
             refine wpS_offu 82 rfl rfl rfl rfl ?_
             refine wpS_off 79 rfl rfl (bval' rfl hc10202) (by decide) rfl ?_
             refine wpS_pure (Value.bool true) (pure_pick_true (bval rfl hc10202) rfl) rfl ?_
             refine wpS_nil ?_
             refine thn_normal ?_
             refine wpC_true rfl ?_
             refine wpC_seq ?_
             refine wpC_region ?_
             refine wpS_pure (Value.bool false) (pure_assign rfl) rfl ?_
             refine wpS_nil ?_
             refine thn_normal ?_
             refine wpC_ret ?_
             refine thn_ret ?_
             refine inB_ret ?_
             refine thn_ret ?_
             obtain rfl := Option.some.inj hm
             refine loopQ_ret (fun hx => ?_)
             subst hx
             have hm10203 : some (.inr (.inr false)) = some y9343 := hm10105
             refine joinQ_ret ?_
             refine thn_ret ?_
             refine inB_ret ?_
             refine thn_ret ?_
             obtain rfl := Option.some.inj hm10203
             refine loopQ_ret (fun hx => ?_)
             subst hx
             have hm10204 : some (false) = some r := hm9340
             refine joinQ_ret ?_
             refine thn_ret ?_
             obtain rfl := Option.some.inj hm10204
             refine bodyQ_ret1 Try.results6 (Value.bool false) rfl ?_
             exact ⟨_, st10201, rfl⟩
            ·rw [if_neg hc10202] at hm
             replace hc10202 := Bool.eq_false_iff.2 hc10202
             refine wpS_on 79 rfl rfl (bval' rfl hc10202) ?_
             refine wpS_pure (Value.int .i64 a10087) (pure_move r10096) rfl ?_
             refine wpS_on 79 rfl rfl (bval' rfl hc10202) ?_
             refine wpS_pure (Value.bool (decide ((0 : Int) < a10087))) (pure_gtr rfl rfl) rfl ?_
             refine wpS_on 79 rfl rfl (bval' rfl hc10202) ?_
             refine wpS_pure (Value.bool (decide ((0 : Int) < a10087))) (pure_move rfl) rfl ?_
             by_cases hc10205 : (decide ((0 : Int) < a10087)) = true
             ·rw [if_pos hc10205] at hm
              refine wpS_on 82 rfl rfl (bval' rfl hc10205) ?_
              refine wpS_pure (Value.int .i64 x10125) (pure_move rfl) rfl ?_
              refine wpS_on 82 rfl rfl (bval' rfl hc10205) ?_
              refine wpS_pure v10076 (pure_move r10091) rfl ?_
              refine wpS_on 82 rfl rfl (bval' rfl hc10205) ?_
              refine wpS_pure (Value.int .i64 a9326) (pure_move r10094) rfl ?_
              refine wpS_on 82 rfl rfl (bval' rfl hc10205) ?_
              obtain ⟨x10206, h10207, hm⟩ := bind_some hm
              try dsimp only at hm
              refine wpS_indexT (v := v10076) Try.underlying29 T25 rfl rfl ((hr10077.step (h10200.step st10098.lt))).reads h10207 rfl ?_
              intro b10208 o10209 ha10210
              refine wpS_on 82 rfl rfl (bval' rfl hc10205) ?_
              refine wpS_load_slice Try.underlying25 rfl rfl ha10210 rfl ?_
              intro v10211 hr10212
              refine wpS_on 82 rfl rfl (bval' rfl hc10205) ?_
              refine wpS_pure (Value.int .i64 a10087) (pure_move r10096) rfl ?_
              refine wpS_on 82 rfl rfl (bval' rfl hc10205) ?_
              refine wpS_pure (Value.int .i64 (IntKind.i64.wrap (a10087 - (1 : Int)))) (pure_sub rfl rfl) rfl ?_
              refine wpS_on 82 rfl rfl (bval' rfl hc10205) ?_
              obtain ⟨x10213, h10214, hm⟩ := bind_some hm
              try dsimp only at hm
              refine wpS_indexT (v := v10211) Try.underlying25 T3 rfl rfl (hr10212).reads h10214 rfl ?_
              intro b10215 o10216 ha10217
              refine wpS_on 82 rfl rfl (bval' rfl hc10205) ?_
              refine wpS_load_int Try.underlying3 rfl rfl ha10217 rfl ?_
              refine wpS_on 82 rfl rfl (bval' rfl hc10205) ?_
              refine wpS_pure (Value.bool (decide (x10125 ≤ x10213))) (pure_leq rfl rfl) rfl ?_
              refine wpS_on 79 rfl rfl (bval' rfl hc10202) ?_
              refine wpS_pure (Value.bool (decide (x10125 ≤ x10213))) (pure_pick_true (bval rfl hc10205) rfl) rfl ?_
              refine wpS_pure (Value.bool (decide (x10125 ≤ x10213))) (pure_pick_false (bval rfl hc10202) rfl) rfl ?_
              refine wpS_nil ?_
              refine thn_normal ?_
              by_cases hc10218 : (decide (x10125 ≤ x10213)) = true
              ·rw [if_pos hc10218] at hm
               refine wpC_true (bval rfl hc10218) ?_
               refine wpC_seq ?_
               refine wpC_region ?_
               refine wpS_pure (Value.bool false) (pure_assign rfl) rfl ?_
               refine wpS_nil ?_
               refine thn_normal ?_
               refine wpC_ret ?_
               refine thn_ret ?_
               refine inB_ret ?_
               refine thn_ret ?_
               obtain rfl := Option.some.inj hm
               refine loopQ_ret (fun hx => ?_)
               subst hx
               have hm10219 : some (.inr (.inr false)) = some y9343 := hm10105
               refine joinQ_ret ?_
               refine thn_ret ?_
               refine inB_ret ?_
               refine thn_ret ?_
               obtain rfl := Option.some.inj hm10219
               refine loopQ_ret (fun hx => ?_)
               subst hx
               have hm10220 : some (false) = some r := hm9340
               refine joinQ_ret ?_
               refine thn_ret ?_
               obtain rfl := Option.some.inj hm10220
               refine bodyQ_ret1 Try.results6 (Value.bool false) rfl ?_
               exact ⟨_, st10201, rfl⟩
              ·rw [if_neg hc10218] at hm
               replace hc10218 := Bool.eq_false_iff.2 hc10218
               refine wpC_false (bval rfl hc10218) ?_
               refine wpC_skip ?_
               refine thn_normal ?_
               exact ⟨_, v10074, v10076, v10078, v10081, v10083, st10201, (ho10080.st st10098.lt h10200), (ho10082.st st10098.lt h10200), (ho10086.st st10098.lt h10200), ap10099, ap10100, ap10101, r10088, r10089, r10090, (hr10075.step (h10200.step st10098.lt)), r10091, (hr10077.step (h10200.step st10098.lt)), r10092, r10093, r10094, r10095, r10096, rfl, hm⟩
             ·rw [if_neg hc10205] at hm
              replace hc10205 := Bool.eq_false_iff.2 hc10205
              refine wpS_off 82 rfl rfl (bval' rfl hc10205) (by decide) rfl ?_
              refine wpS_off 82 rfl rfl (bval' rfl hc10205) (by decide) rfl ?_
              refine wpS_off 82 rfl rfl (bval' rfl hc10205) (by decide) rfl ?_
              refine wpS_off 82 rfl rfl (bval' rfl hc10205) (by decide) rfl ?_
              refine wpS_off 82 rfl rfl (bval' rfl hc10205) (by decide) rfl ?_
              refine wpS_off 82 rfl rfl (bval' rfl hc10205) (by decide) rfl ?_
              refine wpS_off 82 rfl rfl (bval' rfl hc10205) (by decide) rfl ?_
              refine wpS_off 82 rfl rfl (bval' rfl hc10205) (by decide) rfl ?_
              refine wpS_off 82 rfl rfl (bval' rfl hc10205) (by decide) rfl ?_
              refine wpS_off 82 rfl rfl (bval' rfl hc10205) (by decide) rfl ?_
              refine wpS_on 79 rfl rfl (bval' rfl hc10202) ?_
              refine wpS_pure (Value.bool false) (pure_pick_false (bval rfl hc10205) rfl) rfl ?_
              refine wpS_pure (Value.bool false) (pure_pick_false (bval rfl hc10202) rfl) rfl ?_
              refine wpS_nil ?_
              refine thn_normal ?_
              refine wpC_false rfl ?_
              refine wpC_skip ?_
              refine thn_normal ?_
              exact ⟨_, v10074, v10076, v10078, v10081, v10083, st10201, (ho10080.st st10098.lt h10200), (ho10082.st st10098.lt h10200), (ho10086.st st10098.lt h10200), ap10099, ap10100, ap10101, r10088, r10089, r10090, (hr10075.step (h10200.step st10098.lt)), r10091, (hr10077.step (h10200.step st10098.lt)), r10092, r10093, r10094, r10095, r10096, rfl, hm⟩
         ·skip
          rintro ρ w ⟨F10176, v10156, v10158, v10160, v10162, v10164, st10177, ho10161, ho10163, ho10165, ap10178, ap10179, ap10180, r10166, r10167, r10168, hr10157, r10169, hr10159, r10170, r10171, r10172, r10173, r10174, r10175, hm⟩
          rw [M.law48_ShardPartition_k5] at hm
          refine wpC_seq ?_
          refine wpC_region ?_
          refine wpS_pure v10160 (pure_move r10170) rfl ?_
          refine wpS_pure (Value.int .i64 x10125) (pure_move r10175) rfl ?_
          obtain ⟨x10221, h10222, hm⟩ := bind_some hm
          try dsimp only at hm
          refine wpS_indexT (v := v10160) Try.underlying25 T3 rfl rfl (ho10161).reads h10222 rfl ?_
          intro b10223 o10224 ha10225
          refine wpS_load_int Try.underlying3 rfl rfl ha10225 rfl ?_
          refine wpS_pure (Value.int .i64 (IntKind.i64.wrap (x10221 + (1 : Int)))) (pure_add rfl rfl) rfl ?_
          obtain ⟨x10226, h10227, hm⟩ := bind_some hm
          try dsimp only at hm
          refine wpS_elemT (v := v10160) Try.underlying25 T3 rfl rfl ho10161 h10227 rfl ?_
          intro g10228 q10229 hg10230 hq10231
          refine wpS_store_elemT (v := v10160) (val := (Value.int .i64 (IntKind.i64.wrap (x10221 + (1 : Int))))) (.here) T3 rfl (by simp [Path.off]) rfl rfl rfl ho10161 hg10230 hq10231 h10227 st10177.lt ?_
          intro w10232 he10233 ho10234
          have ho10235 : Own w0.heap.size _ w10232 3 rInt v10160 (setL a10079 x10125 (IntKind.i64.wrap (x10221 + (1 : Int)))) := ho10234
          have st10236 := st10177.ext he10233 (ho10161).ge
          refine wpS_nil ?_
          refine thn_normal ?_
          refine wpC_seq ?_
          refine wpC_region ?_
          refine wpS_pure v10156 (pure_move r10168) rfl ?_
          refine wpS_pure (Value.int .i64 x10125) (pure_move r10175) rfl ?_
          obtain ⟨x10237, h10238, hm⟩ := bind_some hm
          try dsimp only at hm
          refine wpS_indexT (v := v10156) Try.underlying26 T42 rfl rfl ((hr10157.step (Step.ext he10233 st10177.lt (ho10161).no))).reads h10238 rfl ?_
          intro b10239 o10240 ha10241
          refine wpS_load_rowT Try.underlying42 rfl T42 rfl ha10241 rfl ?_
          intro es10242 hr10243
          refine wpS_allocT (base := w0.heap.size) rAccount T42 st10236.lt st10236.below.size rfl ?_
          intro b10244 w10245 h10246 hb10247 hn10248
          have hn10249 : ∀ k, is b10244 k → _ ≤ k := fun k hk => hk ▸ hn10248
          have st10250 := st10236.trans h10246
          refine wpS_store_boxT (v := (Value.agg es10242.toArray)) (.here) T42 rfl rfl rfl rfl (hr10243.step (h10246.step st10236.lt)) hb10247 st10250.lt ?_
          intro w10252 he10253 hb10255
          have hb10254 : BoxO w0.heap.size _ w10252 b10244 42 rAccount (x10237) := hb10255
          have st10256 := st10250.ext he10253 (hb10247).ge
          refine wpS_nil ?_
          refine thn_normal ?_
          refine wpC_seq ?_
          refine wpC_region ?_
          refine wpS_pure (Value.pointer (some ⟨b10244, 0 + 6, none⟩)) (pure_fieldT 6 Try.underlying42 rfl T3 rfl rfl) rfl ?_
          have ha10257 : At _ _ rInt b10244 (0 + 6) (x10237.2.2.2.1) := (hb10254).at.path (.snd (.snd (.snd (.fst (.here))))) 6 rfl
          refine wpS_load_int Try.underlying3 rfl rfl ha10257 rfl ?_
          refine wpS_pure (Value.int .i64 (IntKind.i64.wrap (x10237.2.2.2.1 + (1000 : Int)))) (pure_add rfl rfl) rfl ?_
          refine wpS_pure (Value.pointer (some ⟨b10244, 0 + 6, none⟩)) (pure_fieldT 6 Try.underlying42 rfl T3 rfl rfl) rfl ?_
          refine wpS_store_boxT (v := (Value.int .i64 (IntKind.i64.wrap (x10237.2.2.2.1 + (1000 : Int))))) (.snd (.snd (.snd (.fst (.here))))) T3 rfl rfl rfl rfl rfl hb10254 st10256.lt ?_
          intro w10258 he10259 hb10261
          have hb10260 : BoxO w0.heap.size _ w10258 b10244 42 rAccount ((x10237.1, (x10237.2.1, (x10237.2.2.1, (IntKind.i64.wrap (x10237.2.2.2.1 + (1000 : Int)), x10237.2.2.2.2))))) := hb10261
          have st10262 := st10256.ext he10259 (hb10254).ge
          refine wpS_nil ?_
          refine thn_normal ?_
          refine wpC_region ?_
          refine wpS_pure v10164 (pure_move r10173) rfl ?_
          refine wpS_load_rowT Try.underlying42 rfl T42 rfl (hb10260).at rfl ?_
          intro es10263 hr10264
          refine wpS_oneT (base := w0.heap.size) (v := (Value.agg es10263.toArray)) Try.underlying26 T42 rfl rfl rfl hr10264 st10262.lt st10262.below.size rfl ?_
          intro v10265 w10266 h10267 ho10268 hn10269
          have st10270 := st10262.trans h10267
          obtain ⟨l10272, h10273, hm⟩ := bind_some hm
          try dsimp only at hm
          refine wpS_appendT (v := v10164) (u := v10265) Try.underlying26 T42 rfl rfl (((((ho10165.ext st10177.lt he10233 (ho10161).no ap10179).st st10236.lt h10246).ext st10250.lt he10253 (hb10247).no (ap_new ((ho10165.ext st10177.lt he10233 (ho10161).no ap10179)).lt hn10249)).ext st10256.lt he10259 (hb10254).no (ap_new ((ho10165.ext st10177.lt he10233 (ho10161).no ap10179)).lt hn10249)).st st10262.lt h10267) (ho10268).reads h10273 st10270.lt st10270.below.size rfl ?_
          intro v10274 w10275 he10276 ho10277 hn10278
          have st10279 := st10270.ext he10276 ((((((ho10165.ext st10177.lt he10233 (ho10161).no ap10179).st st10236.lt h10246).ext st10250.lt he10253 (hb10247).no (ap_new ((ho10165.ext st10177.lt he10233 (ho10161).no ap10179)).lt hn10249)).ext st10256.lt he10259 (hb10254).no (ap_new ((ho10165.ext st10177.lt he10233 (ho10161).no ap10179)).lt hn10249)).st st10262.lt h10267)).ge
          refine wpS_pure v10274 (pure_assign rfl) rfl ?_
          refine wpS_nil ?_
          refine inB_normal ?_
          refine thn_normal ?_
          refine wpC_region ?_
          refine wpS_pure (Value.int .i64 a10087) (pure_move r10174) rfl ?_
          refine wpS_pure (Value.int .i64 (IntKind.i64.wrap (a10087 + (1 : Int)))) (pure_add rfl rfl) rfl ?_
          refine wpS_pure (Value.int .i64 (IntKind.i64.wrap (a10087 + (1 : Int)))) (pure_assign rfl) rfl ?_
          refine wpS_nil ?_
          obtain rfl := Option.some.inj hm
          refine loopQ_in ?_
          exact ⟨(setL a10079 x10125 (IntKind.i64.wrap (x10221 + (1 : Int)))), l10272, (IntKind.i64.wrap (a10087 + (1 : Int))), _, v10156, v10158, v10160, v10162, v10274, rfl, st10279, (((((ho10235.st st10236.lt h10246).ext st10250.lt he10253 (hb10247).no (ap_new (ho10235).lt hn10249)).ext st10256.lt he10259 (hb10254).no (ap_new (ho10235).lt hn10249)).st st10262.lt h10267).ext st10270.lt he10276 ((((((ho10165.ext st10177.lt he10233 (ho10161).no ap10179).st st10236.lt h10246).ext st10250.lt he10253 (hb10247).no (ap_new ((ho10165.ext st10177.lt he10233 (ho10161).no ap10179)).lt hn10249)).ext st10256.lt he10259 (hb10254).no (ap_new ((ho10165.ext st10177.lt he10233 (ho10161).no ap10179)).lt hn10249)).st st10262.lt h10267)).no (ap_symm ap10179)), ((((((ho10163.ext st10177.lt he10233 (ho10161).no ap10178).st st10236.lt h10246).ext st10250.lt he10253 (hb10247).no (ap_new ((ho10163.ext st10177.lt he10233 (ho10161).no ap10178)).lt hn10249)).ext st10256.lt he10259 (hb10254).no (ap_new ((ho10163.ext st10177.lt he10233 (ho10161).no ap10178)).lt hn10249)).st st10262.lt h10267).ext st10270.lt he10276 ((((((ho10165.ext st10177.lt he10233 (ho10161).no ap10179).st st10236.lt h10246).ext st10250.lt he10253 (hb10247).no (ap_new ((ho10165.ext st10177.lt he10233 (ho10161).no ap10179)).lt hn10249)).ext st10256.lt he10259 (hb10254).no (ap_new ((ho10165.ext st10177.lt he10233 (ho10161).no ap10179)).lt hn10249)).st st10262.lt h10267)).no (ap_symm ap10180)), ho10277, ap10178, (ap_symm (ap_app hn10278 (ap_symm ap10179) (((((ho10235.st st10236.lt h10246).ext st10250.lt he10253 (hb10247).no (ap_new (ho10235).lt hn10249)).ext st10256.lt he10259 (hb10254).no (ap_new (ho10235).lt hn10249)).st st10262.lt h10267)).lt)), (ap_symm (ap_app hn10278 (ap_symm ap10180) ((((((ho10163.ext st10177.lt he10233 (ho10161).no ap10178).st st10236.lt h10246).ext st10250.lt he10253 (hb10247).no (ap_new ((ho10163.ext st10177.lt he10233 (ho10161).no ap10178)).lt hn10249)).ext st10256.lt he10259 (hb10254).no (ap_new ((ho10163.ext st10177.lt he10233 (ho10161).no ap10178)).lt hn10249)).st st10262.lt h10267)).lt)), r10166, r10167, r10168, ((((((hr10157.step (Step.ext he10233 st10177.lt (ho10161).no)).step (h10246.step st10236.lt)).step (Step.ext he10253 st10250.lt (hb10247).no)).step (Step.ext he10259 st10256.lt (hb10254).no)).step (h10267.step st10262.lt)).step (Step.ext he10276 st10270.lt ((((((ho10165.ext st10177.lt he10233 (ho10161).no ap10179).st st10236.lt h10246).ext st10250.lt he10253 (hb10247).no (ap_new ((ho10165.ext st10177.lt he10233 (ho10161).no ap10179)).lt hn10249)).ext st10256.lt he10259 (hb10254).no (ap_new ((ho10165.ext st10177.lt he10233 (ho10161).no ap10179)).lt hn10249)).st st10262.lt h10267)).no)), r10169, ((((((hr10159.step (Step.ext he10233 st10177.lt (ho10161).no)).step (h10246.step st10236.lt)).step (Step.ext he10253 st10250.lt (hb10247).no)).step (Step.ext he10259 st10256.lt (hb10254).no)).step (h10267.step st10262.lt)).step (Step.ext he10276 st10270.lt ((((((ho10165.ext st10177.lt he10233 (ho10161).no ap10179).st st10236.lt h10246).ext st10250.lt he10253 (hb10247).no (ap_new ((ho10165.ext st10177.lt he10233 (ho10161).no ap10179)).lt hn10249)).ext st10256.lt he10259 (hb10254).no (ap_new ((ho10165.ext st10177.lt he10233 (ho10161).no ap10179)).lt hn10249)).st st10262.lt h10267)).no)), r10170, r10171, r10172, rfl, rfl⟩
        ·rw [if_neg hc10117] at hm
         replace hc10117 := Bool.eq_false_iff.2 hc10117
         refine wpC_false (bval rfl hc10117) ?_
         refine wpC_exit ?_
         refine thn_exit ?_
         obtain rfl := Option.some.inj hm
         refine loopQ_exit (fun hx => ?_)
         subst hx
         have hm10280 : M.law48_ShardPartition_k3 N a9323 a9326 a10079 a10084 = some y9343 := hm10105
         refine joinQ_same ?_
         exact ⟨a10079, a10084, _, v10074, v10076, v10078, v10081, v10083, st10098, ho10080, ho10082, ho10086, ap10099, ap10100, ap10101, r10088, r10089, r10090, hr10075, r10091, hr10077, r10092, r10093, r10094, r10095, hm10280⟩
      ·skip
       rintro ρ w ⟨a9751, a9756, F9767, v9746, v9748, v9750, v9753, v9755, st9768, ho9752, ho9754, ho9758, ap9769, ap9770, ap9771, r9759, r9760, r9761, hr9747, r9762, hr9749, r9763, r9764, r9765, r9766, hm⟩
       rw [M.law48_ShardPartition_k3] at hm
       refine thn_normal ?_
       refine wpC_region ?_
       refine wpS_pure v9753 (pure_move r9764) rfl ?_
       refine wpS_pure v9755 (pure_move r9766) rfl ?_
       have hr10282 := (ho9758).freeze
       have st10281 := st9768.fz ho9758
       refine wpS_oneT (base := w0.heap.size) (v := v9755) Try.underlying32 T26 rfl rfl (cells_one hr10282) hr10282 st10281.lt st10281.below.size rfl ?_
       intro v10283 w10284 h10285 ho10286 hn10287
       have st10288 := st10281.trans h10285
       obtain ⟨l10290, h10291, hm⟩ := bind_some hm
       try dsimp only at hm
       refine wpS_appendT (v := v9753) (u := v10283) Try.underlying32 T26 rfl rfl ((ho9754.fz (ap_symm ap9771)).st st10281.lt h10285) (ho10286).reads h10291 st10288.lt st10288.below.size rfl ?_
       intro v10292 w10293 he10294 ho10295 hn10296
       have st10297 := st10288.ext he10294 (((ho9754.fz (ap_symm ap9771)).st st10281.lt h10285)).ge
       refine wpS_pure v10292 (pure_assign rfl) rfl ?_
       refine wpS_nil ?_
       refine inB_normal ?_
       refine thn_normal ?_
       refine wpC_region ?_
       refine wpS_pure (Value.int .i64 a9326) (pure_move r9765) rfl ?_
       refine wpS_pure (Value.int .i64 (IntKind.i64.wrap (a9326 + (1 : Int)))) (pure_add rfl rfl) rfl ?_
       refine wpS_pure (Value.int .i64 (IntKind.i64.wrap (a9326 + (1 : Int)))) (pure_assign rfl) rfl ?_
       refine wpS_nil ?_
       obtain rfl := Option.some.inj hm
       refine loopQ_in ?_
       exact ⟨a9751, l10290, (IntKind.i64.wrap (a9326 + (1 : Int))), _, v9746, v9748, v9750, v10292, rfl, st10297, (((ho9752.fz (ap_symm ap9770)).st st10281.lt h10285).ext st10288.lt he10294 (((ho9754.fz (ap_symm ap9771)).st st10281.lt h10285)).no (ap_symm ap9769)), ho10295, (ap_symm (ap_app hn10296 (ap_symm ap9769) (((ho9752.fz (ap_symm ap9770)).st st10281.lt h10285)).lt)), r9759, r9760, r9761, (((hr9747.step (Step.freeze _ _ _)).step (h10285.step st10281.lt)).step (Step.ext he10294 st10288.lt (((ho9754.fz (ap_symm ap9771)).st st10281.lt h10285)).no)), r9762, (((hr9749.step (Step.freeze _ _ _)).step (h10285.step st10281.lt)).step (Step.ext he10294 st10288.lt (((ho9754.fz (ap_symm ap9771)).st st10281.lt h10285)).no)), r9763, rfl, rfl⟩
     ·rw [if_neg hc9345] at hm
      replace hc9345 := Bool.eq_false_iff.2 hc9345
      refine wpC_false (bval rfl hc9345) ?_
      refine wpC_exit ?_
      refine thn_exit ?_
      obtain rfl := Option.some.inj hm
      refine loopQ_exit (fun hx => ?_)
      subst hx
      have hm10298 : M.law48_ShardPartition_k1 N p0_ids y6343 y6357 a9320 a9323 = some r := hm9340
      refine joinQ_same ?_
      exact ⟨a9320, a9323, _, v9315, v9317, v9319, v9322, st9335, ho9321, ho9325, ap9336, r9327, r9329, hr9316, r9330, hr9318, r9331, r9332, hm10298⟩
   ·skip
    rintro ρ w ⟨a8048, a8051, F8059, v8043, v8045, v8047, v8050, st8060, ho8049, ho8053, ap8061, r8054, r8055, hr8044, r8056, hr8046, r8057, r8058, hm⟩
    rw [M.law48_ShardPartition_k1] at hm
    refine thn_normal ?_
    refine wpC_seq ?_
    refine wpC_region ?_
    refine wpS_pure v8043 (pure_move r8055) rfl ?_
    refine wpS_pure v8045 (pure_move r8056) rfl ?_
    refine wpS_pure v8050 (pure_move r8058) rfl ?_
    have hr10300 := (ho8053).freeze
    have st10299 := st8060.fz ho8053
    obtain ⟨y10301, h10302, hm⟩ := bind_some hm
    try dsimp only at hm
    refine wpS_call (vs := [v8043, v8045, v8050]) Try.func16 nm16 bd16 (m_cons rfl (m_cons rfl (m_cons rfl m_nil))) (M.shard_Merge_walk N _ _ st10299.lt y6343 v8043 (hr8044.step (Step.freeze _ _ _)) y6357 v8045 (hr8046.step (Step.freeze _ _ _)) a8051 v8050 hr10300 y10301 h10302) rfl ?_
    rintro v10303 w10304 ⟨F10305, h10306, hv10307⟩
    have st10308 := st10299.trans h10306
    obtain ⟨ho10309, hn10310⟩ := hv10307
    have ho10311 := ho10309.lower st10299.below.size
    refine wpS_pure v10303 (pure_assign rfl) rfl ?_
    refine wpS_nil ?_
    refine thn_normal ?_
    refine wpC_seq ?_
    refine wpC_seq ?_
    refine wpC_region ?_
    refine wpS_pure v10303 (pure_move rfl) rfl ?_
    refine wpS_len (v := v10303) Try.underlying26 rfl (ho10311).reads rfl ?_
    refine wpS_pure v8043 (pure_move r8055) rfl ?_
    refine wpS_len (v := v8043) Try.underlying26 rfl (((hr8044.step (Step.freeze _ _ _)).step (h10306.step st10299.lt))).reads rfl ?_
    refine wpS_pure (Value.bool (!decide ((y10301.length : Int) = (y6343.length : Int)))) (pure_neq rfl rfl) rfl ?_
    refine wpS_nil ?_
    refine thn_normal ?_
    by_cases hc10313 : (!decide ((y10301.length : Int) = (y6343.length : Int))) = true
    ·rw [if_pos hc10313] at hm
     refine wpC_true (bval rfl hc10313) ?_
     refine wpC_seq ?_
     refine wpC_region ?_
     refine wpS_pure (Value.bool false) (pure_assign rfl) rfl ?_
     refine wpS_nil ?_
     refine thn_normal ?_
     refine wpC_ret ?_
     refine thn_ret ?_
     obtain rfl := Option.some.inj hm
     refine bodyQ_ret1 Try.results6 (Value.bool false) rfl ?_
     exact ⟨_, st10308, rfl⟩
    ·rw [if_neg hc10313] at hm
     replace hc10313 := Bool.eq_false_iff.2 hc10313
     refine wpC_false (bval rfl hc10313) ?_
     refine wpC_skip ?_
     refine thn_normal ?_
     refine wpC_seq ?_
     refine wpC_seq ?_
     refine wpC_region ?_
     refine wpS_pure (Value.int .i64 (0 : Int)) (pure_assign rfl) rfl ?_
     refine wpS_nil ?_
     refine thn_normal ?_
     refine wpC_block_join (fun ρ w => ∃ (F10401 : Nat → Prop), St w0 F0 w F10401 ∧ M.law48_ShardPartition_k6 N = some r) ?_ ?_
     ·skip
      obtain ⟨x10478, hL10479, hm10480⟩ := bind_some hm
      clear hm
      refine wpC_loop (fun (s : Int) ρ w => ∃ (a10468 : Int) (F10474 : Nat → Prop) (v10462 : Value) (v10464 : Value) (v10466 : Value), a10468 = s ∧ St w0 F0 w F10474 ∧ Own w0.heap.size F10474 w 3 rInt v10464 a8048 ∧ Own w0.heap.size F10474 w 42 rAccount v10466 y10301 ∧ (∀ k, mine v10464 k → ¬ mine v10466 k) ∧ ρ 0 = vp0_ids ∧ ρ 5 = v10462 ∧ Rep F10474 w (Row.slice rAccount) [v10462] y6343 ∧ ρ 7 = v10464 ∧ ρ 14 = v10466 ∧ ρ 15 = (Value.int .i64 a10468)) hL10479 ?_ ?_
      ·exact ⟨(0 : Int), _, v8043, v8047, v10303, rfl, st10308, ((ho8049.fz (ap_symm ap8061)).st st10299.lt h10306), ho10311, (ap_symm (ap_new ((ho8049.fz (ap_symm ap8061))).lt hn10310)), r8054, r8055, ((hr8044.step (Step.freeze _ _ _)).step (h10306.step st10299.lt)), r8057, rfl, rfl⟩
      ·skip
       rintro s ρ w y10483 ⟨a10468, F10474, v10462, v10464, v10466, rfl, st10475, ho10465, ho10467, ap10476, r10469, r10470, hr10463, r10471, r10472, r10473⟩ hm10484
       have hm : M.law48_ShardPartition_k7 N p0_ids y6343 a8048 y10301 a10468 = some y10483 := hm10484
       clear hm10484
       rw [M.law48_ShardPartition_k7] at hm
       refine wpC_seq ?_
       refine wpC_seq ?_
       refine wpC_region ?_
       refine wpS_pure (Value.int .i64 a10468) (pure_move r10473) rfl ?_
       refine wpS_pure v10462 (pure_move r10470) rfl ?_
       refine wpS_len (v := v10462) Try.underlying26 rfl (hr10463).reads rfl ?_
       refine wpS_pure (Value.bool (decide (a10468 < (y6343.length : Int)))) (pure_lss rfl rfl) rfl ?_
       refine wpS_nil ?_
       refine thn_normal ?_
       by_cases hc10485 : (decide (a10468 < (y6343.length : Int))) = true
       ·rw [if_pos hc10485] at hm
        refine wpC_true (bval rfl hc10485) ?_
        refine wpC_skip ?_
        refine thn_normal ?_
        refine wpC_seq ?_
        refine wpC_block ?_
        refine wpC_seq_join (fun ρ w => ∃ (a10521 : Bool) (F10528 : Nat → Prop) (v10515 : Value) (v10517 : Value) (v10519 : Value), St w0 F0 w F10528 ∧ Own w0.heap.size F10528 w 3 rInt v10517 a8048 ∧ Own w0.heap.size F10528 w 42 rAccount v10519 y10301 ∧ (∀ k, mine v10517 k → ¬ mine v10519 k) ∧ ρ 0 = vp0_ids ∧ ρ 5 = v10515 ∧ Rep F10528 w (Row.slice rAccount) [v10515] y6343 ∧ ρ 7 = v10517 ∧ ρ 14 = v10519 ∧ ρ 15 = (Value.int .i64 a10468) ∧ ρ 168 = (Value.bool a10521) ∧ M.law48_ShardPartition_k8 N a10468 a10521 = some y10483) ?_ ?_
        ·skip
         refine wpC_draw st10475.lt mixed (by kernel_rfl) ?_
         refine wpQ_pure v10464 (pure_move r10471) rfl ?_
         refine wpQ_pure (Value.int .i64 a10468) (pure_move r10473) rfl ?_
         obtain ⟨x10532, h10533, hm⟩ := bind_some hm
         try dsimp only at hm
         refine wpQ_indexT (v := v10464) Try.underlying25 T3 rfl rfl (ho10465).reads h10533 rfl ?_
         intro b10534 o10535 ha10536
         refine wpQ_load_int st10475.lt Try.underlying3 rfl rfl ha10536 rfl ?_
         refine wpQ_pure (Value.bool (!decide (x10532 = (1 : Int)))) (pure_neq rfl rfl) rfl ?_
         refine wpQ_pure (Value.bool (!decide (x10532 = (1 : Int)))) (pure_move rfl) rfl ?_
         by_cases hc10537 : (!decide (x10532 = (1 : Int))) = true
         ·rw [if_pos hc10537] at hm
          refine wpQ_off 137 rfl rfl (bval' rfl hc10537) (by decide) rfl ?_
          refine wpQ_off 137 rfl rfl (bval' rfl hc10537) (by decide) rfl ?_
          refine wpQ_off 137 rfl rfl (bval' rfl hc10537) (by decide) rfl ?_
          refine wpQ_off 137 rfl rfl (bval' rfl hc10537) (by decide) rfl ?_
          refine wpQ_off 137 rfl rfl (bval' rfl hc10537) (by decide) rfl ?_
          refine wpQ_off 137 rfl rfl (bval' rfl hc10537) (by decide) rfl ?_
          refine wpQ_off 137 rfl rfl (bval' rfl hc10537) (by decide) rfl ?_
          refine wpQ_off 137 rfl rfl (bval' rfl hc10537) (by decide) rfl ?_
          refine wpQ_pure (Value.bool true) (pure_pick_true (bval rfl hc10537) rfl) rfl ?_
          refine wpQ_pure (Value.bool true) (pure_move rfl) rfl ?_
          refine wpQ_off 147 rfl rfl rfl (by decide) rfl ?_
          refine wpQ_off 147 rfl rfl rfl (by decide) rfl ?_
          refine wpQ_off 147 rfl rfl rfl (by decide) rfl ?_
          refine wpQ_off 147 rfl rfl rfl (by decide) rfl ?_
          refine wpQ_off 147 rfl rfl rfl (by decide) rfl ?_
          refine wpQ_off 147 rfl rfl rfl (by decide) rfl ?_
          refine wpQ_off 147 rfl rfl rfl (by decide) rfl ?_
          refine wpQ_off 147 rfl rfl rfl (by decide) rfl ?_
          refine wpQ_off 147 rfl rfl rfl (by decide) rfl ?_
          refine wpQ_off 147 rfl rfl rfl (by decide) rfl ?_
          refine wpQ_off 147 rfl rfl rfl (by decide) rfl ?_
          refine wpQ_pure (Value.bool true) (pure_pick_true rfl rfl) rfl ?_
          refine wpQ_pure (Value.bool true) (pure_move rfl) rfl ?_
          refine wpQ_off 160 rfl rfl rfl (by decide) rfl ?_
          refine wpQ_off 160 rfl rfl rfl (by decide) rfl ?_
          refine wpQ_off 160 rfl rfl rfl (by decide) rfl ?_
          refine wpQ_off 160 rfl rfl rfl (by decide) rfl ?_
          refine wpQ_off 160 rfl rfl rfl (by decide) rfl ?_
          refine wpQ_off 160 rfl rfl rfl (by decide) rfl ?_
          refine wpQ_off 160 rfl rfl rfl (by decide) rfl ?_
          refine wpQ_pure (Value.bool true) (pure_pick_true rfl rfl) rfl ?_
          refine wpQ_nil ?_
          intro w10539 h10538
          have st10540 := st10475.trans h10538
          refine thn_normal ?_
          exact ⟨true, _, v10462, v10464, v10466, st10540, (ho10465.st st10475.lt h10538), (ho10467.st st10475.lt h10538), ap10476, r10469, r10470, (hr10463.step (h10538.step st10475.lt)), r10471, r10472, r10473, rfl, hm⟩
         ·rw [if_neg hc10537] at hm
          replace hc10537 := Bool.eq_false_iff.2 hc10537
          refine wpQ_on 137 rfl rfl (bval' rfl hc10537) ?_
          refine wpQ_pure v10466 (pure_move r10472) rfl ?_
          refine wpQ_on 137 rfl rfl (bval' rfl hc10537) ?_
          refine wpQ_pure (Value.int .i64 a10468) (pure_move r10473) rfl ?_
          refine wpQ_on 137 rfl rfl (bval' rfl hc10537) ?_
          obtain ⟨x10541, h10542, hm⟩ := bind_some hm
          try dsimp only at hm
          refine wpQ_indexT (v := v10466) Try.underlying26 T42 rfl rfl (ho10467).reads h10542 rfl ?_
          intro b10543 o10544 ha10545
          refine wpQ_on 137 rfl rfl (bval' rfl hc10537) ?_
          have ha10546 : At _ _ rInt b10543 (o10544 + 6) (x10541.2.2.2.1) := ha10545.path (.snd (.snd (.snd (.fst (.here))))) 6 rfl
          refine wpQ_pure (Value.pointer (some ⟨b10543, o10544 + 6, none⟩)) (pure_fieldT 6 Try.underlying42 rfl T3 rfl rfl) rfl ?_
          refine wpQ_on 137 rfl rfl (bval' rfl hc10537) ?_
          refine wpQ_load_int st10475.lt Try.underlying3 rfl rfl ha10546 rfl ?_
          refine wpQ_on 137 rfl rfl (bval' rfl hc10537) ?_
          refine wpQ_pure (Value.int .i64 a10468) (pure_move r10473) rfl ?_
          refine wpQ_on 137 rfl rfl (bval' rfl hc10537) ?_
          refine wpQ_pure (Value.int .i64 (IntKind.i64.wrap (a10468 + (1000 : Int)))) (pure_add rfl rfl) rfl ?_
          refine wpQ_on 137 rfl rfl (bval' rfl hc10537) ?_
          refine wpQ_pure (Value.bool (!decide (x10541.2.2.2.1 = (IntKind.i64.wrap (a10468 + (1000 : Int)))))) (pure_neq rfl rfl) rfl ?_
          refine wpQ_pure (Value.bool (!decide (x10541.2.2.2.1 = (IntKind.i64.wrap (a10468 + (1000 : Int)))))) (pure_pick_false (bval rfl hc10537) rfl) rfl ?_
          refine wpQ_pure (Value.bool (!decide (x10541.2.2.2.1 = (IntKind.i64.wrap (a10468 + (1000 : Int)))))) (pure_move rfl) rfl ?_
          by_cases hc10547 : (!decide (x10541.2.2.2.1 = (IntKind.i64.wrap (a10468 + (1000 : Int))))) = true
          ·rw [if_pos hc10547] at hm
           refine wpQ_off 147 rfl rfl (bval' rfl hc10547) (by decide) rfl ?_
           refine wpQ_off 147 rfl rfl (bval' rfl hc10547) (by decide) rfl ?_
           refine wpQ_off 147 rfl rfl (bval' rfl hc10547) (by decide) rfl ?_
           refine wpQ_off 147 rfl rfl (bval' rfl hc10547) (by decide) rfl ?_
           refine wpQ_off 147 rfl rfl (bval' rfl hc10547) (by decide) rfl ?_
           refine wpQ_off 147 rfl rfl (bval' rfl hc10547) (by decide) rfl ?_
           refine wpQ_off 147 rfl rfl (bval' rfl hc10547) (by decide) rfl ?_
           refine wpQ_off 147 rfl rfl (bval' rfl hc10547) (by decide) rfl ?_
           refine wpQ_off 147 rfl rfl (bval' rfl hc10547) (by decide) rfl ?_
           refine wpQ_off 147 rfl rfl (bval' rfl hc10547) (by decide) rfl ?_
           refine wpQ_off 147 rfl rfl (bval' rfl hc10547) (by decide) rfl ?_
           refine wpQ_pure (Value.bool true) (pure_pick_true (bval rfl hc10547) rfl) rfl ?_
           refine wpQ_pure (Value.bool true) (pure_move rfl) rfl ?_
           refine wpQ_off 160 rfl rfl rfl (by decide) rfl ?_
           refine wpQ_off 160 rfl rfl rfl (by decide) rfl ?_
           refine wpQ_off 160 rfl rfl rfl (by decide) rfl ?_
           refine wpQ_off 160 rfl rfl rfl (by decide) rfl ?_
           refine wpQ_off 160 rfl rfl rfl (by decide) rfl ?_
           refine wpQ_off 160 rfl rfl rfl (by decide) rfl ?_
           refine wpQ_off 160 rfl rfl rfl (by decide) rfl ?_
           refine wpQ_pure (Value.bool true) (pure_pick_true rfl rfl) rfl ?_
           refine wpQ_nil ?_
           intro w10549 h10548
           have st10550 := st10475.trans h10548
           refine thn_normal ?_
           exact ⟨true, _, v10462, v10464, v10466, st10550, (ho10465.st st10475.lt h10548), (ho10467.st st10475.lt h10548), ap10476, r10469, r10470, (hr10463.step (h10548.step st10475.lt)), r10471, r10472, r10473, rfl, hm⟩
          ·rw [if_neg hc10547] at hm
           replace hc10547 := Bool.eq_false_iff.2 hc10547
           refine wpQ_on 147 rfl rfl (bval' rfl hc10547) ?_
           refine wpQ_pure v10466 (pure_move r10472) rfl ?_
           refine wpQ_on 147 rfl rfl (bval' rfl hc10547) ?_
           refine wpQ_pure (Value.int .i64 a10468) (pure_move r10473) rfl ?_
           refine wpQ_on 147 rfl rfl (bval' rfl hc10547) ?_
           obtain ⟨x10551, h10552, hm⟩ := bind_some hm
           try dsimp only at hm
           refine wpQ_indexT (v := v10466) Try.underlying26 T42 rfl rfl (ho10467).reads h10552 rfl ?_
           intro b10553 o10554 ha10555
           refine wpQ_on 147 rfl rfl (bval' rfl hc10547) ?_
           have ha10556 : At _ _ rHousehold b10553 (o10554 + 0) (x10551.1) := ha10555.path (.fst (.here)) 0 rfl
           refine wpQ_pure (Value.pointer (some ⟨b10553, o10554 + 0, none⟩)) (pure_fieldT 0 Try.underlying42 rfl T38 rfl rfl) rfl ?_
           refine wpQ_on 147 rfl rfl (bval' rfl hc10547) ?_
           have ha10557 : At _ _ rInt b10553 (o10554 + 0 + 0) (x10551.1.1) := ha10556.path (.fst (.here)) 0 rfl
           refine wpQ_pure (Value.pointer (some ⟨b10553, o10554 + 0 + 0, none⟩)) (pure_fieldT 0 Try.underlying38 rfl T3 rfl rfl) rfl ?_
           refine wpQ_on 147 rfl rfl (bval' rfl hc10547) ?_
           refine wpQ_load_int st10475.lt Try.underlying3 rfl rfl ha10557 rfl ?_
           refine wpQ_on 147 rfl rfl (bval' rfl hc10547) ?_
           refine wpQ_pure vp0_ids (pure_move r10469) rfl ?_
           refine wpQ_on 147 rfl rfl (bval' rfl hc10547) ?_
           refine wpQ_pure (Value.int .i64 a10468) (pure_move r10473) rfl ?_
           refine wpQ_on 147 rfl rfl (bval' rfl hc10547) ?_
           obtain ⟨x10558, h10559, hm⟩ := bind_some hm
           try dsimp only at hm
           refine wpQ_indexT (v := vp0_ids) Try.underlying25 T3 rfl rfl ((hp0_ids.step (st10475.step hF0))).reads h10559 rfl ?_
           intro b10560 o10561 ha10562
           refine wpQ_on 147 rfl rfl (bval' rfl hc10547) ?_
           refine wpQ_load_int st10475.lt Try.underlying3 rfl rfl ha10562 rfl ?_
           refine wpQ_on 147 rfl rfl (bval' rfl hc10547) ?_
           refine wpQ_pure (Value.bool (!decide (x10551.1.1 = x10558))) (pure_neq rfl rfl) rfl ?_
           refine wpQ_pure (Value.bool (!decide (x10551.1.1 = x10558))) (pure_pick_false (bval rfl hc10547) rfl) rfl ?_
           refine wpQ_pure (Value.bool (!decide (x10551.1.1 = x10558))) (pure_move rfl) rfl ?_
           by_cases hc10563 : (!decide (x10551.1.1 = x10558)) = true
           ·rw [if_pos hc10563] at hm
            refine wpQ_off 160 rfl rfl (bval' rfl hc10563) (by decide) rfl ?_
            refine wpQ_off 160 rfl rfl (bval' rfl hc10563) (by decide) rfl ?_
            refine wpQ_off 160 rfl rfl (bval' rfl hc10563) (by decide) rfl ?_
            refine wpQ_off 160 rfl rfl (bval' rfl hc10563) (by decide) rfl ?_
            refine wpQ_off 160 rfl rfl (bval' rfl hc10563) (by decide) rfl ?_
            refine wpQ_off 160 rfl rfl (bval' rfl hc10563) (by decide) rfl ?_
            refine wpQ_off 160 rfl rfl (bval' rfl hc10563) (by decide) rfl ?_
            refine wpQ_pure (Value.bool true) (pure_pick_true (bval rfl hc10563) rfl) rfl ?_
            refine wpQ_nil ?_
            intro w10565 h10564
            have st10566 := st10475.trans h10564
            refine thn_normal ?_
            exact ⟨true, _, v10462, v10464, v10466, st10566, (ho10465.st st10475.lt h10564), (ho10467.st st10475.lt h10564), ap10476, r10469, r10470, (hr10463.step (h10564.step st10475.lt)), r10471, r10472, r10473, rfl, hm⟩
           ·rw [if_neg hc10563] at hm
            replace hc10563 := Bool.eq_false_iff.2 hc10563
            refine wpQ_on 160 rfl rfl (bval' rfl hc10563) ?_
            refine wpQ_pure v10462 (pure_move r10470) rfl ?_
            refine wpQ_on 160 rfl rfl (bval' rfl hc10563) ?_
            refine wpQ_pure (Value.int .i64 a10468) (pure_move r10473) rfl ?_
            refine wpQ_on 160 rfl rfl (bval' rfl hc10563) ?_
            obtain ⟨x10567, h10568, hm⟩ := bind_some hm
            try dsimp only at hm
            refine wpQ_indexT (v := v10462) Try.underlying26 T42 rfl rfl (hr10463).reads h10568 rfl ?_
            intro b10569 o10570 ha10571
            refine wpQ_on 160 rfl rfl (bval' rfl hc10563) ?_
            have ha10572 : At _ _ rInt b10569 (o10570 + 6) (x10567.2.2.2.1) := ha10571.path (.snd (.snd (.snd (.fst (.here))))) 6 rfl
            refine wpQ_pure (Value.pointer (some ⟨b10569, o10570 + 6, none⟩)) (pure_fieldT 6 Try.underlying42 rfl T3 rfl rfl) rfl ?_
            refine wpQ_on 160 rfl rfl (bval' rfl hc10563) ?_
            refine wpQ_load_int st10475.lt Try.underlying3 rfl rfl ha10572 rfl ?_
            refine wpQ_on 160 rfl rfl (bval' rfl hc10563) ?_
            refine wpQ_pure (Value.int .i64 a10468) (pure_move r10473) rfl ?_
            refine wpQ_on 160 rfl rfl (bval' rfl hc10563) ?_
            refine wpQ_pure (Value.bool (!decide (x10567.2.2.2.1 = a10468))) (pure_neq rfl rfl) rfl ?_
            refine wpQ_pure (Value.bool (!decide (x10567.2.2.2.1 = a10468))) (pure_pick_false (bval rfl hc10563) rfl) rfl ?_
            refine wpQ_nil ?_
            intro w10574 h10573
            have st10575 := st10475.trans h10573
            refine thn_normal ?_
            exact ⟨(!decide (x10567.2.2.2.1 = a10468)), _, v10462, v10464, v10466, st10575, (ho10465.st st10475.lt h10573), (ho10467.st st10475.lt h10573), ap10476, r10469, r10470, (hr10463.step (h10573.step st10475.lt)), r10471, r10472, r10473, rfl, hm⟩
        ·skip
         rintro ρ w ⟨a10521, F10528, v10515, v10517, v10519, st10529, ho10518, ho10520, ap10530, r10522, r10523, hr10516, r10524, r10525, r10526, r10527, hm⟩
         rw [M.law48_ShardPartition_k8] at hm
         by_cases hc10576 : a10521 = true
         ·rw [if_pos hc10576] at hm
          refine wpC_true (bval r10527 hc10576) ?_
          refine wpC_seq ?_
          refine wpC_region ?_
          refine wpS_pure (Value.bool false) (pure_assign rfl) rfl ?_
          refine wpS_nil ?_
          refine thn_normal ?_
          refine wpC_ret ?_
          refine inB_ret ?_
          refine thn_ret ?_
          obtain rfl := Option.some.inj hm
          refine loopQ_ret (fun hx => ?_)
          subst hx
          have hm10577 : some (false) = some r := hm10480
          refine joinQ_ret ?_
          refine thn_ret ?_
          obtain rfl := Option.some.inj hm10577
          refine bodyQ_ret1 Try.results6 (Value.bool false) rfl ?_
          exact ⟨_, st10529, rfl⟩
         ·rw [if_neg hc10576] at hm
          replace hc10576 := Bool.eq_false_iff.2 hc10576
          refine wpC_false (bval r10527 hc10576) ?_
          refine wpC_skip ?_
          refine inB_normal ?_
          refine thn_normal ?_
          refine wpC_region ?_
          refine wpS_pure (Value.int .i64 a10468) (pure_move r10526) rfl ?_
          refine wpS_pure (Value.int .i64 (IntKind.i64.wrap (a10468 + (1 : Int)))) (pure_add rfl rfl) rfl ?_
          refine wpS_pure (Value.int .i64 (IntKind.i64.wrap (a10468 + (1 : Int)))) (pure_assign rfl) rfl ?_
          refine wpS_nil ?_
          obtain rfl := Option.some.inj hm
          refine loopQ_in ?_
          exact ⟨(IntKind.i64.wrap (a10468 + (1 : Int))), _, v10515, v10517, v10519, rfl, st10529, ho10518, ho10520, ap10530, r10522, r10523, hr10516, r10524, r10525, rfl⟩
       ·rw [if_neg hc10485] at hm
        replace hc10485 := Bool.eq_false_iff.2 hc10485
        refine wpC_false (bval rfl hc10485) ?_
        refine wpC_exit ?_
        refine thn_exit ?_
        obtain rfl := Option.some.inj hm
        refine loopQ_exit (fun hx => ?_)
        subst hx
        have hm10578 : M.law48_ShardPartition_k6 N = some r := hm10480
        refine joinQ_same ?_
        exact ⟨_, st10475, hm10578⟩
     ·skip
      rintro ρ w ⟨F10401, st10402, hm⟩
      rw [M.law48_ShardPartition_k6] at hm
      refine thn_normal ?_
      refine wpC_seq ?_
      refine wpC_region ?_
      obtain ⟨y10579, h10580, hm⟩ := bind_some hm
      try dsimp only at hm
      refine wpS_call (vs := []) Try.func9 nm9 bd9 m_nil (M.law48_awake_walk N _ _ st10402.lt y10579 h10580) rfl ?_
      rintro v10581 w10582 ⟨F10583, h10584, hv10585⟩
      have h10586 := h10584.narrow st10402.lt
      have st10587 := st10402.trans h10586
      obtain rfl := hv10585
      refine wpS_pure (Value.bool y10579) (pure_assign rfl) rfl ?_
      refine wpS_nil ?_
      refine thn_normal ?_
      refine wpC_ret ?_
      obtain rfl := Option.some.inj hm
      refine bodyQ_ret1 Try.results6 (Value.bool y10579) rfl ?_
      exact ⟨_, st10587, rfl⟩

end Go.Proofs.Ytncajogcgkmpmaa
