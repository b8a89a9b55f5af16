/- A function's contract, from the walk of its code. -/
import Derived.Test.YtjeeligfdpociaaGreatCode
namespace Go.Proofs.YtjeeligfdpociaaGreat
open Go Go.RowKit

def resCell {P : Program} (T : Tabs P) (slots : List (Nat × Desc)) (objs : List (Nat × (Nat × Th))) (t : Nat) (T0 : TypeId) : Option Desc :=
  match find T.und T0 with
  | none => none
  | some kk => match find slots t with
    | some (.ptr o p off) => match find objs o with
      | some (_, .box _ tr) => match tr.get p with
        | some (s, off') => bif Nat.beq off' off && sizeOK T T0 kk s.size then some (.val (aggK kk) s) else none
        | none => none
      | _ => none
    | _ => none

def resD {P : Program} (T : Tabs P) (slots : List (Nat × Desc)) (objs : List (Nat × (Nat × Th))) : List ResultVar → Option (List Desc)
  | [] => some []
  | .tmp t :: l => match find slots t with
    | some d => match resD T slots objs l with
      | some ds => some (d :: ds)
      | none => none
    | none => none
  | .cell t T0 :: l => match resCell T slots objs t T0 with
    | some d => match resD T slots objs l with
      | some ds => some (d :: ds)
      | none => none
    | none => none

def retK {P : Program} (T : Tabs P) (rs : List ResultVar) (nb : Nat) (out : JS) (st : State) : Option (tupDen out.rows) :=
  match resD T st.slots st.objs rs with
  | some ds => match packV nb [] out (argSlots 0 ds) (mendS st).objs with
    | some (x, _) => some x
    | none => none
  | none => none

def init (inn : JS) (x : tupDen inn.rows) : State :=
  { slots := (resS inn.slots (ofTup _ x)).1, objs := resO 0 inn.objs (resS inn.slots (ofTup _ x)).2, nxt := inn.nxt }

def resK {P : Program} (T : Tabs P) (rs : List ResultVar) (nb : Nat) (out : JS) : Ex → State → Option (tupDen out.rows)
  | .exit _, _ => none
  | .goto _, _ => none
  | _, st => retK T rs nb out st

noncomputable def runF {P : Program} (E : Env P) (nt N : Nat) (c : Code) (rs : List ResultVar) (a : Ann) (inn out : JS) (x : tupDen inn.rows) : Option (tupDen out.rows) :=
  exec E nt N c a (init inn x) (resK E.T rs inn.nxt out)

section
variable {P : Program} {ρ : Nat → Value} {w : World} {H : Hist} {F : Nat → Prop} {U : Nat → Prop} {n : Nat}

theorem loadVar_run (T : Tabs P) {t : TypeId} {kk : TyK} (hu : find T.und t = some kk) {b off : Nat} {s : Tree} {cs : List Value} (hh : Holds H F w s cs) (hc : ∀ j u, cs[j]? = some u → w.cell? ⟨b, off + j, none⟩ = some u)
    (hz : if aggK kk = true then ∃ r, find T.row t = some r ∧ r.size = s.size else s.size = 1) : ∃ v, (loadVar t ⟨b, off, none⟩).run P w = .ok v w ∧ ValOK H F w (aggK kk) s v := by
  obtain ⟨dd, hd1, hd2⟩ := (T.und_ok _ _ hu).agg
  have hl := hh.length
  cases ha : aggK kk with
  | true =>
    rw [if_pos ha] at hz
    obtain ⟨r, hr, hrs⟩ := hz
    obtain ⟨ti, z, h1, _, _, h4, _⟩ := T.row_ok _ _ hr
    have hlc : (loadCells ⟨b, off, none⟩ cs.length).run P w = .ok cs.toArray w :=
      run_loadCells_list (P := P) w ⟨b, off, none⟩ cs (fun j v hv => by rw [addr_add_none]; exact hc j v hv)
    refine ⟨.agg cs.toArray, ?_, cs, hh, rfl, by simp⟩
    have hsz : ti.size = cs.length := by omega
    simp [loadVar, Sem.run_bind, run_isAgg hd1, hd2.trans ha, sizeOf, typeInfo, h1, hsz, hlc]
  | false =>
    rw [if_neg (by simp [ha])] at hz
    obtain ⟨v, rfl⟩ : ∃ v, cs = [v] := by
      match cs, hl.trans hz with
      | [v], _ => exact ⟨v, rfl⟩
    refine ⟨v, ?_, [v], hh, rfl, fun _ => rfl⟩
    have := hc 0 v rfl
    simp only [Nat.add_zero] at this
    simp [loadVar, Sem.run_bind, run_isAgg hd1, hd2.trans ha, this, go_sem]

theorem resCell_ok (T : Tabs P) {slots : List (Nat × Desc)} {objs : List (Nat × (Nat × Th))} {t : Nat} {T0 : TypeId} {D : Desc} (h : resCell T slots objs t T0 = some D) (hsl : ∀ t d, find slots t = some d → DescOK H F w d (ρ t)) (hs : ObSat U H F w (find objs) n) :
    ∃ a v, ρ t = .pointer (some a) ∧ (loadVar T0 a).run P w = .ok v w ∧ DescOK H F w D v := by
  unfold resCell at h
  split at h
  · cases h
  rename_i kk hu
  split at h
  case h_2 => cases h
  rename_i o p off hD
  split at h
  case h_2 => cases h
  rename_i s0 T1 tr hob
  split at h
  case h_2 => cases h
  rename_i s off' hg
  obtain ⟨h1, rfl⟩ := bif_some h
  obtain ⟨h1, h3⟩ := and2 h1
  obtain rfl := beq_true h1
  obtain ⟨b, hb, e⟩ := hsl _ _ hD
  obtain ⟨es, hh, hho⟩ := hs.box hob hb
  obtain ⟨g1, g2⟩ := hho.get hg
  obtain ⟨v, hv, hok⟩ := loadVar_run (b := b) (off := off') T hu g1 (fun j u hj => by
    rw [cells_at hh]
    rw [List.getElem?_take] at hj
    split at hj
    · rwa [List.getElem?_drop] at hj
    · cases hj) (sizeOK_ok T h3)
  exact ⟨_, v, e, hv, hok⟩

def resM (tmps : Array Value) : ResultVar → Sem Value
  | .tmp t => pure (tmps.getD t undef)
  | .cell a t => do loadVar t (← asAddr (tmps.getD a undef))

theorem resD_ok (T : Tabs P) {slots : List (Nat × Desc)} {objs : List (Nat × (Nat × Th))} (hsl : ∀ t d, find slots t = some d → DescOK H F w d (ρ t)) (hs : ObSat U H F w (find objs) n) {tmps : Array Value} (hf : ∀ t, tmps.getD t undef = ρ t) :
    {rs : List ResultVar} → {ds : List Desc} → resD T slots objs rs = some ds → ∃ vs : List Value, (rs.mapM (resM tmps)).run P w = .ok vs w ∧ DescsOK H F w ds vs
  | [], ds, h => by obtain rfl := Option.some.inj h; exact ⟨[], by simp, rfl⟩
  | .tmp t :: l, ds, h => by
    unfold resD at h
    split at h
    case h_2 => cases h
    rename_i d hd
    split at h
    case h_2 => cases h
    rename_i ds' hds
    obtain rfl := Option.some.inj h
    obtain ⟨vs, h1, h2⟩ := resD_ok T hsl hs hf hds
    refine ⟨ρ t :: vs, ?_, ρ t, vs, rfl, hsl t d hd, h2⟩
    have hm : (resM tmps (.tmp t)).run P w = .ok (ρ t) w := by rw [← hf t]; rfl
    rw [List.mapM_cons]
    simp only [Sem.run_bind, hm, Sem.run_pure, Result.andThen_ok, h1]
  | .cell t T0 :: l, ds, h => by
    unfold resD at h
    split at h
    case h_2 => cases h
    rename_i d hd
    split at h
    case h_2 => cases h
    rename_i ds' hds
    obtain rfl := Option.some.inj h
    obtain ⟨vs, h1, h2⟩ := resD_ok T hsl hs hf hds
    obtain ⟨a, v, e1, e2, e3⟩ := resCell_ok T hd hsl hs
    refine ⟨v :: vs, ?_, v, vs, rfl, e3, h2⟩
    have ha : (asAddr (.pointer (some a))).run P w = .ok a w := rfl
    have hm : (resM tmps (.cell t T0)).run P w = .ok v w := by
      show (asAddr (tmps.getD t undef) >>= fun b => loadVar T0 b).run P w = _
      rw [hf t, e1, Sem.run_bind, ha, Result.andThen_ok, e2]
    rw [List.mapM_cons]
    simp only [Sem.run_bind, hm, Sem.run_pure, Result.andThen_ok, h1]

theorem results_ok (T : Tabs P) {fn : Func} {rs : List ResultVar} (hrs : fn.results.toList = rs) {slots : List (Nat × Desc)} {objs : List (Nat × (Nat × Th))} (hsl : ∀ t d, find slots t = some d → DescOK H F w d (ρ t)) (hs : ObSat U H F w (find objs) n) {tmps : Array Value} (hf : ∀ t, tmps.getD t undef = ρ t)
    {ds : List Desc} (h : resD T slots objs rs = some ds) : ∃ vs : List Value, (results fn tmps).run P w = .ok (retV vs) w ∧ DescsOK H F w ds vs := by
  obtain ⟨vs, h1, h2⟩ := resD_ok T hsl hs hf h
  refine ⟨vs, ?_, h2⟩
  have e : fn.results = rs.toArray := toArray_of hrs
  have er : results fn tmps = (fn.results.mapM (resM tmps) >>= fun vs => pure (if h : vs.size = 1 then vs[0] else Value.tuple vs)) := rfl
  rw [er, e, List.mapM_toArray]
  have : ∀ vs : List Value, (if h : vs.toArray.size = 1 then vs.toArray[0] else Value.tuple vs.toArray) = retV vs := by
    intro vs
    match vs with
    | [] => rfl
    | [v] => rfl
    | a :: b :: l => simp [retV]
  simp only [Sem.run_bind, Sem.run_map, h1, Result.andThen_ok, Sem.run_pure, this]

theorem idxS_lt : {l : List (Nat × SS)} → {vs : List Dat} → {k t : Nat} → {d : Desc} → idxS k l = true → find (resS l vs).1 t = some d → t < k + l.length
  | [], _, _, _, _, _, h => by cases h
  | (t0, s) :: l, vs, k, t, d, hi, h => by
    obtain ⟨h1, h2⟩ := and2 hi
    have h' : find ((t0, (resS1 s vs).1) :: (resS l (resS1 s vs).2).1) t = some d := h
    rw [find_cons] at h'
    have := beq_true h1
    rw [List.length_cons]
    split at h'
    · omega
    · have := idxS_lt h2 h'
      omega

/-- A walk of code: a function on symbolic states. -/
def Walks (P : Program) (nt : Nat) (c : Code) (run : {R : Type} → State → (Ex → State → Option R) → Option R) : Prop :=
  ∀ {R : Type} {q : R} {st : State} {k : Ex → State → Option R} {H : Hist} {F : Nat → Prop} {w : World} {ρ : Nat → Value} {G : Nat → Prop} {w0 : World} {F0 : Nat → Prop} {Q : Exit → (Nat → Value) → World → Prop},
    run st k = some q → Here G w0 F0 H F w ρ st → (∀ e st' H' F' w' ρ', k e st' = some q → Then G w0 F0 (writes c) H F w ρ H' F' w' ρ' st' → Q e.exit' ρ' w') → wpC P nt c Q ρ w

/-- The contract of a function whose code is walked. -/
theorem fn_okW {E : Env P} {f : FuncId} {fn : Func} {c : Code} {rs : List ResultVar} {sg : Sig} {run : {R : Type} → State → (Ex → State → Option R) → Option R} (hW : Walks P fn.ntmps c run) (hf : P.funcs[f]? = some fn) (hn : (fn.name == "runtime.NumGoroutine") = false) (hb : fn.body = some c) (hrs : fn.results.toList = rs)
    (hidx : idxS 0 sg.inn.slots = true) (hlen : Nat.ble sg.inn.slots.length fn.ntmps = true) (hres : Nat.beq rs.length sg.out.slots.length = true)
    (hfn : ∀ x, sg.fn x = run (init sg.inn x) (resK E.T rs sg.inn.nxt sg.out)) : FnOK P f sg := by
  refine ⟨⟨fn, hf, hn, by rw [hb]; rfl⟩, fun x y hxy args w H F G hargs hsl hob hall hG => ?_⟩
  have hlen : sg.inn.slots.length ≤ fn.ntmps := by simpa using hlen
  have hres := beq_true hres
  refine (calls_of_wpC (R := fun v w' => ∃ vs, v = retV vs ∧ vs.length = sg.out.slots.length ∧ ∃ H' F', Ext G w w' ∧ H.le H' ∧ (∀ b, F b → F' b) ∧ (∀ b, F' b → F b ∨ w.heap.size ≤ b ∨ G b) ∧
      (∀ t d, find (resS sg.out.slots (ofTup _ y)).1 t = some d → DescOK H' F' w' d (vs.getD t undef)) ∧
      ObSat (fun k => w.heap.size ≤ k ∨ G k) H' F' w' (find (resO sg.inn.nxt sg.out.objs (resS sg.out.slots (ofTup _ y)).2)) sg.out.nxt ∧ AllNew H' sg.out.nxt) hf hb (by omega) fun ρ hρ => ?_).mono fun e w' ⟨v, he, vs, hv, h1, h2⟩ => ⟨vs, by rw [he, hv], h1, h2⟩
  have hρ' : ∀ t, t < args.length → ρ t = args.getD t undef := fun t ht => by
    rw [hρ t _ (List.getElem?_eq_getElem ht)]
    simp [List.getD, ht]
  have keys : ∀ t d, find (resS sg.inn.slots (ofTup sg.inn.rows x)).1 t = some d → DescOK H F w d (ρ t) := fun t d hd => by
    rw [hρ' t (by have := idxS_lt hidx hd; omega)]
    exact hsl t d hd
  have hh : Here G w F H F w ρ (init sg.inn x) := ⟨⟨keys, hob, hall⟩, ⟨⟨rfl, rfl, rfl, Nat.le_refl _, fun _ _ _ => rfl⟩, fun _ h => h, fun _ h => .inl h⟩⟩
  refine hW ((hfn x).symm.trans hxy) hh fun e st' H' F' w' ρ' h1 h2 => ?_
  have main : retK E.T rs sg.inn.nxt sg.out st' = some y → ∀ act, Fr fn.ntmps act ρ' → ∃ v, (results fn act.tmps).run P w' = .ok v w' ∧ ∃ vs, v = retV vs ∧ vs.length = sg.out.slots.length ∧ ∃ H' F', Ext G w w' ∧ H.le H' ∧ (∀ b, F b → F' b) ∧ (∀ b, F' b → F b ∨ w.heap.size ≤ b ∨ G b) ∧
      (∀ t d, find (resS sg.out.slots (ofTup _ y)).1 t = some d → DescOK H' F' w' d (vs.getD t undef)) ∧
      ObSat (fun k => w.heap.size ≤ k ∨ G k) H' F' w' (find (resO sg.inn.nxt sg.out.objs (resS sg.out.slots (ofTup _ y)).2)) sg.out.nxt ∧ AllNew H' sg.out.nxt := by
    intro hr act hfr
    unfold retK at hr
    split at hr
    case h_2 => cases hr
    rename_i ds hds
    split at hr
    case h_2 => cases hr
    rename_i _ z rest hp
    obtain ⟨bs, objs1⟩ := rest
    obtain rfl := Option.some.inj hr
    obtain ⟨vs, g1, g2⟩ := results_ok E.T hrs h2.here.sat.slot h2.here.sat.ob hfr.get hds
    have hdl := descsOK_length g2
    refine ⟨_, g1, vs, rfl, ?_, ?_⟩
    · have : ∀ {rs : List ResultVar} {ds : List Desc}, resD E.T st'.slots st'.objs rs = some ds → ds.length = rs.length := by
        intro rs
        induction rs with
        | nil => intro ds h; obtain rfl := Option.some.inj h; rfl
        | cons r l ih =>
          intro ds h
          cases r <;> unfold resD at h <;> split at h <;> try cases h
          all_goals
            split at h
            case h_2 => cases h
            rename_i ds' hds'
            obtain rfl := Option.some.inj h
            simp [ih hds']
      have := this hds
      omega
    · have hs0 : ObSat (UU G w) H F w (find (del [] [])) sg.inn.nxt := ⟨fun _ _ _ h => (by cases h), fun _ _ _ _ _ _ _ _ _ h => (by cases h), hob.fresh, hob.lt, hob.new, hob.gl⟩
      obtain ⟨H3, F3, h3, k3⟩ := h2.here.mendS
      obtain ⟨F2, H2, a1, a2, a3, _, a5, _, a6, a7, a8⟩ := packV_ok (U' := UU G w) (ns := []) (objs0 := []) (ρ := fun t => vs.getD t undef) hp hs0 hall (h2.keeps.trans k3) h3.sat.ob (fun t d hd => DescOK.keep k3.hist k3.step (by simpa using (argSlots_ok g2 t d hd).2))
      have hob2 := a8 h3.sat.ob.new (fun o s t v k _ m2 m3 m4 => by
        obtain ⟨v', hv', hin⟩ := a1.obj _ _ _ m2
        rw [m3] at hv'
        obtain rfl := Option.some.inj hv'
        exact hin.use k m4) (fun _ _ _ _ _ h => by cases h)
      rw [show del [] ([] : List (Nat × (Nat × Th))) = [] from rfl, List.append_nil] at hob2
      refine ⟨H2, F2, h3.glob.ext, a5, fun b hb => a2 b (h3.glob.le b hb), fun b hb => ?_, a7, hob2, a6⟩
      rcases a3 b hb with m1 | m1
      · exact h3.glob.new b m1
      · exact .inr (h3.sat.ob.eaten_use b m1)
  cases e with
  | normal => exact main h1
  | ret => exact main h1
  | exit id => cases h1
  | goto l => cases h1

theorem fn_ok {E : Env P} {f : FuncId} {fn : Func} {c : Code} {rs : List ResultVar} {N : Nat} {a : Ann} {sg : Sig} (hf : P.funcs[f]? = some fn) (hn : (fn.name == "runtime.NumGoroutine") = false) (hb : fn.body = some c) (hrs : fn.results.toList = rs)
    (hidx : idxS 0 sg.inn.slots = true) (hlen : Nat.ble sg.inn.slots.length fn.ntmps = true) (hres : Nat.beq rs.length sg.out.slots.length = true)
    (hfn : ∀ x, sg.fn x = runF E fn.ntmps N c rs a sg.inn sg.out x) : FnOK P f sg :=
  fn_okW (E := E) (run := fun st k => exec E fn.ntmps N c a st k) (fun h hh hk => exec_ok c h hh hk) hf hn hb hrs hidx hlen hres hfn

theorem fn_none {f : FuncId} {fn : Func} {sg : Sig} (hf : P.funcs[f]? = some fn) (hn : (fn.name == "runtime.NumGoroutine") = false) (hb : fn.body.isNone = false) (hfn : ∀ x, sg.fn x = none) : FnOK P f sg :=
  ⟨⟨fn, hf, hn, hb⟩, fun x y h => by rw [hfn x] at h; cases h⟩
theorem tabnil : ∀ p ∈ ([] : List (Nat × Sig)), FnOK P p.1 p.2 := fun _ h => by cases h
theorem tabcons {f : Nat} {sg : Sig} {l : List (Nat × Sig)} (h : FnOK P f sg) (hl : ∀ p ∈ l, FnOK P p.1 p.2) : ∀ p ∈ (f, sg) :: l, FnOK P p.1 p.2 := fun p hp => by
  rcases List.mem_cons.1 hp with rfl | hp
  · exact h
  · exact hl p hp
abbrev rInt : Row := .int .i64
end
end Go.Proofs.YtjeeligfdpociaaGreat
