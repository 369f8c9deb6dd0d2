/- Joins; regions that draw; a function's whole. -/
import Derived.Test.YtglnokfcjnnepaaDoorBVmHp
namespace Go.Vm
open Go Go.RowKit

variable {C : Cx} {al : AL} {σ : List Blk} {o : Oper} {Q : PQ}

/-- Where ways meet: what goes on is proved once. -/
theorem T_join {α : Type} {x y : Code} (mk : α → AL) (sg : α → List Blk) (J : α → Prop) (hy : ∀ a, J a → T C y (mk a) (sg a) Q)
    (hx : (∀ a, J a → T C y (mk a) (sg a) Q) → T C x al σ (thenQ (fun al' σ' => ∃ a, J a ∧ Less C (mk a) (sg a) al' σ') Q)) : T C (.seq x y) al σ Q := by
  refine T_seq fun g q a hI hE => wp_mono (hx hy g q a hI hE) ?_
  rintro e a' w ⟨g', q', ex, al', σ', h1, hex, hI', hE', hQ⟩
  refine ⟨g', q', ex, al', σ', h1, hex, hI', hE', ?_⟩
  cases ex with
  | normal => obtain ⟨b, hb, hl⟩ := hQ; exact T_less (hy b hb) hl
  | exit id => exact hQ
  | ret => exact hQ
/-- A loop by its function: so many rounds, each a step of it. -/
theorem T_rounds {α O : Type} {x : Code} (L : Nat → α → Option O) (mk : α → AL) (sg : α → List Blk) (out : O)
    (h0 : ∀ a, L 0 a = none)
    (hs : ∀ n a, L (n + 1) a = some out → T C x (mk a) (sg a) (thenQ (fun al' σ' => ∃ a', L n a' = some out ∧ Less C (mk a') (sg a') al' σ') Q)) :
    ∀ n a, L n a = some out → TL C n x (mk a) (sg a) Q
  | 0, a, h => by rw [h0] at h; cases h
  | n + 1, a, h => by
    refine TL_succ fun g q ac hI hE => wp_mono (hs n a h g q ac hI hE) ?_
    rintro e a' w ⟨g', q', ex, al', σ', h1, hex, hI', hE', hQ⟩
    refine ⟨g', q', ex, al', σ', h1, hex, hI', hE', ?_⟩
    cases ex with
    | normal => obtain ⟨b, hb, hl⟩ := hQ; exact TL_less (T_rounds L mk sg out h0 hs n b hb) hl
    | exit id => exact hQ
    | ret => exact hQ

/-! A region that draws. -/
def RD (P : Program) (Z : GTab) (E : Env) (ops : Array Oper) (l : List Oper) (fr : List SV) (σ : List Blk) (acc : List Foot) (K : List SV → List Blk → List Foot → Prop) : Prop :=
  ∃ r ft, runD P Z E ops l fr σ = some (r, ft) ∧ K r.1 r.2 (acc ++ ft)
def TD (C : Cx) (E : Env) (ops : Array Oper) (l : List Oper) (al : AL) (σ : List Blk) (acc : List Foot) (K : AL → List Blk → List Foot → Prop) : Prop :=
  RD C.P C.Z E ops l (mkFr C.N al) σ acc fun fr' σ' ft => ∃ al', fr' = mkFr C.N al' ∧ K al' σ' ft
variable {E : Env} {ops : Array Oper} {l : List Oper} {acc : List Foot} {K : AL → List Blk → List Foot → Prop}
theorem TD_nil (h : K al σ acc) : TD C E ops [] al σ acc K := ⟨_, _, rfl, al, rfl, by simpa using h⟩
theorem TD_want {v : SV} {σ1 : List Blk} {f : Foot} (hw : wantedE ops o (mkFr C.N al) = some true) (hs : stepD C.P C.Z E o (mkFr C.N al) σ = some (v, σ1)) (hf : footE C.Z o (mkFr C.N al) σ = f)
    (h : TD C E ops l (putA o.dst v al) σ1 (acc ++ [f]) K) : TD C E ops (o :: l) al σ acc K := by
  obtain ⟨r, ft, h1, h2⟩ := h
  rw [← putF_mk] at h1
  exact ⟨r, f :: ft, by simp only [runD, hw, hs, h1, hf, Option.map_some], by simpa using h2⟩
theorem TD_step {v : SV} {σ1 : List Blk} {f : Foot} (hg : o.guard = none) (hs : stepD C.P C.Z E o (mkFr C.N al) σ = some (v, σ1)) (hf : footE C.Z o (mkFr C.N al) σ = f)
    (h : TD C E ops l (putA o.dst v al) σ1 (acc ++ [f]) K) : TD C E ops (o :: l) al σ acc K := TD_want (by unfold wantedE; rw [hg]) hs hf h
theorem TD_stepG {v : SV} {σ1 : List Blk} {f : Foot} {j d : Nat} {b want : Bool} (hg : o.guard = some (j, want)) (hd : (ops[j]?).bind (·.dst) = some d) (hN : Nat.blt d C.N = true) (hl : look al d = .d (tb b)) (hb : b = want)
    (hs : stepD C.P C.Z E o (mkFr C.N al) σ = some (v, σ1)) (hf : footE C.Z o (mkFr C.N al) σ = f) (h : TD C E ops l (putA o.dst v al) σ1 (acc ++ [f]) K) : TD C E ops (o :: l) al σ acc K :=
  TD_want (by rw [wantedE_mk hg hd hN hl, hb]; simp) hs hf h
theorem TD_skip0 (hw : wantedE ops o (mkFr C.N al) = some false) (h : TD C E ops l (putA o.dst (.d (.tup [])) al) σ (acc ++ [.no]) K) : TD C E ops (o :: l) al σ acc K := by
  obtain ⟨r, ft, h1, h2⟩ := h
  rw [← putF_mk] at h1
  exact ⟨r, .no :: ft, by simp only [runD, hw, h1, Option.map_some], by simpa using h2⟩
theorem TD_skip {j d : Nat} {b want : Bool} (hg : o.guard = some (j, want)) (hd : (ops[j]?).bind (·.dst) = some d) (hN : Nat.blt d C.N = true) (hl : look al d = .d (tb b)) (hb : b = !want)
    (h : TD C E ops l (putA o.dst (.d (.tup [])) al) σ (acc ++ [.no]) K) : TD C E ops (o :: l) al σ acc K :=
  TD_skip0 (by rw [wantedE_mk hg hd hN hl, hb]; cases want <;> rfl) h
theorem TD_skipU {j d : Nat} {want : Bool} (hg : o.guard = some (j, want)) (hd : (ops[j]?).bind (·.dst) = some d) (hN : Nat.blt d C.N = true) (hl : look al d = .d (.tup []))
    (h : TD C E ops l (putA o.dst (.d (.tup [])) al) σ (acc ++ [.no]) K) : TD C E ops (o :: l) al σ acc K :=
  TD_skip0 (by unfold wantedE; rw [hg]; simp only [hd, mkFr_get al (blt_iff.1 hN), hl]) h
theorem T_draw {id : Nat} (hE : EnvOk C.P C.Z E) (hm : C.P.follows .mixedOrders = true) (h1 : drawOk ops = true) (h : TD C E ops ops.toList al σ [] fun al' σ' ft => confOk (ancs ops.toList) ft = true ∧ Q .normal al' σ') :
    T C (.region id ops true) al σ Q := fun g q a hI hEv => by
  obtain ⟨r, ft, h2, al', h3, h4, h5⟩ := h
  refine draw_sound hE hm h1 hI h2 (by simpa using h4) fun a' g' q' k1 k2 => ?_
  rw [h3] at k1
  exact ⟨g', q', .normal, al', r.2, rfl, rfl, k1, hEv.trans k2, h5⟩
def plainD : Op → Bool
  | .alloc _ | .box .. | .store .. | .buildSlice .. => false
  | .call { callee := .value _, .. } => false
  | _ => true
theorem stepD_plain {P : Program} {Z : GTab} {fr : List SV} (hp : plainD o.op = true) : stepD P Z E o fr σ = (valOp P Z o fr σ).map fun x => (x, σ) := by
  unfold stepD
  split
  all_goals first
    | rfl
    | (rename_i h; rw [h] at hp; cases hp)
    | (rename_i h _; rw [h] at hp; cases hp)
    | (rename_i h _ _; rw [h] at hp; cases hp)
theorem D_V {v : SV} (hp : plainD o.op = true) (hv : ValA C o al σ v) : stepD C.P C.Z E o (mkFr C.N al) σ = some (v, σ) := by
  rw [stepD_plain hp, show valOp C.P C.Z o (mkFr C.N al) σ = some v from hv, Option.map_some]
theorem D_call {f : Operand} {args : Array Operand} {ty : Array TypeId} {g : FuncId} {fs cs : List D} {ss : List SV} {ds : List D} {r : D} (ho : o.op = .call ⟨.value f, args, ty⟩) (hf : opA C.Z C.N al f = some (.d (.fn g fs cs)))
    (hs : opAL C.Z C.N al args.toList = some ss) (hd : datumL (fs.map .d ++ ss.map noGl ++ cs.map .d) = some ds) (hb : ((C.P.funcs[g]?).any fun fn => fn.body.isSome && fn.name != "runtime.NumGoroutine") = true) (h : E.D g ds = some r) :
    stepD C.P C.Z E o (mkFr C.N al) σ = some (.d r, σ) := by
  unfold stepD
  rw [ho]
  simp only [pureCall, opnd_mk, hf, opndL_mk, hs, calleeE, hb, if_true, hd, h, Option.map_some]
theorem D_alloc {T : TypeId} {i : TypeInfo} {cells : List D} (ho : o.op = .alloc T) (hi : C.P.info? T = some i) (hz : i.zero.bind zeroCellsE = some cells) :
    stepD C.P C.Z E o (mkFr C.N al) σ = some (.ptr σ.length 0 0, σ ++ [.box T (cells.map .d)]) := by
  unfold stepD; rw [ho]; simp only [hi, hz]
theorem D_storeB {T T' : TypeId} {x y : Operand} {id off : Nat} {s : SV} {cells cs cells' : List SV} (ho : o.op = .store T x y) (hx : opA C.Z C.N al x = some (.ptr id 0 off)) (hy : opA C.Z C.N al y = some s) (hb : σ[id]? = some (.box T' cells))
    (hc : cellsS s = some cs) (hI : (C.P.info? T).isSome = true) (hz : cs.length = szOf C.P T) (hl : Nat.ble (off + cs.length) cells.length = true) (he : overS cells cs off = cells') :
    stepD C.P C.Z E o (mkFr C.N al) σ = some (.d (.tup []), σ.set id (.box T' cells')) := by
  unfold stepD; rw [ho]; simp only [opnd_mk, hx, hy, hb, hc, hI, hz, true_and]
  rw [hz] at hl
  rw [if_pos (Nat.le_of_ble_eq_true hl), he]
/-- The blocks that an operation touches. -/
def footA (Z : GTab) (N : Nat) (o : Oper) (al : AL) (σ : List Blk) : Foot := match o.op with
  | .alloc _ | .box .. => .al σ.length
  | .store _ x _ => match opA Z N al x with | some (.ptr id _ _) => .wr id | _ => .no
  | .load _ x => match opA Z N al x with | some (.ptr id _ _) => .rd id | _ => .no
  | .indexAddr _ x _ => match opA Z N al x with | some (.arr id _ _) => .rd id | _ => .no
  | _ => .no
theorem foot_mk (Z : GTab) (N : Nat) : footE Z o (mkFr N al) σ = footA Z N o al σ := by
  unfold footE footA
  cases h : o.op <;> first | rfl | (simp only [opnd_mk]; rfl)

/-- What some calls answer. -/
noncomputable def envF (L : List (FuncId × List D × D)) : Env where
  D := fun f ds => by
    classical
    exact (L.find? fun x => decide (x.1 = f ∧ x.2.1 = ds)).map (·.2.2)
  X := fun _ _ => none
  S := fun _ _ _ => none
theorem envF_ok {P : Program} {Z : GTab} {L : List (FuncId × List D × D)} (h : ∀ x ∈ L, PureC P Z x.1 x.2.1 x.2.2) : EnvOk P Z (envF L) := by
  refine ⟨fun f ds r hr _ => ?_, (fun _ _ _ h _ => by cases h), (fun _ _ _ _ _ h _ _ => by cases h)⟩
  obtain ⟨x, hx, rfl⟩ := Option.map_eq_some_iff.1 hr
  have h1 := List.find?_some hx
  simp only [decide_eq_true_eq] at h1
  obtain ⟨rfl, rfl⟩ := h1
  exact h x (List.mem_of_find?_eq_some hx)
theorem envF_at {L : List (FuncId × List D × D)} {f : FuncId} {ds : List D} {r : D} (h : (f, ds, r) ∈ L) (hc : ∀ r', (f, ds, r') ∈ L → r' = r) : (envF L).D f ds = some r := by
  classical
  show (L.find? fun x => decide (x.1 = f ∧ x.2.1 = ds)).map (·.2.2) = some r
  cases hx : L.find? fun x => decide (x.1 = f ∧ x.2.1 = ds) with
  | none =>
    have := List.find?_eq_none.1 hx _ h
    simp at this
  | some x =>
    have h1 := List.find?_some hx
    simp only [decide_eq_true_eq] at h1
    obtain ⟨g, es, s⟩ := x
    obtain ⟨rfl, rfl⟩ := h1
    rw [Option.map_some, hc s (List.mem_of_find?_eq_some hx)]

/-! A function. -/
def entryA : Nat → List D → AL
  | _, [] => []
  | i, d :: ds => (i, .d d) :: entryA (i + 1) ds
theorem look_entry : ∀ (ds : List D) (i k : Nat), look (entryA i ds) k = if i ≤ k then (match ds[k - i]? with | some d => .d d | none => .any) else .any
  | [], i, k => by simp [entryA, look]
  | d :: ds, i, k => by
    simp only [entryA, look]
    cases h : Nat.beq i k with
    | true =>
      obtain rfl := Nat.eq_of_beq_eq_true h
      simp
    | false =>
      have hne : i ≠ k := fun e => by rw [e, Nat.beq_refl] at h; cases h
      rw [cond_false, look_entry ds (i + 1) k]
      by_cases hlt : i + 1 ≤ k
      · rw [if_pos hlt, if_pos (by omega)]
        rw [show k - i = (k - (i + 1)) + 1 from by omega, List.getElem?_cons_succ]
      · rw [if_neg hlt, if_neg (by omega)]
theorem resE_tmp {P : Program} {N : Nat} {t : Tmp} {v : SV} (hN : Nat.blt t N = true) (h : lookO al t = some v) : resultE P (mkFr N al) σ (.tmp t) = some (noGl v) := by
  rw [lookO_eq, Option.some.injEq] at h
  simp only [resultE, List.getD_eq_getElem?_getD, mkFr_get al (blt_iff.1 hN), Option.getD_some, h]
theorem resE_cell {P : Program} {N : Nat} {t : Tmp} {T T' : TypeId} {id off : Nat} {cells : List SV} {v : SV} (hN : Nat.blt t N = true) (h : look al t = .ptr id 0 off) (hb : σ[id]? = some (.box T' cells)) (hl : loadB P T cells off = some v) :
    resultE P (mkFr N al) σ (.cell t T) = some (noGl v) := by
  simp only [resultE, List.getD_eq_getElem?_getD, mkFr_get al (blt_iff.1 hN), Option.getD_some, h, hb, if_true, hl, Option.map_some]
theorem resEs_nil {P : Program} {fr : List SV} : resultsE P fr σ [] = some [] := rfl
theorem resEs_cons {P : Program} {fr : List SV} {r : ResultVar} {l : List ResultVar} {s : SV} {ss : List SV} (h : resultE P fr σ r = some s) (k : resultsE P fr σ l = some ss) : resultsE P fr σ (r :: l) = some (s :: ss) := by
  simp only [resultsE, h, k]
/-- What is nil is the empty list as well. -/
inductive Wk : D → D → Prop
  | refl (x : D) : Wk x x
  | nil : Wk .nil (.sl [])
  | tup (xs ys : List D) (h : ∀ i : Nat, ∀ x y, xs[i]? = some x → ys[i]? = some y → Wk x y) (hl : xs.length = ys.length) : Wk (.tup xs) (.tup ys)
  | agg (xs ys : List D) (h : ∀ i : Nat, ∀ x y, xs[i]? = some x → ys[i]? = some y → Wk x y) (hl : xs.length = ys.length) : Wk (.agg xs) (.agg ys)
def WkL : List D → List D → Prop
  | [], [] => True
  | x :: xs, y :: ys => Wk x y ∧ WkL xs ys
  | _, _ => False
theorem WkL.get : ∀ {xs ys : List D}, WkL xs ys → ∀ (i : Nat) x y, xs[i]? = some x → ys[i]? = some y → Wk x y
  | [], [], _, i, x, y, h, _ => by simp at h
  | [], _ :: _, h, _, _, _, _, _ => h.elim
  | _ :: _, [], h, _, _, _, _, _ => h.elim
  | a :: xs, b :: ys, ⟨h1, h2⟩, 0, x, y, hx, hy => by
    simp only [List.getElem?_cons_zero, Option.some.injEq] at hx hy
    subst hx hy; exact h1
  | a :: xs, b :: ys, ⟨h1, h2⟩, i + 1, x, y, hx, hy => WkL.get h2 i x y (by simpa using hx) (by simpa using hy)
theorem WkL.len : ∀ {xs ys : List D}, WkL xs ys → xs.length = ys.length
  | [], [], _ => rfl
  | [], _ :: _, h => h.elim
  | _ :: _, [], h => h.elim
  | _ :: xs, _ :: ys, ⟨_, h⟩ => by simp [WkL.len h]
theorem Wk_tup {xs ys : List D} (h : WkL xs ys) : Wk (.tup xs) (.tup ys) := .tup _ _ h.get h.len
theorem Wk_agg {xs ys : List D} (h : WkL xs ys) : Wk (.agg xs) (.agg ys) := .agg _ _ h.get h.len
theorem CRL.of_get {g : G} : ∀ {ys xs : List D} {vs : List Value}, CRL g xs vs → xs.length = ys.length → (∀ (i : Nat) x y v, xs[i]? = some x → ys[i]? = some y → CR g x v → CR g y v) → CRL g ys vs
  | [], [], _, h, _, _ => h
  | [], _ :: _, _, _, hl, _ => by simp at hl
  | _ :: _, [], _, _, hl, _ => by simp at hl
  | y :: ys, x :: xs, _, .cons _ _ _ _ h1 h2, hl, hw => .cons _ _ _ _ (hw 0 x y _ rfl rfl h1) (CRL.of_get h2 (by simpa using hl) fun i x y v hx hy => hw (i + 1) x y v (by simpa using hx) (by simpa using hy))
theorem Wk.cr {g : G} {x y : D} (h : Wk x y) : ∀ {v : Value}, CR g x v → CR g y v := by
  induction h with
  | refl x => exact fun h => h
  | nil => intro v h; cases h; exact .sl0 _ _
  | tup xs ys h hl ih =>
    intro v hc
    cases hc with
    | tup _ vs hcl => exact .tup _ _ (CRL.of_get hcl hl fun i x y v hx hy => ih i x y hx hy)
  | agg xs ys h hl ih =>
    intro v hc
    cases hc with
    | agg _ vs h1 hcl => exact .agg _ _ h1 (CRL.of_get hcl hl fun i x y v hx hy => ih i x y hx hy)
theorem pure_wk {P : Program} {Z : GTab} {f : FuncId} {ds ds' : List D} {r : D} (h : PureC P Z f ds' r) (hw : WkL ds ds') : PureC P Z f ds r := fun g vs hdom hz hcl =>
  h g vs hdom hz (CRL.of_get hcl hw.len fun i x y v hx hy hc => (hw.get i x y hx hy).cr hc)
/-- What a function's end comes to. -/
def EndQ (P : Program) (N : Nat) (rv : List ResultVar) (r : D) : PQ := fun e al σ =>
  (match e with | .exit _ => False | _ => True) ∧ ∃ rs r0, resultsE P (mkFr N al) σ rv = some rs ∧ snapR σ rs = some r0 ∧ Wk r0 r
theorem pure_of_T {P : Program} {Z : GTab} {f : FuncId} {fn : Func} {c : Code} (hf : P.funcs[f]? = some fn) (hc : fn.body = some c) {ds : List D} {r : D} (hN : Nat.ble ds.length fn.ntmps = true)
    (h : ∀ B g0 q0, T ⟨P, Z, fn.ntmps, B, g0, [], q0⟩ c (entryA 0 ds) [] (EndQ P fn.ntmps fn.results.toList r)) : PureC P Z f ds r := by
  intro g vs hdom hz hcl
  have hN := Nat.le_of_ble_eq_true hN
  have hI := Inv.start P Z g hdom hz hcl
  let q0 : Gh := ⟨fun _ => 0, fun _ => default, fun _ => none⟩
  have hI1 : Inv P Z g.w.heap.size (mkFr fn.ntmps (entryA 0 ds)) [] g q0 { tmps := (⟨vs⟩ : Array Value) ++ Array.replicate (fn.ntmps - (⟨vs⟩ : Array Value).size) undef, defers := [] } := by
    refine { hI with defers := rfl, slot := SRL.weaken (entry_srl hI.slot fn.ntmps) ?_ ?_ }
    · simp only [mkFr_length, List.length_append, List.length_map, List.length_replicate]; omega
    · intro i hi
      rw [mkFr_length] at hi
      rw [mkFr_get _ hi, look_entry]
      simp only [Nat.zero_le, if_true, Nat.sub_zero]
      cases hd : ds[i]? with
      | none => exact .inl rfl
      | some d =>
        right
        have hlt : i < ds.length := (List.getElem?_eq_some_iff.1 hd).1
        rw [List.getElem?_append_left (by simpa using hlt), List.getElem?_map, hd]; rfl
  refine calls_of_wp hf hc (wp_mono (h g.w.heap.size g q0 g q0 _ hI1 (Evo.refl g [] q0)) ?_)
  rintro e a w ⟨g', q', ex, al', σ', rfl, hex, hI', hE', hne, rs, r0, hrs, hsn, hwk⟩
  obtain ⟨us, k1, k2⟩ := results_sound hI' hrs
  have key : ∃ v, (results fn a.tmps).run P g'.w = .ok v g'.w ∧ Below g.w.heap.size g.w g'.w ∧ CR ⟨g'.w, fun b o => g.S b o ∨ (g.w.heap.size ≤ b ∧ b < g'.w.heap.size)⟩ r v := by
    have hb := Evo.below hI hE'
    have hle : g'.le ⟨g'.w, fun b o => g.S b o ∨ (g.w.heap.size ≤ b ∧ b < g'.w.heap.size)⟩ := ⟨fun _ _ _ _ h => h, fun b o hs => by
      by_cases hlt : b < g.w.heap.size
      · exact .inl (((hE'.kept b hlt not_own_start).2 o).1 hs)
      · exact .inr ⟨by omega, hI'.dom b o hs⟩⟩
    have hS : ∀ b o, g.w.heap.size ≤ b → b < g'.w.heap.size → (g.S b o ∨ (g.w.heap.size ≤ b ∧ b < g'.w.heap.size)) := fun b o k1 k2 => .inr ⟨k1, k2⟩
    refine ⟨_, k1, hb, hwk.cr ?_⟩
    unfold snapR at hsn
    split at hsn
    · rename_i x
      obtain ⟨v, us', j1, j2, e⟩ := k2
      simp only [SRL] at j2
      subst j2 e
      exact snap_sound hI' hle hS j1 hsn
    · rename_i hne2
      obtain ⟨ds', hds, rfl⟩ := Option.map_eq_some_iff.1 hsn
      have hl := SRL.length k2
      have hc := snapL_sound hI' hle hS k2 hds
      cases us with
      | nil => exact .tup _ _ hc
      | cons u us =>
        cases us with
        | nil =>
          cases rs with
          | nil => simp at hl
          | cons y ys =>
            cases ys with
            | nil => exact absurd rfl (hne2 y)
            | cons => simp at hl
        | cons u2 us => exact .tup _ _ hc
  obtain ⟨v, j1, j2, j3⟩ := key
  cases ex with
  | normal => obtain rfl := hex; exact ⟨hI'.defers, _, j1, v, rfl, j2, j3⟩
  | exit id => exact absurd hne (by simp)
  | ret => obtain rfl := hex; exact ⟨hI'.defers, _, j1, v, rfl, j2, j3⟩
end Go.Vm
