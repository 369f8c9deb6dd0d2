/- Operations at states that are written out: memory; calls; a function's end. -/
import Derived.Test.YtglnokfcjnnepaaDoorBVmHo
namespace Go.Vm
open Go Go.RowKit

variable {C : Cx} {al : AL} {σ : List Blk} {o : Oper}

theorem V_extract {x : Operand} {i : Nat} {s v : SV} (ho : o.op = .extract x i) (hx : opA C.Z C.N al x = some s) (h : extractE i s = some v) : ValA C o al σ v :=
  (by unfold ValA; simp only [valOp, ho, opnd_mk, hx, Option.bind_some, h])
theorem V_fieldAddr {t : TypeId} {x : Operand} {f : Nat} {s v : SV} (ho : o.op = .fieldAddr t x f) (hx : opA C.Z C.N al x = some s) (h : fieldAddrE C.P t f s = some v) : ValA C o al σ v :=
  (by unfold ValA; simp only [valOp, ho, opnd_mk, hx, Option.bind_some, h])
theorem V_field {t : TypeId} {x : Operand} {f : Nat} {s : SV} {v : D} (ho : o.op = .field t x f) (hx : opA C.Z C.N al x = some s) (h : fieldE C.P t f s = some v) : ValA C o al σ (.d v) :=
  (by unfold ValA; simp only [valOp, ho, opnd_mk, hx, Option.bind_some, h]; rfl)
theorem V_nilCheck {x : Operand} {s : SV} (ho : o.op = .nilCheck x) (hx : opA C.Z C.N al x = some s) (h : nonNil s = some 1 ∨ nonNil s = some 2) : ValA C o al σ s :=
  (by unfold ValA; simp only [valOp, ho, opnd_mk, hx, Option.bind_some]; rcases h with h | h <;> rw [h] <;> rfl)
/-- The address of a list's element. -/
theorem V_idxA {α : Type} {t e : TypeId} {x ix : Operand} {s : SV} {l : List α} {row : α → List D} {i : Int} {a : α} (ho : o.op = .indexAddr t x ix) (hT : sliceElem C.P t = some e) (hI : (C.P.info? e).isSome = true) (hx : opA C.Z C.N al x = some s)
    (hr : rowsOf s = some (l.map row)) (hi : opA C.Z C.N al ix = some (.d (i64 i))) (h : getL l i = some a) (hl : (row a).length = szOf C.P e) : ValA C o al σ (.rp (l.map row) i.toNat 0) :=
  (by
    obtain ⟨h0, h1⟩ := getL_some h
    have hm : (l.map row)[i.toNat]? = some (row a) := by rw [List.getElem?_map, h1]; rfl
    unfold ValA; simp only [valOp, ho, opnd_mk, hx, hi, indexAddrE, asI, hT, h0, hI, and_self, if_true]
    cases s with
    | d y => simp only [hr, hm, hl, if_true]
    | gl k T r => simp only [hr, hm, hl, if_true]
    | _ => cases hr)
theorem V_loadR {T : TypeId} {x : Operand} {rows : List (List D)} {i off : Nat} {r : List D} {v : D} (ho : o.op = .load T x) (hx : opA C.Z C.N al x = some (.rp rows i off)) (hr : rows[i]? = some r) (h : loadD C.P T r off = some v) :
    ValA C o al σ (.d v) :=
  (by unfold ValA; simp only [valOp, ho, opnd_mk, hx, hr, h]; rfl)
theorem map_get {α : Type} {l : List α} {row : α → List D} {i : Int} {a : α} (h : getL l i = some a) : (l.map row)[i.toNat]? = some (row a) := by
  rw [List.getElem?_map, (getL_some h).2]; rfl
theorem V_loadB {T T' : TypeId} {x : Operand} {id off : Nat} {cells : List SV} {v : SV} (ho : o.op = .load T x) (hx : opA C.Z C.N al x = some (.ptr id 0 off)) (hb : σ[id]? = some (.box T' cells)) (h : loadB C.P T cells off = some v) :
    ValA C o al σ v :=
  (by unfold ValA; simp only [valOp, ho, opnd_mk, hx, hb, if_true, h])
theorem loadB_one {P : Program} {T : TypeId} {cells : List SV} {off : Nat} {v : SV} (h1 : okT P T = true) (h2 : isAggT P T = false) (h : cells[off]? = some v) : loadB P T cells off = some v := by
  simp only [loadB, h1, h2, if_true, Bool.false_eq_true, if_false, h]
theorem loadB_agg {P : Program} {T : TypeId} {cells : List SV} {off n : Nat} {ds : List D} (h1 : okT P T = true) (h2 : isAggT P T = true) (h3 : szOf P T = n) (h : datumL ((cells.drop off).take n) = some ds) (hl : ds.length = n) : loadB P T cells off = some (.d (.agg ds)) := by
  simp only [loadB, h1, h2, h3, if_true, h, hl]
theorem loadD_one {P : Program} {T : TypeId} {row : List D} {off : Nat} {v : D} (h1 : okT P T = true) (h2 : isAggT P T = false) (h : row[off]? = some v) : loadD P T row off = some v := by
  simp only [loadD, h1, h2, if_true, Bool.false_eq_true, if_false, h]
theorem loadD_agg {P : Program} {T : TypeId} {row ds : List D} {off n : Nat} (h1 : okT P T = true) (h2 : isAggT P T = true) (h3 : szOf P T = n) (h : (row.drop off).take n = ds) (hl : ds.length = n) : loadD P T row off = some (.agg ds) := by
  simp only [loadD, h1, h2, h3, if_true, h, hl]

/-- No cell is a nil slice. -/
def noNilC : List SV → Bool
  | [] => true
  | .d .nil :: _ => false
  | _ :: l => noNilC l
theorem noNilC_get : ∀ {cells : List SV} {j : Nat}, noNilC cells = true → cells[j]? ≠ some (.d .nil)
  | [], j, _ => by simp
  | x :: l, 0, h => by
    rintro e
    simp only [List.getElem?_cons_zero, Option.some.injEq] at e
    subst e
    cases h
  | x :: l, j + 1, h => by
    have : noNilC l = true := by
      unfold noNilC at h
      split at h
      · rename_i e; cases e
      · cases h
      · rename_i e; obtain ⟨rfl, rfl⟩ := List.cons.inj e; exact h
    simpa using noNilC_get (j := j) this
theorem settle_noNil {P : Program} {id : Nat} {T : TypeId} {cells : List SV} {fr : List SV} {σ : List Blk} (hb : σ[id]? = some (.box T cells)) (h : noNilC cells = true) : ∀ js, settle P id js fr σ = (fr, σ)
  | [] => rfl
  | j :: js => by
    simp only [settle, hb]
    split
    · rename_i e; exact absurd e (noNilC_get h)
    · exact settle_noNil hb h js
theorem S_storeB {T T' : TypeId} {x y : Operand} {id off : Nat} {s : SV} {cells cs cells' : List SV} (ho : o.op = .store T x y) (hx : opA C.Z C.N al x = some (.ptr id 0 off)) (hy : opA C.Z C.N al y = some s) (hb : σ[id]? = some (.box T' cells))
    (hc : cellsS s = some cs) (hI : (C.P.info? T).isSome = true) (hz : cs.length = szOf C.P T) (hl : Nat.ble (off + cs.length) cells.length = true) (he : overS cells cs off = cells') (hn : noNilC cells' = true) :
    StepA C o al σ (putA o.dst (.d (.tup [])) al) (σ.set id (.box T' cells')) :=
  StepA_of (by
    unfold stepOp; rw [ho]; simp only [opnd_mk, hx, hy, hb, hc, hI, hz, true_and]
    rw [hz] at hl
    rw [if_pos (Nat.le_of_ble_eq_true hl), he, putF_mk, settle_noNil (T := T') (cells := cells') ?_ hn]
    rw [List.getElem?_set_self (lt_of_some hb)])
theorem S_alloc {T : TypeId} {i : TypeInfo} {cells : List D} (ho : o.op = .alloc T) (hi : C.P.info? T = some i) (hz : i.zero.bind zeroCellsE = some cells) (hn : noNilC (cells.map .d) = true) :
    StepA C o al σ (putA o.dst (.ptr σ.length 0 0) al) (σ ++ [.box T (cells.map .d)]) :=
  StepA_of (by
    unfold stepOp; rw [ho]; simp only [hi, hz]
    rw [settle_noNil (T := T) (cells := cells.map .d) ?_ hn, putF_mk]
    rw [List.getElem?_append_right (Nat.le_refl _), Nat.sub_self]; rfl)
theorem S_box {T : TypeId} {x : Operand} {s : SV} {cells : List SV} (ho : o.op = .box T x) (hx : opA C.Z C.N al x = some s) (hc : cellsS s = some cells) (hn : noNilC cells = true) :
    StepA C o al σ (putA o.dst (.ptr σ.length 0 0) al) (σ ++ [.box T cells]) :=
  StepA_of (by
    unfold stepOp; rw [ho]; simp only [opnd_mk, hx, Option.bind_some, hc]
    rw [settle_noNil (T := T) (cells := cells) ?_ hn, putF_mk]
    rw [List.getElem?_append_right (Nat.le_refl _), Nat.sub_self]; rfl)
def partsA (Z : GTab) (N : Nat) (al : AL) : List (Nat × Operand) → Option (List (Nat × SV))
  | [] => some []
  | (i, x) :: l => match opA Z N al x, partsA Z N al l with
    | some s, some ss => some ((i, s) :: ss)
    | _, _ => none
theorem partsE_mk (Z : GTab) (N : Nat) (al : AL) : ∀ l, partsE Z (mkFr N al) l = partsA Z N al l
  | [] => rfl
  | (i, x) :: l => by simp only [partsE, partsA, opnd_mk, partsE_mk Z N al l]; rfl
def opAL (Z : GTab) (N : Nat) (al : AL) : List Operand → Option (List SV)
  | [] => some []
  | x :: l => match opA Z N al x, opAL Z N al l with
    | some s, some ss => some (s :: ss)
    | _, _ => none
theorem opndL_mk (Z : GTab) (N : Nat) (al : AL) : ∀ l, opndL Z (mkFr N al) l = opAL Z N al l
  | [] => rfl
  | x :: l => by simp only [opndL, opAL, opnd_mk, opndL_mk Z N al l]; rfl
theorem V_build {T : TypeId} {parts : Array (Nat × Operand)} {ps : List (Nat × SV)} {v : D} (ho : o.op = .build T parts) (hp : partsA C.Z C.N al parts.toList = some ps) (h : buildE C.P T ps = some v) : ValA C o al σ (.d v) :=
  (by unfold ValA; simp only [valOp, ho, partsE_mk, hp, h]; rfl)

/-- A list that grows by some rows. -/
theorem S_append {t k e : Nat} {s x : Operand} {rows rows2 : List (List D)} {y : SV} (ho : ∃ c, o.op = .call c ∧ c.callee = .builtin .append ∧ c.args = ⟨[s, x]⟩ ∧ c.argTypes = ⟨[t, t]⟩) (hT : sliceElem C.P t = some e)
    (hs : opA C.Z C.N al s = some (.gl k e rows)) (hx : opA C.Z C.N al x = some y) (hy : rowsOf y = some rows2) (hz : ∀ r ∈ rows2, r.length = szOf C.P e) (hok : appendOk C.P e (rows.length + rows2.length) = true) :
    StepA C o al σ (putA o.dst (.gl k e (rows ++ rows2)) (demA k al)) (σ.map (demoteB k)) := by
  obtain ⟨⟨cl, ar, ty⟩, ho, rfl, rfl, rfl⟩ := ho
  refine StepA_of ?_
  have hsrc : srcRows C.P e y = some rows2 := by
    unfold srcRows
    rw [hy]
    simp only []
    rw [if_pos (List.all_eq_true.2 fun r hr => by simpa using hz r hr)]
  unfold stepOp; rw [ho]; simp only [opnd_mk, hT, hs, hx, Option.bind_some, hsrc, hok, and_self, if_true, demoteL_mk, putF_mk]

/-- A call of a function that is handed data. -/
theorem S_call {f : Operand} {args : Array Operand} {ty : Array TypeId} {g : FuncId} {fs cs : List D} {ss : List SV} {ds : List D} {r : D} (ho : o.op = .call ⟨.value f, args, ty⟩) (hf : opA C.Z C.N al f = some (.d (.fn g fs cs)))
    (hs : opAL C.Z C.N al args.toList = some ss) (hd : datumL (ss.map noGl) = some ds) (hb : ((C.P.funcs[g]?).any fun fn => fn.body.isSome && fn.name != "runtime.NumGoroutine") = true) (h : PureC C.P C.Z g (fs ++ ds ++ cs) r) :
    StepA C o al σ (putA o.dst (.d r) al) σ := fun gg q a hI => by
  intro K Q hK
  have hfo := opnd_sound hI (x := f) (by rw [opnd_mk]; exact hf)
  have hfe : ∃ vs us, a.eval f = .func (.func g) ⟨vs⟩ ⟨us⟩ ∧ CRL gg fs vs ∧ CRL gg cs us := by
    revert hfo
    generalize a.eval f = u
    intro hfo
    cases hfo with
    | fn _ _ _ vs us h1 h2 => exact ⟨vs, us, rfl, h1, h2⟩
  obtain ⟨vs, us, hfe, h1, h2⟩ := hfe
  have hargs := datumL_srl hI (opndL_srl hI (by rw [opndL_mk]; exact hs)).2 hd
  have e1 : (⟨vs⟩ : Array Value) ++ args.map a.eval ++ ⟨us⟩ = ⟨vs ++ args.toList.map a.eval ++ us⟩ := by
    apply Array.toList_inj.1; simp
  have hrun : (execOp a.eval o).run C.P gg.w = .ok (.enter g ⟨vs ++ args.toList.map a.eval ++ us⟩) gg.w := by
    unfold execOp
    rw [ho]
    simp only [resolve, hfe, Deferred.ofValue, Sem.run_bind, Sem.run_pure, Result.andThen_ok, invoke, e1, run_callFunc hb]
  unfold Oper.wp
  rw [hrun, Oper.upon_enter]
  refine (h gg _ hI.dom hI.glob ((h1.append hargs).append h2)).mono ?_
  rintro e w' ⟨v, rfl, hbw, hc⟩
  obtain ⟨k1, k2⟩ := hI.grow hbw
  have := k1.put o.dst (x := .d r) hc
  rw [putF_mk] at this
  exact hK _ _ _ this k2
end Go.Vm
