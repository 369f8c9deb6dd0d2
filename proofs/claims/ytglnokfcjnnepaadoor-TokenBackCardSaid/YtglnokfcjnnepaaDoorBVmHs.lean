/- More rules, for lists of Lean's. -/
import Derived.Test.YtglnokfcjnnepaaDoorBVmHr
namespace Go.Vm
open Go Go.RowKit
variable {C : Cx} {al : AL} {σ : List Blk} {o : Oper}

theorem cond_none {α : Type} {b : Bool} {y : Option α} {r : α} (h : cond b none y = some r) : b = false ∧ y = some r := by
  cases b with
  | true => cases h
  | false => exact ⟨rfl, h⟩
def addS (a b : List UInt8) : Option (List UInt8) := bif Nat.ble (a.length + b.length) 140737488355328 then some (a ++ b) else none
theorem addS_some {a b r : List UInt8} (h : addS a b = some r) : a.length + b.length ≤ 140737488355328 ∧ r = a ++ b := by
  unfold addS at h
  rcases cond_some h with ⟨h1, h⟩ | ⟨_, h⟩
  · simp only [Option.some.injEq] at h
    exact ⟨Nat.le_of_ble_eq_true h1, h.symm⟩
  · cases h
theorem bs_add {P : Program} {t : TypeId} {x y : Operand} {l m r : List UInt8} (h : addS l m = some r) : bin2 P .add t x y (.d (str l)) (.d (str m)) = some (str r) := by
  obtain ⟨h1, rfl⟩ := addS_some h
  exact s_add _ _ _ _ _ _ (by omega)
/-- A list that grows, as far as there is room. -/
def appL {α : Type} (bytes : Nat) (l m : List α) : Option (List α) := bif Nat.ble ((l.length + m.length) * bytes) 140737488355328 then some (l ++ m) else none
theorem appL_some {α : Type} {b : Nat} {l m r : List α} (h : appL b l m = some r) : (l.length + m.length) * b ≤ 140737488355328 ∧ r = l ++ m := by
  unfold appL at h
  rcases cond_some h with ⟨h1, h⟩ | ⟨_, h⟩
  · simp only [Option.some.injEq] at h
    exact ⟨Nat.le_of_ble_eq_true h1, h.symm⟩
  · cases h

theorem V_lenM {α : Type} {t e : TypeId} {x : Operand} {s : SV} {l : List α} {row : α → List D} (ho : ∃ c, o.op = .call c ∧ c.callee = .builtin .len ∧ c.args = ⟨[x]⟩ ∧ c.argTypes = ⟨[t]⟩) (hT : sliceElem C.P t = some e) (hx : opA C.Z C.N al x = some s)
    (hr : rowsOf s = some (l.map row)) : ValA C o al σ (.d (i64 (lenL l))) := by
  have := V_lenL (o := o) (σ := σ) ho hT hx hr
  unfold lenL at this
  rwa [List.length_map] at this
theorem V_cutM {α : Type} {t e : TypeId} {x : Operand} {lo hi : Option Operand} {s : SV} {l r : List α} {row : α → List D} {i j : Int} (ho : o.op = .slice t x lo hi none) (hT : sliceElem C.P t = some e) (hI : (C.P.info? e).isSome = true)
    (hx : opA C.Z C.N al x = some s) (hr : rowsOf s = some (l.map row)) (hz : ∀ a, (row a).length = szOf C.P e) (hlo : optA C.Z C.N al 0 lo = some i) (hhi : optA C.Z C.N al (lenL l) hi = some j) (h : cutL l i j = some r) :
    ValA C o al σ (.d (.sl (r.map row))) := by
  obtain ⟨a, b, rfl, rfl, hab, hb, rfl⟩ := cutL_some h
  have hu := sliceElem_eq hT
  unfold ValA
  have hlo' : ∃ lo', optE C.Z (mkFr C.N al) lo = some lo' ∧ boundE lo' 0 = some a := by
    rw [optE_mk]
    cases lo with
    | none =>
      simp only [optA, Option.some.injEq] at hlo
      exact ⟨none, rfl, by simp only [boundE]; congr 1; omega⟩
    | some z =>
      simp only [optA] at hlo
      split at hlo
      · rename_i i' hz'
        simp only [Option.some.injEq] at hlo
        subst hlo
        exact ⟨_, by simp only [hz', Option.map_some]; rfl, by simp [boundE, asI]⟩
      · cases hlo
  have hhi' : ∃ hi', optE C.Z (mkFr C.N al) hi = some hi' ∧ boundE hi' (l.map row).length = some b := by
    rw [optE_mk]
    cases hi with
    | none =>
      simp only [optA, lenL, Option.some.injEq] at hhi
      have hhi : (l.length : Int) = b := hhi
      exact ⟨none, rfl, by simp only [boundE, List.length_map]; congr 1; omega⟩
    | some z =>
      simp only [optA] at hhi
      split at hhi
      · rename_i i' hz'
        simp only [Option.some.injEq] at hhi
        subst hhi
        exact ⟨_, by simp only [hz', Option.map_some]; rfl, by simp [boundE, asI]⟩
      · cases hhi
  obtain ⟨lo', e1, e2⟩ := hlo'
  obtain ⟨hi', e3, e4⟩ := hhi'
  simp only [valOp, ho, opnd_mk, hx, e1, e3, hu]
  have e5 : sliceE C.P t s lo' hi' = some (.sl (((l.take b).drop a).map row)) := by
    unfold sliceE
    rw [hT, hr]
    rw [List.length_map] at e4
    simp only [List.length_map, e4, e2, hab, hI, hb, and_self, if_true, ← List.map_take, ← List.map_drop]
    cases hc : (l.take b).drop a with
    | nil => rfl
    | cons y ys => simp only [List.map_cons, hz y, if_true]
  rw [e5]; rfl

theorem S_allocE {T : TypeId} {cells : List D} {al2 : AL} {σ2 : List Blk} {d : Nat} (ho : o.op = .alloc T) (hd : o.dst = some d) (hi : ∃ I, C.P.info? T = some I ∧ I.zero.bind zeroCellsE = some cells) (hn : noNilC (cells.map .d) = true)
    (ha : (d, .ptr σ.length 0 0) :: al = al2) (hs : σ ++ [.box T (cells.map .d)] = σ2) : StepA C o al σ al2 σ2 := by
  obtain ⟨I, h1, h2⟩ := hi
  have := S_alloc (al := al) (σ := σ) ho h1 h2 hn
  rw [hd] at this
  subst ha hs
  exact this

mutual
def hasTag (k : Nat) : SV → Bool
  | .gl j _ _ => Nat.beq j k
  | .clo _ a b => hasTagL k a || hasTagL k b
  | .tupr xs => hasTagL k xs
  | .d _ => false
  | .arr .. => false
  | .ptr .. => false
  | .rp .. => false
  | .any => false
def hasTagL (k : Nat) : List SV → Bool
  | [] => false
  | x :: xs => hasTag k x || hasTagL k xs
end
mutual
theorem demote_noTag {k : Nat} : (x : SV) → hasTag k x = false → demote k x = x
  | .gl j T rows, h => by
    have : j ≠ k := fun e => by rw [e] at h; simp [hasTag] at h
    simp [demote, this]
  | .clo f a b, h => by
    simp only [hasTag, Bool.or_eq_false_iff] at h
    simp only [demote, demoteL_noTag a h.1, demoteL_noTag b h.2]
  | .tupr xs, h => by simp only [demote, demoteL_noTag xs h]
  | .d _, _ | .arr .., _ | .ptr .., _ | .rp .., _ | .any, _ => rfl
theorem demoteL_noTag {k : Nat} : (xs : List SV) → hasTagL k xs = false → demoteL k xs = xs
  | [], _ => rfl
  | x :: xs, h => by
    simp only [hasTagL, Bool.or_eq_false_iff] at h
    simp only [demoteL, demote_noTag x h.1, demoteL_noTag xs h.2]
end
def hasTagB (k : Nat) : List Blk → Bool
  | [] => false
  | .arr .. :: l => hasTagB k l
  | .box _ cells :: l => hasTagL k cells || hasTagB k l
theorem demoteB_noTag {k : Nat} : ∀ {σ : List Blk}, hasTagB k σ = false → σ.map (demoteB k) = σ
  | [], _ => rfl
  | .arr .. :: l, h => by simp only [List.map_cons, demoteB, demoteB_noTag (σ := l) h]
  | .box _ cells :: l, h => by
    simp only [hasTagB, Bool.or_eq_false_iff] at h
    simp only [List.map_cons, demoteB, demoteB_noTag (σ := l) h.2, demoteL_noTag cells h.1]
/-- Words with a tag are forgotten. -/
def clrA (k : Nat) : AL → AL
  | [] => []
  | (j, v) :: l => (j, bif hasTag k v then .any else v) :: clrA k l
theorem look_clr (k n : Nat) : ∀ al, look (clrA k al) n = .any ∨ look (clrA k al) n = look (demA k al) n
  | [] => .inl rfl
  | (j, v) :: l => by
    simp only [clrA, demA, List.map_cons, look]
    cases Nat.beq j n with
    | true =>
      simp only [cond_true]
      cases h : hasTag k v with
      | true => exact .inl rfl
      | false => exact .inr (demote_noTag v h).symm
    | false => exact look_clr k n l
theorem Inv.clr {P : Program} {Z : GTab} {B N : Nat} {d : Nat} {v : SV} {k : Nat} {g : G} {q : Gh} {a : Act} (hI : Inv P Z B (mkFr N ((d, v) :: demA k al)) σ g q a) : Inv P Z B (mkFr N ((d, v) :: clrA k al)) σ g q a :=
  { hI with slot := hI.slot.weaken (by simp [mkFr]) (fun i hi => by
      rw [mkFr_length] at hi
      rw [mkFr_get _ hi, mkFr_get _ hi]
      simp only [look]
      cases Nat.beq d i with
      | true => exact .inr rfl
      | false =>
        rcases look_clr k i al with h | h
        · exact .inl (by simp only [cond_false, h])
        · exact .inr (by simp only [cond_false, h])) }
theorem S_clr {d k : Nat} {v : SV} (h : StepA C o al σ ((d, v) :: demA k al) (σ.map (demoteB k))) (hb : hasTagB k σ = false) : StepA C o al σ ((d, v) :: clrA k al) σ := fun g q a hI K Q hK => by
  rw [demoteB_noTag hb] at h
  exact h g q a hI K Q fun a' g' q' h1 h2 => hK a' g' q' h1.clr h2
theorem S_nil {k : Tmp} {e : TypeId} {α : Type} {row : α → List D} (ho : o.op = .assign (.const (.slice none 0 0))) (hd : o.dst = some k) (he : sliceElem C.P o.type = some e) (hb : hasTagB k σ = false) :
    StepA C o al σ ((k, .gl k e (([] : List α).map row)) :: clrA k al) σ := S_clr (S_assignNil ho hd he) hb
theorem S_appM {α : Type} {t k e d b : Nat} {s x : Operand} {y : SV} {l m r : List α} {row : α → List D} (ho : ∃ c, o.op = .call c ∧ c.callee = .builtin .append ∧ c.args = ⟨[s, x]⟩ ∧ c.argTypes = ⟨[t, t]⟩) (hd : o.dst = some d) (hT : sliceElem C.P t = some e)
    (hs : opA C.Z C.N al s = some (.gl k e (l.map row))) (hx : opA C.Z C.N al x = some y) (hy : rowsOf y = some (m.map row)) (hz : ∀ a, (row a).length = szOf C.P e) (hok : ∀ n, appendOk C.P e n = decide (n * b ≤ 140737488355328))
    (h : appL b l m = some r) (hb : hasTagB k σ = false) : StepA C o al σ ((d, .gl k e (r.map row)) :: clrA k al) σ := by
  obtain ⟨h1, rfl⟩ := appL_some h
  have := S_append (C := C) (al := al) (σ := σ) (o := o) ho hT hs hx hy (fun r hr => by obtain ⟨a, _, rfl⟩ := List.mem_map.1 hr; exact hz a) (by rw [hok, List.length_map, List.length_map]; simpa using h1)
  rw [hd] at this
  rw [List.map_append]
  exact S_clr this hb
def rowsLitA (P : Program) (Z : GTab) (N : Nat) (al : AL) (e : TypeId) : Nat → List (Nat × Operand) → Option (List (List D))
  | _, [] => some []
  | i, (j, x) :: l =>
    if i = j then
      match (opA Z N al x).bind datum with
      | some d => match cellsD d, rowsLitA P Z N al e (i + 1) l with
        | some cs, some rows => if cs.length = szOf P e then some (cs :: rows) else none
        | _, _ => none
      | none => none
    else none
theorem rowsLit_mk (P : Program) (Z : GTab) (N : Nat) (al : AL) (e : TypeId) : ∀ l i, rowsLit P Z (mkFr N al) e i l = rowsLitA P Z N al e i l
  | [], _ => rfl
  | (j, x) :: l, i => by simp only [rowsLit, rowsLitA, opnd_mk, rowsLit_mk P Z N al e l]; rfl
theorem S_lit {α : Type} {t e len k : Nat} {parts : Array (Nat × Operand)} {l : List α} {row : α → List D} (ho : o.op = .buildSlice t len parts) (hd : o.dst = some k) (hT : sliceElem C.P t = some e) (hr : rowsLitA C.P C.Z C.N al e 0 parts.toList = some (l.map row))
    (hl : l.length = len) (hs : Nat.ble (len * szOf C.P e) 16777216 = true) (hz : (zeroRow C.P e).isSome = true) (hb : hasTagB k σ = false) : StepA C o al σ ((k, .gl k e (l.map row)) :: clrA k al) σ := by
  refine S_clr (StepA_of ?_) hb
  unfold stepOp; rw [ho]; simp only [hd, hT, rowsLit_mk, hr, List.length_map, hl, hz, Nat.le_of_ble_eq_true hs, and_self, if_true, demoteL_mk, putF_mk]; rfl
/-- A call of a function without a body. -/
theorem S_callX {f : Operand} {args : Array Operand} {ty : Array TypeId} {g : FuncId} {fs cs : List D} {ss : List SV} {ds : List D} {r : D} (ho : o.op = .call ⟨.value f, args, ty⟩) (hf : opA C.Z C.N al f = some (.d (.fn g fs cs)))
    (hs : opAL C.Z C.N al args.toList = some ss) (hd : datumL (ss.map noGl) = some ds) (h : PureX C.P g (fs ++ ds ++ cs) r) : StepA C o al σ (putA o.dst (.d r) al) σ := fun gg q a hI => by
  have hfo := opnd_sound hI (x := f) (by rw [opnd_mk]; exact hf)
  have hfe : ∃ vs us, a.eval f = .func (.func g) ⟨vs⟩ ⟨us⟩ ∧ CRL gg fs vs ∧ CRL gg cs us := by
    revert hfo
    generalize a.eval f = u
    intro hfo
    cases hfo with
    | fn _ _ _ vs us h1 h2 => exact ⟨vs, us, rfl, h1, h2⟩
  obtain ⟨vs, us, hfe, h1, h2⟩ := hfe
  have hargs := datumL_srl hI (opndL_srl hI (by rw [opndL_mk]; exact hs)).2 hd
  have e1 : (⟨vs⟩ : Array Value) ++ args.map a.eval ++ ⟨us⟩ = ⟨vs ++ args.toList.map a.eval ++ us⟩ := by
    apply Array.toList_inj.1; simp
  obtain ⟨v, hv, hc⟩ := h gg _ ((h1.append hargs).append h2)
  have hp := hI.put o.dst (x := .d r) hc
  rw [putF_mk] at hp
  refine (steps1_val (v := v) ?_ hp (Evo.refl gg σ q) rfl).toW
  unfold execOp
  rw [ho]
  simp only [resolve, hfe, Deferred.ofValue, Sem.run_bind, Sem.run_pure, Result.andThen_ok, invoke, e1, hv]
theorem S_boxE {T : TypeId} {x : Operand} {s : SV} {cells : List SV} {al2 : AL} {σ2 : List Blk} {d : Nat} (ho : o.op = .box T x) (hd : o.dst = some d) (hx : opA C.Z C.N al x = some s) (hc : cellsS s = some cells) (hn : noNilC cells = true)
    (ha : (d, .ptr σ.length 0 0) :: al = al2) (hs : σ ++ [.box T cells] = σ2) : StepA C o al σ al2 σ2 := by
  have := S_box (C := C) (al := al) (σ := σ) ho hx hc hn
  rw [hd] at this
  subst ha hs
  exact this
theorem D_allocE {E : Env} {T : TypeId} {cells : List D} {σ2 : List Blk} (ho : o.op = .alloc T) (hi : ∃ I, C.P.info? T = some I ∧ I.zero.bind zeroCellsE = some cells) (hs : σ ++ [.box T (cells.map .d)] = σ2) :
    stepD C.P C.Z E o (mkFr C.N al) σ = some (.ptr σ.length 0 0, σ2) := by
  obtain ⟨I, h1, h2⟩ := hi
  subst hs
  exact D_alloc ho h1 h2
theorem D_boxE {E : Env} {T : TypeId} {x : Operand} {s : SV} {cells : List SV} {σ2 : List Blk} (ho : o.op = .box T x) (hx : opA C.Z C.N al x = some s) (hc : cellsS s = some cells) (hs : σ ++ [.box T cells] = σ2) :
    stepD C.P C.Z E o (mkFr C.N al) σ = some (.ptr σ.length 0 0, σ2) := by
  subst hs
  unfold stepD; rw [ho]; simp only [opnd_mk, hx, Option.bind_some, hc]
theorem D_lit {E : Env} {α : Type} {t e len : Nat} {parts : Array (Nat × Operand)} {l : List α} {row : α → List D} (ho : o.op = .buildSlice t len parts) (hT : sliceElem C.P t = some e) (hr : rowsLitA C.P C.Z C.N al e 0 parts.toList = some (l.map row))
    (hl : l.length = len) (hs : Nat.ble (len * szOf C.P e) 16777216 = true) (hz : (zeroRow C.P e).isSome = true) (h0 : Nat.blt 0 len = true) :
    stepD C.P C.Z E o (mkFr C.N al) σ = some (.d (.sl (l.map row)), σ) := by
  unfold stepD; rw [ho]; simp only [hT, rowsLit_mk, hr, List.length_map, hl, hz, Nat.le_of_ble_eq_true hs, blt_iff.1 h0, and_self, if_true]
end Go.Vm
