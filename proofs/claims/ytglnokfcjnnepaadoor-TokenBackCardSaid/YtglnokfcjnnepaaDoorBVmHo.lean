/- Operations at states that are written out. -/
import Derived.Test.YtglnokfcjnnepaaDoorBVmH
import Derived.Test.YtglnokfcjnnepaaDoorBVmF
namespace Go.Vm
open Go Go.RowKit

variable {C : Cx} {al : AL} {σ : List Blk} {o : Oper}

theorem StepA_of {al1 : AL} {σ1 : List Blk} (h : stepOp C.P C.Z o (mkFr C.N al) σ = some (mkFr C.N al1, σ1)) : StepA C o al σ al1 σ1 := fun _ _ _ hI => (step_sound hI h).toW
/-- What an operation yields that only yields a value. -/
def ValA (C : Cx) (o : Oper) (al : AL) (σ : List Blk) (v : SV) : Prop := valOp C.P C.Z o (mkFr C.N al) σ = some v
theorem V_move {x : Operand} {s : SV} (ho : o.op = .move x) (hx : opA C.Z C.N al x = some s) : ValA C o al σ s :=
  (by unfold ValA; simp only [valOp, ho, opnd_mk, hx])
def isNilC : Operand → Bool
  | .const (.slice none 0 0) => true
  | _ => false
theorem V_assign {x : Operand} {s : SV} (ho : o.op = .assign x) (hx : opA C.Z C.N al x = some s) : ValA C o al σ s :=
  (by unfold ValA; simp only [valOp, ho, opnd_mk, hx])
/-- An operation that only yields a value. -/
def plainOp : Op → Bool
  | .alloc _ | .box .. | .store .. | .buildSlice .. | .makeSlice .. => false
  | .assign x => !isNilC x
  | .call { callee := .value _, .. } => false
  | .call { callee := .builtin .append, .. } => false
  | _ => true
theorem stepOp_plain {P : Program} {Z : GTab} {fr : List SV} (hp : plainOp o.op = true) : stepOp P Z o fr σ = (valOp P Z o fr σ).map fun x => (putF fr o.dst x, σ) := by
  unfold stepOp
  split
  all_goals first
    | rfl
    | (rename_i h; rw [h] at hp; cases hp)
    | (rename_i h _; rw [h] at hp; cases hp)
    | (rename_i h _ _; rw [h] at hp; cases hp)
theorem S_V {v : SV} (hp : plainOp o.op = true) (hv : ValA C o al σ v) : StepA C o al σ (putA o.dst v al) σ :=
  StepA_of (by rw [stepOp_plain hp, show valOp C.P C.Z o (mkFr C.N al) σ = some v from hv, Option.map_some, putF_mk])
theorem S_assignNil {k : Tmp} {e : TypeId} (ho : o.op = .assign (.const (.slice none 0 0))) (hd : o.dst = some k) (he : sliceElem C.P o.type = some e) :
    StepA C o al σ ((k, .gl k e []) :: demA k al) (σ.map (demoteB k)) :=
  StepA_of (by
    unfold stepOp
    rw [ho]
    simp only [hd, he, demoteL_mk, putF_mk]; rfl)
theorem V_pick {c x y : Operand} {b p q : Bool} (ho : o.op = .pick c x y) (hc : opA C.Z C.N al c = some (.d (tb b))) (hx : opA C.Z C.N al x = some (.d (tb p))) (hy : opA C.Z C.N al y = some (.d (tb q))) :
    ValA C o al σ (.d (tb (bif b then p else q))) :=
  (by unfold ValA; simp only [valOp, ho, opnd_mk, hc, hx, hy]; rfl)
theorem V_pickT {c x y : Operand} {b : Bool} {s u : SV} (ho : o.op = .pick c x y) (hc : opA C.Z C.N al c = some (.d (tb b))) (hb : b = true) (hx : opA C.Z C.N al x = some s) (hy : opA C.Z C.N al y = some u) :
    ValA C o al σ s :=
  (by
    subst hb
    unfold ValA; simp only [valOp, ho, opnd_mk, hc, hx, hy]
    congr 1
    unfold pickSV
    split <;> rfl)
theorem V_pickF {c x y : Operand} {b : Bool} {s u : SV} (ho : o.op = .pick c x y) (hc : opA C.Z C.N al c = some (.d (tb b))) (hb : b = false) (hx : opA C.Z C.N al x = some s) (hy : opA C.Z C.N al y = some u) :
    ValA C o al σ u :=
  (by
    subst hb
    unfold ValA; simp only [valOp, ho, opnd_mk, hc, hx, hy]
    congr 1
    unfold pickSV
    split <;> rfl)
theorem V_bin {op : BinOp} {t tt : TypeId} {x y : Operand} {a b : SV} {v : D} (ho : o.op = .binOp op t x y tt) (hx : opA C.Z C.N al x = some a) (hy : opA C.Z C.N al y = some b) (hb : bin2 C.P op t x y a b = some v) :
    ValA C o al σ (.d v) :=
  (by unfold ValA; simp only [valOp, ho, opnd_mk, hx, hy, hb]; rfl)
theorem V_un {op : UnOp} {t : TypeId} {x : Operand} {a : SV} {v : D} (ho : o.op = .unOp op t x) (hx : opA C.Z C.N al x = some a) (hb : flat1 C.P (Op.unary op) a = some v) : ValA C o al σ (.d v) :=
  (by unfold ValA; simp only [valOp, ho, opnd_mk, hx, Option.bind_some, hb]; rfl)
theorem V_conv {s t : TypeId} {x : Operand} {a : SV} {v : D} (ho : o.op = .convert s t x) (hx : opA C.Z C.N al x = some a) (hb : flat1 C.P (convert s t) a = some v) : ValA C o al σ (.d v) :=
  (by unfold ValA; simp only [valOp, ho, opnd_mk, hx, Option.bind_some, hb]; rfl)
theorem V_idxS {t : TypeId} {x ix : Operand} {l : List UInt8} {i b : Int} (ho : o.op = .index t x ix) (hT : C.P.underlying t = some .string) (hx : opA C.Z C.N al x = some (.d (str l))) (hi : opA C.Z C.N al ix = some (.d (i64 i)))
    (h : idxS l i = some b) : ValA C o al σ (.d (.sc (.int .u8 b))) :=
  (by
    obtain ⟨n, c, rfl, hc, rfl⟩ := idxS_some h
    unfold ValA; simp only [valOp, ho, opnd_mk, hx, hi, valOf, idx_str hT hc, Option.bind_some]; rfl)
theorem V_lenS {t : TypeId} {x : Operand} {l : List UInt8} (ho : ∃ c, o.op = .call c ∧ c.callee = .builtin .len ∧ c.args = ⟨[x]⟩ ∧ c.argTypes = ⟨[t]⟩) (hT : C.P.underlying t = some .string) (hx : opA C.Z C.N al x = some (.d (str l))) :
    ValA C o al σ (.d (i64 (lenL l))) := by
  obtain ⟨⟨cl, ar, ty⟩, ho, rfl, rfl, rfl⟩ := ho
  have hs : sliceElem C.P t = none := by unfold sliceElem; rw [hT]
  exact (by unfold ValA; simp only [valOp, ho, opnd_mk, hx, Option.bind_some, lenE, hs, valOf, hT]; rfl)
theorem V_lenL {t e : TypeId} {x : Operand} {s : SV} {rows : List (List D)} (ho : ∃ c, o.op = .call c ∧ c.callee = .builtin .len ∧ c.args = ⟨[x]⟩ ∧ c.argTypes = ⟨[t]⟩) (hT : sliceElem C.P t = some e) (hx : opA C.Z C.N al x = some s) (hr : rowsOf s = some rows) :
    ValA C o al σ (.d (i64 (lenL rows))) := by
  obtain ⟨⟨cl, ar, ty⟩, ho, rfl, rfl, rfl⟩ := ho
  refine (by
    unfold ValA; simp only [valOp, ho, opnd_mk, hx, Option.bind_some, lenE, hT]
    cases s with
    | d y => simp only [hr]; rfl
    | gl k T r => simp only [hr]; rfl
    | _ => cases hr)
theorem V_min {x y : Operand} {k k' : IntKind} {a b : Int} (ho : ∃ c, o.op = .call c ∧ c.callee = .builtin .min ∧ c.args = ⟨[x, y]⟩) (hx : opA C.Z C.N al x = some (.d (.sc (.int k a)))) (hy : opA C.Z C.N al y = some (.d (.sc (.int k' b)))) :
    ValA C o al σ (.d (.sc (.int k (bif ltI b a then b else a)))) := by
  obtain ⟨⟨cl, ar, ty⟩, ho, rfl, rfl⟩ := ho
  exact (by unfold ValA; simp only [valOp, ho, opnd_mk, hx, hy, min2E, asI, ltI_eq, cond_eq_ite, decide_eq_true_eq]; rfl)
theorem V_max {x y : Operand} {k k' : IntKind} {a b : Int} (ho : ∃ c, o.op = .call c ∧ c.callee = .builtin .max ∧ c.args = ⟨[x, y]⟩) (hx : opA C.Z C.N al x = some (.d (.sc (.int k a)))) (hy : opA C.Z C.N al y = some (.d (.sc (.int k' b)))) :
    ValA C o al σ (.d (.sc (.int k (bif ltI a b then b else a)))) := by
  obtain ⟨⟨cl, ar, ty⟩, ho, rfl, rfl⟩ := ho
  exact (by unfold ValA; simp only [valOp, ho, opnd_mk, hx, hy, min2E, asI, ltI_eq, cond_eq_ite, decide_eq_true_eq]; rfl)
/-- A bound of a piece, if it stands. -/
def optA (Z : GTab) (N : Nat) (al : AL) (dflt : Int) : Option Operand → Option Int
  | none => some dflt
  | some x => match opA Z N al x with
    | some (.d (.sc (.int .i64 i))) => some i
    | _ => none
theorem optE_mk (Z : GTab) (N : Nat) (al : AL) (x : Option Operand) : optE Z (mkFr N al) x = match x with | none => some none | some y => (opA Z N al y).map some := by
  cases x with
  | none => rfl
  | some y => simp only [optE, opnd_mk]
theorem V_cutS {t : TypeId} {x : Operand} {lo hi : Option Operand} {l r : List UInt8} {i j : Int} (ho : o.op = .slice t x lo hi none) (hT : C.P.underlying t = some .string) (hx : opA C.Z C.N al x = some (.d (str l)))
    (hlo : optA C.Z C.N al 0 lo = some i) (hhi : optA C.Z C.N al (lenL l) hi = some j) (h : cutL l i j = some r) : ValA C o al σ (.d (str r)) :=
  (by
    obtain ⟨a, b, rfl, rfl, hab, hb, rfl⟩ := cutL_some h
    unfold ValA; simp only [valOp, ho, opnd_mk, hx, optE_mk, hT, valOf]
    cases lo with
    | none =>
      simp only [optA, Option.some.injEq] at hlo
      obtain rfl : a = 0 := by omega
      cases hi with
      | none =>
        simp only [optA, lenL, Option.some.injEq] at hhi
        obtain rfl : b = l.length := by
          have : (l.length : Int) = b := hhi
          omega
        simp only []
        have e := slice_str_to (P := C.P) hT (l := l) (b := l.length) (Nat.le_refl _)
        have e2 : eval0 C.P (Instr.sliceAt t (.string ⟨⟨l⟩⟩) none none none) = some (.string ⟨⟨l⟩⟩) := by
          unfold Instr.sliceAt
          simp only [eval0_bind, eval0_underlying hT, Option.bind_some]
          unfold Instr.slice
          simp only [eval0_bind, eval0_underlying hT, Option.bind_some, Option.isSome_none, Bool.false_eq_true, if_false]
          have hb : (Instr.sliceBounds false (⟨⟨l⟩⟩ : ByteArray).size (⟨⟨l⟩⟩ : ByteArray).size none none none) = pure (0, l.length, l.length) := by
            unfold Instr.sliceBounds Instr.sliceBound
            simp only [pure_bind, ba_size]
          rw [hb]
          simp only [pure_bind, eval0_pure, Option.bind_some, ba_extract, List.drop_zero, Nat.sub_zero, List.take_length]
        rw [e2]
        simp only [Option.bind_some, List.drop_zero, List.take_length]; rfl
      | some y =>
        simp only [optA] at hhi
        split at hhi
        · rename_i i' hy
          simp only [Option.some.injEq] at hhi
          subst hhi
          simp only [hy, Option.map_some, valOf, slice_str_to hT hb, Option.bind_some, List.drop_zero]; rfl
        · cases hhi
    | some z =>
      simp only [optA] at hlo
      split at hlo
      · rename_i i' hz
        simp only [Option.some.injEq] at hlo
        subst hlo
        cases hi with
        | none =>
          simp only [optA, lenL, Option.some.injEq] at hhi
          obtain rfl : b = l.length := by
            have : (l.length : Int) = b := hhi
            omega
          simp only [hz, Option.map_some, valOf, slice_str_from hT hab, Option.bind_some, List.take_length]; rfl
        | some y =>
          simp only [optA] at hhi
          split at hhi
          · rename_i i' hy
            simp only [Option.some.injEq] at hhi
            subst hhi
            simp only [hz, hy, Option.map_some, valOf, slice_str hT hab hb, Option.bind_some, List.drop_take]; rfl
          · cases hhi
      · cases hlo)
end Go.Vm
