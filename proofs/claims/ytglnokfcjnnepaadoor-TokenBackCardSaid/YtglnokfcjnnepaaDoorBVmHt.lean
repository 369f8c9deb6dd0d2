/- The VM: two structs compared. -/
import Derived.Test.YtglnokfcjnnepaaDoorBVmHs
namespace Go.Vm
open Go Go.RowKit

variable {P : Program} {d n k : Nat} {T : TypeId} {xs ys : Array Value} {u v : Value} {b b1 b2 : Bool}
def EqT (P : Program) (k : Nat) (T : TypeId) (u v : Value) (b : Bool) : Prop := ∀ d, k ≤ d → eval0 P (Op.equalIn d T u v) = some b
def EqF (P : Program) (k : Nat) (l : List Field) (xs ys : Array Value) (b : Bool) : Prop := ∀ d, k ≤ d →
  eval0 P (forIn l ((none, ()) : Option Bool × Unit) fun f _ =>
            if f.name ≠ "_" then do
              let x ← part f.type xs f.offset
              let y ← part f.type ys f.offset
              let r ← Op.equalIn d f.type x y
              if (!r) = true then pure (ForInStep.done (some false, ())) else pure (ForInStep.yield (none, ()))
            else pure (ForInStep.yield (none, ()))) = some (cond b (none, ()) (some false, ()))
theorem eqT_int {i : IntKind} {x y : Int} (hT : P.underlying T = some (.int i)) : EqT P (k + 1) T (.int i x) (.int i y) (eqI x y) := fun d hd => by
  obtain ⟨e, rfl⟩ : ∃ e, d = e + 1 := ⟨d - 1, by omega⟩
  unfold Op.equalIn
  simp only [eval0_bind, eval0_underlying hT, Option.bind_some, if_true, eqI_eq]
  rfl
theorem eqT_str {x y : List UInt8} (hT : P.underlying T = some .string) : EqT P (k + 1) T (.string ⟨⟨x⟩⟩) (.string ⟨⟨y⟩⟩) (eqS x y) := fun d hd => by
  obtain ⟨e, rfl⟩ : ∃ e, d = e + 1 := ⟨d - 1, by omega⟩
  unfold Op.equalIn
  simp only [eval0_bind, eval0_underlying hT, Option.bind_some, eqS_eq]
  have hs : ((⟨⟨x⟩⟩ : ByteArray) == ⟨⟨y⟩⟩) = (x == y) := by
    show ((⟨x⟩ : Array UInt8) == ⟨y⟩) = (x == y)
    simp
  rw [hs]; rfl
theorem eqT_bool {x y : Bool} (hT : P.underlying T = some .bool) : EqT P (k + 1) T (.bool x) (.bool y) (x == y) := fun d hd => by
  obtain ⟨e, rfl⟩ : ∃ e, d = e + 1 := ⟨d - 1, by omega⟩
  unfold Op.equalIn
  simp only [eval0_bind, eval0_underlying hT, Option.bind_some]
  rfl
theorem eqT_struct {fs : Array Field} (hT : P.underlying T = some (.struct fs)) (hst : P.stoodInHeld T = false) (h : EqF P k fs.toList xs ys b) : EqT P (k + 1) T (.agg xs) (.agg ys) b := fun d hd => by
  obtain ⟨e, rfl⟩ : ∃ e, d = e + 1 := ⟨d - 1, by omega⟩
  have hp : eval0 P (program : Sem Program) = some P := rfl
  unfold Op.equalIn
  simp only [eval0_bind, eval0_underlying hT, Option.bind_some, hp, hst, Bool.false_eq_true, if_false]
  rw [← Array.forIn_toList]
  have := h e (by omega)
  unfold EqF at h
  rw [this]
  cases b <;> rfl
theorem eqF_nil : EqF P k [] xs ys true := fun d _ => rfl
theorem eqF_cons {f : Field} {l : List Field} (hn : f.name ≠ "_") (hx : eval0 P (part f.type xs f.offset) = some u) (hy : eval0 P (part f.type ys f.offset) = some v) (he : EqT P k f.type u v b1) (h : EqF P k l xs ys b2) :
    EqF P k (f :: l) xs ys (b1 && b2) := fun d hd => by
  rw [List.forIn_cons]
  have h2 := h d hd
  rw [if_pos hn]
  simp only [eval0_bind, hx, hy, he d hd, Option.bind_some]
  cases b1 with
  | false => simp [eval0_pure]
  | true => simpa [eval0_pure] using h2
theorem eqF_one {f : Field} (hn : f.name ≠ "_") (hx : eval0 P (part f.type xs f.offset) = some u) (hy : eval0 P (part f.type ys f.offset) = some v) (he : EqT P k f.type u v b1) :
    EqF P k [f] xs ys b1 := by
  have := eqF_cons hn hx hy he (eqF_nil (P := P) (k := k) (xs := xs) (ys := ys))
  rwa [Bool.and_true] at this
theorem pa_one {cs : Array Value} {off : Nat} (hA : eval0 P (isAgg T) = some false) (h : cs[off]? = some v) : eval0 P (part T cs off) = some v := by
  unfold part
  simp only [eval0_bind, hA, Option.bind_some, Bool.false_eq_true, if_false, h]
  rfl
theorem pa_agg {cs : Array Value} {off : Nat} (hA : eval0 P (isAgg T) = some true) (hs : eval0 P (sizeOf T) = some n) (h : cs.extract off (off + n) = xs) : eval0 P (part T cs off) = some (.agg xs) := by
  unfold part
  simp only [eval0_bind, hA, Option.bind_some, if_true, hs, ← h]
  rfl
theorem eval0_map {α β : Type} (P : Program) (f : α → β) (x : Sem α) : eval0 P (f <$> x) = (eval0 P x).map f := by
  have : f <$> x = (x >>= fun a => pure (f a)) := rfl
  rw [this, eval0_bind]
  cases eval0 P x <;> rfl
theorem b_eqT {x y : Operand} {s t : SV} (hg : P.eqGuardType P.depth T = false) (h1 : nilCmp P .eql T s t = none) (ha : valOf s = some (.agg xs)) (hb : valOf t = some (.agg ys)) (he : EqT P 100 T (.agg xs) (.agg ys) b) : bin2 P .eql T x y s t = some (tb b) := by
  have hp : eval0 P (program : Sem Program) = some P := rfl
  unfold bin2
  rw [h1]
  unfold flat2
  rw [ha, hb]
  have := he Op.maxDepth (by decide)
  simp [eqGuard, binOp, Op.equal, eval0_bind, eval0_pure, eval0_map, hp, hg, this, ofVF]
theorem b_neT {x y : Operand} {s t : SV} (hg : P.eqGuardType P.depth T = false) (h1 : nilCmp P .neq T s t = none) (ha : valOf s = some (.agg xs)) (hb : valOf t = some (.agg ys)) (he : EqT P 100 T (.agg xs) (.agg ys) b) : bin2 P .neq T x y s t = some (tb (!b)) := by
  have hp : eval0 P (program : Sem Program) = some P := rfl
  unfold bin2
  rw [h1]
  unfold flat2
  rw [ha, hb]
  have := he Op.maxDepth (by decide)
  simp [eqGuard, binOp, Op.equal, eval0_bind, eval0_pure, eval0_map, hp, hg, this, ofVF]

theorem S_storeE {C : Cx} {al : AL} {σ : List Blk} {o : Oper} {T T' : TypeId} {x y : Operand} {id off n : Nat} {s : SV} {cells cs cells' : List SV} (ho : o.op = .store T x y) (hx : opA C.Z C.N al x = some (.ptr id 0 off)) (hy : opA C.Z C.N al y = some s) (hb : σ[id]? = some (.box T' cells))
    (hc : cellsS s = some cs) (hI : (C.P.info? T).isSome = true) (hz : szOf C.P T = n) (hz2 : cs.length = n) (hl : Nat.ble (off + cs.length) cells.length = true) (he : overS cells cs off = cells') (hn : noNilC cells' = true) :
    StepA C o al σ (putA o.dst (.d (.tup [])) al) (σ.set id (.box T' cells')) := S_storeB ho hx hy hb hc hI (hz2.trans hz.symm) hl he hn
theorem D_storeE {C : Cx} {E : Env} {al : AL} {σ : List Blk} {o : Oper} {T T' : TypeId} {x y : Operand} {id off n : Nat} {s : SV} {cells cs cells' : List SV} (ho : o.op = .store T x y) (hx : opA C.Z C.N al x = some (.ptr id 0 off)) (hy : opA C.Z C.N al y = some s) (hb : σ[id]? = some (.box T' cells))
    (hc : cellsS s = some cs) (hI : (C.P.info? T).isSome = true) (hz : szOf C.P T = n) (hz2 : cs.length = n) (hl : Nat.ble (off + cs.length) cells.length = true) (he : overS cells cs off = cells') :
    stepD C.P C.Z E o (mkFr C.N al) σ = some (.d (.tup []), σ.set id (.box T' cells')) := D_storeB ho hx hy hb hc hI (hz2.trans hz.symm) hl he
end Go.Vm
