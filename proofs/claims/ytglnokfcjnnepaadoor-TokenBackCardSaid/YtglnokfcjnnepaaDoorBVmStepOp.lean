/- One operation that is no call of a Go function. -/
import Derived.Test.YtglnokfcjnnepaaDoorBVmAppend
namespace Go.Vm
open Go Go.RowKit

def boxTag (id off : Nat) : Nat := 1048576 * (id + 1) + off

/-- The element's type of the slice that lies at a cell of a variable. -/
def cellElem (P : Program) : Nat → TypeId → Nat → TypeId
  | 0, _, _ => 0
  | n + 1, T, off => match P.underlying T with
    | some (.slice e) => e
    | some (.array _ e) => cellElem P n e (off % szOf P e)
    | some (.struct fields) => match fields.toList.find? (fun f => f.offset ≤ off && off < f.offset + szOf P f.type) with
      | some f => cellElem P n f.type (off - f.offset)
      | none => 0
    | _ => 0

/-- Slices of a box that are nil become lists that grow. -/
def settle (P : Program) (id : Nat) : List Nat → List SV → List Blk → List SV × List Blk
  | [], fr, σ => (fr, σ)
  | j :: js, fr, σ => match σ[id]? with
    | some (.box T cells) => match cells[j]? with
      | some (.d .nil) => settle P id js (demoteL (boxTag id j) fr) ((σ.map (demoteB (boxTag id j))).set id (.box T ((demoteL (boxTag id j) cells).set j (.gl (boxTag id j) (cellElem P 9 T j) []))))
      | _ => settle P id js fr σ
    | _ => (fr, σ)

theorem settle_sound {P : Program} {Z : GTab} {B : Nat} {g : G} {a : Act} (id : Nat) : ∀ (js : List Nat) {fr : List SV} {σ : List Blk} {q : Gh}, Inv P Z B fr σ g q a →
    ∃ q', Inv P Z B (settle P id js fr σ).1 (settle P id js fr σ).2 g q' a ∧ Evo g σ q g (settle P id js fr σ).2 q'
  | [], fr, σ, q, hI => ⟨q, hI, Evo.refl g σ q⟩
  | j :: js, fr, σ, q, hI => by
    simp only [settle]
    split
    · rename_i T cells hb
      split
      · rename_i hj
        obtain ⟨h1, h2, h3⟩ := hI.nilTag (boxTag id j) (cellElem P 9 T j)
        have e1 := Evo.nilTag g σ q (boxTag id j) (cellElem P 9 T j)
        have hid := lt_of_some hb
        have hb2 : (σ.map (demoteB (boxTag id j)))[id]? = some (.box T (demoteL (boxTag id j) cells)) := by rw [List.getElem?_map, hb]; rfl
        obtain ⟨vs, k1, k2, k4, k5, k6⟩ := hI.box id _ hb
        have hv : vs[j]? = some (.slice none 0 0) := by
          obtain ⟨v, hv, hs⟩ := SRL.get k2 j _ hj
          cases hs
          exact hv
        obtain ⟨vs', k1', k2', k4', k5', k6'⟩ := h1.box id _ hb2
        obtain rfl : vs = vs' := by
          have := k1.symm.trans k1'
          simp at this
          exact this.1
        have hset : vs.set j (.slice none 0 0) = vs := by
          apply List.ext_getElem?
          intro i
          by_cases e : i = j
          · subst e
            rw [List.getElem?_set_self (by exact (List.getElem?_eq_some_iff.1 hv).1), hv]
          · rw [List.getElem?_set_ne (fun h => e h.symm)]
        have hbr := SRL.set k2' j h2
        rw [hset] at hbr
        obtain ⟨w1, w2⟩ := h1.write (b2 := .box T ((demoteL (boxTag id j) cells).set j (.gl (boxTag id j) (cellElem P 9 T j) []))) hb2 rfl (by simp [Blk.sz]) vs hbr k4
        have hw : g.w.setRow (q.ρ id) ⟨vs⟩ = g.w := setRow_self g.w _ _ _ _ k1
        simp only [hw] at w1 w2
        have e2 := Evo.write h1 (b2 := .box T ((demoteL (boxTag id j) cells).set j (.gl (boxTag id j) (cellElem P 9 T j) []))) hb2 (by simp [Blk.sz]) vs (by simp only [hw]; exact w2)
        simp only [hw] at e2
        obtain ⟨q', r1, r2⟩ := settle_sound id js w1
        exact ⟨q', r1, (e1.trans e2).trans r2⟩
      · exact settle_sound id js hI
    · exact ⟨q, hI, Evo.refl g σ q⟩

/-- The cells of a value that is stored. -/
def cellsS : SV → Option (List SV)
  | .d (.agg cs) => some (cs.map .d)
  | .d (.tup _) => none
  | .rp .. => none
  | .tupr _ => none
  | .any => none
  | x => some [x]

theorem cellsS_sound {P : Program} {Z : GTab} {B : Nat} {fr : List SV} {σ : List Blk} {g : G} {q : Gh} {a : Act} (hI : Inv P Z B fr σ g q a) {x : SV} {v : Value} {cs : List SV} (hx : SR g σ q x v) (h : cellsS x = some cs) :
    SRL g σ q cs v.cells.toList ∧ ∀ u ∈ v.cells.toList, u.oneCell' = true := by
  cases x with
  | d y =>
    cases y with
    | agg l =>
      simp only [cellsS, Option.some.injEq] at h
      subst h
      cases hx with
      | agg _ vs h1 hl => exact ⟨hl.toSRL, h1⟩
    | tup l => cases h
    | sc u =>
      simp only [cellsS, Option.some.injEq] at h
      subst h
      obtain ⟨k1, k2⟩ := cellsD_sound (x := .sc u) (cs := [.sc u]) hx rfl
      exact ⟨k1.toSRL, k2⟩
    | sl r =>
      simp only [cellsS, Option.some.injEq] at h
      subst h
      obtain ⟨k1, k2⟩ := cellsD_sound (x := .sl r) (cs := [.sl r]) hx rfl
      exact ⟨k1.toSRL, k2⟩
    | nil =>
      simp only [cellsS, Option.some.injEq] at h
      subst h
      obtain ⟨k1, k2⟩ := cellsD_sound (x := .nil) (cs := [.nil]) hx rfl
      exact ⟨k1.toSRL, k2⟩
    | fn f b c =>
      simp only [cellsS, Option.some.injEq] at h
      subst h
      obtain ⟨k1, k2⟩ := cellsD_sound (x := .fn f b c) (cs := [.fn f b c]) hx rfl
      exact ⟨k1.toSRL, k2⟩
  | gl k T rows =>
    simp only [cellsS, Option.some.injEq] at h
    subst h
    have hv : ∃ b n c, v = .slice b n c := by
      obtain ⟨rfl, hk⟩ := hx
      have := hI.crr k T rows hk
      revert this
      generalize q.τ k = t
      intro this
      cases this
      · exact ⟨_, _, _, rfl⟩
      · exact ⟨_, _, _, rfl⟩
    obtain ⟨b, n, c, rfl⟩ := hv
    exact ⟨⟨_, [], hx, rfl, rfl⟩, by simp [Value.cells, Value.oneCell']⟩
  | arr id off n =>
    simp only [cellsS, Option.some.injEq] at h
    subst h
    obtain ⟨b, c, hb, hc, rfl⟩ := hx
    exact ⟨⟨_, [], ⟨b, c, hb, hc, rfl⟩, rfl, rfl⟩, by simp [Value.cells, Value.oneCell']⟩
  | ptr id i off =>
    simp only [cellsS, Option.some.injEq] at h
    subst h
    obtain ⟨b, hb, rfl⟩ := hx
    exact ⟨⟨_, [], ⟨b, hb, rfl⟩, rfl, rfl⟩, by simp [Value.cells, Value.oneCell']⟩
  | clo f a b =>
    simp only [cellsS, Option.some.injEq] at h
    subst h
    obtain ⟨vs, us, h1, h2, rfl⟩ := hx
    exact ⟨⟨_, [], ⟨vs, us, h1, h2, rfl⟩, rfl, rfl⟩, by simp [Value.cells, Value.oneCell']⟩
  | rp _ _ _ => cases h
  | tupr _ => cases h
  | any => cases h

def overS (row cs : List SV) (off : Nat) : List SV := row.take off ++ cs ++ row.drop (off + cs.length)
theorem overS_sound {g : G} {σ : List Blk} {q : Gh} {row cs : List SV} {vs us : List Value} (h : SRL g σ q row vs) (k : SRL g σ q cs us) (off : Nat) :
    SRL g σ q (overS row cs off) (vs.take off ++ us ++ vs.drop (off + us.length)) := by
  unfold overS
  rw [k.length]
  exact ((h.take off).append k).append (h.drop _)

/-- The rows of a slice that is written out. -/
def rowsLit (P : Program) (Z : GTab) (fr : List SV) (e : TypeId) : Nat → List (Nat × Operand) → Option (List (List D))
  | _, [] => some []
  | i, (j, x) :: l =>
    if i = j then
      match (opnd Z fr x).bind datum with
      | some d => match cellsD d, rowsLit P Z fr e (i + 1) l with
        | some cs, some rows => if cs.length = szOf P e then some (cs :: rows) else none
        | _, _ => none
      | none => none
    else none

def zeroRow (P : Program) (e : TypeId) : Option (List D) := match P.info? e with
  | some i => match i.zero with
    | some z => if z.cells.size = i.size ∧ 0 < i.size then zeroCellsE z else none
    | none => none
  | none => none

def appendOk (P : Program) (e : TypeId) (n : Nat) : Bool := match P.info? e with
  | some i => match i.zero with
    | some z => z.cells.size == i.size && decide (1 ≤ i.bytes) && decide (n * i.bytes ≤ 140737488355328)
    | none => false
  | none => false

/-- The rows that are appended. -/
def srcRows (P : Program) (e : TypeId) (x : SV) : Option (List (List D)) := match rowsOf x with
  | some rows => if rows.all (fun r => r.length == szOf P e) then some rows else none
  | none => none

def stepOp (P : Program) (Z : GTab) (o : Oper) (fr : List SV) (σ : List Blk) : Option (List SV × List Blk) :=
  match o.op with
  | .alloc T => match P.info? T with
    | some i => match i.zero.bind zeroCellsE with
      | some cells => some (settle P σ.length (List.range cells.length) (putF fr o.dst (.ptr σ.length 0 0)) (σ ++ [.box T (cells.map .d)]))
      | none => none
    | none => none
  | .box T x => match (opnd Z fr x).bind cellsS with
    | some cells => some (settle P σ.length (List.range cells.length) (putF fr o.dst (.ptr σ.length 0 0)) (σ ++ [.box T cells]))
    | none => none
  | .store T x y => match opnd Z fr x, opnd Z fr y with
    | some (.ptr id i off), some s => match σ[id]? with
      | some (.box T' cells) => match cellsS s with
        | some cs => if i = 0 ∧ (P.info? T).isSome = true ∧ cs.length = szOf P T ∧ off + cs.length ≤ cells.length then
            some (settle P id (List.range cells.length) (putF fr o.dst (.d (.tup []))) (σ.set id (.box T' (overS cells cs off)))) else none
        | none => none
      | some (.arr T' sz rows) => match (datum s).bind cellsD, rows[i]? with
        | some cs, some row => if (P.info? T).isSome = true ∧ cs.length = szOf P T ∧ off + cs.length ≤ sz then
            some (putF fr o.dst (.d (.tup [])), σ.set id (.arr T' sz (rows.set i (over row cs off)))) else none
        | _, _ => none
      | none => none
    | _, _ => none
  | .buildSlice T len parts => match o.dst, sliceElem P T with
    | some k, some e => match rowsLit P Z fr e 0 parts.toList with
      | some rows => if rows.length = len ∧ len * szOf P e ≤ 16777216 ∧ (zeroRow P e).isSome = true then
          some (putF (demoteL k fr) o.dst (.gl k e rows), σ.map (demoteB k)) else none
      | none => none
    | _, _ => none
  | .makeSlice T l c => match (opnd Z fr l).bind asI, (opnd Z fr c).bind asI, sliceElem P T with
    | some (_, n), some (_, m), some e => match zeroRow P e, P.info? e with
      | some row, some i => if n = m ∧ 0 ≤ n ∧ i.bytes * n.toNat ≤ 140737488355328 ∧ 1 ≤ i.bytes then
          some (putF fr o.dst (.arr σ.length 0 n.toNat), σ ++ [.arr e row.length (List.replicate n.toNat row)]) else none
      | _, _ => none
    | _, _, _ => none
  | .assign (.const (.slice none 0 0)) => match o.dst, sliceElem P o.type with
    | some k, some e => some (putF (demoteL k fr) o.dst (.gl k e []), σ.map (demoteB k))
    | _, _ => some (putF fr o.dst (.d .nil), σ)
  | .call { callee := .builtin .append, args := ⟨[s, x]⟩, argTypes := ⟨[t, u]⟩ } =>
    match sliceElem P t, opnd Z fr s, (opnd Z fr x).bind (fun y => (sliceElem P t).bind (fun e => srcRows P e y)) with
    | some e, some (.gl k T rows), some rows2 =>
      if t = u ∧ T = e ∧ appendOk P e (rows.length + rows2.length) = true then
        some (putF (demoteL k fr) o.dst (.gl k e (rows ++ rows2)), σ.map (demoteB k))
      else none
    | some e, some (.d .nil), some rows2 =>
      match o.dst with
      | some k => if t = u ∧ appendOk P e rows2.length = true then
          some (putF (demoteL k fr) o.dst (.gl k e rows2), σ.map (demoteB k)) else none
      | none => none
    | _, _, _ => none
  | _ => (valOp P Z o fr σ).map fun x => (putF fr o.dst x, σ)
end Go.Vm
