/- One operation of a region that draws its order: a value, and what becomes of the blocks. -/
import Derived.Test.YtglnokfcjnnepaaDoorBVmOps
namespace Go.Vm
open Go Go.RowKit

def isAppend : Op → Bool
  | .call { callee := .builtin .append, .. } => true
  | _ => false

def pureCall (P : Program) (Z : GTab) (E : Env) (fr : List SV) (f : Operand) (args : List Operand) : Option SV :=
  match opnd Z fr f, opndL Z fr args with
  | some fv, some vs => match calleeE fv (vs.map noGl) with
    | some (f, all) =>
      if ((P.funcs[f]?).any fun fn => fn.body.isSome && fn.name != "runtime.NumGoroutine") then
        match datumL all with
        | some ds => (E.D f ds).map .d
        | none => none
      else match datumL all with
        | some ds => (E.X f ds).map .d
        | none => none
    | none => none
  | _, _ => none

def stepD (P : Program) (Z : GTab) (E : Env) (o : Oper) (fr : List SV) (σ : List Blk) : Option (SV × List Blk) :=
  match o.op with
  | .alloc T => match P.info? T with
    | some i => match i.zero.bind zeroCellsE with
      | some cells => some (.ptr σ.length 0 0, σ ++ [.box T (cells.map .d)])
      | none => none
    | none => none
  | .box T x => match (opnd Z fr x).bind cellsS with
    | some cells => some (.ptr σ.length 0 0, σ ++ [.box T cells])
    | none => none
  | .store T x y => match opnd Z fr x, opnd Z fr y with
    | some (.ptr id i off), some s => match σ[id]? with
      | some (.box T' cells) => match cellsS s with
        | some cs => if i = 0 ∧ (P.info? T).isSome = true ∧ cs.length = szOf P T ∧ off + cs.length ≤ cells.length then
            some (.d (.tup []), σ.set id (.box T' (overS cells cs off))) else none
        | none => none
      | _ => none
    | _, _ => none
  | .buildSlice T len parts => match sliceElem P T with
    | some e => match rowsLit P Z fr e 0 parts.toList with
      | some rows => if rows.length = len ∧ len * szOf P e ≤ 16777216 ∧ (zeroRow P e).isSome = true ∧ 0 < len then some (.d (.sl rows), σ) else none
      | none => none
    | none => none
  | .call { callee := .value f, args, .. } => (pureCall P Z E fr f args.toList).map fun x => (x, σ)
  | _ => (valOp P Z o fr σ).map fun x => (x, σ)

theorem stepD_sound {P : Program} {Z : GTab} {E : Env} (hE : EnvOk P Z E) {B : Nat} {fr : List SV} {σ : List Blk} {g : G} {q : Gh} {a : Act} (hI : Inv P Z B fr σ g q a) {o : Oper} {r : SV × List Blk}
    (h : stepD P Z E o fr σ = some r) : StepW P Z B (putF fr o.dst r.1) r.2 g σ q o a := by
  unfold stepD at h
  split at h
  · rename_i T ho
    split at h
    · rename_i i hi
      split at h
      · rename_i cells hz
        simp only [Option.some.injEq] at h
        subst h
        obtain ⟨z, hz, hc⟩ := Option.bind_eq_some_iff.1 hz
        obtain ⟨k1, k2⟩ := zeroCellsE_sound g hc
        have hp := push_steps hI T (cells.map .d) _ k1.toSRL k2 o.dst []
        simp only [settle] at hp
        obtain ⟨g', q', hw, r1, r2⟩ := hp
        refine (steps1_val (v := .pointer (some ⟨g.w.heap.size, 0, none⟩)) ?_ r1 r2 rfl).toW
        rw [hw]
        unfold execOp
        rw [ho]
        simp [Instr.alloc, zeroValue, typeInfo, hi, hz, newVar, newRow]
      · cases h
    · cases h
  · rename_i T x ho
    split at h
    · rename_i cells hc
      simp only [Option.some.injEq] at h
      subst h
      obtain ⟨s, hs, hc⟩ := Option.bind_eq_some_iff.1 hc
      obtain ⟨k1, k2⟩ := cellsS_sound hI (opnd_sound hI hs) hc
      have hp := push_steps hI T cells _ k1 k2 o.dst []
      simp only [settle] at hp
      obtain ⟨g', q', hw, r1, r2⟩ := hp
      refine (steps1_val (v := .pointer (some ⟨g.w.heap.size, 0, none⟩)) ?_ r1 r2 rfl).toW
      rw [hw]
      unfold execOp
      rw [ho]
      simp [Instr.box, newVar, newRow]
    · cases h
  · rename_i T x y ho
    split at h
    · rename_i id i off s hx hy
      obtain ⟨b0, hb0, hv⟩ := opnd_sound hI hx
      have hys := opnd_sound hI hy
      split at h
      · rename_i T' cells hb
        rw [hb] at hb0
        simp only [Option.some.injEq] at hb0
        subst hb0
        split at h
        · rename_i cs hcs
          split at h
          · rename_i hok
            obtain ⟨rfl, hi, hlen, hfit⟩ := hok
            obtain ⟨i0, hi⟩ := Option.isSome_iff_exists.1 hi
            simp only [Option.some.injEq] at h
            subst h
            obtain ⟨k1, k2⟩ := cellsS_sound hI hys hcs
            obtain ⟨vs, m1, m2, m4, m5, m6⟩ := hI.box id _ hb
            have hl := k1.length
            have hl2 : cells.length = vs.length := SRL.length m2
            have hov := overS_sound (row := cells) m2 k1 off
            have hone : ∀ u ∈ vs.take off ++ (a.eval y).cells.toList ++ vs.drop (off + (a.eval y).cells.toList.length), u.oneCell' = true := by
              intro u hu
              simp only [List.mem_append] at hu
              rcases hu with (hu | hu) | hu
              · exact m4 u (List.mem_of_mem_take hu)
              · exact k2 u hu
              · exact m4 u (List.mem_of_mem_drop hu)
            have hzz : (Blk.box T' (overS cells cs off)).sz = (Blk.box T' cells).sz := by
              simp only [Blk.sz, overS, List.length_append, List.length_take, List.length_drop]; omega
            obtain ⟨w1, w2⟩ := hI.write (b2 := .box T' (overS cells cs off)) hb rfl hzz _ hov hone
            have e1 := Evo.write hI (b2 := .box T' (overS cells cs off)) hb hzz _ w2
            have w3 := w1.put o.dst (x := .d (.tup [])) (v := undef) (.tup _ _ .nil)
            refine (steps1_skip ?_ w3 e1 rfl).toW
            have hst := run_storeCells_at P (q.ρ id) off T' (a.eval y).cells.toList 0 ⟨vs⟩ g.w m1 (by simp only [List.size_toArray]; omega) k2
            simp only [Nat.add_zero] at hst
            unfold execOp
            rw [ho]
            have hsz2 : (a.eval y).cells.size = szOf P T := by rw [← hlen, hl]; simp
            simp only [Sem.run_bind, Instr.storeAt, hv, Instr.sureAddr, Sem.run_pure, Result.andThen_ok, Nat.zero_mul, Nat.zero_add, storeVar, run_sizeOf hi, hsz2, ne_eq, not_true, if_false, hst]
          · cases h
        · cases h
      · cases h
    · cases h
  · rename_i T len parts ho
    split at h
    · rename_i e he
      have hT := sliceElem_eq he
      split at h
      · rename_i rows hrows
        split at h
        · rename_i hok
          obtain ⟨hlen, hbig, hz, hpos0⟩ := hok
          obtain ⟨zr, hz⟩ := Option.isSome_iff_exists.1 hz
          obtain ⟨i, z, hi, hzz, hzs, hpos, hzc⟩ := zeroRow_parts hz
          have hse : szOf P e = i.size := by simp [szOf, hi]
          simp only [Option.some.injEq] at h
          subst h
          obtain ⟨k1, k2, vs, k3, k4, k5⟩ := rowsLit_sound hI e parts.toList 0 rows hrows
          have hvl : vs.length = len * szOf P e := by rw [← k3.length, flatten_length rows k1, hlen]
          have hpl : parts.toList.length = len := by omega
          have hb : Below g.w.heap.size g.w (g.w.alloc (.cells ⟨vs⟩ e)) := (Below.refl _ _).alloc (Nat.le_refl _) _
          obtain ⟨w1, w2⟩ := hI.grow hb
          have hcr : CR (⟨g.w.alloc (.cells ⟨vs⟩ e), fun b o => g.S b o ∨ (g.w.heap.size ≤ b ∧ b < (g.w.alloc (.cells ⟨vs⟩ e)).heap.size)⟩ : G) (.sl rows) (.slice (some ⟨g.w.heap.size, 0, none⟩) rows.length rows.length) := by
            refine .sl _ _ _ (szOf P e) rows (Nat.le_refl _) (CRR.of (CRC.of (CRL.mono w2.le k3) ?_ ?_ k4) k1)
            · intro j u hu
              show (g.w.alloc _).cell? _ = _
              rw [Nat.zero_add, World.cell?_alloc_new]
              simpa using hu
            · intro j _
              exact .inr ⟨Nat.le_refl _, by simp⟩
          refine (steps1_val (v := .slice (some ⟨g.w.heap.size, 0, none⟩) rows.length rows.length) ?_ (w1.put o.dst (x := .d (.sl rows)) hcr) w2 rfl).toW
          unfold execOp
          rw [ho]
          have hfill := k5 #[] ((Array.range (len * szOf P e)).map (z.cells[· % z.cells.size]!)) (by simp) (by simp [hpl])
          simp only [Array.empty_append] at hfill
          have h0 : ¬ len * i.size = 0 := by
            intro h
            rcases Nat.mul_eq_zero.1 h with h | h <;> omega
          rw [hse] at hfill hbig
          have e0 : (parts.map fun x => (x.1, a.eval x.2)).toList = parts.toList.map fun x => (x.1, a.eval x.2) := by simp
          have hnb : ¬ (16777216 < len * i.size) := by omega
          simp only [Sem.run_bind, Instr.buildSlice, run_underlying hT, Result.andThen_ok, run_sizeOf hi, hse, zeroValue, typeInfo, run_program, hi, hzz, Sem.run_pure, h0, if_false, e0, Nat.reducePow, gt_iff_lt, hnb, hfill, newRow, run_newObj, hlen]
          rfl
        · cases h
      · cases h
    · cases h
  · rename_i f args ts ho
    obtain ⟨x, hx, rfl⟩ := Option.map_eq_some_iff.1 h
    have hcall : callOp P Z E o fr σ = some (putF fr o.dst x, σ) := by
      unfold pureCall at hx
      unfold callOp
      rw [ho]
      simp only
      split at hx
      · rename_i fv vs hf hvs
        simp only [hf, hvs]
        split at hx
        · rename_i f' all hc
          simp only [hc]
          split at hx
          · rename_i hok
            rw [if_pos hok]
            split at hx
            · rename_i ds hds
              obtain ⟨r, hr, rfl⟩ := Option.map_eq_some_iff.1 hx
              simp only [hds, hr]
            · cases hx
          · rename_i hok
            rw [if_neg hok]
            split at hx
            · rename_i ds hds
              obtain ⟨r, hr, rfl⟩ := Option.map_eq_some_iff.1 hx
              simp only [hds, hr]
            · cases hx
        · cases hx
      · cases hx
    exact callOp_sound hE hI hcall
  · obtain ⟨x, hx, rfl⟩ := Option.map_eq_some_iff.1 h
    obtain ⟨v, hr, hs⟩ := val_sound hI hx
    exact (steps1_val (g' := g) (q' := q) hr (hI.put o.dst hs) (Evo.refl g σ q) rfl).toW
end Go.Vm
