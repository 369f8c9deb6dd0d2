/- One operation: what the VM does, the model does. -/
import Derived.Test.YtglnokfcjnnepaaDoorBVmStepOp
namespace Go.Vm
open Go Go.RowKit

/-- What a step of the VM's gives. -/
def Steps1 (P : Program) (Z : GTab) (B : Nat) (fr' : List SV) (σ' : List Blk) (g : G) (σ : List Blk) (q : Gh) (o : Oper) (a : Act) : Prop :=
  ∃ a' g' q', (∀ (K : Act → World → Prop) (Q : Exit → Act → World → Prop), K a' g'.w → o.wp P a g.w K Q) ∧ Inv P Z B fr' σ' g' q' a' ∧ Evo g σ q g' σ' q'

theorem steps1_val {P : Program} {Z : GTab} {B : Nat} {fr' : List SV} {σ σ' : List Blk} {g g' : G} {q q' : Gh} {o : Oper} {a a' : Act} {v : Value} (hr : (execOp a.eval o).run P g.w = .ok (.value v) g'.w)
    (hI : Inv P Z B fr' σ' g' q' a') (he : Evo g σ q g' σ' q') (ha : a' = a.put o.dst v) : Steps1 P Z B fr' σ' g σ q o a := by
  subst ha
  exact ⟨_, g', q', fun K Q hK => by unfold Oper.wp; rw [hr]; exact hK, hI, he⟩

theorem steps1_skip {P : Program} {Z : GTab} {B : Nat} {fr' : List SV} {σ σ' : List Blk} {g g' : G} {q q' : Gh} {o : Oper} {a a' : Act} (hr : (execOp a.eval o).run P g.w = .ok .skip g'.w)
    (hI : Inv P Z B fr' σ' g' q' a') (he : Evo g σ q g' σ' q') (ha : a' = a.put o.dst undef) : Steps1 P Z B fr' σ' g σ q o a := by
  subst ha
  exact ⟨_, g', q', fun K Q hK => by unfold Oper.wp; rw [hr]; exact hK, hI, he⟩

theorem valOp_steps {P : Program} {Z : GTab} {B : Nat} {fr : List SV} {σ : List Blk} {g : G} {q : Gh} {a : Act} (hI : Inv P Z B fr σ g q a) {o : Oper} {r : List SV × List Blk}
    (h : ((valOp P Z o fr σ).map fun x => (putF fr o.dst x, σ)) = some r) : Steps1 P Z B r.1 r.2 g σ q o a := by
  obtain ⟨x, hx, rfl⟩ := Option.map_eq_some_iff.1 h
  obtain ⟨v, hr, hs⟩ := val_sound hI hx
  exact steps1_val (g' := g) (q' := q) hr (hI.put o.dst hs) (Evo.refl g σ q) rfl

/-- A new block, then what settles in it. -/
theorem push_steps {P : Program} {Z : GTab} {B : Nat} {fr : List SV} {σ : List Blk} {g : G} {q : Gh} {a : Act} (hI : Inv P Z B fr σ g q a) (T : TypeId) (cells : List SV) (vs : List Value)
    (hc : SRL g σ q cells vs) (h1 : ∀ u ∈ vs, u.oneCell' = true) (dst : Option Tmp) (js : List Nat) :
    ∃ g' q', g'.w = g.w.alloc (.cells ⟨vs⟩ T) ∧ Inv P Z B (settle P σ.length js (putF fr dst (.ptr σ.length 0 0)) (σ ++ [.box T cells])).1 (settle P σ.length js (putF fr dst (.ptr σ.length 0 0)) (σ ++ [.box T cells])).2 g' q'
      (a.put dst (.pointer (some ⟨g.w.heap.size, 0, none⟩))) ∧ Evo g σ q g' (settle P σ.length js (putF fr dst (.ptr σ.length 0 0)) (σ ++ [.box T cells])).2 q' := by
  obtain ⟨h2, _, _⟩ := hI.push (.box T cells) vs hc h1
  have e2 := Evo.push hI (.box T cells) vs
  have hp : SR (⟨g.w.alloc (.cells ⟨vs⟩ T), g.S⟩ : G) (σ ++ [.box T cells]) { q with ρ := fun id => if id = σ.length then g.w.heap.size else q.ρ id } (.ptr σ.length 0 0) (.pointer (some ⟨g.w.heap.size, 0, none⟩)) :=
    ⟨.box T cells, by simp, by simp⟩
  have h3 := h2.put dst hp
  obtain ⟨q', r1, r2⟩ := settle_sound σ.length js h3
  exact ⟨_, q', rfl, r1, e2.trans r2⟩

theorem rowsLit_sound {P : Program} {Z : GTab} {B : Nat} {fr : List SV} {σ : List Blk} {g : G} {q : Gh} {a : Act} (hI : Inv P Z B fr σ g q a) (e : TypeId) :
    ∀ (l : List (Nat × Operand)) (i : Nat) (rows : List (List D)), rowsLit P Z fr e i l = some rows →
      (∀ r ∈ rows, r.length = szOf P e) ∧ rows.length = l.length ∧ ∃ vs, CRL g rows.flatten vs ∧ (∀ u ∈ vs, u.oneCell' = true) ∧
        ∀ (pre post : Array Value), pre.size = i * szOf P e → post.size = l.length * szOf P e →
          Instr.fill (fun i => some (i * szOf P e, szOf P e)) (pre ++ post) (l.map fun x => (x.1, a.eval x.2)) = some (pre ++ ⟨vs⟩)
  | [], i, rows, h => by
    simp only [rowsLit, Option.some.injEq] at h
    subst h
    refine ⟨by simp, rfl, [], .nil, by simp, fun pre post h1 h2 => ?_⟩
    have : post = #[] := Array.eq_empty_of_size_eq_zero (by simpa using h2)
    subst this
    simp [Instr.fill]
  | (j, x) :: l, i, rows, h => by
    simp only [rowsLit] at h
    split at h
    · rename_i hij
      subst hij
      split at h
      · rename_i d hd
        obtain ⟨s, hs, hd⟩ := Option.bind_eq_some_iff.1 hd
        split at h
        · rename_i cs rows' hcs hrows
          split at h
          · rename_i hlen
            simp only [Option.some.injEq] at h
            subst h
            obtain ⟨k1, k2, vs, k3, k4, k5⟩ := rowsLit_sound hI e l (i + 1) rows' hrows
            obtain ⟨c1, c2⟩ := cellsD_sound (datum_sound hI (opnd_sound hI hs) hd) hcs
            have hl := c1.length
            refine ⟨by simp only [List.mem_cons, forall_eq_or_imp]; exact ⟨hlen, k1⟩, by simp [k2], (a.eval x).cells.toList ++ vs, ?_, ?_, ?_⟩
            · simp only [List.flatten_cons]; exact c1.append k3
            · intro u hu
              rcases List.mem_append.1 hu with hu | hu
              · exact c2 u hu
              · exact k4 u hu
            · intro pre post h1 h2
              simp only [List.map_cons, Instr.fill]
              have hsz : (a.eval x).cells.size = szOf P e := by rw [← hlen, hl]; simp
              rw [if_neg (by simp only [hsz, Array.size_append, h1, h2, List.length_cons, Nat.succ_mul]; simp)]
              have hz : (a.eval x).cells.zipIdx.foldl (fun (cs : Array Value) (x : Value × Nat) => cs.setIfInBounds (i * szOf P e + x.2) x.1) (pre ++ post) =
                  pre ++ (a.eval x).cells ++ ⟨post.toList.drop (szOf P e)⟩ := by
                have hfold := fold_over (a.eval x).cells.toList (a.eval x).cells.toList (i * szOf P e) (pre ++ post)
                  (by simp only [Array.length_toList, Array.size_append, h1, h2, hsz, List.length_cons, Nat.succ_mul]; omega)
                rw [← Array.foldl_toList, Array.toList_zipIdx]
                rw [List.zipIdx_eq_map_add, List.foldl_map] at hfold
                apply Array.toList_inj.1
                have e1 : (pre ++ post).toList.take (i * szOf P e) = pre.toList := by
                  rw [Array.toList_append, List.take_append_of_le_length (by simp [h1]), List.take_of_length_le (by simp [h1])]
                have e2 : (pre ++ post).toList.drop (i * szOf P e + (a.eval x).cells.toList.length) = post.toList.drop (szOf P e) := by
                  rw [Array.toList_append, List.drop_append, List.drop_eq_nil_of_le (by simp [h1])]
                  simp [h1, hsz, Nat.add_sub_cancel_left]
                rw [e1, e2] at hfold
                simp only [Array.toList_append]
                rw [← hfold]
              rw [hz]
              have := k5 (pre ++ (a.eval x).cells) ⟨post.toList.drop (szOf P e)⟩ (by simp [h1, hsz, Nat.succ_mul]) (by simp [h2, Nat.succ_mul])
              rw [this]
              congr 1
              apply Array.toList_inj.1
              simp
          · cases h
        · cases h
      · cases h
    · cases h

theorem zeroRow_parts {P : Program} {e : TypeId} {row : List D} (h : zeroRow P e = some row) : ∃ i z, P.info? e = some i ∧ i.zero = some z ∧ z.cells.size = i.size ∧ 0 < i.size ∧ zeroCellsE z = some row := by
  unfold zeroRow at h
  split at h
  · rename_i i hi
    split at h
    · rename_i z hz
      split at h
      · rename_i hok
        exact ⟨i, z, hi, hz, hok.1, hok.2, h⟩
      · cases h
    · cases h
  · cases h

theorem appendOk_parts {P : Program} {e : TypeId} {n : Nat} (h : appendOk P e n = true) : ∃ i z, P.info? e = some i ∧ i.zero = some z ∧ z.cells.size = i.size ∧ 1 ≤ i.bytes ∧ n * i.bytes ≤ 140737488355328 := by
  unfold appendOk at h
  split at h
  · rename_i i hi
    split at h
    · rename_i z hz
      simp only [Bool.and_eq_true, beq_iff_eq, decide_eq_true_eq] at h
      exact ⟨i, z, hi, hz, h.1.1, h.1.2, h.2⟩
    · cases h
  · cases h

theorem srcRows_parts {P : Program} {Z : GTab} {B : Nat} {fr : List SV} {σ : List Blk} {g : G} {q : Gh} {a : Act} (hI : Inv P Z B fr σ g q a) {e : TypeId} {x : SV} {v : Value} {rows : List (List D)}
    (hx : SR g σ q x v) (h : srcRows P e x = some rows) : CR g (.sl rows) v ∧ ∀ r ∈ rows, r.length = szOf P e := by
  unfold srcRows at h
  split at h
  · rename_i rows' hr
    split at h
    · rename_i hall
      simp only [Option.some.injEq] at h
      subst h
      exact ⟨rowsOf_sound hI hx hr, fun r hr => by simpa using List.all_eq_true.1 hall r hr⟩
    · cases h
  · cases h

theorem small_of {n b : Nat} (h1 : 1 ≤ b) (h : n * b ≤ 140737488355328) : n ≤ maxLen := by
  have := Nat.le_trans (Nat.le_mul_of_pos_right n h1) h
  simp only [maxLen]
  omega

mutual
theorem demote_idem (k : Nat) : (x : SV) → demote k (demote k x) = demote k x
  | .gl j T rows => by
    by_cases e : j = k <;> simp [demote, e]
  | .clo f a b => by simp [demote, demoteL_idem k a, demoteL_idem k b]
  | .tupr xs => by simp [demote, demoteL_idem k xs]
  | .d x | .arr id off n | .ptr id i off | .rp rows i off | .any => by simp [demote]
theorem demoteL_idem (k : Nat) : (xs : List SV) → demoteL k (demoteL k xs) = demoteL k xs
  | [] => rfl
  | x :: xs => by simp [demoteL, demote_idem k x, demoteL_idem k xs]
end
theorem demoteB_idem (k : Nat) (b : Blk) : demoteB k (demoteB k b) = demoteB k b := by
  cases b <;> simp [demoteB, demoteL_idem]

theorem step_sound {P : Program} {Z : GTab} {B : Nat} {fr : List SV} {σ : List Blk} {g : G} {q : Gh} {a : Act} (hI : Inv P Z B fr σ g q a) {o : Oper} {r : List SV × List Blk} (h : stepOp P Z o fr σ = some r) :
    Steps1 P Z B r.1 r.2 g σ q o a := by
  unfold stepOp at h
  split at h
  · rename_i T ho
    split at h
    · rename_i i hi
      split at h
      · rename_i cells hz
        simp only [Option.some.injEq] at h
        subst h
        obtain ⟨z, hz, hc⟩ := Option.bind_eq_some_iff.1 hz
        obtain ⟨k1, k2⟩ := zeroCellsE_sound g hc
        obtain ⟨g', q', hw, r1, r2⟩ := push_steps hI T (cells.map .d) _ k1.toSRL k2 o.dst (List.range cells.length)
        refine steps1_val (v := .pointer (some ⟨g.w.heap.size, 0, none⟩)) ?_ r1 r2 rfl
        rw [hw]
        unfold execOp
        rw [ho]
        simp [Instr.alloc, zeroValue, typeInfo, hi, hz, newVar, newRow]
      · cases h
    · cases h
  · rename_i T x ho
    split at h
    · rename_i cells hc
      simp only [Option.some.injEq] at h
      subst h
      obtain ⟨s, hs, hc⟩ := Option.bind_eq_some_iff.1 hc
      obtain ⟨k1, k2⟩ := cellsS_sound hI (opnd_sound hI hs) hc
      obtain ⟨g', q', hw, r1, r2⟩ := push_steps hI T cells _ k1 k2 o.dst (List.range cells.length)
      refine steps1_val (v := .pointer (some ⟨g.w.heap.size, 0, none⟩)) ?_ r1 r2 rfl
      rw [hw]
      unfold execOp
      rw [ho]
      simp [Instr.box, newVar, newRow]
    · cases h
  · rename_i T x y ho
    split at h
    · rename_i id i off s hx hy
      obtain ⟨b0, hb0, hv⟩ := opnd_sound hI hx
      have hys := opnd_sound hI hy
      split at h
      · rename_i T' cells hb
        rw [hb] at hb0
        simp only [Option.some.injEq] at hb0
        subst hb0
        split at h
        · rename_i cs hcs
          split at h
          · rename_i hok
            obtain ⟨rfl, hi, hlen, hfit⟩ := hok
            obtain ⟨i0, hi⟩ := Option.isSome_iff_exists.1 hi
            simp only [Option.some.injEq] at h
            subst h
            obtain ⟨k1, k2⟩ := cellsS_sound hI hys hcs
            obtain ⟨vs, m1, m2, m4, m5, m6⟩ := hI.box id _ hb
            have hl := k1.length
            have hl2 : cells.length = vs.length := SRL.length m2
            have hov := overS_sound (row := cells) m2 k1 off
            have hone : ∀ u ∈ vs.take off ++ (a.eval y).cells.toList ++ vs.drop (off + (a.eval y).cells.toList.length), u.oneCell' = true := by
              intro u hu
              simp only [List.mem_append] at hu
              rcases hu with (hu | hu) | hu
              · exact m4 u (List.mem_of_mem_take hu)
              · exact k2 u hu
              · exact m4 u (List.mem_of_mem_drop hu)
            have hzz : (Blk.box T' (overS cells cs off)).sz = (Blk.box T' cells).sz := by
              simp only [Blk.sz, overS, List.length_append, List.length_take, List.length_drop]; omega
            obtain ⟨w1, w2⟩ := hI.write (b2 := .box T' (overS cells cs off)) hb rfl hzz _ hov hone
            have e1 := Evo.write hI (b2 := .box T' (overS cells cs off)) hb hzz _ w2
            have w3 := w1.put o.dst (x := .d (.tup [])) (v := undef) (.tup _ _ .nil)
            obtain ⟨q', r1, r2⟩ := settle_sound id (List.range cells.length) w3
            refine steps1_skip ?_ r1 (e1.trans r2) rfl
            have hst := run_storeCells_at P (q.ρ id) off T' (a.eval y).cells.toList 0 ⟨vs⟩ g.w m1 (by simp only [List.size_toArray]; omega) k2
            simp only [Nat.add_zero] at hst
            unfold execOp
            rw [ho]
            have hsz2 : (a.eval y).cells.size = szOf P T := by rw [← hlen, hl]; simp
            simp only [Sem.run_bind, Instr.storeAt, hv, Instr.sureAddr, Sem.run_pure, Result.andThen_ok, Nat.zero_mul, Nat.zero_add, storeVar, run_sizeOf hi, hsz2, ne_eq, not_true, if_false, hst]
          · cases h
        · cases h
      · rename_i T' sz rows hb
        rw [hb] at hb0
        simp only [Option.some.injEq] at hb0
        subst hb0
        split at h
        · rename_i cs row hcs hrow
          split at h
          · rename_i hok
            obtain ⟨hi, hlen, hfit⟩ := hok
            obtain ⟨i0, hi⟩ := Option.isSome_iff_exists.1 hi
            simp only [Option.some.injEq] at h
            subst h
            obtain ⟨d, hd, hcs⟩ := Option.bind_eq_some_iff.1 hcs
            obtain ⟨k1, k2⟩ := cellsD_sound (datum_sound hI hys hd) hcs
            obtain ⟨vs, m1, ⟨m2, m3⟩, m4, m5, m6⟩ := hI.box id _ hb
            have hl := k1.length
            have hrl : row.length = sz := m3 row (List.mem_of_getElem? hrow)
            have hl2 := m2.length
            have hil : i < rows.length := (List.getElem?_eq_some_iff.1 hrow).1
            -- the cells behind the store
            have hflat : ∀ (rows : List (List D)) (i : Nat), (∀ r ∈ rows, r.length = sz) → rows[i]? = some row → (rows.set i (over row cs off)).flatten = over rows.flatten cs (i * sz + off) ∧ i * sz + sz ≤ rows.flatten.length := by
              intro rows
              induction rows with
              | nil => intro i _ h; simp at h
              | cons r rows ih =>
                intro i hl h
                have hr := hl r (by simp)
                cases i with
                | zero =>
                  simp only [List.getElem?_cons_zero, Option.some.injEq] at h
                  subst h
                  refine ⟨?_, by simp; omega⟩
                  simp only [List.set_cons_zero, List.flatten_cons, over, Nat.zero_mul, Nat.zero_add]
                  rw [List.take_append_of_le_length (by omega), List.drop_append_of_le_length (by omega)]
                  simp
                | succ i =>
                  obtain ⟨e1, e2⟩ := ih i (fun r hr => hl r (by simp [hr])) (by simpa using h)
                  refine ⟨?_, by simp only [List.flatten_cons, List.length_append, Nat.succ_mul]; omega⟩
                  rw [List.set_cons_succ, List.flatten_cons, List.flatten_cons, e1]
                  unfold over
                  rw [show (i + 1) * sz + off = r.length + (i * sz + off) from by rw [Nat.succ_mul, hr]; omega]
                  rw [List.take_length_add_append, Nat.add_assoc r.length, List.drop_length_add_append]
                  simp only [List.append_assoc]
            obtain ⟨f1, f2⟩ := hflat rows i m3 hrow
            have hov := over_sound m2 k1 (i * sz + off)
            rw [← f1] at hov
            have hone : ∀ u ∈ vs.take (i * sz + off) ++ (a.eval y).cells.toList ++ vs.drop (i * sz + off + (a.eval y).cells.toList.length), u.oneCell' = true := by
              intro u hu
              simp only [List.mem_append] at hu
              rcases hu with (hu | hu) | hu
              · exact m4 u (List.mem_of_mem_take hu)
              · exact k2 u hu
              · exact m4 u (List.mem_of_mem_drop hu)
            have hrows2 : ∀ r ∈ rows.set i (over row cs off), r.length = sz := by
              intro r hr
              rcases List.mem_or_eq_of_mem_set hr with hr | rfl
              · exact m3 r hr
              · simp only [over, List.length_append, List.length_take, List.length_drop]; omega
            obtain ⟨w1, w2⟩ := hI.write (b2 := .arr T' sz (rows.set i (over row cs off))) hb rfl rfl _ ⟨hov, hrows2⟩ hone
            have e1 := Evo.write hI (b2 := .arr T' sz (rows.set i (over row cs off))) hb rfl _ w2
            have w3 := w1.put o.dst (x := .d (.tup [])) (v := undef) (.tup _ _ .nil)
            refine steps1_skip ?_ w3 e1 rfl
            have hst := run_storeCells_at P (q.ρ id) (i * sz + off) T' (a.eval y).cells.toList 0 ⟨vs⟩ g.w m1 (by simp only [List.size_toArray]; omega) k2
            simp only [Nat.add_zero] at hst
            unfold execOp
            rw [ho]
            have hsz2 : (a.eval y).cells.size = szOf P T := by rw [← hlen, hl]; simp
            simp only [Sem.run_bind, Instr.storeAt, hv, Instr.sureAddr, Sem.run_pure, Result.andThen_ok, storeVar, run_sizeOf hi, hsz2, ne_eq, not_true, if_false, Blk.sz, hst]
          · cases h
        · cases h
      · cases h
    · cases h
  · rename_i T len parts ho
    split at h
    · rename_i k e hdst he
      have hT := sliceElem_eq he
      split at h
      · rename_i rows hrows
        split at h
        · rename_i hok
          obtain ⟨hlen, hbig, hz⟩ := hok
          obtain ⟨zr, hz⟩ := Option.isSome_iff_exists.1 hz
          obtain ⟨i, z, hi, hzz, hzs, hpos, hzc⟩ := zeroRow_parts hz
          have hse : szOf P e = i.size := by simp [szOf, hi]
          simp only [Option.some.injEq] at h
          subst h
          obtain ⟨k1, k2, vs, k3, k4, k5⟩ := rowsLit_sound hI e parts.toList 0 rows hrows
          have hvl : vs.length = len * szOf P e := by rw [← k3.length, flatten_length rows k1, hlen]
          have hpl : parts.toList.length = len := by omega
          have hm : rows.length ≤ maxLen := by
            rw [hlen]
            have := Nat.le_trans (Nat.le_mul_of_pos_right len (by omega : 0 < szOf P e)) hbig
            simp only [maxLen]; omega
          obtain ⟨w1, w2, w3⟩ := hI.newTag k e rows vs k3 k1 k4 hm
          have e1 := Evo.newTag hI k e rows vs w2
          refine steps1_val (v := .slice (some ⟨g.w.heap.size, 0, none⟩) rows.length rows.length) ?_ (w1.put o.dst w3) e1 rfl
          unfold execOp
          rw [ho]
          have hfill := k5 #[] ((Array.range (len * szOf P e)).map (z.cells[· % z.cells.size]!)) (by simp) (by simp [hpl])
          simp only [Array.empty_append] at hfill
          by_cases h0 : len * i.size = 0
          · have hl0 : len = 0 := by rcases Nat.mul_eq_zero.1 h0 with h | h <;> omega
            subst hl0
            have hp0 : parts = #[] := Array.eq_empty_of_size_eq_zero (by simpa using hpl)
            subst hp0
            have hv0 : vs = [] := List.eq_nil_of_length_eq_zero (by simpa using hvl)
            subst hv0
            simp [Instr.buildSlice, run_underlying hT, sizeOf, typeInfo, hi, newRow, Instr.fill, hlen, Array.range_zero']
          · rw [hse] at hfill hbig
            have e0 : (parts.map fun x => (x.1, a.eval x.2)).toList = parts.toList.map fun x => (x.1, a.eval x.2) := by simp
            have hnb : ¬ (16777216 < len * i.size) := by omega
            simp only [Sem.run_bind, Instr.buildSlice, run_underlying hT, Result.andThen_ok, run_sizeOf hi, hse, zeroValue, typeInfo, run_program, hi, hzz, Sem.run_pure, h0, if_false, e0, Nat.reducePow, gt_iff_lt, hnb, hfill, newRow, run_newObj, hlen]
            rfl
        · cases h
      · cases h
    · cases h
  · rename_i T l c ho
    split at h
    · rename_i kl n kc m e hl hc he
      have hT := sliceElem_eq he
      obtain ⟨sl, hsl, hl⟩ := Option.bind_eq_some_iff.1 hl
      obtain ⟨sc, hsc, hc⟩ := Option.bind_eq_some_iff.1 hc
      have e1 := asI_sound (opnd_sound hI hsl) hl
      have e2 := asI_sound (opnd_sound hI hsc) hc
      split at h
      · rename_i row i hrow hi
        split at h
        · rename_i hok
          obtain ⟨rfl, h0, hb, hb1⟩ := hok
          obtain ⟨i', z, hi', hz, hzs, hpos, hzc⟩ := zeroRow_parts hrow
          rw [hi] at hi'
          simp only [Option.some.injEq] at hi'
          subst hi'
          simp only [Option.some.injEq] at h
          subst h
          obtain ⟨k1, k2⟩ := zeroCellsE_sound g hzc
          have hrl : row.length = i.size := by rw [k1.length]; simpa using hzs
          have hn : ((n.toNat : Nat) : Int) = n := Int.toNat_of_nonneg h0
          have hb' : (i.bytes : Int) * n ≤ 281474976710656 := by
            rw [← hn, ← Int.natCast_mul]; omega
          have hsm : n.toNat ≤ 140737488355328 := Nat.le_trans (Nat.le_mul_of_pos_left _ hb1) hb
          have hr := run_make (P := P) g.w T e i z hT hi hz kl kc n n h0 (Int.le_refl _) hb' (by omega)
          -- the cells that are made
          have hcells : (madeCells z.cells (n.toNat * i.size)).toList = (List.replicate n.toNat z.cells.toList).flatten := by
            apply List.ext_getElem?
            intro j
            have hlenr : (List.replicate n.toNat z.cells.toList).flatten.length = n.toNat * i.size := by
              simp [List.length_flatten, hzs]
            by_cases hj : j < n.toNat * i.size
            · have hpos' : 0 < z.cells.size := by omega
              have hrep : ∀ (n j : Nat), j < n * z.cells.size → (List.replicate n z.cells.toList).flatten[j]? = z.cells.toList[j % z.cells.size]? := by
                intro n
                induction n with
                | zero => intro j h; omega
                | succ n ih =>
                  intro j h
                  rw [List.replicate_succ, List.flatten_cons]
                  by_cases h1 : j < z.cells.size
                  · rw [List.getElem?_append_left (by simpa using h1), Nat.mod_eq_of_lt h1]
                  · rw [List.getElem?_append_right (by simpa using h1), ih _ (by simp only [Array.length_toList]; rw [Nat.succ_mul] at h; omega)]
                    rw [Array.length_toList, ← Nat.mod_eq_sub_mod (by omega)]
              rw [hrep n.toNat j (by rw [hzs]; exact hj)]
              have hlt : j % z.cells.size < z.cells.size := Nat.mod_lt _ hpos'
              simp [madeCells, hj, hlt]
            · rw [List.getElem?_eq_none (by simp [madeCells]; omega), List.getElem?_eq_none (by rw [hlenr]; omega)]
          have hcl : CRL g (List.replicate n.toNat row).flatten (List.replicate n.toNat z.cells.toList).flatten := by
            generalize n.toNat = t
            induction t with
            | zero => exact .nil
            | succ t ih => simp only [List.replicate_succ, List.flatten_cons]; exact k1.append ih
          have hone : ∀ u ∈ (List.replicate n.toNat z.cells.toList).flatten, u.oneCell' = true := by
            intro u hu
            obtain ⟨l, hl1, hl2⟩ := List.mem_flatten.1 hu
            rw [(List.mem_replicate.1 hl1).2] at hl2
            exact k2 u hl2
          have hbr : BR g σ q (List.replicate n.toNat z.cells.toList).flatten (.arr e row.length (List.replicate n.toNat row)) :=
            ⟨hcl, fun r hr => by rw [(List.mem_replicate.1 hr).2]⟩
          obtain ⟨w1, _, _⟩ := hI.push (.arr e row.length (List.replicate n.toNat row)) _ hbr hone
          have e3 := Evo.push hI (.arr e row.length (List.replicate n.toNat row)) (List.replicate n.toNat z.cells.toList).flatten
          refine steps1_val (v := .slice (some ⟨g.w.heap.size, 0, none⟩) n.toNat n.toNat) ?_ (w1.put o.dst ?_) e3 rfl
          · unfold execOp
            rw [ho]
            have ea : (⟨(List.replicate n.toNat z.cells.toList).flatten⟩ : Array Value) = madeCells z.cells (n.toNat * i.size) := by
              apply Array.toList_inj.1
              rw [hcells]
            rw [ea]
            simp only [Sem.run_bind, e1, e2, hr, Result.andThen_ok, Sem.run_pure]
            rfl
          · exact ⟨.arr e row.length (List.replicate n.toNat row), n.toNat, by simp, Nat.le_refl _, by simp⟩
        · cases h
      · cases h
    · cases h
  · rename_i ho
    split at h
    · rename_i k e hdst he
      simp only [Option.some.injEq] at h
      subst h
      obtain ⟨w1, w2, _⟩ := hI.nilTag k e
      have e1 := Evo.nilTag g σ q k e
      exact steps1_val (g' := g) (v := .slice none 0 0) (by unfold execOp; rw [ho]; rfl) (w1.put o.dst w2) e1 rfl
    · simp only [Option.some.injEq] at h
      subst h
      exact steps1_val (g' := g) (q' := q) (v := .slice none 0 0) (by unfold execOp; rw [ho]; rfl) (hI.put o.dst (x := .d .nil) .nil) (Evo.refl g σ q) rfl
  · rename_i s x t u ho
    split at h
    · rename_i e k T rows rows2 he hs hx
      obtain ⟨y, hy, hx⟩ := Option.bind_eq_some_iff.1 hx
      obtain ⟨e', he', hx⟩ := Option.bind_eq_some_iff.1 hx
      rw [he] at he'
      simp only [Option.some.injEq] at he'
      subst he'
      have hT := sliceElem_eq he
      split at h
      · rename_i hok
        obtain ⟨rfl, rfl, hap⟩ := hok
        simp only [Option.some.injEq] at h
        subst h
        obtain ⟨i, z, hi, hz, hzs, hb1, hb⟩ := appendOk_parts hap
        obtain ⟨hv, hk⟩ := opnd_sound hI hs
        obtain ⟨c1, c2⟩ := srcRows_parts hI (opnd_sound hI hy) hx
        have hse : szOf P T = i.size := by simp [szOf, hi]
        obtain ⟨v', g', q', hr, w1, w2, w3⟩ := hI.append (ty := o.type) hk hT hi hz hzs c1 (by rw [← hse]; exact c2) (small_of hb1 hb) hb
        refine steps1_val (v := v') ?_ (w1.put o.dst w3) w2 rfl
        unfold execOp
        rw [ho]
        simp [resolve, invoke, builtin, hv, hr]
      · cases h
    · rename_i e rows2 he hs hx
      obtain ⟨y, hy, hx⟩ := Option.bind_eq_some_iff.1 hx
      obtain ⟨e', he', hx⟩ := Option.bind_eq_some_iff.1 hx
      rw [he] at he'
      simp only [Option.some.injEq] at he'
      subst he'
      have hT := sliceElem_eq he
      split at h
      · rename_i k hdst
        split at h
        · rename_i hok
          obtain ⟨rfl, hap⟩ := hok
          simp only [Option.some.injEq] at h
          subst h
          obtain ⟨i, z, hi, hz, hzs, hb1, hb⟩ := appendOk_parts hap
          have hv : a.eval s = .slice none 0 0 := by
            have := opnd_sound hI hs
            revert this
            generalize a.eval s = v
            intro this
            cases this
            rfl
          have hse : szOf P e = i.size := by simp [szOf, hi]
          obtain ⟨c1, c2⟩ := srcRows_parts hI (opnd_sound hI hy) hx
          obtain ⟨w0, w0', _⟩ := hI.nilTag k e
          have e0 := Evo.nilTag g σ q k e
          obtain ⟨v', g', q', hr, w1, w2, w3⟩ := w0.append (ty := o.type) (k := k) (T := e) (rows := []) (by simp) hT hi hz hzs c1 (by rw [← hse]; exact c2)
            (by simpa using small_of hb1 hb) (by simpa using hb)
          have hmm : (σ.map (demoteB k)).map (demoteB k) = σ.map (demoteB k) := by
            rw [List.map_map]
            apply List.map_congr_left
            intro b _
            exact demoteB_idem k b
          rw [demoteL_idem, hmm] at w1
          rw [hmm] at w2 w3
          refine steps1_val (v := v') ?_ (w1.put o.dst (by simpa using w3)) (e0.trans w2) rfl
          unfold execOp
          rw [ho]
          simp only [if_true] at hr
          simp [resolve, invoke, builtin, hv, hr]
        · cases h
      · cases h
    · cases h
  · exact valOp_steps hI h
end Go.Vm
