/- Operations that make or change blocks: alloc, box, store, literals, make, append. -/
import Derived.Test.YtmdmacmkmdgeaaaGreatDoorN3
namespace Go.N
open Go Go.RowKit

theorem HT.take {B : Nat} {q : Q} {h : Hp} {w : World} (hT : HT B q h w) (hqn : q h.next = none) {id : Nat} {o o' : Ob} {e : QE} (ho : h.get id = some o) (hq : q id = some e) (hl : h.lim ≤ id) {x : Obj} {w' : World} {d n : Nat}
    (hsame : w'.heap[e.b]? = some x) (hother : ∀ b, b ≠ e.b → w'.heap[b]? = w.heap[b]?) (hsz : w'.heap.size = w.heap.size) (hos : w'.os = w.os) (htp : w'.tape = w.tape) (hout : w'.output = w.output)
    (hO : OT q o' ⟨e.b, d, n⟩ (some x)) :
    HT B (fun i => if i = h.next then some ⟨e.b, d, n⟩ else q i) ((h.set id none).new o') w' ∧ Fr q h w (fun i => if i = h.next then some ⟨e.b, d, n⟩ else q i) ((h.set id none).new o') w' := by
  have hle : q.le (fun i => if i = h.next then some ⟨e.b, d, n⟩ else q i) := fun i f hf => by
    have : i ≠ h.next := by rintro rfl; rw [hqn] at hf; cases hf
    simp only [this, if_false]; exact hf
  have hidne : id ≠ h.next := by rintro rfl; rw [hqn] at hq; cases hq
  have hget : ∀ m, ((h.set id none).new o').get m = if m = h.next then some o' else if m = id then none else h.get m := fun m => by
    have h1 := Hp.get_set (h := h.set id none) (id := h.next) hT.visNew (some o') m
    have h2 := Hp.get_set (h := h) (id := id) (Hp.get_vis ho) none m
    rw [h2] at h1
    simpa [Hp.new, Hp.get, Hp.set] using h1
  have hbB : B ≤ e.b := by
    obtain ⟨f, h1, _, h3⟩ := hT.tie id o ho
    rw [hq] at h1
    cases h1
    exact h3 hl
  have key : ∀ m p, m ≠ h.next → ((h.set id none).new o').get m = some p → m ≠ id ∧ h.get m = some p := fun m p hm hp => by
    rw [hget, if_neg hm] at hp
    by_cases em : m = id
    · rw [if_pos em] at hp; cases hp
    · rw [if_neg em] at hp; exact ⟨em, hp⟩
  refine ⟨⟨⟨?_, ?_, ?_, ?_⟩, ?_, ?_, fun i hi => by
      have hi : h.next + 1 ≤ i := hi
      have h1 := Hp.tr_new (h.set id none) o' i
      rw [h1, if_neg (by show i ≠ h.next; omega), Hp.tr_set]
      split
      · rfl
      · exact hT.wf i (by omega)⟩, ⟨hle, ?_, ?_, ?_, hos, htp, hout, ?_, rfl, rfl, ?_, ?_, ?_⟩⟩
  · intro i p hp
    by_cases ei : i = h.next
    · rw [hget, if_pos ei] at hp
      cases hp
      refine ⟨⟨e.b, d, n⟩, by simp [ei], ?_, fun _ => hbB⟩
      show OT _ _ _ w'.heap[e.b]?
      rw [hsame]
      exact OT.mono hle hO
    · obtain ⟨em, hp⟩ := key i p ei hp
      obtain ⟨f, h1, h2, h3⟩ := hT.tie i p hp
      refine ⟨f, hle _ _ h1, ?_, h3⟩
      rw [hother]
      · exact OT.mono hle h2
      · intro hbb
        exact em (hT.inj i id p o f e hp ho h1 hq hbb)
  · intro i j o1 o2 e1 f1 hi hj he hf hbb
    by_cases ei : i = h.next <;> by_cases ej : j = h.next
    · rw [ei, ej]
    · obtain ⟨em, hp⟩ := key j o2 ej hj
      simp only [ei, ej, if_true, if_false, Option.some.injEq] at he hf
      subst he
      exact absurd (hT.inj j id o2 o f1 e hp ho hf hq hbb.symm) em
    · obtain ⟨em, hp⟩ := key i o1 ei hi
      simp only [ei, ej, if_true, if_false, Option.some.injEq] at he hf
      subst hf
      exact absurd (hT.inj i id o1 o e1 e hp ho he hq hbb) em
    · obtain ⟨_, hp⟩ := key i o1 ei hi
      obtain ⟨_, hp2⟩ := key j o2 ej hj
      simp only [ei, ej, if_false] at he hf
      exact hT.inj i j o1 o2 e1 f1 hp hp2 he hf hbb
  · intro i f hf
    rw [hsz]
    by_cases ei : i = h.next
    · simp only [ei, if_true, Option.some.injEq] at hf
      subst hf
      exact hT.dom id e hq
    · simp only [ei, if_false] at hf
      exact hT.dom i f hf
  · rw [hsz]; exact hT.base
  · intro a ha
    exact Nat.le_trans (hT.hid a ha) (Nat.le_succ _)
  · exact Nat.le_trans hT.lim (Nat.le_succ _)
  · intro i f hf
    by_cases ei : i = h.next
    · exact .inr ⟨by omega, by show i < h.next + 1; omega⟩
    · simp only [ei, if_false] at hf; exact .inl hf
  · intro b _ hn
    exact hother b (fun hbb => hn id o e hl ho hq hbb.symm)
  · omega
  · exact Nat.le_succ _
  · intro i p f hp hf
    by_cases ei : i = h.next
    · simp only [ei, if_true, Option.some.injEq] at hf
      subst hf
      exact .inr ⟨by omega, by show i < h.next + 1; omega, .inr ⟨id, o, e, hl, ho, hq, rfl⟩⟩
    · simp only [ei, if_false] at hf
      exact .inl ⟨p, (key i p ei hp).2, hf⟩
  · intro i hi
    have := hT.lim
    have hne : i ≠ h.next := by omega
    have hne2 : i ≠ id := by omega
    rw [hget, if_neg hne, if_neg hne2]
  · intro i hv
    have e1 : i ≠ h.next := by rintro rfl; rw [hT.visNew] at hv; cases hv
    have e2 : i ≠ id := by rintro rfl; rw [Hp.get_vis ho] at hv; cases hv
    have h1 := Hp.tr_new (h.set id none) o' i
    have h2 := Hp.tr_set h id none i
    rw [if_neg e2] at h2
    rw [h1, h2]
    simp [Hp.set, e1]

/-- A row of cells, new. -/
theorem HT.cells {B : Nat} {q : Q} {h : Hp} {w : World} (hT : HT B q h w) (hqn : q h.next = none) {T : TypeId} {cs : List V} {vs : List Value} {n : Nat} (hn : n = vs.length) (hl : cs.length ≤ vs.length) (hR : RL q cs (vs.take cs.length)) (h1 : ∀ u ∈ vs, u.oneCell' = true)
    {w' : World} (hw : w'.heap = w.heap.push (.cells ⟨vs⟩ T)) (hos : w'.os = w.os) (htp : w'.tape = w.tape) (hout : w'.output = w.output) :
    HT B (fun i => if i = h.next then some ⟨w.heap.size, 0, n⟩ else q i) (h.new (.cells T cs)) w' ∧
    Fr q h w (fun i => if i = h.next then some ⟨w.heap.size, 0, n⟩ else q i) (h.new (.cells T cs)) w' :=
  hT.push hqn hw hos htp hout ⟨vs, rfl, hn.symm, by simp [hn, hl], by simpa using hR, h1⟩

def allocE (P : Program) (h : Hp) (T : TypeId) : Option (V × Hp) := match P.info? T with
  | some i => match i.zero with
    | some z => match zeroCells z with
      | some cs => some (.ptr h.next 0, h.new (.cells T cs))
      | none => none
    | none => none
  | none => none
def boxE (h : Hp) (T : TypeId) (x : V) : Option (V × Hp) := match cellsV x with
  | some cs => some (.ptr h.next 0, h.new (.cells T cs))
  | none => none

theorem box_did {P : Program} {B : Nat} {q : Q} {h : Hp} {w : World} (hT : HT B q h w) {T : TypeId} {v : Value} {cs : List V} (hR : RL q cs v.cells.toList) (h1 : ∀ u ∈ v.cells.toList, u.oneCell' = true) {s : Sem Value}
    (hs : s.run P w = .ok (.pointer (some ⟨w.heap.size, 0, none⟩)) (w.alloc (.cells v.cells T))) : Did P B q h w (do pure (.value (← s))) (.ptr h.next 0) (h.new (.cells T cs)) := by
  intro hfree
  have hqn : q h.next = none := hfree _ (Nat.le_refl _) (Nat.lt_succ_self _)
  have hl := hR.length
  obtain ⟨h2, h3⟩ := hT.cells hqn (T := T) (n := v.cells.toList.length) rfl (by rw [hl]; exact Nat.le_refl _) (by rw [hl, List.take_length]; exact hR) h1 (w' := w.alloc (.cells v.cells T)) rfl rfl rfl rfl
  exact ⟨.value (.pointer (some ⟨w.heap.size, 0, none⟩)), _, _, w.alloc (.cells v.cells T), by simp only [Sem.run_bind, hs, Result.andThen_ok, Sem.run_pure], .inl rfl, h2, h3, ⟨w.heap.size, 0, v.cells.toList.length⟩, by simp, by simp⟩

theorem allocE_did {P : Program} {B : Nat} {q : Q} {h : Hp} {w : World} (hT : HT B q h w) {T : TypeId} {x : V} {h' : Hp} (he : allocE P h T = some (x, h')) :
    Did P B q h w (do pure (.value (← Instr.alloc T true (.tuple #[])))) x h' := by
  unfold allocE at he
  split at he
  · rename_i i hi
    split at he
    · rename_i z hz
      split at he
      · rename_i cs hcs
        simp only [Option.some.injEq, Prod.mk.injEq] at he
        obtain ⟨rfl, rfl⟩ := he
        obtain ⟨k1, k2⟩ := zeroCells_sound q hcs
        exact box_did hT k1 k2 (by simp [Instr.alloc, zeroValue, typeInfo, hi, hz, newVar, newRow])
      · cases he
    · cases he
  · cases he
theorem boxE_did {P : Program} {B : Nat} {q : Q} {h : Hp} {w : World} (hT : HT B q h w) {T : TypeId} {x y : V} {v : Value} {h' : Hp} (hx : R q x v) (he : boxE h T x = some (y, h')) :
    Did P B q h w (do pure (.value (← Instr.box T v))) y h' := by
  unfold boxE at he
  split at he
  · rename_i cs hcs
    simp only [Option.some.injEq, Prod.mk.injEq] at he
    obtain ⟨rfl, rfl⟩ := he
    obtain ⟨k1, k2⟩ := cellsV_sound hx hcs
    exact box_did hT k1 k2 (by simp [Instr.box, newVar, newRow])
  · cases he

theorem window_over (vs us : List Value) (d n off : Nat) (h : off + us.length ≤ n) (hn : d + n ≤ vs.length) :
    (((vs.take (d + off) ++ us ++ vs.drop (d + off + us.length)).drop d).take n) = ((vs.drop d).take n).take off ++ us ++ ((vs.drop d).take n).drop (off + us.length) := by
  apply List.ext_getElem?
  intro k
  simp only [List.getElem?_take, List.getElem?_drop, List.getElem?_append, List.length_append, List.length_take, List.length_drop]
  repeat' split
  all_goals first
    | rfl
    | omega
    | (congr 1; omega)
    | (exfalso; omega)
    | (rw [List.getElem?_eq_none (by omega)])
    | (rw [eq_comm, List.getElem?_eq_none (by omega)])

theorem setRow_facts (w : World) (g : Nat) (old cs : Array Value) (t : TypeId) (hg : w.heap[g]? = some (.cells old t (0, 0))) :
    (w.setRow g cs).heap[g]? = some (.cells cs t (0, 0)) ∧ (∀ b, b ≠ g → (w.setRow g cs).heap[b]? = w.heap[b]?) ∧ (w.setRow g cs).heap.size = w.heap.size :=
  ⟨setRow_heap w g old cs t _ hg, fun b hb => setRow_other w g b cs hb, by simp [World.setRow]⟩

/-- Cells of a block written over. -/
theorem HT.write {P : Program} {B : Nat} {q : Q} {h : Hp} {w : World} (hT : HT B q h w) {id : Nat} {T : TypeId} {cs cs' : List V} {us : List Value} {off : Nat} {e : QE} (hg : h.get id = some (.cells T cs)) (hq : q id = some e) (hlim : h.lim ≤ id)
    (hR : RL q cs' us) (h1 : ∀ u ∈ us, u.oneCell' = true) (hfit : off + cs'.length ≤ cs.length) :
    ∃ w', (storeCells ⟨e.b, e.d + off, none⟩ us 0).run P w = .ok () w' ∧ HT B q (h.set id (some (.cells T (overC cs cs' off)))) w' ∧ Fr q h w q (h.set id (some (.cells T (overC cs cs' off)))) w' := by
  obtain ⟨f, k1, ⟨vs, k2, k3, k4, k5, k6⟩, _⟩ := hT.tie id _ hg
  rw [hq] at k1
  cases k1
  have hl := hR.length
  have hst := run_storeCells_at P e.b (e.d + off) T us 0 ⟨vs⟩ w k2 (by simp; omega) h1
  simp only [Nat.add_zero] at hst
  obtain ⟨m1, m2, m3⟩ := setRow_facts w e.b ⟨vs⟩ (vs.take (e.d + off) ++ us ++ vs.drop (e.d + off + us.length)).toArray T k2
  have hov := HT.over hT (o' := .cells T (overC cs cs' off)) hg hq hlim m1 m2 m3 rfl rfl rfl ⟨_, rfl, by simp; omega, by rw [overC_length hfit]; exact k4, ?_, ?_⟩
  · exact ⟨_, hst, hov.1, hov.2⟩
  · rw [overC_length hfit]
    have := window_over vs us e.d cs.length off (by omega) (by omega)
    rw [show (vs.take (e.d + off) ++ us ++ vs.drop (e.d + off + us.length)) = (vs.take (e.d + off) ++ us ++ vs.drop (e.d + off + us.length)) from rfl, this]
    exact overC_sound k5 hR off
  · intro u hu
    simp only [List.mem_append] at hu
    rcases hu with (hu | hu) | hu
    · exact k6 u (List.mem_of_mem_take hu)
    · exact h1 u hu
    · exact k6 u (List.mem_of_mem_drop hu)

def storeE (P : Program) (h : Hp) (T : TypeId) (x y : V) : Option (V × Hp) := match x, cellsV y with
  | .ptr id off, some cs' => match h.get id with
    | some (.cells T' cs) => if h.lim ≤ id ∧ (P.info? T).isSome = true ∧ cs'.length = szOf P T ∧ off + cs'.length ≤ cs.length then some (.tup [], h.set id (some (.cells T' (overC cs cs' off)))) else none
    | _ => none
  | _, _ => none
theorem storeE_did {P : Program} {B : Nat} {q : Q} {h : Hp} {w : World} (hT : HT B q h w) {T : TypeId} {x y r : V} {v u : Value} {h' : Hp} (hx : R q x v) (hy : R q y u) (he : storeE P h T x y = some (r, h')) :
    Did P B q h w (do Instr.storeAt T v u; pure .skip) r h' := by
  unfold storeE at he
  split at he
  · rename_i id off cs' hcs
    split at he
    · rename_i T' cs hg
      split at he
      · rename_i hok
        obtain ⟨hlim, hinfo, hsz, hfit⟩ := hok
        obtain ⟨i, hi⟩ := Option.isSome_iff_exists.1 hinfo
        simp only [Option.some.injEq, Prod.mk.injEq] at he
        obtain ⟨rfl, rfl⟩ := he
        obtain ⟨e, hq, rfl⟩ := hx
        obtain ⟨k1, k2⟩ := cellsV_sound hy hcs
        obtain ⟨w', m1, m2, m3⟩ := hT.write (P := P) hg hq hlim k1 k2 hfit
        have hl := k1.length
        refine fun _ => ⟨.skip, undef, q, w', ?_, .inr ⟨rfl, rfl⟩, m2, m3, [], rfl, rfl⟩
        have hne : ¬ (u.cells.size ≠ szOf P T) := by simp at hl; omega
        simp only [Instr.storeAt, storeVar, Sem.run_bind, Instr.sureAddr, Sem.run_pure, Result.andThen_ok, run_sizeOf hi, if_neg hne, m1]
      · cases he
    · cases he
  · cases he

/-- The cells of a slice or of a string, as they are to be copied. -/
def srcCells (h : Hp) (sz : Nat) (x : V) : Option (Nat × List V) := match x with
  | .sl id off s len _ _ => match cellsOf h id with
    | some cs => if s = sz ∧ off + len * sz ≤ cs.length then some (len, (cs.drop off).take (len * sz)) else none
    | _ => none
  | .sc (.slice none 0 0) => some (0, [])
  | .sc (.string s) => if sz = 1 then some (s.size, s.data.toList.map fun b => .sc (.int .u8 b.toNat)) else none
  | _ => none
theorem srcCells_run {P : Program} {B : Nat} {q : Q} {h : Hp} {w : World} (hT : HT B q h w) {sz : Nat} {x : V} {v : Value} {n : Nat} {cs : List V} (hx : R q x v) (he : srcCells h sz x = some (n, cs)) :
    ∃ news, (Builtin.lenOf v).run P w = .ok n w ∧ (∀ w', w'.heap = w.heap → (Builtin.firstCells sz n v).run P w' = .ok ⟨news⟩ w') ∧ RL q cs news ∧ (∀ u ∈ news, u.oneCell' = true) ∧ news.length = n * sz := by
  unfold srcCells at he
  split at he
  · rename_i id off s len cap ex
    split at he
    · rename_i cs0 hg
      split at he
      · rename_i hok
        obtain ⟨rfl, hfit⟩ := hok
        simp only [Option.some.injEq, Prod.mk.injEq] at he
        obtain ⟨rfl, rfl⟩ := he
        obtain ⟨e, c, a, k1, rfl, k2, k3, k4, k5, k6, k7⟩ := hx
        obtain ⟨e', vs, m1, m2, m3, m4, m5⟩ := hT.holds hg
        rw [k1] at m1
        cases m1
        have hlv := m2.length
        have hln : ((vs.drop off).take (len * s)).length = len * s := by simp; omega
        refine ⟨(vs.drop off).take (len * s), by simp [Builtin.lenOf], ?_, (m2.drop off).take _, fun u hu => m4 u (List.mem_of_mem_drop (List.mem_of_mem_take hu)), hln⟩
        intro w' hw
        refine run_firstCells_some (P := P) w' s len a len c _ hln ?_
        intro j u hj
        have hlt : j < len * s := by
          have := List.getElem?_eq_some_iff.1 hj
          obtain ⟨h1, _⟩ := this
          rwa [hln] at h1
        have hc : c ≠ 0 := by
          rintro rfl
          have : len = 0 := by omega
          subst this
          simp at hlt
        rw [k2 hc, addr_add, show e.d + off + j = e.d + (off + j) from by omega]
        rw [List.getElem?_take, if_pos hlt, List.getElem?_drop] at hj
        have := m3 (off + j) u hj
        rw [World.cell?_of_block (w := w) (w' := w') (by rw [hw])]
        exact this
      · cases he
    · cases he
  · simp only [Option.some.injEq, Prod.mk.injEq] at he
    obtain ⟨rfl, rfl⟩ := he
    obtain ⟨rfl, _⟩ := hx
    exact ⟨[], by simp [Builtin.lenOf], fun w' _ => run_firstCells_none (P := P) w' _ _ _ _, rfl, by simp, by simp⟩
  · rename_i s
    split at he
    · rename_i h1
      subst h1
      simp only [Option.some.injEq, Prod.mk.injEq] at he
      obtain ⟨rfl, rfl⟩ := he
      obtain ⟨rfl, _⟩ := hx
      refine ⟨s.data.toList.map fun b => .int .u8 b.toNat, by simp [Builtin.lenOf], ?_, ?_, ?_, ?_⟩
      · intro w' _
        simp only [Builtin.firstCells, Sem.run_pure]
        congr 1
        apply Array.ext'
        simp only [Array.toList_map]
        congr 1
        have : (s.extract 0 s.size) = s := by
          simp
        rw [this]
      · refine RL.of (by simp) ?_
        intro i x v hx hv
        simp only [List.getElem?_map, Option.map_eq_some_iff] at hx hv
        obtain ⟨b, hb, rfl⟩ := hx
        obtain ⟨b', hb', rfl⟩ := hv
        rw [hb] at hb'
        cases hb'
        exact ⟨rfl, rfl⟩
      · intro u hu
        simp only [List.mem_map] at hu
        obtain ⟨b, _, rfl⟩ := hu
        rfl
      · rw [List.length_map, Nat.mul_one]; rfl
    · cases he
  · cases he
end Go.N
