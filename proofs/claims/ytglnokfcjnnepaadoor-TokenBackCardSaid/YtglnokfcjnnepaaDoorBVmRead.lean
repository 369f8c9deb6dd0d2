/- Arguments that read as data, as the VM's data: integers, bools, strings, structs and slices of such. -/
import Derived.Test.YtglnokfcjnnepaaDoorBVmW
import Derived.ChangeSame
import Derived.Carry
namespace Go.Vm
open Go Go.RowKit Go.WideShapes Go.ChangeShapes

/-- A struct's fields lie side by side. -/
def tiles (P : Program) : Nat → List Field → Option Nat
  | o, [] => some o
  | o, f :: fs => if f.offset = o then tiles P (o + P.cellsOf f.type) fs else none
/-- A type of integers, bools, strings, structs and slices of such: its parts are in the list. -/
def plainIn (P : Program) (L : List TypeId) (t : TypeId) : Bool := match P.underlying t with
  | some .bool | some (.int _) | some .string => true
  | some (.slice e) => L.contains e && decide (0 < P.cellsOf e)
  | some (.struct fs) => (fs.toList.all fun f => L.contains f.type) && decide (tiles P 0 fs.toList = some (P.cellsOf t))
  | _ => false

/-- Cells that are of a type. -/
def HasT (P : Program) : Nat → TypeId → List D → Prop
  | 0, _, _ => False
  | n + 1, t, xs => match P.underlying t with
    | some .bool => ∃ b, xs = [tb b]
    | some (.int k) => ∃ m, xs = [.sc (.int k m)] ∧ (Lit.int k m).wf = true
    | some .string => ∃ l, xs = [str l] ∧ l.length ≤ maxLen
    | some (.slice e) => xs = [.nil] ∨ ∃ rows, xs = [.sl rows] ∧ rows.length ≤ maxLen ∧ ∀ r ∈ rows, r.length = P.cellsOf e ∧ HasT P n e r
    | some (.struct fs) => xs.length = P.cellsOf t ∧ ∀ f ∈ fs.toList, HasT P n f.type ((xs.drop f.offset).take (P.cellsOf f.type))
    | _ => False

section
variable {H : Type} {enc : TypeId × Value → H} {P : Program} {w : World} {base : Nat} {spare : Nat → Bool} {held : Bool}

abbrev gAll (w : World) : G := ⟨w, fun b _ => b < w.heap.size⟩

theorem cell_lt {w : World} {b o : Nat} {v : Value} (h : w.cell? ⟨b, o, none⟩ = some v) : b < w.heap.size := by
  by_cases hb : b < w.heap.size
  · exact hb
  · exfalso
    simp [World.cell?, Array.getElem?_eq_none (Nat.not_lt.1 hb)] at h

theorem CRC.of_cells {a : Addr} {n : Nat} {cs : List Value} {xs : List D} (ha : a.spot = none) (h : w.cells? base a n = some cs) (hx : CRL (gAll w) xs cs) (h1 : ∀ u ∈ cs, u.oneCell' = true) : CRC (gAll w) a.block a.off xs := by
  obtain ⟨b, o, s⟩ := a
  simp only at ha
  subst ha
  obtain ⟨_, hl, hc⟩ := World.cells?_some h
  have hc' : Holds (gAll w) b o cs := by
    intro j v hj
    have hjn : j < n := by
      have := (List.getElem?_eq_some_iff.1 hj).1
      omega
    have := hc j hjn
    rw [hj] at this
    rwa [addr_add] at this
  refine CRC.of hx hc' ?_ h1
  intro j hj
  exact cell_lt (hc' j _ (List.getElem?_eq_getElem hj))

theorem rows_of {n e sz : Nat} {b : Nat} : ∀ (m k o : Nat), (∀ j, j < m → ∃ xs, CRC (gAll w) b (o + (k + j) * sz) xs ∧ xs.length = sz ∧ HasT P n e xs) →
    ∃ rows, rows.length = m ∧ CRR (gAll w) b (o + k * sz) sz rows ∧ ∀ r ∈ rows, r.length = sz ∧ HasT P n e r
  | 0, k, o, _ => ⟨[], rfl, .nil _ _ _, by simp⟩
  | m + 1, k, o, h => by
    obtain ⟨xs, h1, h2, h3⟩ := h 0 (by omega)
    obtain ⟨rows, k1, k2, k3⟩ := rows_of m (k + 1) o fun j hj => by
      have := h (j + 1) (by omega)
      rwa [show k + (j + 1) = k + 1 + j from by omega] at this
    refine ⟨xs :: rows, by simp [k1], .cons _ _ _ _ _ h2 (by simpa using h1) ?_, ?_⟩
    · rwa [show o + k * sz + sz = o + (k + 1) * sz from by rw [Nat.succ_mul]; omega]
    · simp only [List.mem_cons, forall_eq_or_imp]
      exact ⟨⟨h2, h3⟩, k3⟩

theorem CRL.of_one {g : G} {x : D} {v : Value} (h : CR g x v) : CRL g [x] [v] := .cons _ _ _ _ h .nil

theorem read_fields {n : Nat} {cs : List Value} {L : List TypeId} (ih : ∀ (t : TypeId) (cs : List Value), L.contains t = true → (∃ x, DataW.trod enc P w base spare held n t cs = some x) → ∃ xs, CRL (gAll w) xs cs ∧ HasT P n t xs ∧ (∀ u ∈ cs, u.oneCell' = true)) :
    ∀ (fs : List Field) (o total : Nat), (∀ f ∈ fs, L.contains f.type = true) → tiles P o fs = some total → total = cs.length → o ≤ total →
      (∀ f ∈ fs, (∃ x, DataW.trod enc P w base spare held n f.type ((cs.drop f.offset).take (P.cellsOf f.type)) = some x)) →
      ∃ xs, CRL (gAll w) xs (cs.drop o) ∧ (∀ u ∈ cs.drop o, u.oneCell' = true) ∧ ∀ f ∈ fs, o ≤ f.offset ∧ HasT P n f.type ((xs.drop (f.offset - o)).take (P.cellsOf f.type))
  | [], o, total, _, h, ht, _, _ => by
    simp only [tiles, Option.some.injEq] at h
    refine ⟨[], ?_, ?_, by simp⟩
    · rw [List.drop_eq_nil_of_le (by omega)]; exact .nil
    · rw [List.drop_eq_nil_of_le (by omega)]; simp
  | f :: fs, o, total, hin, h, ht, ho, hf => by
    simp only [tiles] at h
    split at h
    · rename_i hfo
      have hle : ∀ (l : List Field) (o t : Nat), tiles P o l = some t → o ≤ t := by
        intro l
        induction l with
        | nil => intro o t h; simp only [tiles, Option.some.injEq] at h; omega
        | cons f l ih =>
          intro o t h
          simp only [tiles] at h
          split at h
          · have := ih _ _ h; omega
          · cases h
      have ho2 := hle _ _ _ h
      obtain ⟨ys, y1, y2, y3⟩ := read_fields ih fs (o + P.cellsOf f.type) total (fun g hg => hin g (by simp [hg])) h ht ho2 fun g hg => hf g (by simp [hg])
      obtain ⟨xs, x1, x2, x3⟩ := ih f.type _ (hin f (by simp)) (hf f (by simp))
      rw [hfo] at x1 x3
      have hxl : xs.length = P.cellsOf f.type := by rw [x1.length, List.length_take, List.length_drop]; omega
      have hsplit : cs.drop o = (cs.drop o).take (P.cellsOf f.type) ++ cs.drop (o + P.cellsOf f.type) := by
        rw [← List.drop_drop, List.take_append_drop]
      refine ⟨xs ++ ys, ?_, ?_, ?_⟩
      · rw [hsplit]; exact x1.append y1
      · rw [hsplit]
        intro u hu
        rcases List.mem_append.1 hu with hu | hu
        · exact x3 u hu
        · exact y2 u hu
      · intro g hg
        simp only [List.mem_cons] at hg
        rcases hg with rfl | hg
        · refine ⟨by omega, ?_⟩
          rw [hfo, Nat.sub_self, List.drop_zero, ← hxl, List.take_left]
          exact x2
        · obtain ⟨g1, g2⟩ := y3 g hg
          refine ⟨by omega, ?_⟩
          rw [List.drop_append, List.drop_of_length_le (by omega), List.nil_append, hxl, show g.offset - o - P.cellsOf f.type = g.offset - (o + P.cellsOf f.type) from by omega]
          exact g2
    · cases h

theorem plainIn_of {L : List TypeId} (hL : (L.all (plainIn P L)) = true) {t : TypeId} (ht : L.contains t = true) : plainIn P L t = true :=
  List.all_eq_true.1 hL t (by simpa using ht)

theorem read_cells {L : List TypeId} (hL : (L.all (plainIn P L)) = true) : ∀ (n : Nat) (t : TypeId) (cs : List Value) (x : DataW H × List MemPlace), L.contains t = true → DataW.trod enc P w base spare held n t cs = some x →
    ∃ xs, CRL (gAll w) xs cs ∧ HasT P n t xs ∧ (∀ u ∈ cs, u.oneCell' = true)
  | 0, t, cs, x, _, h => by simp [DataW.trod] at h
  | n + 1, t, cs, x, ht, h => by
    have hp := plainIn_of hL ht
    unfold plainIn at hp
    split at hp
    · rename_i hu
      obtain ⟨b, rfl, _⟩ := DataW.trod_bool hu h
      exact ⟨[tb b], .of_one (.sc _ rfl), by simp only [HasT, hu]; exact ⟨b, rfl⟩, by simp [Value.oneCell']⟩
    · rename_i k hu
      obtain ⟨m, rfl, _, hw⟩ := DataW.trod_int hu h
      exact ⟨[.sc (.int k m)], .of_one (.sc _ rfl), by simp only [HasT, hu]; exact ⟨m, rfl, hw⟩, by simp [Value.oneCell']⟩
    · rename_i hu
      obtain ⟨s, rfl, _, hw⟩ := DataW.trod_string hu h
      obtain ⟨⟨l⟩⟩ := s
      exact ⟨[str l], .of_one (.sc _ rfl), by simp only [HasT, hu]; exact ⟨l, rfl, hw⟩, by simp [Value.oneCell']⟩
    · rename_i e hu
      simp only [Bool.and_eq_true, decide_eq_true_eq] at hp
      obtain ⟨he, hsz⟩ := hp
      rcases DataW.trod_slice hu h with ⟨rfl, _⟩ | ⟨a, len, cap, elems, rest, m, hm, rfl, _, _, hlc, hcm, hlen, hel, _⟩
      · exact ⟨[.nil], .of_one .nil, by simp only [HasT, hu]; exact .inl trivial, by simp [Value.oneCell']⟩
      · obtain rfl : m = n := by omega
        by_cases hl0 : len = 0
        · subst hl0
          exact ⟨[.sl []], .of_one (.sl0 _ _), by simp only [HasT, hu]; exact .inr ⟨[], rfl, by simp, by simp⟩, by simp [Value.oneCell']⟩
        · have hspot : a.spot = none := by
            have hy := hel 0 (by omega)
            rw [List.getElem?_eq_getElem (by omega)] at hy
            obtain ⟨cs', hcs, hy⟩ := Option.bind_eq_some_iff.1 hy
            obtain ⟨_, hl, hc⟩ := World.cells?_some hcs
            have := hc 0 hsz
            have h0 : cs'[0]? = some cs'[0] := List.getElem?_eq_getElem (by omega)
            rw [h0] at this
            simpa [Addr.add] using World.cell?_spot this
          obtain ⟨b, o, sp⟩ := a
          simp only at hspot
          subst hspot
          have each : ∀ j, j < len → ∃ xs, CRC (gAll w) b (o + (0 + j) * P.cellsOf e) xs ∧ xs.length = P.cellsOf e ∧ HasT P m e xs := by
            intro j hj
            have hy := hel j hj
            rw [List.getElem?_eq_getElem (by omega)] at hy
            obtain ⟨cs', hcs, hy⟩ := Option.bind_eq_some_iff.1 hy
            obtain ⟨xs, x1, x2, x3⟩ := read_cells hL m e cs' _ he hy
            obtain ⟨_, hl, hc⟩ := World.cells?_some hcs
            rw [addr_add] at hcs
            refine ⟨xs, ?_, by rw [x1.length, hl], x2⟩
            rw [Nat.zero_add]
            exact CRC.of_cells rfl hcs x1 x3
          obtain ⟨rows, r1, r2, r3⟩ := rows_of (n := m) (e := e) (sz := P.cellsOf e) (b := b) len 0 o each
          refine ⟨[.sl rows], .of_one ?_, by simp only [HasT, hu]; exact .inr ⟨rows, rfl, by omega, r3⟩, by simp [Value.oneCell']⟩
          subst r1
          exact .sl b o cap (P.cellsOf e) rows hlc (by simpa using r2)
    · rename_i fs hu
      simp only [Bool.and_eq_true, decide_eq_true_eq] at hp
      obtain ⟨hf, htl⟩ := hp
      obtain ⟨xs, m, hm, _, hcl, hxl, hx⟩ := DataW.trod_struct hu h
      obtain rfl : m = n := by omega
      obtain ⟨ys, y1, y2, y3⟩ := read_fields (n := m) (enc := enc) (P := P) (w := w) (base := base) (spare := spare) (held := held) (cs := cs)
        (L := L) (fun t cs hc ⟨x, hx⟩ => read_cells hL m t cs x hc hx)
        fs.toList 0 (P.cellsOf t) (List.all_eq_true.1 hf) htl hcl.symm (Nat.zero_le _) (by
          intro f hf
          obtain ⟨i, hi⟩ := List.getElem?_of_mem hf
          have := hx i f (by simpa using hi)
          have hlt : i < xs.length := by
            have := (List.getElem?_eq_some_iff.1 hi).1
            simp at this; omega
          rw [List.getElem?_eq_getElem hlt] at this
          exact ⟨_, this⟩)
      refine ⟨ys, by simpa using y1, ?_, by simpa using y2⟩
      simp only [HasT, hu]
      refine ⟨by rw [y1.length, ← hcl]; simp, fun f hf => ?_⟩
      have := (y3 f hf).2
      simpa using this
    · cases hp

/-- A value of a type, as the VM has it. -/
def HasV (P : Program) (n : Nat) (t : TypeId) (x : D) : Prop := match P.underlying t with
  | some (.struct _) => ∃ xs, x = .agg xs ∧ HasT P n t xs
  | _ => HasT P n t [x]
def HasVs (P : Program) : List TypeId → List D → Prop
  | [], xs => xs = []
  | t :: ts, xs => ∃ n x xs', xs = x :: xs' ∧ HasV P n t x ∧ HasVs P ts xs'

theorem read_val {L : List TypeId} (hL : (L.all (plainIn P L)) = true) {t : TypeId} (ht : L.contains t = true) {v : Value} {d : DataW H} {p : List MemPlace} {b0 : Nat} (hv : Value.okWide P w .any b0 t v)
    (h : DataW.Trod enc P w base spare held t v d p) : ∃ n x, CR (gAll w) x v ∧ HasV P n t x := by
  obtain ⟨n, h⟩ := h
  obtain ⟨xs, h1, h2, h3⟩ := read_cells hL n t _ _ ht h
  have hp := plainIn_of hL ht
  unfold HasV
  unfold plainIn at hp
  have one : v.cells = #[v] → ∃ x, CR (gAll w) x v ∧ HasT P n t [x] := by
    intro hc
    rw [hc] at h1
    cases h1 with
    | cons x _ xs _ k1 k2 =>
      cases k2
      exact ⟨x, k1, h2⟩
  split at hp
  · rename_i hu
    rw [hu]
    obtain ⟨s, rfl⟩ := okWide_bool hu hv
    obtain ⟨x, k⟩ := one rfl
    exact ⟨n, x, k⟩
  · rename_i k hu
    rw [hu]
    obtain ⟨s, rfl⟩ := okWide_int hu hv
    obtain ⟨x, k⟩ := one rfl
    exact ⟨n, x, k⟩
  · rename_i hu
    rw [hu]
    obtain ⟨s, rfl⟩ := okWide_string hu hv
    obtain ⟨x, k⟩ := one rfl
    exact ⟨n, x, k⟩
  · rename_i e hu
    rw [hu]
    obtain ⟨a, l, c, rfl⟩ := okWide_slice hu hv
    obtain ⟨x, k⟩ := one rfl
    exact ⟨n, x, k⟩
  · rename_i fs hu
    rw [hu]
    obtain ⟨⟨cs⟩, rfl, _⟩ := okWide_struct hu hv
    exact ⟨n, .agg xs, .agg _ _ h3 h1, xs, rfl, h2⟩
  · cases hp

theorem read_args {L : List TypeId} (hL : (L.all (plainIn P L)) = true) {b0 : Nat} : ∀ (ts : List TypeId) (vs : List Value) (ds : List (DataW H)) (p : List MemPlace), (∀ t ∈ ts, L.contains t = true) →
    (∀ (j : Nat) t v, ts[j]? = some t → vs[j]? = some v → Value.okWide P w .any b0 t v) → DataW.TrodAll enc P w base spare held ts vs ds p → ∃ xs, CRL (gAll w) xs vs ∧ HasVs P ts xs
  | [], vs, ds, p, _, _, h => by
    obtain ⟨rfl, _, _⟩ := trodAll_nil h
    exact ⟨[], .nil, rfl⟩
  | t :: ts, vs, ds, p, hin, hv, h => by
    obtain ⟨v, vs', d, ds', p1, q1, rfl, _, _, h1, h2⟩ := trodAll_cons h
    obtain ⟨n, x, k1, k2⟩ := read_val hL (hin t (by simp)) (hv 0 t v rfl rfl) h1
    obtain ⟨xs, k3, k4⟩ := read_args hL ts vs' ds' q1 (fun u hu => hin u (by simp [hu])) (fun j u w hj hw => hv (j + 1) u w (by simpa using hj) (by simpa using hw)) h2
    exact ⟨x :: xs, .cons _ _ _ _ k1 k3, n, x, xs, rfl, k2, k4⟩

theorem stay_args (hl : laidOutB P = true) {w' : World} (hb : Below w.heap.size w w') {sp : Nat → Bool} : ∀ (ts : List TypeId) (vs : List Value) (ds : List (DataW H)) (p : List MemPlace), (∀ t ∈ ts, P.readableRec t = true ∧ t < P.types.size) →
    DataW.TrodAll enc P w 0 (fun _ => true) true ts vs ds p → (∀ x ∈ p, x.block < w.heap.size) → (∀ x ∈ p, sp x.block = true) → DataW.TrodAll enc P w' 0 sp true ts vs ds p
  | [], vs, ds, p, _, h, _, _ => by
    obtain ⟨rfl, rfl, rfl⟩ := trodAll_nil h
    exact rfl
  | t :: ts, vs, ds, p, hin, h, hlt, hsp => by
    obtain ⟨v, vs', d, ds', p1, q1, rfl, rfl, rfl, h1, h2⟩ := trodAll_cons h
    refine ⟨p1, q1, WideElems.Trod_stays hl (hin t (by simp)).1 (hin t (by simp)).2 h1 (fun x hx => hb.same (hlt x (by simp [hx]))) (fun x hx => hsp x (by simp [hx])), ?_, rfl⟩
    exact stay_args hl hb ts vs' ds' q1 (fun u hu => hin u (by simp [hu])) h2 (fun x hx => hlt x (by simp [hx])) (fun x hx => hsp x (by simp [hx]))

theorem post_same {f : Func} {s : ChangeSpec} {apart fresh handsOn again : Bool} {W W' : World} {args : Array Value} {v : Value} {ds gs : List (DataW H)} {before pa pv : List MemPlace}
    (hW : DataW.Whole enc P f.params.toList s.vars apart W args.toList ds gs before)
    (hres : ∀ (b : Nat) (sp : Nat → Bool) (hd : Bool), DataW.TrodAll enc P W' b sp hd f.resultTypes.toList (v.resultList f.resultTypes.size) (s.fn H (ds ++ gs)).results [])
    (hargs : ∀ sp : Nat → Bool, (∀ p ∈ before, sp p.block = true) → DataW.TrodAll enc P W' 0 sp true f.params.toList args.toList (s.fn H (ds ++ gs)).args pa)
    (hvars : ∀ sp : Nat → Bool, (∀ p ∈ before, sp p.block = true) → DataW.TrodVars enc P W' sp s.vars (s.fn H (ds ++ gs)).vars pv)
    (hps : before = pa ++ pv) (hk : W.keptBut W' (· ∈ before)) (hfz : ∀ b off, MemPlace.cell b off ∈ before → W'.frozen? ⟨b, off, none⟩ = W.frozen? ⟨b, off, none⟩)
    (hok : ∀ (j : Nat) (t : TypeId) (r : Value), f.resultTypes[j]? = some t → (v.resultList f.resultTypes.size)[j]? = some r → Value.okWide P W' .any 0 t r) :
    s.post enc P f apart fresh handsOn again W args v W' := by
  have hold : ∀ p ∈ before, (fun b => decide (b < W.heap.size)) p.block = true := fun p hp => by simpa using hW.lt p hp
  refine ⟨ds, gs, before, [], pa, pv, hW, hres _ _ _, hargs _ hold, hvars _ hold, World.keptBut_mono (fun p hp => ⟨hp, ?_⟩) hk, fun _ => ?_⟩
  · rw [hps, List.mem_append] at hp
    exact Or.inr hp
  · obtain ⟨_, _, _, _, _, hz, hn⟩ := hW
    refine ⟨hok, _, _, ([] ++ pa) ++ pv, ⟨[] ++ pa, pv, trodAll_append (hargs _ (fun _ _ => rfl)) (hres _ _ _), hvars _ (fun _ _ => rfl), rfl, ?_, ?_⟩, ?_⟩
    · intro b off hp
      have hp' : MemPlace.cell b off ∈ before := by rw [hps]; simpa using hp
      rw [hfz _ _ hp']
      exact hz b off hp'
    · intro ha
      have := hn ha
      rw [hps] at this
      simpa using this
    · intro p hp _
      rw [hps]
      simpa using hp

/-- FROM THE VM's WORD ON A LAW TO ITS CONTRACT. -/
theorem contract_of_pure {f : FuncId} {fn : Func} {s : ChangeSpec} {L : List TypeId} (hL : (L.all (plainIn P L)) = true) (hl : laidOutB P = true) (hin : (fn.params.toList.all fun t => L.contains t && P.readableRec t && decide (t < P.types.size)) = true)
    {tb0 : TypeId} (hres : fn.resultTypes = #[tb0]) (htb : P.underlying tb0 = some .bool) (hvars : s.vars = [])
    {W : World} {b0 : Nat} {args : Array Value} {ds gs : List (DataW H)} {before : List MemPlace}
    (hspec : s.fn H ds = { results := [.lit (.bool true)], args := ds })
    (hval : ∀ (j : Nat) t v, fn.params[j]? = some t → args[j]? = some v → Value.okWide P W .any b0 t v)
    (hW : DataW.Whole enc P fn.params.toList s.vars false W args.toList ds gs before)
    {Z : GTab} (hZ : GOk Z (gAll W)) (hp : ∀ xs, HasVs P fn.params.toList xs → PureC P Z f xs (tb true)) :
    Calls P f args W fun e W' => ∃ v, e = .returned v ∧ s.post enc P fn false true false false W args v W' := by
  have hW0 := hW
  have hlt0 := hW.lt
  obtain ⟨p, q, hA, hV, rfl, hfz, hnd⟩ := hW
  rw [hvars] at hV
  obtain ⟨rfl, rfl⟩ := trodVars_none hV
  have hin' : ∀ t ∈ fn.params.toList, L.contains t = true ∧ P.readableRec t = true ∧ t < P.types.size := by
    intro t ht
    have := List.all_eq_true.1 hin t ht
    simp only [Bool.and_eq_true, decide_eq_true_eq] at this
    exact ⟨this.1.1, this.1.2, this.2⟩
  obtain ⟨xs, h1, h2⟩ := read_args hL fn.params.toList args.toList ds p (fun t ht => (hin' t ht).1) (fun j t v hj hv => hval j t v (by simpa using hj) (by simpa using hv)) hA
  have hrun := hp xs h2 (gAll W) args.toList (fun b o h => h) hZ h1
  refine hrun.mono ?_
  rintro e W' ⟨v, rfl, hb, hc⟩
  have hb : Below W.heap.size W W' := hb
  obtain rfl : v = .bool true := by cases hc; rfl
  refine ⟨_, rfl, ?_⟩
  have hlt : ∀ x ∈ p, x.block < W.heap.size := fun x hx => hlt0 x (by simp [hx])
  refine post_same (pa := p) (pv := []) hW0 ?_ ?_ ?_ rfl (hb.frame _) (fun b off ha => ?_) (ok_one hres rfl (okWide_bool_mk htb _))
  · intro b sp hd
    rw [List.append_nil, hspec, hres]
    exact ⟨[], [], shut_bool htb _, rfl, rfl⟩
  · intro sp hsp
    rw [List.append_nil, hspec]
    exact stay_args hl hb _ _ _ _ (fun t ht => (hin' t ht).2) hA hlt (fun x hx => hsp x (by simp [hx]))
  · intro sp hsp
    rw [List.append_nil, hspec, hvars]
    rfl
  · exact hb.frozen (hlt0 _ ha)
end
end Go.Vm
