/- The operations that only yield a value. -/
import Derived.Test.YtglnokfcjnnepaaDoorBVmState
namespace Go.Vm
open Go Go.RowKit

def okT (P : Program) (t : TypeId) : Bool := (P.underlying t).isSome && (P.info? t).isSome

/-- What a variable of a type holds that begins at a cell of a row. -/
def loadD (P : Program) (T : TypeId) (row : List D) (off : Nat) : Option D :=
  if okT P T then
    if isAggT P T then
      if ((row.drop off).take (szOf P T)).length = szOf P T then some (.agg ((row.drop off).take (szOf P T))) else none
    else row[off]?
  else none

theorem okT_parts {P : Program} {t : TypeId} (h : okT P t = true) : ∃ d i, P.underlying t = some d ∧ P.info? t = some i := by
  simp only [okT, Bool.and_eq_true] at h
  obtain ⟨d, hd⟩ := Option.isSome_iff_exists.1 h.1
  obtain ⟨i, hi⟩ := Option.isSome_iff_exists.1 h.2
  exact ⟨d, i, hd, hi⟩

/-- Loads from cells that hold a row's values. -/
theorem loadD_run {P : Program} {g : G} {T : TypeId} {row : List D} {off : Nat} {x : D} (h : loadD P T row off = some x) {b o : Nat} {vs : List Value}
    (hl : CRL g row vs) (hc : Holds g b o vs) (h1 : ∀ u ∈ vs, u.oneCell' = true) :
    ∃ v, (loadVar T ⟨b, o + off, none⟩).run P g.w = .ok v g.w ∧ CR g x v := by
  unfold loadD at h
  split at h
  · rename_i hok
    obtain ⟨d, i, hd, hi⟩ := okT_parts hok
    split at h
    · rename_i hagg
      split at h
      · rename_i hlen
        simp only [Option.some.injEq] at h
        subst h
        have hcl := (hl.drop off).take (szOf P T)
        have hlv : ((vs.drop off).take (szOf P T)).length = szOf P T := by rw [← hcl.length]; exact hlen
        refine ⟨.agg ⟨(vs.drop off).take (szOf P T)⟩, ?_, .agg _ _ (fun u hu => h1 u (List.mem_of_mem_drop (List.mem_of_mem_take hu))) hcl⟩
        have hr := run_loadCells_list (P := P) g.w ⟨b, o + off, none⟩ ((vs.drop off).take (szOf P T)) (fun j v hv => by
          rw [addr_add, show o + off + j = o + (off + j) from by omega]
          rw [List.getElem?_take] at hv
          split at hv
          · rw [List.getElem?_drop] at hv
            exact hc (off + j) v hv
          · cases hv)
        rw [hlv] at hr
        simp only [loadVar, Sem.run_bind, run_isAgg hd, Result.andThen_ok, hagg, if_true, run_sizeOf hi, hr, Sem.run_pure]
      · cases h
    · rename_i hagg
      obtain ⟨v, hv, hr⟩ := hl.get off x h
      refine ⟨v, ?_, hr⟩
      have := hc off v hv
      simp only [loadVar, Sem.run_bind, run_isAgg hd, Result.andThen_ok, hagg]
      simp [run_load, this]
  · cases h

/-- Parts of a row that is at hand. -/
theorem loadD_part {P : Program} {g : G} {T : TypeId} {row : List D} {off : Nat} {x : D} (h : loadD P T row off = some x) {vs : List Value}
    (hl : CRL g row vs) (h1 : ∀ u ∈ vs, u.oneCell' = true) :
    ∃ v, (part T ⟨vs⟩ off).run P g.w = .ok v g.w ∧ CR g x v := by
  unfold loadD at h
  split at h
  · rename_i hok
    obtain ⟨d, i, hd, hi⟩ := okT_parts hok
    split at h
    · rename_i hagg
      split at h
      · rename_i hlen
        simp only [Option.some.injEq] at h
        subst h
        have hcl := (hl.drop off).take (szOf P T)
        refine ⟨.agg ⟨(vs.drop off).take (szOf P T)⟩, ?_, .agg _ _ (fun u hu => h1 u (List.mem_of_mem_drop (List.mem_of_mem_take hu))) hcl⟩
        simp only [part, Sem.run_bind, run_isAgg hd, Result.andThen_ok, hagg, if_true, run_sizeOf hi, Sem.run_pure]
        congr 2
        simp [List.extract_eq_take_drop, Nat.add_sub_cancel_left]
      · cases h
    · rename_i hagg
      obtain ⟨v, hv, hr⟩ := hl.get off x h
      refine ⟨v, ?_, hr⟩
      simp only [part, Sem.run_bind, run_isAgg hd, Result.andThen_ok, hagg]
      simp [hv]
  · cases h

def asI : SV → Option (IntKind × Int)
  | .d (.sc (.int k i)) => some (k, i)
  | _ => none

def fieldOf (P : Program) (s : TypeId) (f : Nat) : Option Field :=
  match P.underlying s with
  | some (.struct fields) => fields[f]?
  | _ => none

def fieldAddrE (P : Program) (s : TypeId) (f : Nat) (x : SV) : Option SV :=
  match fieldOf P s f with
  | some fd =>
    if (P.info? fd.type).isSome && !(szOf P fd.type == 0) then
      match x with
      | .ptr id i off => some (.ptr id i (off + fd.offset))
      | .rp rows i off => some (.rp rows i (off + fd.offset))
      | _ => none
    else none
  | none => none

theorem fieldAddrE_run {P : Program} {g : G} {σ : List Blk} {q : Gh} {s : TypeId} {f : Nat} {x y : SV} {v : Value} (hx : SR g σ q x v) (h : fieldAddrE P s f x = some y) :
    ∃ u, (Instr.fieldAt s v f).run P g.w = .ok u g.w ∧ SR g σ q y u := by
  unfold fieldAddrE fieldOf at h
  split at h
  · rename_i fd hfd
    split at hfd
    · rename_i fields hu
      split at h
      · rename_i hok
        simp only [Bool.and_eq_true, Bool.not_eq_true', beq_eq_false_iff_ne] at hok
        obtain ⟨i0, hi⟩ := Option.isSome_iff_exists.1 hok.1
        have key : ∀ b o, (Instr.fieldAt s (.pointer (some ⟨b, o, none⟩)) f).run P g.w = .ok (.pointer (some ⟨b, o + fd.offset, none⟩)) g.w := by
          intro b o
          simp only [Instr.fieldAt, Sem.run_bind, run_underlying hu, Result.andThen_ok, hfd, Instr.sureAddr, Sem.run_pure, fieldPlace, run_sizeOf hi, hok.2, if_false, addr_add]
        split at h
        · simp only [Option.some.injEq] at h
          subst h
          obtain ⟨b, hb, rfl⟩ := hx
          exact ⟨_, key _ _, b, hb, by rw [Nat.add_assoc]⟩
        · simp only [Option.some.injEq] at h
          subst h
          obtain ⟨b, o, sz, hc, rfl⟩ := hx
          exact ⟨_, key _ _, b, o, sz, hc, by rw [Nat.add_assoc]⟩
        · cases h
      · cases h
    · cases hfd
  · cases h

def sliceElem (P : Program) (T : TypeId) : Option TypeId := match P.underlying T with
  | some (.slice e) => some e
  | _ => none
theorem sliceElem_eq {P : Program} {T e : TypeId} (h : sliceElem P T = some e) : P.underlying T = some (.slice e) := by
  unfold sliceElem at h
  split at h
  · simp only [Option.some.injEq] at h; subst h; assumption
  · cases h

/-- The rows of a slice. -/
def rowsOf : SV → Option (List (List D))
  | .d (.sl rows) => some rows
  | .d .nil => some []
  | .gl _ _ rows => some rows
  | _ => none

theorem rowsOf_sound {P : Program} {Z : GTab} {B : Nat} {fr : List SV} {σ : List Blk} {g : G} {q : Gh} {a : Act} (hI : Inv P Z B fr σ g q a) {s : SV} {v : Value} {rows : List (List D)}
    (hs : SR g σ q s v) (h : rowsOf s = some rows) : CR g (.sl rows) v := by
  cases s with
  | d x =>
    cases x with
    | sl r => simp only [rowsOf, Option.some.injEq] at h; subst h; exact hs
    | nil =>
      simp only [rowsOf, Option.some.injEq] at h
      subst h
      cases hs
      exact .sl0 _ _
    | _ => cases h
  | gl k T r =>
    simp only [rowsOf, Option.some.injEq] at h
    subst h
    obtain ⟨rfl, hk⟩ := hs
    exact (hI.tag k T r hk).crr
  | _ => cases h

def indexAddrE (P : Program) (σ : List Blk) (T : TypeId) (x ix : SV) : Option SV :=
  match asI ix, sliceElem P T with
  | some (_, i), some e =>
    if 0 ≤ i ∧ (P.info? e).isSome = true then
      match x with
      | .arr id off n => match σ[id]? with
        | some b => if i < n ∧ b.sz = szOf P e then some (.ptr id (off + i.toNat) 0) else none
        | none => none
      | x => match rowsOf x with
        | some rows => match rows[i.toNat]? with
          | some r => if r.length = szOf P e then some (.rp rows i.toNat 0) else none
          | none => none
        | none => none
    else none
  | some (_, i), none => match P.underlying T with
    | some (.array n e) =>
      if 0 ≤ i ∧ i < n ∧ (P.info? e).isSome = true then
        match x with
        | .ptr id j off => some (.ptr id j (off + i.toNat * szOf P e))
        | .rp rows j off => some (.rp rows j (off + i.toNat * szOf P e))
        | _ => none
      else none
    | _ => none
  | _, _ => none

theorem asI_sound {g : G} {σ : List Blk} {q : Gh} {s : SV} {v : Value} {k : IntKind} {i : Int} (hs : SR g σ q s v) (h : asI s = some (k, i)) : v = .int k i := by
  unfold asI at h
  split at h
  · simp only [Option.some.injEq, Prod.mk.injEq] at h
    obtain ⟨rfl, rfl⟩ := h
    cases hs
    rfl
  · cases h

theorem indexAddrE_run {P : Program} {Z : GTab} {B : Nat} {fr : List SV} {σ : List Blk} {g : G} {q : Gh} {a : Act} (hI : Inv P Z B fr σ g q a) {T : TypeId} {x ix y : SV} {v u : Value}
    (hx : SR g σ q x v) (hix : SR g σ q ix u)
    (h : indexAddrE P σ T x ix = some y) :
    ∃ r, (Instr.indexAt T v u).run P g.w = .ok r g.w ∧ SR g σ q y r := by
  unfold indexAddrE at h
  split at h
  · rename_i k i e hi he
    obtain rfl := asI_sound hix hi
    have hT := sliceElem_eq he
    split at h
    · rename_i hok
      obtain ⟨i0, hinfo⟩ := Option.isSome_iff_exists.1 hok.2
      have h0 := hok.1
      have key : ∀ b o n c, i < (n : Nat) → (Instr.indexAt T (.slice (some ⟨b, o, none⟩) n c) (.int k i)).run P g.w = .ok (.pointer (some ⟨b, o + i.toNat * szOf P e, none⟩)) g.w := by
        intro b o n c hlt
        simp only [Instr.indexAt, asIntOf, Sem.run_bind, Sem.run_pure, Result.andThen_ok, run_underlying hT, h0, hlt, and_self, if_true, run_sizeOf hinfo, addr_add]
      have key2 : ∀ rows, rowsOf x = some rows → (match rows[i.toNat]? with | some r => if r.length = szOf P e then some (.rp rows i.toNat 0) else none | none => none) = some y →
          ∃ r, (Instr.indexAt T v (.int k i)).run P g.w = .ok r g.w ∧ SR g σ q y r := by
        intro rows hr h
        split at h
        · rename_i r hrow
          split at h
          · rename_i hlen
            simp only [Option.some.injEq] at h
            subst h
            have hc := rowsOf_sound hI hx hr
            have hlt : i.toNat < rows.length := by
              by_cases hlt : i.toNat < rows.length
              · exact hlt
              · rw [List.getElem?_eq_none (by omega)] at hrow; cases hrow
            cases hc with
            | sl0 => simp at hlt
            | sl b o c sz _ hcap hcr =>
              obtain ⟨_, hl⟩ := hcr.row _ _ hrow
              refine ⟨_, key _ _ _ _ (by omega), b, o, sz, hcr, ?_⟩
              rw [← hlen, hl, Nat.add_zero]
          · cases h
        · cases h
      cases x with
      | arr id off n =>
        obtain ⟨b, c, hb, hc, rfl⟩ := hx
        simp only [hb] at h
        split at h
        · rename_i hlt
          simp only [Option.some.injEq] at h
          subst h
          refine ⟨_, key _ _ _ _ hlt.1, b, hb, ?_⟩
          rw [← hlt.2, Nat.add_mul, Nat.add_zero]
        · cases h
      | d x => cases x with
        | sl rows => exact key2 rows rfl h
        | nil => exact key2 [] rfl h
        | _ => simp [rowsOf] at h
      | gl k T rows => exact key2 rows rfl h
      | _ => simp [rowsOf] at h
    · cases h
  · rename_i k i hi hn
    obtain rfl := asI_sound hix hi
    split at h
    · rename_i n e hT
      split at h
      · rename_i hok
        obtain ⟨h0, hlt, hinfo⟩ := hok
        obtain ⟨i0, hinfo⟩ := Option.isSome_iff_exists.1 hinfo
        have key : ∀ b o, (Instr.indexAt T (.pointer (some ⟨b, o, none⟩)) (.int k i)).run P g.w = .ok (.pointer (some ⟨b, o + i.toNat * szOf P e, none⟩)) g.w := by
          intro b o
          simp only [Instr.indexAt, asIntOf, Instr.sureAddr, Sem.run_bind, Sem.run_pure, Result.andThen_ok, run_underlying hT, h0, hlt, and_self, if_true, run_sizeOf hinfo, addr_add]
        split at h
        · simp only [Option.some.injEq] at h
          subst h
          obtain ⟨b, hb, rfl⟩ := hx
          exact ⟨_, key _ _, b, hb, by rw [Nat.add_assoc]⟩
        · simp only [Option.some.injEq] at h
          subst h
          obtain ⟨b, o, sz, hc, rfl⟩ := hx
          exact ⟨_, key _ _, b, o, sz, hc, by rw [Nat.add_assoc]⟩
        · cases h
      · cases h
    · cases h
  · cases h

/-- 'x.f' of a struct that is at hand. -/
def fieldE (P : Program) (T : TypeId) (f : Nat) (x : SV) : Option D :=
  match fieldOf P T f, x with
  | some fd, .d (.agg cs) => loadD P fd.type cs fd.offset
  | _, _ => none
theorem fieldE_run {P : Program} {g : G} {σ : List Blk} {q : Gh} {T : TypeId} {f : Nat} {x : SV} {y : D} {v : Value} (hx : SR g σ q x v) (h : fieldE P T f x = some y) :
    ∃ u, (Instr.field T v f).run P g.w = .ok u g.w ∧ CR g y u := by
  unfold fieldE fieldOf at h
  split at h
  · rename_i _ fd cs hfd
    split at hfd
    · rename_i fields hu
      cases hx with
      | agg _ vs h1 hl =>
        obtain ⟨u, hr, hc⟩ := loadD_part h hl h1
        exact ⟨u, by simp only [Instr.field, Sem.run_bind, run_underlying hu, Result.andThen_ok, hfd, asAgg, Sem.run_pure, hr], hc⟩
    · cases hfd
  · cases h

def extractE (i : Nat) (x : SV) : Option SV :=
  match x with
  | .d (.tup xs) => (xs[i]?).map .d
  | .tupr xs => xs[i]?
  | _ => none
theorem extractE_run {P : Program} {g : G} {σ : List Blk} {q : Gh} {i : Nat} {x : SV} {y : SV} {v : Value} (hx : SR g σ q x v) (h : extractE i x = some y) :
    ∃ u, (Instr.extract v i).run P g.w = .ok u g.w ∧ SR g σ q y u := by
  unfold extractE at h
  split at h
  · obtain ⟨d, hd, rfl⟩ := Option.map_eq_some_iff.1 h
    cases hx with
    | tup _ vs hl =>
      obtain ⟨u, hu, hc⟩ := hl.get i d hd
      exact ⟨u, by simp [Instr.extract, hu], hc⟩
  · obtain ⟨vs, hl, rfl⟩ := hx
    obtain ⟨u, hu, hc⟩ := hl.get i y h
    exact ⟨u, by simp [Instr.extract, hu], hc⟩
  · cases h

/-- The cells of a datum. -/
def cellsD : D → Option (List D)
  | .agg cs => some cs
  | .tup _ => none
  | x => some [x]
theorem cellsD_sound {g : G} {x : D} {v : Value} {cs : List D} (hx : CR g x v) (h : cellsD x = some cs) : CRL g cs v.cells.toList ∧ ∀ u ∈ v.cells.toList, u.oneCell' = true := by
  cases hx with
  | sc _ hf =>
    simp only [cellsD, Option.some.injEq] at h
    subst h
    cases v <;> simp_all [flat, Value.cells, Value.oneCell'] <;> exact .cons _ _ _ _ (.sc _ (by simp_all [flat])) .nil
  | agg _ vs h1 hl => simp only [cellsD, Option.some.injEq] at h; subst h; exact ⟨hl, h1⟩
  | tup => cases h
  | nil => simp only [cellsD, Option.some.injEq] at h; subst h; exact ⟨.cons _ _ _ _ .nil .nil, by simp [Value.cells, Value.oneCell']⟩
  | sl0 b c => simp only [cellsD, Option.some.injEq] at h; subst h; exact ⟨.cons _ _ _ _ (.sl0 b c) .nil, by simp [Value.cells, Value.oneCell']⟩
  | sl b o c sz rows hc hr => simp only [cellsD, Option.some.injEq] at h; subst h; exact ⟨.cons _ _ _ _ (.sl b o c sz rows hc hr) .nil, by simp [Value.cells, Value.oneCell']⟩
  | fn f xs ys vs us hh k => simp only [cellsD, Option.some.injEq] at h; subst h; exact ⟨.cons _ _ _ _ (.fn f xs ys vs us hh k) .nil, by simp [Value.cells, Value.oneCell']⟩

/-- Cells laid over a row from a place on. -/
def over (row cs : List D) (off : Nat) : List D := row.take off ++ cs ++ row.drop (off + cs.length)

theorem fold_over (vs : List Value) : ∀ (l : List Value) (off : Nat) (acc : Array Value), off + l.length ≤ acc.size →
    ((l.zipIdx off).foldl (fun (cs : Array Value) (x : Value × Nat) => cs.setIfInBounds x.2 x.1) acc).toList = acc.toList.take off ++ l ++ acc.toList.drop (off + l.length)
  | [], off, acc, h => by simp
  | v :: l, off, acc, h => by
    simp only [List.zipIdx_cons, List.foldl_cons]
    rw [fold_over vs l (off + 1) _ (by simp only [List.length_cons] at h; simp; omega)]
    simp only [List.length_cons] at h
    have hlt : off < acc.toList.length := by simp; omega
    simp only [Array.toList_setIfInBounds, List.length_cons]
    rw [List.set_eq_take_append_cons_drop, if_pos hlt]
    have e1 : (acc.toList.take off ++ v :: acc.toList.drop (off + 1)).take (off + 1) = acc.toList.take off ++ [v] := by
      rw [List.take_append, List.length_take, Nat.min_eq_left (by omega), Nat.add_sub_cancel_left]
      simp [List.take_take]
    have e2 : (acc.toList.take off ++ v :: acc.toList.drop (off + 1)).drop (off + 1 + l.length) = acc.toList.drop (off + (l.length + 1)) := by
      rw [List.drop_append, List.length_take, Nat.min_eq_left (by omega)]
      rw [List.drop_eq_nil_of_le (by simp; omega), show off + 1 + l.length - off = l.length + 1 from by omega]
      simp only [List.nil_append, List.drop_succ_cons, List.drop_drop]
      congr 1; omega
    rw [e1, e2]
    simp

theorem over_sound {g : G} {row cs : List D} {vs us : List Value} (h : CRL g row vs) (k : CRL g cs us) (off : Nat) :
    CRL g (over row cs off) (vs.take off ++ us ++ vs.drop (off + us.length)) := by
  unfold over
  rw [k.length]
  exact ((h.take off).append k).append (h.drop _)

/-- 'T{..}': the parts laid over the zero's cells. -/
def fillE (place : Nat → Option (Nat × Nat)) : List D → List (Nat × SV) → Option (List D)
  | cells, [] => some cells
  | cells, (i, x) :: rest =>
    match place i, datum x with
    | some (off, sz), some x =>
      match cellsD x with
      | some cs => if cs.length = sz ∧ off + cs.length ≤ cells.length then fillE place (over cells cs off) rest else none
      | none => none
    | _, _ => none

theorem fillE_run {P : Program} {Z : GTab} {B : Nat} {fr : List SV} {σ : List Blk} {g : G} {q : Gh} {a : Act} (hI : Inv P Z B fr σ g q a) (place : Nat → Option (Nat × Nat)) :
    ∀ (parts : List (Nat × SV)) (vparts : List (Nat × Value)) (cells out : List D) (vcells : Array Value),
      (∀ (j : Nat) (p : Nat × SV), parts[j]? = some p → ∃ v, vparts[j]? = some (p.1, v) ∧ SR g σ q p.2 v) → parts.length = vparts.length →
      CRL g cells vcells.toList → (∀ u ∈ vcells.toList, u.oneCell' = true) → fillE place cells parts = some out →
      ∃ vout, Instr.fill place vcells vparts = some vout ∧ CRL g out vout.toList ∧ ∀ u ∈ vout.toList, u.oneCell' = true
  | [], vparts, cells, out, vcells, _, hlen, hc, h1, h => by
    obtain rfl : vparts = [] := List.eq_nil_of_length_eq_zero (by simpa using hlen.symm)
    simp only [fillE, Option.some.injEq] at h
    subst h
    exact ⟨vcells, rfl, hc, h1⟩
  | (i, x) :: parts, vparts, cells, out, vcells, hp, hlen, hc, h1, h => by
    obtain ⟨v, hv, hx⟩ := hp 0 (i, x) rfl
    cases vparts with
    | nil => simp at hv
    | cons p vparts =>
      simp only [List.getElem?_cons_zero, Option.some.injEq] at hv
      subst hv
      simp only [fillE] at h
      split at h
      · rename_i off sz d hpl hd
        split at h
        · rename_i cs hcs
          split at h
          · rename_i hok
            have hdv := datum_sound hI hx hd
            obtain ⟨k1, k2⟩ := cellsD_sound hdv hcs
            have hl := k1.length
            have hcl := hc.length
            have hsz : v.cells.size = sz := by rw [← hok.1, hl]; simp
            have hfold := fold_over v.cells.toList v.cells.toList off vcells (by simp at hl hcl ⊢; omega)
            have hz : v.cells.zipIdx.foldl (fun (cs : Array Value) (x : Value × Nat) => cs.setIfInBounds (off + x.2) x.1) vcells =
                (v.cells.toList.zipIdx off).foldl (fun (cs : Array Value) (x : Value × Nat) => cs.setIfInBounds x.2 x.1) vcells := by
              rw [← Array.foldl_toList, Array.toList_zipIdx, List.zipIdx_eq_map_add (i := off), List.foldl_map]
            have hover := over_sound hc k1 off
            rw [← hfold] at hover
            obtain ⟨vout, e1, e2, e3⟩ := fillE_run hI place parts vparts (over cells cs off) out _
              (fun j p hj => by simpa using hp (j + 1) p (by simpa using hj)) (by simpa using hlen) hover
              (fun u hu => by
                rw [hfold] at hu
                simp only [List.mem_append] at hu
                rcases hu with (hu | hu) | hu
                · exact h1 u (List.mem_of_mem_take hu)
                · exact k2 u hu
                · exact h1 u (List.mem_of_mem_drop hu)) h
            refine ⟨vout, ?_, e2, e3⟩
            simp only [Instr.fill, hpl]
            rw [if_neg (by simp at hl hcl; simp [hsz]; omega), hz]
            exact e1
          · cases h
        · cases h
      · cases h
end Go.Vm
