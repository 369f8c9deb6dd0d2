/- All operations that only yield a value. -/
import Derived.Test.YtglnokfcjnnepaaDoorBVmVal2
namespace Go.Vm
open Go Go.RowKit

def pickSV (c : Bool) : SV → SV → SV
  | .d (.sc (.bool x)), .d (.sc (.bool y)) => .d (.sc (.bool (bif c then x else y)))
  | x, y => bif c then x else y

theorem pickSV_sound {g : G} {σ : List Blk} {q : Gh} {c : Bool} {x y : SV} {v u : Value} (hx : SR g σ q x v) (hy : SR g σ q y u) :
    SR g σ q (pickSV c x y) (if c then v else u) := by
  unfold pickSV
  split
  · cases hx; cases hy; cases c <;> exact .sc _ rfl
  · cases c
    · exact hy
    · exact hx

/-- An operation on values without addresses, run by the model's own text. -/
def flat2 (P : Program) (op : BinOp) (t : TypeId) (x y : Operand) (a b : SV) : Option D :=
  match valOf a, valOf b with
  | some u, some v => (eval0 P (do eqGuard op t x y u v; binOp op t u v)).bind ofVF
  | _, _ => none
def flat1 (P : Program) (f : Value → Sem Value) (a : SV) : Option D :=
  match valOf a with
  | some u => (eval0 P (f u)).bind ofVF
  | none => none
def flatL : List SV → Option (List Value)
  | [] => some []
  | s :: l => match valOf s, flatL l with
    | some v, some vs => some (v :: vs)
    | _, _ => none

/-- What is no nil: a slice, a pointer, a function. -/
def nonNil : SV → Option Nat
  | .d (.sl (_ :: _)) | .gl _ _ (_ :: _) | .arr _ _ (_ + 1) => some 0
  | .ptr .. | .rp .. => some 1
  | .d (.fn ..) | .clo .. => some 2
  | _ => none
def nilOf : SV → Option Nat
  | .d .nil => some 0
  | .d (.sc (.pointer none)) => some 1
  | .d (.sc .nilFunc) => some 2
  | _ => none
def typeKind (P : Program) (t : TypeId) : Option Nat := match P.underlying t with
  | some (.slice _) => some 0
  | some (.pointer _) => some 1
  | some (.func ..) => some 2
  | _ => none
/-- A comparison with nil. -/
def nilCmp (P : Program) (op : BinOp) (t : TypeId) (a b : SV) : Option D :=
  match nonNil a, nilOf b with
  | some k, some k' => if k = k' ∧ typeKind P t = some k then
      match op with
      | .eql => some (.sc (.bool false))
      | .neq => some (.sc (.bool true))
      | _ => none
    else none
  | _, _ => none
def bin2 (P : Program) (op : BinOp) (t : TypeId) (x y : Operand) (a b : SV) : Option D :=
  match nilCmp P op t a b with
  | some r => some r
  | none => flat2 P op t x y a b

theorem flat2_run {P : Program} {g : G} {σ : List Blk} {q : Gh} {op : BinOp} {t : TypeId} {x y : Operand} {a b : SV} {u v : Value} {d : D}
    (ha : SR g σ q a u) (hb : SR g σ q b v) (h : flat2 P op t x y a b = some d) :
    ∃ r, (do eqGuard op t x y u v; binOp op t u v : Sem Value).run P g.w = .ok r g.w ∧ CR g d r := by
  unfold flat2 at h
  split at h
  · rename_i u' v' h1 h2
    obtain rfl := valOf_sound ha h1
    obtain rfl := valOf_sound hb h2
    obtain ⟨r, hr, hd⟩ := Option.bind_eq_some_iff.1 h
    exact ⟨r, eval0_run P g.w _ r hr, CR.ofVF g r d hd⟩
  · cases h

theorem flat1_run {P : Program} {g : G} {σ : List Blk} {q : Gh} {f : Value → Sem Value} {a : SV} {u : Value} {d : D}
    (ha : SR g σ q a u) (h : flat1 P f a = some d) : ∃ r, (f u).run P g.w = .ok r g.w ∧ CR g d r := by
  unfold flat1 at h
  split at h
  · rename_i u' h1
    obtain rfl := valOf_sound ha h1
    obtain ⟨r, hr, hd⟩ := Option.bind_eq_some_iff.1 h
    exact ⟨r, eval0_run P g.w _ r hr, CR.ofVF g r d hd⟩
  · cases h

def optE (Z : GTab) (fr : List SV) : Option Operand → Option (Option SV)
  | none => some none
  | some x => (opnd Z fr x).map some

def opndL (Z : GTab) (fr : List SV) : List Operand → Option (List SV)
  | [] => some []
  | x :: l => match opnd Z fr x, opndL Z fr l with
    | some s, some ss => some (s :: ss)
    | _, _ => none

def partsE (Z : GTab) (fr : List SV) : List (Nat × Operand) → Option (List (Nat × SV))
  | [] => some []
  | (i, x) :: l => match opnd Z fr x, partsE Z fr l with
    | some s, some ss => some ((i, s) :: ss)
    | _, _ => none

def datumL : List SV → Option (List D)
  | [] => some []
  | s :: l => match datum s, datumL l with
    | some x, some xs => some (x :: xs)
    | _, _ => none

/-- What a box's cells hold that a type's variable has there. -/
def loadB (P : Program) (T : TypeId) (cells : List SV) (off : Nat) : Option SV :=
  if okT P T then
    if isAggT P T then
      match datumL ((cells.drop off).take (szOf P T)) with
      | some ds => if ds.length = szOf P T then some (.d (.agg ds)) else none
      | none => none
    else cells[off]?
  else none

def noGl : SV → SV
  | .gl _ _ rows => .d (.sl rows)
  | x => x

def lenE (P : Program) (T : TypeId) (x : SV) : Option D :=
  match sliceElem P T with
  | some _ => match x with
    | .arr _ _ n => some (.sc (.int .i64 n))
    | x => (rowsOf x).map fun rows => .sc (.int .i64 rows.length)
  | none => match valOf x with
    | some (.string s) => match P.underlying T with
      | some .string => some (.sc (.int .i64 s.size))
      | _ => none
    | _ => none

/-- Two integers, the lesser or the greater. -/
def min2E (x y : SV) (gt : Bool) : Option D :=
  match asI x, asI y with
  | some (k, a), some (_, b) => some (.sc (.int k (if gt then (if b > a then b else a) else (if b < a then b else a))))
  | _, _ => none

def valOp (P : Program) (Z : GTab) (o : Oper) (fr : List SV) (σ : List Blk) : Option SV :=
  match o.op with
  | .move x | .assign x => opnd Z fr x
  | .pick c x y => match opnd Z fr c, opnd Z fr x, opnd Z fr y with
    | some (.d (.sc (.bool b))), some s, some t => some (pickSV b s t)
    | _, _, _ => none
  | .binOp op t x y _ => match opnd Z fr x, opnd Z fr y with
    | some a, some b => (bin2 P op t x y a b).map .d
    | _, _ => none
  | .unOp op _ x => (opnd Z fr x).bind fun a => (flat1 P (Op.unary op) a).map .d
  | .convert s t x => (opnd Z fr x).bind fun a => (flat1 P (convert s t) a).map .d
  | .load T x => match opnd Z fr x with
    | some (.rp rows i off) => match rows[i]? with
      | some row => (loadD P T row off).map .d
      | none => none
    | some (.ptr id i off) => match σ[id]? with
      | some (.arr _ _ rows) => match rows[i]? with
        | some row => (loadD P T row off).map .d
        | none => none
      | some (.box _ cells) => if i = 0 then loadB P T cells off else none
      | none => none
    | _ => none
  | .fieldAddr s x f => (opnd Z fr x).bind (fieldAddrE P s f)
  | .indexAddr T x ix => match opnd Z fr x, opnd Z fr ix with
    | some a, some i => indexAddrE P σ T a i
    | _, _ => none
  | .field T x f => (opnd Z fr x).bind fun a => (fieldE P T f a).map .d
  | .index T x ix => match opnd Z fr x, opnd Z fr ix with
    | some a, some i => match valOf a, valOf i with
      | some u, some v => ((eval0 P (Instr.index T u v)).bind ofVF).map .d
      | _, _ => none
    | _, _ => none
  | .extract x i => (opnd Z fr x).bind (extractE i)
  | .build T parts => match partsE Z fr parts.toList with
    | some ps => (buildE P T ps).map .d
    | none => none
  | .slice T x lo hi none => match opnd Z fr x, optE Z fr lo, optE Z fr hi with
    | some a, some l, some h =>
      match P.underlying T with
      | some .string => match valOf a, (match l with | none => some none | some s => (valOf s).map some), (match h with | none => some none | some s => (valOf s).map some) with
        | some u, some l, some h => ((eval0 P (Instr.sliceAt T u l h none)).bind ofVF).map .d
        | _, _, _ => none
      | _ => (sliceE P T a l h).map .d
    | _, _, _ => none
  | .nilCheck x => (opnd Z fr x).bind fun a => match nonNil a with
    | some 1 | some 2 => some a
    | _ => none
  | .makeFunc (.func f) first cap => match opndL Z fr first.toList, opndL Z fr cap.toList with
    | some ss, some ts => match datumL ss, datumL ts with
      | some xs, some ys => some (.d (.fn f xs ys))
      | _, _ => some (.clo f (ss.map noGl) (ts.map noGl))
    | _, _ => none
  | .call { callee := .builtin .len, args := ⟨[x]⟩, argTypes := ⟨[T]⟩ } => (opnd Z fr x).bind fun a => (lenE P T a).map .d
  | .call { callee := .builtin .min, args := ⟨[x, y]⟩, .. } => match opnd Z fr x, opnd Z fr y with
    | some a, some b => (min2E a b false).map .d
    | _, _ => none
  | .call { callee := .builtin .max, args := ⟨[x, y]⟩, .. } => match opnd Z fr x, opnd Z fr y with
    | some a, some b => (min2E a b true).map .d
    | _, _ => none
  | _ => none

theorem opndL_sound {P : Program} {Z : GTab} {B : Nat} {fr : List SV} {σ : List Blk} {g : G} {q : Gh} {a : Act} (hI : Inv P Z B fr σ g q a) :
    ∀ {l : List Operand} {ss : List SV}, opndL Z fr l = some ss → ∀ (j : Nat) (s : SV), ss[j]? = some s → ∃ x, l[j]? = some x ∧ SR g σ q s (a.eval x)
  | [], ss, h, j, s, hj => by simp only [opndL, Option.some.injEq] at h; subst h; simp at hj
  | x :: l, ss, h, j, s, hj => by
    simp only [opndL] at h
    split at h
    · rename_i s0 ss0 h1 h2
      simp only [Option.some.injEq] at h
      subst h
      cases j with
      | zero => simp only [List.getElem?_cons_zero, Option.some.injEq] at hj; subst hj; exact ⟨x, rfl, opnd_sound hI h1⟩
      | succ j => simpa using opndL_sound hI h2 j s (by simpa using hj)
    · cases h

theorem opndL_len {Z : GTab} {fr : List SV} : ∀ {l : List Operand} {ss : List SV}, opndL Z fr l = some ss → ss.length = l.length
  | [], ss, h => by simp only [opndL, Option.some.injEq] at h; subst h; rfl
  | x :: l, ss, h => by
    simp only [opndL] at h
    split at h
    · rename_i s0 ss0 h1 h2
      simp only [Option.some.injEq] at h
      subst h
      simp [opndL_len h2]
    · cases h

theorem noGl_sound {P : Program} {Z : GTab} {B : Nat} {fr : List SV} {σ : List Blk} {g : G} {q : Gh} {a : Act} (hI : Inv P Z B fr σ g q a) {s : SV} {v : Value} (h : SR g σ q s v) : SR g σ q (noGl s) v := by
  cases s with
  | gl k T rows =>
    obtain ⟨rfl, hk⟩ := h
    exact (hI.tag k T rows hk).crr
  | _ => exact h

theorem opndL_srl {P : Program} {Z : GTab} {B : Nat} {fr : List SV} {σ : List Blk} {g : G} {q : Gh} {a : Act} (hI : Inv P Z B fr σ g q a) :
    ∀ {l : List Operand} {ss : List SV}, opndL Z fr l = some ss → SRL g σ q ss (l.map a.eval) ∧ SRL g σ q (ss.map noGl) (l.map a.eval)
  | [], ss, h => by simp only [opndL, Option.some.injEq] at h; subst h; exact ⟨rfl, rfl⟩
  | x :: l, ss, h => by
    simp only [opndL] at h
    split at h
    · rename_i s0 ss0 h1 h2
      simp only [Option.some.injEq] at h
      subst h
      obtain ⟨k1, k2⟩ := opndL_srl hI h2
      have := opnd_sound hI h1
      exact ⟨⟨_, _, this, k1, rfl⟩, ⟨_, _, noGl_sound hI this, k2, rfl⟩⟩
    · cases h

/-- Slots that are data. -/
theorem datumL_srl {P : Program} {Z : GTab} {B : Nat} {fr : List SV} {σ : List Blk} {g : G} {q : Gh} {a : Act} (hI : Inv P Z B fr σ g q a) :
    ∀ {ss : List SV} {vs : List Value} {xs : List D}, SRL g σ q ss vs → datumL ss = some xs → CRL g xs vs
  | [], vs, xs, h, k => by
    simp only [SRL] at h
    subst h
    simp only [datumL, Option.some.injEq] at k
    subst k
    exact .nil
  | s :: ss, vs, xs, ⟨v, us, h1, h2, e⟩, k => by
    subst e
    simp only [datumL] at k
    split at k
    · rename_i y ys h3 h4
      simp only [Option.some.injEq] at k
      subst k
      exact .cons _ _ _ _ (datum_sound hI h1 h3) (datumL_srl hI h2 h4)
    · cases k

theorem loadB_run {P : Program} {Z : GTab} {B : Nat} {fr : List SV} {σ : List Blk} {g : G} {q : Gh} {a : Act} (hI : Inv P Z B fr σ g q a) {T : TypeId} {cells : List SV} {off : Nat} {x : SV}
    (h : loadB P T cells off = some x) {b o : Nat} {vs : List Value} (hl : SRL g σ q cells vs) (hc : Holds g b o vs) (h1 : ∀ u ∈ vs, u.oneCell' = true) :
    ∃ v, (loadVar T ⟨b, o + off, none⟩).run P g.w = .ok v g.w ∧ SR g σ q x v := by
  unfold loadB at h
  split at h
  · rename_i hok
    obtain ⟨d, i, hd, hi⟩ := okT_parts hok
    split at h
    · rename_i hagg
      split at h
      · rename_i ds hds
        split at h
        · rename_i hlen
          simp only [Option.some.injEq] at h
          subst h
          have hcl := datumL_srl hI ((hl.drop off).take (szOf P T)) hds
          have hlv : ((vs.drop off).take (szOf P T)).length = szOf P T := by rw [← hcl.length]; exact hlen
          refine ⟨.agg ⟨(vs.drop off).take (szOf P T)⟩, ?_, .agg _ _ (fun u hu => h1 u (List.mem_of_mem_drop (List.mem_of_mem_take hu))) hcl⟩
          have hr := run_loadCells_list (P := P) g.w ⟨b, o + off, none⟩ ((vs.drop off).take (szOf P T)) (fun j v hv => by
            rw [addr_add, show o + off + j = o + (off + j) from by omega]
            rw [List.getElem?_take] at hv
            split at hv
            · rw [List.getElem?_drop] at hv
              exact hc (off + j) v hv
            · cases hv)
          rw [hlv] at hr
          simp only [loadVar, Sem.run_bind, run_isAgg hd, Result.andThen_ok, hagg, if_true, run_sizeOf hi, hr, Sem.run_pure]
        · cases h
      · cases h
    · rename_i hagg
      obtain ⟨v, hv, hr⟩ := hl.get off x h
      refine ⟨v, ?_, hr⟩
      have := hc off v hv
      simp only [loadVar, Sem.run_bind, run_isAgg hd, Result.andThen_ok, hagg]
      simp [run_load, this]
  · cases h

theorem datumL_sound {P : Program} {Z : GTab} {B : Nat} {fr : List SV} {σ : List Blk} {g : G} {q : Gh} {a : Act} (hI : Inv P Z B fr σ g q a) :
    ∀ {l : List Operand} {ss : List SV} {xs : List D}, opndL Z fr l = some ss → datumL ss = some xs → CRL g xs (l.map a.eval)
  | [], ss, xs, h, k => by
    simp only [opndL, Option.some.injEq] at h
    subst h
    simp only [datumL, Option.some.injEq] at k
    subst k
    exact .nil
  | x :: l, ss, xs, h, k => by
    simp only [opndL] at h
    split at h
    · rename_i s0 ss0 h1 h2
      simp only [Option.some.injEq] at h
      subst h
      simp only [datumL] at k
      split at k
      · rename_i y ys h3 h4
        simp only [Option.some.injEq] at k
        subst k
        exact .cons _ _ _ _ (datum_sound hI (opnd_sound hI h1) h3) (datumL_sound hI h2 h4)
      · cases k
    · cases h

theorem partsE_sound {P : Program} {Z : GTab} {B : Nat} {fr : List SV} {σ : List Blk} {g : G} {q : Gh} {a : Act} (hI : Inv P Z B fr σ g q a) :
    ∀ {l : List (Nat × Operand)} {ps : List (Nat × SV)}, partsE Z fr l = some ps →
      (∀ (j : Nat) (p : Nat × SV), ps[j]? = some p → ∃ v, (l.map fun x => (x.1, a.eval x.2))[j]? = some (p.1, v) ∧ SR g σ q p.2 v) ∧ ps.length = l.length
  | [], ps, h => by simp only [partsE, Option.some.injEq] at h; subst h; exact ⟨fun j p hj => by simp at hj, rfl⟩
  | (i, x) :: l, ps, h => by
    simp only [partsE] at h
    split at h
    · rename_i s0 ss0 h1 h2
      simp only [Option.some.injEq] at h
      subst h
      obtain ⟨k1, k2⟩ := partsE_sound hI h2
      refine ⟨fun j p hj => ?_, by simp [k2]⟩
      cases j with
      | zero => simp only [List.getElem?_cons_zero, Option.some.injEq] at hj; subst hj; exact ⟨_, rfl, opnd_sound hI h1⟩
      | succ j => simpa using k1 j p (by simpa using hj)
    · cases h

theorem lenE_run {P : Program} {Z : GTab} {B : Nat} {fr : List SV} {σ : List Blk} {g : G} {q : Gh} {a : Act} (hI : Inv P Z B fr σ g q a) {T ty : TypeId} {x : SV} {v : Value} {d : D}
    (hx : SR g σ q x v) (h : lenE P T x = some d) : ∃ r, (Builtin.len_ #[T] ty #[v]).run P g.w = .ok r g.w ∧ CR g d r := by
  unfold lenE at h
  split at h
  · rename_i e he
    have hT := sliceElem_eq he
    have key : ∀ b n c, (Builtin.len_ #[T] ty #[.slice b n c]).run P g.w = .ok (.int .i64 n) g.w := by
      intro b n c
      simp [Builtin.len_, run_underlying hT, goInt]
    have key2 : ∀ rows, rowsOf x = some rows → ∃ r, (Builtin.len_ #[T] ty #[v]).run P g.w = .ok r g.w ∧ CR g (.sc (.int .i64 rows.length)) r := by
      intro rows hr
      have hc := rowsOf_sound hI hx hr
      cases hc with
      | sl0 b c => exact ⟨_, key _ _ _, .sc _ rfl⟩
      | sl b o c sz _ hcap hcr => exact ⟨_, key _ _ _, .sc _ rfl⟩
    cases x with
    | arr id off n =>
      simp only [Option.some.injEq] at h
      subst h
      obtain ⟨b, c, hb, hc, rfl⟩ := hx
      exact ⟨_, key _ _ _, .sc _ rfl⟩
    | _ => obtain ⟨rows, hr, rfl⟩ := Option.map_eq_some_iff.1 h; exact key2 rows hr
  · split at h
    · rename_i s hv
      obtain rfl := valOf_sound hx hv
      split at h
      · rename_i hT
        simp only [Option.some.injEq] at h
        subst h
        exact ⟨.int .i64 s.size, by simp [Builtin.len_, run_underlying hT, goInt], .sc _ rfl⟩
      · cases h
    · cases h

theorem min2E_run {P : Program} {g : G} {σ : List Blk} {q : Gh} {x y : SV} {u v : Value} {d : D} {ts : Array TypeId} {t : TypeId} (hx : SR g σ q x u) (hy : SR g σ q y v) {gt : Bool} (h : min2E x y gt = some d) :
    ∃ r, ((if gt then Builtin.max_ ts t #[u, v] else Builtin.min_ ts t #[u, v])).run P g.w = .ok r g.w ∧ CR g d r := by
  unfold min2E at h
  split at h
  · rename_i k a k' b h1 h2
    simp only [Option.some.injEq] at h
    subst h
    obtain rfl := asI_sound hx h1
    obtain rfl := asI_sound hy h2
    cases gt
    · exact ⟨_, by simp [run_min_int2], .sc _ rfl⟩
    · exact ⟨_, by simp [run_max_int2], .sc _ rfl⟩
  · cases h

theorem bin2_run {P : Program} {Z : GTab} {B : Nat} {fr : List SV} {σ : List Blk} {g : G} {q : Gh} {ac : Act} (hI : Inv P Z B fr σ g q ac) {op : BinOp} {t : TypeId} {x y : Operand} {a b : SV} {u v : Value} {d : D}
    (ha : SR g σ q a u) (hb : SR g σ q b v) (h : bin2 P op t x y a b = some d) :
    ∃ r, (do eqGuard op t x y u v; binOp op t u v : Sem Value).run P g.w = .ok r g.w ∧ CR g d r := by
  unfold bin2 at h
  split at h
  · rename_i r hr
    simp only [Option.some.injEq] at h
    subst h
    unfold nilCmp at hr
    split at hr
    · rename_i k k' h1 h2
      split at hr
      · rename_i hk
        obtain ⟨rfl, hk⟩ := hk
        have hslice : k = 0 → ∃ bb n c, u = .slice (some bb) n c := by
          rintro rfl
          unfold nonNil at h1
          split at h1 <;> first | cases h1 | skip
          · cases ha with
            | sl b o c sz rows hc h => exact ⟨_, _, _, rfl⟩
          · obtain ⟨rfl, hk⟩ := ha
            have := (hI.tag _ _ _ hk).crr
            revert this
            generalize q.τ _ = z
            intro hz
            cases hz with
            | sl b o c sz rows hc h => exact ⟨_, _, _, rfl⟩
          · obtain ⟨b, c, hb, hc, rfl⟩ := ha
            exact ⟨_, _, _, rfl⟩
        have hptr : k = 1 → ∃ bb, u = .pointer (some bb) := by
          rintro rfl
          unfold nonNil at h1
          split at h1 <;> first | cases h1 | skip
          · obtain ⟨b, hb, rfl⟩ := ha
            exact ⟨_, rfl⟩
          · obtain ⟨b, o, sz, hc, rfl⟩ := ha
            exact ⟨_, rfl⟩
        have hfn : k = 2 → ∃ f xs ys, u = .func f xs ys := by
          rintro rfl
          unfold nonNil at h1
          split at h1 <;> first | cases h1 | skip
          · cases ha with
            | fn f xs ys vs us h k => exact ⟨_, _, _, rfl⟩
          · obtain ⟨vs, us, h1, h2, rfl⟩ := ha
            exact ⟨_, _, _, rfl⟩
        have hv : (k = 0 → v = .slice none 0 0) ∧ (k = 1 → v = .pointer none) ∧ (k = 2 → v = .nilFunc) := by
          unfold nilOf at h2
          split at h2 <;> first | cases h2 | skip
          · refine ⟨fun _ => by cases hb; rfl, by simp, by simp⟩
          · refine ⟨by simp, fun _ => by cases hb; rfl, by simp⟩
          · refine ⟨by simp, by simp, fun _ => by cases hb; rfl⟩
        have hd : ∃ n, Op.maxDepth = n + 1 := ⟨9999, rfl⟩
        obtain ⟨n, hn⟩ := hd
        unfold typeKind at hk
        have heq : (Op.equal t u v).run P g.w = .ok false g.w ∧ eqGuard op t x y u v = pure () ∧ (op = .eql → binOp op t u v = do pure (.bool (← Op.equal t u v))) ∧ (op = .neq → binOp op t u v = do pure (.bool (!(← Op.equal t u v)))) := by
          split at hk
          · rename_i e hT
            simp only [Option.some.injEq] at hk
            obtain ⟨bb, n', c, rfl⟩ := hslice hk.symm
            obtain rfl := hv.1 hk.symm
            refine ⟨by simp only [Op.equal, hn, Op.equalIn, Sem.run_bind, run_underlying hT, Result.andThen_ok, Sem.run_pure], ?_, ?_, ?_⟩
            · unfold eqGuard; split <;> rfl
            · rintro rfl; rfl
            · rintro rfl; rfl
          · rename_i e hT
            simp only [Option.some.injEq] at hk
            obtain ⟨bb, rfl⟩ := hptr hk.symm
            obtain rfl := hv.2.1 hk.symm
            refine ⟨by simp only [Op.equal, hn, Op.equalIn, Sem.run_bind, run_underlying hT, Result.andThen_ok, Sem.run_pure], ?_, ?_, ?_⟩
            · unfold eqGuard; split <;> rfl
            · rintro rfl; rfl
            · rintro rfl; rfl
          · rename_i hT
            simp only [Option.some.injEq] at hk
            obtain ⟨f, xs, ys, rfl⟩ := hfn hk.symm
            obtain rfl := hv.2.2 hk.symm
            refine ⟨by simp only [Op.equal, hn, Op.equalIn, Sem.run_bind, run_underlying hT, Result.andThen_ok, Sem.run_pure], ?_, ?_, ?_⟩
            · unfold eqGuard; split <;> rfl
            · rintro rfl; rfl
            · rintro rfl; rfl
          · cases hk
        obtain ⟨e1, e2, e3, e4⟩ := heq
        cases op <;> simp only [Option.some.injEq, reduceCtorEq] at hr
        · subst hr
          exact ⟨.bool false, by simp only [e2, e3 rfl, Sem.run_bind, Sem.run_pure, Result.andThen_ok, e1], .sc _ rfl⟩
        · subst hr
          exact ⟨.bool true, by simp only [e2, e4 rfl, Sem.run_bind, Sem.run_pure, Result.andThen_ok, e1, Bool.not_false], .sc _ rfl⟩
      · cases hr
    · cases hr
  · exact flat2_run ha hb h

theorem optE_sound {P : Program} {Z : GTab} {B : Nat} {fr : List SV} {σ : List Blk} {g : G} {q : Gh} {a : Act} (hI : Inv P Z B fr σ g q a) {x : Option Operand} {r : Option SV} (h : optE Z fr x = some r) :
    (∀ s, r = some s → ∃ v, x.map a.eval = some v ∧ SR g σ q s v) ∧ (r = none → x.map a.eval = none) := by
  cases x with
  | none => simp only [optE, Option.some.injEq] at h; subst h; simp
  | some y =>
    simp only [optE, Option.map_eq_some_iff] at h
    obtain ⟨s, hs, rfl⟩ := h
    exact ⟨fun t ht => by simp only [Option.some.injEq] at ht; subst ht; exact ⟨_, rfl, opnd_sound hI hs⟩, by simp⟩

theorem sr_sc {g : G} {σ : List Blk} {q : Gh} {v u : Value} (h : SR g σ q (.d (.sc v)) u) : u = v := by cases h; rfl

/-- The operation is run, and yields what the VM says; the world stays. -/
theorem val_sound {P : Program} {Z : GTab} {B : Nat} {fr : List SV} {σ : List Blk} {g : G} {q : Gh} {a : Act} (hI : Inv P Z B fr σ g q a) {o : Oper} {x : SV} (h : valOp P Z o fr σ = some x) :
    ∃ v, (execOp a.eval o).run P g.w = .ok (.value v) g.w ∧ SR g σ q x v := by
  unfold valOp at h
  unfold execOp
  split at h
  · rename_i y ho
    rw [ho]
    exact ⟨_, rfl, opnd_sound hI h⟩
  · rename_i y ho
    rw [ho]
    exact ⟨_, rfl, opnd_sound hI h⟩
  · rename_i c x y ho
    rw [ho]
    split at h
    · rename_i b s t hc hs ht
      simp only [Option.some.injEq] at h
      subst h
      have hc' := opnd_sound hI hc
      have : a.eval c = .bool b := sr_sc hc'
      refine ⟨if b then a.eval x else a.eval y, ?_, pickSV_sound (opnd_sound hI hs) (opnd_sound hI ht)⟩
      simp [this, asBool]
    · cases h
  · rename_i op t x y yt ho
    rw [ho]
    split at h
    · rename_i s u hs hu
      obtain ⟨d, hd, rfl⟩ := Option.map_eq_some_iff.1 h
      obtain ⟨r, hr, hc⟩ := bin2_run hI (opnd_sound hI hs) (opnd_sound hI hu) hd
      exact ⟨r, by simp only [Sem.run_bind] at hr ⊢; rw [hr]; rfl, hc⟩
    · cases h
  · rename_i op t x ho
    rw [ho]
    obtain ⟨s, hs, h⟩ := Option.bind_eq_some_iff.1 h
    obtain ⟨d, hd, rfl⟩ := Option.map_eq_some_iff.1 h
    obtain ⟨r, hr, hc⟩ := flat1_run (opnd_sound hI hs) hd
    exact ⟨r, by simp only [Sem.run_bind, hr, Result.andThen_ok, Sem.run_pure], hc⟩
  · rename_i s t x ho
    rw [ho]
    obtain ⟨s, hs, h⟩ := Option.bind_eq_some_iff.1 h
    obtain ⟨d, hd, rfl⟩ := Option.map_eq_some_iff.1 h
    obtain ⟨r, hr, hc⟩ := flat1_run (opnd_sound hI hs) hd
    exact ⟨r, by simp only [Sem.run_bind, hr, Result.andThen_ok, Sem.run_pure], hc⟩
  · rename_i T x ho
    rw [ho]
    split at h
    · rename_i rows i off hs
      split at h
      · rename_i row hrow
        obtain ⟨d, hd, rfl⟩ := Option.map_eq_some_iff.1 h
        obtain ⟨b, oo, sz, hcr, hv⟩ := opnd_sound hI hs
        obtain ⟨hc, hl⟩ := hcr.row i row hrow
        obtain ⟨vs, k1, k2, k3, _⟩ := hc.vals
        obtain ⟨r, hr, hrc⟩ := loadD_run hd k1 k2 k3
        refine ⟨r, ?_, hrc⟩
        simp only [Sem.run_bind, Instr.loadAt, hv, Instr.sureAddr, Sem.run_pure, Result.andThen_ok, hr]
      · cases h
    · rename_i id i off hs
      obtain ⟨b', hb', hv⟩ := opnd_sound hI hs
      split at h
      · rename_i T' sz rows hb
        rw [hb] at hb'
        simp only [Option.some.injEq] at hb'
        subst hb'
        split at h
        · rename_i row hrow
          obtain ⟨d, hd, rfl⟩ := Option.map_eq_some_iff.1 h
          obtain ⟨vs, hg, ⟨hcl, hlen⟩, h1, _, _⟩ := hI.box id _ hb
          have hrl : row.length = sz := hlen row (List.mem_of_getElem? hrow)
          -- the row's values
          have hpos : ∀ (rows : List (List D)) (i : Nat), (∀ r ∈ rows, r.length = sz) → rows[i]? = some row → (rows.flatten.drop (i * sz)).take sz = row := by
            intro rows
            induction rows with
            | nil => intro i _ h; simp at h
            | cons r rows ih =>
              intro i hl h
              have hr := hl r (by simp)
              cases i with
              | zero =>
                simp only [List.getElem?_cons_zero, Option.some.injEq] at h
                subst h
                simp [← hr]
              | succ i =>
                have := ih i (fun r hr => hl r (by simp [hr])) (by simpa using h)
                rw [List.flatten_cons, show (i + 1) * sz = r.length + i * sz from by rw [Nat.succ_mul, hr]; omega, List.drop_append, List.drop_eq_nil_of_le (by omega)]
                simpa [Nat.add_sub_cancel_left] using this
          have hrow2 := hpos rows i hlen hrow
          have hcl2 := (hcl.drop (i * sz)).take sz
          rw [hrow2] at hcl2
          have hholds : Holds g (q.ρ id) (i * sz) ((vs.drop (i * sz)).take sz) := by
            intro j v hj
            rw [cell_of_row g.w _ _ _ _ _ hg]
            rw [List.getElem?_take] at hj
            split at hj
            · rw [List.getElem?_drop] at hj; simpa using hj
            · cases hj
          obtain ⟨r, hr, hrc⟩ := loadD_run hd hcl2 hholds (fun u hu => h1 u (List.mem_of_mem_drop (List.mem_of_mem_take hu)))
          refine ⟨r, ?_, hrc⟩
          simp only [Sem.run_bind, Instr.loadAt, hv, Instr.sureAddr, Sem.run_pure, Result.andThen_ok, Blk.sz, hr]
        · cases h
      · rename_i T' cells hb
        rw [hb] at hb'
        simp only [Option.some.injEq] at hb'
        subst hb'
        split at h
        · rename_i hi0
          subst hi0
          obtain ⟨vs, hg, hcl, h1, _, _⟩ := hI.box id _ hb
          have hholds : Holds g (q.ρ id) 0 vs := by
            intro j v hj
            rw [cell_of_row g.w _ _ _ _ _ hg]
            simpa using hj
          obtain ⟨r, hr, hrc⟩ := loadB_run hI h hcl hholds h1
          refine ⟨r, ?_, hrc⟩
          simp only [Nat.zero_add] at hr
          simp only [Sem.run_bind, Instr.loadAt, hv, Instr.sureAddr, Sem.run_pure, Result.andThen_ok, Nat.zero_mul, Nat.zero_add, hr]
        · cases h
      · cases h
    · cases h
  · rename_i s x f ho
    rw [ho]
    obtain ⟨s, hs, h⟩ := Option.bind_eq_some_iff.1 h
    obtain ⟨r, hr, hc⟩ := fieldAddrE_run (P := P) (opnd_sound hI hs) h
    exact ⟨r, by simp only [Sem.run_bind, hr, Result.andThen_ok, Sem.run_pure], hc⟩
  · rename_i T x ix ho
    rw [ho]
    split at h
    · rename_i s i hs hi
      obtain ⟨r, hr, hc⟩ := indexAddrE_run hI (opnd_sound hI hs) (opnd_sound hI hi) h
      exact ⟨r, by simp only [Sem.run_bind, hr, Result.andThen_ok, Sem.run_pure], hc⟩
    · cases h
  · rename_i T x f ho
    rw [ho]
    obtain ⟨s, hs, h⟩ := Option.bind_eq_some_iff.1 h
    obtain ⟨d, hd, rfl⟩ := Option.map_eq_some_iff.1 h
    obtain ⟨r, hr, hc⟩ := fieldE_run (P := P) (opnd_sound hI hs) hd
    exact ⟨r, by simp only [Sem.run_bind, hr, Result.andThen_ok, Sem.run_pure], hc⟩
  · rename_i T x ix ho
    rw [ho]
    split at h
    · rename_i s i hs hi
      split at h
      · rename_i u v hu hv
        obtain ⟨d, hd, rfl⟩ := Option.map_eq_some_iff.1 h
        obtain ⟨r, hr, hd⟩ := Option.bind_eq_some_iff.1 hd
        have e1 := valOf_sound (opnd_sound hI hs) hu
        have e2 := valOf_sound (opnd_sound hI hi) hv
        refine ⟨r, ?_, CR.ofVF g r d hd⟩
        simp only [Sem.run_bind, e1, e2, eval0_run P g.w _ r hr, Result.andThen_ok, Sem.run_pure]
      · cases h
    · cases h
  · rename_i x i ho
    rw [ho]
    obtain ⟨s, hs, h⟩ := Option.bind_eq_some_iff.1 h
    obtain ⟨r, hr, hc⟩ := extractE_run (P := P) (opnd_sound hI hs) h
    exact ⟨r, by simp only [Sem.run_bind, hr, Result.andThen_ok, Sem.run_pure], hc⟩
  · rename_i T parts ho
    rw [ho]
    split at h
    · rename_i ps hps
      obtain ⟨d, hd, rfl⟩ := Option.map_eq_some_iff.1 h
      obtain ⟨k1, k2⟩ := partsE_sound hI hps
      obtain ⟨r, hr, hc⟩ := buildE_run hI (vparts := parts.map fun (i, x) => (i, a.eval x)) (T := T) (x := d) (by simpa using k1) (by simpa using k2) hd
      exact ⟨r, by simp only [Sem.run_bind, hr, Result.andThen_ok, Sem.run_pure], hc⟩
    · cases h
  · rename_i T x lo hi ho
    rw [ho]
    split at h
    · rename_i s l hh hs hl hhh
      obtain ⟨l1, l2⟩ := optE_sound hI hl
      obtain ⟨h1, h2⟩ := optE_sound hI hhh
      split at h
      · split at h
        · rename_i u vl vh hu hvl hvh
          obtain ⟨d, hd, rfl⟩ := Option.map_eq_some_iff.1 h
          obtain ⟨r, hr, hd⟩ := Option.bind_eq_some_iff.1 hd
          have e1 := valOf_sound (opnd_sound hI hs) hu
          have e2 : lo.map a.eval = vl := by
            cases l with
            | none => simp only [Option.some.injEq] at hvl; rw [l2 rfl, hvl]
            | some s =>
              obtain ⟨v, e, k⟩ := l1 s rfl
              obtain ⟨v', hv', rfl⟩ := Option.map_eq_some_iff.1 hvl
              rw [e, valOf_sound k hv']
          have e3 : hi.map a.eval = vh := by
            cases hh with
            | none => simp only [Option.some.injEq] at hvh; rw [h2 rfl, hvh]
            | some s =>
              obtain ⟨v, e, k⟩ := h1 s rfl
              obtain ⟨v', hv', rfl⟩ := Option.map_eq_some_iff.1 hvh
              rw [e, valOf_sound k hv']
          refine ⟨r, ?_, CR.ofVF g r d hd⟩
          simp only [Sem.run_bind, e1, e2, e3, Option.map_none, eval0_run P g.w _ r hr, Result.andThen_ok, Sem.run_pure]
        · cases h
      · obtain ⟨d, hd, rfl⟩ := Option.map_eq_some_iff.1 h
        obtain ⟨r, hr, hc⟩ := sliceE_run hI (opnd_sound hI hs) l1 l2 h1 h2 hd
        exact ⟨r, by simp only [Sem.run_bind, Option.map_none, hr, Result.andThen_ok, Sem.run_pure], hc⟩
    · cases h
  · rename_i x ho
    rw [ho]
    obtain ⟨s, hs, h⟩ := Option.bind_eq_some_iff.1 h
    have hx := opnd_sound hI hs
    have key : ∀ v, ((∃ a, v = .pointer (some a)) ∨ ∃ f b c, v = .func (.func f) b c) → (match v with
        | .pointer none | .nilIface | .nilFunc => runtimePanic .nilDeref
        | .func (.method name) first captured =>
          match (first[0]? : Option Value) with
          | some .nilIface => runtimePanic .nilDeref
          | some (.iface t w) => do
            if (← nilAhead ((← program).types.size + Made.depth) t w name) != some false then
              unsupported (.noEntry "op/nilCheck.the method's receiver behind this interface value is a nil pointer, or cannot be seen to be none, and the arguments act or may panic (ledger 612)")
            pure (.value (.func (.method name) first captured))
          | _ => pure (.value (.func (.method name) first captured))
        | x => pure (.value x) : Sem Next).run P g.w = .ok (.value v) g.w := by
      rintro v (⟨a, rfl⟩ | ⟨f, b, c, rfl⟩) <;> rfl
    split at h
    · rename_i hn
      simp only [Option.some.injEq] at h
      subst h
      refine ⟨_, key _ (.inl ?_), hx⟩
      unfold nonNil at hn
      split at hn <;> first | cases hn | skip
      · obtain ⟨b, hb, e⟩ := hx
        exact ⟨_, e⟩
      · obtain ⟨b, o, sz, hc, e⟩ := hx
        exact ⟨_, e⟩
    · rename_i hn
      simp only [Option.some.injEq] at h
      subst h
      refine ⟨_, key _ (.inr ?_), hx⟩
      unfold nonNil at hn
      split at hn <;> first | cases hn | skip
      · revert hx
        generalize a.eval x = z
        intro hx
        cases hx with
        | fn f xs ys vs us h k => exact ⟨_, _, _, rfl⟩
      · obtain ⟨vs, us, h1, h2, e⟩ := hx
        exact ⟨_, _, _, e⟩
    · cases h
  · rename_i f first cap ho
    rw [ho]
    split at h
    · rename_i ss ts h1 h2
      have e1 : (⟨first.toList.map a.eval⟩ : Array Value) = first.map a.eval := by apply Array.toList_inj.1; simp
      have e2 : (⟨cap.toList.map a.eval⟩ : Array Value) = cap.map a.eval := by apply Array.toList_inj.1; simp
      refine ⟨.func (.func f) (first.map a.eval) (cap.map a.eval), by simp [Instr.makeFunc], ?_⟩
      split at h
      · rename_i xs ys k2 k4
        simp only [Option.some.injEq] at h
        subst h
        have := CR.fn (g := g) f xs ys _ _ (datumL_sound hI h1 k2) (datumL_sound hI h2 k4)
        rw [e1, e2] at this
        exact this
      · simp only [Option.some.injEq] at h
        subst h
        exact ⟨_, _, (opndL_srl hI h1).2, (opndL_srl hI h2).2, by rw [e1, e2]⟩
    · cases h
  · rename_i x T ho
    rw [ho]
    obtain ⟨s, hs, h⟩ := Option.bind_eq_some_iff.1 h
    obtain ⟨d, hd, rfl⟩ := Option.map_eq_some_iff.1 h
    obtain ⟨r, hr, hc⟩ := lenE_run (ty := o.type) hI (opnd_sound hI hs) hd
    refine ⟨r, ?_, hc⟩
    simp [resolve, invoke, builtin, hr]
  · rename_i x y ts ho
    rw [ho]
    split at h
    · rename_i s u hs hu
      obtain ⟨d, hd, rfl⟩ := Option.map_eq_some_iff.1 h
      obtain ⟨r, hr, hc⟩ := min2E_run (P := P) (ts := ts) (t := o.type) (opnd_sound hI hs) (opnd_sound hI hu) hd
      refine ⟨r, ?_, hc⟩
      simp only [Bool.false_eq_true, if_false] at hr
      simp [resolve, invoke, builtin, hr]
    · cases h
  · rename_i x y ts ho
    rw [ho]
    split at h
    · rename_i s u hs hu
      obtain ⟨d, hd, rfl⟩ := Option.map_eq_some_iff.1 h
      obtain ⟨r, hr, hc⟩ := min2E_run (P := P) (ts := ts) (t := o.type) (opnd_sound hI hs) (opnd_sound hI hu) hd
      refine ⟨r, ?_, hc⟩
      simp only [if_true] at hr
      simp [resolve, invoke, builtin, hr]
    · cases h
  · cases h
end Go.Vm
