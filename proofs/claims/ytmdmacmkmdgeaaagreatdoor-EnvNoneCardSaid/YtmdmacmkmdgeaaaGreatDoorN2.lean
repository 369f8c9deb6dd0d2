/- The operations that only yield a value. -/
import Derived.Test.YtmdmacmkmdgeaaaGreatDoorN1
import Derived.Laws.Tables
namespace Go.N
open Go Go.RowKit

/-- A run that asks the world for nothing. -/
def eval0 {α : Type} (P : Program) : Sem α → Option α
  | .pure a => some a
  | .program k => eval0 P (k P)
  | .mark _ k => eval0 P k
  | _ => none
theorem eval0_run {α : Type} (P : Program) (w : World) : (s : Sem α) → (a : α) → eval0 P s = some a → s.run P w = .ok a w
  | .pure a, b, h => by simp only [eval0, Option.some.injEq] at h; subst h; rfl
  | .program k, b, h => by simp only [eval0] at h; simp only [Sem.run]; exact eval0_run P w (k P) b h
  | .mark _ k, b, h => by simp only [eval0] at h; simp only [Sem.run]; exact eval0_run P w k b h
  | .load .., _, h | .store .., _, h | .new .., _, h | .shape .., _, h | .freeze .., _, h | .frozen .., _, h | .getObj .., _, h | .setObj .., _, h | .choose .., _, h | .sys .., _, h | .halt .., _, h => by simp [eval0] at h

theorem addr_add (b o j : Nat) : (⟨b, o, none⟩ : Addr).add j = ⟨b, o + j, none⟩ := by
  unfold Addr.add; split <;> simp_all

def isAggT (P : Program) (t : TypeId) : Bool := match P.underlying t with
  | some (.struct _) | some (.array ..) => true
  | _ => false
def szOf (P : Program) (t : TypeId) : Nat := ((P.info? t).map (·.size)).getD 0
theorem run_isAgg {P : Program} {t : TypeId} {d : TypeDesc} (h : P.underlying t = some d) (w : World) : (isAgg t).run P w = .ok (isAggT P t) w := by
  unfold isAgg isAggT
  simp only [Sem.run_bind, underlying, run_program, Result.andThen_ok, h, Sem.run_pure]
  cases d <;> rfl
theorem run_sizeOf {P : Program} {t : TypeId} {i : TypeInfo} (h : P.info? t = some i) (w : World) : (sizeOf t).run P w = .ok (szOf P t) w := by
  simp [sizeOf, typeInfo, szOf, h]
def okT (P : Program) (t : TypeId) : Bool := (P.underlying t).isSome && (P.info? t).isSome
theorem okT_parts {P : Program} {t : TypeId} (h : okT P t = true) : ∃ d i, P.underlying t = some d ∧ P.info? t = some i := by
  simp only [okT, Bool.and_eq_true] at h
  obtain ⟨d, hd⟩ := Option.isSome_iff_exists.1 h.1
  obtain ⟨i, hi⟩ := Option.isSome_iff_exists.1 h.2
  exact ⟨d, i, hd, hi⟩

mutual
def ofVal : Value → Option V
  | .agg ⟨l⟩ => if l.all (·.oneCell') then (ofValL l).map .agg else none
  | .tuple ⟨l⟩ => (ofValL l).map .tup
  | .func (.func f) ⟨[]⟩ ⟨[]⟩ => some (.clo f [] [])
  | v => if flat v then some (.sc v) else none
def ofValL : List Value → Option (List V)
  | [] => some []
  | v :: l => match ofVal v, ofValL l with
    | some x, some xs => some (x :: xs)
    | _, _ => none
end
mutual
theorem R.ofVal (q : Q) : (v : Value) → (x : V) → ofVal v = some x → R q x v
  | .agg ⟨l⟩, x, h => by
    simp only [N.ofVal] at h
    split at h
    · rename_i h1
      simp only [Option.map_eq_some_iff] at h
      obtain ⟨xs, hx, rfl⟩ := h
      exact ⟨l, RL.ofVal q l xs hx, rfl, List.all_eq_true.1 h1⟩
    · cases h
  | .tuple ⟨l⟩, x, h => by
    simp only [N.ofVal, Option.map_eq_some_iff] at h
    obtain ⟨xs, hx, rfl⟩ := h
    exact ⟨l, RL.ofVal q l xs hx, rfl⟩
  | .func f a b, x, h => by
    unfold N.ofVal at h
    split at h
    all_goals first
      | (simp [flat] at h; done)
      | (cases h; simp_all; exact ⟨[], [], rfl, rfl, rfl⟩)
      | simp_all
  | .slice a n c, x, h => by
    unfold N.ofVal at h
    simp only [Option.ite_none_right_eq_some, Option.some.injEq] at h
    obtain ⟨h1, rfl⟩ := h
    exact ⟨rfl, h1⟩
  | .bool _, x, h | .int .., x, h | .string _, x, h | .float .., x, h | .complex .., x, h | .nilFunc, x, h | .nilIface, x, h => by
    simp only [N.ofVal, flat, if_true, Option.some.injEq] at h
    subst h
    exact ⟨rfl, rfl⟩
  | .pointer a, x, h => by cases a <;> simp [N.ofVal, flat] at h; subst h; exact ⟨rfl, rfl⟩
  | .map a, x, h => by cases a <;> simp [N.ofVal, flat] at h; subst h; exact ⟨rfl, rfl⟩
  | .chan a, x, h => by cases a <;> simp [N.ofVal, flat] at h; subst h; exact ⟨rfl, rfl⟩
  | .iface _ _, x, h => by simp [N.ofVal, flat] at h
theorem RL.ofVal (q : Q) : (l : List Value) → (xs : List V) → ofValL l = some xs → RL q xs l
  | [], xs, h => by simp only [N.ofValL, Option.some.injEq] at h; subst h; rfl
  | v :: l, xs, h => by
    simp only [N.ofValL] at h
    split at h
    · rename_i x ys hx hy
      simp only [Option.some.injEq] at h
      subst h
      exact ⟨v, l, R.ofVal q v x hx, RL.ofVal q l ys hy, rfl⟩
    · cases h
end
mutual
def toV : V → Option Value
  | .sc v => some v
  | .agg l => (toVL l).map fun vs => .agg ⟨vs⟩
  | .tup l => (toVL l).map fun vs => .tuple ⟨vs⟩
  | .ifc t x => (toV x).map (.iface t)
  | .clo f [] [] => some (.func (.func f) ⟨[]⟩ ⟨[]⟩)
  | _ => none
def toVL : List V → Option (List Value)
  | [] => some []
  | x :: l => match toV x, toVL l with
    | some v, some vs => some (v :: vs)
    | _, _ => none
end
mutual
theorem R.toV {q : Q} : (x : V) → (v u : Value) → R q x v → N.toV x = some u → v = u
  | .sc _, v, u, ⟨h, _⟩, e => by simp only [N.toV, Option.some.injEq] at e; rw [h, e]
  | .agg l, _, u, ⟨vs, k, h, _⟩, e => by
    simp only [N.toV, Option.map_eq_some_iff] at e
    obtain ⟨us, hu, rfl⟩ := e
    rw [h, RL.toV l vs us k hu]
  | .tup l, _, u, ⟨vs, k, h⟩, e => by
    simp only [N.toV, Option.map_eq_some_iff] at e
    obtain ⟨us, hu, rfl⟩ := e
    rw [h, RL.toV l vs us k hu]
  | .ifc t x, _, u, ⟨v, k, h⟩, e => by
    simp only [N.toV, Option.map_eq_some_iff] at e
    obtain ⟨z, hz, rfl⟩ := e
    rw [h, R.toV x v z k hz]
  | .clo f [] [], _, u, ⟨vs, us, h1, h2, h3⟩, e => by
    simp only [RL] at h1 h2
    subst h1 h2
    simp only [N.toV, Option.some.injEq] at e
    rw [h3, e]
  | .clo f (_ :: _) _, _, u, _, e => by simp [N.toV] at e
  | .clo f [] (_ :: _), _, u, _, e => by simp [N.toV] at e
  | .sl .., _, _, _, e | .ptr .., _, _, _, e | .mp _, _, _, _, e | .yld _, _, _, _, e | .any, _, _, _, e => by simp [N.toV] at e
theorem RL.toV {q : Q} : (l : List V) → (vs us : List Value) → RL q l vs → N.toVL l = some us → vs = us
  | [], _, _, h, e => by simp only [RL] at h; subst h; simpa [N.toVL] using e
  | x :: l, _, us, ⟨v, vs, h, k, e0⟩, e => by
    subst e0
    simp only [N.toVL] at e
    split at e
    · rename_i u ws hu hw
      simp only [Option.some.injEq] at e
      subst e
      rw [R.toV x v u h hu, RL.toV l vs ws k hw]
    · cases e
end

def valOf : V → Option Value
  | .sc v => some v
  | x => toV x
theorem valOf_sound {q : Q} {x : V} {v u : Value} (hx : R q x v) (h : valOf x = some u) : v = u :=
  R.toV x v u hx (by cases x <;> exact h)

/-- Package variables that are known: they lie in their own blocks. -/
def GQ (Z : Nat → Bool) (q : Q) : Prop := ∀ k, Z k = true → ∃ n, q k = some ⟨k, 0, n⟩
theorem GQ.mono {Z : Nat → Bool} {q q' : Q} (h : GQ Z q) (hq : q.le q') : GQ Z q' := fun k hk => let ⟨n, hn⟩ := h k hk; ⟨n, hq _ _ hn⟩

def opnd (Z : Nat → Bool) (fr : List V) : Operand → Option V
  | .tmp t => some (fr.getD t (.tup []))
  | .const v => ofVal v
  | .func f => some (.clo f [] [])
  | .global k => if Z k then some (.ptr k 0) else none

theorem opnd_sound {Z : Nat → Bool} {fr : List V} {q : Q} {a : Act} (hz : GQ Z q) (hs : RL q fr a.tmps.toList) {x : Operand} {s : V} (h : opnd Z fr x = some s) : R q s (a.eval x) := by
  cases x with
  | tmp t =>
    simp only [opnd, Option.some.injEq] at h
    subst h
    show R q _ (a.tmps.getD t undef)
    have hl := hs.length
    simp only [Array.length_toList] at hl
    by_cases ht : t < fr.length
    · have : fr[t]? = some (fr.getD t (.tup [])) := by simp [List.getD, ht]
      obtain ⟨v, hv, hr⟩ := hs.get t _ this
      have e : a.tmps.getD t undef = v := by
        have : a.tmps[t]? = some v := by simpa using hv
        simp [Array.getD_eq_getD_getElem?, this]
      rw [e]; exact hr
    · have h1 : fr.getD t (.tup []) = .tup [] := by simp [List.getD, List.getElem?_eq_none (Nat.not_lt.1 ht)]
      have h2 : a.tmps.getD t undef = undef := by simp [Array.getD, ← hl, ht]
      rw [h1, h2]
      exact ⟨[], rfl, rfl⟩
  | const v => exact R.ofVal q v s h
  | func f =>
    simp only [opnd, Option.some.injEq] at h
    subst h
    exact ⟨[], [], rfl, rfl, rfl⟩
  | global n =>
    simp only [opnd, Option.ite_none_right_eq_some, Option.some.injEq] at h
    obtain ⟨h1, rfl⟩ := h
    obtain ⟨m, hm⟩ := hz n h1
    exact ⟨_, hm, by simp [Act.eval]⟩

def opndL (Z : Nat → Bool) (fr : List V) : List Operand → Option (List V)
  | [] => some []
  | x :: l => match opnd Z fr x, opndL Z fr l with
    | some s, some ss => some (s :: ss)
    | _, _ => none
theorem opndL_sound {Z : Nat → Bool} {fr : List V} {q : Q} {a : Act} (hz : GQ Z q) (hs : RL q fr a.tmps.toList) : ∀ {l : List Operand} {xs : List V}, opndL Z fr l = some xs → RL q xs (l.map a.eval)
  | [], xs, h => by simp only [opndL, Option.some.injEq] at h; subst h; rfl
  | x :: l, xs, h => by
    simp only [opndL] at h
    split at h
    · rename_i s ss h1 h2
      simp only [Option.some.injEq] at h
      subst h
      exact ⟨_, _, opnd_sound hz hs h1, opndL_sound hz hs h2, rfl⟩
    · cases h

/-- What a variable of a type holds that begins at a cell of a row. -/
def loadC (P : Program) (T : TypeId) (row : List V) (off : Nat) : Option V :=
  if okT P T then
    if isAggT P T then
      if ((row.drop off).take (szOf P T)).length = szOf P T then some (.agg ((row.drop off).take (szOf P T))) else none
    else row[off]?
  else none
/-- The cells of a block hold these values. -/
def Holds (w : World) (b o : Nat) (vs : List Value) : Prop :=
  ∀ (j : Nat) (v : Value), vs[j]? = some v → w.cell? ⟨b, o + j, none⟩ = some v

theorem loadC_run {P : Program} {q : Q} {w : World} {T : TypeId} {row : List V} {off : Nat} {x : V} (h : loadC P T row off = some x) {b o : Nat} {vs : List Value}
    (hl : RL q row vs) (hc : Holds w b o vs) (h1 : ∀ u ∈ vs, u.oneCell' = true) :
    ∃ v, (loadVar T ⟨b, o + off, none⟩).run P w = .ok v w ∧ R q x v := by
  unfold loadC at h
  split at h
  · rename_i hok
    obtain ⟨d, i, hd, hi⟩ := okT_parts hok
    split at h
    · rename_i hagg
      split at h
      · rename_i hlen
        simp only [Option.some.injEq] at h
        subst h
        have hcl := (hl.drop off).take (szOf P T)
        have hlv : ((vs.drop off).take (szOf P T)).length = szOf P T := by rw [← hcl.length]; exact hlen
        refine ⟨.agg ⟨(vs.drop off).take (szOf P T)⟩, ?_, _, hcl, rfl, fun u hu => h1 u (List.mem_of_mem_drop (List.mem_of_mem_take hu))⟩
        have hr := run_loadCells_list (P := P) w ⟨b, o + off, none⟩ ((vs.drop off).take (szOf P T)) (fun j v hv => by
          rw [addr_add, show o + off + j = o + (off + j) from by omega]
          rw [List.getElem?_take] at hv
          split at hv
          · rw [List.getElem?_drop] at hv
            exact hc (off + j) v hv
          · cases hv)
        rw [hlv] at hr
        simp only [loadVar, Sem.run_bind, run_isAgg hd, Result.andThen_ok, hagg, if_true, run_sizeOf hi, hr, Sem.run_pure]
      · cases h
    · rename_i hagg
      obtain ⟨v, hv, hr⟩ := hl.get off x h
      refine ⟨v, ?_, hr⟩
      have := hc off v hv
      simp only [loadVar, Sem.run_bind, run_isAgg hd, Result.andThen_ok, hagg]
      simp [run_load, this]
  · cases h

theorem loadC_part {P : Program} {q : Q} {w : World} {T : TypeId} {row : List V} {off : Nat} {x : V} (h : loadC P T row off = some x) {vs : List Value}
    (hl : RL q row vs) (h1 : ∀ u ∈ vs, u.oneCell' = true) :
    ∃ v, (part T ⟨vs⟩ off).run P w = .ok v w ∧ R q x v := by
  unfold loadC at h
  split at h
  · rename_i hok
    obtain ⟨d, i, hd, hi⟩ := okT_parts hok
    split at h
    · rename_i hagg
      split at h
      · rename_i hlen
        simp only [Option.some.injEq] at h
        subst h
        have hcl := (hl.drop off).take (szOf P T)
        refine ⟨.agg ⟨(vs.drop off).take (szOf P T)⟩, ?_, _, hcl, rfl, fun u hu => h1 u (List.mem_of_mem_drop (List.mem_of_mem_take hu))⟩
        simp only [part, Sem.run_bind, run_isAgg hd, Result.andThen_ok, hagg, if_true, run_sizeOf hi, Sem.run_pure]
        congr 2
        simp [List.extract_eq_take_drop, Nat.add_sub_cancel_left]
      · cases h
    · rename_i hagg
      obtain ⟨v, hv, hr⟩ := hl.get off x h
      refine ⟨v, ?_, hr⟩
      simp only [part, Sem.run_bind, run_isAgg hd, Result.andThen_ok, hagg]
      simp [hv]
  · cases h

/-- A block's cells. -/
def cellsOf (h : Hp) (id : Nat) : Option (List V) := match h.get id with
  | some (.cells _ cs) => some cs
  | some (.ro _ cs) => some cs
  | _ => none
theorem HT.holds {B : Nat} {q : Q} {h : Hp} {w : World} (hT : HT B q h w) {id : Nat} {cs : List V} (hg : cellsOf h id = some cs) :
    ∃ e vs, q id = some e ∧ RL q cs vs ∧ Holds w e.b e.d vs ∧ (∀ u ∈ vs, u.oneCell' = true) ∧ e.d + cs.length ≤ e.n := by
  have fin : ∀ (e : QE) (vs : List Value) (T : TypeId) (fz : Nat × Nat), w.heap[e.b]? = some (.cells ⟨vs⟩ T fz) → Holds w e.b e.d ((vs.drop e.d).take cs.length) := by
    intro e vs T fz h1 j v hj
    rw [cell_of_row w _ _ _ _ _ h1]
    rw [List.getElem?_take] at hj
    split at hj
    · rw [List.getElem?_drop] at hj
      simpa using hj
    · cases hj
  unfold cellsOf at hg
  split at hg
  · rename_i T cs' hg'
    simp only [Option.some.injEq] at hg
    subst hg
    obtain ⟨e, he, ⟨vs, h1, h2, h3, h4, h5⟩, _⟩ := hT.tie id _ hg'
    exact ⟨e, _, he, h4, fin e vs T _ h1, fun u hu => h5 u (List.mem_of_mem_drop (List.mem_of_mem_take hu)), h3⟩
  · rename_i T cs' hg'
    simp only [Option.some.injEq] at hg
    subst hg
    obtain ⟨e, he, ⟨vs, T', fz, h1, h2, h3, h4, h5⟩, _⟩ := hT.tie id _ hg'
    exact ⟨e, _, he, h4, fin e vs T' _ h1, fun u hu => h5 u (List.mem_of_mem_drop (List.mem_of_mem_take hu)), h3⟩
  · cases hg

def asI : V → Option (IntKind × Int)
  | .sc (.int k i) => some (k, i)
  | _ => none
theorem asI_sound {q : Q} {x : V} {v : Value} {k : IntKind} {i : Int} (hs : R q x v) (h : asI x = some (k, i)) : v = .int k i := by
  unfold asI at h
  split at h
  · simp only [Option.some.injEq, Prod.mk.injEq] at h
    obtain ⟨rfl, rfl⟩ := h
    exact hs.1
  · cases h

def fieldOf (P : Program) (s : TypeId) (f : Nat) : Option Field :=
  match P.underlying s with
  | some (.struct fields) => fields[f]?
  | _ => none
def fieldAddrE (P : Program) (s : TypeId) (f : Nat) (x : V) : Option V :=
  match fieldOf P s f with
  | some fd =>
    if (P.info? fd.type).isSome && !(szOf P fd.type == 0) then
      match x with
      | .ptr id off => some (.ptr id (off + fd.offset))
      | _ => none
    else none
  | none => none
theorem fieldAddrE_run {P : Program} {q : Q} (w : World) {s : TypeId} {f : Nat} {x y : V} {v : Value} (hx : R q x v) (h : fieldAddrE P s f x = some y) :
    ∃ u, (Instr.fieldAt s v f).run P w = .ok u w ∧ R q y u := by
  unfold fieldAddrE fieldOf at h
  split at h
  · rename_i fd hfd
    split at hfd
    · rename_i fields hu
      split at h
      · rename_i hok
        simp only [Bool.and_eq_true, Bool.not_eq_true', beq_eq_false_iff_ne] at hok
        obtain ⟨i0, hi⟩ := Option.isSome_iff_exists.1 hok.1
        have key : ∀ b o, (Instr.fieldAt s (.pointer (some ⟨b, o, none⟩)) f).run P w = .ok (.pointer (some ⟨b, o + fd.offset, none⟩)) w := by
          intro b o
          simp only [Instr.fieldAt, Sem.run_bind, run_underlying hu, Result.andThen_ok, hfd, Instr.sureAddr, Sem.run_pure, fieldPlace, run_sizeOf hi, hok.2, if_false, addr_add]
        split at h
        · simp only [Option.some.injEq] at h
          subst h
          obtain ⟨e, he, rfl⟩ := hx
          exact ⟨_, key _ _, e, he, by rw [Nat.add_assoc]⟩
        · cases h
      · cases h
    · cases hfd
  · cases h

def sliceElem (P : Program) (T : TypeId) : Option TypeId := match P.underlying T with
  | some (.slice e) => some e
  | _ => none
theorem sliceElem_eq {P : Program} {T e : TypeId} (h : sliceElem P T = some e) : P.underlying T = some (.slice e) := by
  unfold sliceElem at h
  split at h
  · simp only [Option.some.injEq] at h; subst h; assumption
  · cases h
def arrayElem (P : Program) (T : TypeId) : Option (Nat × TypeId) := match P.underlying T with
  | some (.array n e) => some (n, e)
  | _ => none
theorem arrayElem_eq {P : Program} {T e : TypeId} {n : Nat} (h : arrayElem P T = some (n, e)) : P.underlying T = some (.array n e) := by
  unfold arrayElem at h
  split at h
  · simp only [Option.some.injEq, Prod.mk.injEq] at h; obtain ⟨rfl, rfl⟩ := h; assumption
  · cases h

def indexAddrE (P : Program) (T : TypeId) (x ix : V) : Option V :=
  match asI ix, x with
  | some (_, i), .sl id off sz len _ _ => match sliceElem P T with
    | some e => if 0 ≤ i ∧ i < len ∧ (P.info? e).isSome = true ∧ sz = szOf P e then some (.ptr id (off + i.toNat * sz)) else none
    | none => none
  | some (_, i), .ptr id off => match arrayElem P T with
    | some (n, e) => if 0 ≤ i ∧ i < n ∧ (P.info? e).isSome = true then some (.ptr id (off + i.toNat * szOf P e)) else none
    | none => none
  | _, _ => none
theorem indexAddrE_run {P : Program} {q : Q} (w : World) {T : TypeId} {x ix y : V} {v u : Value} (hx : R q x v) (hix : R q ix u) (h : indexAddrE P T x ix = some y) :
    ∃ r, (Instr.indexAt T v u).run P w = .ok r w ∧ R q y r := by
  unfold indexAddrE at h
  split at h
  · rename_i k i id off sz len cap ex hi
    obtain rfl := asI_sound hix hi
    split at h
    · rename_i e he
      have hT := sliceElem_eq he
      split at h
      · rename_i hok
        obtain ⟨h0, hlt, hinfo, rfl⟩ := hok
        obtain ⟨i0, hinfo⟩ := Option.isSome_iff_exists.1 hinfo
        simp only [Option.some.injEq] at h
        subst h
        obtain ⟨e', c, a, k1, rfl, k2, k3, k4, k5, k6, k7⟩ := hx
        have hc : c ≠ 0 := by omega
        refine ⟨.pointer (some ⟨e'.b, e'.d + off + i.toNat * szOf P e, none⟩), ?_, e', k1, by rw [Nat.add_assoc]⟩
        rw [k2 hc]
        simp only [Instr.indexAt, asIntOf, Sem.run_bind, Sem.run_pure, Result.andThen_ok, run_underlying hT, h0, hlt, and_self, if_true, run_sizeOf hinfo, addr_add]
      · cases h
    · cases h
  · rename_i k i id off hi
    obtain rfl := asI_sound hix hi
    split at h
    · rename_i n e he
      have hT := arrayElem_eq he
      split at h
      · rename_i hok
        obtain ⟨h0, hlt, hinfo⟩ := hok
        obtain ⟨i0, hinfo⟩ := Option.isSome_iff_exists.1 hinfo
        simp only [Option.some.injEq] at h
        subst h
        obtain ⟨e', k1, rfl⟩ := hx
        refine ⟨.pointer (some ⟨e'.b, e'.d + off + i.toNat * szOf P e, none⟩), ?_, e', k1, by rw [Nat.add_assoc]⟩
        simp only [Instr.indexAt, asIntOf, Instr.sureAddr, Sem.run_bind, Sem.run_pure, Result.andThen_ok, run_underlying hT, h0, hlt, and_self, if_true, run_sizeOf hinfo, addr_add]
      · cases h
    · cases h
  · cases h

/-- 'x.f' of a struct that is at hand. -/
def fieldE (P : Program) (T : TypeId) (f : Nat) (x : V) : Option V :=
  match fieldOf P T f, x with
  | some fd, .agg cs => loadC P fd.type cs fd.offset
  | _, _ => none
theorem fieldE_run {P : Program} {q : Q} (w : World) {T : TypeId} {f : Nat} {x y : V} {v : Value} (hx : R q x v) (h : fieldE P T f x = some y) :
    ∃ u, (Instr.field T v f).run P w = .ok u w ∧ R q y u := by
  unfold fieldE fieldOf at h
  split at h
  · rename_i _ fd cs hfd
    split at hfd
    · rename_i fields hu
      obtain ⟨vs, hl, rfl, h1⟩ := hx
      obtain ⟨u, hr, hc⟩ := loadC_part (w := w) h hl h1
      exact ⟨u, by simp only [Instr.field, Sem.run_bind, run_underlying hu, Result.andThen_ok, hfd, asAgg, Sem.run_pure, hr], hc⟩
    · cases hfd
  · cases h

/-- 'x[i]' of an array that is at hand. -/
def indexE (P : Program) (T : TypeId) (x ix : V) : Option V :=
  match asI ix, x with
  | some (_, i), .agg cs => match arrayElem P T with
    | some (n, e) => if 0 ≤ i ∧ i < n ∧ (P.info? e).isSome = true then loadC P e cs (i.toNat * szOf P e) else none
    | none => none
  | some _, x => match valOf x, valOf ix with
    | some u, some v => (eval0 P (Instr.index T u v)).bind ofVal
    | _, _ => none
  | _, _ => none
theorem indexE_run {P : Program} {q : Q} (w : World) {T : TypeId} {x ix y : V} {v u : Value} (hx : R q x v) (hix : R q ix u) (h : indexE P T x ix = some y) :
    ∃ r, (Instr.index T v u).run P w = .ok r w ∧ R q y r := by
  unfold indexE at h
  split at h
  · rename_i k i cs hi
    obtain rfl := asI_sound hix hi
    split at h
    · rename_i n e he
      have hT := arrayElem_eq he
      split at h
      · rename_i hok
        obtain ⟨h0, hlt, hinfo⟩ := hok
        obtain ⟨i0, hinfo⟩ := Option.isSome_iff_exists.1 hinfo
        obtain ⟨vs, hl, rfl, h1⟩ := hx
        obtain ⟨r, hr, hc⟩ := loadC_part (w := w) h hl h1
        exact ⟨r, by simp only [Instr.index, asIntOf, Sem.run_bind, Sem.run_pure, Result.andThen_ok, run_underlying hT, h0, hlt, and_self, if_true, run_sizeOf hinfo, hr], hc⟩
      · cases h
    · cases h
  · split at h
    · rename_i u' v' hu hv
      obtain rfl := valOf_sound hx hu
      obtain rfl := valOf_sound hix hv
      obtain ⟨r, hr, hd⟩ := Option.bind_eq_some_iff.1 h
      exact ⟨r, eval0_run P w _ r hr, R.ofVal q r y hd⟩
    · cases h
  · cases h

def extractE (i : Nat) (x : V) : Option V :=
  match x with
  | .tup xs => xs[i]?
  | _ => none
theorem extractE_run {P : Program} {q : Q} (w : World) {i : Nat} {x y : V} {v : Value} (hx : R q x v) (h : extractE i x = some y) :
    ∃ u, (Instr.extract v i).run P w = .ok u w ∧ R q y u := by
  unfold extractE at h
  split at h
  · obtain ⟨vs, hl, rfl⟩ := hx
    obtain ⟨u, hu, hc⟩ := hl.get i y h
    exact ⟨u, by simp [Instr.extract, hu], hc⟩
  · cases h

/-- The cells of a value. -/
def cellsV : V → Option (List V)
  | .agg cs => some cs
  | .tup _ => none
  | .any => none
  | x => some [x]
theorem R.oneCell {q : Q} {x : V} {v : Value} (hx : R q x v) (h : ∀ cs, x ≠ .agg cs) (h2 : ∀ cs, x ≠ .tup cs) (h3 : x ≠ .any) : v.oneCell' = true ∧ v.cells = #[v] := by
  cases x with
  | sc u => obtain ⟨rfl, hf⟩ := hx; cases v <;> simp_all [flat, Value.oneCell', Value.cells]
  | sl => obtain ⟨_, _, _, _, rfl, _⟩ := hx; exact ⟨rfl, rfl⟩
  | ptr => obtain ⟨_, _, rfl⟩ := hx; exact ⟨rfl, rfl⟩
  | mp => obtain ⟨_, _, rfl⟩ := hx; exact ⟨rfl, rfl⟩
  | clo => obtain ⟨_, _, _, _, rfl⟩ := hx; exact ⟨rfl, rfl⟩
  | yld => obtain ⟨_, _, rfl⟩ := hx; exact ⟨rfl, rfl⟩
  | ifc => obtain ⟨_, _, rfl⟩ := hx; exact ⟨rfl, rfl⟩
  | agg cs => exact absurd rfl (h cs)
  | tup cs => exact absurd rfl (h2 cs)
  | any => exact absurd rfl h3
theorem cellsV_sound {q : Q} {x : V} {v : Value} {cs : List V} (hx : R q x v) (h : cellsV x = some cs) : RL q cs v.cells.toList ∧ ∀ u ∈ v.cells.toList, u.oneCell' = true := by
  have one : (∀ cs, x ≠ .agg cs) → (∀ cs, x ≠ .tup cs) → x ≠ .any → cellsV x = some [x] → RL q cs v.cells.toList ∧ ∀ u ∈ v.cells.toList, u.oneCell' = true := by
    intro h1 h2 h3 he
    rw [he] at h
    cases h
    obtain ⟨k1, k2⟩ := hx.oneCell h1 h2 h3
    rw [k2]
    exact ⟨⟨v, [], hx, rfl, rfl⟩, by simpa using k1⟩
  cases x with
  | agg l =>
    simp only [cellsV, Option.some.injEq] at h
    subst h
    obtain ⟨vs, hl, rfl, h1⟩ := hx
    exact ⟨hl, h1⟩
  | tup => cases h
  | any => cases h
  | _ => exact one (by intro _ h; cases h) (by intro _ h; cases h) (by intro h; cases h) rfl

/-- Cells laid over a row from a place on. -/
def overC (row cs : List V) (off : Nat) : List V := row.take off ++ cs ++ row.drop (off + cs.length)
theorem overC_sound {q : Q} {row cs : List V} {vs us : List Value} (h : RL q row vs) (k : RL q cs us) (off : Nat) :
    RL q (overC row cs off) (vs.take off ++ us ++ vs.drop (off + us.length)) := by
  unfold overC
  rw [k.length]
  exact ((h.take off).append k).append (h.drop _)
theorem overC_length {row cs : List V} {off : Nat} (h : off + cs.length ≤ row.length) : (overC row cs off).length = row.length := by
  simp [overC]; omega

theorem fold_over (vs : List Value) : ∀ (l : List Value) (off : Nat) (acc : Array Value), off + l.length ≤ acc.size →
    ((l.zipIdx off).foldl (fun (cs : Array Value) (x : Value × Nat) => cs.setIfInBounds x.2 x.1) acc).toList = acc.toList.take off ++ l ++ acc.toList.drop (off + l.length)
  | [], off, acc, h => by simp
  | v :: l, off, acc, h => by
    simp only [List.zipIdx_cons, List.foldl_cons]
    rw [fold_over vs l (off + 1) _ (by simp only [List.length_cons] at h; simp; omega)]
    simp only [List.length_cons] at h
    have hlt : off < acc.toList.length := by simp; omega
    simp only [Array.toList_setIfInBounds, List.length_cons]
    rw [List.set_eq_take_append_cons_drop, if_pos hlt]
    have e1 : (acc.toList.take off ++ v :: acc.toList.drop (off + 1)).take (off + 1) = acc.toList.take off ++ [v] := by
      rw [List.take_append, List.length_take, Nat.min_eq_left (by omega), Nat.add_sub_cancel_left]
      simp [List.take_take]
    have e2 : (acc.toList.take off ++ v :: acc.toList.drop (off + 1)).drop (off + 1 + l.length) = acc.toList.drop (off + (l.length + 1)) := by
      rw [List.drop_append, List.length_take, Nat.min_eq_left (by omega)]
      rw [List.drop_eq_nil_of_le (by simp; omega), show off + 1 + l.length - off = l.length + 1 from by omega]
      simp only [List.nil_append, List.drop_succ_cons, List.drop_drop]
      congr 1; omega
    rw [e1, e2]
    simp

/-- 'T{..}': the parts laid over the zero's cells. -/
def fillE (place : Nat → Option (Nat × Nat)) : List V → List (Nat × V) → Option (List V)
  | cells, [] => some cells
  | cells, (i, x) :: rest =>
    match place i, cellsV x with
    | some (off, sz), some cs => if cs.length = sz ∧ off + cs.length ≤ cells.length then fillE place (overC cells cs off) rest else none
    | _, _ => none

def PL (q : Q) : List (Nat × V) → List (Nat × Value) → Prop
  | [], l => l = []
  | (i, x) :: xs, l => ∃ v vs, R q x v ∧ PL q xs vs ∧ l = (i, v) :: vs

theorem fillE_run {q : Q} (place : Nat → Option (Nat × Nat)) :
    ∀ (parts : List (Nat × V)) (vparts : List (Nat × Value)) (cells out : List V) (vcells : Array Value), PL q parts vparts →
      RL q cells vcells.toList → (∀ u ∈ vcells.toList, u.oneCell' = true) → fillE place cells parts = some out →
      ∃ vout, Instr.fill place vcells vparts = some vout ∧ RL q out vout.toList ∧ ∀ u ∈ vout.toList, u.oneCell' = true
  | [], vparts, cells, out, vcells, hp, hc, h1, h => by
    simp only [PL] at hp
    subst hp
    simp only [fillE, Option.some.injEq] at h
    subst h
    exact ⟨vcells, rfl, hc, h1⟩
  | (i, x) :: parts, _, cells, out, vcells, ⟨v, vparts, hx, hp, e0⟩, hc, h1, h => by
    subst e0
    simp only [fillE] at h
    split at h
    · rename_i off sz cs hpl hcs
      split at h
      · rename_i hok
        obtain ⟨k1, k2⟩ := cellsV_sound hx hcs
        have hl := k1.length
        have hcl := hc.length
        have hsz : v.cells.size = sz := by rw [← hok.1, hl]; simp
        have hfold := fold_over v.cells.toList v.cells.toList off vcells (by simp at hl hcl ⊢; omega)
        have hz : v.cells.zipIdx.foldl (fun (cs : Array Value) (x : Value × Nat) => cs.setIfInBounds (off + x.2) x.1) vcells =
            (v.cells.toList.zipIdx off).foldl (fun (cs : Array Value) (x : Value × Nat) => cs.setIfInBounds x.2 x.1) vcells := by
          rw [← Array.foldl_toList, Array.toList_zipIdx, List.zipIdx_eq_map_add (i := off), List.foldl_map]
        have hover := overC_sound hc k1 off
        rw [← hfold] at hover
        obtain ⟨vout, e1, e2, e3⟩ := fillE_run place parts vparts (overC cells cs off) out _ hp hover
          (fun u hu => by
            rw [hfold] at hu
            simp only [List.mem_append] at hu
            rcases hu with (hu | hu) | hu
            · exact h1 u (List.mem_of_mem_take hu)
            · exact k2 u hu
            · exact h1 u (List.mem_of_mem_drop hu)) h
        refine ⟨vout, ?_, e2, e3⟩
        simp only [Instr.fill, hpl]
        rw [if_neg (by simp at hl hcl; simp [hsz]; omega), hz]
        exact e1
      · cases h
    · cases h

def shapeE (P : Program) (T : TypeId) : Option (Value × (Nat → Option (Nat × Nat))) :=
  match P.info? T, P.underlying T with
  | some it, some (.array _ e) => match it.zero, P.info? e with
    | some z, some ie => some (z, fun i => some (i * ie.size, ie.size))
    | _, _ => none
  | some it, some (.struct fields) => match it.zero, fields.toList.mapM (fun f => (P.info? f.type).map fun i => (f.offset, i.size)) with
    | some z, some places => some (z, (places.toArray[·]?))
    | _, _ => none
  | _, _ => none
theorem shapeE_built {P : Program} {T : TypeId} {z : Value} {pl : Nat → Option (Nat × Nat)} (h : shapeE P T = some (z, pl)) (parts : List (Nat × Value)) :
    P.built T parts = Instr.fill pl z.cells parts := by
  unfold shapeE at h
  unfold Program.built
  split at h
  · rename_i it n e hi hu
    simp only [hi, hu]
    split at h
    · rename_i z' ie hz hie
      simp only [Option.some.injEq, Prod.mk.injEq] at h
      obtain ⟨rfl, rfl⟩ := h
      simp only [hz, hie]
    · cases h
  · rename_i it fields hi hu
    simp only [hi, hu]
    split at h
    · rename_i z' places hz hp
      simp only [Option.some.injEq, Prod.mk.injEq] at h
      obtain ⟨rfl, rfl⟩ := h
      simp only [hz, hp]
    · cases h
  · cases h
def zeroCells (z : Value) : Option (List V) := if z.cells.toList.all (·.oneCell') then ofValL z.cells.toList else none
theorem zeroCells_sound (q : Q) {z : Value} {cs : List V} (h : zeroCells z = some cs) : RL q cs z.cells.toList ∧ ∀ u ∈ z.cells.toList, u.oneCell' = true := by
  unfold zeroCells at h
  split at h
  · rename_i h1
    exact ⟨RL.ofVal q _ _ h, List.all_eq_true.1 h1⟩
  · cases h
def buildE (P : Program) (T : TypeId) (parts : List (Nat × V)) : Option V :=
  match shapeE P T with
  | some (z, pl) => match zeroCells z with
    | some cells => (fillE pl cells parts).map .agg
    | none => none
  | none => none
theorem buildE_run {P : Program} {q : Q} (w : World) {T : TypeId} {parts : List (Nat × V)} {vparts : Array (Nat × Value)} {x : V} (hp : PL q parts vparts.toList)
    (h : buildE P T parts = some x) : ∃ v, (Instr.build T vparts).run P w = .ok v w ∧ R q x v := by
  unfold buildE at h
  split at h
  · rename_i z pl hs
    split at h
    · rename_i cells hz
      simp only [Option.map_eq_some_iff] at h
      obtain ⟨out, ho, rfl⟩ := h
      obtain ⟨k1, k2⟩ := zeroCells_sound q hz
      obtain ⟨vout, e1, e2, e3⟩ := fillE_run pl parts vparts.toList cells out z.cells hp k1 k2 ho
      exact ⟨.agg vout, run_build w T vparts vout (by rw [shapeE_built hs]; exact e1), vout.toList, e2, rfl, e3⟩
    · cases h
  · cases h

/-- An index or bound, if there is one. -/
def boundE (x : Option V) (dflt : Nat) : Option Nat :=
  match x with
  | none => some dflt
  | some s => match asI s with
    | some (_, i) => if 0 ≤ i then some i.toNat else none
    | none => none
def OR (q : Q) : Option V → Option Value → Prop
  | none, u => u = none
  | some x, u => ∃ v, R q x v ∧ u = some v
theorem boundE_sound {q : Q} {x : Option V} {dflt n : Nat} {vx : Option Value} (hx : OR q x vx) (h : boundE x dflt = some n) :
    (vx = none ∧ n = dflt) ∨ ∃ k, vx = some (.int k (n : Int)) := by
  unfold boundE at h
  split at h
  · simp only [Option.some.injEq] at h
    exact .inl ⟨hx, h.symm⟩
  · rename_i s
    obtain ⟨v, hs, hv⟩ := hx
    split at h
    · rename_i k i hi
      split at h
      · rename_i h0
        simp only [Option.some.injEq] at h
        obtain rfl := asI_sound hs hi
        refine .inr ⟨k, ?_⟩
        rw [hv, ← h, Int.toNat_of_nonneg h0]
      · cases h
    · cases h
theorem run_bound (P : Program) (w : World) (k : IntKind) (n y : Nat) (code : BoundsCode) (h : n ≤ y) : (Instr.sliceBound (.int k (n : Int)) y code).run P w = .ok n w := by
  have := run_sliceBound (P := P) w k (n : Int) y code (by omega) (by omega)
  simpa using this
end Go.N
