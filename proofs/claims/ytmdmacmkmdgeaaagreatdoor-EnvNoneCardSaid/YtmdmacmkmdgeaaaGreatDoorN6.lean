/- One operation. -/
import Derived.Test.YtmdmacmkmdgeaaaGreatDoorN5e
namespace Go.N
open Go Go.RowKit

def partsE (Z : Nat → Bool) (fr : List V) : List (Nat × Operand) → Option (List (Nat × V))
  | [] => some []
  | (i, x) :: l => match opnd Z fr x, partsE Z fr l with
    | some s, some ss => some ((i, s) :: ss)
    | _, _ => none
theorem partsE_sound {Z : Nat → Bool} {fr : List V} {q : Q} {a : Act} (hz : GQ Z q) (hs : RL q fr a.tmps.toList) : ∀ {l : List (Nat × Operand)} {xs : List (Nat × V)}, partsE Z fr l = some xs → PL q xs (l.map fun (i, x) => (i, a.eval x))
  | [], xs, h => by simp only [partsE, Option.some.injEq] at h; subst h; rfl
  | (i, x) :: l, xs, h => by
    simp only [partsE] at h
    split at h
    · rename_i s ss h1 h2
      simp only [Option.some.injEq] at h
      subst h
      exact ⟨_, _, opnd_sound hz hs h1, partsE_sound hz hs h2, rfl⟩
    · cases h
def optE (Z : Nat → Bool) (fr : List V) : Option Operand → Option (Option V)
  | none => some none
  | some x => (opnd Z fr x).map some
theorem optE_sound {Z : Nat → Bool} {fr : List V} {q : Q} {a : Act} (hz : GQ Z q) (hs : RL q fr a.tmps.toList) {x : Option Operand} {r : Option V} (h : optE Z fr x = some r) : OR q r (x.map a.eval) := by
  cases x with
  | none => simp only [optE, Option.some.injEq] at h; subst h; rfl
  | some y =>
    simp only [optE, Option.map_eq_some_iff] at h
    obtain ⟨s, hs', rfl⟩ := h
    exact ⟨_, opnd_sound hz hs hs', rfl⟩

def isIface (P : Program) (t : TypeId) : Option Bool := match P.underlying t with
  | some (.interface _) => some true
  | some _ => some false
  | none => none

def assertE (P : Program) (x : V) (asserted : TypeId) (ok : Bool) : Option V :=
  match isIface P asserted with
  | some false => match x with
    | .ifc t v => if t = asserted then some (bif ok then .tup [v, .sc (.bool true)] else v)
      else bif ok then (zeroV P asserted).map fun z => .tup [z, .sc (.bool false)] else none
    | .sc .nilIface => bif ok then (zeroV P asserted).map fun z => .tup [z, .sc (.bool false)] else none
    | _ => none
  | _ => none
theorem assertE_run {P : Program} {q : Q} (w : World) {x y : V} {v : Value} {xt asserted : TypeId} {ok : Bool} (hx : R q x v) (he : assertE P x asserted ok = some y) :
    ∃ u, (Instr.typeAssert v xt asserted ok).run P w = .ok u w ∧ R q y u := by
  unfold assertE isIface at he
  split at he
  · rename_i hi
    split at hi
    · cases hi
    · rename_i d hnot hd
      split at he
      · rename_i t z
        obtain ⟨u, hu, rfl⟩ := hx
        split at he
        · rename_i ht
          subst ht
          simp only [Option.some.injEq] at he
          subst he
          refine ⟨if ok then .tuple #[u, .bool true] else u, ?_, ?_⟩
          · cases d <;> first
              | exact (hnot _ rfl).elim
              | (simp only [Instr.typeAssert, Sem.run_bind, run_underlying hd, Result.andThen_ok, if_true, Sem.run_pure])
          · cases ok
            · exact hu
            · exact R.pair hu ⟨rfl, rfl⟩
        · rename_i ht
          cases ok
          · cases he
          · obtain ⟨z', hz, rfl⟩ := Option.map_eq_some_iff.1 he
            obtain ⟨zv, z1, z2⟩ := zeroV_run (q := q) w hz
            refine ⟨.tuple #[zv, .bool false], ?_, R.pair z2 ⟨rfl, rfl⟩⟩
            cases d <;> first
              | exact (hnot _ rfl).elim
              | (simp only [Instr.typeAssert, Sem.run_bind, run_underlying hd, Result.andThen_ok, if_neg ht, if_true, z1, Sem.run_pure])
      · obtain ⟨rfl, _⟩ := hx
        cases ok
        · cases he
        · obtain ⟨z', hz, rfl⟩ := Option.map_eq_some_iff.1 he
          obtain ⟨zv, z1, z2⟩ := zeroV_run (q := q) w hz
          refine ⟨.tuple #[zv, .bool false], ?_, R.pair z2 ⟨rfl, rfl⟩⟩
          cases d <;> first
            | exact (hnot _ rfl).elim
            | (simp only [Instr.typeAssert, Sem.run_bind, run_underlying hd, Result.andThen_ok, if_true, z1, Sem.run_pure])
      · cases he
    · cases hi
  · cases he

def flatL : List V → Option (List Value)
  | [] => some []
  | s :: l => match valOf s, flatL l with
    | some v, some vs => some (v :: vs)
    | _, _ => none
theorem flatL_sound {q : Q} : ∀ {xs : List V} {vs us : List Value}, RL q xs vs → flatL xs = some us → vs = us
  | [], vs, us, h, e => by simp only [RL] at h; subst h; simpa [flatL] using e
  | x :: xs, _, us, ⟨v, ws, h1, h2, e0⟩, e => by
    subst e0
    simp only [flatL] at e
    split at e
    · rename_i u us' k1 k2
      simp only [Option.some.injEq] at e
      subst e
      rw [valOf_sound h1 k1, flatL_sound h2 k2]
    · cases e

def builtinE (P : Program) (h : Hp) (b : Builtin) (argTypes : List TypeId) (type : TypeId) (consts : Array Bool) (xs : List V) : Option (V × Hp) :=
  match b, argTypes, xs with
  | .append, [t, u], [s, x] => match appendE P h t u s x with
    | some r => some r
    | none => appendZE P h t u s x
  | .len, [t], [.sl _ _ _ len _ _] => match sliceElem P t with
    | some _ => some (.sc (.int .i64 len), h)
    | none => none
  | .len, [t], [.mp id] => match mapParts P t, h.get id with
    | some _, some (.map es _) => some (.sc (.int .i64 es.length), h)
    | _, _ => none
  | .clear, [t], [x] => clearE P h t x
  | .copy, [t, _], [.sl a1 a2 a3 a4 a5 a6, .sl b1 b2 b3 b4 b5 b6] => copyE P h t (.sl a1 a2 a3 a4 a5 a6) (.sl b1 b2 b3 b4 b5 b6)
  | .cap, [t], [.sl _ _ _ _ cap true] => match sliceElem P t with
    | some _ => some (.sc (.int .i64 cap), h)
    | none => none
  | .append, _, _ => none
  | b, _, xs => match flatL xs with
    | some vs => match eval0 P (builtin b argTypes.toArray type consts vs.toArray) with
      | some (.value v) => (ofVal v).map fun x => (x, h)
      | _ => none
    | none => none

theorem builtinE_did {P : Program} {B : Nat} {q : Q} {h : Hp} {w : World} (hT : HT B q h w) {b : Builtin} {argTypes : List TypeId} {type : TypeId} {consts : Array Bool} {xs : List V} {vs : List Value} {x : V} {h' : Hp}
    (hx : RL q xs vs) (he : builtinE P h b argTypes type consts xs = some (x, h')) : Did P B q h w (builtin b argTypes.toArray type consts vs.toArray) x h' := by
  unfold builtinE at he
  split at he
  · obtain ⟨v, _, h1, ⟨v2, _, h2, h3, rfl⟩, rfl⟩ := hx
    simp only [RL] at h3
    subst h3
    split at he
    · rename_i r hr
      cases he
      exact appendE_did hT h1 h2 hr
    · exact appendZE_did hT h1 h2 he
  · rename_i t id off sz len cap ex
    obtain ⟨v, _, h1, h3, rfl⟩ := hx
    simp only [RL] at h3
    subst h3
    split at he
    · rename_i e hel
      simp only [Option.some.injEq, Prod.mk.injEq] at he
      obtain ⟨rfl, rfl⟩ := he
      obtain ⟨ee, c, a, k1, rfl, k2, k3, _⟩ := h1
      exact Did.val hT ⟨.int .i64 len, by simp [Builtin.len_, run_underlying (sliceElem_eq hel), goInt], rfl, rfl⟩
    · cases he
  · rename_i t id
    obtain ⟨v, _, h1, h3, rfl⟩ := hx
    simp only [RL] at h3
    subst h3
    split at he
    · rename_i p es clock hp hg
      obtain ⟨a, b⟩ := p
      simp only [Option.some.injEq, Prod.mk.injEq] at he
      obtain ⟨rfl, rfl⟩ := he
      obtain ⟨f, k1, rfl⟩ := h1
      obtain ⟨f', m1, ⟨fs, m2, m3⟩, _⟩ := hT.tie id _ hg
      rw [k1] at m1
      cases m1
      refine Did.val hT ⟨.int .i64 es.length, ?_, rfl, rfl⟩
      simp [Builtin.len_, run_underlying (mapParts_eq hp), run_getMap m2, goInt, m3.length]
    · cases he
  · obtain ⟨v, _, h1, h3, rfl⟩ := hx
    simp only [RL] at h3
    subst h3
    exact clearE_did hT h1 he
  · obtain ⟨v, _, h1, ⟨v2, _, h2, h3, rfl⟩, rfl⟩ := hx
    simp only [RL] at h3
    subst h3
    exact copyE_did hT h1 h2 he
  · rename_i t id off sz len cap
    obtain ⟨v, _, h1, h3, rfl⟩ := hx
    simp only [RL] at h3
    subst h3
    split at he
    · rename_i e hel
      simp only [Option.some.injEq, Prod.mk.injEq] at he
      obtain ⟨rfl, rfl⟩ := he
      obtain ⟨ee, c, a, k1, rfl, k2, k3, k4, k5, k6, k7⟩ := h1
      obtain rfl := k7 rfl
      exact Did.val hT ⟨.int .i64 c, by simp [Builtin.cap_, run_underlying (sliceElem_eq hel), goInt], rfl, rfl⟩
    · cases he
  · cases he
  · split at he
    · rename_i us hfl
      obtain rfl := flatL_sound hx hfl
      split at he
      · rename_i v hv
        obtain ⟨y, hy, hh⟩ := Option.map_eq_some_iff.1 he
        simp only [Prod.mk.injEq] at hh
        obtain ⟨rfl, rfl⟩ := hh
        exact fun _ => ⟨.value v, v, q, w, eval0_run P w _ _ hv, .inl rfl, hT, hT.fr, R.ofVal q v _ hy⟩
      · cases he
    · cases he

def stepOp (P : Program) (Z : Nat → Bool) (o : Oper) (fr : List V) (h : Hp) : Option (V × Hp) :=
  match o.op with
  | .move x | .assign x => (opnd Z fr x).map fun s => (s, h)
  | .pick c x y => match opnd Z fr c, opnd Z fr x, opnd Z fr y with
    | some (.sc (.bool b)), some s, some t => some (bif b then s else t, h)
    | _, _, _ => none
  | .binOp op t x y _ => match opnd Z fr x, opnd Z fr y with
    | some a, some b => (bin2 P op t x y a b).map fun s => (s, h)
    | _, _ => none
  | .unOp op _ x => ((opnd Z fr x).bind (flat1 P (Op.unary op))).map fun s => (s, h)
  | .convert s t x => match opnd Z fr x with
    | some a => match bytesE P h s t a with
      | some r => some r
      | none => (flat1 P (convert s t) a).map fun s => (s, h)
    | none => none
  | .load T x => match opnd Z fr x with
    | some (.ptr id off) => match cellsOf h id with
      | some cs => (loadC P T cs off).map fun s => (s, h)
      | none => none
    | _ => none
  | .nilCheck x => match opnd Z fr x with
    | some (.ptr id off) => some (.ptr id off, h)
    | some (.ifc t v) => some (.ifc t v, h)
    | some (.clo f a b) => some (.clo f a b, h)
    | some (.yld l) => some (.yld l, h)
    | _ => none
  | .fieldAddr s x f => ((opnd Z fr x).bind (fieldAddrE P s f)).map fun s => (s, h)
  | .field T x f => ((opnd Z fr x).bind (fieldE P T f)).map fun s => (s, h)
  | .indexAddr T x ix => match opnd Z fr x, opnd Z fr ix with
    | some a, some b => (indexAddrE P T a b).map fun s => (s, h)
    | _, _ => none
  | .index T x ix => match opnd Z fr x, opnd Z fr ix with
    | some a, some b => (indexE P T a b).map fun s => (s, h)
    | _, _ => none
  | .slice T x lo hi mx => match opnd Z fr x, optE Z fr lo, optE Z fr hi, optE Z fr mx with
    | some a, some l, some u, some m => (sliceE P h T a l u m).map fun s => (s, h)
    | _, _, _, _ => none
  | .extract x i => ((opnd Z fr x).bind (extractE i)).map fun s => (s, h)
  | .makeFunc (.func f) a b => match opndL Z fr a.toList, opndL Z fr b.toList with
    | some xs, some ys => some (.clo f xs ys, h)
    | _, _ => none
  | .build T parts => ((partsE Z fr parts.toList).bind (buildE P T)).map fun s => (s, h)
  | .makeInterface t x => match isIface P t with
    | some false => (opnd Z fr x).map fun s => (.ifc t s, h)
    | _ => none
  | .typeAssert x _ asserted ok => ((opnd Z fr x).bind fun a => assertE P a asserted ok).map fun s => (s, h)
  | .alloc T => allocE P h T
  | .box T x => (opnd Z fr x).bind (boxE h T)
  | .store T x y => match opnd Z fr x, opnd Z fr y with
    | some a, some b => storeE P h T a b
    | _, _ => none
  | .buildSlice T len parts => (partsE Z fr parts.toList).bind (buildSliceE P h T len)
  | .makeSlice T l c => match opnd Z fr l, opnd Z fr c with
    | some a, some b => makeSliceE P h T a b
    | _, _ => none
  | .makeMap T r => (optE Z fr r).bind (makeMapE P h T)
  | .lookup T m k ok => match opnd Z fr m, opnd Z fr k with
    | some a, some b => (lookupE P h T a b ok).map fun s => (s, h)
    | _, _ => none
  | .mapUpdate T m k x | .insert T m k x => match opnd Z fr m, opnd Z fr k, opnd Z fr x with
    | some a, some b, some c => mapUpdateE P h T a b c
    | _, _, _ => none
  | .mapEntry T m k => match opnd Z fr m, opnd Z fr k with
    | some a, some b => mapEntryE P h T a b
    | _, _ => none
  | .entryStore _ m s x => match opnd Z fr m, opnd Z fr s, opnd Z fr x with
    | some a, some b, some c => entryStoreE h a b c
    | _, _, _ => none
  | .call { callee := .builtin b, args, argTypes, .. } => match opndL Z fr args.toList with
    | some xs => builtinE P h b argTypes.toList o.type (args.map fun | .const _ => true | _ => false) xs
    | none => none
  | .range T x => (opnd Z fr x).bind (rangeE P h T)
  | .entry x => ((opnd Z fr x).bind (entryE h)).map fun s => (s, h)
  | _ => none

theorem map_h {α : Type} {x : Option α} {h : Hp} {r : α × Hp} (he : (x.map fun s => (s, h)) = some r) : x = some r.1 ∧ r.2 = h := by
  obtain ⟨s, hs, rfl⟩ := Option.map_eq_some_iff.1 he
  exact ⟨hs, rfl⟩

set_option maxHeartbeats 2000000 in
theorem stepOp_did {P : Program} {Z : Nat → Bool} {B : Nat} {q : Q} {h : Hp} {w : World} (hT : HT B q h w) (hz : GQ Z q) {fr : List V} {a : Act} (hs : RL q fr a.tmps.toList) {o : Oper} {x : V} {h' : Hp} (he : stepOp P Z o fr h = some (x, h')) :
    Did P B q h w (execOp a.eval o) x h' := by
  unfold stepOp at he
  unfold execOp
  split at he
  · rename_i y ho
    rw [ho]
    obtain ⟨e1, rfl⟩ := map_h he
    exact fun _ => ⟨_, _, q, w, rfl, .inl rfl, hT, hT.fr, opnd_sound hz hs e1⟩
  · rename_i y ho
    rw [ho]
    obtain ⟨e1, rfl⟩ := map_h he
    exact fun _ => ⟨_, _, q, w, rfl, .inl rfl, hT, hT.fr, opnd_sound hz hs e1⟩
  · rename_i c y z ho
    rw [ho]
    split at he
    · rename_i b s t e1 e2 e3
      simp only [Option.some.injEq, Prod.mk.injEq] at he
      obtain ⟨rfl, rfl⟩ := he
      have hc : a.eval c = .bool b := (opnd_sound hz hs e1).1
      refine fun _ => ⟨.value (if b then a.eval y else a.eval z), _, q, w, by simp [hc, asBool], .inl rfl, hT, hT.fr, ?_⟩
      cases b
      · exact opnd_sound hz hs e3
      · exact opnd_sound hz hs e2
    · cases he
  · rename_i op t y z yt ho
    rw [ho]
    split at he
    · rename_i s u e1 e2
      obtain ⟨e3, rfl⟩ := map_h he
      exact Did.val hT (bin2_run w (opnd_sound hz hs e1) (opnd_sound hz hs e2) e3)
    · cases he
  · rename_i op t y ho
    rw [ho]
    obtain ⟨e1, rfl⟩ := map_h he
    obtain ⟨s, e2, e3⟩ := Option.bind_eq_some_iff.1 e1
    exact Did.val hT (flat1_run w (opnd_sound hz hs e2) e3)
  · rename_i s t y ho
    rw [ho]
    split at he
    · rename_i b e1
      split at he
      · rename_i r hr
        cases he
        exact bytesE_did hT (opnd_sound hz hs e1) hr
      · obtain ⟨e2, rfl⟩ := map_h he
        exact Did.val hT (flat1_run w (opnd_sound hz hs e1) e2)
    · cases he
  · rename_i T y ho
    rw [ho]
    split at he
    · rename_i id off e1
      split at he
      · rename_i cs hg
        obtain ⟨e3, rfl⟩ := map_h he
        obtain ⟨e, k1, k2⟩ := opnd_sound hz hs e1
        obtain ⟨e', vs, m1, m2, m3, m4, m5⟩ := hT.holds hg
        rw [k1] at m1
        cases m1
        obtain ⟨v, r1, r2⟩ := loadC_run e3 m2 m3 m4
        exact Did.val hT ⟨v, by simp only [Instr.loadAt, k2, Instr.sureAddr, Sem.run_bind, Sem.run_pure, Result.andThen_ok, r1], r2⟩
      · cases he
    · cases he
  · rename_i y ho
    rw [ho]
    split at he
    · rename_i id off e1
      simp only [Option.some.injEq, Prod.mk.injEq] at he
      obtain ⟨rfl, rfl⟩ := he
      have hr := opnd_sound hz hs e1
      obtain ⟨e, k1, k2⟩ := hr
      exact fun _ => ⟨.value (a.eval y), _, q, w, by simp only [k2, Sem.run_pure], .inl rfl, hT, hT.fr, ⟨e, k1, k2⟩⟩
    · rename_i t v e1
      simp only [Option.some.injEq, Prod.mk.injEq] at he
      obtain ⟨rfl, rfl⟩ := he
      have hr := opnd_sound hz hs e1
      obtain ⟨e, k1, k2⟩ := hr
      exact fun _ => ⟨.value (a.eval y), _, q, w, by simp only [k2, Sem.run_pure], .inl rfl, hT, hT.fr, ⟨e, k1, k2⟩⟩
    · rename_i f xs ys e1
      simp only [Option.some.injEq, Prod.mk.injEq] at he
      obtain ⟨rfl, rfl⟩ := he
      have hr := opnd_sound hz hs e1
      obtain ⟨vs, us, k1, k3, k2⟩ := hr
      exact fun _ => ⟨.value (a.eval y), _, q, w, by simp only [k2, Sem.run_pure], .inl rfl, hT, hT.fr, ⟨vs, us, k1, k3, k2⟩⟩
    · rename_i l e1
      simp only [Option.some.injEq, Prod.mk.injEq] at he
      obtain ⟨rfl, rfl⟩ := he
      have hr := opnd_sound hz hs e1
      obtain ⟨e, k1, k2⟩ := hr
      exact fun _ => ⟨.value (a.eval y), _, q, w, by simp only [k2, Sem.run_pure], .inl rfl, hT, hT.fr, ⟨e, k1, k2⟩⟩
    · cases he
  · rename_i s y f ho
    rw [ho]
    obtain ⟨e1, rfl⟩ := map_h he
    obtain ⟨s, e2, e3⟩ := Option.bind_eq_some_iff.1 e1
    exact Did.val hT (fieldAddrE_run w (opnd_sound hz hs e2) e3)
  · rename_i s y f ho
    rw [ho]
    obtain ⟨e1, rfl⟩ := map_h he
    obtain ⟨s, e2, e3⟩ := Option.bind_eq_some_iff.1 e1
    exact Did.val hT (fieldE_run w (opnd_sound hz hs e2) e3)
  · rename_i T y z ho
    rw [ho]
    split at he
    · rename_i s u e1 e2
      obtain ⟨e3, rfl⟩ := map_h he
      exact Did.val hT (indexAddrE_run w (opnd_sound hz hs e1) (opnd_sound hz hs e2) e3)
    · cases he
  · rename_i T y z ho
    rw [ho]
    split at he
    · rename_i s u e1 e2
      obtain ⟨e3, rfl⟩ := map_h he
      exact Did.val hT (indexE_run w (opnd_sound hz hs e1) (opnd_sound hz hs e2) e3)
    · cases he
  · rename_i T y lo hi mx ho
    rw [ho]
    split at he
    · rename_i s l u m e1 e2 e3 e4
      obtain ⟨e5, rfl⟩ := map_h he
      exact Did.val hT (sliceE_run hT (opnd_sound hz hs e1) (optE_sound hz hs e2) (optE_sound hz hs e3) (optE_sound hz hs e4) e5)
    · cases he
  · rename_i y i ho
    rw [ho]
    obtain ⟨e1, rfl⟩ := map_h he
    obtain ⟨s, e2, e3⟩ := Option.bind_eq_some_iff.1 e1
    exact Did.val hT (extractE_run w (opnd_sound hz hs e2) e3)
  · rename_i f xs ys ho
    rw [ho]
    split at he
    · rename_i s u e1 e2
      simp only [Option.some.injEq, Prod.mk.injEq] at he
      obtain ⟨rfl, rfl⟩ := he
      have k1 := opndL_sound hz hs e1
      have k2 := opndL_sound hz hs e2
      refine Did.val hT ⟨.func (.func f) (xs.map a.eval) (ys.map a.eval), by simp [Instr.makeFunc], _, _, k1, k2, ?_⟩
      congr 1 <;> (apply Array.ext'; simp)
    · cases he
  · rename_i T parts ho
    rw [ho]
    obtain ⟨e1, rfl⟩ := map_h he
    obtain ⟨s, e2, e3⟩ := Option.bind_eq_some_iff.1 e1
    have k := partsE_sound (a := a) hz hs e2
    exact Did.val hT (buildE_run w (vparts := parts.map fun (i, x) => (i, a.eval x)) (by simpa using k) e3)
  · rename_i t y ho
    rw [ho]
    split at he
    · rename_i hi
      obtain ⟨s, e1, e2⟩ := Option.map_eq_some_iff.1 he
      simp only [Prod.mk.injEq] at e2
      obtain ⟨rfl, rfl⟩ := e2
      unfold isIface at hi
      split at hi
      · cases hi
      · rename_i d hnot hd
        refine Did.val hT ⟨.iface t (a.eval y), ?_, _, opnd_sound hz hs e1, rfl⟩
        cases d <;> first
          | exact (hnot _ rfl).elim
          | simp only [Instr.makeInterface, Sem.run_bind, run_underlying hd, Result.andThen_ok, Sem.run_pure]
      · cases hi
    · cases he
  · rename_i y xt asserted ok ho
    rw [ho]
    obtain ⟨e1, rfl⟩ := map_h he
    obtain ⟨s, e2, e3⟩ := Option.bind_eq_some_iff.1 e1
    exact Did.val hT (assertE_run w (opnd_sound hz hs e2) e3)
  · rename_i T ho
    rw [ho]
    exact allocE_did hT he
  · rename_i T y ho
    rw [ho]
    obtain ⟨s, e2, e3⟩ := Option.bind_eq_some_iff.1 he
    exact boxE_did hT (opnd_sound hz hs e2) e3
  · rename_i T y z ho
    rw [ho]
    split at he
    · rename_i s u e1 e2
      exact storeE_did hT (opnd_sound hz hs e1) (opnd_sound hz hs e2) he
    · cases he
  · rename_i T len parts ho
    rw [ho]
    obtain ⟨s, e2, e3⟩ := Option.bind_eq_some_iff.1 he
    have k := partsE_sound (a := a) hz hs e2
    exact buildSliceE_did hT (vparts := parts.map fun (i, x) => (i, a.eval x)) (by simpa using k) e3
  · rename_i T y z ho
    rw [ho]
    split at he
    · rename_i s u e1 e2
      exact makeSliceE_did hT (opnd_sound hz hs e1) (opnd_sound hz hs e2) he
    · cases he
  · rename_i T r ho
    rw [ho]
    obtain ⟨s, e2, e3⟩ := Option.bind_eq_some_iff.1 he
    exact makeMapE_did hT (optE_sound hz hs e2) e3
  · rename_i T m k ok ho
    rw [ho]
    split at he
    · rename_i s u e1 e2
      obtain ⟨e3, rfl⟩ := map_h he
      exact Did.val hT (lookupE_run hT (opnd_sound hz hs e1) (opnd_sound hz hs e2) e3)
    · cases he
  · rename_i T m k y ho
    rw [ho]
    split at he
    · rename_i s u v e1 e2 e3
      exact mapUpdateE_did hT (opnd_sound hz hs e1) (opnd_sound hz hs e2) (opnd_sound hz hs e3) he
    · cases he
  · rename_i T m k y ho
    rw [ho]
    split at he
    · rename_i s u v e1 e2 e3
      exact mapUpdateE_did hT (opnd_sound hz hs e1) (opnd_sound hz hs e2) (opnd_sound hz hs e3) he
    · cases he
  · rename_i T m k ho
    rw [ho]
    split at he
    · rename_i s u e1 e2
      exact mapEntryE_did hT (opnd_sound hz hs e1) (opnd_sound hz hs e2) he
    · cases he
  · rename_i T m k y ho
    rw [ho]
    split at he
    · rename_i s u v e1 e2 e3
      exact entryStoreE_did hT (opnd_sound hz hs e1) (opnd_sound hz hs e2) (opnd_sound hz hs e3) he
    · cases he
  · rename_i b args argTypes ho
    rw [ho]
    split at he
    · rename_i xs e1
      have k := opndL_sound (a := a) hz hs e1
      have := builtinE_did (vs := args.toList.map a.eval) hT k he
      intro hfree
      obtain ⟨nx, v, q', w', r1, r2⟩ := this hfree
      refine ⟨nx, v, q', w', ?_, r2⟩
      simp only [resolve, Sem.run_bind, Sem.run_pure, Result.andThen_ok, invoke]
      have hh : (args.toList.map a.eval).toArray = args.map a.eval := by apply Array.ext'; simp
      rw [hh, Array.toArray_toList] at r1
      exact r1
    · cases he
  · rename_i T y ho
    rw [ho]
    obtain ⟨s, e2, e3⟩ := Option.bind_eq_some_iff.1 he
    exact rangeE_did hT (opnd_sound hz hs e2) e3
  · rename_i y ho
    rw [ho]
    obtain ⟨e1, rfl⟩ := map_h he
    obtain ⟨s, e2, e3⟩ := Option.bind_eq_some_iff.1 e1
    exact Did.val hT (entryE_run hT (opnd_sound hz hs e2) e3)
  · cases he
end Go.N
