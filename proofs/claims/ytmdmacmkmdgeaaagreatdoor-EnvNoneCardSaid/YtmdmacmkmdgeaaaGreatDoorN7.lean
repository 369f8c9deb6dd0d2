/- Calls, rows of operations. -/
import Derived.Test.YtmdmacmkmdgeaaaGreatDoorN7s
import Derived.OrdersIn
import Derived.LoopNIn
import Derived.TacticsIn
import Derived.RangeFuncCalls
import Derived.RangeFuncRecord
namespace Go.N
open Go Go.RowKit

inductive Out where
  | ret (x : V)
  | pan (x : V)
def OutR (q : Q) : Out → Ending → Prop
  | .ret x, .returned v => R q x v
  | .pan x, .panicked ch => ∃ v, R q x v ∧ ch = [{ v, recovered := false }]
  | _, _ => False

/-- What a function does with blocks. -/
def SC (P : Program) (Z : Nat → Bool) (f : FuncId) (args : List V) (h : Hp) (o : Out) (h' : Hp) : Prop :=
  ∀ (B : Nat) (q : Q) (w : World) (vs : List Value), HT B q h w → Free q h.next h'.next → GQ Z q → RL q args vs →
    Calls P f ⟨vs⟩ w fun e w' => ∃ q', HT B q' h' w' ∧ Fr q h w q' h' w' ∧ OutR q' o e
/-- A function without a body. -/
def XC (P : Program) (f : FuncId) (args : List V) (r : V) : Prop :=
  ∀ (q : Q) (w : World) (vs : List Value), RL q args vs → ∃ v, (callFunc f ⟨vs⟩).run P w = .ok (.value v) w ∧ R q r v

def hasBody (P : Program) (f : FuncId) : Bool := (P.funcs[f]?).any fun fn => fn.body.isSome && fn.name != "runtime.NumGoroutine"

/-- A call of yield: a round of the loop with that record. -/
def YC (P : Program) (Z : Nat → Bool) (l : Nat) (args : List V) (h : Hp) (x : V) (h' : Hp) : Prop :=
  ∀ (B : Nat) (q : Q) (w : World) (vs : List Value), HT B q h w → Free q h.next h'.next → GQ Z q → RL q args vs →
    ∃ e r, q l = some e ∧ w.heap[e.b]? = some (.loop r) ∧ vs.length = r.params.size ∧
      ∀ m, RoundIn Fence.wide m P e.b r.fn ((r.params.zip (⟨vs⟩ : Array Value)).foldl (fun tmps (t, a) => tmps.setIfInBounds t a) r.tmps) r.assign r.body w
        fun en w' => ∃ q' v, en = .returned v ∧ HT B q' h' w' ∧ Fr q h w q' h' w' ∧ R q' x v

structure Env where
  S : FuncId → List V → Hp → Option (Out × Hp)
  X : FuncId → List V → Option V
  Y : Nat → List V → Hp → Option (V × Hp) := fun _ _ _ => none
structure EnvOk (P : Program) (Z : Nat → Bool) (E : Env) : Prop where
  S : ∀ f args h o h', E.S f args h = some (o, h') → hasBody P f = true → SC P Z f args h o h'
  F : ∀ f args h o h', E.S f args h = some (o, h') → Sf h h'
  X : ∀ f args r, E.X f args = some r → hasBody P f = false → XC P f args r
  Y : ∀ l args h x h', E.Y l args h = some (x, h') → YC P Z l args h x h'
  FY : ∀ l args h x h', E.Y l args h = some (x, h') → Sf h h'

theorem run_callFunc {P : Program} {f : FuncId} (h : hasBody P f = true) (args : Array Value) (w : World) :
    (callFunc f args).run P w = .ok (.enter f args) w := by
  simp only [hasBody, Option.any_eq_true] at h
  obtain ⟨fn, hf, hb⟩ := h
  simp only [Bool.and_eq_true, bne_iff_ne, ne_eq] at hb
  obtain ⟨hb1, hb2⟩ := hb
  simp [callFunc, hf, hb2]
  intro hn
  simp [hn] at hb1

def calleeE (f : V) (args : List V) : Option (FuncId × List V) := match f with
  | .clo f a b => some (f, a ++ args ++ b)
  | _ => none
def isCall : Op → Bool
  | .call { callee := .value _, .. } => true
  | _ => false

/-- An operation's end: a value, or a panic. -/
def callOp (P : Program) (Z : Nat → Bool) (E : Env) (o : Oper) (fr : List V) (h : Hp) : Option (Out × Hp) :=
  match o.op with
  | .call { callee := .value f, args, .. } => match opnd Z fr f, opndL Z fr args.toList with
    | some fv, some xs => match calleeE fv xs with
      | some (f, all) => bif hasBody P f then E.S f all h else (E.X f all).map fun r => (.ret r, h)
      | none => match fv with
        | .yld l => (E.Y l xs h).map fun r => (.ret r.1, r.2)
        | _ => none
    | _, _ => none
  | _ => none

def wantedE (ops : Array Oper) (o : Oper) (fr : List V) : Option Bool :=
  match o.guard with
  | none => some true
  | some (j, want) => match (ops[j]?).bind (·.dst) with
    | some d => match fr[d]? with
      | some (.sc (.bool b)) => some (b == want)
      | some (.tup []) => some false
      | _ => none
    | none => some false
def putF (fr : List V) (dst : Option Tmp) (x : V) : List V := match dst with
  | some d => fr.set d x
  | none => fr
theorem RL.put {q : Q} {fr : List V} {a : Act} (hs : RL q fr a.tmps.toList) (dst : Option Tmp) {x : V} {v : Value} (hx : R q x v) : RL q (putF fr dst x) (a.put dst v).tmps.toList := by
  cases dst with
  | none => exact hs
  | some d =>
    simp only [putF, Act.put, Array.toList_setIfInBounds]
    exact hs.set d hx
theorem put_defers (a : Act) (dst : Option Tmp) (v : Value) : (a.put dst v).defers = a.defers := by cases dst <;> rfl

theorem wanted_sound {q : Q} {fr : List V} {a : Act} (hs : RL q fr a.tmps.toList) {ops : Array Oper} {o : Oper} {b : Bool}
    (h : wantedE ops o fr = some b) : Region.wanted o (yielded ops a.tmps) = b := by
  unfold wantedE at h
  unfold Region.wanted
  split at h
  · rename_i hg
    rw [hg]
    simpa using h
  · rename_i j want hg
    rw [hg]
    simp only
    unfold yielded
    split at h
    · rename_i d hd
      rw [hd]
      split at h
      · rename_i c hc
        simp only [Option.some.injEq] at h
        obtain ⟨v, hv, hr⟩ := hs.get d _ hc
        obtain ⟨rfl, _⟩ := hr
        have : a.tmps[d]? = some (.bool c) := by simpa using hv
        simp only [Option.bind_some, this]
        rw [← h]
        cases c <;> cases want <;> rfl
      · rename_i hc
        simp only [Option.some.injEq] at h
        obtain ⟨v, hv, hr⟩ := hs.get d _ hc
        obtain ⟨vs, hl, rfl⟩ := hr
        have : a.tmps[d]? = some (.tuple ⟨vs⟩) := by simpa using hv
        simp only [Option.bind_some, this]
        rw [← h]; rfl
      · cases h
    · rename_i hd
      rw [hd]
      simp only [Option.some.injEq] at h
      rw [← h]; rfl

/-- How a row of operations, or code, ends. -/
inductive Ex where
  | normal
  | exit (id : Nat)
  | ret
  | pan (x : V)
abbrev St := Ex × List V × Hp

def panicE (Z : Nat → Bool) (o : Oper) (fr : List V) : Option V := match o.op with
  | .panic x => match opnd Z fr x with
    | some (.ifc t v) => some (.ifc t v)
    | _ => none
  | _ => none

def oneOp (P : Program) (Z : Nat → Bool) (E : Env) (o : Oper) (fr : List V) (h : Hp) : Option (Out × Hp) :=
  match o.op with
  | .call { callee := .value _, .. } => callOp P Z E o fr h
  | .panic _ => (panicE Z o fr).map fun x => (.pan x, h)
  | _ => (stepOp P Z o fr h).map fun r => (.ret r.1, r.2)

def execOps (P : Program) (Z : Nat → Bool) (E : Env) (ops : Array Oper) : List Oper → List V → Hp → Option St
  | [], fr, h => some (.normal, fr, h)
  | o :: l, fr, h => match wantedE ops o fr with
    | some true => match oneOp P Z E o fr h with
      | some (.ret x, h') => execOps P Z E ops l (putF fr o.dst x) h'
      | some (.pan x, h') => some (.pan x, fr, h')
      | none => none
    | some false => execOps P Z E ops l (putF fr o.dst (.tup [])) h
    | none => none

/-- The fence: none; in a round, or not. -/
def FN (ro : Option Nat) : Fence := match ro with
  | none => Fence.wide
  | some l => Fence.wide.inRound l
theorem FN_fn (ro : Option Nat) (f : FuncId) : (FN ro).fn f := by cases ro <;> trivial
theorem FN_depth (ro : Option Nat) {p : Prop} (h : (FN ro).depth.isSome = true) : p := by cases ro <;> cases h
theorem FN_round (ro : Option Nat) : (FN ro).round = ro := by cases ro <;> rfl
theorem callsIn_FN {ro : Option Nat} {n : Nat} {P : Program} {f : FuncId} {args : Array Value} {w : World} {R : Ending → World → Prop} (h : Calls P f args w R) : CallsIn (FN ro) n P f args w R := by
  cases ro with
  | none => exact callsIn_wide.2 h
  | some l => exact (callsIn_wide.2 h : CallsIn Fence.wide n P f args w R)
theorem round_FN {ro : Option Nat} {n : Nat} {P : Program} {l : Nat} {f : FuncId} {tmps : Array Value} {assign body : Code} {w : World} {R : Ending → World → Prop} (h : RoundIn Fence.wide n P l f tmps assign body w R) : RoundIn (FN ro) n P l f tmps assign body w R := by
  cases ro with
  | none => exact h
  | some k => exact h
theorem oneOp_plain {P : Program} {Z : Nat → Bool} {E : Env} {o : Oper} {fr : List V} {h : Hp} {r : Out × Hp} (he : oneOp P Z E o fr h = some r) : ∀ c, o.op ≠ .defer c := by
  intro c hc
  unfold oneOp at he
  simp only [hc] at he
  unfold stepOp at he
  simp only [hc] at he
  cases he

/-- What an operation comes to, in the model's own words. -/
theorem oneOp_wp {ro : Option Nat} {m : Nat} {P : Program} {Z : Nat → Bool} {E : Env} (hE : EnvOk P Z E) {B : Nat} {q : Q} {h : Hp} {w : World} (hT : HT B q h w) (hz : GQ Z q) {fr : List V} {a : Act} (hs : RL q fr a.tmps.toList) {o : Oper} {r : Out} {h' : Hp} (hfree : Free q h.next h'.next)
    (he : oneOp P Z E o fr h = some (r, h')) (K : Act → World → Prop) (Qx : Exit → Act → World → Prop)
    (hret : ∀ x v q' w', r = .ret x → HT B q' h' w' → Fr q h w q' h' w' → R q' x v → K (a.put o.dst v) w')
    (hpan : ∀ x v q' w', r = .pan x → HT B q' h' w' → Fr q h w q' h' w' → R q' x v → Qx (.panic [{ v, recovered := false }]) a w') : o.wpIn (FN ro) m P a w K Qx := by
  have hnd := oneOp_plain he
  refine ⟨fun f _ => FN_fn ro f, ?_⟩
  rw [Oper.semAt_eq _ _ _ hnd]
  unfold oneOp at he
  have step : ∀ y, stepOp P Z o fr h = some y → r = .ret y.1 → h' = y.2 → o.uponIn (FN ro) m P a K Qx ((execOp a.eval o).run P w) := by
    intro y hy hr hh
    subst hh
    obtain ⟨nx, v, q', w', r1, r2, r3, r4, r5⟩ := stepOp_did hT hz hs hy hfree
    rw [r1]
    rcases r2 with rfl | ⟨rfl, rfl⟩
    · exact hret _ v q' w' hr r3 r4 r5
    · exact hret _ undef q' w' hr r3 r4 r5
  split at he
  · rename_i f args argTypes ho
    unfold callOp at he
    rw [ho] at he
    simp only at he
    split at he
    · rename_i fv xs e1 e2
      have k1 := opnd_sound hz hs e1
      have k2 := opndL_sound (a := a) hz hs e2
      split at he
      · rename_i f' all hc
        unfold calleeE at hc
        split at hc
        · rename_i g xs1 xs2
          simp only [Option.some.injEq, Prod.mk.injEq] at hc
          obtain ⟨rfl, rfl⟩ := hc
          obtain ⟨vs1, us1, m1, m2, m3⟩ := k1
          have hall := (m1.append k2).append m2
          have hrun : (execOp a.eval o).run P w = (callFunc g ⟨vs1 ++ args.toList.map a.eval ++ us1⟩).run P w := by
            simp only [execOp, ho, resolve, Sem.run_bind, m3, Deferred.ofValue, Sem.run_pure, Result.andThen_ok, invoke]
            congr 2
            apply Array.ext'
            simp
          rw [hrun]
          cases hb : hasBody P g with
          | true =>
            simp only [hb, cond_true] at he
            rw [run_callFunc hb, Oper.uponIn_enter]
            refine ⟨fun h => FN_depth ro h, callsIn_FN ?_⟩
            refine (hE.S _ _ _ _ _ he hb B q w _ hT hfree hz hall).mono ?_
            rintro e w' ⟨q', t1, t2, t3⟩
            cases r with
            | ret x =>
              cases e with
              | returned v => exact hret x v q' w' rfl t1 t2 t3
              | panicked ch => exact t3.elim
              | outgrown => exact t3.elim
            | pan x =>
              cases e with
              | returned v => exact t3.elim
              | panicked ch =>
                obtain ⟨v, t4, rfl⟩ := t3
                exact hpan x v q' w' rfl t1 t2 t4
              | outgrown => exact t3.elim
          | false =>
            simp only [hb, cond_false, Option.map_eq_some_iff, Prod.mk.injEq] at he
            obtain ⟨x, hx, rfl, rfl⟩ := he
            obtain ⟨v, t1, t2⟩ := hE.X _ _ _ hx hb q w _ hall
            rw [t1]
            exact hret x v q w rfl hT hT.fr t2
        · cases hc
      · split at he
        · rename_i l
          obtain ⟨⟨x, h2⟩, hy, hh⟩ := Option.map_eq_some_iff.1 he
          simp only [Prod.mk.injEq] at hh
          obtain ⟨rfl, rfl⟩ := hh
          obtain ⟨e, rec, t1, t2, t3, t4⟩ := hE.Y _ _ _ _ _ hy B q w _ hT hfree hz k2
          obtain ⟨e2, u1, u2⟩ := k1
          rw [t1] at u1
          cases u1
          have hrun : (execOp a.eval o).run P w = .ok (.round e.b rec.fn ((rec.params.zip (args.map a.eval)).foldl (fun tmps (t, a) => tmps.setIfInBounds t a) rec.tmps) rec.assign rec.body) w := by
            have hsz : (args.map a.eval).size = rec.params.size := by rw [← t3]; simp
            simp only [execOp, ho, resolve, Sem.run_bind, u2, Deferred.ofValue, Sem.run_pure, Result.andThen_ok, invoke, Array.empty_append]
            exact run_yield t2 hsz
          rw [hrun, Oper.uponIn_round]
          refine ⟨fun h => FN_depth ro h, round_FN ?_⟩
          have t5 := t4 (m - 1)
          have hargs : (⟨args.toList.map a.eval⟩ : Array Value) = args.map a.eval := by apply Array.ext'; simp
          rw [hargs] at t5
          refine t5.mono ?_
          rintro en w' ⟨q', v, rfl, k3, k4, k5⟩
          exact hret x v q' w' rfl k3 k4 k5
        · cases he
    · cases he
  · rename_i y ho
    obtain ⟨x, hx, hh⟩ := Option.map_eq_some_iff.1 he
    simp only [Prod.mk.injEq] at hh
    obtain ⟨rfl, rfl⟩ := hh
    unfold panicE at hx
    rw [ho] at hx
    simp only at hx
    split at hx
    · rename_i t v e1
      simp only [Option.some.injEq] at hx
      subst hx
      have k := opnd_sound hz hs e1
      obtain ⟨u, k1, k2⟩ := k
      have hrun : (execOp a.eval o).run P w = .halt (.panic (.iface t u)) w := by
        simp only [execOp, ho, Instr.panic, k2, goPanic, Sem.run_bind, Sem.run, Result.andThen]
      rw [hrun]
      exact hpan _ (.iface t u) q w rfl hT hT.fr ⟨u, k1, rfl⟩
    · cases hx
  · obtain ⟨y, hy, hh⟩ := Option.map_eq_some_iff.1 he
    simp only [Prod.mk.injEq] at hh
    exact step y hy hh.1.symm hh.2.symm

/-- What code comes to. -/
def PostC (_Z : Nat → Bool) (B : Nat) (q : Q) (h : Hp) (w : World) (ds : List Deferred) (r : St) : Exit → Act → World → Prop := fun e a w' =>
  ∃ q', HT B q' r.2.2 w' ∧ Fr q h w q' r.2.2 w' ∧ RL q' r.2.1 a.tmps.toList ∧ a.defers = ds ∧
    match r.1 with
    | .normal => e = .normal
    | .exit id => e = .exit id
    | .ret => e = .ret
    | .pan x => ∃ v, R q' x v ∧ e = .panic [{ v, recovered := false }]
theorem PostC.trans {Z : Nat → Bool} {B : Nat} {q q1 : Q} {h h1 : Hp} {w w1 : World} {ds : List Deferred} {r : St} (hf : Fr q h w q1 h1 w1) {e : Exit} {a : Act} {w' : World} (hp : PostC Z B q1 h1 w1 ds r e a w') : PostC Z B q h w ds r e a w' := by
  obtain ⟨q', h1, h2, h3, h4, h5⟩ := hp
  exact ⟨q', h1, hf.trans h2, h3, h4, h5⟩

theorem oneOp_sf {P : Program} {Z : Nat → Bool} {E : Env} (hE : EnvOk P Z E) {o : Oper} {fr : List V} {h h' : Hp} {r : Out} (he : oneOp P Z E o fr h = some (r, h')) : Sf h h' := by
  unfold oneOp at he
  split at he
  · unfold callOp at he
    split at he
    · split at he
      · split at he
        · rename_i f' all _
          cases hb : hasBody P f' with
          | true => simp only [hb, cond_true] at he; exact hE.F _ _ _ _ _ he
          | false =>
            simp only [hb, cond_false, Option.map_eq_some_iff, Prod.mk.injEq] at he
            obtain ⟨_, _, _, rfl⟩ := he
            exact Sf.refl _
        · split at he
          · obtain ⟨⟨_, _⟩, hy, hh⟩ := Option.map_eq_some_iff.1 he
            simp only [Prod.mk.injEq] at hh
            obtain ⟨_, rfl⟩ := hh
            exact hE.FY _ _ _ _ _ hy
          · cases he
      · cases he
    · cases he
  · obtain ⟨_, _, hh⟩ := Option.map_eq_some_iff.1 he
    simp only [Prod.mk.injEq] at hh
    obtain ⟨_, rfl⟩ := hh
    exact Sf.refl _
  · obtain ⟨y, hy, hh⟩ := Option.map_eq_some_iff.1 he
    simp only [Prod.mk.injEq] at hh
    obtain ⟨_, rfl⟩ := hh
    exact stepOp_sf (x := y.1) hy
theorem execOps_sf {P : Program} {Z : Nat → Bool} {E : Env} (hE : EnvOk P Z E) {ops : Array Oper} : ∀ (l : List Oper) {h : Hp} {fr : List V} {r : St}, execOps P Z E ops l fr h = some r → Sf h r.2.2
  | [], h, fr, r, he => by
    simp only [execOps, Option.some.injEq] at he
    subst he
    exact Sf.refl _
  | o :: l, h, fr, r, he => by
    simp only [execOps] at he
    split at he
    · split at he
      · rename_i x h' ho
        exact (oneOp_sf hE ho).trans (execOps_sf hE l he)
      · rename_i x h' ho
        simp only [Option.some.injEq] at he
        subst he
        exact oneOp_sf hE ho
      · cases he
    · exact execOps_sf hE l he
    · cases he

theorem Free.left {q : Q} {a b c : Nat} (h : Free q a c) (hb : b ≤ c) : Free q a b := fun id h1 h2 => h id h1 (by omega)
theorem Free.right {q q' : Q} {h h' : Hp} {w w' : World} {c : Nat} (hf : Free q h.next c) (fr : Fr q h w q' h' w') : Free q' h'.next c := fun id h1 h2 => by
  have := fr.next
  cases he : q' id with
  | none => rfl
  | some e =>
    rcases fr.win id e he with k | k
    · rw [hf id (by omega) h2] at k; cases k
    · omega

theorem execOps_sound {ro : Option Nat} {m : Nat} {P : Program} {Z : Nat → Bool} {E : Env} (hE : EnvOk P Z E) {B : Nat} {ops : Array Oper} {Qx : Exit → Act → World → Prop} :
    ∀ (l : List Oper) {q : Q} {h : Hp} {w : World} {fr : List V} {a : Act} {r : St}, HT B q h w → Free q h.next r.2.2.next → GQ Z q → RL q fr a.tmps.toList → execOps P Z E ops l fr h = some r →
      (∀ e a' w', PostC Z B q h w a.defers r e a' w' → Qx e a' w') → wpListIn (FN ro) m P ops Qx l a w
  | [], q, h, w, fr, a, r, hT, hf, hz, hs, he, hQ => by
    simp only [execOps, Option.some.injEq] at he
    subst he
    exact hQ _ _ _ ⟨q, hT, hT.fr, hs, rfl, rfl⟩
  | o :: l, q, h, w, fr, a, r, hT, hf, hz, hs, he, hQ => by
    simp only [execOps] at he
    split at he
    · rename_i hw
      unfold wpListIn
      rw [if_pos (wanted_sound hs hw)]
      split at he
      · rename_i x h' ho
        have hn := (execOps_sf hE l he).next
        refine oneOp_wp hE hT hz hs (hf.left hn) ho _ _ ?_ (fun _ _ _ _ h => by cases h)
        intro x' v q' w' hx h1 h2 h3
        cases hx
        refine execOps_sound hE l h1 (hf.right h2) (hz.mono h2.ext) (RL.put (RL.mono h2.ext _ _ hs) o.dst h3) he ?_
        rw [put_defers]
        exact fun e a' w'' hp => hQ _ _ _ (hp.trans h2)
      · rename_i x h' ho
        simp only [Option.some.injEq] at he
        subst he
        refine oneOp_wp hE hT hz hs hf ho _ _ (fun _ _ _ _ h => by cases h) ?_
        intro x' v q' w' hx h1 h2 h3
        cases hx
        exact hQ _ _ _ ⟨q', h1, h2, RL.mono h2.ext _ _ hs, rfl, v, h3, rfl⟩
      · cases he
    · rename_i hw
      unfold wpListIn
      rw [if_neg (by rw [wanted_sound hs hw]; simp)]
      refine ⟨fun f _ => FN_fn ro f, ?_⟩
      refine execOps_sound hE l hT hf hz (RL.put hs o.dst (x := .tup []) (v := undef) ⟨[], rfl, rfl⟩) he ?_
      rw [put_defers]
      exact hQ
    · cases he
end Go.N
