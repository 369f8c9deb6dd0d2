/- Ranges over maps: all ends of code; one end for all. -/
import Derived.Test.YtmdmacmkmdgeaaaGreatDoorN13
namespace Go.N
open Go Go.RowKit

theorem next_wp {ro : Option Nat} {m : Nat} {P : Program} {Z : Nat → Bool} {B : Nat} {q : Q} {h : Hp} {w : World} (hT : HT B q h w) (hz : GQ Z q) {fr : List V} {a : Act} (hs : RL q fr a.tmps.toList) {o : Oper} {x : Operand} (ho : o.op = .next x false) {v : V} (hv : opnd Z fr x = some v)
    {rs : List (V × Hp)} (he : nextE h v = some rs) (K : Act → World → Prop) (Qx : Exit → Act → World → Prop)
    (hret : ∀ y h' u q' w', (y, h') ∈ rs → HT B q' h' w' → Fr q h w q' h' w' → R q' y u → K (a.put o.dst u) w') : o.wpIn (FN ro) m P a w K Qx := by
  have hnd : ∀ c, o.op ≠ .defer c := fun c hc => by rw [ho] at hc; cases hc
  refine ⟨fun f _ => FN_fn ro f, ?_⟩
  rw [Oper.semAt_eq _ _ _ hnd]
  obtain ⟨y, h', u, w', k1, k2, k3, k4, k5⟩ := nextE_did (P := P) (ty := o.type) hT (opnd_sound (a := a) hz hs hv) he
  have hrun : (execOp a.eval o).run P w = .ok (.value u) w' := by
    simp only [execOp, ho, Sem.run_bind, k2, Result.andThen_ok, Sem.run_pure]
  rw [hrun]
  exact hret y h' u q w' k1 k3 k4 k5

def nextReg (ops : Array Oper) : Option (Oper × Oper × Operand) := match ops.toList with
  | [o0, o1] => match o0.op with
    | .next x false => if o0.guard.isNone && o1.guard.isNone && (psOf o0).isEmpty && (psOf o1 == [0]) then some (o0, o1, x) else none
    | _ => none
  | _ => none
theorem nextReg_parts {ops : Array Oper} {o0 o1 : Oper} {x : Operand} (h : nextReg ops = some (o0, o1, x)) :
    ops = #[o0, o1] ∧ o0.op = .next x false ∧ o0.guard = none ∧ o1.guard = none ∧ psOf o0 = [] ∧ psOf o1 = [0] := by
  unfold nextReg at h
  split at h
  · rename_i a b hl
    split at h
    · rename_i y hop
      split at h
      · rename_i hc
        simp only [Option.some.injEq, Prod.mk.injEq] at h
        obtain ⟨rfl, rfl, rfl⟩ := h
        simp only [Bool.and_eq_true, Option.isNone_iff_eq_none, List.isEmpty_iff, beq_iff_eq] at hc
        exact ⟨Array.ext' (by simpa using hl), hop, hc.1.1.1, hc.1.1.2, hc.1.2, hc.2⟩
      · cases h
    · cases h
  · cases h

/-- An end is good if its numbers are below a bound. -/
def chk (N : Nat) (r : St) : Option (List St) := bif Nat.ble r.2.2.next N then some [r] else none
def stepsN (P : Program) (Z : Nat → Bool) (E : Env) (N : Nat) (o0 o1 : Oper) (fr : List V) : List (V × Hp) → Option (List St)
  | [] => some []
  | (y, h) :: l => match oneOp P Z E o1 (putF fr o0.dst y) h, stepsN P Z E N o0 o1 fr l with
    | some (.ret b, h'), some rs => bif Nat.ble h'.next N then some ((.normal, putF (putF fr o0.dst y) o1.dst b, h') :: rs) else none
    | _, _ => none
theorem stepsN_at {P : Program} {Z : Nat → Bool} {E : Env} {N : Nat} {o0 o1 : Oper} {fr : List V} : ∀ {l : List (V × Hp)} {rs : List St}, stepsN P Z E N o0 o1 fr l = some rs → ∀ {y h}, (y, h) ∈ l →
    ∃ b h', oneOp P Z E o1 (putF fr o0.dst y) h = some (.ret b, h') ∧ h'.next ≤ N ∧ (.normal, putF (putF fr o0.dst y) o1.dst b, h') ∈ rs
  | (y', h0) :: l, rs, he, y, h, hm => by
    simp only [stepsN] at he
    split at he
    · rename_i b h' rs' h1 h2
      cases hb : Nat.ble h'.next N with
      | false => simp [hb] at he
      | true =>
        simp only [hb, cond_true, Option.some.injEq] at he
        subst he
        rcases List.mem_cons.1 hm with hm | hm
        · simp only [Prod.mk.injEq] at hm
          obtain ⟨rfl, rfl⟩ := hm
          exact ⟨b, h', h1, Nat.le_of_ble_eq_true hb, List.mem_cons_self⟩
        · obtain ⟨b2, h2', k1, k2, k3⟩ := stepsN_at h2 hm
          exact ⟨b2, h2', k1, k2, List.mem_cons_of_mem _ k3⟩
    · cases he
  | [], rs, he, y, h, hm => by cases hm
def bindM (f : List V → Hp → Option (List St)) : List St → Option (List St)
  | [] => some []
  | (.normal, fr, h) :: l => match f fr h, bindM f l with
    | some a, some b => some (a ++ b)
    | _, _ => none
  | r :: l => (bindM f l).map (r :: ·)
theorem bindM_at {f : List V → Hp → Option (List St)} : ∀ {l rs : List St}, bindM f l = some rs → ∀ {r}, r ∈ l →
    (∃ fr h, r = (.normal, fr, h) ∧ ∃ a, f fr h = some a ∧ ∀ x ∈ a, x ∈ rs) ∨ (r.1 ≠ .normal ∧ r ∈ rs)
  | (ex, fr, h) :: l, rs, he, r, hm => by
    cases ex with
    | normal =>
      simp only [bindM] at he
      split at he
      · rename_i a b h1 h2
        simp only [Option.some.injEq] at he
        subst he
        rcases List.mem_cons.1 hm with rfl | hm
        · exact .inl ⟨fr, h, rfl, a, h1, fun x hx => List.mem_append_left _ hx⟩
        · rcases bindM_at h2 hm with ⟨fr', h', k1, a', k2, k3⟩ | ⟨k1, k2⟩
          · exact .inl ⟨fr', h', k1, a', k2, fun x hx => List.mem_append_right _ (k3 x hx)⟩
          · exact .inr ⟨k1, List.mem_append_right _ k2⟩
      · cases he
    | exit j =>
      simp only [bindM] at he
      obtain ⟨rs', h2, rfl⟩ := Option.map_eq_some_iff.1 he
      rcases List.mem_cons.1 hm with rfl | hm
      · exact .inr ⟨by simp, List.mem_cons_self⟩
      · rcases bindM_at h2 hm with ⟨fr', h', k1, a', k2, k3⟩ | ⟨k1, k2⟩
        · exact .inl ⟨fr', h', k1, a', k2, fun x hx => List.mem_cons_of_mem _ (k3 x hx)⟩
        · exact .inr ⟨k1, List.mem_cons_of_mem _ k2⟩
    | ret =>
      simp only [bindM] at he
      obtain ⟨rs', h2, rfl⟩ := Option.map_eq_some_iff.1 he
      rcases List.mem_cons.1 hm with rfl | hm
      · exact .inr ⟨by simp, List.mem_cons_self⟩
      · rcases bindM_at h2 hm with ⟨fr', h', k1, a', k2, k3⟩ | ⟨k1, k2⟩
        · exact .inl ⟨fr', h', k1, a', k2, fun x hx => List.mem_cons_of_mem _ (k3 x hx)⟩
        · exact .inr ⟨k1, List.mem_cons_of_mem _ k2⟩
    | pan x =>
      simp only [bindM] at he
      obtain ⟨rs', h2, rfl⟩ := Option.map_eq_some_iff.1 he
      rcases List.mem_cons.1 hm with rfl | hm
      · exact .inr ⟨by simp, List.mem_cons_self⟩
      · rcases bindM_at h2 hm with ⟨fr', h', k1, a', k2, k3⟩ | ⟨k1, k2⟩
        · exact .inl ⟨fr', h', k1, a', k2, fun x hx => List.mem_cons_of_mem _ (k3 x hx)⟩
        · exact .inr ⟨k1, List.mem_cons_of_mem _ k2⟩
  | [], rs, he, r, hm => by cases hm
def iterM : Nat → (List V → Hp → Option (List St)) → List V → Hp → Option (List St)
  | 0, _ => fun _ _ => none
  | m + 1, f => fun fr h => (f fr h).bind (bindM (iterM m f))
def inBlock1 (id : Nat) : St → St
  | (.exit j, fr, h) => if j = id then (.normal, fr, h) else (.exit j, fr, h)
  | r => r
def evalM (P : Program) (Z : Nat → Bool) (E : Env) (N n : Nat) : Code → List V → Hp → Option (List St)
  | .region id ops ord => match nextReg ops with
    | some (o0, o1, x) => fun fr h => match opnd Z fr x with
      | some v => match nextE h v with
        | some l => stepsN P Z E N o0 o1 fr l
        | none => none
      | none => none
    | none => fun fr h => (evalC P Z E none n (.region id ops ord) fr h).bind (chk N)
  | .seq x y => fun fr h => (evalM P Z E N n x fr h).bind (bindM (evalM P Z E N n y))
  | .cond c x y => fun fr h => match opnd Z fr c with
    | some (.sc (.bool true)) => evalM P Z E N n x fr h
    | some (.sc (.bool false)) => evalM P Z E N n y fr h
    | _ => none
  | .block id x => fun fr h => (evalM P Z E N n x fr h).map (·.map (inBlock1 id))
  | .loop x => iterM n (evalM P Z E N n x)
  | c => fun fr h => (evalC P Z E none n c fr h).bind (chk N)

/-- What code comes to: one of some ends. -/
def PostM (Z : Nat → Bool) (B : Nat) (q : Q) (h : Hp) (w : World) (ds : List Deferred) (rs : List St) : Exit → Act → World → Prop := fun e a w' => ∃ r ∈ rs, PostD Z B q h w ds r e a w'
theorem PostM.mono {Z : Nat → Bool} {B : Nat} {q q1 : Q} {h h1 : Hp} {w w1 : World} {ds ds1 : List Deferred} {rs rs' : List St} (hf : Fr q h w q1 h1 w1) (hm : MK w q1 h1 w1 ds ds1) (hsub : ∀ r ∈ rs, r ∈ rs') {e : Exit} {a : Act} {w' : World} (hp : PostM Z B q1 h1 w1 ds1 rs e a w') : PostM Z B q h w ds rs' e a w' := by
  obtain ⟨r, h1, h2⟩ := hp
  exact ⟨r, hsub r h1, h2.chain hf hm⟩
theorem chk_eq {N : Nat} {r : St} {rs : List St} (h : chk N r = some rs) : rs = [r] ∧ r.2.2.next ≤ N := by
  unfold chk at h
  cases hb : Nat.ble r.2.2.next N with
  | false => simp [hb] at h
  | true =>
    simp only [hb, cond_true, Option.some.injEq] at h
    exact ⟨h.symm, Nat.le_of_ble_eq_true hb⟩

theorem not_ready {ops : Array Oper} {listed : Array Bool} {i : Nat} (h : i ∈ Region.ready .any ops listed) : i < ops.size ∧ listed.getD i true = false ∧ ∀ o, ops[i]? = some o → ∀ e ∈ psOf o, listed.getD e false = true := by
  unfold Region.ready at h
  obtain ⟨hi1, hi2⟩ := List.mem_filter.1 h
  have hlt := List.mem_range.1 hi1
  have ho : ops[i]? = some ops[i] := Array.getElem?_eq_getElem hlt
  simp only [Bool.and_eq_true, Bool.not_eq_true', ho, Option.map_some, Option.getD_some, Array.all_eq_true_iff_forall_mem] at hi2
  refine ⟨hlt, hi2.1, fun o ho' e he => ?_⟩
  rw [ho] at ho'
  cases ho'
  simp only [psOf, List.mem_map, List.mem_filter] at he
  obtain ⟨ed, ⟨hed, hb⟩, rfl⟩ := he
  have := hi2.2 ed (by simpa using hed)
  simp only [hb, Bool.not_true, Bool.false_or] at this
  exact this
theorem ready_of {ops : Array Oper} {listed : Array Bool} {i : Nat} {o : Oper} (ho : ops[i]? = some o) (h1 : listed.getD i true = false) (h2 : ∀ e ∈ psOf o, listed.getD e false = true) : i ∈ Region.ready .any ops listed := by
  unfold Region.ready
  have hlt : i < ops.size := (Array.getElem?_eq_some_iff.1 ho).1
  refine List.mem_filter.2 ⟨List.mem_range.2 hlt, ?_⟩
  simp only [Bool.and_eq_true, Bool.not_eq_true', ho, Option.map_some, Option.getD_some, Array.all_eq_true_iff_forall_mem]
  refine ⟨h1, fun e he => ?_⟩
  cases hb : Region.binds .any e with
  | false => rfl
  | true =>
    have hin : e.on ∈ psOf o := by
      simp only [psOf, List.mem_map, List.mem_filter]
      exact ⟨e, ⟨by simpa using he, hb⟩, rfl⟩
    have := h2 _ hin
    simpa using this

theorem region_next {P : Program} {Z : Nat → Bool} {E : Env} {m0 : Nat} (hE : EnvOk P Z E) (hm : P.follows .mixedOrders = true) {B N : Nat} {ops : Array Oper} {o0 o1 : Oper} {x : Operand} (hn : nextReg ops = some (o0, o1, x)) {id : Nat} {ord : Bool}
    {fr : List V} {q : Q} {h : Hp} {w : World} {a : Act} {v : V} {l : List (V × Hp)} {rs : List St} (hT : HT B q h w) (hf : Free q h.next N) (hz : GQ Z q) (hs : RL q fr a.tmps.toList) (hv : opnd Z fr x = some v) (hl : nextE h v = some l) (he : stepsN P Z E N o0 o1 fr l = some rs) :
    (Code.region id ops ord).wpIn (FN none) m0 P (PostM Z B q h w a.defers rs) a w := by
  obtain ⟨rfl, hop, g0, g1, p0, p1⟩ := nextReg_parts hn
  have w0 : ∀ (a : Act), Region.wanted o0 (yielded #[o0, o1] a.tmps) = true := fun a => by unfold Region.wanted; rw [g0]
  have w1 : ∀ (a : Act), Region.wanted o1 (yielded #[o0, o1] a.tmps) = true := fun a => by unfold Region.wanted; rw [g1]
  have step : ∀ (w1 : World) (K : Act → World → Prop), w1.heap = w.heap → w1.os = w.os → w1.tape = w.tape → w1.output = w.output →
      (∀ y h1 u q1 w2, (y, h1) ∈ l → HT B q1 h1 w2 → Fr q h w q1 h1 w2 → R q1 y u → K (a.put o0.dst u) w2) → o0.wpIn (FN none) m0 P a w1 K (PostM Z B q h w a.defers rs) := by
    intro w1 K e1 e2 e3 e4 hK
    have hT1 : HT B q h w1 := ⟨⟨by rw [e1]; exact hT.tie, hT.inj, by rw [e1]; exact hT.dom, by rw [e1]; exact hT.base⟩, hT.hid, hT.lim, hT.wf⟩
    refine next_wp hT1 hz hs hop hv hl _ _ ?_
    intro y h1 u q1 w2 k1 k2 k3 k4
    refine hK y h1 u q1 w2 k1 k2 ?_ k4
    exact ⟨k3.ext, k3.win, fun b hb hn => by rw [k3.out b (by rw [e1]; exact hb) hn, e1], by rw [← e1]; exact k3.size, k3.os.trans e2, k3.tape.trans e3, k3.output.trans e4, k3.next, k3.lim, k3.hid, fun i o e hi hq => by
      rcases k3.old i o e hi hq with k | ⟨m1, m2, m3⟩
      · exact .inl k
      · refine .inr ⟨m1, m2, ?_⟩
        rcases m3 with m3 | m3
        · exact .inl (by rw [← e1]; exact m3)
        · exact .inr m3, k3.ro, k3.inv⟩
  have second : ∀ (K : Act → World → Prop), (∀ a' w', PostM Z B q h w a.defers rs .normal a' w' → K a' w') → ∀ y h1 u q1 w2, (y, h1) ∈ l → HT B q1 h1 w2 → Fr q h w q1 h1 w2 → R q1 y u →
      o1.wpIn (FN none) m0 P (a.put o0.dst u) w2 K (PostM Z B q h w a.defers rs) := by
    intro K hK y h1 u q1 w2 k1 k2 k3 k4
    obtain ⟨b, h2, n1, n2, n3⟩ := stepsN_at he k1
    refine oneOp_wp hE k2 (hz.mono k3.ext) (RL.put (RL.mono k3.ext _ _ hs) o0.dst k4) ((hf.right k3).left n2) n1 _ _ ?_ (fun _ _ _ _ h => by cases h)
    intro x' v' q2 w3 hx t1 t2 t3
    cases hx
    refine hK _ _ ⟨_, n3, q2, t1, k3.trans t2, RL.put (RL.mono t2.ext _ _ (RL.put (RL.mono k3.ext _ _ hs) o0.dst k4)) o1.dst t3, ?_, rfl⟩
    rw [put_defers, put_defers]
    exact MK.refl _ _ _ _ _
  cases ord with
  | false =>
    refine wpIn_region_list ?_
    show wpListIn (FN none) m0 P #[o0, o1] _ [o0, o1] a w
    unfold wpListIn
    rw [if_pos (w0 a)]
    refine step w _ rfl rfl rfl rfl ?_
    intro y h1 u q1 w2 k1 k2 k3 k4
    unfold wpListIn
    rw [if_pos (w1 _)]
    refine second _ ?_ y h1 u q1 w2 k1 k2 k3 k4
    intro a' w' hp
    exact hp
  | true =>
    refine wpIn_region_any hm ?_
    have r0 : (0 : Nat) ∈ Region.ready .any #[o0, o1] (Array.replicate 2 false) := ready_of (o := o0) rfl rfl (by rw [p0]; intro e he; cases he)
    have r1 : (1 : Nat) ∈ Region.ready .any #[o0, o1] ((Array.replicate 2 false).setIfInBounds 0 true) := ready_of (o := o1) rfl rfl (by rw [p1]; intro e he; rw [List.mem_singleton] at he; subst he; rfl)
    show wpAnyIn (FN none) m0 P .any #[o0, o1] _ 2 (Array.replicate 2 false) a _
    refine ⟨fun hr => (by rw [hr] at r0; cases r0), fun i hi => ?_⟩
    obtain ⟨i1, i2, i3⟩ := not_ready hi
    have hi0 : i = 0 := by
      have i1 : i < 2 := i1
      rcases Nat.lt_or_ge i 1 with k | k
      · omega
      · obtain rfl : i = 1 := by omega
        have := i3 o1 rfl 0 (by rw [p1]; exact List.mem_singleton.2 rfl)
        cases this
    subst hi0
    show (if Region.wanted o0 (yielded #[o0, o1] a.tmps) = true then _ else _)
    rw [if_pos (w0 a)]
    refine step _ _ rfl rfl rfl rfl ?_
    intro y h1 u q1 w2 k1 k2 k3 k4
    refine ⟨fun hr => (by rw [hr] at r1; cases r1), fun i hi => ?_⟩
    obtain ⟨i1, i2, i3⟩ := not_ready hi
    have hi1 : i = 1 := by
      have i1 : i < 2 := i1
      rcases Nat.lt_or_ge i 1 with k | k
      · obtain rfl : i = 0 := by omega
        cases i2
      · omega
    subst hi1
    show (if Region.wanted o1 (yielded #[o0, o1] _) = true then _ else _)
    rw [if_pos (w1 _)]
    refine second _ ?_ y h1 u q1 w2 k1 k2 k3 k4
    intro a' w' hp
    refine ⟨?_, hp⟩
    unfold Region.ready
    refine List.filter_eq_nil_iff.2 (fun j hj => ?_)
    have hj : j < 2 := List.mem_range.1 hj
    rcases Nat.lt_or_ge j 1 with k | k
    · obtain rfl : j = 0 := by omega
      simp
    · obtain rfl : j = 1 := by omega
      simp
end Go.N
