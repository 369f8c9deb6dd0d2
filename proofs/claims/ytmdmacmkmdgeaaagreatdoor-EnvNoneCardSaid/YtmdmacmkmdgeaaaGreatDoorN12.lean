/- Code, functions. -/
import Derived.Test.YtmdmacmkmdgeaaaGreatDoorN11
namespace Go.N
open Go Go.RowKit

def iter : Nat → (List V → Hp → Option St) → List V → Hp → Option St
  | 0, _ => fun _ _ => none
  | m + 1, f => fun fr h => match f fr h with
    | some (.normal, fr', h') => iter m f fr' h'
    | r => r
def inBlockE (id : Nat) : Option St → Option St
  | some (.exit j, fr, h) => if j = id then some (.normal, fr, h) else some (.exit j, fr, h)
  | r => r
def notBusy : LoopState → Bool
  | .busy => false
  | _ => true
/-- A range over a function, outside of rounds: the record is laid, the function called. -/
def loopE (P : Program) (Z : Nat → Bool) (E : Env) (g : Operand) (ps : Array Tmp) (assign body : Code) (fr : List V) (h : Hp) : Option St :=
  match opnd Z fr g with
  | some (.clo f a b) => bif hasBody P f then match E.S f (a ++ [.yld h.next] ++ b) (h.new (.loop .ready none fr ps.toList assign body)) with
      | some (.ret _, h2) => match h2.get h.next with
        | some (.loop st pd sl ps' as bd) => bif Nat.ble h2.lim h.next && notBusy st then match pd with
            | none => some (.normal, fr, h2.set h.next (some (.loop .exhausted pd sl ps' as bd)))
            | some .ret => some (.ret, fr, h2.set h.next (some (.loop .exhausted pd sl ps' as bd)))
            | some (.exit id) => some (.exit id, fr, h2.set h.next (some (.loop .exhausted pd sl ps' as bd)))
            | _ => none
          else none
        | _ => none
      | some (.pan x, h2) => some (.pan x, fr, h2)
      | none => none
    else none
  | _ => none
/-- In a round, the record of its loop must be known. -/
def rdOk (h : Hp) : Option Nat → Bool
  | none => true
  | some l => match h.get l with
    | some (.loop ..) => true
    | _ => false
def evalC (P : Program) (Z : Nat → Bool) (E : Env) (rd : Option Nat) (n : Nat) : Code → List V → Hp → Option St
  | .skip => fun fr h => some (.normal, fr, h)
  | .label _ => fun fr h => some (.normal, fr, h)
  | .exit id => fun fr h => some (.exit id, fr, h)
  | .ret => fun fr h => some (.ret, fr, h)
  | .region _ ops true => fun fr h => bif drawOk ops then match runD P Z E ops (ancs ops.toList) 0 ops.toList fr h [] with
      | some (r, ft) => bif confOk (ancs ops.toList) ft && stOk P Z E (ancs ops.toList) ft (ft.map (·.h) ++ [r.2]) 0 ops.toList ft then some (.normal, r.1, r.2) else none
      | none => none
    else none
  | .region _ ops false => execOps P Z E ops ops.toList
  | .seq x y => fun fr h => match evalC P Z E rd n x fr h with
    | some (.normal, fr', h') => evalC P Z E rd n y fr' h'
    | r => r
  | .cond c x y => fun fr h => match opnd Z fr c with
    | some (.sc (.bool true)) => evalC P Z E rd n x fr h
    | some (.sc (.bool false)) => evalC P Z E rd n y fr h
    | _ => none
  | .block id x => fun fr h => inBlockE id (evalC P Z E rd n x fr h)
  | .loop x => iter n (evalC P Z E rd n x)
  | .scope x => fun fr h => bif rd.isSome then none else evalC P Z E rd n x fr h
  | .rangeFunc g ps assign body => fun fr h => bif rdOk h rd then loopE P Z E g ps assign body fr h else none
  | _ => fun _ _ => none

theorem runD_sf {P : Program} {Z : Nat → Bool} {E : Env} (hE : EnvOk P Z E) {ops : Array Oper} {A : List (List Nat)} : ∀ (l : List Oper) (k : Nat) (fr : List V) (h : Hp) (rs : List (Nat × Nat)) (r : List V × Hp) (ft : List Foot),
    runD P Z E ops A k l fr h rs = some (r, ft) → Sf h r.2 ∨ ¬ h.lim ≤ h.next
  | [], k, fr, h, rs, r, ft, he => by
    simp only [runD, Option.some.injEq, Prod.mk.injEq] at he
    obtain ⟨he, _⟩ := he
    subst he
    exact .inl (Sf.refl _)
  | o :: l, k, fr, h, rs, r, ft, he => by
    by_cases hlim : h.lim ≤ h.next
    · left
      have step : ∀ h2, Sf h h2 → ∀ v rs2 f, (runD P Z E ops A (k + 1) l (putF fr o.dst v) h2 rs2).map (fun r => (r.1, f :: r.2)) = some (r, ft) → Sf h r.2 := by
        intro h2 sf v rs2 f hr
        obtain ⟨⟨r0, ft0⟩, hr0, hee⟩ := Option.map_eq_some_iff.1 hr
        simp only [Prod.mk.injEq] at hee
        obtain ⟨rfl, rfl⟩ := hee
        rcases runD_sf hE l _ _ _ _ _ _ hr0 with k1 | k1
        · exact sf.trans k1
        · exact absurd (by rw [sf.lim]; exact Nat.le_trans hlim sf.next) k1
      simp only [runD] at he
      split at he
      · split at he
        · rename_i v h' hst
          refine step _ ?_ _ _ _ he
          have sf := oneOp_sf hE hst
          have s1 := sf.next
          have s2 := sf.same
          have s3 := sf.wf
          rw [view_next] at s1 s2 s3
          rw [view_tr] at s2 s3
          refine ⟨s1, rfl, rfl, fun id h1 h2 => s2 id h1 ?_, s3⟩
          rcases h2 with h2 | h2
          · left
            rcases view_lim h _ with ⟨e, _⟩ | e <;> rw [e] <;> omega
          · right
            generalize hvv : vis (view h _).hid id = b
            cases b with
            | false => rfl
            | true => have := (view_vis h1 hvv).2.1; rw [h2] at this; cases this
        · cases he
      · exact step _ (Sf.refl _) _ _ _ he
      · cases he
    · exact .inr hlim

theorem iter_sf {f : List V → Hp → Option St} (hf : ∀ fr h r, h.lim ≤ h.next → f fr h = some r → Sf h r.2.2) {r : St} : ∀ (m : Nat) {fr : List V} {h : Hp}, h.lim ≤ h.next → iter m f fr h = some r → Sf h r.2.2
  | 0, fr, h, _, he => by cases he
  | m + 1, fr, h, hl, he => by
    simp only [iter] at he
    split at he
    · rename_i fr' h' hx
      have s1 := hf _ _ _ hl hx
      exact s1.trans (iter_sf hf m (by have := s1.lim; have := s1.next; simp only at *; omega) he)
    · exact hf _ _ _ hl he

theorem loopE_sf {P : Program} {Z : Nat → Bool} {E : Env} (hE : EnvOk P Z E) {g : Operand} {ps : Array Tmp} {assign body : Code} {fr : List V} {h : Hp} {r : St} (he : loopE P Z E g ps assign body fr h = some r) : Sf h r.2.2 := by
  unfold loopE at he
  split at he
  · rename_i f a b _
    cases hb : hasBody P f with
    | false => simp [hb] at he
    | true =>
      simp only [hb, cond_true] at he
      split at he
      · rename_i x h2 hc
        have s1 := (Sf.new h (.loop .ready none fr ps.toList assign body)).trans (hE.F _ _ _ _ _ hc)
        split at he
        · rename_i st pd sl ps' as bd hg
          generalize hbb : (Nat.ble h2.lim h.next && notBusy st) = bb at he
          cases bb with
          | false => simp at he
          | true =>
            simp only [Bool.and_eq_true] at hbb
            have s2 := s1.trans (Sf.set hg (Nat.le_of_ble_eq_true hbb.1) (some (.loop .exhausted pd sl ps' as bd)))
            simp only [cond_true] at he
            split at he
            · simp only [Option.some.injEq] at he; subst he; exact s2
            · simp only [Option.some.injEq] at he; subst he; exact s2
            · simp only [Option.some.injEq] at he; subst he; exact s2
            · cases he
        · cases he
      · rename_i x h2 hc
        simp only [Option.some.injEq] at he
        subst he
        exact (Sf.new h _).trans (hE.F _ _ _ _ _ hc)
      · cases he
  · cases he

theorem evalC_sf {P : Program} {Z : Nat → Bool} {E : Env} (hE : EnvOk P Z E) {rd : Option Nat} {n : Nat} : ∀ (c : Code) {fr : List V} {h : Hp} {r : St}, h.lim ≤ h.next → evalC P Z E rd n c fr h = some r → Sf h r.2.2
  | .skip, fr, h, r, hl, he => by simp only [evalC, Option.some.injEq] at he; subst he; exact Sf.refl _
  | .label _, fr, h, r, hl, he => by simp only [evalC, Option.some.injEq] at he; subst he; exact Sf.refl _
  | .exit _, fr, h, r, hl, he => by simp only [evalC, Option.some.injEq] at he; subst he; exact Sf.refl _
  | .ret, fr, h, r, hl, he => by simp only [evalC, Option.some.injEq] at he; subst he; exact Sf.refl _
  | .region _ ops true, fr, h, r, hl, he => by
    simp only [evalC] at he
    cases hok : drawOk ops with
    | false => simp [hok] at he
    | true =>
      simp only [hok, cond_true] at he
      split at he
      · rename_i r' ft hr
        cases hcf : confOk (ancs ops.toList) ft && stOk P Z E (ancs ops.toList) ft (ft.map (·.h) ++ [r'.2]) 0 ops.toList ft with
        | false => simp [hcf] at he
        | true =>
          simp only [hcf, cond_true, Option.some.injEq] at he
          simp only [Bool.and_eq_true] at hcf
          subst he
          rcases runD_sf hE _ _ _ _ _ _ _ hr with k | k
          · exact k
          · exact absurd hl k
      · cases he
  | .region _ ops false, fr, h, r, hl, he => by simp only [evalC] at he; exact execOps_sf hE _ he
  | .seq x y, fr, h, r, hl, he => by
    simp only [evalC] at he
    split at he
    · rename_i fr' h' hx
      have s1 := evalC_sf hE x hl hx
      have s2 := evalC_sf hE y (by have := s1.lim; have := s1.next; simp only at *; omega) he
      exact s1.trans s2
    · exact evalC_sf hE x hl he
  | .cond c x y, fr, h, r, hl, he => by
    simp only [evalC] at he
    split at he
    · exact evalC_sf hE x hl he
    · exact evalC_sf hE y hl he
    · cases he
  | .block id x, fr, h, r, hl, he => by
    simp only [evalC] at he
    cases hx : evalC P Z E rd n x fr h with
    | none => rw [hx] at he; cases he
    | some r' =>
      rw [hx] at he
      have s1 := evalC_sf hE x hl hx
      obtain ⟨ex, fr', h'⟩ := r'
      cases ex with
      | exit j =>
        simp only [inBlockE] at he
        split at he <;> (simp only [Option.some.injEq] at he; subst he; exact s1)
      | normal => simp only [inBlockE, Option.some.injEq] at he; subst he; exact s1
      | ret => simp only [inBlockE, Option.some.injEq] at he; subst he; exact s1
      | pan v => simp only [inBlockE, Option.some.injEq] at he; subst he; exact s1
  | .loop x, fr, h, r, hl, he => by
    simp only [evalC] at he
    exact iter_sf (fun fr h r hl he => evalC_sf hE x hl he) n hl he
  | .scope x, fr, h, r, hl, he => by
    cases rd with
    | some _ => simp [evalC] at he
    | none => simp only [evalC, Option.isSome_none, cond_false] at he; exact evalC_sf hE x hl he
  | .rangeFunc g ps assign body, fr, h, r, hl, he => by
    simp only [evalC] at he
    cases hrd : rdOk h rd with
    | false => simp [hrd] at he
    | true => simp only [hrd, cond_true] at he; exact loopE_sf hE he
  | .goto _, fr, h, r, hl, he => by simp [evalC] at he
  | .refuse _, fr, h, r, hl, he => by simp [evalC] at he

theorem PostC.panicE {Z : Nat → Bool} {B : Nat} {q : Q} {h : Hp} {w : World} {ds : List Deferred} {x : V} {fr : List V} {h' : Hp} {e : Exit} {a : Act} {w' : World} (hp : PostC Z B q h w ds (.pan x, fr, h') e a w') : ∃ ch, e = .panic ch := by
  obtain ⟨_, _, _, _, _, v, _, rfl⟩ := hp
  exact ⟨_, rfl⟩

/-- The blocks for deferred calls of rounds, opened since a world: their marks stand ahead of the deferred calls. -/
def MK (w : World) (q' : Q) (h' : Hp) (w' : World) (ds ds' : List Deferred) : Prop :=
  ∃ ms : List Nat, ds' = ms.map (fun D => ({ target := .collected D, args := #[] } : Deferred)) ++ ds ∧ ms.Nodup ∧
    ∀ D ∈ ms, w.heap.size ≤ D ∧ w'.heap[D]? = some (.deferred (some [])) ∧ ∀ id o e, h'.get id = some o → q' id = some e → e.b ≠ D
theorem MK.refl (w : World) (q' : Q) (h' : Hp) (w' : World) (ds : List Deferred) : MK w q' h' w' ds ds := ⟨[], rfl, List.nodup_nil, fun D h => by cases h⟩
theorem lt_of_some {α : Type} {a : Array α} {i : Nat} {x : α} (h : a[i]? = some x) : i < a.size := (Array.getElem?_eq_some_iff.1 h).1
theorem MK.step {w w1 w2 : World} {q1 q2 : Q} {h1 h2 : Hp} {ds ds1 : List Deferred} (hm : MK w q1 h1 w1 ds ds1) (hf : Fr q1 h1 w1 q2 h2 w2) : MK w q2 h2 w2 ds ds1 := by
  obtain ⟨ms, t1, t2, t3⟩ := hm
  refine ⟨ms, t1, t2, fun D hD => ?_⟩
  obtain ⟨u1, u2, u3⟩ := t3 D hD
  have hlt := lt_of_some u2
  refine ⟨u1, (hf.out D hlt fun id o e _ ho he => u3 id o e ho he).trans u2, fun id o e ho he => ?_⟩
  rcases hf.old id o e ho he with ⟨p, k1, k2⟩ | ⟨_, _, k⟩
  · exact u3 id p e k1 k2
  · rcases k with k | ⟨i, p, f, _, k2, k3, k4⟩
    · omega
    · rw [← k4]; exact u3 i p f k2 k3
theorem MK.chain {w w1 w2 : World} {q1 q2 : Q} {h1 h2 : Hp} {ds ds1 ds2 : List Deferred} (hm : MK w q1 h1 w1 ds ds1) (hf : Fr q1 h1 w1 q2 h2 w2) (hsz : w.heap.size ≤ w1.heap.size) (hm2 : MK w1 q2 h2 w2 ds1 ds2) : MK w q2 h2 w2 ds ds2 := by
  have hs := hm.step hf
  obtain ⟨ms, t1, t2, t3⟩ := hs
  obtain ⟨ms', e1, _, t3'⟩ := hm
  obtain ⟨ns, u1, u2, u3⟩ := hm2
  have hold : ∀ D ∈ ms, D < w1.heap.size := by
    have e : ms = ms' := by
      have := List.append_cancel_right (t1.symm.trans e1)
      exact (List.map_inj_right (fun a b hab => by simpa using hab)).1 this
    subst e
    intro D hD
    exact lt_of_some (t3' D hD).2.1
  refine ⟨ns ++ ms, by rw [u1, t1]; simp, List.nodup_append.2 ⟨u2, t2, fun a ha b hb hab => ?_⟩, fun D hD => ?_⟩
  · subst hab
    have := hold _ hb
    have := (u3 _ ha).1
    omega
  · rcases List.mem_append.1 hD with hD | hD
    · exact ⟨Nat.le_trans hsz (u3 D hD).1, (u3 D hD).2⟩
    · exact t3 D hD
/-- What code comes to; with marks. -/
def PostD (_Z : Nat → Bool) (B : Nat) (q : Q) (h : Hp) (w : World) (ds : List Deferred) (r : St) : Exit → Act → World → Prop := fun e a w' =>
  ∃ q', HT B q' r.2.2 w' ∧ Fr q h w q' r.2.2 w' ∧ RL q' r.2.1 a.tmps.toList ∧ MK w q' r.2.2 w' ds a.defers ∧
    match r.1 with
    | .normal => e = .normal
    | .exit id => e = .exit id
    | .ret => e = .ret
    | .pan x => ∃ v, R q' x v ∧ e = .panic [{ v, recovered := false }]
theorem PostC.toD {Z : Nat → Bool} {B : Nat} {q : Q} {h : Hp} {w : World} {ds : List Deferred} {r : St} {e : Exit} {a : Act} {w' : World} (hp : PostC Z B q h w ds r e a w') : PostD Z B q h w ds r e a w' := by
  obtain ⟨q', h1, h2, h3, rfl, h5⟩ := hp
  exact ⟨q', h1, h2, h3, MK.refl _ _ _ _ _, h5⟩
theorem PostD.chain {Z : Nat → Bool} {B : Nat} {q q1 : Q} {h h1 : Hp} {w w1 : World} {ds ds1 : List Deferred} {r : St} (hf : Fr q h w q1 h1 w1) (hm : MK w q1 h1 w1 ds ds1) {e : Exit} {a : Act} {w' : World} (hp : PostD Z B q1 h1 w1 ds1 r e a w') : PostD Z B q h w ds r e a w' := by
  obtain ⟨q', k1, k2, k3, k4, k5⟩ := hp
  exact ⟨q', k1, hf.trans k2, k3, hm.chain k2 hf.size k4, k5⟩
theorem PostD.panicE {Z : Nat → Bool} {B : Nat} {q : Q} {h : Hp} {w : World} {ds : List Deferred} {x : V} {fr : List V} {h' : Hp} {e : Exit} {a : Act} {w' : World} (hp : PostD Z B q h w ds (.pan x, fr, h') e a w') : ∃ ch, e = .panic ch := by
  obtain ⟨_, _, _, _, _, v, _, rfl⟩ := hp
  exact ⟨_, rfl⟩
/-- The round's loop. -/
def RD (rd ro : Option Nat) (q : Q) : Prop := match rd with
  | none => ro = none
  | some l => ∃ e, q l = some e ∧ ro = some e.b
theorem RD.mono {rd ro : Option Nat} {q q' : Q} (h : RD rd ro q) (hq : q.le q') : RD rd ro q' := by
  cases rd with
  | none => exact h
  | some l => obtain ⟨e, h1, h2⟩ := h; exact ⟨e, hq _ _ h1, h2⟩

theorem HT.more {B : Nat} {q : Q} {h : Hp} {w w' : World} (hT : HT B q h w) {x : Obj} (hw : w'.heap = w.heap.push x) (hos : w'.os = w.os) (htp : w'.tape = w.tape) (hout : w'.output = w.output) : HT B q h w' ∧ Fr q h w q h w' := by
  have hold : ∀ b, b < w.heap.size → w'.heap[b]? = w.heap[b]? := fun b hb => by rw [hw]; simp [Array.getElem?_push, Nat.ne_of_lt hb]
  have hsz : w'.heap.size = w.heap.size + 1 := by rw [hw]; simp
  refine ⟨⟨⟨fun id o ho => ?_, hT.inj, fun id e he => by have := hT.dom id e he; omega, by have := hT.base; omega⟩, hT.hid, hT.lim, hT.wf⟩,
    ⟨Q.le.refl q, fun _ _ h => .inl h, fun b hb _ => hold b hb, by omega, hos, htp, hout, Nat.le_refl _, rfl, rfl, fun id o e ho he => .inl ⟨o, ho, he⟩, fun _ _ => rfl, fun _ _ => rfl⟩⟩
  obtain ⟨e, h1, h2, h3⟩ := hT.tie id o ho
  exact ⟨e, h1, by rw [hold _ (hT.dom id e h1)]; exact h2, h3⟩

theorem run_enterLoop_inner {P : Program} {w : World} {l : Nat} {r : Loop} (hr : w.heap[l]? = some (.loop r)) (fn : FuncId) (tmps : Array Value) (ps : Array Tmp) (assign body : Code) :
    (Instr.enterLoop fn tmps ps assign body (some l)).run P w =
      .ok (w.heap.size, []) (w.alloc (.loop { state := .ready, pending := none, fn, tmps, params := ps, assign, body, defers := r.defers })) := by
  unfold Instr.enterLoop
  simp only [Sem.run_bind, run_getLoop hr, run_newObj_alloc, Result.andThen, Sem.run_pure]

/-- The record laid. -/
theorem enter_loop {ro : Option Nat} {rd : Option Nat} {P : Program} {B : Nat} {q : Q} {h : Hp} {w : World} (hT : HT B q h w) (hrd : RD rd ro q) (hro : rdOk h rd = true) (fn : FuncId) (tmps : Array Value) (ps : Array Tmp) (assign body : Code) (ds : List Deferred) :
    ∃ (mark : List Deferred) (wm w1 : World) (D : Nat), (Instr.enterLoop fn tmps ps assign body ro).run P w = .ok (wm.heap.size, mark) w1 ∧ HT B q h wm ∧ Fr q h w q h wm ∧
      w1.heap = wm.heap.push (.loop { state := .ready, pending := none, fn, tmps, params := ps, assign, body, defers := D }) ∧ w1.os = wm.os ∧ w1.tape = wm.tape ∧ w1.output = wm.output ∧ MK w q h wm ds (mark ++ ds) := by
  cases rd with
  | none =>
    obtain rfl : ro = none := hrd
    obtain ⟨k1, k2⟩ := hT.more (w' := w.alloc (.deferred (some []))) (x := .deferred (some [])) rfl rfl rfl rfl
    have hr := run_enterLoop_outer (P := P) (w := w) fn tmps ps assign body
    rw [← World.size_alloc w (.deferred (some []))] at hr
    refine ⟨_, w.alloc (.deferred (some [])), _, w.heap.size, hr, k1, k2, rfl, rfl, rfl, rfl, ?_⟩
    refine ⟨[w.heap.size], rfl, List.nodup_cons.2 ⟨(fun h => by cases h), List.nodup_nil⟩, fun D hD => ?_⟩
    rw [List.mem_singleton] at hD
    subst hD
    refine ⟨Nat.le_refl _, World.alloc_heap_new _ _, fun id o e _ he hb => ?_⟩
    have := hT.dom id e he
    omega
  | some l =>
    obtain ⟨e, h1, rfl⟩ := hrd
    simp only [rdOk] at hro
    split at hro
    · rename_i st pd sl ps' a b hg
      obtain ⟨e', t1, ⟨_, fn', D', ts, t2, _⟩, _⟩ := hT.tie l _ hg
      rw [h1] at t1
      cases t1
      refine ⟨_, w, _, D', run_enterLoop_inner t2 fn tmps ps assign body, hT, hT.fr, rfl, rfl, rfl, rfl, MK.refl _ _ _ _ _⟩
    · cases hro

theorem loopE_sound {ro : Option Nat} {m0 : Nat} {rd : Option Nat} {P : Program} {Z : Nat → Bool} {E : Env} (hE : EnvOk P Z E) {B : Nat} {g : Operand} {ps : Array Tmp} {assign body : Code} {fr : List V} {q : Q} {h : Hp} {w : World} {a : Act} {r : St}
    (hT : HT B q h w) (hf : Free q h.next r.2.2.next) (hz : GQ Z q) (hrd : RD rd ro q) (hro : rdOk h rd = true) (hs : RL q fr a.tmps.toList) (he : loopE P Z E g ps assign body fr h = some r) :
    (Code.rangeFunc g ps assign body).wpIn (FN ro) m0 P (PostD Z B q h w a.defers r) a w := by
  have hsf := loopE_sf hE he
  unfold loopE at he
  split at he
  · rename_i f x1 x2 hg
    obtain ⟨vs1, us1, m1, m2, m3⟩ := opnd_sound (a := a) hz hs hg
    cases hb : hasBody P f with
    | false => simp [hb] at he
    | true =>
      simp only [hb, cond_true] at he
      refine wpIn_rangeFunc fun fn _ => ?_
      rw [FN_round]
      obtain ⟨mark, wm, w1, D, n1, n2, n3, n4, n5, n6, n7, n8⟩ := enter_loop (P := P) hT hrd hro fn a.tmps ps assign body a.defers
      have hlt : h.next < r.2.2.next := by
        have hnew : ∀ h2 : Hp, Sf (h.new (.loop .ready none fr ps.toList assign body)) h2 → h.next < h2.next := fun h2 hh => by
          have := hh.next
          exact Nat.lt_of_lt_of_le (Nat.lt_succ_self _) this
        split at he
        · rename_i x h2 hc
          have := hnew h2 (hE.F _ _ _ _ _ hc)
          split at he
          · rename_i st _ _ _ _ _ _
            generalize (Nat.ble h2.lim h.next && notBusy st) = bb at he
            cases bb with
            | false => simp at he
            | true =>
              simp only [cond_true] at he
              split at he <;> first | (simp only [Option.some.injEq] at he; subst he; exact this) | cases he
          · cases he
        · rename_i x h2 hc
          have := hnew h2 (hE.F _ _ _ _ _ hc)
          simp only [Option.some.injEq] at he
          subst he
          exact this
        · cases he
      have hqn : q h.next = none := hf h.next (Nat.le_refl _) hlt
      obtain ⟨p1, p2⟩ := n2.push hqn (o := .loop .ready none fr ps.toList assign body) (d := 0) (n := 0) n4 n5 n6 n7 ⟨rfl, fn, D, a.tmps.toList, by simp, hs⟩
      generalize hq1 : (fun i => if i = h.next then some (⟨wm.heap.size, 0, 0⟩ : QE) else q i) = q1 at p1 p2
      have hql : q1 h.next = some ⟨wm.heap.size, 0, 0⟩ := by rw [← hq1]; simp
      have hmk := n8.step p2
      have hFr := n3.trans p2
      refine ⟨wm.heap.size, mark, w1, { target := .fn (.func f) ⟨us1⟩, args := ⟨vs1⟩ ++ #[.func (.yield wm.heap.size) #[] #[]] }, w1, f, ⟨vs1⟩ ++ #[.func (.yield wm.heap.size) #[] #[]] ++ ⟨us1⟩, w1, n1, ?_, fun f' _ => FN_fn ro f', ?_, fun h => FN_depth ro h, ?_⟩
      · simp only [resolve, m3, Deferred.ofValue, Sem.run_pure]
        simp [Act.eval]
      · simp only [invoke]
        exact run_callFunc hb _ _
      · have hy : RL q1 [.yld h.next] [.func (.yield wm.heap.size) #[] #[]] := ⟨_, [], ⟨_, hql, rfl⟩, rfl, rfl⟩
        have hall : RL q1 (x1 ++ [.yld h.next] ++ x2) (vs1 ++ [.func (.yield wm.heap.size) #[] #[]] ++ us1) :=
          ((RL.mono p2.ext _ _ m1).append hy).append (RL.mono p2.ext _ _ m2)
        have hargs : (⟨vs1⟩ ++ #[.func (.yield wm.heap.size) #[] #[]] ++ ⟨us1⟩ : Array Value) = ⟨vs1 ++ [.func (.yield wm.heap.size) #[] #[]] ++ us1⟩ := by apply Array.ext'; simp
        rw [hargs]
        have call : ∀ o h2, E.S f (x1 ++ [.yld h.next] ++ x2) (h.new (.loop .ready none fr ps.toList assign body)) = some (o, h2) → h2.next ≤ r.2.2.next →
            Calls P f ⟨vs1 ++ [.func (.yield wm.heap.size) #[] #[]] ++ us1⟩ w1 fun e w' => ∃ q', HT B q' h2 w' ∧ Fr q1 (h.new (.loop .ready none fr ps.toList assign body)) w1 q' h2 w' ∧ OutR q' o e := by
          intro o h2 hc hle
          exact hE.S _ _ _ _ _ hc hb B q1 w1 _ p1 ((hf.right hFr).left hle) (hz.mono p2.ext) hall
        split at he
        · rename_i x h2 hc
          split at he
          · rename_i st pd sl ps' as bd hgl
            generalize hbb : (Nat.ble h2.lim h.next && notBusy st) = bb at he
            cases bb with
            | false => simp at he
            | true =>
              simp only [Bool.and_eq_true] at hbb
              have hlim := Nat.le_of_ble_eq_true hbb.1
              simp only [cond_true] at he
              have hle : h2.next ≤ r.2.2.next := by
                split at he <;> first | (simp only [Option.some.injEq] at he; subst he; exact Nat.le_refl _) | cases he
              refine callsIn_FN ((call _ _ hc hle).mono ?_)
              rintro e w' ⟨q', t1, t2, t3⟩
              cases e with
              | panicked ch => exact t3.elim
              | outgrown => exact t3.elim
              | returned v =>
                obtain ⟨e', u1, ⟨u0, fn', D', ts, u2, u3⟩, _⟩ := t1.tie _ _ hgl
                have ue : e'.b = wm.heap.size := by
                  have := t2.ext _ _ hql
                  rw [u1] at this
                  cases this; rfl
                have hst : st ≠ .busy := by
                  rintro rfl
                  cases hbb.2
                have hend := run_endLoop (P := P) u2 hst
                rw [ue] at hend
                obtain ⟨o1, o2⟩ := t1.over hgl u1 hlim (o' := .loop .exhausted pd sl ps' as bd) (x := .loop { state := .exhausted, pending := pd, fn := fn', tmps := ⟨ts⟩, params := ⟨ps'⟩, assign := as, body := bd, defers := D' })
                  (w' := w'.putObj e'.b (.loop { state := .exhausted, pending := pd, fn := fn', tmps := ⟨ts⟩, params := ⟨ps'⟩, assign := as, body := bd, defers := D' }))
                  (World.putObj_heap_same (lt_of_some u2)) (fun b hb => World.putObj_heap_other hb) World.putObj_size rfl rfl rfl ⟨u0, fn', D', ts, rfl, u3⟩
                rw [ue] at o1 o2
                have hF2 := t2.trans o2
                refine ⟨pd, _, hend, ?_⟩
                have fin : ∀ (ex : Ex) (e : Exit), (match ex with | .normal => e = .normal | .exit id => e = .exit id | .ret => e = .ret | .pan x => ∃ v, R q' x v ∧ e = .panic [{ v, recovered := false }]) → 
                    PostD Z B q h w a.defers (ex, fr, h2.set h.next (some (.loop .exhausted pd sl ps' as bd))) e { a with defers := mark ++ a.defers } (w'.putObj wm.heap.size (.loop { state := .exhausted, pending := pd, fn := fn', tmps := ⟨ts⟩, params := ⟨ps'⟩, assign := as, body := bd, defers := D' })) := by
                  intro ex e hx
                  exact ⟨q', o1, hFr.trans hF2, RL.mono (hFr.trans hF2).ext _ _ hs, hmk.step hF2, hx⟩
                split at he
                · simp only [Option.some.injEq] at he; subst he; exact fin .normal _ rfl
                · simp only [Option.some.injEq] at he; subst he; exact wpIn_ret (fin .ret _ rfl)
                · rename_i id; simp only [Option.some.injEq] at he; subst he; exact wpIn_exit (fin (.exit id) _ rfl)
                · cases he
          · cases he
        · rename_i x h2 hc
          simp only [Option.some.injEq] at he
          subst he
          refine callsIn_FN ((call _ _ hc (Nat.le_refl _)).mono ?_)
          rintro e w' ⟨q', t1, t2, t3⟩
          cases e with
          | returned v => exact t3.elim
          | outgrown => exact t3.elim
          | panicked ch =>
            obtain ⟨v, t4, rfl⟩ := t3
            exact ⟨q', t1, hFr.trans t2, RL.mono (hFr.trans t2).ext _ _ hs, hmk.step t2, v, t4, rfl⟩
        · cases he
  · cases he

theorem evalC_sound {ro : Option Nat} {m0 : Nat} {rd : Option Nat} {P : Program} {Z : Nat → Bool} {E : Env} (hE : EnvOk P Z E) (hm : P.follows .mixedOrders = true) {B : Nat} {n : Nat} :
    ∀ (c : Code) {fr : List V} {q : Q} {h : Hp} {w : World} {a : Act} {r : St}, HT B q h w → Free q h.next r.2.2.next → GQ Z q → RD rd ro q → RL q fr a.tmps.toList → evalC P Z E rd n c fr h = some r → c.wpIn (FN ro) m0 P (PostD Z B q h w a.defers r) a w
  | .skip, fr, q, h, w, a, r, hT, hf, hz, hrd, hs, he => by
    simp only [evalC, Option.some.injEq] at he
    subst he
    exact wpIn_skip ⟨q, hT, hT.fr, hs, MK.refl _ _ _ _ _, rfl⟩
  | .label l, fr, q, h, w, a, r, hT, hf, hz, hrd, hs, he => by
    simp only [evalC, Option.some.injEq] at he
    subst he
    exact wpIn_label ⟨q, hT, hT.fr, hs, MK.refl _ _ _ _ _, rfl⟩
  | .exit id, fr, q, h, w, a, r, hT, hf, hz, hrd, hs, he => by
    simp only [evalC, Option.some.injEq] at he
    subst he
    exact wpIn_exit ⟨q, hT, hT.fr, hs, MK.refl _ _ _ _ _, rfl⟩
  | .ret, fr, q, h, w, a, r, hT, hf, hz, hrd, hs, he => by
    simp only [evalC, Option.some.injEq] at he
    subst he
    exact wpIn_ret ⟨q, hT, hT.fr, hs, MK.refl _ _ _ _ _, rfl⟩
  | .region id ops true, fr, q, h, w, a, r, hT, hf, hz, hrd, hs, he => by
    simp only [evalC] at he
    cases hok : drawOk ops with
    | false => simp [hok] at he
    | true =>
      simp only [hok, cond_true] at he
      split at he
      · rename_i r' ft hr
        cases hcf : confOk (ancs ops.toList) ft && stOk P Z E (ancs ops.toList) ft (ft.map (·.h) ++ [r'.2]) 0 ops.toList ft with
        | false => simp [hcf] at he
        | true =>
          simp only [hcf, cond_true, Option.some.injEq] at he
          simp only [Bool.and_eq_true] at hcf
          subst he
          exact draw_sound hE hm hok hT hf hz hs hr hcf.1 hcf.2 fun a' w' hp => hp.toD
      · cases he
  | .region id ops false, fr, q, h, w, a, r, hT, hf, hz, hrd, hs, he => by
    simp only [evalC] at he
    exact wpIn_region_list (execOps_sound hE _ hT hf hz hs he fun _ _ _ hp => hp.toD)
  | .seq x y, fr, q, h, w, a, r, hT, hf, hz, hrd, hs, he => by
    simp only [evalC] at he
    refine wpIn_seq ?_
    split at he
    · rename_i fr' h' hx
      have s1 := evalC_sf hE x hT.lim hx
      have s2 := evalC_sf hE y (by have := s1.lim; have := s1.next; have := hT.lim; simp only at *; omega) he
      refine wpIn_mono (evalC_sound hE hm x hT (hf.left s2.next) hz hrd hs hx) ?_
      rintro e a' w' ⟨q', h1, h2, h3, h4, h5⟩
      simp only at h5
      subst h5
      exact wpIn_mono (evalC_sound hE hm y h1 (hf.right h2) (hz.mono h2.ext) (hrd.mono h2.ext) h3 he) fun e a w hp => hp.chain h2 h4
    · rename_i hnot
      refine wpIn_mono (evalC_sound hE hm x hT hf hz hrd hs he) ?_
      rintro e a' w' hp
      have hp2 := hp
      obtain ⟨q', h1, h2, h3, h4, h5⟩ := hp
      obtain ⟨ex, fr', h'⟩ := r
      cases ex with
      | normal => exact absurd he (hnot fr' h')
      | exit id => simp only at h5; subst h5; exact hp2
      | ret => simp only at h5; subst h5; exact hp2
      | pan v => obtain ⟨ch, rfl⟩ := PostD.panicE hp2; exact hp2
  | .cond c x y, fr, q, h, w, a, r, hT, hf, hz, hrd, hs, he => by
    simp only [evalC] at he
    split at he
    · rename_i hc
      exact wpIn_cond (opnd_sound hz hs hc).1 (evalC_sound hE hm x hT hf hz hrd hs he)
    · rename_i hc
      exact wpIn_cond (opnd_sound hz hs hc).1 (evalC_sound hE hm y hT hf hz hrd hs he)
    · cases he
  | .block id x, fr, q, h, w, a, r, hT, hf, hz, hrd, hs, he => by
    simp only [evalC] at he
    refine wpIn_block ?_
    cases hx : evalC P Z E rd n x fr h with
    | none => rw [hx] at he; cases he
    | some r' =>
      rw [hx] at he
      have hrh : r.2 = r'.2 := by
        obtain ⟨ex, fr', h'⟩ := r'
        cases ex with
        | exit j =>
          simp only [inBlockE] at he
          split at he <;> (simp only [Option.some.injEq] at he; subst he; rfl)
        | normal => simp only [inBlockE, Option.some.injEq] at he; subst he; rfl
        | ret => simp only [inBlockE, Option.some.injEq] at he; subst he; rfl
        | pan v => simp only [inBlockE, Option.some.injEq] at he; subst he; rfl
      refine wpIn_mono (evalC_sound hE hm x hT (by rw [← hrh]; exact hf) hz hrd hs hx) ?_
      rintro e a' w' hp
      have hp2 := hp
      obtain ⟨q', h1, h2, h3, h4, h5⟩ := hp
      obtain ⟨ex, fr', h'⟩ := r'
      cases ex with
      | normal =>
        simp only [inBlockE, Option.some.injEq] at he
        simp only at h5
        subst he h5
        exact ⟨q', h1, h2, h3, h4, rfl⟩
      | ret =>
        simp only [inBlockE, Option.some.injEq] at he
        simp only at h5
        subst he h5
        exact ⟨q', h1, h2, h3, h4, rfl⟩
      | pan v =>
        simp only [inBlockE, Option.some.injEq] at he
        subst he
        obtain ⟨ch, rfl⟩ := PostD.panicE hp2
        exact hp2
      | exit j =>
        simp only [inBlockE] at he
        simp only at h5
        subst h5
        simp only [Exit.inBlock]
        split at he
        · rename_i hj
          simp only [Option.some.injEq] at he
          subst he
          rw [if_pos hj]
          exact ⟨q', h1, h2, h3, h4, rfl⟩
        · rename_i hj
          simp only [Option.some.injEq] at he
          subst he
          rw [if_neg hj]
          exact ⟨q', h1, h2, h3, h4, rfl⟩
  | .loop x, fr, q, h, w, a, r, hT, hf, hz, hrd, hs, he => by
    simp only [evalC] at he
    have key : ∀ (m : Nat) {fr : List V} {q1 : Q} {h1 : Hp} {w1 : World} {a1 : Act}, HT B q1 h1 w1 → Free q1 h1.next r.2.2.next → GQ Z q1 → RL q1 fr a1.tmps.toList → Fr q h w q1 h1 w1 → MK w q1 h1 w1 a.defers a1.defers → iter m (evalC P Z E rd n x) fr h1 = some r →
        Code.roundsIn (FN ro) m0 P x (PostD Z B q h w a.defers r) m a1 w1 := by
      intro m
      induction m with
      | zero => intro fr q1 h1 w1 a1 _ _ _ _ _ _ he; cases he
      | succ m ih =>
        intro fr q1 h1 w1 a1 hT1 hf1 hz1 hs1 hfr hd he
        simp only [iter] at he
        rw [roundsIn_succ]
        split at he
        · rename_i fr' h' hx
          have s1 := evalC_sf hE x hT1.lim hx
          have hn : h'.next ≤ r.2.2.next := (iter_sf (fun fr h r hl he => evalC_sf hE x hl he) m (by have := s1.lim; have := s1.next; have := hT1.lim; simp only at *; omega) he).next
          refine wpIn_mono (evalC_sound hE hm x hT1 (hf1.left hn) hz1 (hrd.mono hfr.ext) hs1 hx) ?_
          rintro e a' w' ⟨q', k1, k2, k3, k4, k5⟩
          simp only at k5
          subst k5
          exact ih k1 (hf1.right k2) (hz1.mono k2.ext) k3 (hfr.trans k2) (hd.chain k2 hfr.size k4) he
        · rename_i hnot
          refine wpIn_mono (evalC_sound hE hm x hT1 hf1 hz1 (hrd.mono hfr.ext) hs1 he) ?_
          rintro e a' w' hp
          have hp2 := hp.chain hfr hd
          obtain ⟨q', k1, k2, k3, k4, k5⟩ := hp
          obtain ⟨ex, fr', h'⟩ := r
          cases ex with
          | normal => exact absurd he (hnot fr' h')
          | exit id => simp only at k5; subst k5; exact hp2
          | ret => simp only at k5; subst k5; exact hp2
          | pan v => obtain ⟨ch, rfl⟩ := PostD.panicE hp2; exact hp2
    exact wpIn_loop_rounds n (key n hT hf hz hs hT.fr (MK.refl _ _ _ _ _) he)
  | .scope x, fr, q, h, w, a, r, hT, hf, hz, hrd, hs, he => by
    cases rd with
    | some _ => simp [evalC] at he
    | none =>
      simp only [evalC, Option.isSome_none, cond_false] at he
      obtain rfl : ro = none := hrd
      refine wpIn_wide.2 (wp_scope_straight (wp_mono (wpIn_wide.1 (evalC_sound (m0 := m0) (rd := none) (ro := none) hE hm x hT hf hz rfl hs he)) ?_))
      rintro e a' w' hp
      have hp2 := hp
      obtain ⟨q', h1, h2, h3, h4, h5⟩ := hp
      obtain ⟨ex, fr', h'⟩ := r
      cases ex with
      | pan v => obtain ⟨ch, rfl⟩ := PostD.panicE hp2; exact hp2
      | _ => simp only at h5; subst h5; exact hp2
  | .rangeFunc g ps assign body, fr, q, h, w, a, r, hT, hf, hz, hrd, hs, he => by
    simp only [evalC] at he
    cases hro : rdOk h rd with
    | false => simp [hro] at he
    | true => simp only [hro, cond_true] at he; exact loopE_sound hE hT hf hz hrd hro hs he
  | .goto _, fr, q, h, w, a, r, hT, hf, hz, hrd, hs, he => by simp [evalC] at he
  | .refuse _, fr, q, h, w, a, r, hT, hf, hz, hrd, hs, he => by simp [evalC] at he
end Go.N
