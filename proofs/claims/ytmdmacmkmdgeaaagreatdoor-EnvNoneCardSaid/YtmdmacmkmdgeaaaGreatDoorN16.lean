/- Functions that range over maps: one end for all orders. -/
import Derived.Test.YtmdmacmkmdgeaaaGreatDoorN15
namespace Go.N
open Go Go.RowKit

def canonE (N : Nat) (h : Hp) (x : V) (h1 : Hp) : Option (V × Option (TypeId × List V)) := match x with
  | .sl id off sz len _ _ => bif Nat.ble h.next id then match h1.get id with
      | some (.cells T cs) => bif Nat.ble (off + len * sz) cs.length then some (.sl N 0 sz len len false, some (T, (cs.drop off).take (len * sz))) else none
      | _ => none
    else none
  | .sc v => some (.sc v, none)
  | _ => none
def newH (N : Nat) (h : Hp) : Option (TypeId × List V) → Hp
  | none => ⟨N + 1, h.lim, h.hid, h.tr⟩
  | some (T, cs) => ⟨N + 1, h.lim, h.hid, h.tr.set N (some (.cells T cs))⟩
def frz (h : Hp) : Hp := ⟨h.next, h.next, h.hid, h.tr⟩
theorem HT.frz {B : Nat} {q : Q} {h : Hp} {w : World} (hT : HT B q h w) : HT B q (frz h) w :=
  ⟨⟨fun id o ho => by obtain ⟨e, h1, h2, h3⟩ := hT.tie id o ho; exact ⟨e, h1, h2, fun hl => h3 (Nat.le_trans hT.lim hl)⟩, hT.inj, hT.dom, hT.base⟩, hT.hid, Nat.le_refl _, hT.wf⟩

theorem newH_sf {N : Nat} {h : Hp} (hle : h.next ≤ N) (ob : Option (TypeId × List V)) : Sf h (newH N h ob) := by
  cases ob with
  | none => exact ⟨Nat.le_succ_of_le hle, rfl, rfl, fun _ _ _ => rfl, fun hw id hi => hw id (by have hi : N + 1 ≤ id := hi; omega)⟩
  | some p =>
    obtain ⟨T, cs⟩ := p
    refine ⟨Nat.le_succ_of_le hle, rfl, rfl, fun id h1 _ => ?_, fun hw id hi => ?_⟩
    · show (h.tr.set N _).get id = _
      rw [Tr.get_set, if_neg (by omega)]
    · have hi : N + 1 ≤ id := hi
      show (h.tr.set N _).get id = _
      rw [Tr.get_set, if_neg (by omega)]
      exact hw id (by omega)

theorem gc {B : Nat} {q q1 : Q} {h h1 : Hp} {w w1 : World} {N : Nat} (hT : HT B q h w) (hT1 : HT B q1 h1 w1) (hF : Fr q (frz h) w q1 h1 w1) (hN : h1.next ≤ N) (hfree : Free q h.next (N + 1)) {x y : V} {v : Value} (hx : R q1 x v) {ob : Option (TypeId × List V)} (hc : canonE N h x h1 = some (y, ob)) :
    ∃ q2, HT B q2 (newH N h ob) w1 ∧ Fr q h w q2 (newH N h ob) w1 ∧ R q2 y v := by
  have hle : h.next ≤ N := Nat.le_trans hF.next hN
  have hlt : ∀ id p, h.get id = some p → id < h.next := by
    intro id p hp
    rcases Nat.lt_or_ge id h.next with k | k
    · exact k
    · have := hT.wf id k; rw [Hp.get_tr hp] at this; cases this
  have hold : ∀ id p, h.get id = some p → h1.get id = some p ∧ ∃ e, q id = some e ∧ q1 id = some e ∧ OT q1 p e w1.heap[e.b]? ∧ (h.lim ≤ id → B ≤ e.b) := by
    intro id p hp
    have h2 : h1.get id = some p := by rw [hF.ro id (hlt id p hp)]; exact hp
    obtain ⟨e, t1, t2, t3⟩ := hT.tie id p hp
    obtain ⟨e', s1, s2, _⟩ := hT1.tie id p h2
    rw [hF.ext _ _ t1] at s1
    cases s1
    exact ⟨h2, e, t1, hF.ext _ _ t1, s2, t3⟩
  have hout : ∀ b, b < w.heap.size → w1.heap[b]? = w.heap[b]? := fun b hb => hF.out b hb fun id o e hl ho _ => by
    have := hlt id o ho
    have hl : h.next ≤ id := hl
    omega
  have hwin : ∀ id e, q1 id = some e → q id = some e ∨ (h.next ≤ id ∧ id < N + 1) := by
    intro id e he
    rcases hF.win id e he with k | ⟨k1, k2⟩
    · exact .inl k
    · exact .inr ⟨k1, by omega⟩
  unfold canonE at hc
  split at hc
  · rename_i id off sz len cap ex
    cases hb : Nat.ble h.next id with
    | false => simp [hb] at hc
    | true =>
      have hge := Nat.le_of_ble_eq_true hb
      simp only [hb, cond_true] at hc
      split at hc
      · rename_i T cs hg
        cases hb2 : Nat.ble (off + len * sz) cs.length with
        | false => simp [hb2] at hc
        | true =>
          have hfit := Nat.le_of_ble_eq_true hb2
          simp only [hb2, cond_true, Option.some.injEq, Prod.mk.injEq] at hc
          obtain ⟨rfl, rfl⟩ := hc
          obtain ⟨e, c, a, k1, rfl, k2, k3, k4, k5, k6, k7⟩ := hx
          obtain ⟨e', t1, ⟨vs, u1, u2, u3, u4, u5⟩, t3⟩ := hT1.tie id _ hg
          rw [k1] at t1
          cases t1
          have hidN : id < N := by
            rcases Nat.lt_or_ge id h1.next with k | k
            · omega
            · have := hT1.wf id k; rw [Hp.get_tr hg] at this; cases this
          have hqN : q1 N = none := by
            cases hq : q1 N with
            | none => rfl
            | some e' =>
              rcases hF.win N e' hq with k | ⟨_, k⟩
              · rw [hfree N hle (Nat.lt_succ_self _)] at k; cases k
              · omega
          let q2 : Q := fun i => if i = N then some ⟨e.b, e.d + off, e.n⟩ else q1 i
          have q2N : q2 N = some ⟨e.b, e.d + off, e.n⟩ := if_pos rfl
          have q2o : ∀ i, i ≠ N → q2 i = q1 i := fun i hi => if_neg hi
          have hle2 : q1.le q2 := fun i f hf => by
            have : i ≠ N := by rintro rfl; rw [hqN] at hf; cases hf
            rw [q2o i this]; exact hf
          have hget : ∀ i, (newH N h (some (T, (cs.drop off).take (len * sz)))).get i = if i = N then some (.cells T ((cs.drop off).take (len * sz))) else h.get i := by
            intro i
            have hv : vis h.hid N = true := vis_new hT.hid hle
            have := Hp.get_set (h := h) hv (some (Ob.cells T ((cs.drop off).take (len * sz)))) i
            exact this
          have hlen : ((cs.drop off).take (len * sz)).length = len * sz := by simp; omega
          -- the new block is apart from the old ones
          have hBe : B ≤ e.b ∧ w.heap.size ≤ e.b := by
            have hlim1 : h1.lim = h.next := hF.lim
            refine ⟨t3 (by rw [hlim1]; exact hge), ?_⟩
            rcases hF.old id _ e hg k1 with ⟨p, m1, m2⟩ | ⟨m1, m2, m3⟩
            · have := hlt id p m1; omega
            · rcases m3 with m3 | ⟨i3, o3, f3, n1, n2, _⟩
              · exact m3
              · have := hlt i3 o3 n2
                have n1 : h.next ≤ i3 := n1
                omega
          refine ⟨q2, ⟨⟨?_, ?_, ?_, hT1.base⟩, ?_, ?_, ?_⟩, ⟨hF.ext.trans hle2, ?_, fun b hb _ => hout b hb, hF.size, hF.os, hF.tape, hF.output, ?_, rfl, rfl, ?_, ?_, ?_⟩, ?_⟩
          · intro i p hp
            rw [hget] at hp
            by_cases ei : i = N
            · subst ei
              rw [if_pos rfl] at hp
              cases hp
              refine ⟨_, q2N, ⟨vs, u1, u2, ?_, ?_, u5⟩, fun _ => hBe.1⟩
              · simp only [hlen]; omega
              · simp only [hlen]
                have hl := u4.length
                have := (u4.drop off).take (len * sz)
                have e1 : ((((vs.drop e.d).take cs.length).drop off).take (len * sz)) = ((vs.drop (e.d + off)).take (len * sz)) := by
                  rw [List.drop_take, List.drop_drop, List.take_take]
                  congr 1
                  omega
                rw [e1] at this
                exact RL.mono hle2 _ _ this
            · rw [if_neg ei] at hp
              obtain ⟨_, f, m1, m2, m3, m4⟩ := hold i p hp
              exact ⟨f, hle2 _ _ m2, OT.mono hle2 m3, m4⟩
          · intro i j o1 o2 e1 f1 hi hj he hf hbb
            rw [hget] at hi hj
            by_cases ei : i = N <;> by_cases ej : j = N
            · rw [ei, ej]
            · rw [if_neg ej] at hj
              obtain ⟨n1, f, m1, m2, _⟩ := hold j o2 hj
              rw [ei, q2N] at he
              rw [q2o j ej, m2] at hf
              cases he
              cases hf
              have := hT1.inj id j _ _ e _ hg n1 k1 m2 hbb
              have := hlt j o2 hj
              omega
            · rw [if_neg ei] at hi
              obtain ⟨n1, f, m1, m2, _⟩ := hold i o1 hi
              rw [ej, q2N] at hf
              rw [q2o i ei, m2] at he
              cases he
              cases hf
              have := hT1.inj i id _ _ _ e n1 hg m2 k1 hbb
              have := hlt i o1 hi
              omega
            · rw [if_neg ei] at hi
              rw [if_neg ej] at hj
              rw [q2o i ei] at he
              rw [q2o j ej] at hf
              exact hT1.inj i j o1 o2 e1 f1 (hold i o1 hi).1 (hold j o2 hj).1 he hf hbb
          · intro i f hf
            by_cases ei : i = N
            · rw [ei, q2N] at hf
              cases hf
              exact hT1.dom id e k1
            · rw [q2o i ei] at hf
              exact hT1.dom i f hf
          · exact fun g hg => Nat.le_trans (hT.hid g hg) (Nat.le_succ_of_le hle)
          · exact Nat.le_trans hT.lim (Nat.le_succ_of_le hle)
          · exact (newH_sf hle _).wf hT.wf
          · intro i f hf
            by_cases ei : i = N
            · exact .inr ⟨by omega, by show i < N + 1; omega⟩
            · rw [q2o i ei] at hf; exact hwin i f hf
          · exact Nat.le_succ_of_le hle
          · intro i p f hp hf
            rw [hget] at hp
            by_cases ei : i = N
            · rw [ei, q2N] at hf
              cases hf
              exact .inr ⟨by omega, by show i < N + 1; omega, .inl hBe.2⟩
            · rw [if_neg ei] at hp
              rw [q2o i ei] at hf
              obtain ⟨_, f', m1, m2, _⟩ := hold i p hp
              rw [m2] at hf
              cases hf
              exact .inl ⟨p, hp, m1⟩
          · intro i hi
            have := hT.lim
            rw [hget, if_neg (by omega)]
          · intro i hv
            show (h.tr.set N _).get i = _
            rw [Tr.get_set, if_neg]
            rintro rfl
            rw [vis_new hT.hid hle] at hv
            cases hv
          · refine ⟨_, c, a, q2N, rfl, fun hc0 => ?_, k3, k4, by simpa [Nat.add_assoc] using k5, k3, fun h => by cases h⟩
            rw [k2 hc0]
            rfl
      · cases hc
  · rename_i u
    simp only [Option.some.injEq, Prod.mk.injEq] at hc
    obtain ⟨rfl, rfl⟩ := hc
    refine ⟨q1, ⟨⟨?_, ?_, hT1.dom, hT1.base⟩, ?_, ?_, ?_⟩, ⟨hF.ext, ?_, fun b hb _ => hout b hb, hF.size, hF.os, hF.tape, hF.output, ?_, rfl, rfl, ?_, ?_, ?_⟩, hx⟩
    · intro i p hp
      obtain ⟨_, f, m1, m2, m3, m4⟩ := hold i p hp
      exact ⟨f, m2, m3, m4⟩
    · intro i j o1 o2 e1 f1 hi hj he hf hbb
      exact hT1.inj i j o1 o2 e1 f1 (hold i o1 hi).1 (hold j o2 hj).1 he hf hbb
    · exact fun g hg => Nat.le_trans (hT.hid g hg) (Nat.le_succ_of_le hle)
    · exact Nat.le_trans hT.lim (Nat.le_succ_of_le hle)
    · exact (newH_sf hle none).wf hT.wf
    · exact hwin
    · exact Nat.le_succ_of_le hle
    · intro i p f hp hf
      obtain ⟨_, f', m1, m2, _⟩ := hold i p hp
      rw [m2] at hf
      cases hf
      exact .inl ⟨p, hp, m1⟩
    · intro i _; rfl
    · intro i _; rfl
  · cases hc

/-- The results of all ends. -/
def canonL (P : Program) (fn : Func) (N : Nat) (h : Hp) (y : V) (ob : Option (TypeId × List V)) : List St → Bool
  | [] => true
  | (ex, fr, h1) :: l => (match ex with | .normal | .ret => true | _ => false) && Nat.ble h1.next N && (match resultsE P fr h1 fn.results.toList with
      | some rs => match canonE N h (tupleE rs) h1 with
        | some (y', ob') => beqV y' y && (match ob', ob with
          | none, none => true
          | some (T', c'), some (T, c) => Nat.beq T' T && beqVL c' c
          | _, _ => false)
        | none => false
      | none => false) && canonL P fn N h y ob l
theorem canonL_at {P : Program} {fn : Func} {N : Nat} {h : Hp} {y : V} {ob : Option (TypeId × List V)} : ∀ {l : List St}, canonL P fn N h y ob l = true → ∀ {ex fr h1}, (ex, fr, h1) ∈ l →
    (ex = .normal ∨ ex = .ret) ∧ h1.next ≤ N ∧ ∃ rs, resultsE P fr h1 fn.results.toList = some rs ∧ canonE N h (tupleE rs) h1 = some (y, ob)
  | (ex', fr', h1') :: l, hc, ex, fr, h1, hm => by
    simp only [canonL, Bool.and_eq_true] at hc
    obtain ⟨⟨⟨c1, c2⟩, c3⟩, c4⟩ := hc
    rcases List.mem_cons.1 hm with hm | hm
    · simp only [Prod.mk.injEq] at hm
      obtain ⟨rfl, rfl, rfl⟩ := hm
      refine ⟨?_, Nat.le_of_ble_eq_true c2, ?_⟩
      · cases ex with
        | normal => exact .inl rfl
        | ret => exact .inr rfl
        | exit j => cases c1
        | pan v => cases c1
      · split at c3
        · rename_i rs hrs
          refine ⟨rs, hrs, ?_⟩
          split at c3
          · rename_i y' ob' hcn
            simp only [Bool.and_eq_true] at c3
            rw [hcn, beqV_eq _ _ c3.1]
            congr 2
            have c5 := c3.2
            split at c5
            · rfl
            · simp only [Bool.and_eq_true, Nat.beq_eq] at c5
              rw [c5.1, beqVL_eq _ _ c5.2]
            · cases c5
          · cases c3
        · cases c3
    · exact canonL_at c4 hm
  | [], _, ex, fr, h1, hm => by cases hm

/-- The run of a function that ranges over maps. -/
def runM (P : Program) (Z : Nat → Bool) (E : Env) (K n : Nat) (fn : Func) (args : List V) (h : Hp) : Option (Out × Hp) :=
  match fn.body with
  | some c => match evalM P Z E (h.next + K) n c (args ++ List.replicate (fn.ntmps - args.length) (.tup [])) (frz h) with
    | some ((ex, fr, h1) :: l) => match resultsE P fr h1 fn.results.toList with
      | some rs => match canonE (h.next + K) h (tupleE rs) h1 with
        | some (y, ob) => bif canonL P fn (h.next + K) h y ob ((ex, fr, h1) :: l) then some (.ret y, newH (h.next + K) h ob) else none
        | none => none
      | none => none
    | _ => none
  | none => none
theorem runM_sf {P : Program} {Z : Nat → Bool} {E : Env} {K n : Nat} {fn : Func} {args : List V} {h h' : Hp} {o : Out} (he : runM P Z E K n fn args h = some (o, h')) : Sf h h' := by
  unfold runM at he
  split at he
  · split at he
    · split at he
      · split at he
        · rename_i y ob _
          generalize canonL _ _ _ _ _ _ _ = b at he
          cases b with
          | false => cases he
          | true =>
            simp only [cond_true, Option.some.injEq, Prod.mk.injEq] at he
            obtain ⟨_, rfl⟩ := he
            exact newH_sf (Nat.le_add_right _ _) ob
        · cases he
      · cases he
    · cases he
  · cases he
theorem newH_next {N : Nat} {h : Hp} {ob : Option (TypeId × List V)} : (newH N h ob).next = N + 1 := by
  cases ob with
  | none => rfl
  | some p => rfl
theorem runM_sound {P : Program} {Z : Nat → Bool} {E : Env} (hE : EnvOk P Z E) (hm : P.follows .mixedOrders = true) {K n : Nat} {f : FuncId} {fn : Func} (hf : P.funcs[f]? = some fn) {args : List V} {h h' : Hp} {o : Out}
    (he : runM P Z E K n fn args h = some (o, h')) : SC P Z f args h o h' := by
  intro B q w vs hT hfree hz hs
  unfold runM at he
  split at he
  · rename_i c hb
    split at he
    · rename_i ex0 fr0 h10 l hev
      split at he
      · split at he
        · rename_i y ob _
          cases hcl : canonL P fn (h.next + K) h y ob ((ex0, fr0, h10) :: l) with
          | false => simp [hcl] at he
          | true =>
            simp only [hcl, cond_true, Option.some.injEq, Prod.mk.injEq] at he
            obtain ⟨rfl, rfl⟩ := he
            rw [newH_next] at hfree
            have hse := entry_rl hs fn.ntmps
            have hfree0 : Free q (frz h).next (h.next + K) := fun id h1 h2 => hfree id h1 (by omega)
            have ev := evalM_sound (m0 := 0) hE hm c (a := { tmps := (⟨vs⟩ : Array Value) ++ Array.replicate (fn.ntmps - (⟨vs⟩ : Array Value).size) undef, defers := [] }) hT.frz hfree0 hz hse hev
            have ok : ∀ ex fr h1, (ex, fr, h1) ∈ (ex0, fr0, h10) :: l → (ex = .normal ∨ ex = .ret) ∧ h1.next ≤ h.next + K ∧ ∃ rs, resultsE P fr h1 fn.results.toList = some rs ∧ canonE (h.next + K) h (tupleE rs) h1 = some (y, ob) := fun ex fr h1 hmem => canonL_at hcl hmem
            refine calls_of_D (Z := Z) (B := B) (q := q) (h := frz h) (Ps := fun r => r ∈ (ex0, fr0, h10) :: l) hf hb ev ?_ ?_ ?_
            · intro fr h1 hps q' w' tmps t1 t2 t3
              have key : ∀ ex, (ex, fr, h1) ∈ (ex0, fr0, h10) :: l → ∃ v, (results fn tmps).run P w' = .ok v w' ∧ ∃ q', HT B q' (newH (h.next + K) h ob) w' ∧ Fr q h w q' (newH (h.next + K) h ob) w' ∧ OutR q' (.ret y) (.returned v) := by
                intro ex hmem
                obtain ⟨c1, c2, rs, c3, c4⟩ := ok _ _ _ hmem
                obtain ⟨v, k1, k2⟩ := results_sound t1 t3 c3
                obtain ⟨q2, g1, g2, g3⟩ := gc hT t1 t2 c2 hfree k2 c4
                exact ⟨v, k1, q2, g1, g2, g3⟩
              rcases hps with hps | hps <;> exact key _ hps
            · intro x fr h1 hps
              rcases (ok _ _ _ hps).1 with hh | hh <;> cases hh
            · intro id fr h1 hps
              rcases (ok _ _ _ hps).1 with hh | hh <;> cases hh
        · cases he
      · cases he
    · cases he
  · cases he
end Go.N
