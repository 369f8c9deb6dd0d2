/- The VM's word on a function. -/
import Derived.Test.YtglnokfcjnnepaaDoorBVmSound
namespace Go.Vm
open Go Go.RowKit

def resVal (tmps : Array Value) : ResultVar → Sem Value
  | .tmp t => pure (tmps.getD t undef)
  | .cell a t => do loadVar t (← asAddr (tmps.getD a undef))
def ret1 : List Value → Value
  | [v] => v
  | us => .tuple ⟨us⟩
theorem results_eq (fn : Func) (tmps : Array Value) : results fn tmps = (do
    let vs ← fn.results.mapM (resVal tmps)
    pure (if h : vs.size = 1 then vs[0] else .tuple vs) : Sem Value) := by
  unfold results
  congr 1

theorem resultE_sound {P : Program} {Z : GTab} {B : Nat} {fr : List SV} {σ : List Blk} {g : G} {q : Gh} {a : Act} (hI : Inv P Z B fr σ g q a) {x : ResultVar} {s : SV} (h : resultE P fr σ x = some s) :
    ∃ v, (resVal a.tmps x).run P g.w = .ok v g.w ∧ SR g σ q s v := by
  cases x with
  | tmp t =>
    simp only [resultE, Option.some.injEq] at h
    subst h
    exact ⟨_, rfl, noGl_sound hI (opnd_sound hI (x := .tmp t) rfl)⟩
  | cell t T =>
    simp only [resultE] at h
    have ht := opnd_sound hI (x := .tmp t) rfl
    split at h
    · rename_i id i off hfr
      rw [hfr] at ht
      obtain ⟨b0, hb0, hv⟩ := ht
      split at h
      · rename_i T' cells hb
        rw [hb] at hb0
        simp only [Option.some.injEq] at hb0
        subst hb0
        split at h
        · rename_i hi0
          subst hi0
          obtain ⟨s', hs', rfl⟩ := Option.map_eq_some_iff.1 h
          obtain ⟨vs, hg, hcl, h1, _, _⟩ := hI.box id _ hb
          have hholds : Holds g (q.ρ id) 0 vs := by
            intro j v hj
            rw [cell_of_row g.w _ _ _ _ _ hg]
            simpa using hj
          obtain ⟨r, hr, hrc⟩ := loadB_run hI hs' hcl hholds h1
          refine ⟨r, ?_, noGl_sound hI hrc⟩
          simp only [Nat.zero_add] at hr
          have hv' : a.tmps.getD t undef = .pointer (some ⟨q.ρ id, off, none⟩) := by
            have := hv
            simp only [Nat.zero_mul, Nat.zero_add] at this
            exact this
          simp only [resVal, Sem.run_bind, hv', asAddr, Sem.run_pure, Result.andThen_ok, hr]
        · cases h
      · cases h
    · cases h

theorem resultsE_sound {P : Program} {Z : GTab} {B : Nat} {fr : List SV} {σ : List Blk} {g : G} {q : Gh} {a : Act} (hI : Inv P Z B fr σ g q a) :
    ∀ (l : List ResultVar) {xs : List SV}, resultsE P fr σ l = some xs →
      ∃ vs, (l.mapM (resVal a.tmps)).run P g.w = .ok vs g.w ∧ SRL g σ q xs vs
  | [], xs, h => by
    simp only [resultsE, Option.some.injEq] at h
    subst h
    exact ⟨[], rfl, rfl⟩
  | x :: l, xs, h => by
    simp only [resultsE] at h
    split at h
    · rename_i s ss h1 h2
      simp only [Option.some.injEq] at h
      subst h
      obtain ⟨v, k1, k2⟩ := resultE_sound hI h1
      obtain ⟨vs, k3, k4⟩ := resultsE_sound hI l h2
      refine ⟨v :: vs, ?_, v, vs, k2, k4, rfl⟩
      simp only [List.mapM_cons, Sem.run_bind, k1, Result.andThen_ok, k3, Sem.run_pure]
    · cases h

theorem results_sound {P : Program} {Z : GTab} {B : Nat} {fr : List SV} {σ : List Blk} {g : G} {q : Gh} {a : Act} (hI : Inv P Z B fr σ g q a) {fn : Func} {xs : List SV} (h : resultsE P fr σ fn.results.toList = some xs) :
    ∃ vs, (results fn a.tmps).run P g.w = .ok (ret1 vs) g.w ∧ SRL g σ q xs vs := by
  obtain ⟨vs, k1, k2⟩ := resultsE_sound hI _ h
  refine ⟨vs, ?_, k2⟩
  rw [results_eq]
  have e : (fn.results.mapM (resVal a.tmps)).run P g.w = .ok ⟨vs⟩ g.w := by
    rw [Array.mapM_eq_mapM_toList]
    simp only [Sem.run_map, k1, Result.andThen_ok]
  rw [Sem.run_bind, e]
  simp only [Result.andThen_ok, Sem.run_pure]
  congr 1
  cases vs with
  | nil => rfl
  | cons v vs => cases vs <;> simp [ret1]

/-- The frame at a function's beginning. -/
theorem entry_srl {g : G} {σ : List Blk} {q : Gh} {args : List SV} {vs : List Value} (h : SRL g σ q args vs) (n : Nat) :
    SRL g σ q (args ++ List.replicate (n - args.length) (.d (.tup []))) ((⟨vs⟩ : Array Value) ++ Array.replicate (n - (⟨vs⟩ : Array Value).size) undef).toList := by
  rw [Array.toList_append, Array.toList_replicate, List.size_toArray, ← h.length]
  refine h.append ?_
  generalize n - args.length = k
  induction k with
  | zero => rfl
  | succ k ih => exact ⟨undef, _, .tup _ _ .nil, ih, rfl⟩

theorem body_tags {n : Nat} {args : List SV} : tagsL (args ++ List.replicate n (.d (.tup []))) = tagsL args := by
  rw [tagsL_append]
  have : tagsL (List.replicate n (.d (.tup []))) = [] := by
    induction n with
    | zero => rfl
    | succ n ih => simp [List.replicate_succ, tagsL, tagsOf, ih]
  rw [this, List.append_nil]

/-- A function's run. -/
theorem runF_sound {P : Program} {Z : GTab} {E : Env} (hE : EnvOk P Z E) (hm : P.follows .mixedOrders = true) {n : Nat} {f : FuncId} {fn : Func} (hf : P.funcs[f]? = some fn) {B : Nat} {g : G} {q : Gh} {vs : List Value}
    {args : List SV} {σ : List Blk} {rs : List SV} {σ' : List Blk} (hI : Inv P Z B args σ g q ⟨⟨vs⟩, []⟩) (h : runF P Z E n fn args σ = some (rs, σ')) :
    Calls P f ⟨vs⟩ g.w fun e w' => ∃ us g' q' fr' a', e = .returned (ret1 us) ∧ g'.w = w' ∧ Inv P Z B fr' σ' g' q' a' ∧ Evo g σ q g' σ' q' ∧ SRL g' σ' q' rs us := by
  unfold runF at h
  split at h
  · rename_i c hb
    have hI1 : Inv P Z B (args ++ List.replicate (fn.ntmps - args.length) (.d (.tup []))) σ g q { tmps := (⟨vs⟩ : Array Value) ++ Array.replicate (fn.ntmps - (⟨vs⟩ : Array Value).size) undef, defers := [] } :=
      { hI with defers := rfl, slot := entry_srl hI.slot fn.ntmps }
    refine calls_of_wp hf hb ?_
    split at h
    · rename_i fr σ1 hev
      obtain ⟨rs', hrs, hh⟩ := Option.map_eq_some_iff.1 h
      simp only [Prod.mk.injEq] at hh
      obtain ⟨rfl, rfl⟩ := hh
      refine wp_mono (evalC_sound hE hm c hI1 hev) ?_
      rintro e a w ⟨g', q', rfl, h1, h2, h3⟩
      simp only at h3
      subst h3
      obtain ⟨us, k1, k2⟩ := results_sound h1 hrs
      exact ⟨h1.defers, _, k1, us, g', q', _, a, rfl, rfl, h1, h2, k2⟩
    · rename_i fr σ1 hev
      obtain ⟨rs', hrs, hh⟩ := Option.map_eq_some_iff.1 h
      simp only [Prod.mk.injEq] at hh
      obtain ⟨rfl, rfl⟩ := hh
      refine wp_mono (evalC_sound hE hm c hI1 hev) ?_
      rintro e a w ⟨g', q', rfl, h1, h2, h3⟩
      simp only at h3
      subst h3
      obtain ⟨us, k1, k2⟩ := results_sound h1 hrs
      exact ⟨h1.defers, _, k1, us, g', q', _, a, rfl, rfl, h1, h2, k2⟩
    · cases h
  · cases h

theorem snap_sound {P : Program} {Z : GTab} {B : Nat} {fr : List SV} {σ : List Blk} {g : G} {q : Gh} {a : Act} (hI : Inv P Z B fr σ g q a) {S : Nat → Nat → Prop} (hle : g.le ⟨g.w, S⟩)
    (hS : ∀ b o, B ≤ b → b < g.w.heap.size → S b o) {x : SV} {v : Value} {d : D} (hx : SR g σ q x v) (h : snap σ x = some d) : CR ⟨g.w, S⟩ d v := by
  cases x with
  | d y => simp only [snap, Option.some.injEq] at h; subst h; exact CR.mono hle hx
  | gl k T rows =>
    simp only [snap, Option.some.injEq] at h
    subst h
    obtain ⟨rfl, hk⟩ := hx
    exact CR.mono hle (hI.crr k T rows hk)
  | arr id off n =>
    simp only [snap] at h
    obtain ⟨b, c, hb, hc, rfl⟩ := hx
    split at h
    · rename_i T sz rows hb'
      rw [hb] at hb'
      simp only [Option.some.injEq] at hb'
      subst hb'
      split at h
      · rename_i hn
        simp only [Option.some.injEq] at h
        subst h
        obtain ⟨vs, k1, ⟨k2, k3⟩, k4, k5, _⟩ := hI.box id _ hb
        have hcr : CRR ⟨g.w, S⟩ (q.ρ id) 0 sz rows := by
          refine CRR.of (CRC.of (CRL.mono hle k2) ?_ ?_ k4) k3
          · intro j u hu
            show g.w.cell? _ = _
            rw [cell_of_row g.w _ _ _ _ _ k1]
            simpa using hu
          · intro j _
            exact hS _ _ k5 (Array.getElem?_eq_some_iff.1 k1).1
        have hl : ((rows.drop off).take n).length = n := by simp; omega
        have := CR.sl (g := ⟨g.w, S⟩) (q.ρ id) (off * sz) c sz ((rows.drop off).take n) (by omega) (by simpa using (hcr.drop off).take n)
        rw [hl] at this
        exact this
      · cases h
    · cases h
  | _ => cases h

theorem snapL_sound {P : Program} {Z : GTab} {B : Nat} {fr : List SV} {σ : List Blk} {g : G} {q : Gh} {a : Act} (hI : Inv P Z B fr σ g q a) {S : Nat → Nat → Prop} (hle : g.le ⟨g.w, S⟩)
    (hS : ∀ b o, B ≤ b → b < g.w.heap.size → S b o) : ∀ {xs : List SV} {vs : List Value} {ds : List D}, SRL g σ q xs vs → snapL σ xs = some ds → CRL ⟨g.w, S⟩ ds vs
  | [], vs, ds, hx, h => by
    simp only [SRL] at hx
    subst hx
    simp only [snapL, Option.some.injEq] at h
    subst h
    exact .nil
  | x :: xs, vs, ds, ⟨v, us, h1, h2, e⟩, h => by
    subst e
    simp only [snapL] at h
    split at h
    · rename_i d ds' k1 k2
      simp only [Option.some.injEq] at h
      subst h
      exact .cons _ _ _ _ (snap_sound hI hle hS h1 k1) (snapL_sound hI hle hS h2 k2)
    · cases h

theorem Inv.start (P : Program) (Z : GTab) (g : G) (hdom : ∀ b o, g.S b o → b < g.w.heap.size) (hz : GOk Z g) {ds : List D} {vs : List Value} (h : CRL g ds vs) :
    Inv P Z g.w.heap.size (ds.map .d) [] g ⟨fun _ => 0, fun _ => default, fun _ => none⟩ ⟨⟨vs⟩, []⟩ :=
  Inv.mk rfl h.toSRL (fun id b hb => by simp at hb) (fun i j hi => by simp at hi) (fun k T rows h => by cases h) (fun k j _ h => absurd rfl h) (Nat.le_refl _) hdom hz

theorem not_own_start {b : Nat} : ¬ Own [] ⟨fun _ => 0, fun _ => default, fun _ => none⟩ b := by
  rintro (⟨id, hid, _⟩ | ⟨k, hk, _⟩)
  · simp at hid
  · exact hk rfl

theorem pureC_of_runF {P : Program} {Z : GTab} {E : Env} (ih : EnvOk P Z E) (hm : P.follows .mixedOrders = true) {f : FuncId} {fn : Func} (hf : P.funcs[f]? = some fn) {n : Nat} {ds : List D} {rs : List SV} {σ : List Blk} {r : D}
    (hrun : runF P Z E n fn (ds.map .d) [] = some (rs, σ)) (h : snapR σ rs = some r) : PureC P Z f ds r := by
  intro g vs hdom hz hcl
  have hI := Inv.start P Z g hdom hz hcl
  refine (runF_sound ih hm hf hI hrun).mono ?_
  rintro e w' ⟨us, g', q', fr', a', rfl, rfl, h1, h2, h3⟩
  have hb := Evo.below hI h2
  have hle : g'.le ⟨g'.w, fun b o => g.S b o ∨ (g.w.heap.size ≤ b ∧ b < g'.w.heap.size)⟩ := ⟨fun _ _ _ _ h => h, fun b o hs => by
    by_cases hlt : b < g.w.heap.size
    · exact .inl (((h2.kept b hlt not_own_start).2 o).1 hs)
    · exact .inr ⟨by omega, h1.dom b o hs⟩⟩
  have hS : ∀ b o, g.w.heap.size ≤ b → b < g'.w.heap.size → (g.S b o ∨ (g.w.heap.size ≤ b ∧ b < g'.w.heap.size)) := fun b o k1 k2 => .inr ⟨k1, k2⟩
  refine ⟨_, rfl, hb, ?_⟩
  unfold snapR at h
  split at h
  · rename_i x
    obtain ⟨v, us', k1, k2, e⟩ := h3
    simp only [SRL] at k2
    subst k2 e
    exact snap_sound h1 hle hS k1 h
  · rename_i hne
    obtain ⟨ds', hds, rfl⟩ := Option.map_eq_some_iff.1 h
    have hl := SRL.length h3
    have hc := snapL_sound h1 hle hS h3 hds
    cases us with
    | nil => exact .tup _ _ hc
    | cons u us =>
      cases us with
      | nil =>
        cases rs with
        | nil => simp at hl
        | cons y ys =>
          cases ys with
          | nil => exact absurd rfl (hne y)
          | cons => simp at hl
      | cons u2 us => exact .tup _ _ hc

/-- What is known of functions by other proofs is so. -/
structure OrcOk (P : Program) (Z : GTab) (O : Orc) : Prop where
  C : ∀ f ds r, O f ds = some r → ((P.funcs[f]?).any fun fn => fn.body.isSome && fn.name != "runtime.NumGoroutine") = true → PureC P Z f ds r
  X : ∀ f ds r, O f ds = some r → ((P.funcs[f]?).any fun fn => fn.body.isSome && fn.name != "runtime.NumGoroutine") = false → PureX P f ds r

theorem evalF_ok {P : Program} {Z : GTab} (hm : P.follows .mixedOrders = true) {O : Orc} (hO : OrcOk P Z O) : ∀ n, EnvOk P Z (evalF P Z O n)
  | 0 => ⟨fun f ds r h hb => hO.C f ds r h hb, fun f ds r h hb => hO.X f ds r h hb, fun f args σ r σ' h => by cases h⟩
  | n + 1 => by
    have ih := evalF_ok hm hO n
    refine ⟨?_, fun f ds r h hb => hO.X f ds r h hb, ?_⟩
    · intro f ds r h hbody
      simp only [evalF] at h
      split at h
      · rename_i r' hr
        simp only [Option.some.injEq] at h
        subst h
        exact hO.C f ds _ hr hbody
      · split at h
        · rename_i fn hf
          split at h
          · rename_i rs σ hrun
            exact pureC_of_runF ih hm hf hrun h
          · cases h
        · cases h
    · intro f args σ r σ' h _ htags
      simp only [evalF] at h
      split at h
      · rename_i fn hf
        split at h
        · rename_i rs σ1 hrun
          split at h
          · rename_i htr
            simp only [Option.some.injEq, Prod.mk.injEq] at h
            obtain ⟨rfl, rfl⟩ := h
            have htr : tagsOf (tupleE rs) = [] := List.isEmpty_iff.1 htr
            refine ⟨?_, htr⟩
            intro B g q vs hI hq
            refine (runF_sound ih hm hf hI hrun).mono ?_
            rintro e w' ⟨us, g', q', fr', a', rfl, rfl, h1, h2, h3⟩
            have hsr : SR g' σ1 q' (tupleE rs) (ret1 us) := by
              unfold tupleE
              split
              · rename_i x
                obtain ⟨v, us', k1, k2, e⟩ := h3
                simp only [SRL] at k2
                subst k2 e
                exact k1
              · rename_i hne
                have hl := SRL.length h3
                have key : SR g' σ1 q' (match datumL rs with | some ds => .d (.tup ds) | none => .tupr rs) (.tuple ⟨us⟩) := by
                  split
                  · rename_i ds hds
                    exact .tup _ _ (datumL_srl h1 h3 hds)
                  · exact ⟨us, h3, rfl⟩
                cases us with
                | nil => exact key
                | cons u us =>
                  cases us with
                  | nil =>
                    cases rs with
                    | nil => simp at hl
                    | cons y ys =>
                      cases ys with
                      | nil => exact absurd rfl (hne y)
                      | cons => simp at hl
                  | cons u2 us => exact key
            have h4 := h1.only (fr' := [tupleE rs]) (a' := ⟨#[ret1 us], []⟩) (tagsB σ1) rfl ⟨_, [], hsr, rfl, rfl⟩ (by simp [tagsL, htr]) (fun _ h => h)
            refine ⟨_, g', q'.only (tagsB σ1), rfl, rfl, h4, ?_, ?_⟩
            · exact ⟨h2.le, h2.os, h2.tape, h2.output, h2.size, h2.kept, fun b hb => h2.own b (own_only hb), h2.same, h2.more⟩
            · intro k hk
              simp only [Gh.only] at hk
              split at hk
              · assumption
              · exact absurd rfl hk
          · cases h
        · cases h
      · cases h
end Go.Vm
