/- Functions. -/
import Derived.Test.YtmdmacmkmdgeaaaGreatN12
namespace Go.N
open Go Go.RowKit

def resultE (P : Program) (fr : List V) (h : Hp) : ResultVar → Option V
  | .tmp t => some (fr.getD t (.tup []))
  | .cell t T => match fr.getD t (.tup []) with
    | .ptr id off => match cellsOf h id with
      | some cs => loadC P T cs off
      | none => none
    | _ => none
def resultsE (P : Program) (fr : List V) (h : Hp) : List ResultVar → Option (List V)
  | [] => some []
  | r :: l => match resultE P fr h r, resultsE P fr h l with
    | some x, some xs => some (x :: xs)
    | _, _ => none
def tupleE : List V → V
  | [x] => x
  | xs => .tup xs

def resVal (tmps : Array Value) : ResultVar → Sem Value
  | .tmp t => pure (tmps.getD t undef)
  | .cell a t => do loadVar t (← asAddr (tmps.getD a undef))
def ret1 : List Value → Value
  | [v] => v
  | us => .tuple ⟨us⟩
theorem results_eq (fn : Func) (tmps : Array Value) : results fn tmps = (do
    let vs ← fn.results.mapM (resVal tmps)
    pure (if h : vs.size = 1 then vs[0] else .tuple vs) : Sem Value) := by
  unfold results
  congr 1

theorem resultE_sound {P : Program} {B : Nat} {q : Q} {h : Hp} {w : World} (hT : HT B q h w) {fr : List V} {tmps : Array Value} (hs : RL q fr tmps.toList) {x : ResultVar} {s : V} (he : resultE P fr h x = some s) :
    ∃ v, (resVal tmps x).run P w = .ok v w ∧ R q s v := by
  have slot : ∀ t, R q (fr.getD t (.tup [])) (tmps.getD t undef) := fun t => opnd_sound (Z := fun _ => false) (a := ⟨tmps, []⟩) (fun k hk => by cases hk) hs (x := .tmp t) rfl
  cases x with
  | tmp t =>
    simp only [resultE, Option.some.injEq] at he
    subst he
    exact ⟨_, rfl, slot t⟩
  | cell t T =>
    simp only [resultE] at he
    have ht := slot t
    split at he
    · rename_i id off hfr
      rw [hfr] at ht
      obtain ⟨e, k1, hv⟩ := ht
      split at he
      · rename_i cs hg
        obtain ⟨e', vs, m1, m2, m3, m4, _⟩ := hT.holds hg
        rw [k1] at m1
        cases m1
        obtain ⟨r, hr, hrc⟩ := loadC_run he m2 m3 m4
        exact ⟨r, by simp only [resVal, Sem.run_bind, hv, asAddr, Sem.run_pure, Result.andThen_ok, hr], hrc⟩
      · cases he
    · cases he
theorem resultsE_sound {P : Program} {B : Nat} {q : Q} {h : Hp} {w : World} (hT : HT B q h w) {fr : List V} {tmps : Array Value} (hs : RL q fr tmps.toList) :
    ∀ (l : List ResultVar) {xs : List V}, resultsE P fr h l = some xs → ∃ vs, (l.mapM (resVal tmps)).run P w = .ok vs w ∧ RL q xs vs
  | [], xs, he => by
    simp only [resultsE, Option.some.injEq] at he
    subst he
    exact ⟨[], rfl, rfl⟩
  | x :: l, xs, he => by
    simp only [resultsE] at he
    split at he
    · rename_i s ss h1 h2
      simp only [Option.some.injEq] at he
      subst he
      obtain ⟨v, k1, k2⟩ := resultE_sound hT hs h1
      obtain ⟨vs, k3, k4⟩ := resultsE_sound hT hs l h2
      refine ⟨v :: vs, ?_, v, vs, k2, k4, rfl⟩
      simp only [List.mapM_cons, Sem.run_bind, k1, Result.andThen_ok, k3, Sem.run_pure]
    · cases he
theorem results_sound {P : Program} {B : Nat} {q : Q} {h : Hp} {w : World} (hT : HT B q h w) {fr : List V} {tmps : Array Value} (hs : RL q fr tmps.toList) {fn : Func} {xs : List V} (he : resultsE P fr h fn.results.toList = some xs) :
    ∃ v, (results fn tmps).run P w = .ok v w ∧ R q (tupleE xs) v := by
  obtain ⟨vs, k1, k2⟩ := resultsE_sound hT hs _ he
  refine ⟨ret1 vs, ?_, ?_⟩
  · rw [results_eq]
    have e : (fn.results.mapM (resVal tmps)).run P w = .ok ⟨vs⟩ w := by
      rw [Array.mapM_eq_mapM_toList]
      simp only [Sem.run_map, k1, Result.andThen_ok]
    rw [Sem.run_bind, e]
    simp only [Result.andThen_ok, Sem.run_pure]
    congr 1
    cases vs with
    | nil => rfl
    | cons v vs => cases vs <;> simp [ret1]
  · cases xs with
    | nil => simp only [RL] at k2; subst k2; exact ⟨[], rfl, rfl⟩
    | cons x xs =>
      obtain ⟨v, us, h1, h2, rfl⟩ := k2
      cases xs with
      | nil => simp only [RL] at h2; subst h2; exact h1
      | cons y ys =>
        obtain ⟨v2, us2, h3, h4, rfl⟩ := h2
        exact ⟨v :: v2 :: us2, ⟨v, _, h1, ⟨v2, us2, h3, h4, rfl⟩, rfl⟩, rfl⟩

theorem entry_rl {q : Q} {args : List V} {vs : List Value} (h : RL q args vs) (n : Nat) :
    RL q (args ++ List.replicate (n - args.length) (.tup [])) ((⟨vs⟩ : Array Value) ++ Array.replicate (n - (⟨vs⟩ : Array Value).size) undef).toList := by
  rw [Array.toList_append, Array.toList_replicate, List.size_toArray, ← h.length]
  refine h.append ?_
  generalize n - args.length = k
  induction k with
  | zero => rfl
  | succ k ih => exact ⟨undef, _, ⟨[], rfl, rfl⟩, ih, rfl⟩

def runF (P : Program) (Z : Nat → Bool) (E : Env) (n : Nat) (fn : Func) (args : List V) (h : Hp) : Option (Out × Hp) :=
  match fn.body with
  | some c => match evalC P Z E false n c (args ++ List.replicate (fn.ntmps - args.length) (.tup [])) h with
    | some (.normal, fr, h') => (resultsE P fr h' fn.results.toList).map fun rs => (.ret (tupleE rs), h')
    | some (.ret, fr, h') => (resultsE P fr h' fn.results.toList).map fun rs => (.ret (tupleE rs), h')
    | some (.pan x, _, h') => some (.pan x, h')
    | _ => none
  | none => none

theorem runF_sf {P : Program} {Z : Nat → Bool} {E : Env} (hE : EnvOk P Z E) {n : Nat} {fn : Func} {args : List V} {h h' : Hp} {o : Out} (hl : h.lim ≤ h.next) (he : runF P Z E n fn args h = some (o, h')) : Sf h h' := by
  unfold runF at he
  split at he
  · rename_i c _
    split at he
    · rename_i fr h2 hev
      obtain ⟨_, _, hh⟩ := Option.map_eq_some_iff.1 he
      simp only [Prod.mk.injEq] at hh
      obtain ⟨_, rfl⟩ := hh
      exact evalC_sf hE c hl hev
    · rename_i fr h2 hev
      obtain ⟨_, _, hh⟩ := Option.map_eq_some_iff.1 he
      simp only [Prod.mk.injEq] at hh
      obtain ⟨_, rfl⟩ := hh
      exact evalC_sf hE c hl hev
    · rename_i x fr h2 hev
      simp only [Option.some.injEq, Prod.mk.injEq] at he
      obtain ⟨_, rfl⟩ := he
      exact evalC_sf hE c hl hev
    · cases he
  · cases he

theorem runF_sound {P : Program} {Z : Nat → Bool} {E : Env} (hE : EnvOk P Z E) (hm : P.follows .mixedOrders = true) {n : Nat} {f : FuncId} {fn : Func} (hf : P.funcs[f]? = some fn) {args : List V} {h h' : Hp} {o : Out}
    (he : runF P Z E n fn args h = some (o, h')) : SC P Z f args h o h' := by
  intro B q w vs hT hfree hz hs
  unfold runF at he
  split at he
  · rename_i c hb
    refine calls_of_wp hf hb ?_
    have hse := entry_rl hs fn.ntmps
    have fin : ∀ fr h2 (ex : Ex), (ex = .normal ∨ ex = .ret) → evalC P Z E false n c (args ++ List.replicate (fn.ntmps - args.length) (.tup [])) h = some (ex, fr, h2) → (resultsE P fr h2 fn.results.toList).map (fun rs => (Out.ret (tupleE rs), h2)) = some (o, h') →
        c.wp P (bodyPost P fn fun e w' => ∃ q', HT B q' h' w' ∧ Fr q h w q' h' w' ∧ OutR q' o e) { tmps := (⟨vs⟩ : Array Value) ++ Array.replicate (fn.ntmps - (⟨vs⟩ : Array Value).size) undef, defers := [] } w := by
      intro fr h2 ex hex hev hr
      obtain ⟨rs, hrs, hh⟩ := Option.map_eq_some_iff.1 hr
      simp only [Prod.mk.injEq] at hh
      obtain ⟨rfl, rfl⟩ := hh
      refine wp_mono (wpIn_wide.1 (evalC_sound (m0 := 0) (ro := none) (fun _ => rfl) hE hm c hT hfree hz hse hev)) ?_
      rintro e a w' ⟨q', h1, h3, h4, h5, h6⟩
      obtain ⟨v, k1, k2⟩ := results_sound h1 h4 hrs
      rcases hex with rfl | rfl
      · simp only at h6; subst h6; exact ⟨h5, v, k1, q', h1, h3, k2⟩
      · simp only at h6; subst h6; exact ⟨h5, v, k1, q', h1, h3, k2⟩
    split at he
    · rename_i fr h2 hev
      exact fin fr h2 _ (.inl rfl) hev he
    · rename_i fr h2 hev
      exact fin fr h2 _ (.inr rfl) hev he
    · rename_i x fr h2 hev
      simp only [Option.some.injEq, Prod.mk.injEq] at he
      obtain ⟨rfl, rfl⟩ := he
      refine wp_mono (wpIn_wide.1 (evalC_sound (m0 := 0) (ro := none) (fun _ => rfl) hE hm c hT hfree hz hse hev)) ?_
      rintro e a w' ⟨q', h1, h3, h4, h5, v, k1, rfl⟩
      exact ⟨h5, q', h1, h3, v, k1, rfl⟩
    · cases he
  · cases he

/-- What is known of functions by other proofs. -/
structure Orc where
  S : FuncId → List V → Hp → Option (Out × Hp)
  X : FuncId → List V → Option V
structure OrcOk (P : Program) (Z : Nat → Bool) (O : Orc) : Prop where
  S : ∀ f args h o h', O.S f args h = some (o, h') → hasBody P f = true → SC P Z f args h o h'
  F : ∀ f args h o h', O.S f args h = some (o, h') → Sf h h'
  X : ∀ f args r, O.X f args = some r → hasBody P f = false → XC P f args r

def evalF (P : Program) (Z : Nat → Bool) (O : Orc) : Nat → Env
  | 0 => { S := O.S, X := O.X }
  | n + 1 =>
    { S := fun f args h => match O.S f args h with
        | some r => some r
        | none => match P.funcs[f]? with
          | some fn => bif Nat.ble h.lim h.next then runF P Z (evalF P Z O n) n fn args h else none
          | none => none
      X := O.X }
theorem evalF_ok {P : Program} {Z : Nat → Bool} (hm : P.follows .mixedOrders = true) {O : Orc} (hO : OrcOk P Z O) : ∀ n, EnvOk P Z (evalF P Z O n)
  | 0 => ⟨hO.S, hO.F, hO.X⟩
  | n + 1 => by
    have ih := evalF_ok hm hO n
    refine ⟨?_, ?_, hO.X⟩
    · intro f args h o h' he hb
      simp only [evalF] at he
      split at he
      · rename_i r hr
        simp only [Option.some.injEq] at he
        subst he
        exact hO.S _ _ _ _ _ hr hb
      · split at he
        · rename_i fn hf
          cases hl : Nat.ble h.lim h.next with
          | false => simp [hl] at he
          | true =>
            simp only [hl, cond_true] at he
            exact runF_sound ih hm hf he
        · cases he
    · intro f args h o h' he
      simp only [evalF] at he
      split at he
      · rename_i r hr
        simp only [Option.some.injEq] at he
        subst he
        exact hO.F _ _ _ _ _ hr
      · split at he
        · rename_i fn hf
          cases hl : Nat.ble h.lim h.next with
          | false => simp [hl] at he
          | true =>
            simp only [hl, cond_true] at he
            exact runF_sf ih (Nat.le_of_ble_eq_true hl) he
        · cases he
end Go.N
