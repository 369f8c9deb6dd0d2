/- Functions. -/
import Derived.Test.YtmdmacmkmdgeaaaGreatDoorN12
import Derived.RangeFuncLeaves
namespace Go.N
open Go Go.RowKit

def resultE (P : Program) (fr : List V) (h : Hp) : ResultVar → Option V
  | .tmp t => some (fr.getD t (.tup []))
  | .cell t T => match fr.getD t (.tup []) with
    | .ptr id off => match cellsOf h id with
      | some cs => loadC P T cs off
      | none => none
    | _ => none
def resultsE (P : Program) (fr : List V) (h : Hp) : List ResultVar → Option (List V)
  | [] => some []
  | r :: l => match resultE P fr h r, resultsE P fr h l with
    | some x, some xs => some (x :: xs)
    | _, _ => none
def tupleE : List V → V
  | [x] => x
  | xs => .tup xs

def resVal (tmps : Array Value) : ResultVar → Sem Value
  | .tmp t => pure (tmps.getD t undef)
  | .cell a t => do loadVar t (← asAddr (tmps.getD a undef))
def ret1 : List Value → Value
  | [v] => v
  | us => .tuple ⟨us⟩
theorem results_eq (fn : Func) (tmps : Array Value) : results fn tmps = (do
    let vs ← fn.results.mapM (resVal tmps)
    pure (if h : vs.size = 1 then vs[0] else .tuple vs) : Sem Value) := by
  unfold results
  congr 1

theorem resultE_sound {P : Program} {B : Nat} {q : Q} {h : Hp} {w : World} (hT : HT B q h w) {fr : List V} {tmps : Array Value} (hs : RL q fr tmps.toList) {x : ResultVar} {s : V} (he : resultE P fr h x = some s) :
    ∃ v, (resVal tmps x).run P w = .ok v w ∧ R q s v := by
  have slot : ∀ t, R q (fr.getD t (.tup [])) (tmps.getD t undef) := fun t => opnd_sound (Z := fun _ => false) (a := ⟨tmps, []⟩) (fun k hk => by cases hk) hs (x := .tmp t) rfl
  cases x with
  | tmp t =>
    simp only [resultE, Option.some.injEq] at he
    subst he
    exact ⟨_, rfl, slot t⟩
  | cell t T =>
    simp only [resultE] at he
    have ht := slot t
    split at he
    · rename_i id off hfr
      rw [hfr] at ht
      obtain ⟨e, k1, hv⟩ := ht
      split at he
      · rename_i cs hg
        obtain ⟨e', vs, m1, m2, m3, m4, _⟩ := hT.holds hg
        rw [k1] at m1
        cases m1
        obtain ⟨r, hr, hrc⟩ := loadC_run he m2 m3 m4
        exact ⟨r, by simp only [resVal, Sem.run_bind, hv, asAddr, Sem.run_pure, Result.andThen_ok, hr], hrc⟩
      · cases he
    · cases he
theorem resultsE_sound {P : Program} {B : Nat} {q : Q} {h : Hp} {w : World} (hT : HT B q h w) {fr : List V} {tmps : Array Value} (hs : RL q fr tmps.toList) :
    ∀ (l : List ResultVar) {xs : List V}, resultsE P fr h l = some xs → ∃ vs, (l.mapM (resVal tmps)).run P w = .ok vs w ∧ RL q xs vs
  | [], xs, he => by
    simp only [resultsE, Option.some.injEq] at he
    subst he
    exact ⟨[], rfl, rfl⟩
  | x :: l, xs, he => by
    simp only [resultsE] at he
    split at he
    · rename_i s ss h1 h2
      simp only [Option.some.injEq] at he
      subst he
      obtain ⟨v, k1, k2⟩ := resultE_sound hT hs h1
      obtain ⟨vs, k3, k4⟩ := resultsE_sound hT hs l h2
      refine ⟨v :: vs, ?_, v, vs, k2, k4, rfl⟩
      simp only [List.mapM_cons, Sem.run_bind, k1, Result.andThen_ok, k3, Sem.run_pure]
    · cases he
theorem results_sound {P : Program} {B : Nat} {q : Q} {h : Hp} {w : World} (hT : HT B q h w) {fr : List V} {tmps : Array Value} (hs : RL q fr tmps.toList) {fn : Func} {xs : List V} (he : resultsE P fr h fn.results.toList = some xs) :
    ∃ v, (results fn tmps).run P w = .ok v w ∧ R q (tupleE xs) v := by
  obtain ⟨vs, k1, k2⟩ := resultsE_sound hT hs _ he
  refine ⟨ret1 vs, ?_, ?_⟩
  · rw [results_eq]
    have e : (fn.results.mapM (resVal tmps)).run P w = .ok ⟨vs⟩ w := by
      rw [Array.mapM_eq_mapM_toList]
      simp only [Sem.run_map, k1, Result.andThen_ok]
    rw [Sem.run_bind, e]
    simp only [Result.andThen_ok, Sem.run_pure]
    congr 1
    cases vs with
    | nil => rfl
    | cons v vs => cases vs <;> simp [ret1]
  · cases xs with
    | nil => simp only [RL] at k2; subst k2; exact ⟨[], rfl, rfl⟩
    | cons x xs =>
      obtain ⟨v, us, h1, h2, rfl⟩ := k2
      cases xs with
      | nil => simp only [RL] at h2; subst h2; exact h1
      | cons y ys =>
        obtain ⟨v2, us2, h3, h4, rfl⟩ := h2
        exact ⟨v :: v2 :: us2, ⟨v, _, h1, ⟨v2, us2, h3, h4, rfl⟩, rfl⟩, rfl⟩

theorem entry_rl {q : Q} {args : List V} {vs : List Value} (h : RL q args vs) (n : Nat) :
    RL q (args ++ List.replicate (n - args.length) (.tup [])) ((⟨vs⟩ : Array Value) ++ Array.replicate (n - (⟨vs⟩ : Array Value).size) undef).toList := by
  rw [Array.toList_append, Array.toList_replicate, List.size_toArray, ← h.length]
  refine h.append ?_
  generalize n - args.length = k
  induction k with
  | zero => rfl
  | succ k ih => exact ⟨undef, _, ⟨[], rfl, rfl⟩, ih, rfl⟩

/-! ### Rounds -/
def putsF : List (Tmp × V) → List V → List V
  | [], fr => fr
  | (t, x) :: l, fr => putsF l (fr.set t x)
def endE (h : Hp) (l : Nat) (pd : Option Code) (st : LoopState) (b : Bool) : Option (V × Hp) := match h.get l with
  | some (.loop _ _ sl ps as bd) => bif Nat.ble h.lim l then some (.sc (.bool b), h.set l (some (.loop st pd sl ps as bd))) else none
  | _ => none
def roundE (P : Program) (Z : Nat → Bool) (E : Env) (n l : Nat) (args : List V) (h : Hp) : Option (V × Hp) := match h.get l with
  | some (.loop _ _ sl ps as bd) => bif Nat.beq args.length ps.length && Nat.ble h.lim h.next then match evalC P Z E (some l) n as (putsF (ps.zip args) sl) h with
      | some (.normal, fr, h1) => match h1.get l with
        | some (.loop .ready pd sl' ps' as' bd') => bif Nat.ble h1.lim l then match evalC P Z E (some l) n bd fr (h1.set l (some (.loop .busy pd sl' ps' as' bd'))) with
            | some (.normal, _, h3) => endE h3 l none .ready true
            | some (.ret, _, h3) => endE h3 l (some .ret) .done false
            | some (.exit id, _, h3) => endE h3 l (some (.exit id)) .done false
            | _ => none
          else none
        | _ => none
      | _ => none
    else none
  | _ => none
theorem endE_sf {h h' : Hp} {l : Nat} {pd : Option Code} {st : LoopState} {b : Bool} {x : V} (he : endE h l pd st b = some (x, h')) : Sf h h' := by
  unfold endE at he
  split at he
  · rename_i hg
    cases hb : Nat.ble h.lim l with
    | false => simp [hb] at he
    | true =>
      simp only [hb, cond_true, Option.some.injEq, Prod.mk.injEq] at he
      obtain ⟨_, rfl⟩ := he
      exact Sf.set hg (Nat.le_of_ble_eq_true hb) _
  · cases he
theorem Sf.limle {h h' : Hp} (s : Sf h h') (hl : h.lim ≤ h.next) : h'.lim ≤ h'.next := by
  rw [s.lim]; exact Nat.le_trans hl s.next

/-- The parts of a round. -/
structure RoundParts (P : Program) (Z : Nat → Bool) (E : Env) (n l : Nat) (args : List V) (h : Hp) (x : V) (h' : Hp) (st0 : LoopState) (pd0 : Option Code) (sl : List V) (ps : List Tmp) (as bd : Code) (fr : List V) (h1 : Hp) (pd : Option Code) (sl' : List V) (ps' : List Tmp) (as' bd' : Code) (ex : Ex) (fr3 : List V) (h3 : Hp) : Prop where
  rec0 : h.get l = some (.loop st0 pd0 sl ps as bd)
  len : args.length = ps.length
  lim : h.lim ≤ h.next
  left : evalC P Z E (some l) n as (putsF (ps.zip args) sl) h = some (.normal, fr, h1)
  rec1 : h1.get l = some (.loop .ready pd sl' ps' as' bd')
  lim1 : h1.lim ≤ l
  body : evalC P Z E (some l) n bd fr (h1.set l (some (.loop .busy pd sl' ps' as' bd'))) = some (ex, fr3, h3)
  fin : (ex = .normal ∧ endE h3 l none .ready true = some (x, h')) ∨ (ex = .ret ∧ endE h3 l (some .ret) .done false = some (x, h')) ∨ ∃ id, ex = .exit id ∧ endE h3 l (some (.exit id)) .done false = some (x, h')
theorem roundE_parts {P : Program} {Z : Nat → Bool} {E : Env} {n l : Nat} {args : List V} {h h' : Hp} {x : V} (he : roundE P Z E n l args h = some (x, h')) :
    ∃ st0 pd0 sl ps as bd fr h1 pd sl' ps' as' bd' ex fr3 h3, RoundParts P Z E n l args h x h' st0 pd0 sl ps as bd fr h1 pd sl' ps' as' bd' ex fr3 h3 := by
  unfold roundE at he
  split at he
  · rename_i st0 pd0 sl ps as bd hg
    cases hb : Nat.beq args.length ps.length && Nat.ble h.lim h.next with
    | false => simp [hb] at he
    | true =>
      simp only [hb, cond_true] at he
      simp only [Bool.and_eq_true, Nat.beq_eq] at hb
      split at he
      · rename_i fr h1 hl
        split at he
        · rename_i pd sl' ps' as' bd' hg1
          cases hb1 : Nat.ble h1.lim l with
          | false => simp [hb1] at he
          | true =>
            simp only [hb1, cond_true] at he
            have mk : ∀ ex fr3 h3, evalC P Z E (some l) n bd fr (h1.set l (some (.loop .busy pd sl' ps' as' bd'))) = some (ex, fr3, h3) → _ → RoundParts P Z E n l args h x h' st0 pd0 sl ps as bd fr h1 pd sl' ps' as' bd' ex fr3 h3 :=
              fun ex fr3 h3 k1 k2 => ⟨hg, hb.1, Nat.le_of_ble_eq_true hb.2, hl, hg1, Nat.le_of_ble_eq_true hb1, k1, k2⟩
            split at he
            · rename_i fr3 h3 hbd
              exact ⟨_, _, _, _, _, _, _, _, _, _, _, _, _, _, _, _, mk _ _ _ hbd (.inl ⟨rfl, he⟩)⟩
            · rename_i fr3 h3 hbd
              exact ⟨_, _, _, _, _, _, _, _, _, _, _, _, _, _, _, _, mk _ _ _ hbd (.inr (.inl ⟨rfl, he⟩))⟩
            · rename_i id fr3 h3 hbd
              exact ⟨_, _, _, _, _, _, _, _, _, _, _, _, _, _, _, _, mk _ _ _ hbd (.inr (.inr ⟨id, rfl, he⟩))⟩
            · cases he
        · cases he
      · cases he
  · cases he

theorem roundE_sf {P : Program} {Z : Nat → Bool} {E : Env} (hE : EnvOk P Z E) {n l : Nat} {args : List V} {h h' : Hp} {x : V} (he : roundE P Z E n l args h = some (x, h')) : Sf h h' := by
  obtain ⟨st0, pd0, sl, ps, as, bd, fr, h1, pd, sl', ps', as', bd', ex, fr3, h3, p⟩ := roundE_parts he
  have s1 := evalC_sf hE as p.lim p.left
  have s2 := s1.trans (Sf.set p.rec1 p.lim1 (some (.loop .busy pd sl' ps' as' bd')))
  have s3 := s2.trans (evalC_sf hE bd (s2.limle p.lim) p.body)
  rcases p.fin with ⟨_, k⟩ | ⟨_, k⟩ | ⟨_, _, k⟩ <;> exact s3.trans (endE_sf k)

theorem puts_rl {q : Q} : ∀ (ps : List Tmp) {args : List V} {vs : List Value} {sl : List V} {t : Array Value}, RL q args vs → RL q sl t.toList →
    RL q (putsF (ps.zip args) sl) ((ps.zip vs).foldl (fun tmps (x : Tmp × Value) => tmps.setIfInBounds x.1 x.2) t).toList
  | [], args, vs, sl, t, _, h => h
  | p :: ps, [], vs, sl, t, ha, h => by
    simp only [RL] at ha
    subst ha
    exact h
  | p :: ps, x :: args, vs, sl, t, ha, h => by
    obtain ⟨v, us, h1, h2, rfl⟩ := ha
    simp only [List.zip_cons_cons, putsF, List.foldl_cons]
    refine puts_rl ps h2 ?_
    rw [Array.toList_setIfInBounds]
    exact h.set p h1

theorem endE_sound {P : Program} {B : Nat} {q : Q} {h h' : Hp} {w : World} (hT : HT B q h w) {l : Nat} {e : QE} (hq : q l = some e) {pd : Option Code} {st : LoopState} {b : Bool} {x : V} (hst : st = if pd.isNone then .ready else .done) (hb : b = pd.isNone) (he : endE h l pd st b = some (x, h')) :
    ∃ v w', (Instr.endRound e.b pd).run P w = .ok v w' ∧ HT B q h' w' ∧ Fr q h w q h' w' ∧ R q x v := by
  unfold endE at he
  split at he
  · rename_i st1 pd1 sl ps as bd hg
    cases hbb : Nat.ble h.lim l with
    | false => simp [hbb] at he
    | true =>
      simp only [hbb, cond_true, Option.some.injEq, Prod.mk.injEq] at he
      obtain ⟨rfl, rfl⟩ := he
      obtain ⟨e', u1, ⟨u0, fn', D', ts, u2, u3⟩, _⟩ := hT.tie _ _ hg
      rw [hq] at u1
      cases u1
      obtain ⟨o1, o2⟩ := hT.over hg hq (Nat.le_of_ble_eq_true hbb) (o' := .loop st pd sl ps as bd) (x := .loop { state := st, pending := pd, fn := fn', tmps := ⟨ts⟩, params := ⟨ps⟩, assign := as, body := bd, defers := D' })
        (w' := w.putObj e.b (.loop { state := st, pending := pd, fn := fn', tmps := ⟨ts⟩, params := ⟨ps⟩, assign := as, body := bd, defers := D' }))
        (World.putObj_heap_same (lt_of_some u2)) (fun b hb => World.putObj_heap_other hb) World.putObj_size rfl rfl rfl ⟨u0, fn', D', ts, rfl, u3⟩
      refine ⟨_, _, ?_, o1, o2, ⟨rfl, rfl⟩⟩
      rw [hb, hst]
      exact run_endRound pd u2
  · cases he

theorem roundE_sound {P : Program} {Z : Nat → Bool} {E : Env} (hE : EnvOk P Z E) (hm : P.follows .mixedOrders = true) {n l : Nat} {args : List V} {h h' : Hp} {x : V} (he : roundE P Z E n l args h = some (x, h')) : YC P Z l args h x h' := by
  obtain ⟨st0, pd0, sl, ps, as, bd, fr, h1, pd, sl', ps', as', bd', ex, fr3, h3, p⟩ := roundE_parts he
  intro B q w vs hT hfree hz hs
  obtain ⟨e, u1, ⟨u0, fn', D', ts, u2, u3⟩, _⟩ := hT.tie _ _ p.rec0
  have hlen : vs.length = (⟨ps⟩ : Array Tmp).size := by rw [← hs.length, p.len]; simp
  have s1 := evalC_sf hE as p.lim p.left
  have s2 := s1.trans (Sf.set p.rec1 p.lim1 (some (.loop .busy pd sl' ps' as' bd')))
  have s3 := evalC_sf hE bd (s2.limle p.lim) p.body
  have s4 : Sf h3 h' := by rcases p.fin with ⟨_, k⟩ | ⟨_, k⟩ | ⟨_, _, k⟩ <;> exact endE_sf k
  have n1 : h1.next ≤ h3.next := s3.next
  have n2 : h3.next ≤ h'.next := s4.next
  refine ⟨e, _, u1, u2, hlen, fun m => roundIn_of_wpIn (F := Fence.wide) trivial ?_⟩
  have hzip : ((⟨ps⟩ : Array Tmp).zip (⟨vs⟩ : Array Value)).foldl (fun tmps (x : Tmp × Value) => tmps.setIfInBounds x.1 x.2) (⟨ts⟩ : Array Value) = (ps.zip vs).foldl (fun tmps (x : Tmp × Value) => tmps.setIfInBounds x.1 x.2) (⟨ts⟩ : Array Value) := by
    rw [List.zip_toArray, List.foldl_toArray]
  have hsl : RL q (putsF (ps.zip args) sl) (((⟨ps⟩ : Array Tmp).zip (⟨vs⟩ : Array Value)).foldl (fun tmps (x : Tmp × Value) => tmps.setIfInBounds x.1 x.2) (⟨ts⟩ : Array Value)).toList := by
    rw [hzip]
    exact puts_rl ps hs u3
  have ev := evalC_sound (ro := some e.b) (rd := some l) (m0 := m) (B := B) hE hm as (a := { tmps := ((⟨ps⟩ : Array Tmp).zip (⟨vs⟩ : Array Value)).foldl (fun tmps (x : Tmp × Value) => tmps.setIfInBounds x.1 x.2) (⟨ts⟩ : Array Value), defers := [] })
    hT (hfree.left (Nat.le_trans n1 n2)) hz ⟨e, u1, rfl⟩ hsl p.left
  refine wpIn_mono ev ?_
  rintro e1 a1 w1 ⟨q1, t1, t2, t3, t4, t5⟩
  simp only at t5
  subst t5
  obtain ⟨e', v1, ⟨v0, fn1, D1, ts1, v2, v3⟩, _⟩ := t1.tie _ _ p.rec1
  have hqe := t2.ext _ _ u1
  rw [v1] at hqe
  cases hqe
  obtain ⟨o1, o2⟩ := t1.over p.rec1 v1 p.lim1 (o' := .loop .busy pd sl' ps' as' bd') (x := .loop { state := .busy, pending := pd, fn := fn1, tmps := ⟨ts1⟩, params := ⟨ps'⟩, assign := as', body := bd', defers := D1 })
    (w' := w1.putObj e.b (.loop { state := .busy, pending := pd, fn := fn1, tmps := ⟨ts1⟩, params := ⟨ps'⟩, assign := as', body := bd', defers := D1 }))
    (World.putObj_heap_same (lt_of_some v2)) (fun b hb => World.putObj_heap_other hb) World.putObj_size rfl rfl rfl ⟨v0, fn1, D1, ts1, rfl, v3⟩
  refine ⟨_, run_beginRound v2 rfl, ?_⟩
  have F2 := t2.trans o2
  have ev2 := evalC_sound (ro := some e.b) (rd := some l) (m0 := m) (B := B) hE hm bd o1 (((hfree.right t2).left n2)) (hz.mono F2.ext) ⟨e, v1, rfl⟩ t3 p.body
  refine wpIn_mono ev2 ?_
  rintro e3 a3 w3 ⟨q3, y1, y2, y3, y4, y5⟩
  have F3 := F2.trans y2
  have hq3 := F3.ext _ _ u1
  rcases p.fin with ⟨rfl, k⟩ | ⟨rfl, k⟩ | ⟨id, rfl, k⟩
  · simp only at y5; subst y5
    obtain ⟨v, w', k1, k2, k3, k4⟩ := endE_sound (P := P) y1 hq3 rfl rfl k
    exact ⟨v, w', k1, q3, v, rfl, k2, F3.trans k3, k4⟩
  · simp only at y5; subst y5
    obtain ⟨v, w', k1, k2, k3, k4⟩ := endE_sound (P := P) y1 hq3 rfl rfl k
    exact ⟨v, w', k1, q3, v, rfl, k2, F3.trans k3, k4⟩
  · simp only at y5; subst y5
    obtain ⟨v, w', k1, k2, k3, k4⟩ := endE_sound (P := P) y1 hq3 rfl rfl k
    exact ⟨v, w', k1, q3, v, rfl, k2, F3.trans k3, k4⟩

/-! ### Marks, on the way out -/
theorem leaves_marks {P : Program} {fn : Func} {n : Nat} {tmps : Array Value} {B : Nat} {q0 : Q} {h0 : Hp} {w0 : World} {q : Q} {h : Hp} {u : FrameMode} (hu : u ≠ .run) {R : Ending → World → Prop} :
    ∀ (ms : List Nat) (w : World), ms.Nodup → (∀ D ∈ ms, w0.heap.size ≤ D ∧ w.heap[D]? = some (.deferred (some [])) ∧ ∀ id o e, h.get id = some o → q id = some e → e.b ≠ D) → HT B q h w → Fr q0 h0 w0 q h w →
      (∀ w', HT B q h w' → Fr q0 h0 w0 q h w' → LeavesIn Fence.wide n P fn tmps R [] u w') →
      LeavesInM Fence.wide n P fn tmps R (ms.map fun D => ({ target := .collected D, args := #[] } : Deferred)) u w
  | [], w, _, _, hT, hF, K => K w hT hF
  | D :: ms, w, hnd, hms, hT, hF, K => by
    obtain ⟨hn1, hn2⟩ := List.nodup_cons.1 hnd
    obtain ⟨d1, d2, d3⟩ := hms D (by simp)
    have hlt := lt_of_some d2
    refine ⟨hu, .inl ⟨D, w.putObj D (.deferred none), rfl, run_takeDeferred d2, ?_⟩⟩
    have hoth : ∀ b, b ≠ D → (w.putObj D (.deferred none)).heap[b]? = w.heap[b]? := fun b hb => World.putObj_heap_other hb
    refine leaves_marks hu ms _ hn2 (fun D' hD' => ?_) ?_ ?_ K
    · obtain ⟨k1, k2, k3⟩ := hms D' (by simp [hD'])
      have hne : D' ≠ D := fun e => hn1 (e ▸ hD')
      exact ⟨k1, by rw [hoth _ hne]; exact k2, k3⟩
    · refine ⟨⟨fun id o ho => ?_, hT.inj, fun id e he => by rw [World.putObj_size]; exact hT.dom id e he, by rw [World.putObj_size]; exact hT.base⟩, hT.hid, hT.lim, hT.wf⟩
      obtain ⟨e, k1, k2, k3⟩ := hT.tie id o ho
      exact ⟨e, k1, by rw [hoth _ (d3 id o e ho k1)]; exact k2, k3⟩
    · exact ⟨hF.ext, hF.win, fun b hb hn => by rw [hoth b (by omega)]; exact hF.out b hb hn, by rw [World.putObj_size]; exact hF.size, hF.os, hF.tape, hF.output, hF.next, hF.lim, hF.hid, hF.old, hF.ro, hF.inv⟩

/-- A function's contract from its body. -/
theorem calls_of_D {P : Program} {Z : Nat → Bool} {B : Nat} {q : Q} {h : Hp} {w : World} {f : FuncId} {fn : Func} {c : Code} (hf : P.funcs[f]? = some fn) (hb : fn.body = some c) {args : Array Value} {Rr : Ending → World → Prop} {Ps : St → Prop}
    (hc : c.wpIn (FN none) 0 P (fun e a w' => ∃ r, Ps r ∧ PostD Z B q h w [] r e a w') { tmps := args ++ Array.replicate (fn.ntmps - args.size) undef, defers := [] } w)
    (hret : ∀ fr h2, Ps (.normal, fr, h2) ∨ Ps (.ret, fr, h2) → ∀ q' w' (tmps : Array Value), HT B q' h2 w' → Fr q h w q' h2 w' → RL q' fr tmps.toList → ∃ v, (results fn tmps).run P w' = .ok v w' ∧ Rr (.returned v) w')
    (hpan : ∀ x fr h2, Ps (.pan x, fr, h2) → ∀ q' w' v, HT B q' h2 w' → Fr q h w q' h2 w' → R q' x v → Rr (.panicked [{ v, recovered := false }]) w')
    (hex : ∀ id fr h2, ¬ Ps (.exit id, fr, h2)) : Calls P f args w Rr := by
  refine callsIn_wide.1 (callsIn_of_wp_marks (n := 0) hf hb trivial (wpIn_mono hc ?_) rfl)
  rintro e a w' ⟨⟨ex, fr, h2⟩, hps, q', t1, t2, t3, ⟨ms, t4, t5, t6⟩, t7⟩
  rw [List.append_nil] at t4
  cases ex with
  | exit id => exact absurd hps (hex _ _ _)
  | normal =>
    simp only at t7
    subst t7
    show LeavesInM _ _ _ _ _ _ a.defers _ _
    rw [t4]
    refine leaves_marks (by simp) ms w' t5 t6 t1 t2 fun w2 k1 k2 => ?_
    exact hret fr h2 (.inl hps) q' w2 a.tmps k1 k2 t3
  | ret =>
    simp only at t7
    subst t7
    show LeavesInM _ _ _ _ _ _ a.defers _ _
    rw [t4]
    refine leaves_marks (by simp) ms w' t5 t6 t1 t2 fun w2 k1 k2 => ?_
    exact hret fr h2 (.inr hps) q' w2 a.tmps k1 k2 t3
  | pan x =>
    obtain ⟨v, t8, rfl⟩ := t7
    show LeavesInM _ _ _ _ _ _ a.defers _ _
    rw [t4]
    refine leaves_marks (by simp) ms w' t5 t6 t1 t2 fun w2 k1 k2 => ?_
    exact hpan x fr h2 hps q' w2 v k1 k2 t8

def runF (P : Program) (Z : Nat → Bool) (E : Env) (n : Nat) (fn : Func) (args : List V) (h : Hp) : Option (Out × Hp) :=
  match fn.body with
  | some c => match evalC P Z E none n c (args ++ List.replicate (fn.ntmps - args.length) (.tup [])) h with
    | some (.normal, fr, h') => (resultsE P fr h' fn.results.toList).map fun rs => (.ret (tupleE rs), h')
    | some (.ret, fr, h') => (resultsE P fr h' fn.results.toList).map fun rs => (.ret (tupleE rs), h')
    | some (.pan x, _, h') => some (.pan x, h')
    | _ => none
  | none => none

theorem runF_sf {P : Program} {Z : Nat → Bool} {E : Env} (hE : EnvOk P Z E) {n : Nat} {fn : Func} {args : List V} {h h' : Hp} {o : Out} (hl : h.lim ≤ h.next) (he : runF P Z E n fn args h = some (o, h')) : Sf h h' := by
  unfold runF at he
  split at he
  · rename_i c _
    split at he
    · rename_i fr h2 hev
      obtain ⟨_, _, hh⟩ := Option.map_eq_some_iff.1 he
      simp only [Prod.mk.injEq] at hh
      obtain ⟨_, rfl⟩ := hh
      exact evalC_sf hE c hl hev
    · rename_i fr h2 hev
      obtain ⟨_, _, hh⟩ := Option.map_eq_some_iff.1 he
      simp only [Prod.mk.injEq] at hh
      obtain ⟨_, rfl⟩ := hh
      exact evalC_sf hE c hl hev
    · rename_i x fr h2 hev
      simp only [Option.some.injEq, Prod.mk.injEq] at he
      obtain ⟨_, rfl⟩ := he
      exact evalC_sf hE c hl hev
    · cases he
  · cases he

theorem runF_sound {P : Program} {Z : Nat → Bool} {E : Env} (hE : EnvOk P Z E) (hm : P.follows .mixedOrders = true) {n : Nat} {f : FuncId} {fn : Func} (hf : P.funcs[f]? = some fn) {args : List V} {h h' : Hp} {o : Out}
    (he : runF P Z E n fn args h = some (o, h')) : SC P Z f args h o h' := by
  intro B q w vs hT hfree hz hs
  unfold runF at he
  split at he
  · rename_i c hb
    have hse := entry_rl hs fn.ntmps
    have go : ∀ (ex : Ex) (fr : List V), evalC P Z E none n c (args ++ List.replicate (fn.ntmps - args.length) (.tup [])) h = some (ex, fr, h') →
        ((ex = .normal ∨ ex = .ret) ∧ ∃ rs, resultsE P fr h' fn.results.toList = some rs ∧ o = .ret (tupleE rs)) ∨ (∃ x, ex = .pan x ∧ o = .pan x) →
        Calls P f ⟨vs⟩ w fun e w' => ∃ q', HT B q' h' w' ∧ Fr q h w q' h' w' ∧ OutR q' o e := by
      intro ex fr hev hx
      refine calls_of_D (Z := Z) (B := B) (q := q) (h := h) (Ps := fun r => r = (ex, fr, h')) hf hb ?_ ?_ ?_ ?_
      · exact wpIn_mono (evalC_sound (m0 := 0) (ro := none) (rd := none) hE hm c hT hfree hz rfl hse hev) fun e a w' hp => ⟨_, rfl, hp⟩
      · intro fr2 h2 hps q' w' tmps k1 k2 k3
        rcases hx with ⟨hx, rs, hrs, rfl⟩ | ⟨x, rfl, _⟩
        · obtain ⟨rfl, rfl⟩ : fr2 = fr ∧ h2 = h' := by
            rcases hps with hps | hps <;> (simp only [Prod.mk.injEq] at hps; exact hps.2)
          obtain ⟨v, m1, m2⟩ := results_sound k1 k3 hrs
          exact ⟨v, m1, q', k1, k2, m2⟩
        · rcases hps with hps | hps <;> simp at hps
      · intro x fr2 h2 hps q' w' v k1 k2 k3
        simp only [Prod.mk.injEq] at hps
        obtain ⟨rfl, rfl, rfl⟩ := hps
        rcases hx with ⟨hx, _⟩ | ⟨x', hx, rfl⟩
        · rcases hx with hx | hx <;> cases hx
        · cases hx
          exact ⟨q', k1, k2, v, k3, rfl⟩
      · intro id fr2 h2 hps
        simp only [Prod.mk.injEq] at hps
        obtain ⟨rfl, _⟩ := hps
        rcases hx with ⟨hx, _⟩ | ⟨_, hx, _⟩
        · rcases hx with hx | hx <;> cases hx
        · cases hx
    split at he
    · rename_i fr h2 hev
      obtain ⟨rs, hrs, hh⟩ := Option.map_eq_some_iff.1 he
      simp only [Prod.mk.injEq] at hh
      obtain ⟨rfl, rfl⟩ := hh
      exact go _ fr hev (.inl ⟨.inl rfl, rs, hrs, rfl⟩)
    · rename_i fr h2 hev
      obtain ⟨rs, hrs, hh⟩ := Option.map_eq_some_iff.1 he
      simp only [Prod.mk.injEq] at hh
      obtain ⟨rfl, rfl⟩ := hh
      exact go _ fr hev (.inl ⟨.inr rfl, rs, hrs, rfl⟩)
    · rename_i x fr h2 hev
      simp only [Option.some.injEq, Prod.mk.injEq] at he
      obtain ⟨rfl, rfl⟩ := he
      exact go _ fr hev (.inr ⟨x, rfl, rfl⟩)
    · cases he
  · cases he

/-- What is known of functions by other proofs. -/
structure Orc where
  S : FuncId → List V → Hp → Option (Out × Hp)
  X : FuncId → List V → Option V
structure OrcOk (P : Program) (Z : Nat → Bool) (O : Orc) : Prop where
  S : ∀ f args h o h', O.S f args h = some (o, h') → hasBody P f = true → SC P Z f args h o h'
  F : ∀ f args h o h', O.S f args h = some (o, h') → Sf h h'
  X : ∀ f args r, O.X f args = some r → hasBody P f = false → XC P f args r

def evalF (P : Program) (Z : Nat → Bool) (O : Orc) : Nat → Env
  | 0 => { S := O.S, X := O.X }
  | n + 1 =>
    { S := fun f args h => match O.S f args h with
        | some r => some r
        | none => match P.funcs[f]? with
          | some fn => bif Nat.ble h.lim h.next then runF P Z (evalF P Z O n) n fn args h else none
          | none => none
      X := O.X
      Y := fun l args h => roundE P Z (evalF P Z O n) n l args h }
theorem evalF_ok {P : Program} {Z : Nat → Bool} (hm : P.follows .mixedOrders = true) {O : Orc} (hO : OrcOk P Z O) : ∀ n, EnvOk P Z (evalF P Z O n)
  | 0 => ⟨hO.S, hO.F, hO.X, (fun _ _ _ _ _ h => by cases h), (fun _ _ _ _ _ h => by cases h)⟩
  | n + 1 => by
    have ih := evalF_ok hm hO n
    refine ⟨?_, ?_, hO.X, (fun _ _ _ _ _ h => roundE_sound ih hm h), (fun _ _ _ _ _ h => roundE_sf ih h)⟩
    · intro f args h o h' he hb
      simp only [evalF] at he
      split at he
      · rename_i r hr
        simp only [Option.some.injEq] at he
        subst he
        exact hO.S _ _ _ _ _ hr hb
      · split at he
        · rename_i fn hf
          cases hl : Nat.ble h.lim h.next with
          | false => simp [hl] at he
          | true =>
            simp only [hl, cond_true] at he
            exact runF_sound ih hm hf he
        · cases he
    · intro f args h o h' he
      simp only [evalF] at he
      split at he
      · rename_i r hr
        simp only [Option.some.injEq] at he
        subst he
        exact hO.F _ _ _ _ _ hr
      · split at he
        · rename_i fn hf
          cases hl : Nat.ble h.lim h.next with
          | false => simp [hl] at he
          | true =>
            simp only [hl, cond_true] at he
            exact runF_sf ih (Nat.le_of_ble_eq_true hl) he
        · cases he
end Go.N
