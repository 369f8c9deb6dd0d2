/- The faster evaluator is sound. -/
import Derived.Test.YtmdmacmkmdgeaaaGreatDoorNK6
namespace Go.N
open Go Go.RowKit

def seqE (s : Option St) (g : List V → Hp → Option St) : Option St := match s with
  | some (.normal, fr, h) => g fr h
  | r => r
section
variable {n D : Nat}
theorem seqK_rel {r : KR} {s : Option St} {f : T4 → Hp → KR} {g : List V → Hp → Option St} (hr : KRel n D r s) (hf : ∀ t h, KRel n D (f t h) (g (toL n D t) h)) :
    KRel n D (seqK r f) (seqE s g) := by
  cases r with
  | no => trivial
  | nrm t h => obtain rfl : s = _ := hr; exact hf t h
  | ex id t h => obtain rfl : s = _ := hr; exact rfl
  | rt t h => obtain rfl : s = _ := hr; exact rfl
  | pn x t h => obtain rfl : s = _ := hr; exact rfl
theorem blockK_rel {r : KR} {s : Option St} {id : Nat} (hr : KRel n D r s) : KRel n D (blockK id r) (inBlockE id s) := by
  cases r with
  | no => trivial
  | nrm t h => obtain rfl : s = _ := hr; exact rfl
  | ex j t h =>
    obtain rfl : s = _ := hr
    refine kBool_rel (fun hb => ?_) fun hb => ?_
    · have hne : j ≠ id := by rintro rfl; rw [Nat.beq_refl] at hb; cases hb
      show inBlockE id (some (.exit j, toL n D t, h)) = _
      simp only [inBlockE, if_neg hne]
    · obtain rfl := Nat.eq_of_beq_eq_true hb
      show inBlockE j (some (.exit j, toL n D t, h)) = _
      simp only [inBlockE, if_true]
  | rt t h => obtain rfl : s = _ := hr; exact rfl
  | pn x t h => obtain rfl : s = _ := hr; exact rfl
theorem iterK_rel {f : T4 → Hp → KR} {g : List V → Hp → Option St} (hf : ∀ t h, KRel n D (f t h) (g (toL n D t) h)) : ∀ (m : Nat) (t : T4) (h : Hp), KRel n D (iterK f m t h) (iter m g (toL n D t) h)
  | 0, _, _ => trivial
  | m + 1, t, h => by
    have := seqK_rel (f := iterK f m) (g := iter m g) (hf t h) (fun t' h' => iterK_rel hf m t' h')
    have e : iter (m + 1) g (toL n D t) h = seqE (g (toL n D t) h) (iter m g) := by
      simp only [iter, seqE]
      split <;> split <;> simp_all
    rw [e]
    exact this
theorem toK_rel (hD : n ≤ 4 ^ D) (s : Option St) : KRel n D (toK n D s) s := by
  unfold toK
  split
  · rename_i fr h
    cases hb : Nat.beq (lenA fr) n with
    | false => trivial
    | true =>
      have hl := Nat.eq_of_beq_eq_true hb
      rw [lenA_eq] at hl
      show _ = _
      rw [toL_ofL_same fr hl hD]
  · rename_i id fr h
    cases hb : Nat.beq (lenA fr) n with
    | false => trivial
    | true =>
      have hl := Nat.eq_of_beq_eq_true hb
      rw [lenA_eq] at hl
      show _ = _
      rw [toL_ofL_same fr hl hD]
  · rename_i fr h
    cases hb : Nat.beq (lenA fr) n with
    | false => trivial
    | true =>
      have hl := Nat.eq_of_beq_eq_true hb
      rw [lenA_eq] at hl
      show _ = _
      rw [toL_ofL_same fr hl hD]
  · rename_i x fr h
    cases hb : Nat.beq (lenA fr) n with
    | false => trivial
    | true =>
      have hl := Nat.eq_of_beq_eq_true hb
      rw [lenA_eq] at hl
      show _ = _
      rw [toL_ofL_same fr hl hD]
  · trivial
theorem condK_rel {c : V} {a b : KR} {s : Option St} (h1 : c = .sc (.bool true) → KRel n D a s) (h2 : c = .sc (.bool false) → KRel n D b s) : KRel n D (condK c a b) s := by
  unfold condK
  split
  · exact h1 rfl
  · exact h2 rfl
  · trivial

theorem evalK_rel {P : Program} {Z : Nat → Bool} {E : Env} (hE : EnvOk P Z E) (hD : n ≤ 4 ^ D) {rd : Option Nat} {m : Nat} : ∀ (c : Code) (t : T4) (h : Hp), KRel n D (evalK P Z E rd n D m c t h) (evalC P Z E rd m c (toL n D t) h) := by
  intro c
  induction c with
  | skip => intro t h; rfl
  | label _ => intro t h; rfl
  | exit _ => intro t h; rfl
  | ret => intro t h; rfl
  | region id ops dr =>
    intro t h
    cases dr with
    | false => exact ki_rel hD ops.toList t h
    | true =>
      show KRel n D (Bool.rec (motive := fun _ => KR) (toK n D (evalC P Z E rd m (.region id ops true) (toL n D t) h)) (noPan (execK P Z E n D (kis P Z n D ops ops.toList) t h)) (calm ops)) _
      refine kBool_rel (fun _ => toK_rel hD _) fun hc => ?_
      have hk := ki_rel (P := P) (Z := Z) (E := E) hD (ops := ops) ops.toList t h
      cases hx : execK P Z E n D (kis P Z n D ops ops.toList) t h with
      | no => trivial
      | nrm t' h' =>
        rw [hx] at hk
        exact calm_eval hE hc hk
      | ex id' t' h' =>
        rw [hx] at hk
        exact absurd hk (by
          have hno : ∀ (l : List Oper) (fr : List V) (h : Hp) (id : Nat) (fr' : List V) (h' : Hp), execOps P Z E ops l fr h ≠ some (.exit id, fr', h') := by
            intro l
            induction l with
            | nil => intro fr h id fr' h' he; simp [execOps] at he
            | cons o l ih =>
              intro fr h id fr' h' he
              simp only [execOps] at he
              split at he
              · split at he
                · exact ih _ _ _ _ _ he
                · simp at he
                · cases he
              · exact ih _ _ _ _ _ he
              · cases he
          exact hno _ _ _ _ _ _)
      | rt t' h' =>
        rw [hx] at hk
        exact absurd hk (by
          have hno : ∀ (l : List Oper) (fr : List V) (h : Hp) (fr' : List V) (h' : Hp), execOps P Z E ops l fr h ≠ some (.ret, fr', h') := by
            intro l
            induction l with
            | nil => intro fr h fr' h' he; simp [execOps] at he
            | cons o l ih =>
              intro fr h fr' h' he
              simp only [execOps] at he
              split at he
              · split at he
                · exact ih _ _ _ _ he
                · simp at he
                · cases he
              · exact ih _ _ _ _ he
              · cases he
          exact hno _ _ _ _ _)
      | pn x t' h' => trivial
  | seq x y ihx ihy =>
    intro t h
    have := seqK_rel (f := evalK P Z E rd n D m y) (g := evalC P Z E rd m y) (ihx t h) ihy
    have e : evalC P Z E rd m (.seq x y) (toL n D t) h = seqE (evalC P Z E rd m x (toL n D t) h) (evalC P Z E rd m y) := by
      simp only [evalC, seqE]
      split <;> split <;> simp_all
    rw [e]
    exact this
  | cond c x y ihx ihy =>
    intro t h
    show KRel n D (Option.rec (motive := fun _ => KR) .no (fun a => condK (arg a t) (evalK P Z E rd n D m x t h) (evalK P Z E rd n D m y t h)) (karg Z n D c)) _
    cases hc : karg Z n D c with
    | none => trivial
    | some a =>
      have hop := karg_ok t hc
      refine condK_rel (fun hv => ?_) fun hv => ?_
      · rw [hv] at hop
        simp only [evalC, hop]
        exact ihx t h
      · rw [hv] at hop
        simp only [evalC, hop]
        exact ihy t h
  | block id x ih => intro t h; exact blockK_rel (ih t h)
  | loop x ih => intro t h; exact iterK_rel ih m t h
  | rangeFunc g ps as bd _ _ => intro t h; exact toK_rel hD _
  | scope x ih =>
    intro t h
    cases rd with
    | none => exact ih t h
    | some l => trivial
  | goto _ => intro t h; trivial
  | refuse _ => intro t h; trivial
end

theorem kOpt_some {α β : Type} {x : Option β} {f : β → Option α} {r : α} (h : kOpt x none f = some r) : ∃ y, x = some y ∧ f y = some r := by
  cases x with
  | none => cases h
  | some y => exact ⟨y, rfl, h⟩
theorem resK_ok {P : Program} {n D : Nat} {t : T4} {h : Hp} {r : ResultVar} {x : V} (he : resK P n D t h r = some x) : resultE P (toL n D t) h r = some x := by
  cases r with
  | tmp k =>
    simp only [resK] at he
    cases hb : Nat.blt k n with
    | false => rw [hb] at he; cases he
    | true =>
      rw [hb] at he
      have hk : k < n := by simpa using hb
      simp only [resultE, toL_getD t hk]
      exact he
  | cell k T =>
    simp only [resK] at he
    cases hb : (Nat.blt k n && okT P T) with
    | false => rw [hb] at he; cases he
    | true =>
      rw [hb] at he
      simp only [Bool.and_eq_true] at hb
      have hk : k < n := by simpa using hb.1
      simp only [cond_true] at he
      simp only [resultE, toL_getD t hk]
      generalize get4 (path D k) t = v at he ⊢
      cases v with
      | ptr id off =>
        have he : cellsR (hGet h id) none (fun cs => bif isAggT P T then kAgg cs off (szOf P T) none some else nthA cs off) = some x := he
        have key : ∀ cs, cellsOf h id = some cs → (bif isAggT P T then kAgg cs off (szOf P T) none some else nthA cs off) = some x → (match cellsOf h id with | some cs => loadC P T cs off | none => none) = some x := by
          intro cs hcs hx
          rw [hcs]
          simp only [loadC, hb.2, if_true]
          cases ha : isAggT P T with
          | false =>
            rw [ha, cond_false, nthA_eq] at hx
            simp only [Bool.false_eq_true, if_false]
            exact hx
          | true =>
            rw [ha, cond_true] at hx
            unfold kAgg at hx
            rw [takeA_eq, dropA_eq, lenA_eq] at hx
            simp only [if_true]
            cases hl : Nat.beq ((cs.drop off).take (szOf P T)).length (szOf P T) with
            | false => rw [hl] at hx; cases hx
            | true =>
              rw [hl] at hx
              rw [if_pos (Nat.eq_of_beq_eq_true hl)]
              exact hx
        unfold cellsR at he
        split at he
        · rename_i T' cs hg
          exact key cs (cells_get ⟨T', .inl hg⟩) he
        · rename_i T' cs hg
          exact key cs (cells_get ⟨T', .inr hg⟩) he
        · cases he
      | _ => cases he
theorem resKL_ok {P : Program} {n D : Nat} {t : T4} {h : Hp} : ∀ {l : List ResultVar} {xs : List V}, resKL P n D t h l = some xs → resultsE P (toL n D t) h l = some xs
  | [], xs, he => he
  | r :: l, xs, he => by
    have he : kOpt (resK P n D t h r) none (fun x => kOpt (resKL P n D t h l) none fun xs => some (x :: xs)) = some xs := he
    obtain ⟨x, h1, he⟩ := kOpt_some he
    obtain ⟨ys, h2, he⟩ := kOpt_some he
    simp only [Option.some.injEq] at he
    subst he
    simp only [resultsE, resK_ok h1, resKL_ok h2]
theorem runK_ok {P : Program} {Z : Nat → Bool} {E : Env} (hE : EnvOk P Z E) {m : Nat} {fn : Func} {args : List V} {h : Hp} {r : Out × Hp} (he : runK P Z E m fn args h = some r) : runF P Z E m fn args h = some r := by
  unfold runK at he
  unfold runF
  split at he
  · rename_i c hb
    rw [hb]
    cases hc : (Nat.ble args.length fn.ntmps && Nat.ble fn.ntmps (4 ^ deep fn.ntmps)) with
    | false => rw [hc] at he; cases he
    | true =>
      rw [hc, cond_true] at he
      simp only [Bool.and_eq_true] at hc
      have h1 := Nat.le_of_ble_eq_true hc.1
      have h2 := Nat.le_of_ble_eq_true hc.2
      have hr := evalK_rel hE h2 (rd := none) (m := m) c (ofL (deep fn.ntmps) args 0 .lf) h
      rw [toL_ofL args h1 h2] at hr
      generalize evalK P Z E none fn.ntmps (deep fn.ntmps) m c (ofL (deep fn.ntmps) args 0 .lf) h = k at he hr
      have fin : ∀ t h', kOpt (resKL P fn.ntmps (deep fn.ntmps) t h' fn.results.toList) none (fun xs => some (.ret (tupleE xs), h')) = some r → (resultsE P (toL fn.ntmps (deep fn.ntmps) t) h' fn.results.toList).map (fun rs => (.ret (tupleE rs), h')) = some r := by
        intro t h' hh
        obtain ⟨xs, k1, k2⟩ := kOpt_some hh
        rw [resKL_ok k1]
        exact k2
      cases k with
      | no => cases he
      | nrm t h' =>
        simp only
        rw [show evalC P Z E none m c (args ++ List.replicate (fn.ntmps - args.length) (.tup [])) h = _ from hr]
        exact fin t h' he
      | ex id t h' => cases he
      | rt t h' =>
        simp only
        rw [show evalC P Z E none m c (args ++ List.replicate (fn.ntmps - args.length) (.tup [])) h = _ from hr]
        exact fin t h' he
      | pn x t h' =>
        simp only
        rw [show evalC P Z E none m c (args ++ List.replicate (fn.ntmps - args.length) (.tup [])) h = _ from hr]
        exact he
  · cases he
theorem roundK_ok {P : Program} {Z : Nat → Bool} {E : Env} (hE : EnvOk P Z E) {m l : Nat} {args : List V} {h : Hp} {r : V × Hp} (he : roundK P Z E m l args h = some r) : roundE P Z E m l args h = some r := by
  unfold roundK at he
  unfold roundE
  split at he
  · rename_i st0 pd0 sl ps as bd hg
    rw [hg]
    cases hc : ((Nat.beq args.length ps.length && Nat.ble h.lim h.next) && (Nat.beq (putsF (ps.zip args) sl).length sl.length && Nat.ble sl.length (4 ^ deep sl.length))) with
    | false => rw [hc] at he; cases he
    | true =>
      rw [hc, cond_true] at he
      simp only [Bool.and_eq_true] at hc
      obtain ⟨⟨c1, c2⟩, c3, c4⟩ := hc
      have h3 := Nat.eq_of_beq_eq_true c3
      have h4 := Nat.le_of_ble_eq_true c4
      have hr := evalK_rel hE h4 (rd := some l) (m := m) as (ofL (deep sl.length) (putsF (ps.zip args) sl) 0 .lf) h
      rw [toL_ofL_same _ h3 h4] at hr
      simp only [c1, c2, Bool.and_self, cond_true]
      generalize evalK P Z E (some l) sl.length (deep sl.length) m as (ofL (deep sl.length) (putsF (ps.zip args) sl) 0 .lf) h = k at he hr
      unfold midK at he
      split at he
      · rename_i t h1
        rw [show evalC P Z E (some l) m as (putsF (ps.zip args) sl) h = _ from hr]
        simp only
        split at he
        · rename_i pd sl' ps' as' bd' hg1
          rw [hg1]
          cases hl : Nat.ble h1.lim l with
          | false => rw [hl] at he; cases he
          | true =>
            rw [hl, cond_true] at he
            simp only [cond_true]
            have hr2 := evalK_rel hE h4 (rd := some l) (m := m) bd t (h1.set l (some (.loop .busy pd sl' ps' as' bd')))
            generalize evalK P Z E (some l) sl.length (deep sl.length) m bd t (h1.set l (some (.loop .busy pd sl' ps' as' bd'))) = k2 at he hr2
            unfold endK at he
            split at he
            · rw [show evalC P Z E (some l) m bd (toL sl.length (deep sl.length) t) _ = _ from hr2]
              exact he
            · rw [show evalC P Z E (some l) m bd (toL sl.length (deep sl.length) t) _ = _ from hr2]
              exact he
            · rw [show evalC P Z E (some l) m bd (toL sl.length (deep sl.length) t) _ = _ from hr2]
              exact he
            · cases he
        · cases he
      · cases he
  · cases he

theorem evalH_ok {P : Program} {Z : Nat → Bool} (hm : P.follows .mixedOrders = true) {O : Orc} (hO : OrcOk P Z O) {mp : List Nat} {K : Nat} : ∀ n, EnvOk P Z (evalH P Z O mp K n)
  | 0 => ⟨hO.S, hO.F, hO.X, (fun _ _ _ _ _ h => by cases h), (fun _ _ _ _ _ h => by cases h)⟩
  | n + 1 => by
    have ih := evalH_ok hm hO (mp := mp) (K := K) n
    have key : ∀ f args h o h', callH P Z O mp K n (evalH P Z O mp K n) f args h = some (o, h') → (O.S f args h = some (o, h')) ∨ ∃ fn, P.funcs[f]? = some fn ∧ (runM P Z (evalH P Z O mp K n) K n fn args h = some (o, h') ∨ (h.lim ≤ h.next ∧ runF P Z (evalH P Z O mp K n) n fn args h = some (o, h'))) := by
      intro f args h o h' he
      unfold callH at he
      split at he
      · rename_i r hr
        simp only [Option.some.injEq] at he
        subst he
        exact .inl hr
      · split at he
        · rename_i fn hf
          cases hmp : memB f mp with
          | true =>
            rw [hmp, cond_true] at he
            exact .inr ⟨fn, hf, .inl he⟩
          | false =>
            rw [hmp, cond_false] at he
            cases hl : Nat.ble h.lim h.next with
            | false => rw [hl] at he; cases he
            | true =>
              rw [hl, cond_true] at he
              exact .inr ⟨fn, hf, .inr ⟨Nat.le_of_ble_eq_true hl, runK_ok ih he⟩⟩
        · cases he
    refine ⟨?_, ?_, hO.X, (fun _ _ _ _ _ h => roundE_sound ih hm (roundK_ok ih h)), (fun _ _ _ _ _ h => roundE_sf ih (roundK_ok ih h))⟩
    · intro f args h o h' he hb
      rcases key f args h o h' he with k | ⟨fn, hf, k | ⟨_, k⟩⟩
      · exact hO.S _ _ _ _ _ k hb
      · exact runM_sound ih hm hf k
      · exact runF_sound ih hm hf k
    · intro f args h o h' he
      rcases key f args h o h' he with k | ⟨fn, hf, k | ⟨hl, k⟩⟩
      · exact hO.F _ _ _ _ _ k
      · exact runM_sf k
      · exact runF_sf ih hl k
end Go.N
