/- The faster evaluator does what the other does: code, functions. -/
import Derived.Test.YtmdmacmkmdgeaaaGreatDoorNK5
namespace Go.N
open Go Go.RowKit

theorem kCall_ok {P : Program} {Z : Nat → Bool} {E : Env} {o : Oper} {fr : List V} {h : Hp} {f : Operand} {args : Array Operand} {argTypes : Array TypeId} {fv : V} {xs : List V} (hop : o.op = .call { callee := .value f, args, argTypes })
    (h1 : opnd Z fr f = some fv) (h2 : opndL Z fr args.toList = some xs) {r : Out × Hp} (h3 : kCall P E fv xs h = some r) : oneOp P Z E o fr h = some r := by
  have h0 : oneOp P Z E o fr h = callOp P Z E o fr h := by unfold oneOp; rw [hop]
  rw [h0]
  unfold callOp
  rw [hop]
  simp only [h1, h2]
  have key : ∀ g a b, (Bool.rec (motive := fun _ => Option (Out × Hp)) ((E.X g (a ++ xs ++ b)).map fun r => (.ret r, h)) (E.S g (a ++ xs ++ b) h) (hasBody P g)) = some r → (bif hasBody P g then E.S g (a ++ xs ++ b) h else (E.X g (a ++ xs ++ b)).map fun r => (.ret r, h)) = some r := by
    intro g a b hh
    cases hb : hasBody P g with
    | true => rw [hb] at hh; exact hh
    | false => rw [hb] at hh; exact hh
  unfold kCall at h3
  split at h3
  · rename_i g a b
    simp only [calleeE]
    split at h3
    · have := key g [] [] (by simpa using h3)
      exact this
    · exact key g a b h3
  · rename_i l
    simp only [calleeE]
    exact h3
  · cases h3

theorem kargs_app {Z : Nat → Bool} {n D : Nat} {a b : List Operand} {as : List KA} (h : kargs Z n D (a ++ b) = some as) (t : T4) : opndL Z (toL n D t) a = some ((argL as t).take a.length) ∧ opndL Z (toL n D t) b = some ((argL as t).drop a.length) :=
  opndL_append (kargs_ok t h)

section
variable {P : Program} {Z : Nat → Bool} {E : Env} {n D : Nat} {o : Oper} {d : Option (List D4)} {t : T4} {h : Hp} {ih : T4 → Hp → KR} {rest : List V → Hp → Option St}
theorem ko1_rel {x : Option KA} {f : KA → KO} {s : Option St} (h0 : KRel n D (doK P Z E n D d .slow o t h ih) s) (h1 : ∀ a, x = some a → KRel n D (doK P Z E n D d (f a) o t h ih) s) : KRel n D (doK P Z E n D d (ko1 x f) o t h ih) s := by
  cases x with
  | none => exact h0
  | some a => exact h1 a rfl
theorem ko2_rel {x y : Option KA} {f : KA → KA → KO} {s : Option St} (h0 : KRel n D (doK P Z E n D d .slow o t h ih) s) (h1 : ∀ a b, x = some a → y = some b → KRel n D (doK P Z E n D d (f a b) o t h ih) s) : KRel n D (doK P Z E n D d (ko2 x y f) o t h ih) s := by
  cases x with
  | none => exact h0
  | some a => cases y with
    | none => exact h0
    | some b => exact h1 a b rfl rfl
theorem ko3_rel {x y z : Option KA} {f : KA → KA → KA → KO} {s : Option St} (h0 : KRel n D (doK P Z E n D d .slow o t h ih) s) (h1 : ∀ a b c, x = some a → y = some b → z = some c → KRel n D (doK P Z E n D d (f a b c) o t h ih) s) : KRel n D (doK P Z E n D d (ko3 x y z f) o t h ih) s := by
  cases x with
  | none => exact h0
  | some a => cases y with
    | none => exact h0
    | some b => cases z with
      | none => exact h0
      | some c => exact h1 a b c rfl rfl rfl
theorem kol_rel {x : Option (List KA)} {f : List KA → KO} {s : Option St} (h0 : KRel n D (doK P Z E n D d .slow o t h ih) s) (h1 : ∀ a, x = some a → KRel n D (doK P Z E n D d (f a) o t h ih) s) : KRel n D (doK P Z E n D d (kol x f) o t h ih) s := by
  cases x with
  | none => exact h0
  | some a => exact h1 a rfl
theorem kbif_rel {b : Bool} {x y : KO} {s : Option St} (h1 : b = true → KRel n D (doK P Z E n D d x o t h ih) s) (h2 : b = false → KRel n D (doK P Z E n D d y o t h ih) s) : KRel n D (doK P Z E n D d (bif b then x else y) o t h ih) s := by
  cases b with
  | true => exact h1 rfl
  | false => exact h2 rfl

variable (hD : n ≤ 4 ^ D) (hd : DOk n D o.dst d) (hih : ∀ t' h', KRel n D (ih t' h') (rest (toL n D t') h'))
include hD hd hih
theorem do_g0 {f : Hp → Option (V × Hp)} (hf : ∀ r, f h = some r → stepOp P Z o (toL n D t) h = some r) : KRel n D (doK P Z E n D d (.g0 f) o t h ih) (cont P Z E o (toL n D t) h rest) := val_rel hD hd hih hf
theorem do_g1 {f : Hp → V → Option (V × Hp)} {a : KA} (hf : ∀ r, f h (arg a t) = some r → stepOp P Z o (toL n D t) h = some r) : KRel n D (doK P Z E n D d (.g1 f a) o t h ih) (cont P Z E o (toL n D t) h rest) := by
  show KRel n D (force (arg a t) fun v => valK d t ih (f h v)) _
  rw [force_eq]
  exact val_rel hD hd hih hf
theorem do_g2 {f : Hp → V → V → Option (V × Hp)} {a b : KA} (hf : ∀ r, f h (arg a t) (arg b t) = some r → stepOp P Z o (toL n D t) h = some r) : KRel n D (doK P Z E n D d (.g2 f a b) o t h ih) (cont P Z E o (toL n D t) h rest) := val_rel hD hd hih hf
theorem do_g3 {f : Hp → V → V → V → Option (V × Hp)} {a b c : KA} (hf : ∀ r, f h (arg a t) (arg b t) (arg c t) = some r → stepOp P Z o (toL n D t) h = some r) : KRel n D (doK P Z E n D d (.g3 f a b c) o t h ih) (cont P Z E o (toL n D t) h rest) := val_rel hD hd hih hf
theorem do_gl {f : Hp → List V → Option (V × Hp)} {as : List KA} (hf : ∀ r, f h (argL as t) = some r → stepOp P Z o (toL n D t) h = some r) : KRel n D (doK P Z E n D d (.gl f as) o t h ih) (cont P Z E o (toL n D t) h rest) := val_rel hD hd hih hf

theorem do_kop : KRel n D (doK P Z E n D d (kop P Z n D o.op) o t h ih) (cont P Z E o (toL n D t) h rest) := by
  have sl : KRel n D (doK P Z E n D d .slow o t h ih) (cont P Z E o (toL n D t) h rest) := do_slow hD hd hih
  unfold kop
  split
  · rename_i x hop
    exact ko1_rel sl fun a hx => fin_rel hD hd hih (by simp only [stepOp, hop, karg_ok t hx, Option.map_some])
  · rename_i x hop
    exact ko1_rel sl fun a hx => fin_rel hD hd hih (by simp only [stepOp, hop, karg_ok t hx, Option.map_some])
  · rename_i c x y hop
    exact ko3_rel sl fun ac ax ay hc hx hy => do_pick hD hd hih hop hc hx hy
  · rename_i op tt x y yt hop
    exact ko2_rel sl fun a b hx hy => do_bin hD hd hih hop hx hy
  · rename_i ss tt x hop
    split
    · rename_i ds k hs ht
      exact ko1_rel sl fun a hx => do_cv hD hd hih hop hs ht hx
    · exact sl
  · rename_i T x hop
    refine kbif_rel (fun h1 => kbif_rel (fun h2 => ?_) fun h2 => ?_) fun _ => sl
    · exact ko1_rel sl fun a hx => do_ldA hD hd hih hop h1 h2 hx
    · exact ko1_rel sl fun a hx => do_ld1 hD hd hih hop h1 h2 hx
  · rename_i T x y hop
    exact kbif_rel (fun h1 => ko2_rel sl fun a b hx hy => do_st hD hd hih hop h1 hx hy) fun _ => sl
  · rename_i T x f hop
    split
    · rename_i fd hfd
      exact kbif_rel (fun h1 => ko1_rel sl fun a hx => do_fa hD hd hih hop hfd h1 hx) fun _ => sl
    · exact sl
  · rename_i T x f hop
    split
    · rename_i fd hfd
      refine kbif_rel (fun h1 => kbif_rel (fun h2 => ?_) fun h2 => ?_) fun _ => sl
      · exact ko1_rel sl fun a hx => do_fA hD hd hih hop hfd h1 h2 hx
      · exact ko1_rel sl fun a hx => do_f1 hD hd hih hop hfd h1 h2 hx
    · exact sl
  · rename_i T x i hop
    split
    · rename_i e he
      exact kbif_rel (fun h1 => ko2_rel sl fun a b hx hi => do_ia hD hd hih hop he h1 hx hi) fun _ => sl
    · rename_i m e _ he
      exact kbif_rel (fun h1 => ko2_rel sl fun a b hx hi => do_pa hD hd hih hop he h1 hx hi) fun _ => sl
    · exact sl
  · rename_i T x i hop
    split
    · rename_i ht
      exact ko2_rel sl fun a b hx hi => do_ix hD hd hih hop ht hx hi
    · exact sl
  · rename_i T x lo hi hop
    split
    · rename_i a l u ht hx hl hu
      exact do_ss hD hd hih hop ht hx hl hu
    · exact sl
  · rename_i x i hop
    exact ko1_rel sl fun a hx => do_ex hD hd hih hop hx
  · rename_i T x hop
    exact ko1_rel sl fun a hx => do_nt hD hd hih hop hx
  · rename_i op T x _ hop
    exact ko1_rel sl fun a hx => do_g1 hD hd hih fun r hr => by
      simp only [stepOp, hop, karg_ok t hx, Option.bind_some]
      exact hr
  · rename_i T hop
    exact do_g0 hD hd hih fun r hr => by simp only [stepOp, hop]; exact hr
  · rename_i T x hop
    exact ko1_rel sl fun a hx => do_g1 hD hd hih fun r hr => by
      simp only [stepOp, hop, karg_ok t hx, Option.bind_some]
      exact hr
  · rename_i T parts hop
    exact kol_rel sl fun as hx => do_gl hD hd hih fun r hr => by
      simp only [stepOp, hop, parts_zip t hx, Option.bind_some]
      exact hr
  · rename_i T len parts hop
    exact kol_rel sl fun as hx => do_gl hD hd hih fun r hr => by
      simp only [stepOp, hop, parts_zip t hx, Option.bind_some]
      exact hr
  · rename_i T x y hop
    exact ko2_rel sl fun a b hx hy => do_g2 hD hd hih fun r hr => by
      simp only [stepOp, hop, karg_ok t hx, karg_ok t hy]
      exact hr
  · rename_i T hop
    exact do_g0 hD hd hih fun r hr => by simp only [stepOp, hop, optE, Option.bind_some]; exact hr
  · rename_i T x hop
    exact ko1_rel sl fun a hx => do_g1 hD hd hih fun r hr => by
      simp only [stepOp, hop, optE, karg_ok t hx, Option.map_some, Option.bind_some]
      exact hr
  · rename_i T x y ok hop
    exact ko2_rel sl fun a b hx hy => do_g2 hD hd hih fun r hr => by
      simp only [stepOp, hop, karg_ok t hx, karg_ok t hy]
      exact hr
  · rename_i T x y z hop
    exact ko3_rel sl fun a b c hx hy hz => do_g3 hD hd hih fun r hr => by
      simp only [stepOp, hop, karg_ok t hx, karg_ok t hy, karg_ok t hz]
      exact hr
  · rename_i T x y z hop
    exact ko3_rel sl fun a b c hx hy hz => do_g3 hD hd hih fun r hr => by
      simp only [stepOp, hop, karg_ok t hx, karg_ok t hy, karg_ok t hz]
      exact hr
  · rename_i T x y hop
    exact ko2_rel sl fun a b hx hy => do_g2 hD hd hih fun r hr => by
      simp only [stepOp, hop, karg_ok t hx, karg_ok t hy]
      exact hr
  · rename_i T x y z hop
    exact ko3_rel sl fun a b c hx hy hz => do_g3 hD hd hih fun r hr => by
      simp only [stepOp, hop, karg_ok t hx, karg_ok t hy, karg_ok t hz]
      exact hr
  · rename_i T x hop
    split
    · rename_i hi
      exact ko1_rel sl fun a hx => do_g1 hD hd hih fun r hr => by
        simp only [stepOp, hop, hi, karg_ok t hx, Option.map_some]
        exact hr
    · exact sl
  · rename_i x xT asserted ok hop
    exact ko1_rel sl fun a hx => do_g1 hD hd hih fun r hr => by
      simp only [stepOp, hop, karg_ok t hx, Option.bind_some]
      exact hr
  · rename_i f a b hop
    exact kol_rel sl fun as hx => do_gl hD hd hih fun r hr => by
      obtain ⟨k1, k2⟩ := kargs_app hx t
      simp only [stepOp, hop, k1, k2]
      exact hr
  · rename_i x hop
    exact ko1_rel sl fun a hx => do_nc hD hd hih hop hx
  · rename_i x T hop
    split
    · rename_i e ht
      exact ko1_rel sl fun a hx => do_len hD hd hih hop ht hx
    · rename_i ht
      exact ko1_rel sl fun a hx => do_lnS hD hd hih hop ht hx
    · exact sl
  · rename_i x y T u hop
    exact ko2_rel sl fun a b hx hy => do_g2 hD hd hih fun r hr => by
      have hos : opndL Z (toL n D t) [x, y] = some [arg a t, arg b t] := by simp only [opndL, karg_ok t hx, karg_ok t hy]
      simp only [stepOp, hop, hos, builtinE]
      exact hr
  · rename_i f args argTypes hop
    split
    · rename_i a as hf has
      exact out_rel hD hd hih fun r hr => kCall_ok hop (karg_ok t hf) (kargs_ok t has) hr
    · exact sl
  · exact sl
end

/-! ### Rows -/
theorem ki_rel {P : Program} {Z : Nat → Bool} {E : Env} {n D : Nat} (hD : n ≤ 4 ^ D) {ops : Array Oper} : ∀ (l : List Oper) (t : T4) (h : Hp), KRel n D (execK P Z E n D (kis P Z n D ops l) t h) (execOps P Z E ops l (toL n D t) h)
  | [], t, h => rfl
  | o :: l, t, h => by
    have hih : ∀ t' h', KRel n D (execK P Z E n D (kis P Z n D ops l) t' h') (execOps P Z E ops l (toL n D t') h') := fun t' h' => ki_rel hD l t' h'
    have hgo : ∀ d, DOk n D o.dst d → KRel n D (KG.rec (motive := fun _ => KR) (doK P Z E n D d (kop P Z n D o.op) o t h (execK P Z E n D (kis P Z n D ops l))) (execK P Z E n D (kis P Z n D ops l) (putD d (.tup []) t) h)
        (fun p w => whK (get4 p t) w (execK P Z E n D (kis P Z n D ops l) (putD d (.tup []) t) h) (doK P Z E n D d (kop P Z n D o.op) o t h (execK P Z E n D (kis P Z n D ops l)))) .no (kguard ops n D o.guard)) (execOps P Z E ops (o :: l) (toL n D t) h) := by
      intro d hd
      have hdo : wantedE ops o (toL n D t) = some true → KRel n D (doK P Z E n D d (kop P Z n D o.op) o t h (execK P Z E n D (kis P Z n D ops l))) (execOps P Z E ops (o :: l) (toL n D t) h) := by
        intro hw
        have := do_kop (P := P) (Z := Z) (E := E) (t := t) (h := h) hD hd (rest := execOps P Z E ops l) hih
        simp only [execOps, hw]
        exact this
      have hno : wantedE ops o (toL n D t) = some false → KRel n D (execK P Z E n D (kis P Z n D ops l) (putD d (.tup []) t) h) (execOps P Z E ops (o :: l) (toL n D t) h) := by
        intro hw
        simp only [execOps, hw]
        rw [← putD_eq hD hd]
        exact hih _ _
      unfold kguard
      split
      · rename_i hg
        exact hdo (by unfold wantedE; rw [hg])
      · rename_i j w hg
        split
        · rename_i dj hdj
          cases hb : Nat.blt dj n with
          | false => trivial
          | true =>
            have hlt : dj < n := by simpa using hb
            have hget : (toL n D t)[dj]? = some (get4 (path D dj) t) := by rw [toL_get, if_pos hlt]
            show KRel n D (whK (get4 (path D dj) t) w (execK P Z E n D (kis P Z n D ops l) (putD d (.tup []) t) h) (doK P Z E n D d (kop P Z n D o.op) o t h (execK P Z E n D (kis P Z n D ops l)))) _
            have hwant : wantedE ops o (toL n D t) = (match get4 (path D dj) t with | .sc (.bool b) => some (b == w) | .tup [] => some false | _ => none) := by
              unfold wantedE
              rw [hg]
              simp only [hdj, hget]
              split <;> split <;> simp_all
            unfold whK
            split
            · rename_i b hv
              rw [hv] at hwant
              cases b <;> cases w
              · exact hdo hwant
              · exact hno hwant
              · exact hno hwant
              · exact hdo hwant
            · rename_i hv
              rw [hv] at hwant
              exact hno hwant
            · trivial
        · rename_i hdj
          exact hno (by unfold wantedE; rw [hg]; simp only [hdj])
    show KRel n D (execK P Z E n D (ki P Z n D ops o :: kis P Z n D ops l) t h) _
    unfold ki
    split
    · rename_i hdst
      exact hgo none (by rw [hdst]; trivial)
    · rename_i dd hdst
      cases hb : Nat.blt dd n with
      | false => trivial
      | true =>
        have hlt : dd < n := by simpa using hb
        exact hgo (some (path D dd)) (by rw [hdst]; exact ⟨hlt, rfl⟩)
end Go.N
