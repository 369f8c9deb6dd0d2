/- Code, functions. -/
import Derived.Test.YtmdmacmkmdgeaaaGreatN11
namespace Go.N
open Go Go.RowKit

def iter : Nat → (List V → Hp → Option St) → List V → Hp → Option St
  | 0, _ => fun _ _ => none
  | m + 1, f => fun fr h => match f fr h with
    | some (.normal, fr', h') => iter m f fr' h'
    | r => r
def inBlockE (id : Nat) : Option St → Option St
  | some (.exit j, fr, h) => if j = id then some (.normal, fr, h) else some (.exit j, fr, h)
  | r => r
def evalC (P : Program) (Z : Nat → Bool) (E : Env) (rd : Bool) (n : Nat) : Code → List V → Hp → Option St
  | .skip => fun fr h => some (.normal, fr, h)
  | .label _ => fun fr h => some (.normal, fr, h)
  | .exit id => fun fr h => some (.exit id, fr, h)
  | .ret => fun fr h => some (.ret, fr, h)
  | .region _ ops true => fun fr h => bif drawOk ops then match runD P Z E ops (ancs ops.toList) 0 ops.toList fr h [] with
      | some (r, ft) => bif confOk (ancs ops.toList) ft && stOk P Z E (ancs ops.toList) ft (ft.map (·.h) ++ [r.2]) 0 ops.toList ft then some (.normal, r.1, r.2) else none
      | none => none
    else none
  | .region _ ops false => execOps P Z E ops ops.toList
  | .seq x y => fun fr h => match evalC P Z E rd n x fr h with
    | some (.normal, fr', h') => evalC P Z E rd n y fr' h'
    | r => r
  | .cond c x y => fun fr h => match opnd Z fr c with
    | some (.sc (.bool true)) => evalC P Z E rd n x fr h
    | some (.sc (.bool false)) => evalC P Z E rd n y fr h
    | _ => none
  | .block id x => fun fr h => inBlockE id (evalC P Z E rd n x fr h)
  | .loop x => iter n (evalC P Z E rd n x)
  | .scope x => fun fr h => bif rd then none else evalC P Z E rd n x fr h
  | _ => fun _ _ => none

theorem runD_sf {P : Program} {Z : Nat → Bool} {E : Env} (hE : EnvOk P Z E) {ops : Array Oper} {A : List (List Nat)} : ∀ (l : List Oper) (k : Nat) (fr : List V) (h : Hp) (rs : List (Nat × Nat)) (r : List V × Hp) (ft : List Foot),
    runD P Z E ops A k l fr h rs = some (r, ft) → Sf h r.2 ∨ ¬ h.lim ≤ h.next
  | [], k, fr, h, rs, r, ft, he => by
    simp only [runD, Option.some.injEq, Prod.mk.injEq] at he
    obtain ⟨he, _⟩ := he
    subst he
    exact .inl (Sf.refl _)
  | o :: l, k, fr, h, rs, r, ft, he => by
    by_cases hlim : h.lim ≤ h.next
    · left
      have step : ∀ h2, Sf h h2 → ∀ v rs2 f, (runD P Z E ops A (k + 1) l (putF fr o.dst v) h2 rs2).map (fun r => (r.1, f :: r.2)) = some (r, ft) → Sf h r.2 := by
        intro h2 sf v rs2 f hr
        obtain ⟨⟨r0, ft0⟩, hr0, hee⟩ := Option.map_eq_some_iff.1 hr
        simp only [Prod.mk.injEq] at hee
        obtain ⟨rfl, rfl⟩ := hee
        rcases runD_sf hE l _ _ _ _ _ _ hr0 with k1 | k1
        · exact sf.trans k1
        · exact absurd (by rw [sf.lim]; exact Nat.le_trans hlim sf.next) k1
      simp only [runD] at he
      split at he
      · split at he
        · rename_i v h' hst
          refine step _ ?_ _ _ _ he
          have sf := oneOp_sf hE hst
          have s1 := sf.next
          have s2 := sf.same
          have s3 := sf.wf
          rw [view_next] at s1 s2 s3
          rw [view_tr] at s2 s3
          refine ⟨s1, rfl, rfl, fun id h1 h2 => s2 id h1 ?_, s3⟩
          rcases h2 with h2 | h2
          · left
            rcases view_lim h _ with ⟨e, _⟩ | e <;> rw [e] <;> omega
          · right
            generalize hvv : vis (view h _).hid id = b
            cases b with
            | false => rfl
            | true => have := (view_vis h1 hvv).2.1; rw [h2] at this; cases this
        · cases he
      · exact step _ (Sf.refl _) _ _ _ he
      · cases he
    · exact .inr hlim

theorem iter_sf {f : List V → Hp → Option St} (hf : ∀ fr h r, h.lim ≤ h.next → f fr h = some r → Sf h r.2.2) {r : St} : ∀ (m : Nat) {fr : List V} {h : Hp}, h.lim ≤ h.next → iter m f fr h = some r → Sf h r.2.2
  | 0, fr, h, _, he => by cases he
  | m + 1, fr, h, hl, he => by
    simp only [iter] at he
    split at he
    · rename_i fr' h' hx
      have s1 := hf _ _ _ hl hx
      exact s1.trans (iter_sf hf m (by have := s1.lim; have := s1.next; simp only at *; omega) he)
    · exact hf _ _ _ hl he

theorem evalC_sf {P : Program} {Z : Nat → Bool} {E : Env} (hE : EnvOk P Z E) {rd : Bool} {n : Nat} : ∀ (c : Code) {fr : List V} {h : Hp} {r : St}, h.lim ≤ h.next → evalC P Z E rd n c fr h = some r → Sf h r.2.2
  | .skip, fr, h, r, hl, he => by simp only [evalC, Option.some.injEq] at he; subst he; exact Sf.refl _
  | .label _, fr, h, r, hl, he => by simp only [evalC, Option.some.injEq] at he; subst he; exact Sf.refl _
  | .exit _, fr, h, r, hl, he => by simp only [evalC, Option.some.injEq] at he; subst he; exact Sf.refl _
  | .ret, fr, h, r, hl, he => by simp only [evalC, Option.some.injEq] at he; subst he; exact Sf.refl _
  | .region _ ops true, fr, h, r, hl, he => by
    simp only [evalC] at he
    cases hok : drawOk ops with
    | false => simp [hok] at he
    | true =>
      simp only [hok, cond_true] at he
      split at he
      · rename_i r' ft hr
        cases hcf : confOk (ancs ops.toList) ft && stOk P Z E (ancs ops.toList) ft (ft.map (·.h) ++ [r'.2]) 0 ops.toList ft with
        | false => simp [hcf] at he
        | true =>
          simp only [hcf, cond_true, Option.some.injEq] at he
          simp only [Bool.and_eq_true] at hcf
          subst he
          rcases runD_sf hE _ _ _ _ _ _ _ hr with k | k
          · exact k
          · exact absurd hl k
      · cases he
  | .region _ ops false, fr, h, r, hl, he => by simp only [evalC] at he; exact execOps_sf hE _ he
  | .seq x y, fr, h, r, hl, he => by
    simp only [evalC] at he
    split at he
    · rename_i fr' h' hx
      have s1 := evalC_sf hE x hl hx
      have s2 := evalC_sf hE y (by have := s1.lim; have := s1.next; simp only at *; omega) he
      exact s1.trans s2
    · exact evalC_sf hE x hl he
  | .cond c x y, fr, h, r, hl, he => by
    simp only [evalC] at he
    split at he
    · exact evalC_sf hE x hl he
    · exact evalC_sf hE y hl he
    · cases he
  | .block id x, fr, h, r, hl, he => by
    simp only [evalC] at he
    cases hx : evalC P Z E rd n x fr h with
    | none => rw [hx] at he; cases he
    | some r' =>
      rw [hx] at he
      have s1 := evalC_sf hE x hl hx
      obtain ⟨ex, fr', h'⟩ := r'
      cases ex with
      | exit j =>
        simp only [inBlockE] at he
        split at he <;> (simp only [Option.some.injEq] at he; subst he; exact s1)
      | normal => simp only [inBlockE, Option.some.injEq] at he; subst he; exact s1
      | ret => simp only [inBlockE, Option.some.injEq] at he; subst he; exact s1
      | pan v => simp only [inBlockE, Option.some.injEq] at he; subst he; exact s1
  | .loop x, fr, h, r, hl, he => by
    simp only [evalC] at he
    exact iter_sf (fun fr h r hl he => evalC_sf hE x hl he) n hl he
  | .scope x, fr, h, r, hl, he => by
    cases rd with
    | true => simp [evalC] at he
    | false => simp only [evalC, cond_false] at he; exact evalC_sf hE x hl he
  | .rangeFunc .., fr, h, r, hl, he => by simp [evalC] at he
  | .goto _, fr, h, r, hl, he => by simp [evalC] at he
  | .refuse _, fr, h, r, hl, he => by simp [evalC] at he

theorem PostC.panicE {Z : Nat → Bool} {B : Nat} {q : Q} {h : Hp} {w : World} {ds : List Deferred} {x : V} {fr : List V} {h' : Hp} {e : Exit} {a : Act} {w' : World} (hp : PostC Z B q h w ds (.pan x, fr, h') e a w') : ∃ ch, e = .panic ch := by
  obtain ⟨_, _, _, _, _, v, _, rfl⟩ := hp
  exact ⟨_, rfl⟩

theorem evalC_sound {ro : Option Nat} {m0 : Nat} {rd : Bool} (hrd : rd = false → ro = none) {P : Program} {Z : Nat → Bool} {E : Env} (hE : EnvOk P Z E) (hm : P.follows .mixedOrders = true) {B : Nat} {n : Nat} :
    ∀ (c : Code) {fr : List V} {q : Q} {h : Hp} {w : World} {a : Act} {r : St}, HT B q h w → Free q h.next r.2.2.next → GQ Z q → RL q fr a.tmps.toList → evalC P Z E rd n c fr h = some r → c.wpIn (FN ro) m0 P (PostC Z B q h w a.defers r) a w
  | .skip, fr, q, h, w, a, r, hT, hf, hz, hs, he => by
    simp only [evalC, Option.some.injEq] at he
    subst he
    exact wpIn_skip ⟨q, hT, hT.fr, hs, rfl, rfl⟩
  | .label l, fr, q, h, w, a, r, hT, hf, hz, hs, he => by
    simp only [evalC, Option.some.injEq] at he
    subst he
    exact wpIn_label ⟨q, hT, hT.fr, hs, rfl, rfl⟩
  | .exit id, fr, q, h, w, a, r, hT, hf, hz, hs, he => by
    simp only [evalC, Option.some.injEq] at he
    subst he
    exact wpIn_exit ⟨q, hT, hT.fr, hs, rfl, rfl⟩
  | .ret, fr, q, h, w, a, r, hT, hf, hz, hs, he => by
    simp only [evalC, Option.some.injEq] at he
    subst he
    exact wpIn_ret ⟨q, hT, hT.fr, hs, rfl, rfl⟩
  | .region id ops true, fr, q, h, w, a, r, hT, hf, hz, hs, he => by
    simp only [evalC] at he
    cases hok : drawOk ops with
    | false => simp [hok] at he
    | true =>
      simp only [hok, cond_true] at he
      split at he
      · rename_i r' ft hr
        cases hcf : confOk (ancs ops.toList) ft && stOk P Z E (ancs ops.toList) ft (ft.map (·.h) ++ [r'.2]) 0 ops.toList ft with
        | false => simp [hcf] at he
        | true =>
          simp only [hcf, cond_true, Option.some.injEq] at he
          simp only [Bool.and_eq_true] at hcf
          subst he
          exact draw_sound hE hm hok hT hf hz hs hr hcf.1 hcf.2 fun a' w' hp => hp
      · cases he
  | .region id ops false, fr, q, h, w, a, r, hT, hf, hz, hs, he => by
    simp only [evalC] at he
    exact wpIn_region_list (execOps_sound hE _ hT hf hz hs he fun _ _ _ hp => hp)
  | .seq x y, fr, q, h, w, a, r, hT, hf, hz, hs, he => by
    simp only [evalC] at he
    refine wpIn_seq ?_
    split at he
    · rename_i fr' h' hx
      have s1 := evalC_sf hE x hT.lim hx
      have s2 := evalC_sf hE y (by have := s1.lim; have := s1.next; have := hT.lim; simp only at *; omega) he
      refine wpIn_mono (evalC_sound hrd hE hm x hT (hf.left s2.next) hz hs hx) ?_
      rintro e a' w' ⟨q', h1, h2, h3, h4, h5⟩
      simp only at h5
      subst h5
      rw [← h4]
      exact wpIn_mono (evalC_sound hrd hE hm y h1 (hf.right h2) (hz.mono h2.ext) h3 he) fun e a w hp => hp.trans h2
    · rename_i hnot
      refine wpIn_mono (evalC_sound hrd hE hm x hT hf hz hs he) ?_
      rintro e a' w' hp
      have hp2 := hp
      obtain ⟨q', h1, h2, h3, h4, h5⟩ := hp
      obtain ⟨ex, fr', h'⟩ := r
      cases ex with
      | normal => exact absurd he (hnot fr' h')
      | exit id => simp only at h5; subst h5; exact hp2
      | ret => simp only at h5; subst h5; exact hp2
      | pan v => obtain ⟨ch, rfl⟩ := hp2.panicE; exact hp2
  | .cond c x y, fr, q, h, w, a, r, hT, hf, hz, hs, he => by
    simp only [evalC] at he
    split at he
    · rename_i hc
      exact wpIn_cond (opnd_sound hz hs hc).1 (evalC_sound hrd hE hm x hT hf hz hs he)
    · rename_i hc
      exact wpIn_cond (opnd_sound hz hs hc).1 (evalC_sound hrd hE hm y hT hf hz hs he)
    · cases he
  | .block id x, fr, q, h, w, a, r, hT, hf, hz, hs, he => by
    simp only [evalC] at he
    refine wpIn_block ?_
    cases hx : evalC P Z E rd n x fr h with
    | none => rw [hx] at he; cases he
    | some r' =>
      rw [hx] at he
      have hrh : r.2 = r'.2 := by
        obtain ⟨ex, fr', h'⟩ := r'
        cases ex with
        | exit j =>
          simp only [inBlockE] at he
          split at he <;> (simp only [Option.some.injEq] at he; subst he; rfl)
        | normal => simp only [inBlockE, Option.some.injEq] at he; subst he; rfl
        | ret => simp only [inBlockE, Option.some.injEq] at he; subst he; rfl
        | pan v => simp only [inBlockE, Option.some.injEq] at he; subst he; rfl
      refine wpIn_mono (evalC_sound hrd hE hm x hT (by rw [← hrh]; exact hf) hz hs hx) ?_
      rintro e a' w' hp
      have hp2 := hp
      obtain ⟨q', h1, h2, h3, h4, h5⟩ := hp
      obtain ⟨ex, fr', h'⟩ := r'
      cases ex with
      | normal =>
        simp only [inBlockE, Option.some.injEq] at he
        simp only at h5
        subst he h5
        exact ⟨q', h1, h2, h3, h4, rfl⟩
      | ret =>
        simp only [inBlockE, Option.some.injEq] at he
        simp only at h5
        subst he h5
        exact ⟨q', h1, h2, h3, h4, rfl⟩
      | pan v =>
        simp only [inBlockE, Option.some.injEq] at he
        subst he
        obtain ⟨ch, rfl⟩ := hp2.panicE
        exact hp2
      | exit j =>
        simp only [inBlockE] at he
        simp only at h5
        subst h5
        simp only [Exit.inBlock]
        split at he
        · rename_i hj
          simp only [Option.some.injEq] at he
          subst he
          rw [if_pos hj]
          exact ⟨q', h1, h2, h3, h4, rfl⟩
        · rename_i hj
          simp only [Option.some.injEq] at he
          subst he
          rw [if_neg hj]
          exact ⟨q', h1, h2, h3, h4, rfl⟩
  | .loop x, fr, q, h, w, a, r, hT, hf, hz, hs, he => by
    simp only [evalC] at he
    have key : ∀ (m : Nat) {fr : List V} {q1 : Q} {h1 : Hp} {w1 : World} {a1 : Act}, HT B q1 h1 w1 → Free q1 h1.next r.2.2.next → GQ Z q1 → RL q1 fr a1.tmps.toList → Fr q h w q1 h1 w1 → a1.defers = a.defers → iter m (evalC P Z E rd n x) fr h1 = some r →
        Code.roundsIn (FN ro) m0 P x (PostC Z B q h w a.defers r) m a1 w1 := by
      intro m
      induction m with
      | zero => intro fr q1 h1 w1 a1 _ _ _ _ _ _ he; cases he
      | succ m ih =>
        intro fr q1 h1 w1 a1 hT1 hf1 hz1 hs1 hfr hd he
        simp only [iter] at he
        rw [roundsIn_succ]
        split at he
        · rename_i fr' h' hx
          have s1 := evalC_sf hE x hT1.lim hx
          have hn : h'.next ≤ r.2.2.next := (iter_sf (fun fr h r hl he => evalC_sf hE x hl he) m (by have := s1.lim; have := s1.next; have := hT1.lim; simp only at *; omega) he).next
          refine wpIn_mono (evalC_sound hrd hE hm x hT1 (hf1.left hn) hz1 hs1 hx) ?_
          rintro e a' w' ⟨q', k1, k2, k3, k4, k5⟩
          simp only at k5
          subst k5
          exact ih k1 (hf1.right k2) (hz1.mono k2.ext) k3 (hfr.trans k2) (k4.trans hd) he
        · rename_i hnot
          refine wpIn_mono (evalC_sound hrd hE hm x hT1 hf1 hz1 hs1 he) ?_
          rintro e a' w' hp
          rw [hd] at hp
          have hp2 := hp.trans hfr
          obtain ⟨q', k1, k2, k3, k4, k5⟩ := hp
          obtain ⟨ex, fr', h'⟩ := r
          cases ex with
          | normal => exact absurd he (hnot fr' h')
          | exit id => simp only at k5; subst k5; exact hp2
          | ret => simp only at k5; subst k5; exact hp2
          | pan v => obtain ⟨ch, rfl⟩ := hp2.panicE; exact hp2
    exact wpIn_loop_rounds n (key n hT hf hz hs hT.fr rfl he)
  | .scope x, fr, q, h, w, a, r, hT, hf, hz, hs, he => by
    cases rd with
    | true => simp [evalC] at he
    | false =>
      simp only [evalC, cond_false] at he
      obtain rfl := hrd rfl
      refine wpIn_wide.2 (wp_scope_straight (wp_mono (wpIn_wide.1 (evalC_sound (m0 := m0) (ro := none) (fun _ => rfl) hE hm x hT hf hz hs he)) ?_))
      rintro e a' w' hp
      have hp2 := hp
      obtain ⟨q', h1, h2, h3, h4, h5⟩ := hp
      obtain ⟨ex, fr', h'⟩ := r
      cases ex with
      | pan v => obtain ⟨ch, rfl⟩ := hp2.panicE; exact hp2
      | _ => simp only at h5; subst h5; exact hp2
  | .rangeFunc .., fr, q, h, w, a, r, hT, hf, hz, hs, he => by simp [evalC] at he
  | .goto _, fr, q, h, w, a, r, hT, hf, hz, hs, he => by simp [evalC] at he
  | .refuse _, fr, q, h, w, a, r, hT, hf, hz, hs, he => by simp [evalC] at he
end Go.N
