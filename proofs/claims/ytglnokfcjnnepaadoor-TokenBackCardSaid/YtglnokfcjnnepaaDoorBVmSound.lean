/- The VM is sound: what it says of code, the model does. -/
import Derived.Test.YtglnokfcjnnepaaDoorBVmEval
namespace Go.Vm
open Go Go.RowKit

/-- What code comes to. -/
def PostC (P : Program) (Z : GTab) (B : Nat) (g : G) (σ : List Blk) (q : Gh) (r : St) : Exit → Act → World → Prop := fun e a w =>
  ∃ g' q', g'.w = w ∧ Inv P Z B r.2.1 r.2.2 g' q' a ∧ Evo g σ q g' r.2.2 q' ∧
    match r.1 with
    | .normal => e = .normal
    | .exit id => e = .exit id
    | .ret => e = .ret

theorem PostC.trans {P : Program} {Z : GTab} {B : Nat} {g g1 : G} {σ σ1 : List Blk} {q q1 : Gh} {r : St} (he : Evo g σ q g1 σ1 q1) {e : Exit} {a : Act} {w : World} (h : PostC P Z B g1 σ1 q1 r e a w) : PostC P Z B g σ q r e a w := by
  obtain ⟨g', q', h1, h2, h3, h4⟩ := h
  exact ⟨g', q', h1, h2, he.trans h3, h4⟩

theorem evalC_sound {P : Program} {Z : GTab} {E : Env} (hE : EnvOk P Z E) (hm : P.follows .mixedOrders = true) {B : Nat} {n : Nat} :
    ∀ (c : Code) {fr : List SV} {σ : List Blk} {g : G} {q : Gh} {a : Act} {r : St}, Inv P Z B fr σ g q a → evalC P Z E n c fr σ = some r → c.wp P (PostC P Z B g σ q r) a g.w
  | .skip, fr, σ, g, q, a, r, hI, h => by
    simp only [evalC, Option.some.injEq] at h
    subst h
    exact wp_skip ⟨g, q, rfl, hI, Evo.refl g σ q, rfl⟩
  | .label l, fr, σ, g, q, a, r, hI, h => by
    simp only [evalC, Option.some.injEq] at h
    subst h
    exact wp_label ⟨g, q, rfl, hI, Evo.refl g σ q, rfl⟩
  | .exit id, fr, σ, g, q, a, r, hI, h => by
    simp only [evalC, Option.some.injEq] at h
    subst h
    exact wp_exit ⟨g, q, rfl, hI, Evo.refl g σ q, rfl⟩
  | .ret, fr, σ, g, q, a, r, hI, h => by
    simp only [evalC, Option.some.injEq] at h
    subst h
    exact wp_ret ⟨g, q, rfl, hI, Evo.refl g σ q, rfl⟩
  | .region id ops draw, fr, σ, g, q, a, r, hI, h => by
    cases draw with
    | true =>
      simp only [evalC, if_true] at h
      split at h
      · rename_i hok
        split at h
        · rename_i fr' σ' ft hr
          split at h
          · rename_i hcf
            simp only [Option.some.injEq] at h
            subst h
            refine draw_sound hE hm hok hI hr hcf fun a' g' q' h1 h2 => ?_
            obtain ⟨q2, k1, k2⟩ := settleIds_sound ((List.range σ'.length).drop σ.length) h1
            exact ⟨g', q2, rfl, k1, h2.trans k2, rfl⟩
          · cases h
        · cases h
      · cases h
    | false =>
      simp only [evalC, Bool.false_eq_true, if_false] at h
      split at h
      · rename_i r' hr
        simp only [Option.some.injEq] at h
        subst h
        exact wp_region_list (execOps_sound hE _ hI hr fun a' g' q' h1 h2 => ⟨g', q', rfl, h1, h2, rfl⟩)
      · cases h
  | .seq x y, fr, σ, g, q, a, r, hI, h => by
    simp only [evalC] at h
    refine wp_seq ?_
    split at h
    · rename_i fr' σ' hx
      refine wp_mono (evalC_sound hE hm x hI hx) ?_
      rintro e a' w ⟨g', q', rfl, h1, h2, h3⟩
      simp only at h3
      subst h3
      exact wp_mono (evalC_sound hE hm y h1 h) fun e a w hp => hp.trans h2
    · rename_i hnot
      refine wp_mono (evalC_sound hE hm x hI h) ?_
      rintro e a' w ⟨g', q', rfl, h1, h2, h3⟩
      obtain ⟨ex, fr', σ'⟩ := r
      cases ex with
      | normal => exact absurd h (hnot fr' σ')
      | exit id => simp only at h3; subst h3; exact ⟨g', q', rfl, h1, h2, rfl⟩
      | ret => simp only at h3; subst h3; exact ⟨g', q', rfl, h1, h2, rfl⟩
  | .cond c x y, fr, σ, g, q, a, r, hI, h => by
    simp only [evalC] at h
    split at h
    · rename_i b hc
      have hb := sr_sc (opnd_sound hI hc)
      refine wp_cond hb ?_
      cases b with
      | true => exact evalC_sound hE hm x hI h
      | false => exact evalC_sound hE hm y hI h
    · cases h
  | .block id x, fr, σ, g, q, a, r, hI, h => by
    simp only [evalC] at h
    refine wp_block ?_
    cases hx : evalC P Z E n x fr σ with
    | none => rw [hx] at h; cases h
    | some r' =>
      rw [hx] at h
      refine wp_mono (evalC_sound hE hm x hI hx) ?_
      rintro e a' w ⟨g', q', rfl, h1, h2, h3⟩
      obtain ⟨ex, fr', σ'⟩ := r'
      cases ex with
      | normal =>
        simp only [inBlockE, Option.some.injEq] at h
        simp only at h3
        subst h h3
        exact ⟨g', q', rfl, h1, h2, rfl⟩
      | ret =>
        simp only [inBlockE, Option.some.injEq] at h
        simp only at h3
        subst h h3
        exact ⟨g', q', rfl, h1, h2, rfl⟩
      | exit j =>
        simp only [inBlockE] at h
        simp only at h3
        subst h3
        simp only [Exit.inBlock]
        split at h
        · rename_i hj
          simp only [Option.some.injEq] at h
          subst h
          rw [if_pos hj]
          exact ⟨g', q', rfl, h1, h2, rfl⟩
        · rename_i hj
          simp only [Option.some.injEq] at h
          subst h
          rw [if_neg hj]
          exact ⟨g', q', rfl, h1, h2, rfl⟩
  | .loop x, fr, σ, g, q, a, r, hI, h => by
    simp only [evalC] at h
    have key : ∀ (m : Nat) {fr : List SV} {σ1 : List Blk} {g1 : G} {q1 : Gh} {a : Act}, Inv P Z B fr σ1 g1 q1 a → Evo g σ q g1 σ1 q1 → iter m (evalC P Z E n x) fr σ1 = some r →
        Code.rounds P x (PostC P Z B g σ q r) m a g1.w := by
      intro m
      induction m with
      | zero => intro fr σ1 g1 q1 a _ _ h; cases h
      | succ m ih =>
        intro fr σ1 g1 q1 a hI hev h
        simp only [iter] at h
        rw [rounds_succ]
        split at h
        · rename_i fr' σ' hx
          refine wp_mono (evalC_sound hE hm x hI hx) ?_
          rintro e a' w ⟨g', q', rfl, h1, h2, h3⟩
          simp only at h3
          subst h3
          exact ih h1 (hev.trans h2) h
        · rename_i hnot
          refine wp_mono (evalC_sound hE hm x hI h) ?_
          rintro e a' w hp
          have hp2 := hp.trans hev
          obtain ⟨g', q', rfl, h1, h2, h3⟩ := hp
          obtain ⟨ex, fr', σ'⟩ := r
          cases ex with
          | normal => exact absurd h (hnot fr' σ')
          | exit id => simp only at h3; subst h3; exact hp2
          | ret => simp only at h3; subst h3; exact hp2
    exact wp_loop_rounds n (key n hI (Evo.refl g σ q) h)
  | .scope x, fr, σ, g, q, a, r, hI, h => by
    simp only [evalC] at h
    refine wp_scope_straight (wp_mono (evalC_sound hE hm x hI h) ?_)
    rintro e a' w hp
    have hp2 := hp
    obtain ⟨g', q', rfl, h1, h2, h3⟩ := hp
    obtain ⟨ex, fr', σ'⟩ := r
    cases ex <;> (simp only at h3; subst h3; exact hp2)
  | .rangeFunc .., fr, σ, g, q, a, r, hI, h => by simp [evalC] at h
  | .goto _, fr, σ, g, q, a, r, hI, h => by simp [evalC] at h
  | .refuse _, fr, σ, g, q, a, r, hI, h => by simp [evalC] at h
end Go.Vm
