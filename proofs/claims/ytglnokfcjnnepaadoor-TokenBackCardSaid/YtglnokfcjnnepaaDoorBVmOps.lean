/- Rows of operations. -/
import Derived.Test.YtglnokfcjnnepaaDoorBVmCalls
namespace Go.Vm
open Go Go.RowKit

theorem wanted_sound {P : Program} {Z : GTab} {B : Nat} {fr : List SV} {σ : List Blk} {g : G} {q : Gh} {a : Act} (hI : Inv P Z B fr σ g q a) {ops : Array Oper} {o : Oper} {b : Bool}
    (h : wantedE ops o fr = some b) : Region.wanted o (yielded ops a.tmps) = b := by
  unfold wantedE at h
  unfold Region.wanted
  split at h
  · rename_i hg
    rw [hg]
    simpa using h
  · rename_i j want hg
    rw [hg]
    simp only
    unfold yielded
    split at h
    · rename_i d hd
      rw [hd]
      split at h
      · rename_i c hc
        simp only [Option.some.injEq] at h
        obtain ⟨v, hv, hs⟩ := hI.slot.get d _ hc
        obtain rfl := sr_sc hs
        have : a.tmps[d]? = some (.bool c) := by simpa using hv
        simp only [Option.bind_some, this]
        rw [← h]
        cases c <;> cases want <;> rfl
      · rename_i hc
        simp only [Option.some.injEq] at h
        obtain ⟨v, hv, hs⟩ := hI.slot.get d _ hc
        cases hs with
        | tup _ vs hl =>
          have : a.tmps[d]? = some (.tuple ⟨vs⟩) := by simpa using hv
          simp only [Option.bind_some, this]
          rw [← h]; rfl
      · cases h
    · rename_i hd
      rw [hd]
      simp only [Option.some.injEq] at h
      rw [← h]; rfl

theorem execOps_sound {P : Program} {Z : GTab} {E : Env} (hE : EnvOk P Z E) {B : Nat} {ops : Array Oper} {Q : Exit → Act → World → Prop} :
    ∀ (l : List Oper) {fr : List SV} {σ : List Blk} {g : G} {q : Gh} {a : Act} {r : List SV × List Blk}, Inv P Z B fr σ g q a → execOps P Z E ops l fr σ = some r →
      (∀ a' g' q', Inv P Z B r.1 r.2 g' q' a' → Evo g σ q g' r.2 q' → Q .normal a' g'.w) → wpList P ops Q l a g.w
  | [], fr, σ, g, q, a, r, hI, h, hQ => by
    simp only [execOps, Option.some.injEq] at h
    subst h
    exact hQ a g q hI (Evo.refl g σ q)
  | o :: l, fr, σ, g, q, a, r, hI, h, hQ => by
    simp only [execOps] at h
    split at h
    · rename_i hw
      split at h
      · rename_i fr' σ' hst
        have hstep : StepW P Z B fr' σ' g σ q o a := by
          split at hst
          · exact callOp_sound hE hI hst
          · exact (step_sound hI hst).toW
        unfold wpList
        rw [if_pos (wanted_sound hI hw)]
        refine .inl (hstep _ _ fun a' g' q' h1 h2 => ?_)
        exact execOps_sound hE l h1 h fun a'' g'' q'' h3 h4 => hQ a'' g'' q'' h3 (h2.trans h4)
      · cases h
    · rename_i hw
      unfold wpList
      rw [if_neg (by rw [wanted_sound hI hw]; simp)]
      exact execOps_sound hE l (hI.put o.dst (x := .d (.tup [])) (v := undef) (.tup _ _ .nil)) h hQ
    · cases h

end Go.Vm
