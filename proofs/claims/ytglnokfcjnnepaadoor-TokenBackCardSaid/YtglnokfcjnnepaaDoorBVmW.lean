/- Walks of the VM: what code comes to, by rules. -/
import Derived.Test.YtglnokfcjnnepaaDoorBVmSim
namespace Go.Vm
open Go Go.RowKit

def W (P : Program) (Z : GTab) (E : Env) (n : Nat) (c : Code) (fr : List SV) (σ : List Blk) (Q : Ex → List SV → List Blk → Prop) : Prop :=
  ∃ e fr' σ', evalC P Z E n c fr σ = some (e, fr', σ') ∧ Q e fr' σ'
def WO (P : Program) (Z : GTab) (E : Env) (ops : Array Oper) (l : List Oper) (fr : List SV) (σ : List Blk) (Q : List SV → List Blk → Prop) : Prop :=
  ∃ fr' σ', execOps P Z E ops l fr σ = some (fr', σ') ∧ Q fr' σ'

def andThen (K : List SV → List Blk → Prop) (Q : Ex → List SV → List Blk → Prop) : Ex → List SV → List Blk → Prop
  | .normal, fr, σ => K fr σ
  | e, fr, σ => Q e fr σ
def inBlock (id : Nat) (Q : Ex → List SV → List Blk → Prop) : Ex → List SV → List Blk → Prop
  | .exit j, fr, σ => if j = id then Q .normal fr σ else Q (.exit j) fr σ
  | e, fr, σ => Q e fr σ

variable {P : Program} {Z : GTab} {E : Env} {n : Nat} {fr : List SV} {σ : List Blk} {Q : Ex → List SV → List Blk → Prop}

theorem W_seq {x y : Code} (h : W P Z E n x fr σ (andThen (fun fr σ => W P Z E n y fr σ Q) Q)) : W P Z E n (.seq x y) fr σ Q := by
  obtain ⟨e, fr', σ', h1, h2⟩ := h
  cases e with
  | normal =>
    obtain ⟨e, fr2, σ2, h3, h4⟩ := h2
    exact ⟨e, fr2, σ2, by simp only [evalC, h1, h3], h4⟩
  | exit id => exact ⟨_, fr', σ', by simp only [evalC, h1], h2⟩
  | ret => exact ⟨_, fr', σ', by simp only [evalC, h1], h2⟩
theorem W_mono {c : Code} {Q' : Ex → List SV → List Blk → Prop} (h : W P Z E n c fr σ Q') (hq : ∀ e fr σ, Q' e fr σ → Q e fr σ) : W P Z E n c fr σ Q := by
  obtain ⟨e, fr', σ', h1, h2⟩ := h
  exact ⟨e, fr', σ', h1, hq _ _ _ h2⟩
/-- Behind code that just goes on, with what is known then. -/
theorem W_then {x y : Code} (M : List SV → List Blk → Prop) (h : W P Z E n x fr σ (andThen M fun _ _ _ => False)) (k : ∀ fr σ, M fr σ → W P Z E n y fr σ Q) : W P Z E n (.seq x y) fr σ Q := by
  refine W_seq (W_mono h ?_)
  intro e fr σ hq
  cases e with
  | normal => exact k _ _ hq
  | exit id => exact absurd hq (by simp [andThen])
  | ret => exact absurd hq (by simp [andThen])
theorem W_skip (h : Q .normal fr σ) : W P Z E n .skip fr σ Q := ⟨_, _, _, rfl, h⟩
theorem W_label {l : Nat} (h : Q .normal fr σ) : W P Z E n (.label l) fr σ Q := ⟨_, _, _, rfl, h⟩
theorem W_ret (h : Q .ret fr σ) : W P Z E n .ret fr σ Q := ⟨_, _, _, rfl, h⟩
theorem W_exit {id : Nat} (h : Q (.exit id) fr σ) : W P Z E n (.exit id) fr σ Q := ⟨_, _, _, rfl, h⟩
theorem W_scope {x : Code} (h : W P Z E n x fr σ Q) : W P Z E n (.scope x) fr σ Q := by
  obtain ⟨e, fr', σ', h1, h2⟩ := h
  exact ⟨e, fr', σ', by simp only [evalC, h1], h2⟩
theorem W_block {id : Nat} {x : Code} (h : W P Z E n x fr σ (inBlock id Q)) : W P Z E n (.block id x) fr σ Q := by
  obtain ⟨e, fr', σ', h1, h2⟩ := h
  cases e with
  | normal => exact ⟨_, fr', σ', by simp only [evalC, h1, inBlockE], h2⟩
  | ret => exact ⟨_, fr', σ', by simp only [evalC, h1, inBlockE], h2⟩
  | exit j =>
    by_cases e : j = id
    · simp only [inBlock, e, if_true] at h2
      exact ⟨.normal, fr', σ', by simp only [evalC, h1, inBlockE, e, if_true], h2⟩
    · simp only [inBlock, e, if_false] at h2
      exact ⟨.exit j, fr', σ', by simp only [evalC, h1, inBlockE, e, if_false], h2⟩
theorem W_cond {c : Operand} {x y : Code} {b : Bool} (hc : opnd Z fr c = some (.d (tb b))) (h1 : b = true → W P Z E n x fr σ Q) (h2 : b = false → W P Z E n y fr σ Q) : W P Z E n (.cond c x y) fr σ Q := by
  cases b with
  | true =>
    obtain ⟨e, fr', σ', h3, h4⟩ := h1 rfl
    exact ⟨e, fr', σ', by simp only [evalC, hc, h3, cond_true], h4⟩
  | false =>
    obtain ⟨e, fr', σ', h3, h4⟩ := h2 rfl
    exact ⟨e, fr', σ', by simp only [evalC, hc, h3, cond_false], h4⟩
theorem W_region {id : Nat} {ops : Array Oper} (h : WO P Z E ops ops.toList fr σ (Q .normal)) : W P Z E n (.region id ops false) fr σ Q := by
  obtain ⟨fr', σ', h1, h2⟩ := h
  exact ⟨.normal, fr', σ', by simp only [evalC, Bool.false_eq_true, if_false, h1], h2⟩
theorem W_ops {id : Nat} {ops : Array Oper} {r : List SV × List Blk} (h : execOps P Z E ops ops.toList fr σ = some r) (h2 : Q .normal r.1 r.2) : W P Z E n (.region id ops false) fr σ Q :=
  W_region ⟨r.1, r.2, h, h2⟩
theorem W_draw {id : Nat} {ops : Array Oper} {r : (List SV × List Blk) × List Foot} (h : runD P Z E ops ops.toList fr σ = some r) (h1 : drawOk ops = true) (h2 : confOk (ancs ops.toList) r.2 = true)
    (h3 : Q .normal (settleIds P ((List.range r.1.2.length).drop σ.length) r.1.1 r.1.2).1 (settleIds P ((List.range r.1.2.length).drop σ.length) r.1.1 r.1.2).2) : W P Z E n (.region id ops true) fr σ Q :=
  ⟨.normal, _, _, by simp only [evalC, if_true, h1, h, h2], h3⟩

theorem W_loop {α : Type} (I : α → List SV → List Blk → Prop) (μ : α → Nat) {x : Code} {a : α} (h0 : I a fr σ)
    (hs : ∀ a fr σ, I a fr σ → W P Z E n x fr σ (andThen (fun fr' σ' => ∃ a', I a' fr' σ' ∧ μ a' < μ a) Q)) (hn : μ a < n) : W P Z E n (.loop x) fr σ Q := by
  have main : ∀ m a fr σ, I a fr σ → μ a < m → ∃ e fr' σ', iter m (evalC P Z E n x) fr σ = some (e, fr', σ') ∧ Q e fr' σ' := by
    intro m
    induction m with
    | zero => intro a fr σ _ h; omega
    | succ m ih =>
      intro a fr σ hI hm
      obtain ⟨e, fr', σ', h1, h2⟩ := hs a fr σ hI
      cases e with
      | normal =>
        obtain ⟨a', h3, h4⟩ := h2
        obtain ⟨e, fr2, σ2, h5, h6⟩ := ih a' fr' σ' h3 (by omega)
        exact ⟨e, fr2, σ2, by simp only [iter, h1, h5], h6⟩
      | exit id => exact ⟨_, fr', σ', by simp only [iter, h1], h2⟩
      | ret => exact ⟨_, fr', σ', by simp only [iter, h1], h2⟩
  obtain ⟨e, fr', σ', h1, h2⟩ := main n a fr σ h0 hn
  exact ⟨e, fr', σ', by simp only [evalC, h1], h2⟩

/-- A function's body walked: what it yields. -/
theorem pure_of_W {P : Program} {Z : GTab} {E : Env} (hE : EnvOk P Z E) (hm : P.follows .mixedOrders = true) {f : FuncId} {fn : Func} {c : Code} (hf : P.funcs[f]? = some fn) (hc : fn.body = some c)
    {ds : List D} {r : D} (n : Nat)
    (h : W P Z E n c (ds.map .d ++ List.replicate (fn.ntmps - ds.length) (.d (.tup []))) [] fun e fr σ => (∀ id, e ≠ .exit id) ∧ ∃ rs, resultsE P fr σ fn.results.toList = some rs ∧ snapR σ rs = some r) : PureC P Z f ds r := by
  obtain ⟨e, fr, σ, h1, h2, rs, h3, h4⟩ := h
  have hrun : runF P Z E n fn (ds.map .d) [] = some (rs, σ) := by
    unfold runF
    rw [hc]
    simp only [List.length_map, h1]
    cases e with
    | normal => simp [h3]
    | ret => simp [h3]
    | exit id => exact absurd rfl (h2 id)
  exact pureC_of_runF hE hm hf hrun h4

/-- A list of slots, written out. -/
theorem fr_explicit (fr : List SV) (n : Nat) (h : fr.length = n) : fr = (List.range n).map fun i => fr.getD i (.d (.tup [])) := by
  apply List.ext_getElem?
  intro i
  rw [List.getElem?_map]
  by_cases hi : i < n
  · rw [List.getElem?_eq_getElem (by omega), List.getElem?_range hi]
    simp [List.getD_eq_getElem?_getD, h, hi]
  · rw [List.getElem?_eq_none (by omega), List.getElem?_eq_none (by simp; omega)]
    rfl
end Go.Vm
