/- What an operation of the VM's hangs on: its operands, and, where it reads or writes blocks, these. -/
import Derived.Test.YtglnokfcjnnepaaDoorBVmStepD
namespace Go.Vm
open Go Go.RowKit

def heavy : Op → Bool
  | .alloc _ | .box .. | .store .. => true
  | _ => false
def reader : Op → Bool
  | .load .. | .indexAddr .. => true
  | _ => false

theorem opndL_congr {Z : GTab} {fr fr' : List SV} : ∀ {l : List Operand}, (∀ x ∈ l, opnd Z fr x = opnd Z fr' x) → opndL Z fr l = opndL Z fr' l
  | [], _ => rfl
  | x :: l, h => by
    have ih := opndL_congr (l := l) (fr := fr) (fr' := fr') (Z := Z) (fun y hy => h y (by simp [hy]))
    simp only [opndL, h x (by simp), ih]
theorem partsE_congr {Z : GTab} {fr fr' : List SV} : ∀ {l : List (Nat × Operand)}, (∀ x ∈ l.map (·.2), opnd Z fr x = opnd Z fr' x) → partsE Z fr l = partsE Z fr' l
  | [], _ => rfl
  | (i, x) :: l, h => by
    simp only [partsE, h x (by simp), partsE_congr (fun y hy => h y (by simp only [List.map_cons, List.mem_cons]; exact .inr hy))]
theorem rowsLit_congr {P : Program} {Z : GTab} {fr fr' : List SV} {e : TypeId} : ∀ {l : List (Nat × Operand)} {i : Nat}, (∀ x ∈ l.map (·.2), opnd Z fr x = opnd Z fr' x) → rowsLit P Z fr e i l = rowsLit P Z fr' e i l
  | [], _, _ => rfl
  | (j, x) :: l, i, h => by
    simp only [rowsLit, h x (by simp), rowsLit_congr (fun y hy => h y (by simp only [List.map_cons, List.mem_cons]; exact .inr hy))]
theorem optE_congr {Z : GTab} {fr fr' : List SV} {x : Option Operand} (h : ∀ y ∈ x.toArray, opnd Z fr y = opnd Z fr' y) : optE Z fr x = optE Z fr' x := by
  cases x with
  | none => rfl
  | some y => simp only [optE, h y (by simp)]

theorem valOp_congr {P : Program} {Z : GTab} {o : Oper} {fr fr' : List SV} {σ σ' : List Blk} (h : ∀ x ∈ o.op.operands, opnd Z fr x = opnd Z fr' x) (hs : reader o.op = true → σ = σ') :
    valOp P Z o fr σ = valOp P Z o fr' σ' := by
  unfold valOp
  generalize o.op = op at *
  cases op
  case load T x => obtain rfl := hs rfl; simp only [h x (by simp [Op.operands])]
  case indexAddr T x i => obtain rfl := hs rfl; simp only [h x (by simp [Op.operands]), h i (by simp [Op.operands])]
  case move x => exact h x (by simp [Op.operands])
  case assign x => exact h x (by simp [Op.operands])
  case pick c x y => simp only [h c (by simp [Op.operands]), h x (by simp [Op.operands]), h y (by simp [Op.operands])]
  case nilCheck x => simp only [h x (by simp [Op.operands])]
  case binOp op t x y yt => simp only [h x (by simp [Op.operands]), h y (by simp [Op.operands])]
  case unOp op t x => simp only [h x (by simp [Op.operands])]
  case convert s t x => simp only [h x (by simp [Op.operands])]
  case fieldAddr s x f => simp only [h x (by simp [Op.operands])]
  case field s x f => simp only [h x (by simp [Op.operands])]
  case index T x i => simp only [h x (by simp [Op.operands]), h i (by simp [Op.operands])]
  case extract x i => simp only [h x (by simp [Op.operands])]
  case build T parts => simp only [partsE_congr (l := parts.toList) (fr := fr) (fr' := fr') (Z := Z) (fun x hx => h x (by simpa [Op.operands] using hx))]
  case slice T x lo hi mx =>
    cases mx with
    | some m => rfl
    | none =>
      simp only [h x (by simp [Op.operands]), optE_congr (x := lo) (fr := fr) (fr' := fr') (Z := Z) (fun y hy => h y (by simp only [Op.operands, Array.mem_append]; simp_all)),
        optE_congr (x := hi) (fr := fr) (fr' := fr') (Z := Z) (fun y hy => h y (by simp only [Op.operands, Array.mem_append]; simp_all))]
  case makeFunc fn first cap =>
    cases fn with
    | func f => simp only [opndL_congr (l := first.toList) (fr := fr) (fr' := fr') (Z := Z) (fun x hx => h x (by simp only [Op.operands, Array.mem_append]; exact .inl (by simpa using hx))),
        opndL_congr (l := cap.toList) (fr := fr) (fr' := fr') (Z := Z) (fun x hx => h x (by simp only [Op.operands, Array.mem_append]; exact .inr (by simpa using hx)))]
    | _ => rfl
  case call c =>
    obtain ⟨callee, ⟨args⟩, ⟨ts⟩⟩ := c
    cases callee with
    | value f => rfl
    | invoke r m => rfl
    | builtin b =>
      cases b
      case len =>
        cases args with
        | nil => rfl
        | cons x args =>
          cases args with
          | cons => rfl
          | nil =>
            cases ts with
            | nil => rfl
            | cons T ts =>
              cases ts with
              | cons => rfl
              | nil => simp only [h x (by simp [Op.operands, Call.operands])]
      case min =>
        cases args with
        | nil => rfl
        | cons x args =>
          cases args with
          | nil => rfl
          | cons y args =>
            cases args with
            | cons => rfl
            | nil => simp only [h x (by simp [Op.operands, Call.operands]), h y (by simp [Op.operands, Call.operands])]
      case max =>
        cases args with
        | nil => rfl
        | cons x args =>
          cases args with
          | nil => rfl
          | cons y args =>
            cases args with
            | cons => rfl
            | nil => simp only [h x (by simp [Op.operands, Call.operands]), h y (by simp [Op.operands, Call.operands])]
      all_goals rfl
  all_goals rfl

theorem pureCall_congr {P : Program} {Z : GTab} {E : Env} {fr fr' : List SV} {f : Operand} {args : List Operand} (hf : opnd Z fr f = opnd Z fr' f) (h : ∀ x ∈ args, opnd Z fr x = opnd Z fr' x) :
    pureCall P Z E fr f args = pureCall P Z E fr' f args := by
  simp only [pureCall, hf, opndL_congr h]

theorem stepD_congr {P : Program} {Z : GTab} {E : Env} {o : Oper} {fr fr' : List SV} {σ σ' : List Blk} (h : ∀ x ∈ o.op.operands, opnd Z fr x = opnd Z fr' x)
    (hs : (heavy o.op || reader o.op) = true → σ = σ') {r : SV × List Blk} (hr : stepD P Z E o fr σ = some r) :
    stepD P Z E o fr' σ' = some (r.1, if heavy o.op then r.2 else σ') ∧ (heavy o.op = false → r.2 = σ) := by
  have hval : ∀ {x : SV × List Blk}, (valOp P Z o fr σ).map (fun x => (x, σ)) = some x → heavy o.op = false →
      (valOp P Z o fr' σ').map (fun x => (x, σ')) = some (x.1, if heavy o.op then x.2 else σ') ∧ (heavy o.op = false → x.2 = σ) := by
    intro x hx hh
    obtain ⟨y, hy, rfl⟩ := Option.map_eq_some_iff.1 hx
    rw [← valOp_congr (σ := σ) (σ' := σ') h (fun hrd => hs (by simp [hrd])), hy, hh]
    exact ⟨rfl, fun _ => rfl⟩
  unfold stepD at hr ⊢
  split at hr
  · rename_i T ho
    obtain rfl := hs (by simp [ho, heavy])
    rw [ho]
    simp only [heavy]
    exact ⟨by simpa using hr, by simp⟩
  · rename_i T x ho
    obtain rfl := hs (by simp [ho, heavy])
    have hx := h x (by simp [ho, Op.operands])
    rw [ho]
    simp only [heavy, ← hx]
    exact ⟨by simpa using hr, by simp⟩
  · rename_i T x y ho
    obtain rfl := hs (by simp [ho, heavy])
    have hx := h x (by simp [ho, Op.operands])
    have hy := h y (by simp [ho, Op.operands])
    rw [ho]
    simp only [heavy, ← hx, ← hy]
    exact ⟨by simpa using hr, by simp⟩
  · rename_i T len parts ho
    rw [ho]
    have hp := rowsLit_congr (P := P) (e := 0) (i := 0) (l := parts.toList) (fr := fr) (fr' := fr') (Z := Z) (fun x hx => h x (by rw [ho]; simpa [Op.operands] using hx))
    have hp' : ∀ e, rowsLit P Z fr e 0 parts.toList = rowsLit P Z fr' e 0 parts.toList := fun e =>
      rowsLit_congr (fun x hx => h x (by rw [ho]; simpa [Op.operands] using hx))
    simp only [heavy, ← hp']
    split at hr
    · rename_i e he
      split at hr
      · rename_i rows hrows
        split at hr
        · rename_i hok
          simp only [Option.some.injEq] at hr
          subst hr
          simp [hok]
        · cases hr
      · cases hr
    · cases hr
  · rename_i f args ts ho
    rw [ho]
    obtain ⟨x, hx, rfl⟩ := Option.map_eq_some_iff.1 hr
    have hc := pureCall_congr (P := P) (E := E) (f := f) (args := args.toList) (fr := fr) (fr' := fr') (Z := Z) (h f (by rw [ho]; simp [Op.operands, Call.operands]))
      (fun y hy => h y (by rw [ho]; simp only [Op.operands, Call.operands, Array.mem_append]; exact .inr (by simpa using hy)))
    simp [heavy, ← hc, hx]
  · rename_i h1 h2 h3 h4 h5
    have hh : heavy o.op = false := by
      cases hop : o.op <;> simp only [heavy]
      · exact absurd hop (h1 _)
      · exact absurd hop (h2 _ _)
      · exact absurd hop (h3 _ _ _)
    exact hval hr hh

/-- The block that an operation reads, writes, or makes. -/
inductive Foot where
  | no
  | rd (id : Nat)
  | wr (id : Nat)
  | al (id : Nat)

def footE (Z : GTab) (o : Oper) (fr : List SV) (σ : List Blk) : Foot := match o.op with
  | .alloc _ | .box .. => .al σ.length
  | .store _ x _ => match opnd Z fr x with | some (.ptr id _ _) => .wr id | _ => .no
  | .load _ x => match opnd Z fr x with | some (.ptr id _ _) => .rd id | _ => .no
  | .indexAddr _ x _ => match opnd Z fr x with | some (.arr id _ _) => .rd id | _ => .no
  | _ => .no

theorem valOp_local {P : Program} {Z : GTab} {o : Oper} {fr fr' : List SV} {σ σ' : List Blk} (h : ∀ x ∈ o.op.operands, opnd Z fr x = opnd Z fr' x)
    (hs : ∀ id, footE Z o fr σ = .rd id → σ[id]? = σ'[id]?) : valOp P Z o fr σ = valOp P Z o fr' σ' := by
  by_cases hr : reader o.op = true
  · cases hop : o.op <;> rw [hop] at hr <;> simp only [reader, Bool.false_eq_true] at hr
    · rename_i T x
      have hx := h x (by simp [hop, Op.operands])
      unfold valOp
      rw [hop]
      simp only [← hx]
      cases hv : opnd Z fr x with
      | none => rfl
      | some s => cases s with
        | ptr id i off => simp only [hs id (by simp [footE, hop, hv])]
        | _ => rfl
    · rename_i T x i
      have hx := h x (by simp [hop, Op.operands])
      have hi := h i (by simp [hop, Op.operands])
      unfold valOp
      rw [hop]
      simp only [← hx, ← hi]
      cases hv : opnd Z fr x with
      | none => rfl
      | some s =>
        cases hj : opnd Z fr i with
        | none => rfl
        | some t =>
          simp only
          cases s with
          | arr id off n => simp only [indexAddrE, hs id (by simp [footE, hop, hv])]
          | _ => rfl
  · exact valOp_congr h (fun hc => absurd hc hr)

/-- An operation needs, and changes, but the block that it names. -/
theorem stepD_local {P : Program} {Z : GTab} {E : Env} {o : Oper} {fr fr' : List SV} {σ σ' : List Blk} (h : ∀ x ∈ o.op.operands, opnd Z fr x = opnd Z fr' x)
    {r : SV × List Blk} (hr : stepD P Z E o fr σ = some r) : match footE Z o fr σ with
    | .no => r.2 = σ ∧ stepD P Z E o fr' σ' = some (r.1, σ')
    | .rd id => r.2 = σ ∧ (σ[id]? = σ'[id]? → stepD P Z E o fr' σ' = some (r.1, σ'))
    | .wr id => ∃ b, id < σ.length ∧ r.2 = σ.set id b ∧ (σ[id]? = σ'[id]? → stepD P Z E o fr' σ' = some (r.1, σ'.set id b))
    | .al id => ∃ b, id = σ.length ∧ r.2 = σ ++ [b] ∧ (σ'.length = σ.length → stepD P Z E o fr' σ' = some (r.1, σ' ++ [b])) := by
  have hval : ∀ {x : SV × List Blk}, (valOp P Z o fr σ).map (fun x => (x, σ)) = some x → x.2 = σ ∧ ((∀ id, footE Z o fr σ = .rd id → σ[id]? = σ'[id]?) →
      (valOp P Z o fr' σ').map (fun x => (x, σ')) = some (x.1, σ')) := by
    intro x hx
    obtain ⟨y, hy, rfl⟩ := Option.map_eq_some_iff.1 hx
    exact ⟨rfl, fun hs => by rw [← valOp_local (σ := σ) (σ' := σ') h hs, hy]; rfl⟩
  unfold stepD at hr ⊢
  split at hr
  · rename_i T ho
    simp only [footE, ho]
    split at hr
    · rename_i i hi
      split at hr
      · rename_i cells hz
        simp only [Option.some.injEq] at hr
        subst hr
        refine ⟨_, trivial, rfl, fun he => ?_⟩
        simp [hi, hz, he]
      · cases hr
    · cases hr
  · rename_i T x ho
    have hx := h x (by simp [ho, Op.operands])
    simp only [footE, ho, ← hx]
    split at hr
    · rename_i cells hc
      simp only [Option.some.injEq] at hr
      subst hr
      refine ⟨_, trivial, rfl, fun he => ?_⟩
      simp [hc, he]
    · cases hr
  · rename_i T x y ho
    have hx := h x (by simp [ho, Op.operands])
    have hy := h y (by simp [ho, Op.operands])
    simp only [footE, ho, ← hx, ← hy]
    split at hr
    · rename_i id i off s hv hw
      simp only [hv]
      split at hr
      · rename_i T' cells hb
        split at hr
        · rename_i cs hcs
          split at hr
          · rename_i hok
            simp only [Option.some.injEq] at hr
            subst hr
            refine ⟨_, lt_of_some hb, rfl, fun he => ?_⟩
            rw [← he, hb]
            simp only [if_pos hok]
          · cases hr
        · cases hr
      · cases hr
    · cases hr
  · rename_i T len parts ho
    have hp' : ∀ e, rowsLit P Z fr e 0 parts.toList = rowsLit P Z fr' e 0 parts.toList := fun e =>
      rowsLit_congr (fun x hx => h x (by rw [ho]; simpa [Op.operands] using hx))
    simp only [footE, ho, ← hp']
    split at hr
    · rename_i e he
      split at hr
      · rename_i rows hrows
        split at hr
        · rename_i hok
          simp only [Option.some.injEq] at hr
          subst hr
          simp [hok]
        · cases hr
      · cases hr
    · cases hr
  · rename_i f args ts ho
    obtain ⟨x, hx, rfl⟩ := Option.map_eq_some_iff.1 hr
    have hc := pureCall_congr (P := P) (E := E) (f := f) (args := args.toList) (fr := fr) (fr' := fr') (Z := Z) (h f (by rw [ho]; simp [Op.operands, Call.operands]))
      (fun y hy => h y (by rw [ho]; simp only [Op.operands, Call.operands, Array.mem_append]; exact .inr (by simpa using hy)))
    simp [footE, ho, ← hc, hx]
  · rename_i h1 h2 h3 h4 h5
    obtain ⟨k1, k2⟩ := hval hr
    cases hf : footE Z o fr σ with
    | no => exact ⟨k1, k2 (fun id e => by rw [hf] at e; cases e)⟩
    | rd id => exact ⟨k1, fun he => k2 (fun id' e => by rw [hf] at e; cases e; exact he)⟩
    | wr id =>
      exfalso
      unfold footE at hf
      split at hf <;> first | (rename_i hh; exact absurd hh (h3 _ _ _)) | cases hf | (split at hf <;> cases hf)
    | al id =>
      exfalso
      unfold footE at hf
      split at hf <;> first | (rename_i hh; first | exact absurd hh (h1 _) | exact absurd hh (h2 _ _)) | cases hf | (split at hf <;> cases hf)
end Go.Vm
