/- The VM: code, functions. -/
import Derived.Test.YtglnokfcjnnepaaDoorBVmDraw
import Derived.LoopN
import Derived.Scope
namespace Go.Vm
open Go Go.RowKit

/-- The nil slices of several boxes. -/
def settleIds (P : Program) : List Nat → List SV → List Blk → List SV × List Blk
  | [], fr, σ => (fr, σ)
  | id :: ids, fr, σ =>
    let r := settle P id (List.range (match σ[id]? with | some (.box _ cells) => cells.length | _ => 0)) fr σ
    settleIds P ids r.1 r.2
theorem settleIds_sound {P : Program} {Z : GTab} {B : Nat} {g : G} {a : Act} : ∀ (ids : List Nat) {fr : List SV} {σ : List Blk} {q : Gh}, Inv P Z B fr σ g q a →
    ∃ q', Inv P Z B (settleIds P ids fr σ).1 (settleIds P ids fr σ).2 g q' a ∧ Evo g σ q g (settleIds P ids fr σ).2 q'
  | [], fr, σ, q, hI => ⟨q, hI, Evo.refl g σ q⟩
  | id :: ids, fr, σ, q, hI => by
    obtain ⟨q1, h1, e1⟩ := settle_sound id (List.range (match σ[id]? with | some (.box _ cells) => cells.length | _ => 0)) hI
    obtain ⟨q2, h2, e2⟩ := settleIds_sound ids h1
    exact ⟨q2, h2, e1.trans e2⟩

inductive Ex where
  | normal
  | exit (id : Nat)
  | ret
  deriving DecidableEq

abbrev St := Ex × List SV × List Blk

def iter : Nat → (List SV → List Blk → Option St) → List SV → List Blk → Option St
  | 0, _, _, _ => none
  | n + 1, f, fr, σ => match f fr σ with
    | some (.normal, fr', σ') => iter n f fr' σ'
    | r => r

def inBlockE (id : Nat) : Option St → Option St
  | some (.exit j, fr, σ) => if j = id then some (.normal, fr, σ) else some (.exit j, fr, σ)
  | r => r

def evalC (P : Program) (Z : GTab) (E : Env) (n : Nat) : Code → List SV → List Blk → Option St
  | .skip, fr, σ => some (.normal, fr, σ)
  | .label _, fr, σ => some (.normal, fr, σ)
  | .region _ ops draw, fr, σ =>
    if draw then
      if drawOk ops then
        match runD P Z E ops ops.toList fr σ with
        | some ((fr', σ'), ft) => if confOk (ancs ops.toList) ft then some (.normal, settleIds P ((List.range σ'.length).drop σ.length) fr' σ') else none
        | none => none
      else none
    else match execOps P Z E ops ops.toList fr σ with
      | some r => some (.normal, r.1, r.2)
      | none => none
  | .seq x y, fr, σ => match evalC P Z E n x fr σ with
    | some (.normal, fr', σ') => evalC P Z E n y fr' σ'
    | r => r
  | .cond c x y, fr, σ => match opnd Z fr c with
    | some (.d (.sc (.bool b))) => bif b then evalC P Z E n x fr σ else evalC P Z E n y fr σ
    | _ => none
  | .block id x, fr, σ => inBlockE id (evalC P Z E n x fr σ)
  | .loop x, fr, σ => iter n (evalC P Z E n x) fr σ
  | .scope x, fr, σ => evalC P Z E n x fr σ
  | .exit id, fr, σ => some (.exit id, fr, σ)
  | .ret, fr, σ => some (.ret, fr, σ)
  | _, _, _ => none

/-- What a result's variable holds. -/
def resultE (P : Program) (fr : List SV) (σ : List Blk) : ResultVar → Option SV
  | .tmp t => some (noGl (fr.getD t (.d (.tup []))))
  | .cell t T => match fr.getD t (.d (.tup [])) with
    | .ptr id i off => match σ[id]? with
      | some (.box _ cells) => if i = 0 then (loadB P T cells off).map noGl else none
      | _ => none
    | _ => none
def resultsE (P : Program) (fr : List SV) (σ : List Blk) : List ResultVar → Option (List SV)
  | [] => some []
  | r :: l => match resultE P fr σ r, resultsE P fr σ l with
    | some x, some xs => some (x :: xs)
    | _, _ => none
def tupleE : List SV → SV
  | [x] => x
  | xs => match datumL xs with
    | some ds => .d (.tup ds)
    | none => .tupr xs

/-- A result without references: an array of the call's own as it is now. -/
def snap (σ : List Blk) : SV → Option D
  | .d x => some x
  | .gl _ _ rows => some (.sl rows)
  | .arr id off n => match σ[id]? with
    | some (.arr _ _ rows) => if off + n ≤ rows.length then some (.sl ((rows.drop off).take n)) else none
    | _ => none
  | _ => none
def snapL (σ : List Blk) : List SV → Option (List D)
  | [] => some []
  | x :: l => match snap σ x, snapL σ l with
    | some d, some ds => some (d :: ds)
    | _, _ => none
def snapR (σ : List Blk) : List SV → Option D
  | [x] => snap σ x
  | xs => (snapL σ xs).map .tup

def runF (P : Program) (Z : GTab) (E : Env) (n : Nat) (fn : Func) (args : List SV) (σ : List Blk) : Option (List SV × List Blk) :=
  match fn.body with
  | some c => match evalC P Z E n c (args ++ List.replicate (fn.ntmps - args.length) (.d (.tup []))) σ with
    | some (.normal, fr, σ') | some (.ret, fr, σ') => (resultsE P fr σ' fn.results.toList).map fun rs => (rs, σ')
    | _ => none
  | none => none

/-- What is known of functions by other proofs. -/
abbrev Orc := FuncId → List D → Option D

def evalF (P : Program) (Z : GTab) (O : Orc) : Nat → Env
  | 0 => { D := fun f ds => O f ds, X := fun f ds => O f ds, S := fun _ _ _ => none }
  | n + 1 =>
    { D := fun f ds => match O f ds with
        | some r => some r
        | none => match P.funcs[f]? with
          | some fn => match runF P Z (evalF P Z O n) n fn (ds.map .d) [] with
            | some (rs, σ) => snapR σ rs
            | none => none
          | none => none
      X := fun f ds => O f ds
      S := fun f args σ => match P.funcs[f]? with
        | some fn => match runF P Z (evalF P Z O n) n fn args σ with
          | some (rs, σ') => if (tagsOf (tupleE rs)).isEmpty then some (tupleE rs, σ') else none
          | none => none
        | none => none }
end Go.Vm
