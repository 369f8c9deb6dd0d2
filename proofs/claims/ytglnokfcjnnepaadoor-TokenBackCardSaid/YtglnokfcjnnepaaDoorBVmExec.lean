/- The VM: regions, code, functions. -/
import Derived.Test.YtglnokfcjnnepaaDoorBVmStepSound
namespace Go.Vm
open Go Go.RowKit

mutual
def tagsOf : SV → List Nat
  | .gl k _ _ => [k]
  | .clo _ a b => tagsL a ++ tagsL b
  | .tupr xs => tagsL xs
  | _ => []
def tagsL : List SV → List Nat
  | [] => []
  | x :: xs => tagsOf x ++ tagsL xs
end
def tagsB : List Blk → List Nat
  | [] => []
  | .arr .. :: l => tagsB l
  | .box _ cells :: l => tagsL cells ++ tagsB l

/-- Lists that grow with one of these tags become data. -/
def sweep (ks : List Nat) (fr : List SV) : List SV := ks.foldl (fun fr k => demoteL k fr) fr

structure Env where
  D : FuncId → List D → Option D
  X : FuncId → List Vm.D → Option Vm.D
  S : FuncId → List SV → List Blk → Option (SV × List Blk)

def wantedE (ops : Array Oper) (o : Oper) (fr : List SV) : Option Bool :=
  match o.guard with
  | none => some true
  | some (j, want) => match (ops[j]?).bind (·.dst) with
    | some d => match fr[d]? with
      | some (.d (.sc (.bool b))) => some (b == want)
      | some (.d (.tup [])) => some false
      | _ => none
    | none => some false

/-- The function of a value that is called, and all that it is handed. -/
def calleeE (f : SV) (args : List SV) : Option (FuncId × List SV) := match f with
  | .d (.fn f a b) => some (f, a.map .d ++ args ++ b.map .d)
  | .clo f a b => some (f, a ++ args ++ b)
  | _ => none

def isCall : Op → Bool
  | .call { callee := .value _, .. } => true
  | _ => false

def callOp (P : Program) (Z : GTab) (E : Env) (o : Oper) (fr : List SV) (σ : List Blk) : Option (List SV × List Blk) :=
  match o.op with
  | .call { callee := .value f, args, .. } => match opnd Z fr f, opndL Z fr args.toList with
    | some fv, some vs => match calleeE fv (vs.map noGl) with
      | some (f, all) =>
        if ((P.funcs[f]?).any fun fn => fn.body.isSome && fn.name != "runtime.NumGoroutine") then
          match datumL all with
          | some ds => match E.D f ds with
            | some r => some (putF fr o.dst (.d r), σ)
            | none => none
          | none => if (tagsL all).isEmpty then
              match E.S f all σ with
              | some (r, σ') => some (putF (sweep (tagsB σ ++ tagsB σ') fr) o.dst r, σ')
              | none => none
            else none
        else match datumL all with
          | some ds => match E.X f ds with
            | some r => some (putF fr o.dst (.d r), σ)
            | none => none
          | none => none
      | none => none
    | _, _ => none
  | _ => none

def execOps (P : Program) (Z : GTab) (E : Env) (ops : Array Oper) : List Oper → List SV → List Blk → Option (List SV × List Blk)
  | [], fr, σ => some (fr, σ)
  | o :: l, fr, σ => match wantedE ops o fr with
    | some true => match (if isCall o.op then callOp P Z E o fr σ else stepOp P Z o fr σ) with
      | some (fr', σ') => execOps P Z E ops l fr' σ'
      | none => none
    | some false => execOps P Z E ops l (putF fr o.dst (.d (.tup []))) σ
    | none => none

end Go.Vm
