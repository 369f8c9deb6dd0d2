/- Functions, with those that range over maps. -/
import Derived.Test.YtmdmacmkmdgeaaaGreatDoorN16
namespace Go.N
open Go Go.RowKit

def evalG (P : Program) (Z : Nat → Bool) (O : Orc) (mp : List Nat) (K : Nat) : Nat → Env
  | 0 => { S := O.S, X := O.X }
  | n + 1 =>
    { S := fun f args h => match O.S f args h with
        | some r => some r
        | none => match P.funcs[f]? with
          | some fn => bif memB f mp then runM P Z (evalG P Z O mp K n) K n fn args h else bif Nat.ble h.lim h.next then runF P Z (evalG P Z O mp K n) n fn args h else none
          | none => none
      X := O.X
      Y := fun l args h => roundE P Z (evalG P Z O mp K n) n l args h }
theorem evalG_ok {P : Program} {Z : Nat → Bool} (hm : P.follows .mixedOrders = true) {O : Orc} (hO : OrcOk P Z O) {mp : List Nat} {K : Nat} : ∀ n, EnvOk P Z (evalG P Z O mp K n)
  | 0 => ⟨hO.S, hO.F, hO.X, (fun _ _ _ _ _ h => by cases h), (fun _ _ _ _ _ h => by cases h)⟩
  | n + 1 => by
    have ih := evalG_ok hm hO (mp := mp) (K := K) n
    refine ⟨?_, ?_, hO.X, (fun _ _ _ _ _ h => roundE_sound ih hm h), (fun _ _ _ _ _ h => roundE_sf ih h)⟩
    · intro f args h o h' he hb
      simp only [evalG] at he
      split at he
      · rename_i r hr
        simp only [Option.some.injEq] at he
        subst he
        exact hO.S _ _ _ _ _ hr hb
      · split at he
        · rename_i fn hf
          cases hmp : memB f mp with
          | true =>
            simp only [hmp, cond_true] at he
            exact runM_sound ih hm hf he
          | false =>
            simp only [hmp, cond_false] at he
            cases hl : Nat.ble h.lim h.next with
            | false => simp [hl] at he
            | true =>
              simp only [hl, cond_true] at he
              exact runF_sound ih hm hf he
        · cases he
    · intro f args h o h' he
      simp only [evalG] at he
      split at he
      · rename_i r hr
        simp only [Option.some.injEq] at he
        subst he
        exact hO.F _ _ _ _ _ hr
      · split at he
        · rename_i fn hf
          cases hmp : memB f mp with
          | true =>
            simp only [hmp, cond_true] at he
            exact runM_sf he
          | false =>
            simp only [hmp, cond_false] at he
            cases hl : Nat.ble h.lim h.next with
            | false => simp [hl] at he
            | true =>
              simp only [hl, cond_true] at he
              exact runF_sf ih (Nat.le_of_ble_eq_true hl) he
        · cases he
def noOrc : Orc := ⟨fun _ _ _ => none, fun _ _ => none⟩
theorem noOrc_ok {P : Program} {Z : Nat → Bool} : OrcOk P Z noOrc := ⟨fun _ _ _ _ _ h => (by cases h), fun _ _ _ _ _ h => (by cases h), fun _ _ _ h => (by cases h)⟩
/-- The heap at first: numbers from G on. -/
def h0 (G : Nat) : Hp := ⟨G, G, [], .lf⟩
end Go.N
