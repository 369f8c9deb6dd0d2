/- clear, copy. -/
import Derived.Test.YtmdmacmkmdgeaaaGreatDoorN5c
namespace Go.N
open Go Go.RowKit

def clearE (P : Program) (h : Hp) (t : TypeId) (x : V) : Option (V × Hp) := match x with
  | .sc (.slice none 0 0) | .sc (.map none) => match P.underlying t with
    | some _ => some (.tup [], h)
    | none => none
  | .mp id => match P.underlying t, mapAt h (.mp id) with
    | some _, some (id, _, clock) => some (.tup [], h.set id (some (.map [] clock)))
    | _, _ => none
  | .sl id off sz len _ _ => match sliceElem P t with
    | some e => match len with
      | 0 => some (.tup [], h)
      | len + 1 => match P.info? e with
        | some i => match i.zero with
          | some z => match zeroCells z, h.get id with
            | some zc, some (.cells T cs) => if sz = z.cells.size ∧ 0 < sz ∧ h.lim ≤ id ∧ off + (len + 1) * sz ≤ cs.length then
                some (.tup [], h.set id (some (.cells T (overC cs (filled zc ((len + 1) * sz)) off)))) else none
            | _, _ => none
          | none => none
        | none => none
    | none => none
  | _ => none
theorem clearE_did {P : Program} {B : Nat} {q : Q} {h : Hp} {w : World} (hT : HT B q h w) {t ty : TypeId} {x y : V} {v : Value} {h' : Hp} (hx : R q x v) (he : clearE P h t x = some (y, h')) :
    Did P B q h w (do pure (.value (← Builtin.clear_ #[t] ty #[v]))) y h' := by
  have hnop : (Builtin.clear_ #[t] ty #[v]).run P w = .ok (.tuple #[]) w → Did P B q h w (do pure (.value (← Builtin.clear_ #[t] ty #[v]))) (.tup []) h :=
    fun hr => Did.val hT ⟨_, hr, [], rfl, rfl⟩
  unfold clearE at he
  split at he
  · split at he
    · rename_i d hd
      simp only [Option.some.injEq, Prod.mk.injEq] at he
      obtain ⟨rfl, rfl⟩ := he
      obtain ⟨rfl, _⟩ := hx
      refine hnop ?_
      cases d <;> simp [Builtin.clear_, run_underlying hd]
    · cases he
  · split at he
    · rename_i d hd
      simp only [Option.some.injEq, Prod.mk.injEq] at he
      obtain ⟨rfl, rfl⟩ := he
      obtain ⟨rfl, _⟩ := hx
      refine hnop ?_
      cases d <;> simp [Builtin.clear_, run_underlying hd]
    · cases he
  · split at he
    · rename_i d id' es clock hd hm
      simp only [Option.some.injEq, Prod.mk.injEq] at he
      obtain ⟨rfl, rfl⟩ := he
      obtain ⟨e, fs, hg, hq, hl, rfl, hw, hel⟩ := mapAt_sound hT hx hm
      obtain ⟨s1, s2⟩ := hT.setMap hg hq hl (clock' := clock) (es' := []) (fs := []) rfl
      refine fun _ => ⟨.value (.tuple #[]), _, q, _, ?_, .inl rfl, s1, s2, [], rfl, rfl⟩
      cases d <;> simp [Builtin.clear_, run_underlying hd, run_getMap hw, run_setMap hw]
    · cases he
  · rename_i id off sz len0 cap ex
    split at he
    · rename_i e hel
      have hTy := sliceElem_eq hel
      have hs0 := hx
      obtain ⟨ee, c, a, k1, rfl, k2, k3, k4, k5, k6, k7⟩ := hx
      split at he
      · simp only [Option.some.injEq, Prod.mk.injEq] at he
        obtain ⟨rfl, rfl⟩ := he
        refine hnop ?_
        simp [Builtin.clear_, run_underlying hTy]
      · rename_i len
        split at he
        · rename_i i hi
          split at he
          · rename_i z hz
            split at he
            · rename_i zc T cs hzc hg
              split at he
              · rename_i hok
                obtain ⟨rfl, hpos, hlim, hfit⟩ := hok
                simp only [Option.some.injEq, Prod.mk.injEq] at he
                obtain ⟨rfl, rfl⟩ := he
                obtain ⟨f1, f2⟩ := filled_sound (q := q) hzc (n := (len + 1) * z.cells.size) (.inr hpos)
                have hfl : (filled zc ((len + 1) * z.cells.size)).length = (len + 1) * z.cells.size := by simp [filled]
                obtain ⟨w', p1, p2, p3⟩ := hT.write (P := P) (off := off) hg k1 hlim f1 f2 (by rw [hfl]; exact hfit)
                have ha : a = ⟨ee.b, ee.d + off, none⟩ := k2 (by omega)
                subst ha
                refine fun _ => ⟨.value (.tuple #[]), _, q, w', ?_, .inl rfl, p2, p3, [], rfl, rfl⟩
                have hz2 : Builtin.zeroCells z.cells (len + 1) = madeCells z.cells ((len + 1) * z.cells.size) := by simp [Builtin.zeroCells, madeCells]
                simp [Builtin.clear_, run_underlying hTy, zeroValue, typeInfo, hi, hz, hz2, p1]
              · cases he
            · cases he
          · cases he
        · cases he
    · cases he
  · cases he

/-- copy, from a slice onto a slice. -/
def copyE (P : Program) (h : Hp) (t : TypeId) (d x : V) : Option (V × Hp) := match sliceElem P t, d, x with
  | some e, .sl id off sz len _ _, .sl id2 off2 sz2 len2 _cap2 _ex2 => match P.info? e with
    | some i => match Nat.min len2 len with
      | 0 => some (.sc (.int .i64 0), h)
      | n + 1 => match srcCells h i.size (.sl id2 off2 sz2 (n + 1) 0 false), h.get id with
        | some (_, us), some (.cells T cs) => if sz = i.size ∧ h.lim ≤ id ∧ off + us.length ≤ cs.length then
            some (.sc (.int .i64 (n + 1 : Nat)), h.set id (some (.cells T (overC cs us off)))) else none
        | _, _ => none
    | none => none
  | _, _, _ => none
theorem R.shorter {q : Q} {id off sz len cap : Nat} {ex : Bool} {a : Addr} {c n : Nat} (h : R q (.sl id off sz len cap ex) (.slice (some a) len c)) (hn : n ≤ len) : R q (.sl id off sz n 0 false) (.slice (some a) n c) := by
  obtain ⟨e, c', a', k1, k2, k3, k4, k5, k6, k7⟩ := h
  cases k2
  exact ⟨e, c, a, k1, rfl, k3, by omega, k5, k6, by omega, fun h => by cases h⟩
theorem copyE_did {P : Program} {B : Nat} {q : Q} {h : Hp} {w : World} (hT : HT B q h w) {t u ty : TypeId} {d x y : V} {vd v : Value} {h' : Hp} (hd : R q d vd) (hx : R q x v) (he : copyE P h t d x = some (y, h')) :
    Did P B q h w (do pure (.value (← Builtin.copy_ #[t, u] ty #[vd, v]))) y h' := by
  unfold copyE at he
  split at he
  · rename_i e id off sz len cap ex id2 off2 sz2 len2 cap2 ex2 hel
    have hTy := sliceElem_eq hel
    have hd0 := hd
    have hx0 := hx
    obtain ⟨e1, c1, a1, k1, rfl, k2, k3, k4, k5, k6, k7⟩ := hd
    obtain ⟨e2, c2, a2, m1, rfl, m2, m3, m4, m5, m6, m7⟩ := hx
    split at he
    · rename_i i hi
      split at he
      · rename_i hmin
        simp only [Option.some.injEq, Prod.mk.injEq] at he
        obtain ⟨rfl, rfl⟩ := he
        obtain ⟨nv, n1, n2, n3, n4, n5⟩ := srcCells_run (P := P) (sz := i.size) (cs := []) (n := 0) hT (R.mono (Q.le.refl q) (.sc (.slice none 0 0)) (.slice none 0 0) ⟨rfl, rfl⟩) rfl
        refine Did.val hT ⟨goInt 0, ?_, rfl, rfl⟩
        have hmin' : min len2 len = 0 := hmin
        have hld : (loadCells a2 0).run P w = .ok #[] w := by simp [loadCells, loadCellsFrom]
        simp [Builtin.copy_, run_underlying hTy, Builtin.lenOf, hmin', run_sizeOf hi, Builtin.firstCells, hld, storeCells]
      · rename_i n hmin
        split at he
        · rename_i n' us T cs hsrc hg
          split at he
          · rename_i hok
            obtain ⟨rfl, hlim, hfit⟩ := hok
            simp only [Option.some.injEq, Prod.mk.injEq] at he
            obtain ⟨rfl, rfl⟩ := he
            have hle : n + 1 ≤ len2 ∧ n + 1 ≤ len := by
              have : min len2 len = n + 1 := hmin
              omega
            obtain ⟨nv, n1, n2, n3, n4, n5⟩ := srcCells_run (P := P) hT (hx0.shorter hle.1) hsrc
            have hn' : n' = n + 1 := by
              simp [Builtin.lenOf] at n1
              exact n1.symm
            subst hn'
            have n2 := n2 w rfl
            obtain ⟨w', p1, p2, p3⟩ := hT.write (P := P) (off := off) hg k1 hlim n3 n4 hfit
            have ha : a1 = ⟨e1.b, e1.d + off, none⟩ := k2 (by omega)
            subst ha
            refine fun _ => ⟨.value (goInt (n + 1)), _, q, w', ?_, .inl rfl, p2, p3, rfl, rfl⟩
            have hmin' : min len2 len = n + 1 := hmin
            have n2' : (Builtin.firstCells i.size (n + 1) (.slice (some a2) len2 c2)).run P w = .ok ⟨nv⟩ w := n2
            simp [Builtin.copy_, run_underlying hTy, Builtin.lenOf, hmin', sizeOf, typeInfo, hi, n2', p1]
          · cases he
        · cases he
    · cases he
  · cases he
end Go.N
