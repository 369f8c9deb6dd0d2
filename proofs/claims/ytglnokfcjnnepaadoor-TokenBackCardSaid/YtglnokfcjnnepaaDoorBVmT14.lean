/- Chapter 5: strings.Join, by the shelf. -/
import Derived.Test.YtglnokfcjnnepaaDoorBVmRead
import Derived.Test.YtglnokfcjnnepaaDoorBTrydShelf
open Go Go.Vm Go.Proofs Go.RowKit
namespace Go.Vm
set_option maxRecDepth 100000

theorem strs_rows {g : G} : ∀ (ws : List (List UInt8)) (b o : Nat), CRR g b o 1 (ws.map fun s => [str s]) →
    ∀ (j : Nat) x, (ws.map fun s => (⟨⟨s⟩⟩ : ByteArray))[j]? = some x → g.w.cell? ⟨b, o + j, none⟩ = some (.string x) := by
  intro ws
  induction ws with
  | nil => intro b o _ j x h; simp at h
  | cons s ws ih =>
    intro b o h j x hx
    cases h with
    | cons _ _ _ _ _ hl hc k =>
      cases j with
      | zero =>
        simp only [List.map_cons, List.getElem?_cons_zero, Option.some.injEq] at hx
        subst hx
        cases hc with
        | cons _ _ _ v _ h1 h2 h3 h4 h5 =>
          cases h4 with
          | sc _ _ => simpa using h1
      | succ j =>
        have := ih b (o + 1) k j x (by simpa using hx)
        rwa [show o + 1 + j = o + (j + 1) from by omega] at this

theorem join_pure {Z : GTab} (ws : List (List UInt8)) (sep : List UInt8) (h1 : ws.length ≤ 140737488355328) (h2 : (Lib.join ws sep).length ≤ 140737488355328) :
    PureC Tryd.prog Z 26 [.sl (ws.map fun s => [str s]), str sep] (str (Lib.join ws sep)) := by
  intro g vs hdom _ hcl
  cases hcl with
  | cons _ v _ vs k1 k2 =>
    cases k2 with
    | cons _ u _ us k3 k4 =>
      cases k4
      cases k3 with
      | sc _ _ =>
        generalize hR : (ws.map fun s => [str s]) = R at k1
        have fin : ∀ e w', (e = Ending.returned (.string ⟨(Lib.join ws sep).toArray⟩) ∧ Below g.w.heap.size g.w w') → ∃ v, e = .returned v ∧ Below g.w.heap.size g.w w' ∧ CR ⟨w', fun b o => g.S b o ∨ (g.w.heap.size ≤ b ∧ b < w'.heap.size)⟩ (str (Lib.join ws sep)) v :=
          fun e w' ⟨he, hb⟩ => ⟨_, he, hb, .sc _ rfl⟩
        cases k1 with
        | sl0 b c =>
          obtain rfl : ws = [] := by simpa using hR
          exact (Tryd.strings_Join_none b c ⟨⟨sep⟩⟩ g.w).mono fun e w' ⟨he, hw⟩ => fin e w' ⟨he, hw ▸ Below.refl _ _⟩
        | sl b o c sz _ hc h =>
          subst hR
          cases ws with
          | nil => exact (Tryd.strings_Join_none _ c ⟨⟨sep⟩⟩ g.w).mono fun e w' ⟨he, hw⟩ => fin e w' ⟨he, hw ▸ Below.refl _ _⟩
          | cons s ws =>
            have hsz : sz = 1 := by
              cases h with
              | cons _ _ _ _ _ hl _ _ => simpa using hl.symm
            subst hsz
            have hcell := strs_rows (s :: ws) b o h
            have hb : b < g.w.heap.size := cell_lt (hcell 0 ⟨⟨s⟩⟩ rfl)
            have hlen : ((s :: ws).map fun s => [str s]).length = ((s :: ws).map fun s => (⟨⟨s⟩⟩ : ByteArray)).length := by simp
            rw [hlen]
            have e1 : ((s :: ws).map fun s => (⟨⟨s⟩⟩ : ByteArray)).map (·.data.toList) = s :: ws := by
              rw [List.map_map]
              exact List.map_id _
            have := Tryd.strings_Join b o c ((s :: ws).map fun s => (⟨⟨s⟩⟩ : ByteArray)) ⟨⟨sep⟩⟩ g.w hcell hb (by simpa using h1) (by rw [← hlen]; exact hc) (by rw [e1]; exact h2)
            rw [e1] at this
            exact this.mono fin
end Go.Vm
