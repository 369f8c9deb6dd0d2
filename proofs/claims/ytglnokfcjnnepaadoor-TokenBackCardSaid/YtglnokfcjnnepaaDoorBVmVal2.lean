/- The operations that only yield a value, more. -/
import Derived.Test.YtglnokfcjnnepaaDoorBVmVal
import Derived.Laws.Tables
namespace Go.Vm
open Go Go.RowKit

def shapeE (P : Program) (T : TypeId) : Option (Value × (Nat → Option (Nat × Nat))) :=
  match P.info? T, P.underlying T with
  | some it, some (.array _ e) => match it.zero, P.info? e with
    | some z, some ie => some (z, fun i => some (i * ie.size, ie.size))
    | _, _ => none
  | some it, some (.struct fields) => match it.zero, fields.toList.mapM (fun f => (P.info? f.type).map fun i => (f.offset, i.size)) with
    | some z, some places => some (z, (places.toArray[·]?))
    | _, _ => none
  | _, _ => none

theorem shapeE_built {P : Program} {T : TypeId} {z : Value} {pl : Nat → Option (Nat × Nat)} (h : shapeE P T = some (z, pl)) (parts : List (Nat × Value)) :
    P.built T parts = Instr.fill pl z.cells parts := by
  unfold shapeE at h
  unfold Program.built
  split at h
  · rename_i it n e hi hu
    simp only [hi, hu]
    split at h
    · rename_i z' ie hz hie
      simp only [Option.some.injEq, Prod.mk.injEq] at h
      obtain ⟨rfl, rfl⟩ := h
      simp only [hz, hie]
    · cases h
  · rename_i it fields hi hu
    simp only [hi, hu]
    split at h
    · rename_i z' places hz hp
      simp only [Option.some.injEq, Prod.mk.injEq] at h
      obtain ⟨rfl, rfl⟩ := h
      simp only [hz, hp]
    · cases h
  · cases h

def zeroCellsE (z : Value) : Option (List D) := if z.cells.toList.all (·.oneCell') then ofL z.cells.toList else none
theorem zeroCellsE_sound (g : G) {z : Value} {cs : List D} (h : zeroCellsE z = some cs) : CRL g cs z.cells.toList ∧ ∀ u ∈ z.cells.toList, u.oneCell' = true := by
  unfold zeroCellsE at h
  split at h
  · rename_i h1
    exact ⟨CRL.ofL g _ _ h, List.all_eq_true.1 h1⟩
  · cases h

def buildE (P : Program) (T : TypeId) (parts : List (Nat × SV)) : Option D :=
  match shapeE P T with
  | some (z, pl) => match zeroCellsE z with
    | some cells => (fillE pl cells parts).map .agg
    | none => none
  | none => none

theorem buildE_run {P : Program} {Z : GTab} {B : Nat} {fr : List SV} {σ : List Blk} {g : G} {q : Gh} {a : Act} (hI : Inv P Z B fr σ g q a) {T : TypeId} {parts : List (Nat × SV)}
    {vparts : Array (Nat × Value)} {x : D}
    (hp : ∀ (j : Nat) (p : Nat × SV), parts[j]? = some p → ∃ v, vparts.toList[j]? = some (p.1, v) ∧ SR g σ q p.2 v) (hlen : parts.length = vparts.toList.length)
    (h : buildE P T parts = some x) : ∃ v, (Instr.build T vparts).run P g.w = .ok v g.w ∧ CR g x v := by
  unfold buildE at h
  split at h
  · rename_i z pl hs
    split at h
    · rename_i cells hz
      simp only [Option.map_eq_some_iff] at h
      obtain ⟨out, ho, rfl⟩ := h
      obtain ⟨k1, k2⟩ := zeroCellsE_sound g hz
      obtain ⟨vout, e1, e2, e3⟩ := fillE_run hI pl parts vparts.toList cells out z.cells hp hlen k1 k2 ho
      refine ⟨.agg vout, run_build g.w T vparts vout (by rw [shapeE_built hs]; exact e1), ?_⟩
      exact .agg out vout.toList e3 e2
    · cases h
  · cases h

/-- An index or bound, if there is one. -/
def boundE (x : Option SV) (dflt : Nat) : Option Nat :=
  match x with
  | none => some dflt
  | some s => match asI s with
    | some (_, i) => if 0 ≤ i then some i.toNat else none
    | none => none

def sliceE (P : Program) (T : TypeId) (x : SV) (lo hi : Option SV) : Option D :=
  match sliceElem P T, rowsOf x with
  | some e, some rows =>
    match boundE hi rows.length with
    | some h => match boundE lo 0 with
      | some l =>
        if l ≤ h ∧ h ≤ rows.length ∧ (P.info? e).isSome = true then
          match (rows.take h).drop l with
          | [] => some (.sl [])
          | r :: rs => if r.length = szOf P e then some (.sl (r :: rs)) else none
        else none
      | none => none
    | none => none
  | _, _ => none

theorem boundE_sound {g : G} {σ : List Blk} {q : Gh} {x : Option SV} {dflt n : Nat} {vx : Option Value}
    (hx : ∀ s, x = some s → ∃ v, vx = some v ∧ SR g σ q s v) (hn : x = none → vx = none) (h : boundE x dflt = some n) :
    (vx = none ∧ n = dflt) ∨ ∃ k, vx = some (.int k (n : Int)) := by
  unfold boundE at h
  split at h
  · simp only [Option.some.injEq] at h
    exact .inl ⟨hn rfl, h.symm⟩
  · rename_i s
    obtain ⟨v, hv, hs⟩ := hx s rfl
    split at h
    · rename_i k i hi
      split at h
      · rename_i h0
        simp only [Option.some.injEq] at h
        obtain rfl := asI_sound hs hi
        refine .inr ⟨k, ?_⟩
        rw [hv, ← h, Int.toNat_of_nonneg h0]
      · cases h
    · cases h

theorem run_bound (P : Program) (w : World) (k : IntKind) (n y : Nat) (code : BoundsCode) (h : n ≤ y) : (Instr.sliceBound (.int k (n : Int)) y code).run P w = .ok n w := by
  have := run_sliceBound (P := P) w k (n : Int) y code (by omega) (by omega)
  simpa using this

theorem sliceE_run {P : Program} {Z : GTab} {B : Nat} {fr : List SV} {σ : List Blk} {g : G} {q : Gh} {a : Act} (hI : Inv P Z B fr σ g q a) {T : TypeId} {x : SV} {lo hi : Option SV}
    {v : Value} {vlo vhi : Option Value} {y : D} (hx : SR g σ q x v)
    (hlo : ∀ s, lo = some s → ∃ v, vlo = some v ∧ SR g σ q s v) (hlo' : lo = none → vlo = none) (hhi : ∀ s, hi = some s → ∃ v, vhi = some v ∧ SR g σ q s v) (hhi' : hi = none → vhi = none)
    (h : sliceE P T x lo hi = some y) : ∃ u, (Instr.sliceAt T v vlo vhi none).run P g.w = .ok u g.w ∧ CR g y u := by
  unfold sliceE at h
  split at h
  · rename_i e rows he hr
    have hT := sliceElem_eq he
    split at h
    · rename_i hh hhe
      split at h
      · rename_i l hle
        split at h
        · rename_i hok
          obtain ⟨i0, hinfo⟩ := Option.isSome_iff_exists.1 hok.2.2
          have hc := rowsOf_sound hI hx hr
          have key : ∀ base cap, rows.length ≤ cap → (Instr.sliceAt T (.slice base rows.length cap) vlo vhi none).run P g.w =
              .ok (.slice (if cap = l then base else base.map (·.add (l * szOf P e))) (hh - l) (cap - l)) g.w := by
            intro base cap hcap
            have e1 : (Instr.sliceAt T (.slice base rows.length cap) vlo vhi none) = (do
                match ← underlying T with
                | .array n elem =>
                  let a ← Instr.sureAddr (.slice base rows.length cap)
                  let (l, h, m) ← Instr.sliceBounds false n n vlo vhi none
                  let size ← sizeOf elem
                  pure (.slice (some (if m = l then a else a.add (l * size))) (h - l) (m - l))
                | _ => Instr.slice T (.slice base rows.length cap) vlo vhi none) := rfl
            rw [e1]
            have e2 : (Instr.sliceBounds true rows.length cap vlo vhi none).run P g.w = .ok (l, hh, cap) g.w := by
              rcases boundE_sound hlo hlo' hle with ⟨rfl, rfl⟩ | ⟨kl, rfl⟩ <;> rcases boundE_sound hhi hhi' hhe with ⟨rfl, rfl⟩ | ⟨kh, rfl⟩
              · simp [Instr.sliceBounds]
              · simp [Instr.sliceBounds, run_bound P g.w kh hh cap _ (by omega)]
              · simp [Instr.sliceBounds, run_bound P g.w kl l _ _ hok.1]
              · simp [Instr.sliceBounds, run_bound P g.w kh hh cap _ (by omega), run_bound P g.w kl l _ _ hok.1]
            simp only [Sem.run_bind, run_underlying hT, Result.andThen_ok, Instr.slice, e2, run_sizeOf hinfo, Sem.run_pure]
          cases hc with
          | sl0 b c =>
            obtain ⟨rfl, rfl⟩ : hh = 0 ∧ l = 0 := by have := hok.1; have := hok.2.1; simp at this; omega
            simp only [List.take_nil, List.drop_nil, Option.some.injEq] at h
            subst h
            exact ⟨_, key b c (by simp), .sl0 _ _⟩
          | sl b o c sz _ hcap hcr =>
            have hcap2 := hcap
            refine ⟨_, key _ _ hcap, ?_⟩
            have hlen : ((rows.take hh).drop l).length = hh - l := by simp; omega
            cases hd : (rows.take hh).drop l with
            | nil =>
              simp only [hd, Option.some.injEq] at h
              subst h
              rw [hd] at hlen
              simp only [List.length_nil] at hlen
              rw [← hlen]
              exact .sl0 _ _
            | cons r rs =>
              simp only [hd] at h
              split at h
              · rename_i hrl
                simp only [Option.some.injEq] at h
                subst h
                have hcr2 := (hcr.take hh).drop l
                have hsz : sz = szOf P e := by
                  have := ((hcr.take hh).drop l).flat.2 r (by rw [hd]; simp)
                  omega
                rw [hd] at hcr2 hlen
                rw [if_neg (by simp at hlen; omega), ← hlen, Option.map_some, addr_add, ← hsz]
                exact .sl b (o + l * sz) (c - l) sz (r :: rs) (by rw [hlen]; omega) hcr2
              · cases h
        · cases h
      · cases h
    · cases h
  · cases h

end Go.Vm
