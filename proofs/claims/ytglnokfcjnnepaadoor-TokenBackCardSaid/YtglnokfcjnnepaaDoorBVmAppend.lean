/- append onto a list that grows. -/
import Derived.Test.YtglnokfcjnnepaaDoorBVmEvo
namespace Go.Vm
open Go Go.RowKit

section
variable {P : Program} (w : World)

theorem run_append_zero (t ty e : TypeId) (i : TypeInfo) (ht : P.underlying t = some (.slice e)) (hi : P.info? e = some i) (base b : Option Addr) (n cap c : Nat) (h : n ≤ cap) :
    (Builtin.append_ #[t, t] ty #[.slice base n cap, .slice b 0 c]).run P w = .ok (.slice base n cap) w := by
  have hf : (Builtin.firstCells i.size 0 (.slice b 0 c)).run P w = .ok #[] w := by
    cases b with
    | none => exact run_firstCells_none (P := P) w _ _ _ _
    | some a => simp [Builtin.firstCells, loadCells, loadCellsFrom]
  cases base <;> simp [Builtin.append_, run_underlying ht, sizeOf, typeInfo, hi, Builtin.lenOf, h, hf, storeCells]

/-- What is known behind an append: where the new slice lies, that what had been in the list is still where it was. -/
theorem run_append_vm (base : Nat) (t ty e : TypeId) (i : TypeInfo) (z : Value) (ht : P.underlying t = some (.slice e)) (hi : P.info? e = some i) (hz : i.zero = some z)
    (hzs : z.cells.size = i.size) (v : Value) (n : Nat) (xs : List Value) (hown : w.ownsRow base e i.size v n xs)
    (b : Option Addr) (m c : Nat) (news : List Value) (hl : news.length = m * i.size) (hb : m ≠ 0 → ∃ a, b = some a ∧ ∀ j u, news[j]? = some u → w.cell? (a.add j) = some u)
    (h1 : ∀ u ∈ news, u.oneCell' = true)
    (h63 : n + m ≤ maxLen) (hbytes : (n + m) * i.bytes ≤ 140737488355328) (hbase : base ≤ w.heap.size) :
    ∃ v' w', (Builtin.append_ #[t, t] ty #[v, .slice b m c]).run P w = .ok v' w' ∧ w'.ownsRow base e i.size v' (n + m) (xs ++ news) ∧ w.grownBy w' v.ownBlock ∧
      (∀ g, v.ownBlock = some g → ∀ o u, o < n * i.size → w.cell? ⟨g, o, none⟩ = some u → w'.cell? ⟨g, o, none⟩ = some u) ∧
      (v'.ownBlock = v.ownBlock ∨ ∃ g, v'.ownBlock = some g ∧ w.heap.size ≤ g) := by
  have hsmall : n + m ≤ 9223372036854775807 := by simp only [maxLen] at h63; omega
  have hlen : (xs ++ news).length = (n + m) * i.size := by rw [List.length_append, hown.1, hl, Nat.add_mul]
  by_cases hm : m = 0
  · subst hm
    obtain rfl : news = [] := List.eq_nil_of_length_eq_zero (by simpa using hl)
    have hcap : ∃ base' cap, v = .slice base' n cap ∧ n ≤ cap := by
      rcases hown.2 with ⟨rfl, rfl⟩ | ⟨g, cap, cur, rfl, _, _, hnc, _⟩
      · exact ⟨_, _, rfl, Nat.le_refl _⟩
      · exact ⟨_, _, rfl, hnc⟩
    obtain ⟨base', cap, rfl, hnc⟩ := hcap
    refine ⟨_, w, run_append_zero w t ty e i ht hi base' b n cap c hnc, by simpa using hown, ⟨rfl, rfl, rfl, Nat.le_refl _, fun _ _ _ => rfl⟩, fun _ _ _ _ _ h => h, .inl rfl⟩
  · obtain ⟨a, rfl, hnews⟩ := hb hm
    have grown : ∀ (old : Nat), old < n + m → ∀ (row : Option Nat),
        (w.drew.alloc (.cells (xs.toArray ++ news.toArray ++ Builtin.zeroCells z.cells (grownCap w (n + m) old e - (n + m))) e)).ownsRow base e i.size
          (.slice (some ⟨w.heap.size, 0, none⟩) (n + m) (grownCap w (n + m) old e)) (n + m) (xs ++ news) ∧
        w.grownBy (w.drew.alloc (.cells (xs.toArray ++ news.toArray ++ Builtin.zeroCells z.cells (grownCap w (n + m) old e - (n + m))) e)) row := by
      intro old ho row
      have hge := grownCap_ge w (n + m) old e
      have hcm : grownCap w (n + m) old e ≤ maxLen := grownCap_le_maxLen w (n + m) old e h63
      refine ⟨⟨hlen, .inr ⟨w.heap.size, _, _, rfl, hbase, by exact heap_alloc_new w.drew _, hge, hcm, ?_, ?_⟩⟩, ⟨rfl, rfl, rfl, by simp, fun k hk _ => Below.heap_alloc w.drew _ k hk⟩⟩
      · simp only [Array.size_append, List.size_toArray, size_zeroCells, hzs, hown.1, hl, ← Nat.add_mul]
        congr 1
        omega
      · simp only [Array.toList_append, List.append_assoc]
        rw [← List.append_assoc, ← hlen]
        exact List.take_left
    have kept : ∀ (old : Nat) (g : Nat), g < w.heap.size → ∀ o u, w.cell? ⟨g, o, none⟩ = some u →
        (w.drew.alloc (.cells (xs.toArray ++ news.toArray ++ Builtin.zeroCells z.cells (grownCap w (n + m) old e - (n + m))) e)).cell? ⟨g, o, none⟩ = some u := by
      intro old g hg o u hu
      rw [World.cell?_of_block (w := w.drew) (Below.heap_alloc _ _ _ (by simpa using hg))]
      exact hu
    rcases hown.2 with ⟨rfl, rfl⟩ | ⟨g, cap, cur, rfl, hbg, hg, hnc, hcm, hcs, htake⟩
    · have hx : xs = [] := List.eq_nil_of_length_eq_zero (by simpa using hown.1)
      subst hx
      have hr := run_append_nil (P := P) w t ty e i z ht hi hz a m c news hl hnews (by omega) (by omega) (by have hb := hbytes; simp only [Nat.zero_add] at hb; omega)
      have hgr := grown 0 (by omega) (Value.ownBlock (.slice none 0 0))
      simp only [Nat.zero_add, List.nil_append, Array.empty_append] at hgr ⊢
      exact ⟨_, _, hr, hgr.1, hgr.2, fun g h => by simp [Value.ownBlock] at h, .inr ⟨_, rfl, Nat.le_refl _⟩⟩
    · by_cases hroom : n + m ≤ cap
      · have hfit : n * i.size + news.length ≤ cur.size := by rw [hl, hcs, ← Nat.add_mul]; exact Nat.mul_le_mul_right _ hroom
        have hr := run_append_room (P := P) w t ty e i ht hi g n cap cur hg a m c news hl hnews h1 hroom hfit
        refine ⟨_, _, hr, ⟨hlen, .inr ⟨g, cap, _, rfl, hbg, setRow_heap w g cur _ e _ hg, hroom, hcm, ?_, ?_⟩⟩, ⟨rfl, rfl, rfl, by simp, fun k _ hk => setRow_other w g k _ (fun e => hk (by simp [Value.ownBlock, e]))⟩, ?_, .inl rfl⟩
        · simp only [List.size_toArray, List.length_append, List.length_take, List.length_drop, Array.length_toList]
          omega
        · rw [htake, ← hlen]
          exact List.take_left
        · intro g' hg' o u ho hu
          simp only [Value.ownBlock, Option.some.injEq] at hg'
          subst hg'
          rw [cell_setRow_same w g o cur _ e _ hg]
          rw [cell_of_row w g o cur e _ hg] at hu
          have : cur.toList[o]? = some u := by simpa using hu
          simp only [List.append_assoc, List.getElem?_toArray]
          rw [List.getElem?_append_left (by simp; omega), List.getElem?_take, if_pos ho]
          exact this
      · have holds : ∀ j u, xs[j]? = some u → w.cell? ((⟨g, 0, none⟩ : Addr).add j) = some u := hown.cells (g := g) rfl
        have hr := run_append_grow (P := P) w t ty e i z ht hi hz ⟨g, 0, none⟩ n cap xs hown.1 holds a m c news hl hnews (by omega) (by omega) (growslice_fits (by omega) hbytes)
        have hgr := grown cap (by omega) (Value.ownBlock (.slice (some ⟨g, 0, none⟩) n cap))
        refine ⟨_, _, hr, hgr.1, hgr.2, ?_, .inr ⟨_, rfl, Nat.le_refl _⟩⟩
        intro g' hg' o u ho hu
        simp only [Value.ownBlock, Option.some.injEq] at hg'
        subst hg'
        exact kept cap g (Array.getElem?_eq_some_iff.1 hg).1 o u hu
end

/-- The tie behind an append onto the list of a tag. -/
theorem Inv.append {P : Program} {Z : GTab} {B : Nat} {fr : List SV} {σ : List Blk} {g : G} {q : Gh} {a : Act} (hI : Inv P Z B fr σ g q a) {k : Nat} {T : TypeId} {rows rows2 : List (List D)}
    (hk : q.γ k = some (T, rows)) {t ty : TypeId} {i : TypeInfo} {z : Value} (ht : P.underlying t = some (.slice T)) (hi : P.info? T = some i) (hz : i.zero = some z) (hzs : z.cells.size = i.size)
    {x : Value} (hx : CR g (.sl rows2) x) (hr2 : ∀ r ∈ rows2, r.length = i.size) (h63 : rows.length + rows2.length ≤ maxLen) (hbytes : (rows.length + rows2.length) * i.bytes ≤ 140737488355328) :
    ∃ v' g' q', (Builtin.append_ #[t, t] ty #[q.τ k, x]).run P g.w = .ok v' g'.w ∧ Inv P Z B (demoteL k fr) (σ.map (demoteB k)) g' q' a ∧ Evo g σ q g' (σ.map (demoteB k)) q' ∧
      SR g' (σ.map (demoteB k)) q' (.gl k T (rows ++ rows2)) v' := by
  have hT : szOf P T = i.size := by simp [szOf, hi]
  obtain ⟨vs, ho, hc, hl, h1, hkb⟩ := hI.tag k T rows hk
  rw [hT] at ho hl hkb
  -- the source
  have hsrc : ∃ b c news, x = .slice b rows2.length c ∧ CRL g rows2.flatten news ∧ news.length = rows2.length * i.size ∧ (∀ u ∈ news, u.oneCell' = true) ∧
      (rows2.length ≠ 0 → ∃ ad, b = some ad ∧ ∀ j u, news[j]? = some u → g.w.cell? (ad.add j) = some u) := by
    cases hx with
    | sl0 b c => exact ⟨b, c, [], rfl, .nil, by simp, by simp, fun h => absurd rfl h⟩
    | sl b o c sz _ hcap hcr =>
      obtain ⟨hf, hfl⟩ := hcr.flat
      obtain ⟨news, k1, k2, k3, k4⟩ := hf.vals
      refine ⟨_, c, news, rfl, k1, ?_, k3, fun _ => ⟨_, rfl, fun j u hj => by rw [addr_add]; exact k2 j u hj⟩⟩
      rw [← k1.length]
      exact flatten_length rows2 hr2
  obtain ⟨b, c, news, rfl, hn1, hn2, hn3, hn4⟩ := hsrc
  obtain ⟨v', w', hrun, hown', hgr, hkept, hwhere⟩ := run_append_vm (P := P) g.w B t ty T i z ht hi hz hzs (q.τ k) rows.length vs ho b rows2.length c news hn2 hn4 hn3 h63 hbytes hI.base
  let S' := fun x o => g.S x o ∨ (v'.ownBlock = some x ∧ o < (rows.length + rows2.length) * i.size)
  let q' : Gh := { q with τ := fun j => if j = k then v' else q.τ j, γ := fun j => if j = k then some (T, rows ++ rows2) else q.γ j }
  let g' : G := ⟨w', S'⟩
  have hblk : ∀ x, x < g.w.heap.size → (q.τ k).ownBlock ≠ some x → w'.heap[x]? = g.w.heap[x]? := fun x hx hne => hgr.block x hx (fun e => hne e.symm)
  have hg : g.le g' := by
    refine ⟨fun x o u hs hcl => ?_, fun _ _ h => .inl h⟩
    show w'.cell? _ = _
    by_cases he : (q.τ k).ownBlock = some x
    · exact hkept x he o u (((hkb x he).1 o).1 hs) hcl
    · rw [World.cell?_of_block (w := g.w) (hblk x (hI.dom x o hs) he)]
      exact hcl
  have hv'lt := hown'.lt
  -- the new list's block is none of the boxes', and no other tag's
  have hnew : ∀ x, v'.ownBlock = some x → (q.τ k).ownBlock = some x ∨ g.w.heap.size ≤ x := by
    intro x hx
    rcases hwhere with h | ⟨y, hy, hle⟩
    · exact .inl (h ▸ hx)
    · rw [hx] at hy; simp only [Option.some.injEq] at hy; subst hy; exact .inr hle
  have hSold : ∀ x, x < g.w.heap.size → (q.τ k).ownBlock ≠ some x → ∀ o, S' x o ↔ g.S x o := fun x hx hne o =>
    ⟨fun h => h.elim id (fun h => (hnew x h.1).elim (fun h' => absurd h' hne) (fun h' => by omega)), .inl⟩
  have hboxlt := hI.boxlt
  have hσ : Same σ (σ.map (demoteB k)) q q' := Same.map k fun _ => rfl
  have hγ : ∀ j x, j ≠ k → q.γ j = some x → q'.γ j = some x ∧ q'.τ j = q.τ j := fun j x hj h => ⟨by simp only [q', if_neg hj]; exact h, by simp only [q', if_neg hj]⟩
  have hboxne : ∀ id, id < σ.length → (q.τ k).ownBlock ≠ some (q.ρ id) := fun id h e => (hkb _ e).2 id h rfl
  refine ⟨v', g', q', hrun, { defers := hI.defers, slot := SRL.demote hg k (hI.crr k) hσ hγ _ _ hI.slot, box := ?_, inj := ?_, tag := ?_, apart := ?_, base := ?_, dom := ?_, glob := hI.glob.mono hg }, ?_, ?_⟩
  · intro id bl hb
    rw [List.getElem?_map] at hb
    obtain ⟨b0, hb0, rfl⟩ := Option.map_eq_some_iff.1 hb
    obtain ⟨us, k1, k2, k4, k5, k6⟩ := hI.box id b0 hb0
    have hid := lt_of_some hb0
    have hx := hboxlt id hid
    refine ⟨us, ?_, BR.demote hg k (hI.crr k) hσ hγ k2, k4, k5, fun o h => k6 o ((hSold _ hx (hboxne id hid) o).1 h)⟩
    show w'.heap[_]? = _
    rw [hblk _ hx (hboxne id hid), demoteB_T]; exact k1
  · intro i j hi hj
    simp only [List.length_map] at hi hj
    exact hI.inj i j hi hj
  · intro j T' rows' hj
    by_cases e : j = k
    · simp only [q', e, if_true, Option.some.injEq, Prod.mk.injEq] at hj ⊢
      obtain ⟨rfl, rfl⟩ := hj
      refine ⟨vs ++ news, ?_, ?_, ?_, ?_, ?_⟩
      · rw [hT, List.length_append]; exact hown'
      · rw [List.flatten_append]; exact (CRL.mono hg hc).append (CRL.mono hg hn1)
      · intro r hr
        rw [hT]
        rcases List.mem_append.1 hr with hr | hr
        · exact hl r hr
        · exact hr2 r hr
      · intro u hu
        rcases List.mem_append.1 hu with hu | hu
        · exact h1 u hu
        · exact hn3 u hu
      · intro x hx
        rw [hT, List.length_append]
        refine ⟨fun o => ⟨fun h => h.elim (fun h => ?_) (fun h => h.2), fun h => .inr ⟨hx, h⟩⟩, fun id hid => ?_⟩
        rotate_left
        simp only [List.length_map] at hid
        rotate_left
        · rcases hnew x hx with h' | h'
          · have := ((hkb x h').1 o).1 h
            exact Nat.lt_of_lt_of_le this (Nat.mul_le_mul_right _ (Nat.le_add_right _ _))
          · have := hI.dom x o h; omega
        · rcases hnew x hx with h' | h'
          · exact (hkb x h').2 id hid
          · have := hboxlt id hid
            show q.ρ id ≠ x
            omega
    · simp only [q', if_neg e] at hj ⊢
      have htj := hI.tag j T' rows' hj
      have hap : ∀ x, (q.τ j).ownBlock = some x → (q.τ k).ownBlock ≠ some x := by
        intro x hx hx'
        rcases hI.apart j k e (by rw [hj]; simp) (by rw [hk]; simp) with h | h
        · rw [hx] at h; cases h
        · exact h (hx.trans hx'.symm)
      refine htj.mono hg (fun x hx => hblk x (htj.lt x hx).2 (hap x hx)) (fun x hx o => hSold x (htj.lt x hx).2 (hap x hx) o) ?_
      intro x hx id hid
      simp only [List.length_map] at hid
      obtain ⟨_, _, _, _, _, hkk⟩ := htj
      exact (hkk x hx).2 id hid
  · intro m n hmn hm hn
    have hother : ∀ j, j ≠ k → q.γ j ≠ none → (q.τ j).ownBlock = none ∨ (q.τ j).ownBlock ≠ v'.ownBlock := by
      intro j hj hγ
      obtain ⟨⟨T', rows'⟩, hx⟩ := Option.ne_none_iff_exists'.1 hγ
      cases hb : (q.τ j).ownBlock with
      | none => exact .inl rfl
      | some x =>
        refine .inr (fun h => ?_)
        rcases hnew x h.symm with h' | h'
        · rcases hI.apart j k hj hγ (by rw [hk]; simp) with h2 | h2
          · rw [hb] at h2; cases h2
          · exact h2 (hb.trans h'.symm)
        · have := ((hI.tag j T' rows' hx).lt x hb).2; omega
    by_cases e1 : m = k <;> by_cases e2 : n = k
    · omega
    · simp only [q', e1, e2, if_true, if_false] at hm hn ⊢
      rcases hother n e2 hn with h | h
      · cases hv : v'.ownBlock with
        | none => exact .inl rfl
        | some x => exact .inr (by rw [h]; simp)
      · exact .inr (fun e => h e.symm)
    · simp only [q', e1, e2, if_true, if_false] at hm hn ⊢
      exact hother m e1 hm
    · simp only [q', e1, e2, if_false] at hm hn ⊢
      exact hI.apart m n hmn hm hn
  · exact Nat.le_trans hI.base hgr.size
  · intro x o hs
    rcases hs with hs | ⟨hs, _⟩
    · exact Nat.lt_of_lt_of_le (hI.dom x o hs) hgr.size
    · exact (hv'lt x hs).2
  · refine ⟨hg, hgr.os, hgr.tape, hgr.output, hgr.size, fun x hx hn => ?_, ?_, hσ, by simp⟩
    · have hne : (q.τ k).ownBlock ≠ some x := fun e => hn (.inr ⟨k, by rw [hk]; simp, e⟩)
      exact ⟨hblk x hx hne, hSold x hx hne⟩
    · rintro x (⟨id, hid, rfl⟩ | ⟨j, hj, he⟩)
      · simp only [List.length_map] at hid
        exact .inl (.inl ⟨id, hid, rfl⟩)
      · by_cases e : j = k
        · simp only [q', e, if_true] at he
          exact (hnew x he).elim (fun h => .inl (.inr ⟨k, by rw [hk]; simp, h⟩)) .inr
        · simp only [q', e, if_false] at hj he
          exact .inl (.inr ⟨j, hj, he⟩)
  · exact ⟨by simp [q'], by simp [q']⟩
end Go.Vm
