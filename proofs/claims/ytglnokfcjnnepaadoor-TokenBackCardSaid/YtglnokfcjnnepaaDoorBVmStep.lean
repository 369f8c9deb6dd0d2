/- The operations that make or write memory. -/
import Derived.Test.YtglnokfcjnnepaaDoorBVmVal3
import Derived.Laws.MakeOwn
namespace Go.Vm
open Go Go.RowKit

mutual
def demote (k : Nat) : SV → SV
  | .gl j T rows => if j = k then .d (.sl rows) else .gl j T rows
  | .clo f a b => .clo f (demoteL k a) (demoteL k b)
  | .tupr xs => .tupr (demoteL k xs)
  | .d x => .d x
  | .arr id off n => .arr id off n
  | .ptr id i off => .ptr id i off
  | .rp rows i off => .rp rows i off
  | .any => .any
def demoteL (k : Nat) : List SV → List SV
  | [] => []
  | x :: xs => demote k x :: demoteL k xs
end
def demoteB (k : Nat) : Blk → Blk
  | .arr T sz rows => .arr T sz rows
  | .box T cells => .box T (demoteL k cells)
theorem demoteL_length (k : Nat) : ∀ xs, (demoteL k xs).length = xs.length
  | [] => rfl
  | x :: xs => by simp [demoteL, demoteL_length k xs]
theorem demoteB_sz (k : Nat) (b : Blk) : (demoteB k b).sz = b.sz := by cases b <;> simp [demoteB, Blk.sz, demoteL_length]
theorem demoteB_T (k : Nat) (b : Blk) : (demoteB k b).T = b.T := by cases b <;> rfl

/-- Blocks that stay where they are, as wide as they were. -/
def Same (σ σ' : List Blk) (q q' : Gh) : Prop := ∀ id b, σ[id]? = some b → ∃ b', σ'[id]? = some b' ∧ b'.sz = b.sz ∧ q'.ρ id = q.ρ id

mutual
theorem SR.mono {g g' : G} {σ σ' : List Blk} {q q' : Gh} (hg : g.le g') (hσ : Same σ σ' q q')
    (hγ : ∀ k x, q.γ k = some x → q'.γ k = some x ∧ q'.τ k = q.τ k) : (x : SV) → (v : Value) → SR g σ q x v → SR g' σ' q' x v
  | .d x, v, h => CR.mono hg h
  | .gl k T rows, v, ⟨h, hk⟩ => by
    obtain ⟨k1, k2⟩ := hγ k _ hk
    exact ⟨by rw [k2]; exact h, k1⟩
  | .arr id off n, v, ⟨b, c, hb, hc, e⟩ => by
    obtain ⟨b', h1, h2, h3⟩ := hσ id b hb
    exact ⟨b', c, h1, hc, by rw [h2, h3]; exact e⟩
  | .ptr id i off, v, ⟨b, hb, e⟩ => by
    obtain ⟨b', h1, h2, h3⟩ := hσ id b hb
    exact ⟨b', h1, by rw [h2, h3]; exact e⟩
  | .rp rows i off, v, ⟨b, o, sz, hc, e⟩ => ⟨b, o, sz, CRR.mono hg hc, e⟩
  | .clo f xs ys, v, ⟨vs, us, h1, h2, e⟩ => ⟨vs, us, SRL.mono hg hσ hγ xs vs h1, SRL.mono hg hσ hγ ys us h2, e⟩
  | .tupr xs, v, ⟨vs, h1, e⟩ => ⟨vs, SRL.mono hg hσ hγ xs vs h1, e⟩
  | .any, _, _ => trivial
theorem SRL.mono {g g' : G} {σ σ' : List Blk} {q q' : Gh} (hg : g.le g') (hσ : Same σ σ' q q')
    (hγ : ∀ k x, q.γ k = some x → q'.γ k = some x ∧ q'.τ k = q.τ k) : (xs : List SV) → (vs : List Value) → SRL g σ q xs vs → SRL g' σ' q' xs vs
  | [], vs, h => h
  | x :: xs, vs, ⟨v, us, h1, h2, e⟩ => ⟨v, us, SR.mono hg hσ hγ x v h1, SRL.mono hg hσ hγ xs us h2, e⟩
end

mutual
theorem SR.demote {g g' : G} {σ σ' : List Blk} {q q' : Gh} (hg : g.le g') (k : Nat) (hcrr : ∀ T rows, q.γ k = some (T, rows) → CR g (.sl rows) (q.τ k)) (hσ : Same σ σ' q q')
    (hγ : ∀ j x, j ≠ k → q.γ j = some x → q'.γ j = some x ∧ q'.τ j = q.τ j) : (x : SV) → (v : Value) → SR g σ q x v → SR g' σ' q' (demote k x) v
  | .d x, v, h => by simp only [Vm.demote]; exact CR.mono hg h
  | .gl j T rows, v, ⟨h, hj⟩ => by
    simp only [Vm.demote]
    by_cases e : j = k
    · rw [if_pos e, h]
      subst e
      exact CR.mono hg (hcrr T rows hj)
    · rw [if_neg e]
      obtain ⟨k1, k2⟩ := hγ j _ e hj
      exact ⟨by rw [k2]; exact h, k1⟩
  | .arr id off n, v, ⟨b, c, hb, hc, e⟩ => by
    simp only [Vm.demote]
    obtain ⟨b', h1, h2, h3⟩ := hσ id b hb
    exact ⟨b', c, h1, hc, by rw [h2, h3]; exact e⟩
  | .ptr id i off, v, ⟨b, hb, e⟩ => by
    simp only [Vm.demote]
    obtain ⟨b', h1, h2, h3⟩ := hσ id b hb
    exact ⟨b', h1, by rw [h2, h3]; exact e⟩
  | .rp rows i off, v, ⟨b, o, sz, hc, e⟩ => by simp only [Vm.demote]; exact ⟨b, o, sz, CRR.mono hg hc, e⟩
  | .clo f xs ys, v, ⟨vs, us, h1, h2, e⟩ => by
    simp only [Vm.demote]
    exact ⟨vs, us, SRL.demote hg k hcrr hσ hγ xs vs h1, SRL.demote hg k hcrr hσ hγ ys us h2, e⟩
  | .tupr xs, v, ⟨vs, h1, e⟩ => by simp only [Vm.demote]; exact ⟨vs, SRL.demote hg k hcrr hσ hγ xs vs h1, e⟩
  | .any, _, _ => by simp only [Vm.demote]; trivial
theorem SRL.demote {g g' : G} {σ σ' : List Blk} {q q' : Gh} (hg : g.le g') (k : Nat) (hcrr : ∀ T rows, q.γ k = some (T, rows) → CR g (.sl rows) (q.τ k)) (hσ : Same σ σ' q q')
    (hγ : ∀ j x, j ≠ k → q.γ j = some x → q'.γ j = some x ∧ q'.τ j = q.τ j) : (xs : List SV) → (vs : List Value) → SRL g σ q xs vs → SRL g' σ' q' (demoteL k xs) vs
  | [], vs, h => h
  | x :: xs, vs, ⟨v, us, h1, h2, e⟩ => by
    simp only [demoteL]
    exact ⟨v, us, SR.demote hg k hcrr hσ hγ x v h1, SRL.demote hg k hcrr hσ hγ xs us h2, e⟩
end

theorem BR.mono {g g' : G} {σ σ' : List Blk} {q q' : Gh} (hg : g.le g') (hσ : Same σ σ' q q')
    (hγ : ∀ k x, q.γ k = some x → q'.γ k = some x ∧ q'.τ k = q.τ k) {vs : List Value} {b : Blk} (h : BR g σ q vs b) : BR g' σ' q' vs b := by
  cases b with
  | arr T sz rows => exact ⟨CRL.mono hg h.1, h.2⟩
  | box T cells => exact SRL.mono hg hσ hγ _ _ h
theorem BR.demote {g g' : G} {σ σ' : List Blk} {q q' : Gh} (hg : g.le g') (k : Nat) (hcrr : ∀ T rows, q.γ k = some (T, rows) → CR g (.sl rows) (q.τ k)) (hσ : Same σ σ' q q')
    (hγ : ∀ j x, j ≠ k → q.γ j = some x → q'.γ j = some x ∧ q'.τ j = q.τ j) {vs : List Value} {b : Blk} (h : BR g σ q vs b) : BR g' σ' q' vs (demoteB k b) := by
  cases b with
  | arr T sz rows => exact ⟨CRL.mono hg h.1, h.2⟩
  | box T cells => exact SRL.demote hg k hcrr hσ hγ _ _ h

theorem Same.map {σ : List Blk} {q q' : Gh} (k : Nat) (h : ∀ id, q'.ρ id = q.ρ id) : Same σ (σ.map (demoteB k)) q q' := fun id b hb =>
  ⟨demoteB k b, by rw [List.getElem?_map, hb]; rfl, demoteB_sz k b, h id⟩

theorem lt_of_some {σ : List Blk} {id : Nat} {b : Blk} (hb : σ[id]? = some b) : id < σ.length := by
  by_cases hlt : id < σ.length
  · exact hlt
  · rw [List.getElem?_eq_none (Nat.not_lt.1 hlt)] at hb; cases hb

theorem Inv.boxlt {P : Program} {Z : GTab} {B : Nat} {fr : List SV} {σ : List Blk} {g : G} {q : Gh} {a : Act} (hI : Inv P Z B fr σ g q a) : ∀ id, id < σ.length → q.ρ id < g.w.heap.size := fun id h => by
  obtain ⟨vs, hv, _⟩ := hI.box id _ (List.getElem?_eq_getElem h)
  exact (Array.getElem?_eq_some_iff.1 hv).1

theorem Inv.crr {P : Program} {Z : GTab} {B : Nat} {fr : List SV} {σ : List Blk} {g : G} {q : Gh} {a : Act} (hI : Inv P Z B fr σ g q a) (k : Nat) : ∀ T rows, q.γ k = some (T, rows) → CR g (.sl rows) (q.τ k) :=
  fun T rows h => (hI.tag k T rows h).crr

theorem ownsRow_of_block {w w' : World} {B e size n : Nat} {v : Value} {xs : List Value} (h : w.ownsRow B e size v n xs)
    (hb : ∀ b, v.ownBlock = some b → w'.heap[b]? = w.heap[b]?) : w'.ownsRow B e size v n xs := by
  refine ⟨h.1, ?_⟩
  rcases h.2 with h2 | ⟨g, cap, cur, rfl, hB, hg, r⟩
  · exact .inl h2
  · exact .inr ⟨g, cap, cur, rfl, hB, by rw [hb g rfl]; exact hg, r⟩

theorem Tag.mono {P : Program} {B : Nat} {g g' : G} {σ σ' : List Blk} {q q' : Gh} {T : TypeId} {rows : List (List D)} {v : Value} (h : Tag P B g σ q T rows v) (hg : g.le g')
    (hb : ∀ b, v.ownBlock = some b → g'.w.heap[b]? = g.w.heap[b]?) (hS : ∀ b, v.ownBlock = some b → ∀ o, g'.S b o ↔ g.S b o)
    (hρ : ∀ b, v.ownBlock = some b → ∀ id, id < σ'.length → q'.ρ id ≠ b) : Tag P B g' σ' q' T rows v := by
  obtain ⟨vs, ho, hc, hl, h1, hk⟩ := h
  exact ⟨vs, ownsRow_of_block ho hb, CRL.mono hg hc, hl, h1, fun b e => ⟨fun o => (hS b e o).trans ((hk b e).1 o), hρ b e⟩⟩

theorem Tag.lt {P : Program} {B : Nat} {g : G} {σ : List Blk} {q : Gh} {T : TypeId} {rows : List (List D)} {v : Value} (h : Tag P B g σ q T rows v) : ∀ b, v.ownBlock = some b → B ≤ b ∧ b < g.w.heap.size := by
  obtain ⟨vs, ho, _⟩ := h
  exact ho.lt

/-- The tie goes on behind a new block. -/
theorem le_alloc (g : G) (o : Obj) (hd : ∀ b o, g.S b o → b < g.w.heap.size) : g.le ⟨g.w.alloc o, g.S⟩ :=
  ⟨fun b i v hs hc => by
    show (g.w.alloc o).cell? _ = _
    rw [World.cell?_of_block (w := g.w) (Below.heap_alloc _ _ _ (hd b i hs))]; exact hc, fun _ _ h => h⟩

/-- A new block of the VM's. -/
theorem Inv.push {P : Program} {Z : GTab} {B : Nat} {fr : List SV} {σ : List Blk} {g : G} {q : Gh} {a : Act} (hI : Inv P Z B fr σ g q a) (bl : Blk) (vs : List Value)
    (hc : BR g σ q vs bl) (h1 : ∀ u ∈ vs, u.oneCell' = true) :
    let g' : G := ⟨g.w.alloc (.cells ⟨vs⟩ bl.T), g.S⟩
    let q' : Gh := { q with ρ := fun id => if id = σ.length then g.w.heap.size else q.ρ id }
    Inv P Z B fr (σ ++ [bl]) g' q' a ∧ g.le g' ∧ Same σ (σ ++ [bl]) q q' := by
  intro g' q'
  have hg : g.le g' := le_alloc g (.cells ⟨vs⟩ bl.T) hI.dom
  have hρ : ∀ id, id < σ.length → q'.ρ id = q.ρ id := fun id h => if_neg (by omega)
  have hσ : Same σ (σ ++ [bl]) q q' := fun id b hb => ⟨b, by rw [List.getElem?_append_left (lt_of_some hb)]; exact hb, rfl, hρ id (lt_of_some hb)⟩
  have hγ : ∀ k x, q.γ k = some x → q'.γ k = some x ∧ q'.τ k = q.τ k := fun k x h => ⟨h, rfl⟩
  have hlt := hI.boxlt
  refine ⟨{ defers := hI.defers, slot := SRL.mono hg hσ hγ _ _ hI.slot, box := ?_, inj := ?_, tag := ?_, apart := hI.apart, base := ?_, dom := ?_, glob := hI.glob.mono hg }, hg, hσ⟩
  · intro id b hb
    by_cases hid : id < σ.length
    · rw [List.getElem?_append_left hid] at hb
      obtain ⟨us, k1, k2, k4, k5, k6⟩ := hI.box id b hb
      refine ⟨us, ?_, BR.mono hg hσ hγ k2, k4, ?_, ?_⟩
      · rw [hρ id hid, show g'.w = g.w.alloc (.cells ⟨vs⟩ bl.T) from rfl, Below.heap_alloc _ _ _ (hlt id hid)]; exact k1
      · rw [hρ id hid]; exact k5
      · rw [hρ id hid]; exact k6
    · by_cases he : id = σ.length
      · subst he
        rw [List.getElem?_append_right (Nat.le_refl _)] at hb
        simp only [Nat.sub_self, List.getElem?_cons_zero, Option.some.injEq] at hb
        subst hb
        have e : q'.ρ σ.length = g.w.heap.size := by simp [q']
        rw [e]
        exact ⟨vs, by exact heap_alloc_new _ _, BR.mono hg hσ hγ hc, h1, hI.base, fun o hs => by have := hI.dom _ _ hs; omega⟩
      · rw [List.getElem?_eq_none (by simp; omega)] at hb; cases hb
  · intro i j hi hj h
    simp only [List.length_append, List.length_cons, List.length_nil] at hi hj
    simp only [q'] at h
    by_cases h1 : i = σ.length <;> by_cases h2 : j = σ.length
    · omega
    · simp only [h1, h2, if_true, if_false] at h
      have := hlt j (by omega); omega
    · simp only [h1, h2, if_true, if_false] at h
      have := hlt i (by omega); omega
    · simp only [h1, h2, if_false] at h
      exact hI.inj i j (by omega) (by omega) h
  · intro k T' rows' hk
    have ht := hI.tag k T' rows' hk
    refine ht.mono hg (fun b hb => Below.heap_alloc _ _ _ (ht.lt b hb).2) (fun _ _ _ => Iff.rfl) ?_
    intro b hb id hid
    simp only [List.length_append, List.length_cons, List.length_nil] at hid
    simp only [q']
    by_cases he : id = σ.length
    · simp only [he, if_true]
      have := (ht.lt b hb).2; omega
    · simp only [he, if_false]
      obtain ⟨_, _, _, _, _, hkk⟩ := ht
      exact (hkk b hb).2 id (by omega)
  · have := hI.base; simp [g']; omega
  · intro b o hs
    have := hI.dom b o hs; simp [g']; omega

theorem flatten_length {sz : Nat} : ∀ rows : List (List D), (∀ r ∈ rows, r.length = sz) → rows.flatten.length = rows.length * sz
  | [], _ => by simp
  | r :: rows, h => by
    rw [List.flatten_cons, List.length_append, flatten_length rows (fun r hr => h r (by simp [hr])), h r (by simp), List.length_cons, Nat.succ_mul]
    omega

/-- A new list that grows, in a block of its own. -/
theorem Inv.newTag {P : Program} {Z : GTab} {B : Nat} {fr : List SV} {σ : List Blk} {g : G} {q : Gh} {a : Act} (hI : Inv P Z B fr σ g q a) (k : Nat) (T : TypeId) (rows : List (List D)) (vs : List Value)
    (hc : CRL g rows.flatten vs) (hl : ∀ r ∈ rows, r.length = szOf P T) (h1 : ∀ u ∈ vs, u.oneCell' = true) (hm : rows.length ≤ maxLen) :
    let S' := fun b o => g.S b o ∨ (b = g.w.heap.size ∧ o < rows.length * szOf P T)
    let v := Value.slice (some ⟨g.w.heap.size, 0, none⟩) rows.length rows.length
    let q' : Gh := { q with τ := fun j => if j = k then v else q.τ j, γ := fun j => if j = k then some (T, rows) else q.γ j }
    let g' : G := ⟨g.w.alloc (.cells ⟨vs⟩ T), S'⟩
    Inv P Z B (demoteL k fr) (σ.map (demoteB k)) g' q' a ∧ g.le g' ∧ SR g' (σ.map (demoteB k)) q' (.gl k T rows) v := by
  intro S' v q' g'
  have hlen : vs.length = rows.length * szOf P T := by rw [← hc.length]; exact flatten_length rows hl
  have hg : g.le g' := ⟨fun b i u hs hcl => by
      show (g.w.alloc _).cell? _ = _
      rw [World.cell?_of_block (w := g.w) (Below.heap_alloc _ _ _ (hI.dom b i hs))]; exact hcl, fun _ _ h => .inl h⟩
  have hσ : Same σ (σ.map (demoteB k)) q q' := Same.map k fun _ => rfl
  have hγ : ∀ j x, j ≠ k → q.γ j = some x → q'.γ j = some x ∧ q'.τ j = q.τ j := fun j x hj h => ⟨by simp only [q', if_neg hj]; exact h, by simp only [q', if_neg hj]⟩
  have hSold : ∀ b, b < g.w.heap.size → ∀ o, S' b o ↔ g.S b o := fun b hb o => ⟨fun h => h.elim id (fun h => by omega), .inl⟩
  have hbox := hI.boxlt
  refine ⟨{ defers := hI.defers, slot := SRL.demote hg k (hI.crr k) hσ hγ _ _ hI.slot, box := ?_, inj := ?_, tag := ?_, apart := ?_, base := ?_, dom := ?_, glob := hI.glob.mono hg }, hg, ?_⟩
  · intro id b hb
    rw [List.getElem?_map] at hb
    obtain ⟨b0, hb0, rfl⟩ := Option.map_eq_some_iff.1 hb
    obtain ⟨us, k1, k2, k4, k5, k6⟩ := hI.box id b0 hb0
    have hlt := (Array.getElem?_eq_some_iff.1 k1).1
    refine ⟨us, ?_, BR.demote hg k (hI.crr k) hσ hγ k2, k4, k5, ?_⟩
    · show (g.w.alloc _).heap[_]? = _
      rw [Below.heap_alloc _ _ _ hlt, demoteB_T]; exact k1
    · intro o h; exact k6 o ((hSold _ hlt o).1 h)
  · intro i j hi hj
    simp only [List.length_map] at hi hj
    exact hI.inj i j hi hj
  · intro j T' rows' hj
    by_cases e : j = k
    · simp only [q', e, if_true, Option.some.injEq, Prod.mk.injEq] at hj ⊢
      obtain ⟨rfl, rfl⟩ := hj
      refine ⟨vs, ⟨hlen, .inr ⟨g.w.heap.size, rows.length, ⟨vs⟩, rfl, hI.base, by exact heap_alloc_new _ _, Nat.le_refl _, hm, hlen, by simp [← hlen]⟩⟩, CRL.mono hg hc, hl, h1, ?_⟩
      intro b hb
      simp only [v, Value.ownBlock, Option.some.injEq] at hb
      subst hb
      refine ⟨fun o => ⟨fun h => h.elim (fun h => by have := hI.dom _ _ h; omega) (fun h => h.2), fun h => .inr ⟨rfl, h⟩⟩, fun id hid => ?_⟩
      simp only [List.length_map] at hid
      have := hbox id hid
      show q.ρ id ≠ _
      omega
    · simp only [q', if_neg e] at hj ⊢
      have ht := hI.tag j T' rows' hj
      refine ht.mono hg (fun b hb => Below.heap_alloc _ _ _ (ht.lt b hb).2) (fun b hb o => hSold b (ht.lt b hb).2 o) ?_
      intro b hb id hid
      simp only [List.length_map] at hid
      obtain ⟨_, _, _, _, _, hkk⟩ := ht
      exact (hkk b hb).2 id hid
  · intro i j hij hi hj
    have hold : ∀ j, q.γ j ≠ none → (q.τ j).ownBlock ≠ some g.w.heap.size := by
      intro j hj h
      obtain ⟨⟨T', rows'⟩, hx⟩ := Option.ne_none_iff_exists'.1 hj
      have := ((hI.tag j T' rows' hx).lt _ h).2
      omega
    by_cases h1 : i = k <;> by_cases h2 : j = k
    · omega
    · simp only [q', h1, h2, if_true, if_false] at hi hj ⊢
      exact .inr (fun h => hold j hj h.symm)
    · simp only [q', h1, h2, if_true, if_false] at hi hj ⊢
      exact .inr (hold i hi)
    · simp only [q', h1, h2, if_false] at hi hj ⊢
      exact hI.apart i j hij hi hj
  · have := hI.base; simp [g']; omega
  · intro b o hs
    rcases hs with hs | ⟨rfl, _⟩
    · have := hI.dom b o hs; simp [g']; omega
    · simp [g']
  · exact ⟨by simp [q'], by simp [q']⟩

/-- A list that grows, nil yet. -/
theorem Inv.nilTag {P : Program} {Z : GTab} {B : Nat} {fr : List SV} {σ : List Blk} {g : G} {q : Gh} {a : Act} (hI : Inv P Z B fr σ g q a) (k : Nat) (T : TypeId) :
    let v := Value.slice none 0 0
    let q' : Gh := { q with τ := fun j => if j = k then v else q.τ j, γ := fun j => if j = k then some (T, []) else q.γ j }
    Inv P Z B (demoteL k fr) (σ.map (demoteB k)) g q' a ∧ SR g (σ.map (demoteB k)) q' (.gl k T []) v ∧ Same σ (σ.map (demoteB k)) q q' := by
  intro v q'
  have hg := G.le.refl g
  have hσ : Same σ (σ.map (demoteB k)) q q' := Same.map k fun _ => rfl
  have hγ : ∀ j x, j ≠ k → q.γ j = some x → q'.γ j = some x ∧ q'.τ j = q.τ j := fun j x hj h => ⟨by simp only [q', if_neg hj]; exact h, by simp only [q', if_neg hj]⟩
  refine ⟨{ defers := hI.defers, slot := SRL.demote hg k (hI.crr k) hσ hγ _ _ hI.slot, box := ?_, inj := ?_, tag := ?_, apart := ?_, base := hI.base, dom := hI.dom, glob := hI.glob }, ?_, hσ⟩
  · intro id b hb
    rw [List.getElem?_map] at hb
    obtain ⟨b0, hb0, rfl⟩ := Option.map_eq_some_iff.1 hb
    obtain ⟨us, k1, k2, k4, k5, k6⟩ := hI.box id b0 hb0
    exact ⟨us, by rw [demoteB_T]; exact k1, BR.demote hg k (hI.crr k) hσ hγ k2, k4, k5, k6⟩
  · intro i j hi hj
    simp only [List.length_map] at hi hj
    exact hI.inj i j hi hj
  · intro j T' rows' hj
    by_cases e : j = k
    · simp only [q', e, if_true, Option.some.injEq, Prod.mk.injEq] at hj ⊢
      obtain ⟨rfl, rfl⟩ := hj
      exact ⟨[], World.ownsRow_nil _ _ _ _, .nil, by simp, by simp, fun b hb => by simp [v, Value.ownBlock] at hb⟩
    · simp only [q', if_neg e] at hj ⊢
      have ht := hI.tag j T' rows' hj
      refine ht.mono hg (fun _ _ => rfl) (fun _ _ _ => Iff.rfl) ?_
      intro b hb id hid
      simp only [List.length_map] at hid
      obtain ⟨_, _, _, _, _, hkk⟩ := ht
      exact (hkk b hb).2 id hid
  · intro i j hij hi hj
    by_cases h1 : i = k
    · simp only [q', h1, if_true]
      exact .inl rfl
    · by_cases h2 : j = k
      · simp only [q', h1, h2, if_true, if_false] at hi hj ⊢
        cases h : (q.τ i).ownBlock with
        | none => exact .inl rfl
        | some b => exact .inr (by simp [v, Value.ownBlock])
      · simp only [q', h1, h2, if_false] at hi hj ⊢
        exact hI.apart i j hij hi hj
  · exact ⟨by simp [q'], by simp [q']⟩

/-- A store into a block of the VM's. -/
theorem Inv.write {P : Program} {Z : GTab} {B : Nat} {fr : List SV} {σ : List Blk} {g : G} {q : Gh} {a : Act} (hI : Inv P Z B fr σ g q a) {id : Nat} {b b2 : Blk} (hb : σ[id]? = some b)
    (hT : b2.T = b.T) (hz : b2.sz = b.sz) (vs : List Value) (hc : BR g σ q vs b2) (h1 : ∀ u ∈ vs, u.oneCell' = true) :
    Inv P Z B fr (σ.set id b2) ⟨g.w.setRow (q.ρ id) ⟨vs⟩, g.S⟩ q a ∧ g.le ⟨g.w.setRow (q.ρ id) ⟨vs⟩, g.S⟩ := by
  have hid := lt_of_some hb
  obtain ⟨us, k1, k2, k4, k5, k6⟩ := hI.box id b hb
  have hg : g.le ⟨g.w.setRow (q.ρ id) ⟨vs⟩, g.S⟩ := ⟨fun x o v hs hcl => by
      show (g.w.setRow _ _).cell? _ = _
      rw [cell_setRow_other _ _ _ _ (fun e => by simp only at e; subst e; exact k6 o hs)]; exact hcl, fun _ _ h => h⟩
  have hσ : Same σ (σ.set id b2) q q := by
    intro j c hj
    by_cases e : j = id
    · subst e
      rw [hb] at hj
      obtain rfl : b = c := by simpa using hj
      exact ⟨_, List.getElem?_set_self hid, hz, rfl⟩
    · exact ⟨c, by rw [List.getElem?_set_ne (fun h => e h.symm)]; exact hj, rfl, rfl⟩
  have hγ : ∀ k x, q.γ k = some x → q.γ k = some x ∧ q.τ k = q.τ k := fun k x h => ⟨h, rfl⟩
  refine ⟨{ defers := hI.defers, slot := SRL.mono hg hσ hγ _ _ hI.slot, box := ?_, inj := ?_, tag := ?_, apart := hI.apart, base := ?_, dom := ?_, glob := hI.glob.mono hg }, hg⟩
  · intro j c hj
    by_cases e : j = id
    · subst e
      rw [List.getElem?_set_self hid] at hj
      simp only [Option.some.injEq] at hj
      subst hj
      exact ⟨vs, by rw [hT]; exact setRow_heap _ _ _ _ _ _ k1, BR.mono hg hσ hγ hc, h1, k5, k6⟩
    · rw [List.getElem?_set_ne (fun h => e h.symm)] at hj
      obtain ⟨us', m1, m2, m4, m5, m6⟩ := hI.box j c hj
      refine ⟨us', ?_, BR.mono hg hσ hγ m2, m4, m5, m6⟩
      show (g.w.setRow _ _).heap[_]? = _
      rw [setRow_other _ _ _ _ (fun h => e (hI.inj j id (lt_of_some hj) hid h))]; exact m1
  · intro i j hi hj
    simp only [List.length_set] at hi hj
    exact hI.inj i j hi hj
  · intro k T' rows' hk
    have ht := hI.tag k T' rows' hk
    have hne : ∀ x, (q.τ k).ownBlock = some x → x ≠ q.ρ id := by
      intro x hx h
      obtain ⟨_, _, _, _, _, hkk⟩ := ht
      exact (hkk x hx).2 id hid h.symm
    refine ht.mono hg (fun x hx => setRow_other _ _ _ _ (hne x hx)) (fun _ _ _ => Iff.rfl) ?_
    intro x hx j hj
    simp only [List.length_set] at hj
    obtain ⟨_, _, _, _, _, hkk⟩ := ht
    exact (hkk x hx).2 j hj
  · have := hI.base; simpa using this
  · intro x o hs
    have := hI.dom x o hs; simpa using this
end Go.Vm
