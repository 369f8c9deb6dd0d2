/- How a state goes on: what stays, who owns what. -/
import Derived.Test.YtglnokfcjnnepaaDoorBVmStep
namespace Go.Vm
open Go Go.RowKit

def Own (σ : List Blk) (q : Gh) (b : Nat) : Prop := (∃ id, id < σ.length ∧ q.ρ id = b) ∨ ∃ k, q.γ k ≠ none ∧ (q.τ k).ownBlock = some b

structure Evo (g : G) (σ : List Blk) (q : Gh) (g' : G) (σ' : List Blk) (q' : Gh) : Prop where
  le : g.le g'
  os : g'.w.os = g.w.os
  tape : g'.w.tape = g.w.tape
  output : g'.w.output = g.w.output
  size : g.w.heap.size ≤ g'.w.heap.size
  kept : ∀ b, b < g.w.heap.size → ¬ Own σ q b → g'.w.heap[b]? = g.w.heap[b]? ∧ ∀ o, g'.S b o ↔ g.S b o
  own : ∀ b, Own σ' q' b → Own σ q b ∨ g.w.heap.size ≤ b
  same : Same σ σ' q q'
  more : σ.length ≤ σ'.length

theorem Evo.refl (g : G) (σ : List Blk) (q : Gh) : Evo g σ q g σ q :=
  ⟨G.le.refl g, rfl, rfl, rfl, Nat.le_refl _, fun _ _ _ => ⟨rfl, fun _ => Iff.rfl⟩, fun _ h => .inl h, fun _ b h => ⟨b, h, rfl, rfl⟩, Nat.le_refl _⟩

theorem Same.trans {σ1 σ2 σ3 : List Blk} {q1 q2 q3 : Gh} (h : Same σ1 σ2 q1 q2) (k : Same σ2 σ3 q2 q3) : Same σ1 σ3 q1 q3 := fun id b hb => by
  obtain ⟨b2, e1, e2, e3⟩ := h id b hb
  obtain ⟨b3, f1, f2, f3⟩ := k id b2 e1
  exact ⟨b3, f1, f2.trans e2, f3.trans e3⟩

theorem Evo.trans {g1 g2 g3 : G} {σ1 σ2 σ3 : List Blk} {q1 q2 q3 : Gh} (h : Evo g1 σ1 q1 g2 σ2 q2) (k : Evo g2 σ2 q2 g3 σ3 q3) : Evo g1 σ1 q1 g3 σ3 q3 := by
  refine ⟨h.le.trans k.le, k.os.trans h.os, k.tape.trans h.tape, k.output.trans h.output, Nat.le_trans h.size k.size, ?_, ?_, h.same.trans k.same, Nat.le_trans h.more k.more⟩
  · intro b hb hn
    obtain ⟨e1, e2⟩ := h.kept b hb hn
    have hn2 : ¬ Own σ2 q2 b := fun ho => (h.own b ho).elim hn (fun hl => by omega)
    obtain ⟨f1, f2⟩ := k.kept b (Nat.lt_of_lt_of_le hb h.size) hn2
    exact ⟨f1.trans e1, fun o => (f2 o).trans (e2 o)⟩
  · intro b hb
    rcases k.own b hb with ho | hl
    · exact h.own b ho
    · exact .inr (Nat.le_trans h.size hl)

/-- Nothing below the base is owned. -/
theorem Evo.below {P : Program} {Z : GTab} {B : Nat} {fr : List SV} {σ : List Blk} {g : G} {q : Gh} {a : Act} (hI : Inv P Z B fr σ g q a) {g' : G} {σ' : List Blk} {q' : Gh} (h : Evo g σ q g' σ' q') :
    Below B g.w g'.w := by
  refine ⟨h.os, h.tape, h.output, h.size, fun b hb => (h.kept b (Nat.lt_of_lt_of_le hb hI.base) ?_).1⟩
  rintro (⟨id, hid, rfl⟩ | ⟨k, hk, he⟩)
  · obtain ⟨_, _, _, _, k5, _⟩ := hI.box id _ (List.getElem?_eq_getElem hid)
    omega
  · obtain ⟨⟨T, rows⟩, hx⟩ := Option.ne_none_iff_exists'.1 hk
    have := ((hI.tag k T rows hx).lt b he).1
    omega

theorem own_map {σ : List Blk} {q : Gh} {k b : Nat} : Own (σ.map (demoteB k)) q b ↔ Own σ q b := by simp [Own]

/-- A new block of the VM's. -/
theorem Evo.push {P : Program} {Z : GTab} {B : Nat} {fr : List SV} {σ : List Blk} {g : G} {q : Gh} {a : Act} (hI : Inv P Z B fr σ g q a) (bl : Blk) (vs : List Value) :
    Evo g σ q ⟨g.w.alloc (.cells ⟨vs⟩ bl.T), g.S⟩ (σ ++ [bl]) { q with ρ := fun id => if id = σ.length then g.w.heap.size else q.ρ id } := by
  refine ⟨le_alloc g _ hI.dom, rfl, rfl, rfl, by simp, fun b hb _ => ⟨Below.heap_alloc _ _ _ hb, fun _ => Iff.rfl⟩, ?_, ?_, by simp⟩
  · rintro b (⟨id, hid, rfl⟩ | ⟨k, hk, he⟩)
    · simp only [List.length_append, List.length_cons, List.length_nil] at hid
      by_cases e : id = σ.length
      · simp only [e, if_true]; exact .inr (Nat.le_refl _)
      · simp only [e, if_false]; exact .inl (.inl ⟨id, by omega, rfl⟩)
    · exact .inl (.inr ⟨k, hk, he⟩)
  · exact fun id b hb => ⟨b, by rw [List.getElem?_append_left (lt_of_some hb)]; exact hb, rfl, if_neg (by have := lt_of_some hb; omega)⟩

theorem Evo.newTag {P : Program} {Z : GTab} {B : Nat} {fr : List SV} {σ : List Blk} {g : G} {q : Gh} {a : Act} (_hI : Inv P Z B fr σ g q a) (k : Nat) (T : TypeId) (rows : List (List D)) (vs : List Value) (hle : g.le ⟨g.w.alloc (.cells ⟨vs⟩ T), fun b o => g.S b o ∨ (b = g.w.heap.size ∧ o < rows.length * szOf P T)⟩) :
    Evo g σ q ⟨g.w.alloc (.cells ⟨vs⟩ T), fun b o => g.S b o ∨ (b = g.w.heap.size ∧ o < rows.length * szOf P T)⟩ (σ.map (demoteB k))
      { q with τ := fun j => if j = k then Value.slice (some ⟨g.w.heap.size, 0, none⟩) rows.length rows.length else q.τ j, γ := fun j => if j = k then some (T, rows) else q.γ j } := by
  refine ⟨hle, rfl, rfl, rfl, by simp, fun b hb _ => ⟨Below.heap_alloc _ _ _ hb, fun o => ⟨fun h => h.elim id (fun h => by omega), .inl⟩⟩, ?_, Same.map k fun _ => rfl, by simp⟩
  rintro b (⟨id, hid, rfl⟩ | ⟨j, hj, he⟩)
  · simp only [List.length_map] at hid
    exact .inl (.inl ⟨id, hid, rfl⟩)
  · by_cases e : j = k
    · simp only [e, if_true, Value.ownBlock, Option.some.injEq] at he
      exact .inr (by omega)
    · simp only [e, if_false] at hj he
      exact .inl (.inr ⟨j, hj, he⟩)

theorem Evo.nilTag (g : G) (σ : List Blk) (q : Gh) (k : Nat) (T : TypeId) :
    Evo g σ q g (σ.map (demoteB k)) { q with τ := fun j => if j = k then Value.slice none 0 0 else q.τ j, γ := fun j => if j = k then some (T, []) else q.γ j } := by
  refine ⟨G.le.refl g, rfl, rfl, rfl, Nat.le_refl _, fun b hb _ => ⟨rfl, fun _ => Iff.rfl⟩, ?_, Same.map k fun _ => rfl, by simp⟩
  rintro b (⟨id, hid, rfl⟩ | ⟨j, hj, he⟩)
  · simp only [List.length_map] at hid
    exact .inl (.inl ⟨id, hid, rfl⟩)
  · by_cases e : j = k
    · simp [e, Value.ownBlock] at he
    · simp only [e, if_false] at hj he
      exact .inl (.inr ⟨j, hj, he⟩)

theorem Evo.write {P : Program} {Z : GTab} {B : Nat} {fr : List SV} {σ : List Blk} {g : G} {q : Gh} {a : Act} (_hI : Inv P Z B fr σ g q a) {id : Nat} {b b2 : Blk} (hb : σ[id]? = some b) (hz : b2.sz = b.sz)
    (vs : List Value) (hle : g.le ⟨g.w.setRow (q.ρ id) ⟨vs⟩, g.S⟩) : Evo g σ q ⟨g.w.setRow (q.ρ id) ⟨vs⟩, g.S⟩ (σ.set id b2) q := by
  have hid := lt_of_some hb
  refine ⟨hle, rfl, rfl, rfl, by simp, ?_, ?_, ?_, by simp⟩
  · intro x _ hn
    exact ⟨setRow_other _ _ _ _ (fun e => hn (.inl ⟨id, hid, e.symm⟩)), fun _ => Iff.rfl⟩
  · rintro x (⟨j, hj, rfl⟩ | h)
    · simp only [List.length_set] at hj
      exact .inl (.inl ⟨j, hj, rfl⟩)
    · exact .inl (.inr h)
  · intro j c hj
    by_cases e : j = id
    · subst e
      rw [hb] at hj
      obtain rfl : b = c := by simpa using hj
      exact ⟨_, List.getElem?_set_self hid, hz, rfl⟩
    · exact ⟨c, by rw [List.getElem?_set_ne (fun h => e h.symm)]; exact hj, rfl, rfl⟩
end Go.Vm
