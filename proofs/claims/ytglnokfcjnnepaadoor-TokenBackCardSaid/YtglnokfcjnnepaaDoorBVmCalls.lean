/- Calls of Go functions: by data alone, or with the caller's blocks. -/
import Derived.Test.YtglnokfcjnnepaaDoorBVmExec
namespace Go.Vm
open Go Go.RowKit

def Gh.only (q : Gh) (L : List Nat) : Gh := { q with γ := fun k => if k ∈ L then q.γ k else none }

mutual
theorem SR.only {g : G} {σ : List Blk} {q q' : Gh} {L : List Nat} (hρ : ∀ id, q'.ρ id = q.ρ id) (hγ : ∀ k, k ∈ L → q'.γ k = q.γ k ∧ q'.τ k = q.τ k) : (x : SV) → (v : Value) → (∀ k ∈ tagsOf x, k ∈ L) → SR g σ q x v → SR g σ q' x v
  | .d x, v, _, h => h
  | .gl k T rows, v, hk, ⟨h, hj⟩ => by
    obtain ⟨k1, k2⟩ := hγ k (hk k (by simp [tagsOf]))
    exact ⟨by rw [k2]; exact h, by rw [k1]; exact hj⟩
  | .arr id off n, v, _, ⟨b, c, hb, hc, e⟩ => ⟨b, c, hb, hc, by rw [hρ]; exact e⟩
  | .ptr id i off, v, _, ⟨b, hb, e⟩ => ⟨b, hb, by rw [hρ]; exact e⟩
  | .rp rows i off, v, _, h => h
  | .clo f xs ys, v, hk, ⟨vs, us, h1, h2, e⟩ =>
    ⟨vs, us, SRL.only hρ hγ xs vs (fun k h => hk k (by simp [tagsOf, h])) h1, SRL.only hρ hγ ys us (fun k h => hk k (by simp [tagsOf, h])) h2, e⟩
  | .tupr xs, v, hk, ⟨vs, h1, e⟩ => ⟨vs, SRL.only hρ hγ xs vs (fun k h => hk k (by simp [tagsOf, h])) h1, e⟩
  | .any, _, _, _ => trivial
theorem SRL.only {g : G} {σ : List Blk} {q q' : Gh} {L : List Nat} (hρ : ∀ id, q'.ρ id = q.ρ id) (hγ : ∀ k, k ∈ L → q'.γ k = q.γ k ∧ q'.τ k = q.τ k) : (xs : List SV) → (vs : List Value) → (∀ k ∈ tagsL xs, k ∈ L) → SRL g σ q xs vs → SRL g σ q' xs vs
  | [], _, _, h => h
  | x :: xs, _, hk, ⟨v, us, h1, h2, e⟩ => ⟨v, us, SR.only hρ hγ x v (fun k h => hk k (by simp [tagsL, h])) h1, SRL.only hρ hγ xs us (fun k h => hk k (by simp [tagsL, h])) h2, e⟩
end

theorem tagsB_mem {σ : List Blk} {id : Nat} {T : TypeId} {cells : List SV} (h : σ[id]? = some (.box T cells)) : ∀ k ∈ tagsL cells, k ∈ tagsB σ := by
  induction σ generalizing id with
  | nil => simp at h
  | cons b σ ih =>
    intro k hk
    cases id with
    | zero =>
      simp only [List.getElem?_cons_zero, Option.some.injEq] at h
      subst h
      simp [tagsB, hk]
    | succ id =>
      have := ih (by simpa using h) k hk
      cases b <;> simp [tagsB, this]

/-- Other slots over the same blocks: only what is still named is told. -/
theorem Inv.only {P : Program} {Z : GTab} {B : Nat} {fr fr' : List SV} {σ : List Blk} {g : G} {q : Gh} {a a' : Act} (hI : Inv P Z B fr σ g q a) (L : List Nat) (ha : a'.defers = [])
    (hs : SRL g σ q fr' a'.tmps.toList) (h1 : ∀ k ∈ tagsL fr', k ∈ L) (h2 : ∀ k ∈ tagsB σ, k ∈ L) : Inv P Z B fr' σ g (q.only L) a' := by
  have hγ : ∀ k, k ∈ L → (q.only L).γ k = q.γ k ∧ (q.only L).τ k = q.τ k := fun k h => ⟨by simp [Gh.only, h], rfl⟩
  refine { defers := ha, slot := SRL.only (q := q) (q' := q.only L) (fun _ => rfl) hγ _ _ h1 hs, box := ?_, inj := hI.inj, tag := ?_, apart := ?_, base := hI.base, dom := hI.dom, glob := hI.glob }
  · intro id b hb
    obtain ⟨vs, k1, k2, k4, k5, k6⟩ := hI.box id b hb
    refine ⟨vs, k1, ?_, k4, k5, k6⟩
    cases b with
    | arr T sz rows => exact k2
    | box T cells => exact SRL.only (q := q) (q' := q.only L) (fun _ => rfl) hγ _ _ (fun k hk => h2 k (tagsB_mem hb k hk)) k2
  · intro k T rows hk
    simp only [Gh.only] at hk
    split at hk
    · exact hI.tag k T rows hk
    · cases hk
  · intro i j hij hi hj
    simp only [Gh.only] at hi hj
    split at hi <;> split at hj
    · exact hI.apart i j hij hi hj
    · exact absurd rfl hj
    · exact absurd rfl hi
    · exact absurd rfl hi

theorem own_only {σ : List Blk} {q : Gh} {L : List Nat} {b : Nat} (h : Own σ (q.only L) b) : Own σ q b := by
  rcases h with h | ⟨k, hk, he⟩
  · exact .inl h
  · simp only [Gh.only] at hk
    split at hk
    · exact .inr ⟨k, hk, he⟩
    · exact absurd rfl hk

/-- Only new memory: all else stays. -/
theorem Inv.grow {P : Program} {Z : GTab} {B : Nat} {fr : List SV} {σ : List Blk} {g : G} {q : Gh} {a : Act} (hI : Inv P Z B fr σ g q a) {w' : World} (hb : Below g.w.heap.size g.w w') :
    let g1 : G := ⟨w', fun b o => g.S b o ∨ (g.w.heap.size ≤ b ∧ b < w'.heap.size)⟩
    Inv P Z B fr σ g1 q a ∧ Evo g σ q g1 σ q := by
  intro g1
  have hS : ∀ b, b < g.w.heap.size → ∀ o, g1.S b o ↔ g.S b o := fun b hb o => ⟨fun h => h.elim id (fun h => by omega), .inl⟩
  have hg : g.le g1 := ⟨fun b o v hs hc => by
    show w'.cell? _ = _
    rw [World.cell?_of_block (w := g.w) (hb.block b (hI.dom b o hs))]; exact hc, fun _ _ h => .inl h⟩
  have hσ : Same σ σ q q := fun _ b h => ⟨b, h, rfl, rfl⟩
  have hγ : ∀ k x, q.γ k = some x → q.γ k = some x ∧ q.τ k = q.τ k := fun k x h => ⟨h, rfl⟩
  refine ⟨{ defers := hI.defers, slot := SRL.mono hg hσ hγ _ _ hI.slot, box := ?_, inj := hI.inj, tag := ?_, apart := hI.apart, base := Nat.le_trans hI.base hb.size, dom := ?_, glob := hI.glob.mono hg },
    hg, hb.os, hb.tape, hb.output, hb.size, fun b hlt _ => ⟨hb.block b hlt, hS b hlt⟩, fun _ h => .inl h, hσ, Nat.le_refl _⟩
  · intro id b hbx
    obtain ⟨vs, k1, k2, k4, k5, k6⟩ := hI.box id b hbx
    have hlt := (Array.getElem?_eq_some_iff.1 k1).1
    exact ⟨vs, by rw [show g1.w = w' from rfl, hb.block _ hlt]; exact k1, BR.mono hg hσ hγ k2, k4, k5, fun o h => k6 o ((hS _ hlt o).1 h)⟩
  · intro k T rows hk
    have ht := hI.tag k T rows hk
    refine ht.mono hg (fun b hbx => hb.block b (ht.lt b hbx).2) (fun b hbx => hS b (ht.lt b hbx).2) ?_
    intro b hbx id hid
    obtain ⟨_, _, _, _, _, hkk⟩ := ht
    exact (hkk b hbx).2 id hid
  · intro b o hs
    rcases hs with hs | hs
    · exact Nat.lt_of_lt_of_le (hI.dom b o hs) hb.size
    · exact hs.2

/-- A function that is handed data yields a datum, and makes new memory alone. -/
def PureC (P : Program) (Z : GTab) (f : FuncId) (ds : List D) (r : D) : Prop :=
  ∀ (g : G) (vs : List Value), (∀ b o, g.S b o → b < g.w.heap.size) → GOk Z g → CRL g ds vs →
    Calls P f ⟨vs⟩ g.w fun e w' => ∃ v, e = .returned v ∧ Below g.w.heap.size g.w w' ∧ CR ⟨w', fun b o => g.S b o ∨ (g.w.heap.size ≤ b ∧ b < w'.heap.size)⟩ r v

/-- A function without a body that is handed data yields a datum, and leaves the world. -/
def PureX (P : Program) (f : FuncId) (ds : List D) (r : D) : Prop :=
  ∀ (g : G) (vs : List Value), CRL g ds vs → ∃ v, (callFunc f ⟨vs⟩).run P g.w = .ok (.value v) g.w ∧ CR g r v

/-- A function that is handed blocks, too. -/
def SharedC (P : Program) (Z : GTab) (f : FuncId) (args : List SV) (σ : List Blk) (r : SV) (σ' : List Blk) : Prop :=
  ∀ (B : Nat) (g : G) (q : Gh) (vs : List Value), Inv P Z B args σ g q ⟨⟨vs⟩, []⟩ → (∀ k, q.γ k ≠ none → k ∈ tagsB σ) →
    Calls P f ⟨vs⟩ g.w fun e w' => ∃ v g' q', e = .returned v ∧ g'.w = w' ∧ Inv P Z B [r] σ' g' q' ⟨#[v], []⟩ ∧ Evo g σ q g' σ' q' ∧ (∀ k, q'.γ k ≠ none → k ∈ tagsB σ')

/-- All that the environment says is so. -/
structure EnvOk (P : Program) (Z : GTab) (E : Env) : Prop where
  D : ∀ f ds r, E.D f ds = some r → ((P.funcs[f]?).any fun fn => fn.body.isSome && fn.name != "runtime.NumGoroutine") = true → PureC P Z f ds r
  X : ∀ f ds r, E.X f ds = some r → ((P.funcs[f]?).any fun fn => fn.body.isSome && fn.name != "runtime.NumGoroutine") = false → PureX P f ds r
  S : ∀ f args σ r σ', E.S f args σ = some (r, σ') → ((P.funcs[f]?).any fun fn => fn.body.isSome && fn.name != "runtime.NumGoroutine") = true → tagsL args = [] → SharedC P Z f args σ r σ' ∧ tagsOf r = []

/-- What a step comes to, whatever it does. -/
def StepW (P : Program) (Z : GTab) (B : Nat) (fr' : List SV) (σ' : List Blk) (g : G) (σ : List Blk) (q : Gh) (o : Oper) (a : Act) : Prop :=
  ∀ (K : Act → World → Prop) (Q : Exit → Act → World → Prop), (∀ a' g' q', Inv P Z B fr' σ' g' q' a' → Evo g σ q g' σ' q' → K a' g'.w) → o.wp P a g.w K Q

theorem Steps1.toW {P : Program} {Z : GTab} {B : Nat} {fr' : List SV} {σ σ' : List Blk} {g : G} {q : Gh} {o : Oper} {a : Act} (h : Steps1 P Z B fr' σ' g σ q o a) : StepW P Z B fr' σ' g σ q o a := by
  obtain ⟨a', g', q', h1, h2, h3⟩ := h
  exact fun K Q hK => h1 K Q (hK a' g' q' h2 h3)

theorem run_callFunc {P : Program} {f : FuncId} (h : ((P.funcs[f]?).any fun fn => fn.body.isSome && fn.name != "runtime.NumGoroutine") = true) (args : Array Value) (w : World) :
    (callFunc f args).run P w = .ok (.enter f args) w := by
  cases hf : P.funcs[f]? with
  | none => simp [hf] at h
  | some fn =>
    simp only [hf, Option.any_some, Bool.and_eq_true, bne_iff_ne, ne_eq] at h
    obtain ⟨h1, h2⟩ := h
    obtain ⟨c, hc⟩ := Option.isSome_iff_exists.1 h1
    simp [callFunc, hf, h2, hc]

theorem tagsL_append (a b : List SV) : tagsL (a ++ b) = tagsL a ++ tagsL b := by
  induction a with
  | nil => rfl
  | cons x a ih => simp [tagsL, ih]
theorem tagsL_d (ds : List D) : tagsL (ds.map .d) = [] := by
  induction ds with
  | nil => rfl
  | cons x a ih => simp [tagsL, tagsOf, ih]

mutual
theorem demote_tags (k : Nat) : (x : SV) → ∀ j ∈ tagsOf (demote k x), j ∈ tagsOf x ∧ j ≠ k
  | .gl i T rows, j, h => by
    by_cases e : i = k
    · simp [demote, e, tagsOf] at h
    · simp only [demote, e, if_false, tagsOf, List.mem_cons, List.not_mem_nil, or_false] at h ⊢
      subst h
      exact ⟨rfl, e⟩
  | .clo f a b, j, h => by
    simp only [demote, tagsOf, List.mem_append] at h ⊢
    rcases h with h | h
    · exact ⟨.inl (demoteL_tags k a j h).1, (demoteL_tags k a j h).2⟩
    · exact ⟨.inr (demoteL_tags k b j h).1, (demoteL_tags k b j h).2⟩
  | .tupr xs, j, h => by
    simp only [demote, tagsOf] at h ⊢
    exact demoteL_tags k xs j h
  | .d x, j, h | .arr id off n, j, h | .ptr id i off, j, h | .rp rows i off, j, h | .any, j, h => by simp [demote, tagsOf] at h
theorem demoteL_tags (k : Nat) : (xs : List SV) → ∀ j ∈ tagsL (demoteL k xs), j ∈ tagsL xs ∧ j ≠ k
  | [], j, h => by simp [demoteL, tagsL] at h
  | x :: xs, j, h => by
    simp only [demoteL, tagsL, List.mem_append] at h ⊢
    rcases h with h | h
    · exact ⟨.inl (demote_tags k x j h).1, (demote_tags k x j h).2⟩
    · exact ⟨.inr (demoteL_tags k xs j h).1, (demoteL_tags k xs j h).2⟩
end

theorem sweep_tags : ∀ (ks : List Nat) (fr : List SV), ∀ j ∈ tagsL (sweep ks fr), j ∈ tagsL fr ∧ j ∉ ks
  | [], fr, j, h => ⟨h, by simp⟩
  | k :: ks, fr, j, h => by
    obtain ⟨h1, h2⟩ := sweep_tags ks (demoteL k fr) j h
    obtain ⟨h3, h4⟩ := demoteL_tags k fr j h1
    exact ⟨h3, by simp [h4, h2]⟩

theorem sweep_sound {g : G} {σ : List Blk} {q : Gh} (hcrr : ∀ k T rows, q.γ k = some (T, rows) → CR g (.sl rows) (q.τ k)) :
    ∀ (ks : List Nat) (fr : List SV) (vs : List Value), SRL g σ q fr vs → SRL g σ q (sweep ks fr) vs
  | [], _, _, h => h
  | k :: ks, fr, vs, h => sweep_sound hcrr ks (demoteL k fr) vs (SRL.demote (G.le.refl g) k (hcrr k) (fun _ b h => ⟨b, h, rfl, rfl⟩) (fun _ _ _ h => ⟨h, rfl⟩) fr vs h)

mutual
theorem SR.move {g g' : G} {σ σ' : List Blk} {q q' : Gh} (hg : g.le g') (hσ : Same σ σ' q q') : (x : SV) → (v : Value) →
    (∀ k ∈ tagsOf x, q'.γ k = q.γ k ∧ q'.τ k = q.τ k) → SR g σ q x v → SR g' σ' q' x v
  | .d x, v, _, h => CR.mono hg h
  | .gl k T rows, v, hk, ⟨h, hj⟩ => by
    obtain ⟨k1, k2⟩ := hk k (by simp [tagsOf])
    exact ⟨by rw [k2]; exact h, by rw [k1]; exact hj⟩
  | .arr id off n, v, _, ⟨b, c, hb, hc, e⟩ => by
    obtain ⟨b', h1, h2, h3⟩ := hσ id b hb
    exact ⟨b', c, h1, hc, by rw [h2, h3]; exact e⟩
  | .ptr id i off, v, _, ⟨b, hb, e⟩ => by
    obtain ⟨b', h1, h2, h3⟩ := hσ id b hb
    exact ⟨b', h1, by rw [h2, h3]; exact e⟩
  | .rp rows i off, v, _, ⟨b, o, sz, hc, e⟩ => ⟨b, o, sz, CRR.mono hg hc, e⟩
  | .clo f xs ys, v, hk, ⟨vs, us, h1, h2, e⟩ =>
    ⟨vs, us, SRL.move hg hσ xs vs (fun k h => hk k (by simp [tagsOf, h])) h1, SRL.move hg hσ ys us (fun k h => hk k (by simp [tagsOf, h])) h2, e⟩
  | .tupr xs, v, hk, ⟨vs, h1, e⟩ => ⟨vs, SRL.move hg hσ xs vs (fun k h => hk k (by simp [tagsOf, h])) h1, e⟩
  | .any, _, _, _ => trivial
theorem SRL.move {g g' : G} {σ σ' : List Blk} {q q' : Gh} (hg : g.le g') (hσ : Same σ σ' q q') : (xs : List SV) → (vs : List Value) →
    (∀ k ∈ tagsL xs, q'.γ k = q.γ k ∧ q'.τ k = q.τ k) → SRL g σ q xs vs → SRL g' σ' q' xs vs
  | [], _, _, h => h
  | x :: xs, _, hk, ⟨v, us, h1, h2, e⟩ => ⟨v, us, SR.move hg hσ x v (fun k h => hk k (by simp [tagsL, h])) h1, SRL.move hg hσ xs us (fun k h => hk k (by simp [tagsL, h])) h2, e⟩
end

/-- Behind a call that was handed blocks: the caller's lists that the blocks don't name are as they were. -/
theorem Inv.back {P : Program} {Z : GTab} {B : Nat} {fr : List SV} {σ σ' : List Blk} {g g' : G} {q q' : Gh} {a : Act} {r : SV} {v : Value} (hI : Inv P Z B fr σ g q a)
    (hJ : Inv P Z B [r] σ' g' q' ⟨#[v], []⟩) (he : Evo g σ (q.only (tagsB σ)) g' σ' q') (hr : tagsOf r = []) :
    ∃ q2, Inv P Z B (sweep (tagsB σ ++ tagsB σ') fr) σ' g' q2 a ∧ Evo g σ q g' σ' q2 ∧ SR g' σ' q2 r v := by
  let q2 : Gh := { ρ := q'.ρ, τ := fun k => if k ∈ tagsB σ' then q'.τ k else q.τ k, γ := fun k => if k ∈ tagsB σ' then q'.γ k else if k ∈ tagsB σ then none else q.γ k }
  have hsame : Same σ σ' q q2 := fun id b h => he.same id b h
  have hin : ∀ k, k ∈ tagsB σ' → q2.γ k = q'.γ k ∧ q2.τ k = q'.τ k := fun k h => ⟨by simp [q2, h], by simp [q2, h]⟩
  have hout : ∀ k, k ∉ tagsB σ' → k ∉ tagsB σ → q2.γ k = q.γ k ∧ q2.τ k = q.τ k := fun k h h' => ⟨by simp [q2, h, h'], by simp [q2, h]⟩
  -- a tag of the caller's own: its block is none that the callee could write
  have hfar : ∀ k, k ∉ tagsB σ → q.γ k ≠ none → ∀ b, (q.τ k).ownBlock = some b → ¬ Own σ (q.only (tagsB σ)) b := by
    rintro k hk hγ b hb (⟨id, hid, rfl⟩ | ⟨j, hj, hjb⟩)
    · obtain ⟨⟨T, rows⟩, hx⟩ := Option.ne_none_iff_exists'.1 hγ
      obtain ⟨_, _, _, _, _, hkk⟩ := hI.tag k T rows hx
      exact (hkk _ hb).2 id hid rfl
    · simp only [Gh.only] at hj hjb
      split at hj
      · rename_i hjm
        have hne : k ≠ j := fun e => hk (e ▸ hjm)
        rcases hI.apart k j hne hγ hj with h | h
        · rw [hb] at h; cases h
        · exact h (hb.trans hjb.symm)
      · exact absurd rfl hj
  refine ⟨q2, { defers := hI.defers, slot := ?_, box := ?_, inj := hJ.inj, tag := ?_, apart := ?_, base := hJ.base, dom := hJ.dom, glob := hJ.glob }, ?_, ?_⟩
  · have hs := sweep_sound (fun k => hI.crr k) (tagsB σ ++ tagsB σ') fr _ hI.slot
    refine SRL.move he.le hsame _ _ (fun k hk => ?_) hs
    obtain ⟨_, h2⟩ := sweep_tags _ _ k hk
    simp only [List.mem_append, not_or] at h2
    exact hout k h2.2 h2.1
  · intro id b hb
    obtain ⟨vs, k1, k2, k4, k5, k6⟩ := hJ.box id b hb
    refine ⟨vs, k1, ?_, k4, k5, k6⟩
    cases b with
    | arr T sz rows => exact k2
    | box T cells => exact SRL.only (q := q') (q' := q2) (fun _ => rfl) hin _ _ (fun k hk => tagsB_mem hb k hk) k2
  · intro k T rows hk
    by_cases h1 : k ∈ tagsB σ'
    · rw [(hin k h1).1] at hk
      rw [(hin k h1).2]
      exact hJ.tag k T rows hk
    · by_cases h2 : k ∈ tagsB σ
      · simp [q2, h1, h2] at hk
      · rw [(hout k h1 h2).1] at hk
        rw [(hout k h1 h2).2]
        have ht := hI.tag k T rows hk
        have hγ : q.γ k ≠ none := by rw [hk]; simp
        refine ht.mono he.le (fun b hb => (he.kept b (ht.lt b hb).2 (hfar k h2 hγ b hb)).1) (fun b hb => (he.kept b (ht.lt b hb).2 (hfar k h2 hγ b hb)).2) ?_
        intro b hb id hid e
        rcases he.own b (.inl ⟨id, hid, e⟩) with ho | hl
        · exact hfar k h2 hγ b hb ho
        · have := (ht.lt b hb).2; omega
  · -- tags lie apart
    have hmix : ∀ i j, i ∈ tagsB σ' → q2.γ i ≠ none → j ∉ tagsB σ' → q2.γ j ≠ none → (q2.τ i).ownBlock = none ∨ (q2.τ i).ownBlock ≠ (q2.τ j).ownBlock := by
      intro i j hi hiγ hj hjγ
      have hjn : j ∉ tagsB σ := fun h => by simp [q2, hj, h] at hjγ
      rw [(hin i hi).1] at hiγ
      rw [(hout j hj hjn).1] at hjγ
      rw [(hin i hi).2, (hout j hj hjn).2]
      cases hb : (q'.τ i).ownBlock with
      | none => exact .inl rfl
      | some b =>
        refine .inr (fun e => ?_)
        obtain ⟨⟨T, rows⟩, hx⟩ := Option.ne_none_iff_exists'.1 hjγ
        have hlt := ((hI.tag j T rows hx).lt b e.symm).2
        rcases he.own b (.inr ⟨i, hiγ, hb⟩) with ho | hl
        · exact hfar j hjn hjγ b e.symm ho
        · omega
    intro i j hij hi hj
    by_cases h1 : i ∈ tagsB σ' <;> by_cases h2 : j ∈ tagsB σ'
    · rw [(hin i h1).1] at hi
      rw [(hin j h2).1] at hj
      rw [(hin i h1).2, (hin j h2).2]
      exact hJ.apart i j hij hi hj
    · exact hmix i j h1 hi h2 hj
    · rcases hmix j i h2 hj h1 hi with h | h
      · cases hb : (q2.τ i).ownBlock with
        | none => exact .inl rfl
        | some b => exact .inr (by rw [h]; simp)
      · exact .inr (fun e => h e.symm)
    · have n1 : i ∉ tagsB σ := fun h => by simp [q2, h1, h] at hi
      have n2 : j ∉ tagsB σ := fun h => by simp [q2, h2, h] at hj
      rw [(hout i h1 n1).1] at hi
      rw [(hout j h2 n2).1] at hj
      rw [(hout i h1 n1).2, (hout j h2 n2).2]
      exact hI.apart i j hij hi hj
  · refine ⟨he.le, he.os, he.tape, he.output, he.size, fun b hb hn => he.kept b hb (fun ho => hn (own_only ho)), ?_, hsame, he.more⟩
    rintro b (⟨id, hid, e⟩ | ⟨k, hk, hkb⟩)
    · rcases he.own b (.inl ⟨id, hid, e⟩) with ho | hl
      · exact .inl (own_only ho)
      · exact .inr hl
    · by_cases h1 : k ∈ tagsB σ'
      · rw [(hin k h1).1] at hk
        rw [(hin k h1).2] at hkb
        rcases he.own b (.inr ⟨k, hk, hkb⟩) with ho | hl
        · exact .inl (own_only ho)
        · exact .inr hl
      · have n1 : k ∉ tagsB σ := fun h => by simp [q2, h1, h] at hk
        rw [(hout k h1 n1).1] at hk
        rw [(hout k h1 n1).2] at hkb
        exact .inl (.inr ⟨k, hk, hkb⟩)
  · obtain ⟨v0, us, h1, h2, e⟩ := hJ.slot
    simp only [List.cons.injEq] at e
    obtain ⟨rfl, _⟩ := e
    exact SR.only (q := q') (q' := q2) (L := []) (fun _ => rfl) (fun k h => by simp at h) r v (fun k hk => by rw [hr] at hk; exact hk) h1

theorem callOp_sound {P : Program} {Z : GTab} {E : Env} (hE : EnvOk P Z E) {B : Nat} {fr : List SV} {σ : List Blk} {g : G} {q : Gh} {a : Act} (hI : Inv P Z B fr σ g q a) {o : Oper} {r : List SV × List Blk}
    (h : callOp P Z E o fr σ = some r) : StepW P Z B r.1 r.2 g σ q o a := by
  unfold callOp at h
  split at h
  · rename_i f args ts ho
    split at h
    · rename_i fv vs hfv hvs
      have hargs := (opndL_srl hI hvs).2
      split at h
      · rename_i f' all hcal
        -- the callee, and what it is handed
        have hc : ∃ first cap, a.eval f = .func (.func f') ⟨first⟩ ⟨cap⟩ ∧ SRL g σ q all (first ++ args.toList.map a.eval ++ cap) := by
          have hf := opnd_sound hI hfv
          unfold calleeE at hcal
          split at hcal
          · rename_i f0 x y
            simp only [Option.some.injEq, Prod.mk.injEq] at hcal
            obtain ⟨rfl, rfl⟩ := hcal
            revert hf
            generalize a.eval f = u
            intro hf
            cases hf with
            | fn _ _ _ vs us h1 h2 => exact ⟨vs, us, rfl, (h1.toSRL.append hargs).append h2.toSRL⟩
          · rename_i f0 x y
            simp only [Option.some.injEq, Prod.mk.injEq] at hcal
            obtain ⟨rfl, rfl⟩ := hcal
            obtain ⟨vs, us, h1, h2, e⟩ := hf
            exact ⟨vs, us, e, (h1.append hargs).append h2⟩
          · cases hcal
        obtain ⟨first, cap, hfe, hall⟩ := hc
        have e1 : (⟨first⟩ : Array Value) ++ args.map a.eval ++ ⟨cap⟩ = ⟨first ++ args.toList.map a.eval ++ cap⟩ := by
          apply Array.toList_inj.1; simp
        split at h
        · rename_i hok
          have hrun : (execOp a.eval o).run P g.w = .ok (.enter f' ⟨first ++ args.toList.map a.eval ++ cap⟩) g.w := by
            unfold execOp
            rw [ho]
            simp only [resolve, hfe, Deferred.ofValue, Sem.run_bind, Sem.run_pure, Result.andThen_ok, invoke, e1, run_callFunc hok]
          split at h
          · rename_i ds hds
            split at h
            · rename_i res hres
              simp only [Option.some.injEq] at h
              subst h
              intro K Q hK
              unfold Oper.wp
              rw [hrun, Oper.upon_enter]
              refine (hE.D _ _ _ hres hok g _ hI.dom hI.glob (datumL_srl hI hall hds)).mono ?_
              rintro e w' ⟨v, rfl, hb, hc⟩
              obtain ⟨k1, k2⟩ := hI.grow hb
              exact hK _ _ _ (k1.put o.dst (x := .d res) hc) k2
            · cases h
          · split at h
            · rename_i htags
              have htags : tagsL all = [] := List.isEmpty_iff.1 htags
              split at h
              · rename_i res σ' hres
                simp only [Option.some.injEq] at h
                subst h
                obtain ⟨hsh, hrt⟩ := hE.S _ _ _ _ _ hres hok htags
                intro K Q hK
                unfold Oper.wp
                rw [hrun, Oper.upon_enter]
                have hI0 := hI.only (a' := ⟨⟨first ++ args.toList.map a.eval ++ cap⟩, []⟩) (fr' := all) (tagsB σ) rfl (by exact hall) (by rw [htags]; simp) (fun _ h => h)
                refine (hsh B g (q.only (tagsB σ)) _ hI0 (fun k hk => by simp only [Gh.only] at hk; split at hk <;> simp_all)).mono ?_
                rintro e w' ⟨v, g', q', rfl, rfl, hJ, he, _⟩
                obtain ⟨q2, k1, k2, k3⟩ := hI.back hJ he hrt
                exact hK _ _ _ (k1.put o.dst k3) k2
              · cases h
            · cases h
        · rename_i hok
          have hok : ((P.funcs[f']?).any fun fn => fn.body.isSome && fn.name != "runtime.NumGoroutine") = false := by simpa using hok
          split at h
          · rename_i ds hds
            split at h
            · rename_i res hres
              simp only [Option.some.injEq] at h
              subst h
              obtain ⟨v, hv, hc⟩ := hE.X _ _ _ hres hok g _ (datumL_srl hI hall hds)
              refine (steps1_val (v := v) ?_ (hI.put o.dst (x := .d res) hc) (Evo.refl g σ q) rfl).toW
              unfold execOp
              rw [ho]
              simp only [resolve, hfe, Deferred.ofValue, Sem.run_bind, Sem.run_pure, Result.andThen_ok, invoke, e1, hv]
            · cases h
          · cases h
      · cases h
    · cases h
  · cases h
end Go.Vm
