/- Code in rows, walked by rules. -/
import Derived.Test.YtglnokfcjnnepaaDoorBVmHq
namespace Go.Vm
open Go Go.RowKit

inductive It where
  | c (x : Code)
  | b (id : Nat)
variable {C : Cx} {al : AL} {σ : List Blk} {Q : PQ} {k : List It} {x y : Code}
/-- What goes on behind some code, by how it ended. -/
def KQ (C : Cx) : List It → PQ → PQ
  | [], Q => Q
  | .c y :: k, Q => fun ex al σ => match ex with
    | .normal => T C y al σ (KQ C k Q)
    | .exit id => KQ C k Q (.exit id) al σ
    | .ret => KQ C k Q .ret al σ
  | .b id :: k, Q => fun ex al σ => match ex with
    | .normal => KQ C k Q .normal al σ
    | .exit j => bif Nat.beq j id then KQ C k Q .normal al σ else KQ C k Q (.exit j) al σ
    | .ret => KQ C k Q .ret al σ
/-- A row of code, begun at a state. -/
def TS (C : Cx) (k : List It) (al : AL) (σ : List Blk) (Q : PQ) : Prop := KQ C k Q .normal al σ
theorem T_mono {Q' : PQ} (h : T C x al σ Q') (hq : ∀ ex al σ, Q' ex al σ → Q ex al σ) : T C x al σ Q := fun g q a hI hE => by
  refine wp_mono (h g q a hI hE) ?_
  rintro e a' w ⟨g', q', ex, al', σ', h1, h2, h3, h4, h5⟩
  exact ⟨g', q', ex, al', σ', h1, h2, h3, h4, hq _ _ _ h5⟩
theorem TS_seq (h : TS C (.c x :: .c y :: k) al σ Q) : TS C (.c (.seq x y) :: k) al σ Q := by
  refine T_seq (T_mono (show T C x al σ (KQ C (.c y :: k) Q) from h) ?_)
  intro ex al σ hq
  cases ex <;> exact hq
theorem TS_block {id : Nat} (h : TS C (.c x :: .b id :: k) al σ Q) : TS C (.c (.block id x) :: k) al σ Q := by
  refine T_block (T_mono (show T C x al σ (KQ C (.b id :: k) Q) from h) ?_)
  intro ex al σ hq
  cases ex <;> exact hq
theorem TS_b {id : Nat} (h : TS C k al σ Q) : TS C (.b id :: k) al σ Q := h
theorem TS_skip (h : TS C k al σ Q) : TS C (.c .skip :: k) al σ Q := T_skip h
theorem TS_label {l : Nat} (h : TS C k al σ Q) : TS C (.c (.label l) :: k) al σ Q := T_label h
theorem TS_scope (h : TS C (.c x :: k) al σ Q) : TS C (.c (.scope x) :: k) al σ Q := T_scope h
theorem TS_nil (h : Q .normal al σ) : TS C [] al σ Q := h
/-- The row is left by an exit. -/
def UX (C : Cx) (id : Nat) (k : List It) (al : AL) (σ : List Blk) (Q : PQ) : Prop := KQ C k Q (.exit id) al σ
theorem TS_exit {id : Nat} (h : UX C id k al σ Q) : TS C (.c (.exit id) :: k) al σ Q := T_exit h
theorem UX_c {id : Nat} (h : UX C id k al σ Q) : UX C id (.c y :: k) al σ Q := h
theorem UX_eq {id : Nat} (h : TS C k al σ Q) : UX C id (.b id :: k) al σ Q := by
  show (bif Nat.beq id id then _ else _)
  rw [Nat.beq_refl]; exact h
theorem UX_ne {id j : Nat} (hj : Nat.beq id j = false) (h : UX C id k al σ Q) : UX C id (.b j :: k) al σ Q := by
  show (bif Nat.beq id j then _ else _)
  rw [hj]; exact h
theorem UX_up {id : Nat} {N : AL → List Blk → Prop} (h : UX C id k al σ Q) : UX C id [] al σ (thenQ N (KQ C k Q)) := h
/-- The function returns. -/
theorem KQ_ret : ∀ {k : List It}, Q .ret al σ → KQ C k Q .ret al σ
  | [], h => h
  | .c _ :: k, h => KQ_ret (k := k) h
  | .b _ :: k, h => KQ_ret (k := k) h
theorem TS_ret (h : Q .ret al σ) : TS C (.c .ret :: k) al σ Q := T_ret (KQ_ret h)
theorem ret_up {N : AL → List Blk → Prop} (h : Q .ret al σ) : (thenQ N (KQ C k Q)) .ret al σ := KQ_ret (k := k) h
theorem TS_true {c : Operand} {b : Bool} (hc : opA C.Z C.N al c = some (.d (tb b))) (hb : b = true) (h : TS C (.c x :: k) al σ Q) : TS C (.c (.cond c x y) :: k) al σ Q := T_true hc hb h
theorem TS_false {c : Operand} {b : Bool} (hc : opA C.Z C.N al c = some (.d (tb b))) (hb : b = false) (h : TS C (.c y :: k) al σ Q) : TS C (.c (.cond c x y) :: k) al σ Q := T_false hc hb h
theorem TS_region {id : Nat} {ops : Array Oper} (h : TO C ops ops.toList al σ fun al' σ' => TS C k al' σ' Q) : TS C (.c (.region id ops false) :: k) al σ Q := T_region h
theorem TS_draw {id : Nat} {ops : Array Oper} {E : Env} (hE : EnvOk C.P C.Z E) (hm : C.P.follows .mixedOrders = true) (h1 : drawOk ops = true)
    (h : TD C E ops ops.toList al σ [] fun al' σ' ft => confOk (ancs ops.toList) ft = true ∧ TS C k al' σ' Q) : TS C (.c (.region id ops true) :: k) al σ Q := T_draw hE hm h1 h
/-- Where a row ends, less serves. -/
def Mono (C : Cx) (Q : PQ) : Prop := ∀ al' σ' al σ, Q .normal al' σ' → Less C al' σ' al σ → Q .normal al σ
def hasC : List It → Bool
  | [] => false
  | .c _ :: _ => true
  | .b _ :: k => hasC k
theorem TS_less : ∀ {k : List It} {al' : AL} {σ' : List Blk}, hasC k = true ∨ Mono C Q → TS C k al' σ' Q → Less C al' σ' al σ → TS C k al σ Q
  | .c y :: k, _, _, _, h, hl => T_less h hl
  | .b id :: k, _, _, hk, h, hl => TS_less (k := k) hk h hl
  | [], _, _, hk, h, hl => by
    rcases hk with hk | hk
    · cases hk
    · exact hk _ _ _ _ h hl
theorem Mono_join {α : Type} {mk : α → AL} {sg : α → List Blk} {J : α → Prop} {R : PQ} : Mono C (thenQ (fun al' σ' => ∃ a, J a ∧ Less C (mk a) (sg a) al' σ') R) :=
  fun _ _ _ _ ⟨a, h1, h2⟩ hl => ⟨a, h1, h2.trans hl⟩
theorem TS_join {α : Type} (mk : α → AL) (sg : α → List Blk) (v : α) (hk : hasC k = true ∨ Mono C Q) (hy : TS C k (mk v) (sg v) Q)
    (hx : TS C [.c x] al σ (thenQ (fun al' σ' => ∃ a, a = v ∧ Less C (mk a) (sg a) al' σ') (KQ C k Q))) : TS C (.c x :: k) al σ Q := by
  refine T_mono (show T C x al σ (KQ C [] (thenQ (fun al' σ' => ∃ a, a = v ∧ Less C (mk a) (sg a) al' σ') (KQ C k Q))) from hx) ?_
  intro ex al' σ' h
  cases ex with
  | normal => obtain ⟨a, rfl, hl⟩ := h; exact TS_less hk hy hl
  | exit id => exact h
  | ret => exact h
/-- A loop, by the function that tells its rounds. -/
theorem TS_loop {α O : Type} (L : Nat → α → Option O) (mk : α → AL) (sg : α → List Blk) (out : O) {n : Nat} {a0 : α} (h : L n a0 = some out) (hl : Less C (mk a0) (sg a0) al σ) (h0 : ∀ a, L 0 a = none)
    (hs : ∀ n a, L (n + 1) a = some out → TS C [.c x] (mk a) (sg a) (thenQ (fun al' σ' => ∃ a', L n a' = some out ∧ Less C (mk a') (sg a') al' σ') (KQ C k Q))) : TS C (.c (.loop x) :: k) al σ Q := by
  refine T_loop n (TL_less (T_rounds (Q := KQ C k Q) L mk sg out h0 (fun n a h => ?_) n a0 h) hl)
  refine T_mono (show T C x (mk a) (sg a) (KQ C [] (thenQ (fun al' σ' => ∃ a', L n a' = some out ∧ Less C (mk a') (sg a') al' σ') (KQ C k Q))) from hs n a h) ?_
  intro ex al' σ' hq
  cases ex <;> exact hq
/-- An exit's way out of a row: behind its block there is code. -/
def okX (id : Nat) : List It → Bool
  | [] => false
  | .c _ :: k => okX id k
  | .b j :: k => bif Nat.beq id j then hasC k else okX id k
def fndX (id : Nat) : List It → Bool
  | [] => false
  | .c _ :: k => fndX id k
  | .b j :: k => bif Nat.beq id j then true else fndX id k
theorem UX_less {id : Nat} : ∀ {k : List It} {al' : AL} {σ' : List Blk}, okX id k = true ∨ (fndX id k = true ∧ Mono C Q) → UX C id k al' σ' Q → Less C al' σ' al σ → UX C id k al σ Q
  | .c y :: k, _, _, hk, h, hl => UX_less (k := k) hk h hl
  | .b j :: k, al', σ', hk, h, hl => by
    have h : (bif Nat.beq id j then KQ C k Q .normal al' σ' else KQ C k Q (.exit id) al' σ') := h
    show (bif Nat.beq id j then KQ C k Q .normal al σ else KQ C k Q (.exit id) al σ)
    simp only [okX, fndX] at hk
    cases hj : Nat.beq id j with
    | true =>
      rw [hj] at h hk
      refine TS_less (k := k) ?_ h hl
      rcases hk with hk | hk
      · exact .inl hk
      · exact .inr hk.2
    | false =>
      rw [hj] at h hk
      exact UX_less (k := k) hk h hl
  | [], _, _, hk, _, _ => by
    rcases hk with hk | hk
    · cases hk
    · cases hk.1
/-- What goes on behind an exit, told first. -/
theorem TS_cont {α : Type} {id : Nat} (J : α → Prop) (mk : α → AL) (sg : α → List Blk) (hy : ∀ v, J v → UX C id k (mk v) (sg v) Q)
    (hx : (∀ v, J v → UX C id k (mk v) (sg v) Q) → TS C (.c x :: k) al σ Q) : TS C (.c x :: k) al σ Q := hx hy
/-- The function's whole. -/
theorem pure_of_TS {P : Program} {Z : GTab} {f : FuncId} {fn : Func} {c : Code} (hf : P.funcs[f]? = some fn) (hc : fn.body = some c) {N : Nat} (hn : fn.ntmps = N) {ds : List D} {r : D} (hN : Nat.ble ds.length N = true)
    (h : ∀ B g0 q0, TS ⟨P, Z, N, B, g0, [], q0⟩ [.c c] (entryA 0 ds) [] (EndQ P N fn.results.toList r)) : PureC P Z f ds r := by
  subst hn
  exact pure_of_T hf hc hN h

/-! What operations on two values yield. -/
section
variable {P : Program} {t : TypeId} {x y : Operand} {k : IntKind} {a b : Int}
theorem b_add : bin2 P .add t x y (.d (.sc (.int k a))) (.d (.sc (.int k b))) = some (.sc (.int k (addI k a b))) := by rw [addI_eq]; exact i_add ..
theorem b_sub : bin2 P .sub t x y (.d (.sc (.int k a))) (.d (.sc (.int k b))) = some (.sc (.int k (subI k a b))) := by rw [subI_eq]; exact i_sub ..
theorem b_mul : bin2 P .mul t x y (.d (.sc (.int k a))) (.d (.sc (.int k b))) = some (.sc (.int k (mulI k a b))) := by rw [mulI_eq]; exact i_mul ..
theorem b_quo (hb : eqI b 0 = false) : bin2 P .quo t x y (.d (.sc (.int k a))) (.d (.sc (.int k b))) = some (.sc (.int k (quoI k a b))) := by
  rw [quoI_eq]
  refine i_quo _ _ _ _ _ _ _ ?_
  rw [eqI_eq] at hb
  simpa using hb
theorem b_rem (hb : eqI b 0 = false) : bin2 P .rem t x y (.d (.sc (.int k a))) (.d (.sc (.int k b))) = some (.sc (.int k (Int.tmod a b))) := by
  refine i_rem _ _ _ _ _ _ _ ?_
  rw [eqI_eq] at hb
  simpa using hb
theorem b_lss : bin2 P .lss t x y (.d (.sc (.int k a))) (.d (.sc (.int k b))) = some (tb (ltI a b)) := by rw [ltI_eq]; exact i_lss ..
theorem b_gtr : bin2 P .gtr t x y (.d (.sc (.int k a))) (.d (.sc (.int k b))) = some (tb (ltI b a)) := by rw [ltI_eq]; exact i_gtr ..
theorem b_leq : bin2 P .leq t x y (.d (.sc (.int k a))) (.d (.sc (.int k b))) = some (tb (leI a b)) := by rw [leI_eq]; exact i_leq ..
theorem b_geq : bin2 P .geq t x y (.d (.sc (.int k a))) (.d (.sc (.int k b))) = some (tb (leI b a)) := by rw [leI_eq]; exact i_geq ..
theorem b_eql : bin2 P .eql t x y (.d (.sc (.int k a))) (.d (.sc (.int k b))) = some (tb (eqI a b)) := by rw [eqI_eq]; exact i_eql ..
theorem b_neq : bin2 P .neq t x y (.d (.sc (.int k a))) (.d (.sc (.int k b))) = some (tb (!eqI a b)) := by rw [eqI_eq]; exact i_neq ..
variable {l m : List UInt8}
theorem bs_eql : bin2 P .eql t x y (.d (str l)) (.d (str m)) = some (tb (eqS l m)) := by rw [eqS_eq]; exact s_eql ..
theorem bs_neq : bin2 P .neq t x y (.d (str l)) (.d (str m)) = some (tb (!eqS l m)) := by rw [eqS_eq]; exact s_neq ..
theorem bs_lss : bin2 P .lss t x y (.d (str l)) (.d (str m)) = some (tb (ltS l m)) := s_lss ..
theorem bs_gtr : bin2 P .gtr t x y (.d (str l)) (.d (str m)) = some (tb (!(ltS l m || eqS l m))) := by rw [eqS_eq]; exact s_gtr ..
variable {p q : Bool}
theorem eval0_map' {α β : Type} (P : Program) (f : α → β) (x : Sem α) : eval0 P (f <$> x) = (eval0 P x).map f := by
  show eval0 P (x >>= fun a => pure (f a)) = _
  rw [eval0_bind]
  cases eval0 P x <;> rfl
theorem bb_eql (h : P.underlying t = some .bool) : bin2 P .eql t x y (.d (tb p)) (.d (tb q)) = some (tb (p == q)) := by
  have h1 : eval0 P (Op.equal t (.bool p) (.bool q)) = some (p == q) := by
    unfold Op.equal Op.equalIn
    have hd : Op.maxDepth = 9999 + 1 := rfl
    rw [hd]
    simp only [eval0_bind, eval0_underlying h, Option.bind_some]
    rfl
  unfold bin2 nilCmp nonNil flat2 valOf
  simp [eval0_bind, eval0_pure, eval0_map', eqGuard, binOp, h1, ofVF]
theorem bb_neq (h : P.underlying t = some .bool) : bin2 P .neq t x y (.d (tb p)) (.d (tb q)) = some (tb (p != q)) := by
  have h1 : eval0 P (Op.equal t (.bool p) (.bool q)) = some (p == q) := by
    unfold Op.equal Op.equalIn
    have hd : Op.maxDepth = 9999 + 1 := rfl
    rw [hd]
    simp only [eval0_bind, eval0_underlying h, Option.bind_some]
    rfl
  unfold bin2 nilCmp nonNil flat2 valOf
  simp [eval0_bind, eval0_pure, eval0_map', eqGuard, binOp, h1, ofVF]
  cases p <;> cases q <;> rfl
theorem u_conv {s t : TypeId} {k k' : IntKind} {a : Int} {d : TypeDesc} (hs : P.underlying s = some d) (ht : P.underlying t = some (.int k')) : flat1 P (convert s t) (.d (.sc (.int k a))) = some (.sc (.int k' (wr k' a))) := by
  rw [wr_eq]; exact flat1_int hs ht
theorem u_not : flat1 P (Op.unary .not) (.d (tb p)) = some (tb (!p)) := flat1_not ..
end
/-- A step whose target is told. -/
theorem S_to {C : Cx} {o : Oper} {al : AL} {σ : List Blk} {d : Nat} {v : SV} (hd : o.dst = some d) (hp : plainOp o.op = true) (hv : ValA C o al σ v) : StepA C o al σ ((d, v) :: al) σ := by
  have := S_V hp hv
  rwa [hd] at this
theorem S_st {C : Cx} {o : Oper} {al al1 : AL} {σ σ1 : List Blk} {v : SV} (h : StepA C o al σ (putA o.dst v al1) σ1) {al2 : AL} (hd : putA o.dst v al1 = al2) {σ2 : List Blk} (hs : σ1 = σ2) : StepA C o al σ al2 σ2 := by
  subst hd hs; exact h
end Go.Vm
