/- Code walked at states that are written out. -/
import Derived.Test.YtglnokfcjnnepaaDoorBVmW
namespace Go.Vm
open Go Go.RowKit

/-- What is known of the slots: the newest word first. -/
abbrev AL := List (Nat × SV)
def look : AL → Nat → SV
  | [], _ => .any
  | (k, v) :: l, n => bif Nat.beq k n then v else look l n
/-- The same, so that a look yields the word itself. -/
def lookO : AL → Nat → Option SV
  | [], _ => some .any
  | (k, v) :: l, n => bif Nat.beq k n then some v else lookO l n
theorem lookO_eq : ∀ (al : AL) (n : Nat), lookO al n = some (look al n)
  | [], _ => rfl
  | (k, v) :: l, n => by
    simp only [lookO, look, lookO_eq l n]
    cases Nat.beq k n <;> rfl
theorem blt_iff {a b : Nat} : Nat.blt a b = true ↔ a < b := by rw [Nat.blt_eq]
def mkFr (N : Nat) (al : AL) : List SV := (List.range N).map (look al)
theorem mkFr_get {N k : Nat} (al : AL) (h : k < N) : (mkFr N al)[k]? = some (look al k) := by
  unfold mkFr
  rw [List.getElem?_map, List.getElem?_range h]; rfl
theorem mkFr_none {N k : Nat} (al : AL) (h : ¬ k < N) : (mkFr N al)[k]? = none := by
  unfold mkFr
  rw [List.getElem?_map, List.getElem?_eq_none (by simpa using h)]; rfl
theorem mkFr_length (N : Nat) (al : AL) : (mkFr N al).length = N := by simp [mkFr]
theorem mkFr_set (N : Nat) (al : AL) (k : Nat) (v : SV) : (mkFr N al).set k v = mkFr N ((k, v) :: al) := by
  apply List.ext_getElem?
  intro i
  by_cases hi : i < N
  · rw [mkFr_get _ hi]
    by_cases e : k = i
    · subst e
      rw [List.getElem?_set_self (by rw [mkFr_length]; exact hi)]
      simp [look]
    · rw [List.getElem?_set_ne e, mkFr_get _ hi]
      have : Nat.beq k i = false := by
        cases h : Nat.beq k i with
        | false => rfl
        | true => exact absurd (Nat.eq_of_beq_eq_true h) e
      simp [look, this]
  · rw [mkFr_none _ hi, List.getElem?_eq_none (by rw [List.length_set, mkFr_length]; omega)]
def opA (Z : GTab) (N : Nat) (al : AL) : Operand → Option SV
  | .tmp t => bif Nat.blt t N then lookO al t else some (.d (.tup []))
  | .const v => (ofVF v).map .d
  | .func f => some (.d (.fn f [] []))
  | .global k => (Z k).map fun x => .rp x.2 0 0
theorem opnd_mk (Z : GTab) (N : Nat) (al : AL) (x : Operand) : opnd Z (mkFr N al) x = opA Z N al x := by
  cases x with
  | tmp t =>
    simp only [opnd, opA]
    by_cases h : t < N
    · have : Nat.blt t N = true := blt_iff.2 h
      rw [this, List.getD_eq_getElem?_getD, mkFr_get _ h, lookO_eq]; rfl
    · have : Nat.blt t N = false := by
        cases hb : Nat.blt t N with
        | false => rfl
        | true => exact absurd (blt_iff.1 hb) h
      rw [this, List.getD_eq_getElem?_getD, mkFr_none _ h]; rfl
  | const v => rfl
  | func f => rfl
  | global k => rfl
def putA (dst : Option Tmp) (x : SV) (al : AL) : AL := match dst with
  | some d => (d, x) :: al
  | none => al
theorem putF_mk (N : Nat) (al : AL) (dst : Option Tmp) (x : SV) : putF (mkFr N al) dst x = mkFr N (putA dst x al) := by
  cases dst with
  | none => rfl
  | some d => exact mkFr_set N al d x
def demA (k : Nat) (al : AL) : AL := al.map fun p => (p.1, demote k p.2)
theorem look_demA (k n : Nat) : ∀ al, look (demA k al) n = demote k (look al n)
  | [] => by simp [demA, look, demote]
  | (j, v) :: l => by
    have ih := look_demA k n l
    simp only [demA, List.map_cons, look]
    cases h : Nat.beq j n with
    | true => rfl
    | false => exact ih
theorem demoteL_eq (k : Nat) : ∀ xs : List SV, demoteL k xs = xs.map (demote k)
  | [] => rfl
  | x :: xs => by simp [demoteL, demoteL_eq k xs]
theorem demoteL_mk (k N : Nat) (al : AL) : demoteL k (mkFr N al) = mkFr N (demA k al) := by
  rw [demoteL_eq]
  unfold mkFr
  rw [List.map_map]
  apply List.map_congr_left
  intro n _
  exact (look_demA k n al).symm

/-- What a walk is about: the program, the frame's width, the state at the function's beginning. -/
structure Cx where
  P : Program
  Z : GTab
  N : Nat
  B : Nat
  g0 : G
  σ0 : List Blk
  q0 : Gh

def isEx : Ex → Exit → Prop
  | .normal, e => e = .normal
  | .exit id, e => e = .exit id
  | .ret, e => e = .ret
abbrev PQ := Ex → AL → List Blk → Prop
def Fin (C : Cx) (Q : PQ) : Exit → Act → World → Prop := fun e a w =>
  ∃ g' q' ex al' σ', g'.w = w ∧ isEx ex e ∧ Inv C.P C.Z C.B (mkFr C.N al') σ' g' q' a ∧ Evo C.g0 C.σ0 C.q0 g' σ' q' ∧ Q ex al' σ'
/-- Code, begun at a state: what it comes to. -/
def T (C : Cx) (c : Code) (al : AL) (σ : List Blk) (Q : PQ) : Prop :=
  ∀ g q a, Inv C.P C.Z C.B (mkFr C.N al) σ g q a → Evo C.g0 C.σ0 C.q0 g σ q → c.wp C.P (Fin C Q) a g.w
/-- So many rounds of a loop at most. -/
def TL (C : Cx) (n : Nat) (c : Code) (al : AL) (σ : List Blk) (Q : PQ) : Prop :=
  ∀ g q a, Inv C.P C.Z C.B (mkFr C.N al) σ g q a → Evo C.g0 C.σ0 C.q0 g σ q → Code.rounds C.P c (Fin C Q) n a g.w

def thenQ (K : AL → List Blk → Prop) (Q : PQ) : PQ
  | .normal, al, σ => K al σ
  | .exit id, al, σ => Q (.exit id) al σ
  | .ret, al, σ => Q .ret al σ
def inBlockQ (id : Nat) (Q : PQ) : PQ
  | .exit j, al, σ => bif Nat.beq j id then Q .normal al σ else Q (.exit j) al σ
  | .normal, al, σ => Q .normal al σ
  | .ret, al, σ => Q .ret al σ

variable {C : Cx} {al : AL} {σ : List Blk} {Q : PQ}

theorem T_skip (h : Q .normal al σ) : T C .skip al σ Q := fun g q _ hI hE => wp_skip ⟨g, q, .normal, al, σ, rfl, rfl, hI, hE, h⟩
theorem T_label {l : Nat} (h : Q .normal al σ) : T C (.label l) al σ Q := fun g q _ hI hE => wp_label ⟨g, q, .normal, al, σ, rfl, rfl, hI, hE, h⟩
theorem T_exit {id : Nat} (h : Q (.exit id) al σ) : T C (.exit id) al σ Q := fun g q _ hI hE => wp_exit ⟨g, q, .exit id, al, σ, rfl, rfl, hI, hE, h⟩
theorem T_ret (h : Q .ret al σ) : T C .ret al σ Q := fun g q _ hI hE => wp_ret ⟨g, q, .ret, al, σ, rfl, rfl, hI, hE, h⟩
theorem T_seq {x y : Code} (h : T C x al σ (thenQ (fun al σ => T C y al σ Q) Q)) : T C (.seq x y) al σ Q := fun g q a hI hE => by
  refine wp_seq (wp_mono (h g q a hI hE) ?_)
  rintro e a' w ⟨g', q', ex, al', σ', rfl, hex, hI', hE', hQ⟩
  cases ex with
  | normal => obtain rfl := hex; exact hQ g' q' a' hI' hE'
  | exit id => obtain rfl := hex; exact ⟨g', q', .exit id, al', σ', rfl, rfl, hI', hE', hQ⟩
  | ret => obtain rfl := hex; exact ⟨g', q', .ret, al', σ', rfl, rfl, hI', hE', hQ⟩
theorem T_block {id : Nat} {x : Code} (h : T C x al σ (inBlockQ id Q)) : T C (.block id x) al σ Q := fun g q a hI hE => by
  refine wp_block (wp_mono (h g q a hI hE) ?_)
  rintro e a' w ⟨g', q', ex, al', σ', rfl, hex, hI', hE', hQ⟩
  cases ex with
  | normal => obtain rfl := hex; exact ⟨g', q', .normal, al', σ', rfl, rfl, hI', hE', hQ⟩
  | ret => obtain rfl := hex; exact ⟨g', q', .ret, al', σ', rfl, rfl, hI', hE', hQ⟩
  | exit j =>
    obtain rfl := hex
    simp only [Exit.inBlock]
    simp only [inBlockQ] at hQ
    split
    · rename_i e
      subst e
      rw [Nat.beq_refl] at hQ
      exact ⟨g', q', .normal, al', σ', rfl, rfl, hI', hE', hQ⟩
    · rename_i e
      have : Nat.beq j id = false := by
        cases h : Nat.beq j id with
        | false => rfl
        | true => exact absurd (Nat.eq_of_beq_eq_true h) e
      rw [this] at hQ
      exact ⟨g', q', .exit j, al', σ', rfl, rfl, hI', hE', hQ⟩
theorem T_scope {x : Code} (h : T C x al σ Q) : T C (.scope x) al σ Q := fun g q a hI hE => by
  refine wp_scope_straight (wp_mono (h g q a hI hE) ?_)
  rintro e a' w ⟨g', q', ex, al', σ', rfl, hex, hI', hE', hQ⟩
  cases ex with
  | normal => obtain rfl := hex; exact ⟨g', q', .normal, al', σ', rfl, rfl, hI', hE', hQ⟩
  | exit id => obtain rfl := hex; exact ⟨g', q', .exit id, al', σ', rfl, rfl, hI', hE', hQ⟩
  | ret => obtain rfl := hex; exact ⟨g', q', .ret, al', σ', rfl, rfl, hI', hE', hQ⟩
theorem T_true {c : Operand} {x y : Code} {b : Bool} (hc : opA C.Z C.N al c = some (.d (tb b))) (hb : b = true) (h : T C x al σ Q) : T C (.cond c x y) al σ Q := fun g q a hI hE => by
  subst hb
  exact wp_cond_true (sr_sc (opnd_sound hI (by rw [opnd_mk]; exact hc))) (h g q a hI hE)
theorem T_false {c : Operand} {x y : Code} {b : Bool} (hc : opA C.Z C.N al c = some (.d (tb b))) (hb : b = false) (h : T C y al σ Q) : T C (.cond c x y) al σ Q := fun g q a hI hE => by
  subst hb
  exact wp_cond_false (sr_sc (opnd_sound hI (by rw [opnd_mk]; exact hc))) (h g q a hI hE)
theorem T_loop {x : Code} (n : Nat) (h : TL C n x al σ Q) : T C (.loop x) al σ Q := fun g q a hI hE => wp_loop_rounds n (h g q a hI hE)
theorem TL_succ {x : Code} {n : Nat} (h : T C x al σ (thenQ (fun al σ => TL C n x al σ Q) Q)) : TL C (n + 1) x al σ Q := fun g q a hI hE => by
  rw [rounds_succ]
  refine wp_mono (h g q a hI hE) ?_
  rintro e a' w ⟨g', q', ex, al', σ', rfl, hex, hI', hE', hQ⟩
  cases ex with
  | normal => obtain rfl := hex; exact hQ g' q' a' hI' hE'
  | exit id => obtain rfl := hex; exact ⟨g', q', .exit id, al', σ', rfl, rfl, hI', hE', hQ⟩
  | ret => obtain rfl := hex; exact ⟨g', q', .ret, al', σ', rfl, rfl, hI', hE', hQ⟩

/-! Less is known; blocks are dropped. -/
def isAnyV : SV → Bool
  | .any => true
  | _ => false
theorem isAnyV_eq {v : SV} (h : isAnyV v = true) : v = .any := by cases v <;> first | rfl | cases h
def subAL : AL → AL → Prop
  | [], _ => True
  | (k, v) :: l, al => (isAnyV v = true ∨ look al k = v) ∧ subAL l al
theorem subAL_look : ∀ {al' al : AL}, subAL al' al → ∀ k, look al' k = .any ∨ look al' k = look al k
  | [], _, _, _ => .inl rfl
  | (j, v) :: l, al, ⟨h1, h2⟩, k => by
    simp only [look]
    cases h : Nat.beq j k with
    | true =>
      obtain rfl := Nat.eq_of_beq_eq_true h
      rcases h1 with h1 | h1
      · exact .inl (isAnyV_eq h1)
      · exact .inr h1.symm
    | false => exact subAL_look h2 k
theorem subAL_trans : ∀ {a b c : AL}, subAL a b → subAL b c → subAL a c
  | [], _, _, _, _ => trivial
  | (k, v) :: l, b, c, ⟨h1, h2⟩, h3 => by
    refine ⟨?_, subAL_trans h2 h3⟩
    rcases h1 with h1 | h1
    · exact .inl h1
    · rcases subAL_look h3 k with h | h
      · rw [h] at h1
        exact .inl (by rw [← h1]; rfl)
      · exact .inr (by rw [← h, h1])
theorem SRL.weaken {g : G} {σ : List Blk} {q : Gh} : ∀ {xs ys : List SV} {vs : List Value}, SRL g σ q xs vs → xs.length = ys.length → (∀ i, i < ys.length → ys[i]? = some .any ∨ ys[i]? = xs[i]?) → SRL g σ q ys vs
  | [], [], vs, h, _, _ => h
  | [], _ :: _, _, _, h, _ => by simp at h
  | _ :: _, [], _, _, h, _ => by simp at h
  | x :: xs, y :: ys, _, ⟨v, us, h1, h2, e⟩, hl, h => by
    subst e
    refine ⟨v, us, ?_, SRL.weaken h2 (by simpa using hl) (fun i hi => by simpa using h (i + 1) (by simpa using hi)), rfl⟩
    rcases h 0 (by simp) with h | h
    · simp only [List.getElem?_cons_zero, Option.some.injEq] at h
      subst h; trivial
    · simp only [List.getElem?_cons_zero, Option.some.injEq] at h
      subst h; exact h1
theorem Inv.weaken {P : Program} {Z : GTab} {B N : Nat} {al al' : AL} {σ : List Blk} {g : G} {q : Gh} {a : Act} (hI : Inv P Z B (mkFr N al) σ g q a) (h : subAL al' al) : Inv P Z B (mkFr N al') σ g q a :=
  { hI with slot := hI.slot.weaken (by simp [mkFr]) (fun i hi => by
      rw [mkFr_length] at hi
      rw [mkFr_get _ hi, mkFr_get _ hi]
      rcases subAL_look h i with h | h
      · exact .inl (by rw [h])
      · exact .inr (by rw [h])) }

mutual
/-- It names the first m blocks at most. -/
def idsOk (m : Nat) : SV → Bool
  | .arr id _ _ => Nat.blt id m
  | .ptr id _ _ => Nat.blt id m
  | .clo _ a b => idsOkL m a && idsOkL m b
  | .tupr xs => idsOkL m xs
  | .d _ => true
  | .gl _ _ _ => true
  | .rp _ _ _ => true
  | .any => true
def idsOkL (m : Nat) : List SV → Bool
  | [] => true
  | x :: xs => idsOk m x && idsOkL m xs
end
def idsOkB (m : Nat) : List Blk → Bool
  | [] => true
  | .arr .. :: l => idsOkB m l
  | .box _ cells :: l => idsOkL m cells && idsOkB m l
def idsOkA (m : Nat) : AL → Bool
  | [] => true
  | (_, v) :: l => idsOk m v && idsOkA m l
theorem get_left {α : Type} {xs ys : List α} {i : Nat} (h : i < xs.length) : (xs ++ ys)[i]? = xs[i]? := List.getElem?_append_left h
mutual
theorem SR.cut {g : G} {σ dead : List Blk} {q : Gh} : (x : SV) → (v : Value) → idsOk σ.length x = true → SR g (σ ++ dead) q x v → SR g σ q x v
  | .d x, v, _, h => h
  | .gl k T rows, v, _, h => h
  | .rp rows i off, v, _, h => h
  | .any, v, _, _ => trivial
  | .arr id off n, v, hi, ⟨b, c, hb, hc, e⟩ => ⟨b, c, by rw [← get_left (blt_iff.1 hi)]; exact hb, hc, e⟩
  | .ptr id i off, v, hi, ⟨b, hb, e⟩ => ⟨b, by rw [← get_left (blt_iff.1 hi)]; exact hb, e⟩
  | .clo f xs ys, v, hi, ⟨vs, us, h1, h2, e⟩ => by
    simp only [idsOk, Bool.and_eq_true] at hi
    exact ⟨vs, us, SRL.cut xs vs hi.1 h1, SRL.cut ys us hi.2 h2, e⟩
  | .tupr xs, v, hi, ⟨vs, h1, e⟩ => ⟨vs, SRL.cut xs vs hi h1, e⟩
theorem SRL.cut {g : G} {σ dead : List Blk} {q : Gh} : (xs : List SV) → (vs : List Value) → idsOkL σ.length xs = true → SRL g (σ ++ dead) q xs vs → SRL g σ q xs vs
  | [], vs, _, h => h
  | x :: xs, vs, hi, ⟨v, us, h1, h2, e⟩ => by
    simp only [idsOkL, Bool.and_eq_true] at hi
    exact ⟨v, us, SR.cut x v hi.1 h1, SRL.cut xs us hi.2 h2, e⟩
end
theorem idsOkB_mem {m : Nat} {T : TypeId} {cells : List SV} : ∀ {σ : List Blk} {id : Nat}, idsOkB m σ = true → σ[id]? = some (.box T cells) → idsOkL m cells = true
  | [], _, _, h => by simp at h
  | b :: σ, 0, hi, h => by
    simp only [List.getElem?_cons_zero, Option.some.injEq] at h
    subst h
    simp only [idsOkB, Bool.and_eq_true] at hi
    exact hi.1
  | b :: σ, id + 1, hi, h => by
    have : idsOkB m σ = true := by
      cases b with
      | arr => exact hi
      | box => simp only [idsOkB, Bool.and_eq_true] at hi; exact hi.2
    exact idsOkB_mem this (by simpa using h)
theorem idsOkA_look {m : Nat} : ∀ {al : AL}, idsOkA m al = true → ∀ k, idsOk m (look al k) = true
  | [], _, _ => rfl
  | (j, v) :: l, h, k => by
    simp only [idsOkA, Bool.and_eq_true] at h
    simp only [look]
    cases Nat.beq j k with
    | true => exact h.1
    | false => exact idsOkA_look h.2 k
theorem idsOkL_map {m : Nat} {f : Nat → SV} : ∀ (l : List Nat), (∀ k, idsOk m (f k) = true) → idsOkL m (l.map f) = true
  | [], _ => rfl
  | x :: l, h => by simp only [List.map_cons, idsOkL, h x, idsOkL_map l h, Bool.and_self]
theorem Inv.drop {P : Program} {Z : GTab} {B N : Nat} {al : AL} {σ dead : List Blk} {g : G} {q : Gh} {a : Act} (hI : Inv P Z B (mkFr N al) (σ ++ dead) g q a)
    (h1 : idsOkA σ.length al = true) (h2 : idsOkB σ.length σ = true) : Inv P Z B (mkFr N al) σ g q a := by
  refine { hI with slot := SRL.cut _ _ (idsOkL_map _ (idsOkA_look h1)) hI.slot, box := ?_, inj := ?_, tag := ?_ }
  · intro id b hb
    obtain ⟨vs, k1, k2, k3⟩ := hI.box id b (by rw [get_left (lt_of_some hb)]; exact hb)
    refine ⟨vs, k1, ?_, k3⟩
    cases b with
    | arr T sz rows => exact k2
    | box T cells => exact SRL.cut _ _ (idsOkB_mem h2 hb) k2
  · intro i j hi hj
    exact hI.inj i j (by simp; omega) (by simp; omega)
  · intro k T rows hk
    obtain ⟨vs, k1, k2, k3, k4, k5⟩ := hI.tag k T rows hk
    exact ⟨vs, k1, k2, k3, k4, fun b hb => ⟨(k5 b hb).1, fun id hid => (k5 b hb).2 id (by simp; omega)⟩⟩
theorem Evo.drop {g0 g : G} {σ0 σ dead : List Blk} {q0 q : Gh} (h : Evo g0 σ0 q0 g (σ ++ dead) q) (hl : σ0.length ≤ σ.length) : Evo g0 σ0 q0 g σ q := by
  refine ⟨h.le, h.os, h.tape, h.output, h.size, h.kept, ?_, ?_, hl⟩
  · rintro b (⟨id, hid, e⟩ | hk)
    · exact h.own b (.inl ⟨id, by simp; omega, e⟩)
    · exact h.own b (.inr hk)
  · intro id b hb
    obtain ⟨b', h1, h2⟩ := h.same id b hb
    have hlt := lt_of_some hb
    exact ⟨b', by rw [← get_left (show id < σ.length by omega)]; exact h1, h2⟩

/-- The state, seen with less. -/
structure Less (C : Cx) (al' : AL) (σ' : List Blk) (al : AL) (σ : List Blk) : Prop where
  sub : subAL al' al
  cut : ∃ dead, σ = σ' ++ dead
  base : Nat.ble C.σ0.length σ'.length = true
  idsA : idsOkA σ'.length al' = true
  idsB : idsOkB σ'.length σ' = true
theorem Less.go {al' : AL} {σ' : List Blk} (h : Less C al' σ' al σ) {g : G} {q : Gh} {a : Act} (hI : Inv C.P C.Z C.B (mkFr C.N al) σ g q a) (hE : Evo C.g0 C.σ0 C.q0 g σ q) :
    Inv C.P C.Z C.B (mkFr C.N al') σ' g q a ∧ Evo C.g0 C.σ0 C.q0 g σ' q := by
  obtain ⟨dead, rfl⟩ := h.cut
  exact ⟨(hI.weaken h.sub).drop h.idsA h.idsB, hE.drop (Nat.le_of_ble_eq_true h.base)⟩
theorem Less.trans {a b c : AL} {s t u : List Blk} (h : Less C a s b t) (k : Less C b t c u) : Less C a s c u :=
  ⟨subAL_trans h.sub k.sub, by
    obtain ⟨d1, e1⟩ := h.cut
    obtain ⟨d2, e2⟩ := k.cut
    exact ⟨d1 ++ d2, by rw [e2, e1, List.append_assoc]⟩, h.base, h.idsA, h.idsB⟩
theorem T_less {c : Code} {al' : AL} {σ' : List Blk} (k : T C c al' σ' Q) (h : Less C al' σ' al σ) : T C c al σ Q := fun g q a hI hE => by
  obtain ⟨h1, h2⟩ := h.go hI hE
  exact k g q a h1 h2
theorem TL_less {c : Code} {n : Nat} {al' : AL} {σ' : List Blk} (k : TL C n c al' σ' Q) (h : Less C al' σ' al σ) : TL C n c al σ Q := fun g q a hI hE => by
  obtain ⟨h1, h2⟩ := h.go hI hE
  exact k g q a h1 h2

/-! Regions in their order. -/
def TO (C : Cx) (ops : Array Oper) (l : List Oper) (al : AL) (σ : List Blk) (K : AL → List Blk → Prop) : Prop :=
  ∀ g q a (R : Exit → Act → World → Prop), Inv C.P C.Z C.B (mkFr C.N al) σ g q a → Evo C.g0 C.σ0 C.q0 g σ q →
    (∀ al' σ' g' q' a', Inv C.P C.Z C.B (mkFr C.N al') σ' g' q' a' → Evo C.g0 C.σ0 C.q0 g' σ' q' → K al' σ' → R .normal a' g'.w) → wpList C.P ops R l a g.w
def StepA (C : Cx) (o : Oper) (al : AL) (σ : List Blk) (al' : AL) (σ' : List Blk) : Prop :=
  ∀ g q a, Inv C.P C.Z C.B (mkFr C.N al) σ g q a → StepW C.P C.Z C.B (mkFr C.N al') σ' g σ q o a
variable {ops : Array Oper} {l : List Oper} {o : Oper} {K : AL → List Blk → Prop}
theorem T_region {id : Nat} (h : TO C ops ops.toList al σ fun al' σ' => Q .normal al' σ') : T C (.region id ops false) al σ Q := fun g q a hI hE =>
  wp_region_list (h g q a _ hI hE fun al' σ' g' q' _ h1 h2 h3 => ⟨g', q', .normal, al', σ', rfl, rfl, h1, h2, h3⟩)
theorem TO_nil (h : K al σ) : TO C ops [] al σ K := fun g q a _ hI hE k => k al σ g q a hI hE h
theorem TO_want {al1 : AL} {σ1 : List Blk} (hw : wantedE ops o (mkFr C.N al) = some true) (hs : StepA C o al σ al1 σ1) (h : TO C ops l al1 σ1 K) : TO C ops (o :: l) al σ K := fun g q a R hI hE k => by
  unfold wpList
  rw [if_pos (wanted_sound hI hw)]
  exact .inl (hs g q a hI _ _ fun a' g' q' h1 h2 => h g' q' a' R h1 (hE.trans h2) k)
/-- An operation without a guard. -/
theorem TO_step {al1 : AL} {σ1 : List Blk} (hg : o.guard = none) (hs : StepA C o al σ al1 σ1) (h : TO C ops l al1 σ1 K) : TO C ops (o :: l) al σ K :=
  TO_want (by unfold wantedE; rw [hg]) hs h
theorem wantedE_mk {j d : Nat} {b want : Bool} (hg : o.guard = some (j, want)) (hd : (ops[j]?).bind (·.dst) = some d) (hN : Nat.blt d C.N = true) (hl : look al d = .d (tb b)) : wantedE ops o (mkFr C.N al) = some (b == want) := by
  unfold wantedE
  rw [hg]
  simp only [hd, mkFr_get al (blt_iff.1 hN), hl]
/-- One whose guard holds. -/
theorem TO_stepG {al1 : AL} {σ1 : List Blk} {j d : Nat} {b want : Bool} (hg : o.guard = some (j, want)) (hd : (ops[j]?).bind (·.dst) = some d) (hN : Nat.blt d C.N = true) (hl : look al d = .d (tb b)) (hb : b = want)
    (hs : StepA C o al σ al1 σ1) (h : TO C ops l al1 σ1 K) : TO C ops (o :: l) al σ K :=
  TO_want (by rw [wantedE_mk hg hd hN hl, hb]; simp) hs h
theorem TO_skip0 (hw : wantedE ops o (mkFr C.N al) = some false) (h : TO C ops l (putA o.dst (.d (.tup [])) al) σ K) : TO C ops (o :: l) al σ K := fun g q a R hI hE k => by
  unfold wpList
  rw [if_neg (by rw [wanted_sound hI hw]; simp)]
  refine h g q _ R ?_ hE k
  rw [← putF_mk]
  exact hI.put o.dst (x := .d (.tup [])) (v := undef) (.tup _ _ .nil)
/-- One whose guard fails. -/
theorem TO_skip {j d : Nat} {b want : Bool} (hg : o.guard = some (j, want)) (hd : (ops[j]?).bind (·.dst) = some d) (hN : Nat.blt d C.N = true) (hl : look al d = .d (tb b)) (hb : b = !want)
    (h : TO C ops l (putA o.dst (.d (.tup [])) al) σ K) : TO C ops (o :: l) al σ K :=
  TO_skip0 (by rw [wantedE_mk hg hd hN hl, hb]; cases want <;> rfl) h
/-- One whose guard's own operation was skipped. -/
theorem TO_skipU {j d : Nat} {want : Bool} (hg : o.guard = some (j, want)) (hd : (ops[j]?).bind (·.dst) = some d) (hN : Nat.blt d C.N = true) (hl : look al d = .d (.tup []))
    (h : TO C ops l (putA o.dst (.d (.tup [])) al) σ K) : TO C ops (o :: l) al σ K :=
  TO_skip0 (by unfold wantedE; rw [hg]; simp only [hd, mkFr_get al (blt_iff.1 hN), hl]) h
end Go.Vm
