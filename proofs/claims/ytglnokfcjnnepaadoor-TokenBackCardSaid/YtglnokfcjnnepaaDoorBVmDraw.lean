/- A region that draws its order: the order of the text serves for all. -/
import Derived.Test.YtglnokfcjnnepaaDoorBVmCongr
import Derived.Orders
namespace Go.Vm
open Go Go.RowKit

def psOf (o : Oper) : List Nat := (o.after.toList.filter (Region.binds .any)).map (·.on)

/-- A list's elements, once. -/
def onces : List Nat → List Nat
  | [] => []
  | x :: l => match (onces l).contains x with
    | true => onces l
    | false => x :: onces l
theorem mem_onces {x : Nat} : ∀ {l : List Nat}, x ∈ onces l → x ∈ l
  | [], h => h
  | y :: l, h => by
    unfold onces at h
    split at h
    · exact List.mem_cons_of_mem _ (mem_onces h)
    · rcases List.mem_cons.1 h with rfl | h
      · exact List.mem_cons_self
      · exact List.mem_cons_of_mem _ (mem_onces h)
/-- What comes ahead of each operation, whatever the order. -/
def ancsGo : List Oper → List (List Nat) → List (List Nat)
  | [], acc => acc
  | o :: l, acc => ancsGo l (acc ++ [onces (psOf o ++ (psOf o).flatMap fun e => acc.getD e [])])
def ancs (l : List Oper) : List (List Nat) := ancsGo l []

def tmpsOf (o : Oper) : List Tmp := o.op.operands.toList.filterMap fun | .tmp t => some t | _ => none

def nodupB : List Nat → Bool
  | [] => true
  | x :: l => !l.contains x && nodupB l

def drawOk (ops : Array Oper) : Bool :=
  let L := ops.toList
  let A := ancs L
  L.zipIdx.all fun (o, i) =>
    (psOf o).all (fun e => decide (e < i)) &&
    (match o.guard with
     | none => true
     | some (j, _) => (psOf o).contains j) &&
    L.zipIdx.all fun (o', j) =>
      (match o'.dst with
       | none => true
       | some t => (i == j || o.dst != some t) && (!(tmpsOf o).contains t || i == j || (A.getD i []).contains j || (A.getD j []).contains i))

/-- Two operations whose order counts. -/
def conf : Foot → Foot → Bool
  | .al _, .al _ => true
  | .wr a, .wr b | .rd a, .wr b | .wr a, .rd b => a == b
  | .al a, .wr b | .al a, .rd b | .wr a, .al b | .rd a, .al b => a == b
  | _, _ => false
def confOk (A : List (List Nat)) (ft : List Foot) : Bool :=
  ft.zipIdx.all fun (f, i) => ft.zipIdx.all fun (f', j) => !decide (j < i) || !conf f' f || (A.getD i []).contains j

/-- The order of the text. -/
def runD (P : Program) (Z : GTab) (E : Env) (ops : Array Oper) : List Oper → List SV → List Blk → Option ((List SV × List Blk) × List Foot)
  | [], fr, σ => some ((fr, σ), [])
  | o :: l, fr, σ => match wantedE ops o fr with
    | some true => match stepD P Z E o fr σ with
      | some (v, σ') => (runD P Z E ops l (putF fr o.dst v) σ').map fun r => (r.1, footE Z o fr σ :: r.2)
      | none => none
    | some false => (runD P Z E ops l (putF fr o.dst (.d (.tup []))) σ).map fun r => (r.1, .no :: r.2)
    | none => none

/-- What the order of the text does at an operation. -/
def Good (P : Program) (Z : GTab) (E : Env) (ops : Array Oper) (o : Oper) (fr : List SV) (σ : List Blk) (v : SV) (fr' : List SV) (σ' : List Blk) (f : Foot) : Prop :=
  ((wantedE ops o fr = some true ∧ stepD P Z E o fr σ = some (v, σ') ∧ f = footE Z o fr σ) ∨ (wantedE ops o fr = some false ∧ v = .d (.tup []) ∧ σ' = σ ∧ f = .no)) ∧ fr' = putF fr o.dst v

theorem runD_trace {P : Program} {Z : GTab} {E : Env} {ops : Array Oper} : ∀ (l : List Oper) (fr : List SV) (σ : List Blk) (r : List SV × List Blk) (ft : List Foot), runD P Z E ops l fr σ = some (r, ft) →
    ∃ (F : Nat → List SV) (Si : Nat → List Blk) (V : Nat → SV), F 0 = fr ∧ Si 0 = σ ∧ F l.length = r.1 ∧ Si l.length = r.2 ∧
      ∀ i o, l[i]? = some o → ∃ f, ft[i]? = some f ∧ Good P Z E ops o (F i) (Si i) (V i) (F (i + 1)) (Si (i + 1)) f
  | [], fr, σ, r, ft, h => by
    simp only [runD, Option.some.injEq, Prod.mk.injEq] at h
    obtain ⟨h, _⟩ := h
    subst h
    exact ⟨fun _ => fr, fun _ => σ, fun _ => .d (.tup []), rfl, rfl, rfl, rfl, fun i o h => by simp at h⟩
  | o :: l, fr, σ, r, ft, h => by
    have key : ∀ (v : SV) (σ' : List Blk) (f : Foot), (runD P Z E ops l (putF fr o.dst v) σ').map (fun r => (r.1, f :: r.2)) = some (r, ft) → Good P Z E ops o fr σ v (putF fr o.dst v) σ' f →
        ∃ (F : Nat → List SV) (Si : Nat → List Blk) (V : Nat → SV), F 0 = fr ∧ Si 0 = σ ∧ F (o :: l).length = r.1 ∧ Si (o :: l).length = r.2 ∧
          ∀ i o', (o :: l)[i]? = some o' → ∃ f, ft[i]? = some f ∧ Good P Z E ops o' (F i) (Si i) (V i) (F (i + 1)) (Si (i + 1)) f := by
      intro v σ' f hr hg
      obtain ⟨⟨r0, ft0⟩, hr0, he⟩ := Option.map_eq_some_iff.1 hr
      simp only [Prod.mk.injEq] at he
      obtain ⟨rfl, rfl⟩ := he
      obtain ⟨F, Si, V, h1, h2, h3, h4, h5⟩ := runD_trace l _ _ _ _ hr0
      refine ⟨fun i => match i with | 0 => fr | i + 1 => F i, fun i => match i with | 0 => σ | i + 1 => Si i, fun i => match i with | 0 => v | i + 1 => V i, rfl, rfl, h3, h4, ?_⟩
      intro i o' hi
      cases i with
      | zero =>
        simp only [List.getElem?_cons_zero, Option.some.injEq] at hi
        subst hi
        simp only [h1, h2]
        exact ⟨f, rfl, hg⟩
      | succ i => exact h5 i o' (by simpa using hi)
    simp only [runD] at h
    split at h
    · rename_i hw
      split at h
      · rename_i v σ' hst
        exact key v σ' _ h ⟨.inl ⟨hw, hst, rfl⟩, rfl⟩
      · cases h
    · rename_i hw
      exact key _ σ _ h ⟨.inr ⟨hw, rfl, rfl, rfl⟩, rfl⟩
    · cases h

/-- Closed: with each, what must come ahead of it. -/
def Closed (l : List Oper) (X : Nat → Prop) : Prop := ∀ i o, l[i]? = some o → X i → ∀ e ∈ psOf o, X e

theorem ancsGo_ok (L : List Oper) : ∀ (l : List Oper) (acc : List (List Nat)), (∀ k o, l[k]? = some o → L[acc.length + k]? = some o) →
    (∀ i j, j ∈ acc.getD i [] → ∀ X, Closed L X → X i → X j) → ∀ i j, j ∈ (ancsGo l acc).getD i [] → ∀ X, Closed L X → X i → X j
  | [], acc, _, h, i, j, hj => h i j hj
  | o :: l, acc, hl, h, i, j, hj => by
    refine ancsGo_ok L l _ (fun k o' hk => ?_) (fun i j hj X hX hi => ?_) i j hj
    · have := hl (k + 1) o' (by simpa using hk)
      simp only [List.length_append, List.length_cons, List.length_nil]
      rwa [show acc.length + (0 + 1) + k = acc.length + (k + 1) from by omega]
    · by_cases hlt : i < acc.length
      · rw [List.getD_eq_getElem?_getD, List.getElem?_append_left hlt, ← List.getD_eq_getElem?_getD] at hj
        exact h i j hj X hX hi
      · by_cases he : i = acc.length
        · subst he
          rw [List.getD_eq_getElem?_getD, List.getElem?_append_right (Nat.le_refl _)] at hj
          simp only [Nat.sub_self, List.getElem?_cons_zero, Option.getD_some] at hj
          have hj := mem_onces hj
          simp only [List.mem_append, List.mem_flatMap] at hj
          have ho := hl 0 o rfl
          simp only [Nat.add_zero] at ho
          rcases hj with hj | ⟨e, he, hj⟩
          · exact hX _ o ho hi j hj
          · exact h e j hj X hX (hX _ o ho hi e he)
        · rw [List.getD_eq_getElem?_getD, List.getElem?_eq_none (by simp; omega)] at hj
          simp at hj

theorem ancs_ok {l : List Oper} {i j : Nat} (h : j ∈ (ancs l).getD i []) {X : Nat → Prop} (hX : Closed l X) (hi : X i) : X j :=
  ancsGo_ok l l [] (fun k o hk => by simpa using hk) (fun i j hj => by simp at hj) i j h X hX hi

structure DrawOk (l : List Oper) : Prop where
  back : ∀ (i : Nat) (o : Oper), l[i]? = some o → ∀ e ∈ psOf o, e < i
  guard : ∀ (i : Nat) (o : Oper), l[i]? = some o → ∀ j want, o.guard = some (j, want) → j ∈ psOf o
  once : ∀ (i : Nat) (o : Oper) (j : Nat) (o' : Oper) (t : Tmp), l[i]? = some o → l[j]? = some o' → o'.dst = some t → o.dst = some t → i = j
  opnds : ∀ (i : Nat) (o : Oper) (j : Nat) (o' : Oper) (t : Tmp), l[i]? = some o → l[j]? = some o' → o'.dst = some t → t ∈ tmpsOf o → i = j ∨ j ∈ (ancs l).getD i [] ∨ i ∈ (ancs l).getD j []

theorem drawOk_parts {ops : Array Oper} (h : drawOk ops = true) : DrawOk ops.toList := by
  have key : ∀ i o, ops.toList[i]? = some o → _ := fun i o ho => List.all_eq_true.1 h (o, i) (by rw [List.mem_zipIdx_iff_getElem?]; exact ho)
  have key2 : ∀ i o, ops.toList[i]? = some o → ∀ j o', ops.toList[j]? = some o' → _ := fun i o ho j o' ho' => by
    have := key i o ho
    simp only [Bool.and_eq_true] at this
    exact List.all_eq_true.1 this.2 (o', j) (by rw [List.mem_zipIdx_iff_getElem?]; exact ho')
  constructor
  · intro i o ho e he
    have := key i o ho
    simp only [Bool.and_eq_true] at this
    simpa using List.all_eq_true.1 this.1.1 e he
  · intro i o ho j want hg
    have := key i o ho
    simp only [Bool.and_eq_true, hg] at this
    simpa using this.1.2
  · intro i o j o' t ho ho' hd hd'
    have := key2 i o ho j o' ho'
    simp only [hd, Bool.and_eq_true] at this
    have := this.1
    simpa [hd'] using this
  · intro i o j o' t ho ho' hd ht
    have := key2 i o ho j o' ho'
    simp only [hd, Bool.and_eq_true] at this
    have := this.2
    simp only [Bool.or_eq_true, Bool.not_eq_true', beq_iff_eq, List.contains_iff_mem] at this
    rcases this with ((h | h) | h) | h
    · have : (tmpsOf o).contains t = true := by simpa using ht
      rw [this] at h; cases h
    · exact .inl h
    · exact .inr (.inl h)
    · exact .inr (.inr h)

theorem confOk_parts {A : List (List Nat)} {ft : List Foot} (h : confOk A ft = true) {i j : Nat} {f f' : Foot} (hi : ft[i]? = some f) (hj : ft[j]? = some f') (hlt : j < i) (hc : conf f' f = true) : j ∈ A.getD i [] := by
  have h1 := List.all_eq_true.1 h (f, i) (by rw [List.mem_zipIdx_iff_getElem?]; exact hi)
  have h2 := List.all_eq_true.1 h1 (f', j) (by rw [List.mem_zipIdx_iff_getElem?]; exact hj)
  simpa [hlt, hc] using h2

/-- The slots, where just the operations of a set have been done. -/
structure Agree (l : List Oper) (fr0 : List SV) (V : Nat → SV) (X : Nat → Prop) (fr : List SV) : Prop where
  len : fr.length = fr0.length
  old : ∀ t, (∀ (j : Nat) (o : Oper), l[j]? = some o → X j → o.dst ≠ some t) → fr[t]? = fr0[t]?
  new : ∀ (j : Nat) (o : Oper) (t : Tmp), l[j]? = some o → X j → o.dst = some t → t < fr0.length → fr[t]? = some (V j)

theorem Agree.get {l : List Oper} {fr0 : List SV} {V : Nat → SV} {X Y : Nat → Prop} {fr fr' : List SV} (h : Agree l fr0 V X fr) (k : Agree l fr0 V Y fr') (t : Tmp)
    (hXY : ∀ (j : Nat) (o : Oper), l[j]? = some o → o.dst = some t → (X j ↔ Y j)) : fr[t]? = fr'[t]? := by
  by_cases ht : t < fr0.length
  · by_cases he : ∃ (j : Nat) (o : Oper), l[j]? = some o ∧ X j ∧ o.dst = some t
    · obtain ⟨j, o, ho, hx, hd⟩ := he
      rw [h.new j o t ho hx hd ht, k.new j o t ho ((hXY j o ho hd).1 hx) hd ht]
    · rw [h.old t (fun j o ho hx hd => he ⟨j, o, ho, hx, hd⟩), k.old t (fun j o ho hy hd => he ⟨j, o, ho, (hXY j o ho hd).2 hy, hd⟩)]
  · have h0 := Nat.le_of_not_lt ht
    have h1 : fr.length ≤ t := by rw [h.len]; exact h0
    have h2 : fr'.length ≤ t := by rw [k.len]; exact h0
    rw [List.getElem?_eq_none h1, List.getElem?_eq_none h2]

theorem Agree.put {l : List Oper} (hok : DrawOk l) {fr0 : List SV} {V : Nat → SV} {X : Nat → Prop} {fr : List SV} (h : Agree l fr0 V X fr) {i : Nat} {o : Oper} (ho : l[i]? = some o) (hi : ¬ X i) :
    Agree l fr0 V (fun j => X j ∨ j = i) (putF fr o.dst (V i)) := by
  cases hd : o.dst with
  | none =>
    refine ⟨h.len, fun t ht => h.old t (fun j o' ho' hx => ht j o' ho' (.inl hx)), fun j o' t ho' hx hd' hlt => ?_⟩
    rcases hx with hx | rfl
    · exact h.new j o' t ho' hx hd' hlt
    · rw [ho] at ho'
      obtain rfl : o = o' := by simpa using ho'
      rw [hd] at hd'; cases hd'
  | some d =>
    refine ⟨by simp [putF, h.len], fun t ht => ?_, fun j o' t ho' hx hd' hlt => ?_⟩
    · have hne : d ≠ t := fun e => ht i o ho (.inr rfl) (by rw [hd, e])
      simp only [putF]
      rw [List.getElem?_set_ne hne]
      exact h.old t (fun j o' ho' hx => ht j o' ho' (.inl hx))
    · simp only [putF]
      by_cases e : d = t
      · subst e
        rw [List.getElem?_set_self (by rw [h.len]; exact hlt)]
        have := hok.once i o j o' d ho ho' hd' hd
        rw [this]
      · rw [List.getElem?_set_ne e]
        rcases hx with hx | rfl
        · exact h.new j o' t ho' hx hd' hlt
        · rw [ho] at ho'
          obtain rfl : o = o' := by simpa using ho'
          rw [hd] at hd'
          exact absurd (by simpa using hd') e

theorem Agree.congr {l : List Oper} {fr0 : List SV} {V : Nat → SV} {X Y : Nat → Prop} {fr : List SV} (h : Agree l fr0 V X fr) (hXY : ∀ j, X j ↔ Y j) : Agree l fr0 V Y fr := by
  have : X = Y := funext fun j => propext (hXY j)
  exact this ▸ h

theorem getD_of {fr fr' : List SV} {t : Nat} (h : fr[t]? = fr'[t]?) (d : SV) : fr.getD t d = fr'.getD t d := by
  rw [List.getD_eq_getElem?_getD, List.getD_eq_getElem?_getD, h]

theorem draw_sound {P : Program} {Z : GTab} {E : Env} (hE : EnvOk P Z E) (hm : P.follows .mixedOrders = true) {B : Nat} {ops : Array Oper} (hok : drawOk ops = true) {id : Nat} {fr : List SV} {σ : List Blk} {g : G} {q : Gh} {a : Act}
    {r : List SV × List Blk} {ft : List Foot} (hI : Inv P Z B fr σ g q a) (h : runD P Z E ops ops.toList fr σ = some (r, ft)) (hcf : confOk (ancs ops.toList) ft = true) {Q : Exit → Act → World → Prop}
    (hQ : ∀ a' g' q', Inv P Z B r.1 r.2 g' q' a' → Evo g σ q g' r.2 q' → Q .normal a' g'.w) : (Code.region id ops true).wp P Q a g.w := by
  have hd := drawOk_parts hok
  obtain ⟨F, Si, V, f0, s0, fm, sm, hgood⟩ := runD_trace ops.toList fr σ r ft h
  generalize hl : ops.toList = l at hd fm sm hgood hcf
  have hlen : l.length = ops.size := by rw [← hl]; simp
  have hops : ∀ i : Nat, ops[i]? = l[i]? := fun i => by rw [← hl]; simp
  -- the slots along the text
  have hF : ∀ i, i ≤ l.length → Agree l fr V (fun j => j < i) (F i) := by
    intro i
    induction i with
    | zero => intro _; rw [f0]; exact ⟨rfl, fun _ _ => rfl, fun j o t _ hj => absurd hj (Nat.not_lt_zero j)⟩
    | succ i ih =>
      intro hi
      have ho : l[i]? = some l[i] := List.getElem?_eq_getElem (by omega)
      have := (ih (by omega)).put hd ho (Nat.lt_irrefl i)
      obtain ⟨f, _, _, e⟩ := hgood i _ ho
      rw [← e] at this
      exact this.congr fun j => by constructor <;> intro h <;> omega
  -- what does not write leaves the blocks
  let Wr (id : Nat) (f : Foot) : Prop := f = .wr id ∨ f = .al id
  have hstep : ∀ i o f, l[i]? = some o → ft[i]? = some f → (∀ id, ¬ Wr id f → (Si (i + 1))[id]? = (Si i)[id]?) ∧ ((∀ id, f ≠ .al id) → (Si (i + 1)).length = (Si i).length) := by
    intro i o f ho hf
    obtain ⟨f', hf', hg, _⟩ := hgood i o ho
    obtain rfl : f = f' := by rw [hf] at hf'; simpa using hf'
    rcases hg with ⟨_, hst, rfl⟩ | ⟨_, _, hs, rfl⟩
    · have hl := stepD_local (fr' := F i) (σ' := Si i) (fun _ _ => rfl) hst
      cases hfe : footE Z o (F i) (Si i) with
      | no => rw [hfe] at hl; have e := hl.1; simp only at e; rw [e]; exact ⟨fun _ _ => rfl, fun _ => rfl⟩
      | rd id => rw [hfe] at hl; have e := hl.1; simp only at e; rw [e]; exact ⟨fun _ _ => rfl, fun _ => rfl⟩
      | wr id =>
        rw [hfe] at hl
        obtain ⟨b, h1, h2, _⟩ := hl
        simp only at h2
        rw [h2]
        refine ⟨fun id' hn => ?_, fun _ => by simp⟩
        rw [List.getElem?_set_ne (fun e => hn (.inl (by rw [e])))]
      | al id =>
        rw [hfe] at hl
        obtain ⟨b, h1, h2, _⟩ := hl
        simp only at h2
        rw [h2]
        refine ⟨fun id' hn => ?_, fun hn => absurd rfl (hn id)⟩
        have hne : id' ≠ (Si i).length := fun e => hn (.inr (by rw [e, h1]))
        by_cases hlt : id' < (Si i).length
        · rw [List.getElem?_append_left hlt]
        · rw [List.getElem?_eq_none (by simp; omega), List.getElem?_eq_none (by omega)]
    · rw [hs]; exact ⟨fun _ _ => rfl, fun _ => rfl⟩
  have hft : ∀ i, i < l.length → ∃ o f, l[i]? = some o ∧ ft[i]? = some f := by
    intro i hi
    have ho : l[i]? = some l[i] := List.getElem?_eq_getElem hi
    obtain ⟨f, hf, _⟩ := hgood i _ ho
    exact ⟨_, f, ho, hf⟩
  have hcon : ∀ id k i, i + k ≤ l.length → (∀ j f, ft[j]? = some f → i ≤ j → j < i + k → ¬ Wr id f) → (Si (i + k))[id]? = (Si i)[id]? := by
    intro id k
    induction k with
    | zero => intro i _ _; rfl
    | succ k ih =>
      intro i hi hh
      obtain ⟨o, f, ho, hf⟩ := hft (i + k) (by omega)
      rw [show i + (k + 1) = i + k + 1 from by omega, (hstep _ _ _ ho hf).1 id (hh _ _ hf (by omega) (by omega))]
      exact ih i (by omega) (fun j f hf h1 h2 => hh j f hf h1 (by omega))
  have hlen' : ∀ k i, i + k ≤ l.length → (∀ j f, ft[j]? = some f → i ≤ j → j < i + k → ∀ id, f ≠ .al id) → (Si (i + k)).length = (Si i).length := by
    intro k
    induction k with
    | zero => intro i _ _; rfl
    | succ k ih =>
      intro i hi hh
      obtain ⟨o, f, ho, hf⟩ := hft (i + k) (by omega)
      rw [show i + (k + 1) = i + k + 1 from by omega, (hstep _ _ _ ho hf).2 (hh _ _ hf (by omega) (by omega))]
      exact ih i (by omega) (fun j f hf h1 h2 => hh j f hf h1 (by omega))
  -- two places of the text between which a block is not written
  have hcon2 : ∀ id p p', p ≤ l.length → p' ≤ l.length → (∀ j f, ft[j]? = some f → j < l.length → Wr id f → (j < p ↔ j < p')) → (Si p)[id]? = (Si p')[id]? := by
    intro id p p' hp hp' hh
    rcases Nat.le_total p p' with hle | hle
    · have := hcon id (p' - p) p (by omega) (fun j f hf h1 h2 hw => by have := hh j f hf (by omega) hw; omega)
      rw [show p + (p' - p) = p' from by omega] at this
      exact this.symm
    · have := hcon id (p - p') p' (by omega) (fun j f hf h1 h2 hw => by have := hh j f hf (by omega) hw; omega)
      rwa [show p' + (p - p') = p from by omega] at this
  have hlen2 : ∀ p p', p ≤ l.length → p' ≤ l.length → (∀ j f id, ft[j]? = some f → j < l.length → f = .al id → (j < p ↔ j < p')) → (Si p).length = (Si p').length := by
    intro p p' hp hp' hh
    rcases Nat.le_total p p' with hle | hle
    · have := hlen' (p' - p) p (by omega) (fun j f hf h1 h2 id hw => by have := hh j f id hf (by omega) hw; omega)
      rw [show p + (p' - p) = p' from by omega] at this
      exact this.symm
    · have := hlen' (p - p') p' (by omega) (fun j f hf h1 h2 id hw => by have := hh j f id hf (by omega) hw; omega)
      rwa [show p' + (p - p') = p from by omega] at this
  have hback : ∀ i, Closed l (fun j => j < i) := fun i k o ho hk e he => Nat.lt_trans (hd.back k o ho e he) hk
  -- the relation
  let X (listed : Array Bool) (j : Nat) : Prop := listed[j]? = some true
  let R (listed : Array Bool) (a : Act) (w : World) : Prop := ∃ fr' σc g' q', g'.w = w ∧ Inv P Z B fr' σc g' q' a ∧ Evo g σ q g' σc q' ∧ Agree l fr V (X listed) fr' ∧
    listed.size = l.length ∧ Closed l (X listed) ∧ (∃ p, p ≤ l.length ∧ (∀ j f id, ft[j]? = some f → j < l.length → f = .al id → (X listed j ↔ j < p)) ∧ σc.length = (Si p).length) ∧
    ∀ id, ∃ p, p ≤ l.length ∧ (∀ j f, ft[j]? = some f → j < l.length → Wr id f → (X listed j ↔ j < p)) ∧ σc[id]? = (Si p)[id]?
  have hend : ∀ (listed : Array Bool) (a : Act) (w : World), R listed a w → (∀ j, j < l.length → X listed j) → Q .normal a w := by
    rintro listed a w ⟨fr', σc, g', q', rfl, h1, h2, h3, h5, h6, h7, h8⟩ hall
    have e1 : fr' = r.1 := by
      rw [← fm]
      apply List.ext_getElem?
      intro t
      refine h3.get (hF l.length (Nat.le_refl _)) t (fun j o ho _ => ?_)
      have hj : j < l.length := (List.getElem?_eq_some_iff.1 ho).1
      exact ⟨fun _ => hj, fun _ => hall j hj⟩
    have e2 : σc = r.2 := by
      rw [← sm]
      apply List.ext_getElem?
      intro id
      obtain ⟨p, hp, hw, e⟩ := h8 id
      rw [e]
      refine hcon2 id p l.length hp (Nat.le_refl _) (fun j f hf hj hw' => ?_)
      have := (hw j f hf hj hw').1 (hall j hj)
      exact ⟨fun _ => hj, fun _ => this⟩
    rw [e1, e2] at h1
    rw [e2] at h2
    exact hQ a g' q' h1 h2
  -- nothing ready: all done
  have hready : ∀ (listed : Array Bool), listed.size = l.length → Region.ready .any ops listed = [] → ∀ j, j < l.length → X listed j := by
    intro listed hsz hr j
    induction j using Nat.strongRecOn with
    | _ j ih =>
      intro hj
      by_cases hx : X listed j
      · exact hx
      · exfalso
        have hmem : j ∈ Region.ready .any ops listed := by
          unfold Region.ready
          have ho : l[j]? = some l[j] := List.getElem?_eq_getElem hj
          refine List.mem_filter.2 ⟨List.mem_range.2 (by omega), ?_⟩
          simp only [Bool.and_eq_true, Bool.not_eq_true', hops j, ho, Option.map_some, Option.getD_some, Array.all_eq_true_iff_forall_mem]
          constructor
          · have hlt : j < listed.size := by omega
            have : listed[j]? = some listed[j] := Array.getElem?_eq_getElem hlt
            simp only [Array.getD_eq_getD_getElem?, this, Option.getD_some]
            cases hb : listed[j] with
            | false => rfl
            | true => exact absurd (by simp only [X, this, hb]) hx
          · intro e he
            cases hb : Region.binds .any e with
            | false => rfl
            | true =>
              have hin : e.on ∈ psOf l[j] := by
                simp only [psOf, List.mem_map, List.mem_filter]
                exact ⟨e, ⟨by simpa using he, hb⟩, rfl⟩
              have hlt := hd.back j _ ho e.on hin
              have := ih e.on hlt (by omega)
              simp only [X] at this
              simp [Array.getD_eq_getD_getElem?, this]
        rw [hr] at hmem
        simp at hmem
  refine wp_region_any hm ?_
  have main : ∀ (fuel : Nat) (listed : Array Bool) (a : Act) (w : World), (List.range l.length).countP (fun j => listed.getD j true) + fuel = l.length → R listed a w →
      wpAny P .any ops Q fuel listed a w := by
    intro fuel
    induction fuel with
    | zero =>
      intro listed a w hc hR
      have hsz : listed.size = l.length := by obtain ⟨_, _, _, _, _, _, _, _, h5, _⟩ := hR; exact h5
      have hall : ∀ j, j < l.length → X listed j := by
        intro j hj
        have := List.countP_eq_length.1 (by simpa using hc) j (List.mem_range.2 hj)
        have hlt : j < listed.size := by omega
        have e : listed[j]? = some listed[j] := Array.getElem?_eq_getElem hlt
        simp only [Array.getD_eq_getD_getElem?, e, Option.getD_some] at this
        simp only [X, e, this]
      refine ⟨?_, hend listed a w hR hall⟩
      unfold Region.ready
      refine List.filter_eq_nil_iff.2 (fun j hj => ?_)
      have := hall j (by rw [hlen]; exact List.mem_range.1 hj)
      simp only [X] at this
      simp [Array.getD_eq_getD_getElem?, this]
    | succ fuel ih =>
      intro listed a w hc hR
      have hR0 := hR
      obtain ⟨fr', σc, g', q', rfl, h1, h2, h3, h5, h6, h7, h8⟩ := hR
      refine ⟨fun hr => hend listed a _ hR0 (hready listed h5 hr), fun i hi => ?_⟩
      -- the operation that comes next
      unfold Region.ready at hi
      obtain ⟨hi1, hi2⟩ := List.mem_filter.1 hi
      have hilt : i < l.length := by rw [hlen]; exact List.mem_range.1 hi1
      have ho : l[i]? = some l[i] := List.getElem?_eq_getElem hilt
      generalize l[i] = o at ho
      simp only [Bool.and_eq_true, Bool.not_eq_true', hops i, ho, Option.map_some, Option.getD_some, Array.all_eq_true_iff_forall_mem] at hi2
      obtain ⟨hin, hpre⟩ := hi2
      have hie : listed[i]? = some false := by
        have hlt : i < listed.size := by omega
        have e : listed[i]? = some listed[i] := Array.getElem?_eq_getElem hlt
        simp only [Array.getD_eq_getD_getElem?, e, Option.getD_some] at hin
        rw [e, hin]
      have hni : ¬ X listed i := by simp only [X, hie]; simp
      have hpre' : ∀ e ∈ psOf o, X listed e := by
        intro e he
        simp only [psOf, List.mem_map, List.mem_filter] at he
        obtain ⟨ed, ⟨hed, hb⟩, rfl⟩ := he
        have := hpre ed (by simpa using hed)
        simp only [hb, Bool.not_true, Bool.false_or] at this
        have hlt : ed.on < listed.size := by
          have := hd.back i o ho ed.on (by simp only [psOf, List.mem_map, List.mem_filter]; exact ⟨ed, ⟨hed, hb⟩, rfl⟩)
          omega
        have e : listed[ed.on]? = some listed[ed.on] := Array.getElem?_eq_getElem hlt
        simp only [Array.getD_eq_getD_getElem?, e, Option.getD_some] at this
        simp only [X, e, this]
      let listed' := listed.setIfInBounds i true
      have hX' : ∀ j, X listed' j ↔ (X listed j ∨ j = i) := by
        intro j
        simp only [X, listed']
        by_cases e : j = i
        · subst e
          rw [Array.getElem?_setIfInBounds_self_of_lt (by omega)]
          simp
        · rw [Array.getElem?_setIfInBounds_ne (fun h => e h.symm)]
          simp [e]
      have hcl' : Closed l (X listed') := by
        intro k o' ho' hk e he
        rw [hX'] at hk ⊢
        rcases hk with hk | rfl
        · exact .inl (h6 k o' ho' hk e he)
        · rw [ho] at ho'
          obtain rfl : o = o' := by simpa using ho'
          exact .inl (hpre' e he)
      -- forced operations have been done, both here and in the text
      have hforce : ∀ j, j ∈ (ancs l).getD i [] → j ≠ i → X listed j ∧ j < i := by
        intro j hj hne
        have e1 := ancs_ok hj hcl' ((hX' i).2 (.inr rfl))
        rw [hX'] at e1
        have e2 := ancs_ok (X := fun j => j < i + 1) hj (hback (i + 1)) (Nat.lt_succ_self i)
        exact ⟨e1.resolve_right hne, by omega⟩
      have hforce2 : ∀ j, i ∈ (ancs l).getD j [] → ¬ X listed j ∧ ¬ j < i := by
        intro j hj
        exact ⟨fun hx => hni (ancs_ok hj h6 hx), fun hlt => Nat.lt_irrefl i (ancs_ok (X := fun j => j < i) hj (hback i) hlt)⟩
      have hslot : ∀ t, (∀ (j : Nat) (o' : Oper), l[j]? = some o' → o'.dst = some t → i = j ∨ j ∈ (ancs l).getD i [] ∨ i ∈ (ancs l).getD j []) → fr'[t]? = (F i)[t]? := by
        intro t ht
        refine h3.get (hF i (by omega)) t (fun j o' ho' hdj => ?_)
        rcases ht j o' ho' hdj with e | e | e
        · subst e; exact ⟨fun h => absurd h hni, fun h => absurd h (Nat.lt_irrefl i)⟩
        · by_cases hne : j = i
          · subst hne; exact ⟨fun h => absurd h hni, fun h => absurd h (Nat.lt_irrefl j)⟩
          · obtain ⟨e1, e2⟩ := hforce j e hne
            exact ⟨fun _ => e2, fun _ => e1⟩
        · obtain ⟨e1, e2⟩ := hforce2 j e
          exact ⟨fun h => absurd h e1, fun h => absurd h e2⟩
      have hopnd : ∀ x ∈ o.op.operands, opnd Z (F i) x = opnd Z fr' x := by
        intro x hx
        cases x with
        | tmp t =>
          have ht : t ∈ tmpsOf o := by
            simp only [tmpsOf, List.mem_filterMap]
            exact ⟨.tmp t, by simpa using hx, rfl⟩
          have := hslot t (fun j o' ho' hdj => hd.opnds i o j o' t ho ho' hdj ht)
          simp only [opnd, getD_of this]
        | _ => rfl
      have hwant : wantedE ops o fr' = wantedE ops o (F i) := by
        unfold wantedE
        cases hg : o.guard with
        | none => rfl
        | some jw =>
          obtain ⟨j, want⟩ := jw
          simp only
          cases hdj : (ops[j]?).bind (·.dst) with
          | none => rfl
          | some t =>
            simp only
            obtain ⟨o', ho', hdj⟩ := Option.bind_eq_some_iff.1 hdj
            rw [hops] at ho'
            have hjp := hd.guard i o ho j want hg
            have : fr'[t]? = (F i)[t]? := by
              refine h3.get (hF i (by omega)) t (fun k ok hk hdk => ?_)
              have := hd.once j o' k ok t ho' hk hdk hdj
              subst this
              exact ⟨fun _ => hd.back i o ho j hjp, fun _ => hpre' j hjp⟩
            rw [this]
      obtain ⟨f, hf, hgo⟩ := hgood i o ho
      -- what conflicts with the operation has been done, if, and only if, it stands ahead of it
      have hsync : ∀ j f', ft[j]? = some f' → j ≠ i → conf f' f = true → conf f f' = true → (X listed j ↔ j < i) := by
        intro j f' hf' hne c1 c2
        constructor
        · intro hx
          rcases Nat.lt_or_gt_of_ne hne with hlt | hgt
          · exact hlt
          · exact absurd hx (hforce2 j (confOk_parts hcf hf' hf hgt c2)).1
        · intro hlt
          exact (hforce j (confOk_parts hcf hf hf' hlt c1) hne).1
      have hsame : ∀ id, (∀ f', Wr id f' → conf f' f = true ∧ conf f f' = true) → (Wr id f → False) → (Si i)[id]? = σc[id]? := by
        intro id hc hn
        obtain ⟨p, hp, hw, e⟩ := h8 id
        rw [e]
        refine hcon2 id i p (by omega) hp (fun j f' hf' hj hw' => ?_)
        have hne : j ≠ i := by
          rintro rfl
          rw [hf] at hf'
          obtain rfl : f = f' := by simpa using hf'
          exact hn hw'
        rw [← hsync j f' hf' hne (hc f' hw').1 (hc f' hw').2]
        exact hw j f' hf' hj hw'
      have hsame' : ∀ id, f = .wr id → (Si i)[id]? = σc[id]? := by
        intro id hfe
        obtain ⟨p, hp, hw, e⟩ := h8 id
        rw [e]
        refine hcon2 id i p (by omega) hp (fun j f' hf' hj hw' => ?_)
        by_cases hne : j = i
        · subst hne
          have := hw j f' hf' hj hw'
          exact ⟨fun h => absurd h (Nat.lt_irrefl j), fun h => absurd (this.2 h) hni⟩
        · have hcc : conf f' f = true ∧ conf f f' = true := by rcases hw' with rfl | rfl <;> simp [hfe, conf]
          rw [← hsync j f' hf' hne hcc.1 hcc.2]
          exact hw j f' hf' hj hw'
      have hcount : (List.range l.length).countP (fun j => listed'.getD j true) + fuel = l.length := by
        have hc1 : (List.range l.length).countP (fun j => listed'.getD j true) = (List.range l.length).countP (fun j => listed.getD j true) + 1 := by
          have hsplit : ∀ n, i < n → n ≤ l.length → (List.range n).countP (fun j => listed'.getD j true) = (List.range n).countP (fun j => listed.getD j true) + 1 := by
            intro n
            induction n with
            | zero => intro h; omega
            | succ n ihn =>
              intro hin hn
              rw [List.range_succ, List.countP_append, List.countP_append]
              by_cases e : n = i
              · subst e
                have hsame : ∀ m, m ≤ n → (List.range m).countP (fun j => listed'.getD j true) = (List.range m).countP (fun j => listed.getD j true) := by
                  intro m hm
                  apply List.countP_congr
                  intro j hj
                  have hne : n ≠ j := by have := List.mem_range.1 hj; omega
                  simp only [listed', Array.getD_eq_getD_getElem?, Array.getElem?_setIfInBounds_ne hne]
                rw [hsame n (Nat.le_refl _)]
                have e1 : listed'.getD n true = true := by
                  simp only [listed', Array.getD_eq_getD_getElem?, Array.getElem?_setIfInBounds_self_of_lt (show n < listed.size by omega), Option.getD_some]
                have e2 : listed.getD n true = false := by simp only [Array.getD_eq_getD_getElem?, hie, Option.getD_some]
                simp only [List.countP_cons, List.countP_nil, e1, e2]
                simp
              · rw [ihn (by omega) (by omega)]
                have hne : i ≠ n := fun h => e h.symm
                have e1 : listed'.getD n true = listed.getD n true := by simp only [listed', Array.getD_eq_getD_getElem?, Array.getElem?_setIfInBounds_ne hne]
                simp only [List.countP_cons, List.countP_nil, e1]
                omega
          exact hsplit l.length hilt (Nat.le_refl _)
        omega
      have hagree : Agree l fr V (X listed') (putF fr' o.dst (V i)) := (h3.put hd ho hni).congr fun j => (hX' j).symm
      have hnew : ∀ id, Wr id f → ∀ j f', ft[j]? = some f' → j < l.length → Wr id f' → (X listed' j ↔ j < i + 1) := by
        intro id hw j f' hf' hj hw'
        rw [hX']
        by_cases hne : j = i
        · subst hne; exact ⟨fun _ => Nat.lt_succ_self _, fun _ => .inr rfl⟩
        · have hcc : conf f' f = true ∧ conf f f' = true := by rcases hw with rfl | rfl <;> rcases hw' with rfl | rfl <;> simp [conf]
          have := hsync j f' hf' hne hcc.1 hcc.2
          constructor
          · rintro (hx | e)
            · have := this.1 hx; omega
            · exact absurd e hne
          · intro h; exact .inl (this.2 (by omega))
      have hold : ∀ j f', ft[j]? = some f' → (X listed' j ↔ X listed j) ∨ f' = f := by
        intro j f' hf'
        by_cases hne : j = i
        · subst hne; rw [hf] at hf'; exact .inr (by simpa using hf'.symm)
        · exact .inl ⟨fun h => ((hX' j).1 h).resolve_right hne, fun h => (hX' j).2 (.inl h)⟩
      have hkeepC : ∀ id, ¬ Wr id f → ∃ p, p ≤ l.length ∧ (∀ j f, ft[j]? = some f → j < l.length → Wr id f → (X listed' j ↔ j < p)) ∧ σc[id]? = (Si p)[id]? := by
        intro id hn
        obtain ⟨p, hp, hw, e⟩ := h8 id
        refine ⟨p, hp, fun j f' hf' hj hw' => ?_, e⟩
        rcases hold j f' hf' with h | rfl
        · rw [h]; exact hw j f' hf' hj hw'
        · exact absurd hw' hn
      have hkeepL : (∀ id, f ≠ .al id) → ∃ p, p ≤ l.length ∧ (∀ j f id, ft[j]? = some f → j < l.length → f = .al id → (X listed' j ↔ j < p)) ∧ σc.length = (Si p).length := by
        intro hn
        obtain ⟨p, hp, hw, e⟩ := h7
        refine ⟨p, hp, fun j f' id hf' hj hw' => ?_, e⟩
        rcases hold j f' hf' with h | rfl
        · rw [h]; exact hw j f' id hf' hj hw'
        · exact absurd hw' (hn id)
      have hsz' : listed'.size = l.length := by simp [listed', h5]
      unfold wpOp
      rw [hops i, ho]
      simp only
      rcases hgo.1 with ⟨hw, hst, hfe⟩ | ⟨hw, hv, hs, hfe⟩
      · rw [if_pos (wanted_sound h1 (hwant.trans hw))]
        have hloc := stepD_local (σ' := σc) hopnd hst
        rw [← hfe] at hloc
        cases hfc : f with
        | no =>
          rw [hfc] at hloc
          refine .inl (stepD_sound hE h1 hloc.2 _ _ fun a' g2 q2 k1 k2 => ?_)
          exact ih listed' a' g2.w hcount ⟨_, σc, g2, q2, rfl, k1, h2.trans k2, hagree, hsz', hcl', hkeepL (by rw [hfc]; simp), fun id => hkeepC id (by simp [Wr, hfc])⟩
        | rd id =>
          rw [hfc] at hloc
          have hse := hsame id (fun f' hw' => by rcases hw' with rfl | rfl <;> simp [hfc, conf]) (by simp [Wr, hfc])
          refine .inl (stepD_sound hE h1 (hloc.2 hse) _ _ fun a' g2 q2 k1 k2 => ?_)
          exact ih listed' a' g2.w hcount ⟨_, σc, g2, q2, rfl, k1, h2.trans k2, hagree, hsz', hcl', hkeepL (by rw [hfc]; simp), fun id => hkeepC id (by simp [Wr, hfc])⟩
        | wr id =>
          rw [hfc] at hloc
          obtain ⟨b, hb1, hb2, hb3⟩ := hloc
          simp only at hb2
          have hse := hsame' id hfc
          refine .inl (stepD_sound hE h1 (hb3 hse) _ _ fun a' g2 q2 k1 k2 => ?_)
          refine ih listed' a' g2.w hcount ⟨_, _, g2, q2, rfl, k1, h2.trans k2, hagree, hsz', hcl', ?_, fun id' => ?_⟩
          · obtain ⟨p, hp, hw, e⟩ := hkeepL (by rw [hfc]; simp)
            exact ⟨p, hp, hw, by simpa using e⟩
          · by_cases e : id' = id
            · subst e
              refine ⟨i + 1, by omega, hnew id' (.inl hfc), ?_⟩
              have hlt : id' < σc.length := by
                rw [List.getElem?_eq_getElem hb1] at hse
                exact (List.getElem?_eq_some_iff.1 hse.symm).1
              simp only [hb2]
              rw [List.getElem?_set_self hlt, List.getElem?_set_self hb1]
            · obtain ⟨p, hp, hw, e'⟩ := hkeepC id' (by rintro (h | h) <;> rw [hfc] at h <;> cases h <;> exact e rfl)
              refine ⟨p, hp, hw, ?_⟩
              simp only
              rw [List.getElem?_set_ne (fun h => e h.symm)]
              exact e'
        | al id =>
          rw [hfc] at hloc
          obtain ⟨b, hb1, hb2, hb3⟩ := hloc
          simp only at hb2
          have hle : σc.length = (Si i).length := by
            obtain ⟨p, hp, hwp, e⟩ := h7
            rw [e]
            refine hlen2 p i hp (by omega) (fun j f' id' hf' hj hw' => ?_)
            by_cases hne : j = i
            · subst hne
              have := hwp j f' id' hf' hj hw'
              exact ⟨fun h => absurd (this.2 h) hni, fun h => absurd h (Nat.lt_irrefl j)⟩
            · rw [← hsync j f' hf' hne (by simp [hw', hfc, conf]) (by simp [hw', hfc, conf])]
              exact (hwp j f' id' hf' hj hw').symm
          refine .inl (stepD_sound hE h1 (hb3 hle) _ _ fun a' g2 q2 k1 k2 => ?_)
          refine ih listed' a' g2.w hcount ⟨_, _, g2, q2, rfl, k1, h2.trans k2, hagree, hsz', hcl', ?_, fun id' => ?_⟩
          · refine ⟨i + 1, by omega, fun j f' id' hf' hj hw' => ?_, ?_⟩
            · rw [hX']
              by_cases hne : j = i
              · subst hne; exact ⟨fun _ => Nat.lt_succ_self _, fun _ => .inr rfl⟩
              · have := hsync j f' hf' hne (by simp [hw', hfc, conf]) (by simp [hw', hfc, conf])
                constructor
                · rintro (hx | e)
                  · have := this.1 hx; omega
                  · exact absurd e hne
                · intro h; exact .inl (this.2 (by omega))
            · simp only [hb2, List.length_append, hle]
          · by_cases e : id' = id
            · subst e
              refine ⟨i + 1, by omega, hnew id' (.inr hfc), ?_⟩
              simp only [hb2]
              rw [List.getElem?_append_right (by omega), List.getElem?_append_right (by omega), hb1, hle]
            · obtain ⟨p, hp, hw, e'⟩ := hkeepC id' (by rintro (h | h) <;> rw [hfc] at h <;> cases h <;> exact e rfl)
              refine ⟨p, hp, hw, ?_⟩
              simp only
              by_cases hlt : id' < σc.length
              · rw [List.getElem?_append_left hlt]; exact e'
              · rw [← e', List.getElem?_eq_none (by simp; omega), List.getElem?_eq_none (by omega)]
      · rw [if_neg (by rw [wanted_sound h1 (hwant.trans hw)]; simp)]
        rw [hv] at hagree
        exact ih listed' _ _ hcount ⟨_, σc, g', q', rfl, h1.put o.dst (x := .d (.tup [])) (v := undef) (.tup _ _ .nil), h2, hagree, hsz', hcl', hkeepL (by rw [hfe]; simp), fun id => hkeepC id (by simp [Wr, hfe])⟩
  have hgd : g.le ⟨g.w.drew, g.S⟩ := ⟨fun _ _ _ _ h => h, fun _ _ h => h⟩
  have hI0 : Inv P Z B fr σ ⟨g.w.drew, g.S⟩ q a := by
    refine Inv.mk hI.defers (SRL.mono hgd (fun _ b h => ⟨b, h, rfl, rfl⟩) (fun _ _ h => ⟨h, rfl⟩) _ _ hI.slot) ?_ hI.inj ?_ hI.apart hI.base hI.dom (hI.glob.mono hgd)
    · intro id b hb
      obtain ⟨vs, k1, k2, k4, k5, k6⟩ := hI.box id b hb
      exact ⟨vs, k1, BR.mono hgd (fun _ b h => ⟨b, h, rfl, rfl⟩) (fun _ _ h => ⟨h, rfl⟩) k2, k4, k5, k6⟩
    · intro k T rows hk
      have ht := hI.tag k T rows hk
      refine ht.mono hgd (fun _ _ => rfl) (fun _ _ _ => Iff.rfl) ?_
      intro b hb id hid
      obtain ⟨_, _, _, _, _, hkk⟩ := ht
      exact (hkk b hb).2 id hid
  have hE0 : Evo g σ q ⟨g.w.drew, g.S⟩ σ q :=
    ⟨hgd, rfl, rfl, rfl, Nat.le_refl _, fun _ _ _ => ⟨rfl, fun _ => Iff.rfl⟩, fun _ h => .inl h, fun _ b h => ⟨b, h, rfl, rfl⟩, Nat.le_refl _⟩
  have hnone : ∀ j, ¬ X (Array.replicate ops.size false) j := by
    intro j hj
    simp only [X] at hj
    rw [Array.getElem?_replicate] at hj
    split at hj <;> simp at hj
  refine main ops.size _ a _ ?_ ⟨fr, Si 0, ⟨g.w.drew, g.S⟩, q, rfl, by rw [s0]; exact hI0, by rw [s0]; exact hE0, ⟨rfl, fun _ _ => rfl, fun j o t _ hx => absurd hx (hnone j)⟩, by simp [hlen],
    fun i o _ hx => absurd hx (hnone i), ⟨0, Nat.zero_le _, fun j _ _ _ _ _ => ⟨fun hx => absurd hx (hnone j), fun h => absurd h (Nat.not_lt_zero j)⟩, rfl⟩,
    fun id => ⟨0, Nat.zero_le _, fun j _ _ _ _ => ⟨fun hx => absurd hx (hnone j), fun h => absurd h (Nat.not_lt_zero j)⟩, rfl⟩⟩
  have : (List.range l.length).countP (fun j => (Array.replicate ops.size false).getD j true) = 0 := by
    rw [List.countP_eq_zero]
    intro j hj
    have hlt : j < ops.size := by rw [← hlen]; exact List.mem_range.1 hj
    simp [Array.getD_eq_getD_getElem?, Array.getElem?_replicate, hlt]
  rw [this, hlen]
  omega
end Go.Vm
