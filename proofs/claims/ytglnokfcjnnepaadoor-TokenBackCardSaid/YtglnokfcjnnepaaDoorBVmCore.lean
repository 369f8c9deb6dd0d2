/- The data of the VM: values that hold slices as lists; their tie to the model's values in a world. -/
import Derived.WalkKit
import Derived.Laws.AppendOwn
namespace Go.Vm
open Go Go.RowKit

inductive D where
  | sc (v : Value)
  | agg (cs : List D)
  | tup (cs : List D)
  | sl (rows : List (List D))
  | nil
  | fn (f : FuncId) (first cap : List D)
  deriving Inhabited

/-- A value without addresses, of one cell. -/
def flat : Value → Bool
  | .bool _ | .int .. | .string _ | .float .. | .complex .. | .nilFunc | .nilIface | .pointer none | .map none | .chan none => true
  | _ => false

mutual
def ofV : Value → Option D
  | .agg ⟨l⟩ => if l.all (·.oneCell') then (ofL l).map .agg else none
  | .tuple ⟨l⟩ => (ofL l).map .tup
  | .slice none 0 0 => some .nil
  | .func (.func f) ⟨[]⟩ ⟨[]⟩ => some (.fn f [] [])
  | v => if flat v then some (.sc v) else none
def ofL : List Value → Option (List D)
  | [] => some []
  | v :: l => match ofV v, ofL l with
    | some x, some xs => some (x :: xs)
    | _, _ => none
end

mutual
def toV : D → Option Value
  | .sc v => some v
  | .agg l => (toL l).map fun vs => .agg ⟨vs⟩
  | .tup l => (toL l).map fun vs => .tuple ⟨vs⟩
  | .fn f [] [] => some (.func (.func f) ⟨[]⟩ ⟨[]⟩)
  | .nil => some (.slice none 0 0)
  | _ => none
def toL : List D → Option (List Value)
  | [] => some []
  | x :: l => match toV x, toL l with
    | some v, some vs => some (v :: vs)
    | _, _ => none
end

/-- What the tie is told: the world, and which cells stay as they are. -/
structure G where
  w : World
  S : Nat → Nat → Prop

mutual
inductive CR (g : G) : D → Value → Prop
  | sc (v : Value) (h : flat v = true) : CR g (.sc v) v
  | agg (xs : List D) (vs : List Value) (h1 : ∀ u ∈ vs, u.oneCell' = true) (h : CRL g xs vs) : CR g (.agg xs) (.agg ⟨vs⟩)
  | tup (xs : List D) (vs : List Value) (h : CRL g xs vs) : CR g (.tup xs) (.tuple ⟨vs⟩)
  | nil : CR g .nil (.slice none 0 0)
  | sl0 (b : Option Addr) (c : Nat) : CR g (.sl []) (.slice b 0 c)
  | sl (b o c sz : Nat) (rows : List (List D)) (hc : rows.length ≤ c) (h : CRR g b o sz rows) : CR g (.sl rows) (.slice (some ⟨b, o, none⟩) rows.length c)
  | fn (f : FuncId) (xs ys : List D) (vs us : List Value) (h : CRL g xs vs) (k : CRL g ys us) : CR g (.fn f xs ys) (.func (.func f) ⟨vs⟩ ⟨us⟩)
inductive CRL (g : G) : List D → List Value → Prop
  | nil : CRL g [] []
  | cons (x : D) (v : Value) (xs : List D) (vs : List Value) (h : CR g x v) (k : CRL g xs vs) : CRL g (x :: xs) (v :: vs)
inductive CRC (g : G) : Nat → Nat → List D → Prop
  | nil (b o : Nat) : CRC g b o []
  | cons (b o : Nat) (x : D) (v : Value) (xs : List D) (hc : g.w.cell? ⟨b, o, none⟩ = some v) (hs : g.S b o) (h1 : v.oneCell' = true) (h : CR g x v) (k : CRC g b (o + 1) xs) : CRC g b o (x :: xs)
inductive CRR (g : G) : Nat → Nat → Nat → List (List D) → Prop
  | nil (b o sz : Nat) : CRR g b o sz []
  | cons (b o sz : Nat) (row : List D) (rows : List (List D)) (hl : row.length = sz) (h : CRC g b o row) (k : CRR g b (o + sz) sz rows) : CRR g b o sz (row :: rows)
end

/-- One state of the tie behind another: what stays, stays; boxes stay where they are. -/
structure G.le (g g' : G) : Prop where
  cell : ∀ b o v, g.S b o → g.w.cell? ⟨b, o, none⟩ = some v → g'.w.cell? ⟨b, o, none⟩ = some v
  stay : ∀ b o, g.S b o → g'.S b o

theorem G.le.refl (g : G) : g.le g := ⟨fun _ _ _ _ h => h, fun _ _ h => h⟩
theorem G.le.trans {a b c : G} (h : a.le b) (k : b.le c) : a.le c :=
  ⟨fun x o v hs hc => k.cell x o v (h.stay x o hs) (h.cell x o v hs hc), fun x o hs => k.stay x o (h.stay x o hs)⟩

mutual
theorem CR.mono {g g' : G} (hg : g.le g') {x : D} {v : Value} : CR g x v → CR g' x v
  | .sc _ h => .sc _ h
  | .agg _ _ h1 h => .agg _ _ h1 (CRL.mono hg h)
  | .tup _ _ h => .tup _ _ (CRL.mono hg h)
  | .sl0 b c => .sl0 b c
  | .nil => .nil
  | .sl b o c sz rows hc h => .sl b o c sz rows hc (CRR.mono hg h)
  | .fn f xs ys vs us h k => .fn f xs ys vs us (CRL.mono hg h) (CRL.mono hg k)
theorem CRL.mono {g g' : G} (hg : g.le g') {xs : List D} {vs : List Value} : CRL g xs vs → CRL g' xs vs
  | .nil => .nil
  | .cons _ _ _ _ h k => .cons _ _ _ _ (CR.mono hg h) (CRL.mono hg k)
theorem CRC.mono {g g' : G} (hg : g.le g') {b o : Nat} {xs : List D} : CRC g b o xs → CRC g' b o xs
  | .nil b o => .nil b o
  | .cons b o x v xs hc hs h1 h k => .cons b o x v xs (hg.cell b o v hs hc) (hg.stay b o hs) h1 (CR.mono hg h) (CRC.mono hg k)
theorem CRR.mono {g g' : G} (hg : g.le g') {b o sz : Nat} {rows : List (List D)} : CRR g b o sz rows → CRR g' b o sz rows
  | .nil b o sz => .nil b o sz
  | .cons b o sz row rows hl h k => .cons b o sz row rows hl (CRC.mono hg h) (CRR.mono hg k)
end

mutual
theorem CR.ofV (g : G) : (v : Value) → (x : D) → ofV v = some x → CR g x v
  | .agg ⟨l⟩, x, h => by
    simp only [Vm.ofV] at h
    split at h
    · rename_i h1
      simp only [Option.map_eq_some_iff] at h
      obtain ⟨xs, hx, rfl⟩ := h
      exact .agg _ _ (List.all_eq_true.1 h1) (CRL.ofL g l xs hx)
    · cases h
  | .tuple ⟨l⟩, x, h => by
    simp only [Vm.ofV, Option.map_eq_some_iff] at h
    obtain ⟨xs, hx, rfl⟩ := h
    exact .tup _ _ (CRL.ofL g l xs hx)
  | .slice a n c, x, h => by
    unfold Vm.ofV at h
    split at h
    all_goals first
      | (simp [flat] at h; done)
      | (cases h; simp_all; exact .nil)
      | simp_all
  | .func f a b, x, h => by
    unfold Vm.ofV at h
    split at h
    all_goals first
      | (simp [flat] at h; done)
      | (cases h; simp_all; exact .fn _ _ _ _ _ .nil .nil)
      | simp_all
  | .bool _, x, h | .int .., x, h | .string _, x, h | .float .., x, h | .complex .., x, h | .nilFunc, x, h | .nilIface, x, h => by
    simp only [Vm.ofV, flat, if_true, Option.some.injEq] at h
    subst h
    exact .sc _ rfl
  | .pointer a, x, h => by cases a <;> simp [Vm.ofV, flat] at h; subst h; exact .sc _ rfl
  | .map a, x, h => by cases a <;> simp [Vm.ofV, flat] at h; subst h; exact .sc _ rfl
  | .chan a, x, h => by cases a <;> simp [Vm.ofV, flat] at h; subst h; exact .sc _ rfl
  | .iface _ _, x, h => by simp [Vm.ofV, flat] at h
theorem CRL.ofL (g : G) : (l : List Value) → (xs : List D) → Vm.ofL l = some xs → CRL g xs l
  | [], xs, h => by simp only [Vm.ofL, Option.some.injEq] at h; subst h; exact .nil
  | v :: l, xs, h => by
    simp only [Vm.ofL] at h
    split at h
    · rename_i x ys hx hy
      simp only [Option.some.injEq] at h
      subst h
      exact .cons _ _ _ _ (CR.ofV g v x hx) (CRL.ofL g l ys hy)
    · cases h
end

mutual
theorem CR.toV {g : G} : (x : D) → (v u : Value) → CR g x v → Vm.toV x = some u → v = u
  | .sc _, _, _, .sc _ _, h => by simpa [Vm.toV] using h
  | .agg l, _, u, .agg _ vs _ k, h => by
    simp only [Vm.toV, Option.map_eq_some_iff] at h
    obtain ⟨us, hu, rfl⟩ := h
    rw [CRL.toL l vs us k hu]
  | .tup l, _, u, .tup _ vs k, h => by
    simp only [Vm.toV, Option.map_eq_some_iff] at h
    obtain ⟨us, hu, rfl⟩ := h
    rw [CRL.toL l vs us k hu]
  | .nil, _, u, .nil, h => by simpa [Vm.toV] using h
  | .fn f [] [], _, u, .fn _ _ _ _ _ h1 h2, h => by
    cases h1; cases h2
    simpa [Vm.toV] using h
  | .fn f (_ :: _) _, _, u, _, h => by simp [Vm.toV] at h
  | .fn f [] (_ :: _), _, u, _, h => by simp [Vm.toV] at h
  | .sl _, _, _, _, h => by simp [Vm.toV] at h
theorem CRL.toL {g : G} : (l : List D) → (vs us : List Value) → CRL g l vs → Vm.toL l = some us → vs = us
  | [], _, _, .nil, h => by simpa [Vm.toL] using h
  | x :: l, _, us, .cons _ v _ vs h k, e => by
    simp only [Vm.toL] at e
    split at e
    · rename_i u ws hu hw
      simp only [Option.some.injEq] at e
      subst e
      rw [CR.toV x v u h hu, CRL.toL l vs ws k hw]
    · cases e
end

/-- A run that asks the world for nothing. -/
def eval0 {α : Type} (P : Program) : Sem α → Option α
  | .pure a => some a
  | .program k => eval0 P (k P)
  | .mark _ k => eval0 P k
  | _ => none
theorem eval0_run {α : Type} (P : Program) (w : World) : (s : Sem α) → (a : α) → eval0 P s = some a → s.run P w = .ok a w
  | .pure a, b, h => by simp only [eval0, Option.some.injEq] at h; subst h; rfl
  | .program k, b, h => by simp only [eval0] at h; simp only [Sem.run]; exact eval0_run P w (k P) b h
  | .mark _ k, b, h => by simp only [eval0] at h; simp only [Sem.run]; exact eval0_run P w k b h
  | .load .., _, h | .store .., _, h | .new .., _, h | .shape .., _, h | .freeze .., _, h | .frozen .., _, h | .getObj .., _, h | .setObj .., _, h | .choose .., _, h | .sys .., _, h | .halt .., _, h => by simp [eval0] at h


/-- 'ofV', the quick cases first. -/
def ofVF : Value → Option D
  | .int k n => some (.sc (.int k n))
  | .bool b => some (.sc (.bool b))
  | .string s => some (.sc (.string s))
  | v => ofV v
theorem ofVF_eq (v : Value) : ofVF v = ofV v := by
  cases v <;> rfl
theorem CR.ofVF (g : G) (v : Value) (x : D) (h : ofVF v = some x) : CR g x v := CR.ofV g v x (by rw [← ofVF_eq]; exact h)
end Go.Vm
