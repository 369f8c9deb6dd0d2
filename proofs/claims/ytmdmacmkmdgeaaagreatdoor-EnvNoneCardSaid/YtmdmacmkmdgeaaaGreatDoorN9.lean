/- Regions that draw their order: the order of the text serves for all. -/
import Derived.Test.YtmdmacmkmdgeaaaGreatDoorN8
import Derived.Orders
namespace Go.N
open Go Go.RowKit

def psOf (o : Oper) : List Nat := (o.after.toList.filter (Region.binds .any)).map (·.on)
/-- A list's elements, once. -/
def onces : List Nat → List Nat
  | [] => []
  | x :: l => bif memB x (onces l) then onces l else x :: onces l
theorem mem_onces {x : Nat} : ∀ {l : List Nat}, x ∈ onces l → x ∈ l
  | [], h => h
  | y :: l, h => by
    unfold onces at h
    cases hb : memB y (onces l) with
    | true => rw [hb] at h; exact List.mem_cons_of_mem _ (mem_onces h)
    | false =>
      rw [hb] at h
      rcases List.mem_cons.1 h with rfl | h
      · exact List.mem_cons_self
      · exact List.mem_cons_of_mem _ (mem_onces h)
/-- What comes ahead of each operation, whatever the order. -/
def ancsGo : List Oper → List (List Nat) → List (List Nat)
  | [], acc => acc
  | o :: l, acc => ancsGo l (acc ++ [onces (psOf o ++ (psOf o).flatMap fun e => acc.getD e [])])
def ancs (l : List Oper) : List (List Nat) := ancsGo l []
def tmpsOf (o : Oper) : List Tmp := o.op.operands.toList.filterMap fun | .tmp t => some t | _ => none

def drawOk (ops : Array Oper) : Bool :=
  let L := ops.toList
  let A := ancs L
  L.zipIdx.all fun (o, i) =>
    (psOf o).all (fun e => decide (e < i)) &&
    (match o.guard with
     | none => true
     | some (j, _) => (psOf o).contains j) &&
    L.zipIdx.all fun (o', j) =>
      (match o'.dst with
       | none => true
       | some t => (i == j || o.dst != some t) && (!(tmpsOf o).contains t || i == j || (A.getD i []).contains j || (A.getD j []).contains i))

def Closed (l : List Oper) (X : Nat → Prop) : Prop := ∀ i o, l[i]? = some o → X i → ∀ e ∈ psOf o, X e
theorem ancsGo_ok (L : List Oper) : ∀ (l : List Oper) (acc : List (List Nat)), (∀ k o, l[k]? = some o → L[acc.length + k]? = some o) →
    (∀ i j, j ∈ acc.getD i [] → ∀ X, Closed L X → X i → X j) → ∀ i j, j ∈ (ancsGo l acc).getD i [] → ∀ X, Closed L X → X i → X j
  | [], acc, _, h, i, j, hj => h i j hj
  | o :: l, acc, hl, h, i, j, hj => by
    refine ancsGo_ok L l _ (fun k o' hk => ?_) (fun i j hj X hX hi => ?_) i j hj
    · have := hl (k + 1) o' (by simpa using hk)
      simp only [List.length_append, List.length_cons, List.length_nil]
      rwa [show acc.length + (0 + 1) + k = acc.length + (k + 1) from by omega]
    · by_cases hlt : i < acc.length
      · rw [List.getD_eq_getElem?_getD, List.getElem?_append_left hlt, ← List.getD_eq_getElem?_getD] at hj
        exact h i j hj X hX hi
      · by_cases he : i = acc.length
        · subst he
          rw [List.getD_eq_getElem?_getD, List.getElem?_append_right (Nat.le_refl _)] at hj
          simp only [Nat.sub_self, List.getElem?_cons_zero, Option.getD_some] at hj
          have hj := mem_onces hj
          simp only [List.mem_append, List.mem_flatMap] at hj
          have ho := hl 0 o rfl
          simp only [Nat.add_zero] at ho
          rcases hj with hj | ⟨e, he, hj⟩
          · exact hX _ o ho hi j hj
          · exact h e j hj X hX (hX _ o ho hi e he)
        · rw [List.getD_eq_getElem?_getD, List.getElem?_eq_none (by simp; omega)] at hj
          simp at hj
theorem ancs_ok {l : List Oper} {i j : Nat} (h : j ∈ (ancs l).getD i []) {X : Nat → Prop} (hX : Closed l X) (hi : X i) : X j :=
  ancsGo_ok l l [] (fun k o hk => by simpa using hk) (fun i j hj => by simp at hj) i j h X hX hi

structure DrawOk (l : List Oper) : Prop where
  back : ∀ (i : Nat) (o : Oper), l[i]? = some o → ∀ e ∈ psOf o, e < i
  guard : ∀ (i : Nat) (o : Oper), l[i]? = some o → ∀ j want, o.guard = some (j, want) → j ∈ psOf o
  once : ∀ (i : Nat) (o : Oper) (j : Nat) (o' : Oper) (t : Tmp), l[i]? = some o → l[j]? = some o' → o'.dst = some t → o.dst = some t → i = j
  opnds : ∀ (i : Nat) (o : Oper) (j : Nat) (o' : Oper) (t : Tmp), l[i]? = some o → l[j]? = some o' → o'.dst = some t → t ∈ tmpsOf o → i = j ∨ j ∈ (ancs l).getD i [] ∨ i ∈ (ancs l).getD j []
theorem drawOk_parts {ops : Array Oper} (h : drawOk ops = true) : DrawOk ops.toList := by
  have key : ∀ i o, ops.toList[i]? = some o → _ := fun i o ho => List.all_eq_true.1 h (o, i) (by rw [List.mem_zipIdx_iff_getElem?]; exact ho)
  have key2 : ∀ i o, ops.toList[i]? = some o → ∀ j o', ops.toList[j]? = some o' → _ := fun i o ho j o' ho' => by
    have := key i o ho
    simp only [Bool.and_eq_true] at this
    exact List.all_eq_true.1 this.2 (o', j) (by rw [List.mem_zipIdx_iff_getElem?]; exact ho')
  constructor
  · intro i o ho e he
    have := key i o ho
    simp only [Bool.and_eq_true] at this
    simpa using List.all_eq_true.1 this.1.1 e he
  · intro i o ho j want hg
    have := key i o ho
    simp only [Bool.and_eq_true, hg] at this
    simpa using this.1.2
  · intro i o j o' t ho ho' hd hd'
    have := key2 i o ho j o' ho'
    simp only [hd, Bool.and_eq_true] at this
    have := this.1
    simpa [hd'] using this
  · intro i o j o' t ho ho' hd ht
    have := key2 i o ho j o' ho'
    simp only [hd, Bool.and_eq_true] at this
    have := this.2
    simp only [Bool.or_eq_true, Bool.not_eq_true', beq_iff_eq, List.contains_iff_mem] at this
    rcases this with ((h | h) | h) | h
    · have : (tmpsOf o).contains t = true := by simpa using ht
      rw [this] at h; cases h
    · exact .inl h
    · exact .inr (.inl h)
    · exact .inr (.inr h)

/-- Which blocks an operation sees; may it write them? -/
inductive FK where
  | no
  | st (l : List Nat)
  | rd (l : List Nat)
  | wr (l : List Nat)
  | rdAll
  | wrAll
structure Foot where
  k : FK
  fs : List Fl
  fr : List V
  h : Hp
  v : V
def common : List Nat → List Nat → Bool
  | [], _ => false
  | x :: l, k => memB x k || common l k
theorem common_of {x : Nat} : ∀ {l k : List Nat}, x ∈ l → x ∈ k → common l k = true
  | y :: l, k, h, h2 => by
    simp only [common, Bool.or_eq_true]
    rcases List.mem_cons.1 h with rfl | h
    · exact .inl (memB_iff.2 h2)
    · exact .inr (common_of h h2)
/-- Two operations whose order counts. -/
def conf : FK → FK → Bool
  | .no, _ => false
  | .st _, _ => false
  | _, .st _ => false
  | .rd _, .no | .rd _, .rd _ | .rd _, .rdAll => false
  | .rdAll, .no | .rdAll, .rd _ | .rdAll, .rdAll => false
  | .wr _, .no | .wrAll, .no => false
  | .wr a, .wr b | .rd a, .wr b | .wr a, .rd b => common a b || common b a
  | _, _ => true
def confOk (A : List (List Nat)) (ft : List Foot) : Bool :=
  ft.zipIdx.all fun (f, i) => ft.zipIdx.all fun (f', j) => Nat.ble i j || !conf f'.k f.k || memB j (A.getD i [])
theorem conf_symm : ∀ a b : FK, conf a b = conf b a := by
  intro a b
  cases a <;> cases b <;> simp [conf, Bool.or_comm]
theorem confOk_parts {A : List (List Nat)} {ft : List Foot} (h : confOk A ft = true) {i j : Nat} {f f' : Foot} (hi : ft[i]? = some f) (hj : ft[j]? = some f') (hlt : j < i) (hc : conf f'.k f.k = true) : j ∈ A.getD i [] := by
  have h1 := List.all_eq_true.1 h (f, i) (by rw [List.mem_zipIdx_iff_getElem?]; exact hi)
  have h2 := List.all_eq_true.1 h1 (f', j) (by rw [List.mem_zipIdx_iff_getElem?]; exact hj)
  simp only [Bool.or_eq_true, hc, Bool.not_true, Bool.false_eq_true, or_false, memB_iff] at h2
  rcases h2 with h2 | h2
  · have := Nat.le_of_ble_eq_true h2; omega
  · exact h2

/-- The heap, as an operation sees it. -/
def view (h : Hp) (f : Foot) : Hp := match f.k with
  | .no => ⟨h.next, h.next, .only [] h.next :: (f.fs ++ h.hid), h.tr⟩
  | .st l => ⟨h.next, h.next, .only l h.next :: h.hid, h.tr⟩
  | .rd l => ⟨h.next, h.next, .only l h.next :: (f.fs ++ h.hid), h.tr⟩
  | .wr l => ⟨h.next, h.lim, .only l h.next :: (f.fs ++ h.hid), h.tr⟩
  | .rdAll => ⟨h.next, h.next, f.fs ++ h.hid, h.tr⟩
  | .wrAll => ⟨h.next, h.lim, f.fs ++ h.hid, h.tr⟩
def back (h h' : Hp) : Hp := ⟨h'.next, h.lim, h.hid, h'.tr⟩
def denies (A : List Nat) : Nat → List (Nat × Nat) → List Fl
  | _, [] => []
  | j, (a, b) :: l => bif memB j A || Nat.beq a b then denies A (j + 1) l else .deny a b :: denies A (j + 1) l

def idsOf : Option V → List Nat
  | some (.sl id ..) => [id]
  | some (.ptr id _) => [id]
  | some (.mp id) => [id]
  | _ => []
def footE (Z : Nat → Bool) (o : Oper) (fr : List V) (all shaky : Bool) : FK := match o.op with
  | .load _ x => bif shaky then .st (idsOf (opnd Z fr x)) else .rd (idsOf (opnd Z fr x))
  | .lookup _ x .. => bif shaky then .st (idsOf (opnd Z fr x)) else .rd (idsOf (opnd Z fr x))
  | .slice _ x .. | .range _ x => .rd (idsOf (opnd Z fr x))
  | .entry _ => .rdAll
  | .store _ x _ | .mapUpdate _ x .. | .insert _ x .. | .mapEntry _ x _ | .entryStore _ x .. => .wr (idsOf (opnd Z fr x))
  | .call { callee := .builtin .append, args, .. } => match args.toList with
    | [s, x] => match opnd Z fr s with
      | some (.sl id ..) => .wr (id :: idsOf (opnd Z fr x))
      | _ => .rd (idsOf (opnd Z fr x))
    | _ => .no
  | .call { callee := .builtin .clear, args, .. } | .call { callee := .builtin .copy, args, .. } => .wr (args.toList.flatMap fun x => idsOf (opnd Z fr x))
  | .call { callee := .builtin _, args, .. } => .rd (args.toList.flatMap fun x => idsOf (opnd Z fr x))
  | .call _ => bif all then .wrAll else .rdAll
  | _ => .no
def heavy : Op → Bool
  | .range .. | .entry .. | .load .. | .slice .. | .lookup .. | .store .. | .mapUpdate .. | .insert .. | .mapEntry .. | .entryStore .. | .call .. => true
  | _ => false
def isLoad : Op → Bool
  | .load .. | .lookup .. => true
  | _ => false
def writes : Op → Bool
  | .store .. | .mapUpdate .. | .insert .. | .mapEntry .. | .entryStore .. | .call { callee := .value _, .. } | .call { callee := .builtin .append, .. } | .call { callee := .builtin .clear, .. } | .call { callee := .builtin .copy, .. } => true
  | _ => false
/-- May the operation write what it will? It may, if each other one that touches blocks (but loads) comes ahead of it or behind it, whatever the order. -/
def alone (L : List Oper) (A : List (List Nat)) (i : Nat) : Bool :=
  L.zipIdx.all fun (o, j) => Nat.beq j i || !heavy o.op || isLoad o.op || memB j (A.getD i []) || memB i (A.getD j [])
/-- Is there a write that may come ahead or behind? -/
def shaky (L : List Oper) (A : List (List Nat)) (i : Nat) : Bool :=
  L.zipIdx.any fun (o, j) => writes o.op && !(Nat.beq j i || memB j (A.getD i []) || memB i (A.getD j []))

/-- Operations that leave the heap, and do not look at it. -/
def plainOp : Op → Bool
  | .move _ | .assign _ | .pick .. | .binOp .. | .unOp .. | .nilCheck _ | .fieldAddr .. | .field .. | .indexAddr .. | .index .. | .extract .. | .build .. | .makeInterface .. => true
  | _ => false
/-- Is the operation the one that has to do with the heap? -/
def lone (L : List Oper) (i : Nat) : Bool := L.zipIdx.all fun (o, j) => Nat.beq j i || plainOp o.op
def kindE (Z : Nat → Bool) (o : Oper) (fr : List V) (L : List Oper) (A : List (List Nat)) (i : Nat) : FK := bif lone L i && !plainOp o.op then .wrAll else footE Z o fr (alone L A i) (shaky L A i)
/-- The order of the text. -/
def runD (P : Program) (Z : Nat → Bool) (E : Env) (ops : Array Oper) (A : List (List Nat)) : Nat → List Oper → List V → Hp → List (Nat × Nat) → Option ((List V × Hp) × List Foot)
  | _, [], fr, h, _ => some ((fr, h), [])
  | i, o :: l, fr, h, rs => match wantedE ops o fr with
    | some true =>
      let f : Foot := ⟨kindE Z o fr ops.toList A i, denies (A.getD i []) 0 rs, fr, h, .any⟩
      match oneOp P Z E o fr (view h f) with
      | some (.ret v, h') => (runD P Z E ops A (i + 1) l (putF fr o.dst v) (back h h') (rs ++ [(h.next, h'.next)])).map fun r => (r.1, ⟨f.k, f.fs, fr, h, v⟩ :: r.2)
      | _ => none
    | some false => (runD P Z E ops A (i + 1) l (putF fr o.dst (.tup [])) h (rs ++ [(h.next, h.next)])).map fun r => (r.1, ⟨.no, [], fr, h, .tup []⟩ :: r.2)
    | none => none

def beqVal : Value → Value → Bool
  | .bool a, .bool b => a == b
  | .int j a, .int k b => j == k && a == b
  | .string a, .string b => a.data.toList == b.data.toList
  | .pointer none, .pointer none => true
  | .slice none 0 0, .slice none 0 0 => true
  | .map none, .map none => true
  | .nilFunc, .nilFunc => true
  | .nilIface, .nilIface => true
  | _, _ => false
theorem beqVal_eq {a b : Value} (h : beqVal a b = true) : a = b := by
  unfold beqVal at h
  split at h
  · simp only [beq_iff_eq] at h; rw [h]
  · simp only [Bool.and_eq_true, beq_iff_eq] at h; rw [h.1, h.2]
  · rename_i a b
    simp only [beq_iff_eq] at h
    have : a.data = b.data := Array.ext' h
    cases a; cases b; simp_all
  all_goals first | rfl | cases h
mutual
def beqV : V → V → Bool
  | .sc a, .sc b => beqVal a b
  | .sl a b c d e f, .sl a' b' c' d' e' f' => Nat.beq a a' && Nat.beq b b' && Nat.beq c c' && Nat.beq d d' && Nat.beq e e' && (f == f')
  | .ptr a b, .ptr a' b' => Nat.beq a a' && Nat.beq b b'
  | .mp a, .mp a' => Nat.beq a a'
  | .clo f a b, .clo f' a' b' => Nat.beq f f' && beqVL a a' && beqVL b b'
  | .yld a, .yld a' => Nat.beq a a'
  | .ifc t v, .ifc t' v' => Nat.beq t t' && beqV v v'
  | .agg a, .agg a' => beqVL a a'
  | .tup a, .tup a' => beqVL a a'
  | _, _ => false
def beqVL : List V → List V → Bool
  | [], [] => true
  | x :: xs, y :: ys => beqV x y && beqVL xs ys
  | _, _ => false
end
mutual
theorem beqV_eq : (a b : V) → beqV a b = true → a = b
  | .sc a, .sc b, h => by simp only [beqV] at h; rw [beqVal_eq h]
  | .sl a b c d e f, .sl a' b' c' d' e' f', h => by
    simp only [beqV, Bool.and_eq_true, Nat.beq_eq, beq_iff_eq] at h
    obtain ⟨⟨⟨⟨⟨rfl, rfl⟩, rfl⟩, rfl⟩, rfl⟩, rfl⟩ := h
    rfl
  | .ptr a b, .ptr a' b', h => by
    simp only [beqV, Bool.and_eq_true, Nat.beq_eq] at h
    obtain ⟨rfl, rfl⟩ := h; rfl
  | .mp a, .mp b, h => by simp only [beqV, Nat.beq_eq] at h; rw [h]
  | .clo f a b, .clo f' a' b', h => by
    simp only [beqV, Bool.and_eq_true, Nat.beq_eq] at h
    rw [h.1.1, beqVL_eq a a' h.1.2, beqVL_eq b b' h.2]
  | .yld a, .yld b, h => by simp only [beqV, Nat.beq_eq] at h; rw [h]
  | .ifc t v, .ifc t' v', h => by
    simp only [beqV, Bool.and_eq_true, Nat.beq_eq] at h
    rw [h.1, beqV_eq v v' h.2]
  | .agg a, .agg b, h => by simp only [beqV] at h; rw [beqVL_eq a b h]
  | .tup a, .tup b, h => by simp only [beqV] at h; rw [beqVL_eq a b h]
  | .any, b, h => by cases b <;> simp [beqV] at h
  | .sc _, .sl .., h | .sc _, .ptr .., h | .sc _, .mp _, h | .sc _, .clo .., h | .sc _, .yld _, h | .sc _, .ifc .., h | .sc _, .agg _, h | .sc _, .tup _, h | .sc _, .any, h => by simp [beqV] at h
  | .sl .., .sc _, h | .sl .., .ptr .., h | .sl .., .mp _, h | .sl .., .clo .., h | .sl .., .yld _, h | .sl .., .ifc .., h | .sl .., .agg _, h | .sl .., .tup _, h | .sl .., .any, h => by simp [beqV] at h
  | .ptr .., .sc _, h | .ptr .., .sl .., h | .ptr .., .mp _, h | .ptr .., .clo .., h | .ptr .., .yld _, h | .ptr .., .ifc .., h | .ptr .., .agg _, h | .ptr .., .tup _, h | .ptr .., .any, h => by simp [beqV] at h
  | .mp _, .sc _, h | .mp _, .sl .., h | .mp _, .ptr .., h | .mp _, .clo .., h | .mp _, .yld _, h | .mp _, .ifc .., h | .mp _, .agg _, h | .mp _, .tup _, h | .mp _, .any, h => by simp [beqV] at h
  | .clo .., .sc _, h | .clo .., .sl .., h | .clo .., .ptr .., h | .clo .., .mp _, h | .clo .., .yld _, h | .clo .., .ifc .., h | .clo .., .agg _, h | .clo .., .tup _, h | .clo .., .any, h => by simp [beqV] at h
  | .yld _, .sc _, h | .yld _, .sl .., h | .yld _, .ptr .., h | .yld _, .mp _, h | .yld _, .clo .., h | .yld _, .ifc .., h | .yld _, .agg _, h | .yld _, .tup _, h | .yld _, .any, h => by simp [beqV] at h
  | .ifc .., .sc _, h | .ifc .., .sl .., h | .ifc .., .ptr .., h | .ifc .., .mp _, h | .ifc .., .clo .., h | .ifc .., .yld _, h | .ifc .., .agg _, h | .ifc .., .tup _, h | .ifc .., .any, h => by simp [beqV] at h
  | .agg _, .sc _, h | .agg _, .sl .., h | .agg _, .ptr .., h | .agg _, .mp _, h | .agg _, .clo .., h | .agg _, .yld _, h | .agg _, .ifc .., h | .agg _, .tup _, h | .agg _, .any, h => by simp [beqV] at h
  | .tup _, .sc _, h | .tup _, .sl .., h | .tup _, .ptr .., h | .tup _, .mp _, h | .tup _, .clo .., h | .tup _, .yld _, h | .tup _, .ifc .., h | .tup _, .agg _, h | .tup _, .any, h => by simp [beqV] at h
theorem beqVL_eq : (a b : List V) → beqVL a b = true → a = b
  | [], [], _ => rfl
  | x :: xs, y :: ys, h => by
    simp only [beqVL, Bool.and_eq_true] at h
    rw [beqV_eq x y h.1, beqVL_eq xs ys h.2]
  | [], _ :: _, h => by simp [beqVL] at h
  | _ :: _, [], h => by simp [beqVL] at h
end

def shortB : List Nat → Bool
  | [] | [_] => true
  | _ => false
def wrB (g : Foot) (id : Nat) : Bool := Nat.blt id g.h.next && vis g.fs id && (match g.k with | .wr l => memB id l | .wrAll => true | _ => false)
/-- Who writes a block. -/
def wrs (id : Nat) : Nat → List Foot → List Nat
  | _, [] => []
  | j, g :: ft => bif wrB g id then j :: wrs id (j + 1) ft else wrs id (j + 1) ft
def wrsOf (ft : List Foot) : List Nat → List Nat
  | [id] => wrs id 0 ft
  | _ => []
/-- Can an operation not see the state of a place? -/
def skipP (A : List (List Nat)) (i p : Nat) : List Nat → Bool
  | [] => false
  | j :: W => memB j (A.getD i []) && Nat.ble p j || memB i (A.getD j []) && Nat.blt j p || skipP A i p W
def stAll (P : Program) (Z : Nat → Bool) (E : Env) (A : List (List Nat)) (o : Oper) (fr : List V) (v : V) (ids : List Nat) (i : Nat) (W : List Nat) : Nat → List Hp → Bool
  | _, [] => true
  | p, hp :: hs => (skipP A i p W || match oneOp P Z E o fr (view hp ⟨.st ids, [], [], hp, .any⟩) with
      | some (.ret v', _) => beqV v' v
      | _ => false) && stAll P Z E A o fr v ids i W (p + 1) hs
/-- The loads that may come ahead of a write, or behind it, load the same at each place of the text that they may see. -/
def stOk (P : Program) (Z : Nat → Bool) (E : Env) (A : List (List Nat)) (ft0 : List Foot) (hs : List Hp) : Nat → List Oper → List Foot → Bool
  | i, o :: l, f :: ft => (match f.k with
    | .st ids => shortB ids && isLoad o.op && stAll P Z E A o f.fr f.v ids i (wrsOf ft0 ids) 0 hs
    | _ => true) && stOk P Z E A ft0 hs (i + 1) l ft
  | _, _, _ => true
theorem stAll_at {P : Program} {Z : Nat → Bool} {E : Env} {A : List (List Nat)} {o : Oper} {fr : List V} {v : V} {ids : List Nat} {i : Nat} {W : List Nat} : ∀ {hs : List Hp} {p0 p : Nat} {hp : Hp}, stAll P Z E A o fr v ids i W p0 hs = true → hs[p]? = some hp → skipP A i (p0 + p) W = false →
    ∃ h', oneOp P Z E o fr (view hp ⟨.st ids, [], [], hp, .any⟩) = some (.ret v, h')
  | hq :: hs, p0, 0, hp, h, h1, hk => by
    simp only [List.getElem?_cons_zero, Option.some.injEq] at h1
    subst h1
    simp only [Nat.add_zero] at hk
    simp only [stAll, hk, Bool.false_or, Bool.and_eq_true] at h
    have := h.1
    split at this
    · rename_i v' h' he
      exact ⟨h', by rw [he, beqV_eq _ _ this]⟩
    · cases this
  | hq :: hs, p0, p + 1, hp, h, h1, hk => by
    simp only [stAll, Bool.and_eq_true] at h
    exact stAll_at (p := p) h.2 (by simpa using h1) (by rw [show p0 + 1 + p = p0 + (p + 1) from by omega]; exact hk)
  | [], _, p, hp, h, h1, hk => by simp at h1
theorem mem_wrs {id : Nat} : ∀ {ft : List Foot} {j0 j : Nat}, j ∈ wrs id j0 ft → ∃ k g, j = j0 + k ∧ ft[k]? = some g ∧ wrB g id = true
  | [], j0, j, h => by simp [wrs] at h
  | g :: ft, j0, j, h => by
    simp only [wrs] at h
    have rest : j ∈ wrs id (j0 + 1) ft → ∃ k g', j = j0 + k ∧ (g :: ft)[k]? = some g' ∧ wrB g' id = true := fun h => by
      obtain ⟨k, g', e, h1, h2⟩ := mem_wrs h
      exact ⟨k + 1, g', by omega, by simpa using h1, h2⟩
    cases hb : wrB g id with
    | true =>
      rw [hb] at h
      rcases List.mem_cons.1 h with rfl | h
      · exact ⟨0, g, rfl, rfl, hb⟩
      · exact rest h
    | false => rw [hb] at h; exact rest h
theorem skipP_of {A : List (List Nat)} {i p : Nat} : ∀ {W : List Nat}, (∀ j ∈ W, (j ∈ A.getD i [] → j < p) ∧ (i ∈ A.getD j [] → p ≤ j)) → skipP A i p W = false
  | [], _ => rfl
  | j :: W, h => by
    have ⟨h1, h2⟩ := h j List.mem_cons_self
    have ih := skipP_of (A := A) (i := i) (p := p) (W := W) fun j hj => h j (List.mem_cons_of_mem _ hj)
    simp only [skipP, ih, Bool.or_false]
    rw [Bool.eq_false_iff]
    intro hc
    simp only [Bool.or_eq_true, Bool.and_eq_true, memB_iff] at hc
    rcases hc with ⟨a, b⟩ | ⟨a, b⟩
    · have := h1 a; have := Nat.le_of_ble_eq_true b; omega
    · have := h2 a; have : j < p := Nat.le_of_ble_eq_true b; omega

theorem denies_ok {A : List Nat} : ∀ {rs : List (Nat × Nat)} {j0 j a b id : Nat}, rs[j]? = some (a, b) → (j0 + j) ∉ A → a ≤ id → id < b → vis (denies A j0 rs) id = false
  | (a', b') :: rs, j0, 0, a, b, id, h, hA, h1, h2 => by
    simp only [List.getElem?_cons_zero, Option.some.injEq, Prod.mk.injEq] at h
    obtain ⟨rfl, rfl⟩ := h
    have e1 : memB j0 A = false := by
      cases hm : memB j0 A with
      | false => rfl
      | true => exact absurd (memB_iff.1 hm) hA
    have e2 : Nat.beq a' b' = false := by
      cases hb : Nat.beq a' b' with
      | false => rfl
      | true => have := Nat.eq_of_beq_eq_true hb; omega
    simp only [denies, e1, e2, Bool.or_false, cond_false, vis, Fl.vis]
    have e3 : Nat.blt id a' = false := by
      cases hb : Nat.blt id a' with
      | false => rfl
      | true => have : id < a' := Nat.le_of_ble_eq_true hb; omega
    have e4 : Nat.ble b' id = false := by
      cases hb : Nat.ble b' id with
      | false => rfl
      | true => have := Nat.le_of_ble_eq_true hb; omega
    simp [e3, e4]
  | (a', b') :: rs, j0, j + 1, a, b, id, h, hA, h1, h2 => by
    have ih := denies_ok (A := A) (rs := rs) (j0 := j0 + 1) (j := j) (by simpa using h) (by rwa [show j0 + 1 + j = j0 + (j + 1) from by omega]) h1 h2
    simp only [denies]
    cases memB j0 A || Nat.beq a' b' with
    | true => exact ih
    | false =>
      simp only [cond_false, vis, ih]
      cases (Fl.deny a' b').vis id <;> rfl
theorem denies_top {A : List Nat} {n : Nat} : ∀ {rs : List (Nat × Nat)} {j0 : Nat}, (∀ p ∈ rs, p.2 ≤ n) → ∀ f ∈ denies A j0 rs, f.top ≤ n
  | [], j0, _, f, hf => by simp [denies] at hf
  | (a, b) :: rs, j0, h, f, hf => by
    simp only [denies] at hf
    have ih := fun f hf => denies_top (A := A) (rs := rs) (j0 := j0 + 1) (fun p hp => h p (by simp [hp])) f hf
    cases hb : memB j0 A || Nat.beq a b with
    | true => rw [hb] at hf; exact ih f hf
    | false =>
      rw [hb] at hf
      rcases List.mem_cons.1 hf with rfl | hf
      · exact h (a, b) (by simp)
      · exact ih f hf

/-- What the order of the text does at an operation. -/
structure Good (P : Program) (Z : Nat → Bool) (E : Env) (ops : Array Oper) (A : List (List Nat)) (F : Nat → List V) (Hs : Nat → Hp) (V : Nat → V) (i : Nat) (o : Oper) (f : Foot) : Prop where
  fld : f.fr = F i ∧ f.h = Hs i ∧ f.v = V i
  run : (wantedE ops o (F i) = some true ∧ ∃ h', oneOp P Z E o (F i) (view (Hs i) f) = some (.ret (V i), h') ∧ Hs (i + 1) = back (Hs i) h') ∨ (wantedE ops o (F i) = some false ∧ V i = .tup [] ∧ Hs (i + 1) = Hs i ∧ f.k = .no)
  fr : F (i + 1) = putF (F i) o.dst (V i)
  deny : ∀ j, j < i → j ∉ A.getD i [] → ∀ id, (Hs j).next ≤ id → id < (Hs (j + 1)).next → vis f.fs id = false ∨ f.k = .no
  top : (∀ j, j < i → (Hs (j + 1)).next ≤ (Hs i).next) → ∀ g ∈ f.fs, g.top ≤ (Hs i).next

theorem runD_trace {P : Program} {Z : Nat → Bool} {E : Env} {ops : Array Oper} {A : List (List Nat)} : ∀ (l : List Oper) (k : Nat) (fr : List V) (h : Hp) (rs : List (Nat × Nat)) (F0 : Nat → List V) (H0 : Nat → Hp) (_V0 : Nat → V) (r : List V × Hp) (ft : List Foot),
    runD P Z E ops A k l fr h rs = some (r, ft) → F0 k = fr → H0 k = h → rs = (List.range k).map (fun j => ((H0 j).next, (H0 (j + 1)).next)) →
    ∃ (F : Nat → List V) (Hs : Nat → Hp) (Vs : Nat → V), (∀ j, j ≤ k → F j = F0 j ∧ Hs j = H0 j) ∧ F (k + l.length) = r.1 ∧ Hs (k + l.length) = r.2 ∧
      ∀ i o, l[i]? = some o → ∃ f, ft[i]? = some f ∧ Good P Z E ops A F Hs Vs (k + i) o f
  | [], k, fr, h, rs, F0, H0, V0, r, ft, he, hF, hH, hrs => by
    simp only [runD, Option.some.injEq, Prod.mk.injEq] at he
    obtain ⟨he, _⟩ := he
    subst he
    exact ⟨F0, H0, V0, fun _ _ => ⟨rfl, rfl⟩, hF, hH, fun i o h => by simp at h⟩
  | o :: l, k, fr, h, rs, F0, H0, V0, r, ft, he, hF, hH, hrs => by
    have key : ∀ (v : V) (h2 : Hp) (f : Foot), f.fr = fr → f.h = h → f.v = v → (runD P Z E ops A (k + 1) l (putF fr o.dst v) h2 (rs ++ [(h.next, h2.next)])).map (fun r => (r.1, f :: r.2)) = some (r, ft) →
        ((wantedE ops o fr = some true ∧ ∃ h', oneOp P Z E o fr (view h f) = some (.ret v, h') ∧ h2 = back h h') ∨ (wantedE ops o fr = some false ∧ v = .tup [] ∧ h2 = h ∧ f.k = .no)) →
        (f.k = .no ∨ f.fs = denies (A.getD k []) 0 rs) → (f.k = .no → f.fs = [] ∨ f.fs = denies (A.getD k []) 0 rs) →
        ∃ (F : Nat → List V) (Hs : Nat → Hp) (Vs : Nat → V), (∀ j, j ≤ k → F j = F0 j ∧ Hs j = H0 j) ∧ F (k + (o :: l).length) = r.1 ∧ Hs (k + (o :: l).length) = r.2 ∧
          ∀ i o', (o :: l)[i]? = some o' → ∃ f, ft[i]? = some f ∧ Good P Z E ops A F Hs Vs (k + i) o' f := by
      intro v h2 f hf1 hf2 hf3 hr hg hd hd2
      obtain ⟨⟨r0, ft0⟩, hr0, hee⟩ := Option.map_eq_some_iff.1 hr
      simp only [Prod.mk.injEq] at hee
      obtain ⟨rfl, rfl⟩ := hee
      obtain ⟨F, Hs, Vs, h1, h3, h4, h5⟩ := runD_trace l (k + 1) _ _ _ (fun j => if j = k + 1 then putF fr o.dst v else F0 j) (fun j => if j = k + 1 then h2 else H0 j) (fun j => if j = k then v else V0 j) _ _ hr0 (by simp) (by simp) (by
        rw [List.range_succ, List.map_append, hrs]
        congr 1
        · apply List.map_congr_left
          intro j hj
          have := List.mem_range.1 hj
          simp only [show j ≠ k + 1 by omega, show j + 1 ≠ k + 1 by omega, if_false]
        · simp [hH])
      have hFk : ∀ j, j ≤ k → F j = F0 j ∧ Hs j = H0 j := fun j hj => by
        have := h1 j (by omega)
        simp only [show j ≠ k + 1 by omega, if_false] at this
        exact this
      have hFk1 : F (k + 1) = putF fr o.dst v ∧ Hs (k + 1) = h2 := by simpa using h1 (k + 1) (Nat.le_refl _)
      refine ⟨F, Hs, fun j => if j = k then v else Vs j, hFk, ?_, ?_, ?_⟩
      · rw [List.length_cons, show k + (l.length + 1) = k + 1 + l.length from by omega]; exact h3
      · rw [List.length_cons, show k + (l.length + 1) = k + 1 + l.length from by omega]; exact h4
      · intro i o' hi
        cases i with
        | zero =>
          simp only [List.getElem?_cons_zero, Option.some.injEq] at hi
          subst hi
          refine ⟨f, rfl, ?_⟩
          have e1 := hFk k (Nat.le_refl _)
          have hrange : ∀ j, j < k → rs[j]? = some ((Hs j).next, (Hs (j + 1)).next) := fun j hj => by
            rw [hrs, List.getElem?_map, List.getElem?_range hj]
            simp only [Option.map_some, (hFk j (by omega)).2, (hFk (j + 1) (by omega)).2]
          constructor
          · simp only [Nat.add_zero, e1.1, e1.2, hF, hH, if_true]
            exact ⟨hf1, hf2, hf3⟩
          · simp only [Nat.add_zero, e1.1, e1.2, hF, hH, hFk1.2, if_true]
            exact hg
          · simp only [Nat.add_zero, e1.1, hF, hFk1.1, if_true]
          · intro j hj hA id a1 a2
            simp only [Nat.add_zero] at hj hA
            rcases hd with hd | hd
            · exact .inr hd
            · left
              rw [hd]
              exact denies_ok (j0 := 0) (hrange j hj) (by simpa using hA) a1 a2
          · intro hmono g hgm
            simp only [Nat.add_zero] at hmono ⊢
            have fin : f.fs = denies (A.getD k []) 0 rs → g.top ≤ (Hs k).next := by
              intro hd
              rw [hd] at hgm
              refine denies_top (n := (Hs k).next) (fun p hp => ?_) g hgm
              rw [hrs] at hp
              obtain ⟨j, hj, rfl⟩ := List.mem_map.1 hp
              have hj := List.mem_range.1 hj
              have := hmono j hj
              rw [(hFk (j + 1) (by omega)).2] at this
              exact this
            rcases hd with hd | hd
            · rcases hd2 hd with h0 | h0
              · rw [h0] at hgm; cases hgm
              · exact fin h0
            · exact fin hd
        | succ i =>
          obtain ⟨f', hf', hgo⟩ := h5 i o' (by simpa using hi)
          refine ⟨f', hf', ?_⟩
          rw [show k + (i + 1) = k + 1 + i from by omega]
          have hne : k + 1 + i ≠ k := by omega
          exact ⟨by simp only [hne, if_false]; exact hgo.fld, by simp only [hne, if_false]; exact hgo.run, by simp only [hne, if_false]; exact hgo.fr, hgo.deny, hgo.top⟩
    simp only [runD] at he
    split at he
    · rename_i hw
      split at he
      · rename_i v h' hst
        exact key v (back h h') _ rfl rfl rfl he (.inl ⟨hw, h', hst, rfl⟩) (.inr rfl) (fun _ => .inr rfl)
      · cases he
    · rename_i hw
      exact key _ h _ rfl rfl rfl he (.inr ⟨hw, rfl, rfl, rfl⟩) (.inl rfl) (fun _ => .inl rfl)
    · cases he
end Go.N
