/- Laid tables; functions without bodies that count bytes or look for one. -/
import Derived.Test.YtmdmacmkmdgeaaaGreatDoorNRead
import Derived.Lib.Bytealg
import Derived.Lib.LaidTab
import Derived.Laws.Externs
namespace Go.N
open Go Go.RowKit

def idxB (c : Nat) : List UInt8 → Nat → Int
  | [], _ => -1
  | b :: l, i => bif Nat.beq b.toNat c then Int.ofNat i else idxB c l (i + 1)
def cntB (c : Nat) : List UInt8 → Nat → Nat
  | [], n => n
  | b :: l, n => bif Nat.beq b.toNat c then cntB c l (n + 1) else cntB c l n
theorem idxB_eq (c : UInt8) : ∀ (l : List UInt8) (i : Nat), idxB c.toNat l i = if Lib.indexByte l c = -1 then -1 else Lib.indexByte l c + i
  | [], i => rfl
  | b :: l, i => by
    unfold idxB Lib.indexByte
    by_cases hb : b = c
    · subst hb
      simp
    · have h1 : Nat.beq b.toNat c.toNat = false := by
        cases h : Nat.beq b.toNat c.toNat with
        | false => rfl
        | true => exact absurd (UInt8.toNat_inj.1 (Nat.eq_of_beq_eq_true h)) hb
      have h3 : (b == c) = false := by simpa using hb
      have hge := Lib.indexByte_ge l c
      simp only [h1, cond_false, idxB_eq c l (i + 1), h3, Bool.false_eq_true, if_false, beq_iff_eq]
      by_cases h2 : Lib.indexByte l c = -1
      · simp only [h2, if_true]
      · rw [if_neg h2, if_neg h2, if_neg (by omega)]
        omega
theorem idxB_ok (c : UInt8) (l : List UInt8) : idxB c.toNat l 0 = Lib.indexByte l c := by
  rw [idxB_eq]
  split
  · rename_i h; exact h.symm
  · simp
theorem cntB_eq (c : UInt8) : ∀ (l : List UInt8) (n : Nat), cntB c.toNat l n = Lib.countByte l c + n
  | [], n => by simp [cntB, Lib.countByte]
  | b :: l, n => by
    unfold cntB
    have e : Lib.countByte (b :: l) c = Lib.countByte l c + if b == c then 1 else 0 := by simp [Lib.countByte, List.count_cons]
    rw [e]
    by_cases hb : b = c
    · subst hb
      have h1 : Nat.beq b.toNat b.toNat = true := Nat.beq_refl _
      rw [h1, cond_true, cntB_eq b l (n + 1)]
      simp; omega
    · have h1 : Nat.beq b.toNat c.toNat = false := by
        cases h : Nat.beq b.toNat c.toNat with
        | false => rfl
        | true => exact absurd (UInt8.toNat_inj.1 (Nat.eq_of_beq_eq_true h)) hb
      rw [h1, cond_false, cntB_eq c l n]
      simp [hb]

/-- The functions without bodies: fc counts a byte, fi looks for one. -/
def byteX (fc fi : Nat) (f : FuncId) (args : List V) : Option V := match args with
  | [.sc (.string s), .sc (.int .u8 c)] =>
    bif Nat.beq f fc then some (.sc (.int .i64 (Int.ofNat (cntB c.toNat.toUInt8.toNat s.data.toList 0))))
    else bif Nat.beq f fi then some (.sc (.int .i64 (idxB c.toNat.toUInt8.toNat s.data.toList 0))) else none
  | _ => none
theorem byteX_ok {P : Program} {fc fi : Nat} {gc gi : Func} (hc : P.funcs[fc]? = some gc) (hc1 : (gc.name == "runtime.NumGoroutine") = false) (hc2 : gc.body.isNone = true) (hc3 : Extern.findNext gc = none) (hc4 : Extern.find gc = some Extern.BytealgCount.count)
    (hi : P.funcs[fi]? = some gi) (hi1 : (gi.name == "runtime.NumGoroutine") = false) (hi2 : gi.body.isNone = true) (hi3 : Extern.findNext gi = none) (hi4 : Extern.find gi = some Extern.BytealgIndexByte.indexByte)
    {f : FuncId} {args : List V} {r : V} (h : byteX fc fi f args = some r) : XC P f args r := by
  unfold byteX at h
  split at h
  · rename_i s c
    intro q w vs hvs
    obtain ⟨v, us, ⟨rfl, _⟩, ⟨u, ts, ⟨rfl, _⟩, k2, rfl⟩, rfl⟩ := hvs
    simp only [RL] at k2
    subst k2
    cases h1 : Nat.beq f fc with
    | true =>
      obtain rfl := Nat.eq_of_beq_eq_true h1
      simp only [h1, cond_true, Option.some.injEq] at h
      subst h
      refine ⟨_, ?_, ⟨rfl, rfl⟩⟩
      rw [run_callFunc_extern hc hc1 hc2 hc3 hc4, Lib.run_countString, cntB_eq]
      rfl
    | false =>
      simp only [h1, cond_false] at h
      cases h2 : Nat.beq f fi with
      | false => simp [h2] at h
      | true =>
        obtain rfl := Nat.eq_of_beq_eq_true h2
        simp only [h2, cond_true, Option.some.injEq] at h
        subst h
        refine ⟨_, ?_, ⟨rfl, rfl⟩⟩
        rw [run_callFunc_extern hi hi1 hi2 hi3 hi4, Lib.run_indexByteString, idxB_ok]
        rfl
  · cases h
def byteO (fc fi : Nat) : Orc := ⟨fun _ _ _ => none, byteX fc fi⟩

/-- The first heap, with one laid table at number k. -/
def hTab (G k : Nat) (cs : List V) : Hp := ⟨G, G, [], Tr.lf.set k (some (.ro 0 cs))⟩
def qTab (k n : Nat) : Q := fun id => if id = k then some ⟨k, 0, n⟩ else none
theorem hTab_get {G k : Nat} {cs : List V} (id : Nat) : (hTab G k cs).get id = if id = k then some (.ro 0 cs) else none := by
  show (Tr.lf.set k _).get id = _
  rw [Tr.get_set]
  split <;> rfl
theorem hTab_ok {W : World} {G k : Nat} (hk : k < G) {zs : List Int} {u : IntKind} {vs : Array Value} {T : TypeId} {fz : Nat × Nat} (hh : W.heap[k]? = some (.cells vs T fz)) (hvs : vs = (zs.map fun z => Value.int u z).toArray) :
    HT W.heap.size (qTab k vs.size) (hTab G k (zs.map fun z => .sc (.int u z))) W := by
  have hlt : k < W.heap.size := (Array.getElem?_eq_some_iff.1 hh).1
  have hone : ∀ id o, (hTab G k (zs.map fun z => V.sc (.int u z))).get id = some o → id = k ∧ o = .ro 0 (zs.map fun z => V.sc (.int u z)) := by
    intro id o ho
    rw [hTab_get] at ho
    split at ho
    · rename_i h; exact ⟨h, by simpa using ho.symm⟩
    · cases ho
  refine ⟨⟨?_, ?_, ?_, Nat.le_refl _⟩, fun a ha => (by cases ha), Nat.le_refl _, ?_⟩
  · intro id o ho
    obtain ⟨rfl, rfl⟩ := hone id o ho
    refine ⟨⟨id, 0, vs.size⟩, if_pos rfl, ⟨vs.toList, T, fz, hh, by simp, ?_, ?_, ?_⟩, fun hl => absurd hl (Nat.not_le.2 hk)⟩
    · simp [hvs]
    · subst hvs
      simp only [List.drop_zero]
      rw [List.take_of_length_le (by simp)]
      refine RL.of (by simp) fun i x v hx hv => ?_
      simp only [List.getElem?_map, Option.map_eq_some_iff] at hx hv
      obtain ⟨z, hz, rfl⟩ := hx
      obtain ⟨z', hz', rfl⟩ := hv
      rw [hz] at hz'
      cases hz'
      exact ⟨rfl, rfl⟩
    · subst hvs
      intro v hv
      simp only [List.mem_map] at hv
      obtain ⟨z, _, rfl⟩ := hv
      rfl
  · intro i j o p e f hi hj _ _ _
    rw [(hone i o hi).1, (hone j p hj).1]
  · intro id e he
    unfold qTab at he
    split at he
    · cases he; exact hlt
    · cases he
  · intro id hid
    show (Tr.lf.set k _).get id = none
    have hid : G ≤ id := hid
    rw [Tr.get_set, if_neg (by omega)]
    rfl

theorem calls_of_heap {P : Program} {Z : Nat → Bool} {E : Env} (hE : EnvOk P Z E) {f : FuncId} (hb : hasBody P f = true) {args : List V} {h : Hp} {q : Q} (hr : isTrue (E.S f args h) = true) {W : World} {vs : List Value} (hT : HT W.heap.size q h W) (hz : GQ Z q) (hq : ∀ id, h.next ≤ id → q id = none) (hl : ∀ id o, h.get id = some o → id < h.lim) (hvs : RL q args vs) :
    Calls P f ⟨vs⟩ W fun e W' => e = .returned (.bool true) ∧ Below W.heap.size W W' := by
  obtain ⟨h', he⟩ := isTrue_eq hr
  refine (hE.S _ _ _ _ _ he hb W.heap.size q W vs hT (fun id h1 _ => hq id h1) hz hvs).mono ?_
  rintro e W' ⟨q', h1, h2, h3⟩
  refine ⟨?_, h2.os, h2.tape, h2.output, h2.size, fun b hb => h2.out b hb fun id o e hl' ho => absurd (hl id o ho) (Nat.not_lt.2 hl')⟩
  cases e with
  | returned v => obtain ⟨rfl, _⟩ := h3; rfl
  | panicked ch => exact h3.elim
  | outgrown => exact h3.elim
/-- The contract of a law that reads one table. -/
theorem calls_of_tab {P : Program} {E : Env} {k : Nat} (hE : EnvOk P (fun j => Nat.beq j k) E) {f : FuncId} (hb : hasBody P f = true) {args : List V} {G : Nat} (hk : k < G) {zs : List Int} {u : IntKind} (hr : isTrue (E.S f args (hTab G k (zs.map fun z => .sc (.int u z)))) = true) {W : World} {vs : List Value}
    {name : String} (hg : P.globalNamed name = some k) (ht : Lib.TabIs P W name u zs) (hvs : RL (fun _ => none) args vs) :
    Calls P f ⟨vs⟩ W fun e W' => e = .returned (.bool true) ∧ Below W.heap.size W W' := by
  unfold Lib.TabIs World.var? at ht
  rw [hg] at ht
  simp only [Option.bind_some] at ht
  split at ht
  · rename_i cs T fz hh
    simp only [Option.some.injEq] at ht
    refine calls_of_heap hE hb hr (hTab_ok hk hh ht) (fun j hj => ?_) (fun id hid => if_neg ?_) (fun id o ho => ?_) (RL.mono (fun _ _ h => by cases h) _ _ hvs)
    · obtain rfl := Nat.eq_of_beq_eq_true hj
      exact ⟨cs.size, if_pos rfl⟩
    · have hid : G ≤ id := hid
      omega
    · rw [hTab_get] at ho
      split at ho
      · rename_i h; rw [h]; exact hk
      · cases ho
  · cases ht
def spaceTab : List Int := (List.range 256).map fun i => if i == 9 || i == 10 || i == 11 || i == 12 || i == 13 || i == 32 then 1 else 0
theorem byteO_ok {P : Program} {Z : Nat → Bool} {fc fi : Nat} {gc gi : Func} (hc : P.funcs[fc]? = some gc) (hc1 : (gc.name == "runtime.NumGoroutine") = false) (hc2 : gc.body.isNone = true) (hc3 : Extern.findNext gc = none) (hc4 : Extern.find gc = some Extern.BytealgCount.count)
    (hi : P.funcs[fi]? = some gi) (hi1 : (gi.name == "runtime.NumGoroutine") = false) (hi2 : gi.body.isNone = true) (hi3 : Extern.findNext gi = none) (hi4 : Extern.find gi = some Extern.BytealgIndexByte.indexByte) : OrcOk P Z (byteO fc fi) :=
  ⟨fun _ _ _ _ _ h => (by cases h), fun _ _ _ _ _ h => (by cases h), fun _ _ _ h _ => byteX_ok hc hc1 hc2 hc3 hc4 hi hi1 hi2 hi3 hi4 h⟩
end Go.N
