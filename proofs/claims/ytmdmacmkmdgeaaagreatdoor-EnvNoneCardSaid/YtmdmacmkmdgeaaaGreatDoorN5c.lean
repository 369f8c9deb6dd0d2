/- append of a slice that is made on the spot; a string's bytes. -/
import Derived.Test.YtmdmacmkmdgeaaaGreatDoorN5b
namespace Go.N
open Go Go.RowKit

theorem wrap_i64 {n : Int} (h0 : 0 ≤ n) (h1 : n ≤ 9223372036854775807) : IntKind.i64.wrap n = n := by
  have h2 : n % 2 ^ 64 = n := by omega
  have h3 : ¬ (n ≥ 2 ^ (64 - 1)) := by omega
  simp only [IntKind.wrap, IntKind.bits, IntKind.signed, h2, h3, decide_false, Bool.and_false, Bool.false_eq_true, if_false]

set_option maxHeartbeats 1000000 in
theorem run_append_zeros {P : Program} (w : World) (t u ty e : TypeId) (i : TypeInfo) (z : Value) (kd : IntKind) (ht : P.underlying t = some (.slice e)) (hu : P.underlying u = some (.int kd)) (hi : P.info? e = some i) (hz : i.zero = some z)
    (k : IntKind) (n : Nat) (h0 : 0 < n) (h63 : (n : Int) ≤ 9223372036854775807) (h48 : n * i.bytes ≤ 281474976710656) (hs : 0 < i.size) :
    (Builtin.append_ #[t, u] ty #[.slice none 0 0, .int k (n : Int)]).run P w =
      .ok (.slice (some ⟨w.heap.size, 0, none⟩) n (grownCap w n 0 e)) (w.drew.alloc (.cells (Builtin.zeroCells z.cells n ++ Builtin.zeroCells z.cells (grownCap w n 0 e - n)) e)) := by
  have hn : n ≠ 0 := by omega
  have hw : IntKind.i64.wrap (n : Int) = n := wrap_i64 (by omega) h63
  have h1 : ¬ ((n : Int) < 0) := by omega
  have h2 : ¬ (281474976710656 < (n : Int) * (i.bytes : Int)) := by
    have : ((n * i.bytes : Nat) : Int) ≤ 281474976710656 := by omega
    rw [Int.natCast_mul] at this
    omega
  have h63' : ¬ (9223372036854775807 < (n : Int)) := by omega
  have h48' : ¬ (281474976710656 < Builtin.nextslicecap n 0 * i.bytes) := by rw [nextslicecap_zero h0]; omega
  have h5 : ¬ (n * i.size = 0) := by
    intro h
    rcases Nat.mul_eq_zero.1 h with h | h <;> omega
  simp [Builtin.append_, run_underlying ht, run_underlying hu, sizeOf, typeInfo, zeroValue, hi, hz, asInt, asIntOf, hw, h1, h2, hn, h63', h48', Question.forced, run_firstCells_none, newRow, grownCap]
  intro h; exact absurd h h5

def appendZE (P : Program) (h : Hp) (t u : TypeId) (s x : V) : Option (V × Hp) :=
  match s, asI x, sliceElem P t, P.underlying u with
  | .sc (.slice none 0 0), some (_, n), some e, some (.int _) => match P.info? e with
    | some i => match i.zero with
      | some z => match zeroCells z with
        | some zc => if 0 < n ∧ n ≤ 9223372036854775807 ∧ n.toNat * i.bytes ≤ 281474976710656 ∧ 0 < i.size ∧ z.cells.size = i.size then
            some (grow h e i.size n.toNat (filled zc (n.toNat * i.size))) else none
        | none => none
      | none => none
    | none => none
  | _, _, _, _ => none
theorem appendZE_did {P : Program} {B : Nat} {q : Q} {h : Hp} {w : World} (hT : HT B q h w) {t u ty : TypeId} {s x y : V} {v vx : Value} {h' : Hp} (hs : R q s v) (hx : R q x vx) (he : appendZE P h t u s x = some (y, h')) :
    Did P B q h w (do pure (.value (← Builtin.append_ #[t, u] ty #[v, vx]))) y h' := by
  unfold appendZE at he
  split at he
  · rename_i k n e kd hn hel hud
    obtain ⟨rfl, _⟩ := hs
    obtain rfl := asI_sound hx hn
    split at he
    · rename_i i hi
      split at he
      · rename_i z hz
        split at he
        · rename_i zc hzc
          split at he
          · rename_i hok
            obtain ⟨o1, o2, o3, o4, o5⟩ := hok
            simp only [Option.some.injEq, grow, Prod.mk.injEq] at he
            obtain ⟨rfl, rfl⟩ := he
            intro hfree
            have hqn : q h.next = none := hfree _ (Nat.le_refl _) (Nat.lt_succ_self _)
            obtain ⟨m, rfl⟩ : ∃ m : Nat, n = (m : Int) := ⟨n.toNat, by omega⟩
            simp only [Int.toNat_natCast] at *
            have hr := run_append_zeros (P := P) w t u ty e i z kd (sliceElem_eq hel) hud hi hz k m (by omega) o2 o3 o4
            have hzm : (Builtin.zeroCells z.cells m) = madeCells z.cells (m * i.size) := by simp [Builtin.zeroCells, madeCells, o5]
            obtain ⟨f1, f2⟩ := filled_sound (q := q) hzc (n := m * i.size) (.inr (by omega))
            obtain ⟨q', g1, g2, g3⟩ := hT.grown hqn (e := e) (cs := filled zc (m * i.size)) (olds := []) (news := (madeCells z.cells (m * i.size)).toList) (need := m) (old := 0) (sz := i.size) (by simpa using f1) (by simpa using f2) hzc o5 (by simp [madeCells]) (by simp [maxLen]; omega)
            have hw : (w.drew.alloc (.cells (([] : List Value).toArray ++ (madeCells z.cells (m * i.size)).toList.toArray ++ Builtin.zeroCells z.cells (grownCap w m 0 e - m)) e)) = w.drew.alloc (.cells (Builtin.zeroCells z.cells m ++ Builtin.zeroCells z.cells (grownCap w m 0 e - m)) e) := by
              rw [hzm]; congr 2; apply Array.ext'; simp
            rw [hw] at g1 g2
            exact ⟨_, _, q', _, by simp only [Sem.run_bind, hr, Result.andThen_ok, Sem.run_pure], .inl rfl, g1, g2, g3⟩
          · cases he
        · cases he
      · cases he
    · cases he
  · cases he

def bytesE (P : Program) (h : Hp) (s t : TypeId) (x : V) : Option (V × Hp) :=
  match x, P.underlying s, P.underlying t with
  | .sc (.string b), some ds, some (.slice e) => match P.underlying e with
    | some (.int .u8) => if b.size ≤ maxLen ∧ isIntD ds = false then some (.sl h.next 0 1 b.size b.size false, h.new (.ro e (b.data.toList.map fun c => .sc (.int .u8 c.toNat)))) else none
    | _ => none
  | _, _, _ => none
theorem push_modify (hp : Array Obj) (o : Obj) (f : Obj → Obj) : (hp.push o).modify hp.size f = hp.push (f o) := by
  apply Array.ext_getElem?
  intro i
  rw [Array.getElem?_modify, Array.getElem?_push, Array.getElem?_push]
  by_cases h : i = hp.size
  · subst h; simp
  · simp [h, Ne.symm h]
set_option maxHeartbeats 1000000 in
theorem bytesE_did {P : Program} {B : Nat} {q : Q} {h : Hp} {w : World} (hT : HT B q h w) {s t : TypeId} {x y : V} {v : Value} {h' : Hp} (hx : R q x v) (he : bytesE P h s t x = some (y, h')) :
    Did P B q h w (do pure (.value (← convert s t v))) y h' := by
  unfold bytesE at he
  split at he
  · rename_i b ds e hus hut
    obtain ⟨rfl, _⟩ := hx
    split at he
    · rename_i hue
      split at he
      · rename_i hok
        simp only [Option.some.injEq, Prod.mk.injEq] at he
        obtain ⟨rfl, rfl⟩ := he
        intro hfree
        have hqn : q h.next = none := hfree _ (Nat.le_refl _) (Nat.lt_succ_self _)
        have hge := grownCap_ge w b.size 0 e
        have hcm := grownCap_le_maxLen w b.size 0 e hok.1
        let arr : Array Value := (b.data.map fun c => Value.int .u8 c.toNat) ++ Array.replicate (grownCap w b.size 0 e - b.size) (.int .u8 0)
        have hsz : arr.size = grownCap w b.size 0 e := by
          simp only [arr, Array.size_append, Array.size_map, Array.size_replicate]
          have : b.data.size = b.size := rfl
          omega
        let w2 : World := { w.drew with heap := w.heap.push (.cells arr e (arr.size, arr.size + 1)) }
        have hrun : (convert s t (.string b)).run P w = .ok (.slice (some ⟨w.heap.size, 0, none⟩) b.size (grownCap w b.size 0 e)) w2 := by
          have hd := hok.2
          have hm : ∀ (w' : World), w'.heap = w.heap.push (.cells arr e) → (markStringish ⟨w.heap.size, 0, none⟩).run P w' = .ok () (w'.freeze ⟨w.heap.size, arr.size, none⟩ 1) := by
            intro w' hw'
            have : w'.shape? w.heap.size = some (e, arr.size) := by simp [World.shape?, hw']
            simp [markStringish, shape, freeze, Sem.run, this]
          have hfz : (w.drew.alloc (.cells arr e)).freeze ⟨w.heap.size, arr.size, none⟩ 1 = w2 := by
            simp only [World.freeze, w2]
            rw [if_neg (by decide)]
            have : (w.drew.alloc (.cells arr e)).heap = w.heap.push (.cells arr e) := rfl
            rw [this, push_modify]
            rfl
          have hch : (choose (.appendCap b.size 0 e)).run P w = .ok (grownCap w b.size 0 e) w.drew := by
            rfl
          have hnew : (newRow e arr).run P w.drew = .ok ⟨w.heap.size, 0, none⟩ (w.drew.alloc (.cells arr e)) := by simp [newRow]
          have hcv : (Conv.stringToBytes e b).run P w = .ok (.slice (some ⟨w.heap.size, 0, none⟩) b.size (grownCap w b.size 0 e)) w2 := by
            simp only [Conv.stringToBytes, Sem.run_bind, hch, Result.andThen_ok]
            have hnew' := hnew
            simp only [arr] at hnew'
            rw [hnew']
            simp only [Result.andThen_ok]
            have := hm (w.drew.alloc (.cells arr e)) rfl
            simp only [arr] at this hfz ⊢
            rw [this, hfz]
            simp only [Result.andThen_ok, Sem.run_pure]
          cases ds <;> first
            | (simp [isIntD] at hd; done)
            | (simp only [convert, Sem.run_bind, run_underlying hus, run_underlying hut, run_underlying hue, Result.andThen_ok, hcv])
        have hO : OT q (.ro e (b.data.toList.map fun c => .sc (.int .u8 c.toNat))) ⟨w.heap.size, 0, arr.size⟩ (some (.cells arr e (arr.size, arr.size + 1))) := by
          refine ⟨arr.toList, _, _, rfl, by simp, ?_, ?_, ?_⟩
          · simp only [List.length_map, Array.length_toList, Nat.zero_add]
            have : b.data.size = b.size := rfl
            omega
          · have e1 : (arr.toList.drop 0).take (b.data.toList.map fun c => V.sc (.int .u8 c.toNat)).length = b.data.toList.map fun c => Value.int .u8 c.toNat := by
              simp only [arr, List.drop_zero, Array.toList_append, Array.toList_map, List.length_map]
              rw [List.take_append_of_le_length (by simp), List.take_of_length_le (by simp)]
            simp only
            rw [e1]
            refine RL.of (by simp) ?_
            intro j x v hx hv
            simp only [List.getElem?_map, Option.map_eq_some_iff] at hx hv
            obtain ⟨c, hc, rfl⟩ := hx
            obtain ⟨c', hc', rfl⟩ := hv
            rw [hc] at hc'
            cases hc'
            exact ⟨rfl, rfl⟩
          · intro u hu
            simp only [arr, Array.toList_append, Array.toList_map, Array.toList_replicate, List.mem_append, List.mem_map, List.mem_replicate] at hu
            rcases hu with ⟨c, _, rfl⟩ | ⟨_, rfl⟩ <;> rfl
        obtain ⟨h2, h3⟩ := hT.push (w' := w2) hqn rfl rfl rfl rfl hO
        exact ⟨_, _, _, w2, by simp only [Sem.run_bind, hrun, Result.andThen_ok, Sem.run_pure], .inl rfl, h2, h3, ⟨w.heap.size, 0, arr.size⟩, grownCap w b.size 0 e, _, by simp, rfl, fun _ => rfl, hge, hcm, by simp [hsz], hge, by simp⟩
      · cases he
    · cases he
  · cases he
end Go.N
