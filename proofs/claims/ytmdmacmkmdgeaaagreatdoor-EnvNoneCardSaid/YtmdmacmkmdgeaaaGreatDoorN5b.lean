/- Maps, written. -/
import Derived.Test.YtmdmacmkmdgeaaaGreatDoorN5
namespace Go.N
open Go Go.RowKit

theorem modify_set (fs : List MapEntry) (i : Nat) (f : MapEntry → MapEntry) (e : MapEntry) (h : fs[i]? = some e) : fs.modify i f = fs.set i (f e) := by
  have := modify_eq_set ⟨fs⟩ i f e (by simpa using h)
  simpa using this
theorem run_getMap {P : Program} {w : World} {r : Nat} {fs : Array MapEntry} {clock : Nat} (h : w.heap[r]? = some (.map fs clock)) : (getObj r).run P w = .ok (.map fs clock) w := by
  simp [getObj, Sem.run, h]
theorem run_setMap {P : Program} {w : World} {r : Nat} {fs : Array MapEntry} {clock : Nat} (h : w.heap[r]? = some (.map fs clock)) (o : Obj) : (setObj r o).run P w = .ok () { w with heap := w.heap.setIfInBounds r o } := by
  simp [setObj, Sem.run, h]

theorem HT.setMap {B : Nat} {q : Q} {h : Hp} {w : World} (hT : HT B q h w) {id : Nat} {es es' : List (Value × V × Nat)} {clock clock' : Nat} {e : QE} (hg : h.get id = some (.map es clock)) (hq : q id = some e) (hlim : h.lim ≤ id) {fs : List MapEntry} (hel : EL q es' fs) :
    HT B q (h.set id (some (.map es' clock'))) { w with heap := w.heap.setIfInBounds e.b (.map ⟨fs⟩ clock') } ∧ Fr q h w q (h.set id (some (.map es' clock'))) { w with heap := w.heap.setIfInBounds e.b (.map ⟨fs⟩ clock') } := by
  have hb := hT.dom id e hq
  exact HT.over hT hg hq hlim (x := .map ⟨fs⟩ clock') (by simp [hb]) (fun b hne => by simp [Ne.symm hne]) (by simp) rfl rfl rfl ⟨fs, rfl, hel⟩

def makeMapE (P : Program) (h : Hp) (T : TypeId) (r : Option V) : Option (V × Hp) := match r with
  | none => some (.mp h.next, h.new (.map [] 0))
  | some x => match mapParts P T, asI x with
    | some _, some _ => some (.mp h.next, h.new (.map [] 0))
    | _, _ => none
theorem makeMapE_did {P : Program} {B : Nat} {q : Q} {h : Hp} {w : World} (hT : HT B q h w) {T : TypeId} {r : Option V} {vr : Option Value} {x : V} {h' : Hp} (hr : OR q r vr) (he : makeMapE P h T r = some (x, h')) :
    Did P B q h w (do pure (.value (← Instr.makeMap T vr))) x h' := by
  have fin : (Instr.makeMap T vr).run P w = .ok (.map (some w.heap.size)) (w.alloc (.map #[] 0)) → Did P B q h w (do pure (.value (← Instr.makeMap T vr))) (.mp h.next) (h.new (.map [] 0)) := by
    intro hrun hfree
    have hqn : q h.next = none := hfree _ (Nat.le_refl _) (Nat.lt_succ_self _)
    obtain ⟨h2, h3⟩ := hT.push hqn (o := .map [] 0) (x := .map #[] 0) (d := 0) (n := 0) (w' := w.alloc (.map #[] 0)) rfl rfl rfl rfl ⟨[], rfl, rfl⟩
    exact ⟨.value (.map (some w.heap.size)), _, _, w.alloc (.map #[] 0), by simp only [Sem.run_bind, hrun, Result.andThen_ok, Sem.run_pure], .inl rfl, h2, h3, ⟨w.heap.size, 0, 0⟩, by simp, rfl⟩
  unfold makeMapE at he
  split at he
  · simp only [Option.some.injEq, Prod.mk.injEq] at he
    obtain ⟨rfl, rfl⟩ := he
    obtain rfl : vr = none := hr
    exact fin (by simp [Instr.makeMap])
  · obtain ⟨v, hv, rfl⟩ := hr
    split at he
    · rename_i p i hp hi
      obtain ⟨k, i⟩ := i
      obtain ⟨a, b⟩ := p
      obtain rfl := asI_sound hv hi
      simp only [Option.some.injEq, Prod.mk.injEq] at he
      obtain ⟨rfl, rfl⟩ := he
      exact fin (by simp [Instr.makeMap, run_underlying (mapParts_eq hp), asInt, asIntOf])
    · cases he

def mapAt (h : Hp) (x : V) : Option (Nat × List (Value × V × Nat) × Nat) := match x with
  | .mp id => match h.get id with
    | some (.map es clock) => if h.lim ≤ id then some (id, es, clock) else none
    | _ => none
  | _ => none
theorem mapAt_sound {B : Nat} {q : Q} {h : Hp} {w : World} (hT : HT B q h w) {x : V} {v : Value} {id : Nat} {es : List (Value × V × Nat)} {clock : Nat} (hx : R q x v) (he : mapAt h x = some (id, es, clock)) :
    ∃ e fs, h.get id = some (.map es clock) ∧ q id = some e ∧ h.lim ≤ id ∧ v = .map (some e.b) ∧ w.heap[e.b]? = some (.map ⟨fs⟩ clock) ∧ EL q es fs := by
  unfold mapAt at he
  split at he
  · rename_i id'
    split at he
    · rename_i es' clock' hg
      simp only [Option.ite_none_right_eq_some, Option.some.injEq, Prod.mk.injEq] at he
      obtain ⟨hl, rfl, rfl, rfl⟩ := he
      obtain ⟨f, k1, rfl⟩ := hx
      obtain ⟨f', h1, ⟨vs, h2, h3⟩, _⟩ := hT.tie id' _ hg
      rw [k1] at h1
      cases h1
      exact ⟨f, vs, hg, k1, hl, rfl, h2, h3⟩
    · cases he
  · cases he

/-- Where a key goes: the place it has, or a new one. -/
def placeE (P : Program) (K : TypeId) (kv : Value) (es : List (Value × V × Nat)) : Option (Option (Nat × V × Nat)) :=
  if keyOk P false K kv ∧ (P.underlying K).isSome = true then
    match findE P K kv es 0 with
    | some none => some none
    | some (some (i, x)) => match es[i]? with
      | some (k0, _, born) => if Instr.sameBits 10000 k0 kv then some (some (i, x, born)) else none
      | none => none
    | none => none
  else none
theorem placeE_none {P : Program} {q : Q} {w : World} {K : TypeId} {kv : Value} {es : List (Value × V × Nat)} {fs : List MapEntry} (hel : EL q es fs) (h : placeE P K kv es = some none) :
    (Instr.checkKey false 10000 K kv).run P w = .ok () w ∧ (Instr.findKey K kv fs).run P w = .ok none w := by
  unfold placeE at h
  split at h
  · rename_i hok
    obtain ⟨h1, h2⟩ := hok
    refine ⟨keyOk_run w h1, ?_⟩
    split at h
    · rename_i hf
      obtain ⟨r', m1, m2⟩ := findE_run (q := q) w h2 hel hf
      simp only [Found] at m2
      subst m2
      exact m1
    · split at h
      · split at h <;> cases h
      · cases h
    · cases h
  · cases h
theorem placeE_some {P : Program} {q : Q} {w : World} {K : TypeId} {kv : Value} {es : List (Value × V × Nat)} {fs : List MapEntry} (hel : EL q es fs) {i : Nat} {x : V} {born : Nat} (h : placeE P K kv es = some (some (i, x, born))) :
    ∃ e, fs[i]? = some e ∧ R q x e.val ∧ e.born = born ∧ Instr.sameBits 10000 e.key kv = true ∧ (Instr.checkKey false 10000 K kv).run P w = .ok () w ∧ (Instr.findKey K kv fs).run P w = .ok (some (i, e.val)) w := by
  unfold placeE at h
  split at h
  · rename_i hok
    obtain ⟨h1, h2⟩ := hok
    split at h
    · cases h
    · rename_i j y hf
      obtain ⟨r', m1, e', m2, m3, m4, rfl⟩ := findE_run (q := q) w h2 hel hf
      split at h
      · rename_i k0 z born' he
        split at h
        · rename_i hsb
          simp only [Option.some.injEq, Prod.mk.injEq] at h
          obtain ⟨rfl, rfl, rfl⟩ := h
          simp only [Nat.sub_zero] at m3
          obtain ⟨x', hx', _⟩ := hel.get m3
          rw [he] at hx'
          simp only [Option.some.injEq, Prod.mk.injEq] at hx'
          obtain ⟨rfl, _, rfl⟩ := hx'
          exact ⟨e', m3, m4, rfl, hsb, keyOk_run w h1, m1⟩
        · cases h
      · cases h
    · cases h
  · cases h

def mapUpdateE (P : Program) (h : Hp) (T : TypeId) (m k x : V) : Option (V × Hp) :=
  match mapParts P T, mapAt h m, valOf k with
  | some (K, _), some (id, es, clock), some kv => match placeE P K kv es with
    | some none => some (.tup [], h.set id (some (.map (es ++ [(kv, x, clock)]) (clock + 1))))
    | some (some (i, _, born)) => some (.tup [], h.set id (some (.map (es.set i (kv, x, born)) clock)))
    | none => none
  | _, _, _ => none
theorem mapUpdateE_did {P : Program} {B : Nat} {q : Q} {h : Hp} {w : World} (hT : HT B q h w) {T : TypeId} {m k x y : V} {vm vk vx : Value} {h' : Hp} (hm : R q m vm) (hk : R q k vk) (hx : R q x vx) (he : mapUpdateE P h T m k x = some (y, h')) :
    Did P B q h w (do Instr.mapUpdate T vm vk vx; pure .skip) y h' := by
  unfold mapUpdateE at he
  split at he
  · rename_i K E id es clock kv hp hma hkv
    obtain rfl := valOf_sound hk hkv
    have hTy := mapParts_eq hp
    obtain ⟨e, fs, hg, hq, hl, rfl, hw, hel⟩ := mapAt_sound hT hm hma
    · split at he
      · rename_i hpl
        simp only [Option.some.injEq, Prod.mk.injEq] at he
        obtain ⟨rfl, rfl⟩ := he
        obtain ⟨c1, c2⟩ := placeE_none (w := w) hel hpl
        obtain ⟨s1, s2⟩ := hT.setMap hg hq hl (clock' := clock + 1) (EL.push (k := vk) (n := clock) hx hel)
        refine fun _ => ⟨.skip, undef, q, _, ?_, .inr ⟨rfl, rfl⟩, s1, s2, [], rfl, rfl⟩
        simp [Instr.mapUpdate, run_underlying hTy, run_getMap hw, run_setMap hw, c1, c2]
      · rename_i i z born hpl
        simp only [Option.some.injEq, Prod.mk.injEq] at he
        obtain ⟨rfl, rfl⟩ := he
        obtain ⟨e', c0, c3, rfl, c4, c1, c2⟩ := placeE_some (w := w) hel hpl
        obtain ⟨s1, s2⟩ := hT.setMap hg hq hl (clock' := clock) (EL.set (k := vk) (n := e'.born) hx hel i)
        refine fun _ => ⟨.skip, undef, q, _, ?_, .inr ⟨rfl, rfl⟩, s1, s2, [], rfl, rfl⟩
        simp [Instr.mapUpdate, run_underlying hTy, run_getMap hw, run_setMap hw, c1, c2, c0, Instr.keyThatStays, c4, modify_set fs i _ e' c0]
      · cases he
  · cases he

def mapEntryE (P : Program) (h : Hp) (T : TypeId) (m k : V) : Option (V × Hp) :=
  match mapParts P T, mapAt h m, valOf k with
  | some (K, E), some (id, es, clock), some kv => match placeE P K kv es with
    | some none => match zeroV P E with
      | some x => some (.tup [x, .sc (.int .i64 clock)], h.set id (some (.map (es ++ [(kv, x, clock)]) (clock + 1))))
      | none => none
    | some (some (i, x, born)) => some (.tup [x, .sc (.int .i64 born)], h.set id (some (.map (es.set i (kv, x, born)) clock)))
    | none => none
  | _, _, _ => none
theorem mapEntryE_did {P : Program} {B : Nat} {q : Q} {h : Hp} {w : World} (hT : HT B q h w) {T : TypeId} {m k y : V} {vm vk : Value} {h' : Hp} (hm : R q m vm) (hk : R q k vk) (he : mapEntryE P h T m k = some (y, h')) :
    Did P B q h w (do pure (.value (← Instr.mapEntry T vm vk))) y h' := by
  unfold mapEntryE at he
  split at he
  · rename_i K E id es clock kv hp hma hkv
    obtain rfl := valOf_sound hk hkv
    have hTy := mapParts_eq hp
    obtain ⟨e, fs, hg, hq, hl, rfl, hw, hel⟩ := mapAt_sound hT hm hma
    split at he
    · rename_i hpl
      split at he
      · rename_i x hz
        simp only [Option.some.injEq, Prod.mk.injEq] at he
        obtain ⟨rfl, rfl⟩ := he
        obtain ⟨z, z1, z2⟩ := zeroV_run (q := q) w hz
        obtain ⟨c1, c2⟩ := placeE_none (w := w) hel hpl
        obtain ⟨s1, s2⟩ := hT.setMap hg hq hl (clock' := clock + 1) (EL.push (k := vk) (n := clock) z2 hel)
        refine fun _ => ⟨.value (.tuple #[z, goInt clock]), _, q, _, ?_, .inl rfl, s1, s2, R.pair z2 ⟨rfl, rfl⟩⟩
        simp [Instr.mapEntry, run_underlying hTy, run_getMap hw, run_setMap hw, c1, c2, z1]
      · cases he
    · rename_i i z born hpl
      simp only [Option.some.injEq, Prod.mk.injEq] at he
      obtain ⟨rfl, rfl⟩ := he
      obtain ⟨e', c0, c3, rfl, c4, c1, c2⟩ := placeE_some (w := w) hel hpl
      obtain ⟨s1, s2⟩ := hT.setMap hg hq hl (clock' := clock) (EL.set (k := vk) (n := e'.born) c3 hel i)
      refine fun _ => ⟨.value (.tuple #[e'.val, goInt e'.born]), _, q, _, ?_, .inl rfl, s1, s2, R.pair c3 ⟨rfl, rfl⟩⟩
      simp [Instr.mapEntry, run_underlying hTy, run_getMap hw, run_setMap hw, c1, c2, c0, Instr.keyThatStays, c4, modify_set fs i _ e' c0]
    · cases he
  · cases he

def bornAt (n : Int) : List (Value × V × Nat) → Nat → Option (Nat × Value × Nat)
  | [], _ => none
  | (k, _, b) :: l, i => if ((b : Int) == n) = true then some (i, k, b) else bornAt n l (i + 1)
theorem bornAt_sound {q : Q} {n : Int} : ∀ {l : List (Value × V × Nat)} {es : List MapEntry} {i j : Nat} {k : Value} {b : Nat}, EL q l es → bornAt n l i = some (j, k, b) →
    ∃ e, i ≤ j ∧ es[j - i]? = some e ∧ e.key = k ∧ e.born = b ∧ es.findIdx? (fun e => (e.born : Int) == n) = some (j - i)
  | [], es, i, j, k, b, h, he => by cases he
  | (k', x, m) :: l, _, i, j, k, b, ⟨v, fs, h1, _, h2, e0⟩, he => by
    subst e0
    simp only [bornAt] at he
    split at he
    · rename_i hb
      simp only [Option.some.injEq, Prod.mk.injEq] at he
      obtain ⟨rfl, rfl, rfl⟩ := he
      exact ⟨⟨k', v, m⟩, Nat.le_refl _, by simp, rfl, rfl, by simp [List.findIdx?_cons, hb]⟩
    · rename_i hb
      obtain ⟨e, m1, m2, m3, m4, m5⟩ := bornAt_sound h2 he
      refine ⟨e, by omega, ?_, m3, m4, ?_⟩
      · rw [show j - i = (j - (i + 1)) + 1 from by omega, List.getElem?_cons_succ]; exact m2
      · rw [List.findIdx?_cons]
        simp only [hb]
        rw [m5]
        simp
        omega

def entryStoreE (h : Hp) (m s x : V) : Option (V × Hp) :=
  match mapAt h m, asI s with
  | some (id, es, clock), some (_, n) => match bornAt n es 0 with
    | some (i, k, b) => some (.tup [], h.set id (some (.map (es.set i (k, x, b)) clock)))
    | none => none
  | _, _ => none
theorem entryStoreE_did {P : Program} {B : Nat} {q : Q} {h : Hp} {w : World} (hT : HT B q h w) {T : TypeId} {m s x y : V} {vm vs vx : Value} {h' : Hp} (hm : R q m vm) (hs : R q s vs) (hx : R q x vx) (he : entryStoreE h m s x = some (y, h')) :
    Did P B q h w (do Instr.entryStore T vm vs vx; pure .skip) y h' := by
  unfold entryStoreE at he
  split at he
  · rename_i id es clock kk n hma hsi
    obtain rfl := asI_sound hs hsi
    obtain ⟨e, fs, hg, hq, hl, rfl, hw, hel⟩ := mapAt_sound hT hm hma
    · split at he
      · rename_i i k b hb
        simp only [Option.some.injEq, Prod.mk.injEq] at he
        obtain ⟨rfl, rfl⟩ := he
        obtain ⟨e', m1, m2, rfl, rfl, m5⟩ := bornAt_sound hel hb
        simp only [Nat.sub_zero] at m2 m5
        obtain ⟨s1, s2⟩ := hT.setMap hg hq hl (clock' := clock) (EL.set (k := e'.key) (n := e'.born) hx hel i)
        refine fun _ => ⟨.skip, undef, q, _, ?_, .inr ⟨rfl, rfl⟩, s1, s2, [], rfl, rfl⟩
        simp [Instr.entryStore, run_getMap hw, run_setMap hw, asInt, asIntOf, m5, modify_set fs i _ e' m2]
      · cases he
  · cases he
end Go.N
