/- Literals of slices, make, maps. -/
import Derived.Test.YtmdmacmkmdgeaaaGreatDoorN4b
namespace Go.N
open Go Go.RowKit

def filled (zc : List V) (n : Nat) : List V := (List.range n).map fun k => zc.getD (k % zc.length) .any
theorem filled_sound {q : Q} {z : Value} {zc : List V} (hz : zeroCells z = some zc) {n : Nat} (hn : n = 0 ∨ 0 < z.cells.size) :
    RL q (filled zc n) (madeCells z.cells n).toList ∧ ∀ u ∈ (madeCells z.cells n).toList, u.oneCell' = true := by
  obtain ⟨k1, k2⟩ := zeroCells_sound q hz
  have hl := k1.length
  have hpos : ∀ k, k < n → 0 < z.cells.size := fun k hk => by rcases hn with h | h; omega; exact h
  have hel : ∀ k, k < n → z.cells[k % z.cells.size]! = z.cells.toList.getD (k % zc.length) undef := fun k hk => by
    have hlt := Nat.mod_lt k (hpos k hk)
    have e : zc.length = z.cells.size := by simpa using hl
    rw [e, getElem!_pos z.cells (k % z.cells.size) hlt]
    simp [List.getD, hlt]
  refine ⟨RL.of (by simp [filled, madeCells]) ?_, ?_⟩
  · intro i x v hx hv
    simp only [filled, madeCells, Array.toList_map, List.getElem?_map, Option.map_eq_some_iff, Array.toList_range] at hx hv
    obtain ⟨k, hk, rfl⟩ := hx
    obtain ⟨k', hk', rfl⟩ := hv
    rw [hk] at hk'
    cases hk'
    have hkn : k < n := by have := List.mem_of_getElem? hk; simpa using this
    have e : zc.length = z.cells.size := by simpa using hl
    have hlt := Nat.mod_lt k (hpos k hkn)
    have hx : zc[k % zc.length]? = some (zc.getD (k % zc.length) .any) := by
      have hlt2 : k % zc.length < zc.length := by rw [e]; exact hlt
      rw [List.getD, List.getElem?_eq_getElem hlt2]; rfl
    obtain ⟨u, hu, hr⟩ := k1.get _ _ hx
    rw [hel k hkn]
    have : z.cells.toList.getD (k % zc.length) undef = u := by simp [List.getD, hu]
    rw [this]; exact hr
  · intro u hu
    simp only [madeCells, Array.toList_map, List.mem_map] at hu
    obtain ⟨k, hk, rfl⟩ := hu
    have hkn : k < n := by simpa using hk
    have hlt := Nat.mod_lt k (hpos k hkn)
    rw [getElem!_pos z.cells (k % z.cells.size) hlt]
    exact k2 _ (by simp)

def makeSliceE (P : Program) (h : Hp) (T : TypeId) (l c : V) : Option (V × Hp) :=
  match asI l, asI c, sliceElem P T with
  | some (_, l), some (_, c), some e => match P.info? e with
    | some i => match i.zero with
      | some z => match zeroCells z with
        | some zc => if 0 ≤ l ∧ l ≤ c ∧ (i.bytes : Int) * c ≤ 281474976710656 ∧ c ≤ 9223372036854775807 ∧ z.cells.size = i.size ∧ 0 < i.size then
            some (.sl h.next 0 i.size l.toNat c.toNat true, h.new (.cells e (filled zc (c.toNat * i.size)))) else none
        | none => none
      | none => none
    | none => none
  | _, _, _ => none

theorem row_did {P : Program} {B : Nat} {q : Q} {h : Hp} {w : World} (hT : HT B q h w) {e : TypeId} {cs : List V} {vs : Array Value} {sz l c : Nat} (hR : RL q cs vs.toList) (h1 : ∀ u ∈ vs.toList, u.oneCell' = true) (hlen : cs.length = c * sz) (hlc : l ≤ c) (hm : c ≤ maxLen) {s : Sem Value}
    (hs : s.run P w = .ok (.slice (some ⟨w.heap.size, 0, none⟩) l c) (w.alloc (.cells vs e))) : Did P B q h w (do pure (.value (← s))) (.sl h.next 0 sz l c true) (h.new (.cells e cs)) := by
  intro hfree
  have hqn : q h.next = none := hfree _ (Nat.le_refl _) (Nat.lt_succ_self _)
  have hl := hR.length
  obtain ⟨h2, h3⟩ := hT.cells hqn (T := e) (n := vs.toList.length) rfl (by rw [hl]; exact Nat.le_refl _) (by rw [hl, List.take_length]; exact hR) h1 (w' := w.alloc (.cells vs e)) rfl rfl rfl rfl
  exact ⟨.value (.slice (some ⟨w.heap.size, 0, none⟩) l c), _, _, w.alloc (.cells vs e), by simp only [Sem.run_bind, hs, Result.andThen_ok, Sem.run_pure], .inl rfl, h2, h3,
    ⟨w.heap.size, 0, vs.toList.length⟩, c, ⟨w.heap.size, 0, none⟩, by simp, rfl, fun _ => rfl, hlc, hm, by rw [← hl, hlen]; simp, Nat.le_refl _, fun _ => rfl⟩

theorem makeSliceE_did {P : Program} {B : Nat} {q : Q} {h : Hp} {w : World} (hT : HT B q h w) {T : TypeId} {l c x : V} {vl vc : Value} {h' : Hp} (hl : R q l vl) (hc : R q c vc) (he : makeSliceE P h T l c = some (x, h')) :
    Did P B q h w (do pure (.value (← Instr.makeSlice T vl vc))) x h' := by
  unfold makeSliceE at he
  split at he
  · rename_i kl l' kc c' e h1 h2 h3
    obtain rfl := asI_sound hl h1
    obtain rfl := asI_sound hc h2
    split at he
    · rename_i i hi
      split at he
      · rename_i z hz
        split at he
        · rename_i zc hzc
          split at he
          · rename_i hok
            obtain ⟨o1, o2, o3, o4, o5, o6⟩ := hok
            simp only [Option.some.injEq, Prod.mk.injEq] at he
            obtain ⟨rfl, rfl⟩ := he
            obtain ⟨f1, f2⟩ := filled_sound (q := q) hzc (n := c'.toNat * i.size) (.inr (by omega))
            exact row_did hT f1 f2 (by simp [filled]) (by omega) (by simp [maxLen]; omega) (run_make w T e i z (sliceElem_eq h3) hi hz kl kc l' c' o1 o2 o3 o4)
          · cases he
        · cases he
      · cases he
    · cases he
  · cases he

def buildSliceE (P : Program) (h : Hp) (T : TypeId) (len : Nat) (parts : List (Nat × V)) : Option (V × Hp) :=
  match sliceElem P T with
  | some e => match P.info? e with
    | some i => match i.zero with
      | some z => match zeroCells z with
        | some zc => if len * i.size ≤ 16777216 ∧ len ≤ maxLen ∧ z.cells.size = i.size ∧ 0 < i.size then
            match fillE (fun k => some (k * i.size, i.size)) (filled zc (len * i.size)) parts with
            | some cs => if cs.length = len * i.size then some (.sl h.next 0 i.size len len true, h.new (.cells e cs)) else none
            | none => none
          else none
        | none => none
      | none => none
    | none => none
  | none => none
theorem buildSliceE_did {P : Program} {B : Nat} {q : Q} {h : Hp} {w : World} (hT : HT B q h w) {T : TypeId} {len : Nat} {parts : List (Nat × V)} {vparts : Array (Nat × Value)} {x : V} {h' : Hp} (hp : PL q parts vparts.toList)
    (he : buildSliceE P h T len parts = some (x, h')) : Did P B q h w (do pure (.value (← Instr.buildSlice T len vparts))) x h' := by
  unfold buildSliceE at he
  split at he
  · rename_i e hel
    split at he
    · rename_i i hi
      split at he
      · rename_i z hz
        split at he
        · rename_i zc hzc
          split at he
          · rename_i hok
            obtain ⟨o1, o2, o3, o4⟩ := hok
            split at he
            · rename_i cs hcs
              split at he
              · rename_i hlen
                simp only [Option.some.injEq, Prod.mk.injEq] at he
                obtain ⟨rfl, rfl⟩ := he
                obtain ⟨f1, f2⟩ := filled_sound (q := q) hzc (n := len * i.size) (.inr (by omega))
                obtain ⟨vout, g1, g2, g3⟩ := fillE_run (fun k => some (k * i.size, i.size)) parts vparts.toList _ cs _ hp f1 f2 hcs
                refine row_did hT (vs := vout) g2 g3 hlen (Nat.le_refl _) o2 ?_
                have o1' : ¬ (16777216 < len * i.size) := by omega
                have g1' : Instr.fill (fun k => some (k * i.size, i.size)) (Array.map (fun x => z.cells[x % z.cells.size]!) (Array.range (len * i.size))) vparts.toList = some vout := g1
                by_cases hn : len * i.size = 0
                · have g2' : Instr.fill (fun k => some (k * i.size, i.size)) #[] vparts.toList = some vout := by rw [hn, Array.range_zero', Array.map_empty] at g1'; exact g1'
                  have hlen0 : len = 0 := by rcases Nat.mul_eq_zero.1 hn with h | h; exact h; omega
                  subst hlen0
                  have hr0 : (Array.range 0) = #[] := Array.range_zero'
                  simp [Instr.buildSlice, run_underlying (sliceElem_eq hel), sizeOf, typeInfo, hi, newRow, hr0, g2']
                · simp [Instr.buildSlice, run_underlying (sliceElem_eq hel), sizeOf, typeInfo, hi, zeroValue, hz, newRow, o1', hn, g1']
              · cases he
            · cases he
          · cases he
        · cases he
      · cases he
    · cases he
  · cases he

/- Maps. -/
def mapParts (P : Program) (T : TypeId) : Option (TypeId × TypeId) := match P.underlying T with
  | some (.map k e) => some (k, e)
  | _ => none
theorem mapParts_eq {P : Program} {T k e : TypeId} (h : mapParts P T = some (k, e)) : P.underlying T = some (.map k e) := by
  unfold mapParts at h
  split at h
  · simp only [Option.some.injEq, Prod.mk.injEq] at h; obtain ⟨rfl, rfl⟩ := h; assumption
  · cases h

def findE (P : Program) (K : TypeId) (k : Value) : List (Value × V × Nat) → Nat → Option (Option (Nat × V))
  | [], _ => some none
  | (k', x, _) :: l, i => match eval0 P (Op.equal K k k') with
    | some true => some (some (i, x))
    | some false => findE P K k l (i + 1)
    | none => none

/-- What is found, in the model. -/
def Found (q : Q) (es : List MapEntry) (i0 : Nat) : Option (Nat × V) → Option (Nat × Value) → Prop
  | none, r => r = none
  | some (i, x), r => ∃ e, i0 ≤ i ∧ es[i - i0]? = some e ∧ R q x e.val ∧ r = some (i, e.val)

theorem findE_asking {P : Program} {q : Q} (w : World) {K : TypeId} {k : Value} : ∀ {l : List (Value × V × Nat)} {es : List MapEntry} {i : Nat} {r : Option (Nat × V)}, EL q l es → findE P K k l i = some r →
    ∃ r', (Instr.findAsking K k es i).run P w = .ok r' w ∧ Found q es i r r'
  | [], es, i, r, h, he => by
    simp only [EL] at h
    subst h
    simp only [findE, Option.some.injEq] at he
    subst he
    exact ⟨none, rfl, rfl⟩
  | (k', x, n) :: l, _, i, r, ⟨v, fs, h1, _, h2, e0⟩, he => by
    subst e0
    simp only [findE] at he
    split at he
    · rename_i hb
      simp only [Option.some.injEq] at he
      subst he
      refine ⟨some (i, v), ?_, ⟨k', v, n⟩, Nat.le_refl _, by simp, h1, rfl⟩
      simp only [Instr.findAsking, Sem.run_bind, eval0_run P w _ _ hb, Result.andThen_ok, if_true, Sem.run_pure]
    · rename_i hb
      obtain ⟨r', k1, k2⟩ := findE_asking w h2 he
      refine ⟨r', ?_, ?_⟩
      · simp only [Instr.findAsking, Sem.run_bind, eval0_run P w _ _ hb, Result.andThen_ok, Bool.false_eq_true, if_false, k1]
      · cases r with
        | none => exact k2
        | some ix =>
          obtain ⟨j, y⟩ := ix
          obtain ⟨e, m1, m2, m3, m4⟩ := k2
          refine ⟨e, by omega, ?_, m3, m4⟩
          rw [show j - i = (j - (i + 1)) + 1 from by omega, List.getElem?_cons_succ]
          exact m2
    · cases he

theorem eval0_bind {α β : Type} (P : Program) : (x : Sem α) → (f : α → Sem β) → eval0 P (x >>= f) = (eval0 P x).bind fun a => eval0 P (f a)
  | .pure _a, _f => rfl
  | .program k, f => eval0_bind P (k P) f
  | .mark _ k, f => eval0_bind P k f
  | .load .., _f | .store .., _f | .new .., _f | .shape .., _f | .freeze .., _f | .frozen .., _f | .getObj .., _f | .setObj .., _f | .choose .., _f | .sys .., _f | .halt .., _f => rfl
theorem eval0_pure {α : Type} (P : Program) (a : α) : eval0 P (pure a : Sem α) = some a := rfl
theorem eval0_underlying {P : Program} {t : TypeId} {d : TypeDesc} (h : P.underlying t = some d) : eval0 P (underlying t) = some d := by
  simp [underlying, program, eval0_bind, eval0, h, eval0_pure]

theorem findE_now {P : Program} {q : Q} {K : TypeId} {d : TypeDesc} (hd : P.underlying K = some d) {k : Value} : ∀ {l : List (Value × V × Nat)} {es : List MapEntry} {i : Nat} {r : Option (Nat × V)} {r' : Option (Nat × Value)}, EL q l es → findE P K k l i = some r →
    Instr.findNow d k es i = some r' → Found q es i r r'
  | [], es, i, r, r', h, he, hn => by
    simp only [EL] at h
    subst h
    simp only [findE, Option.some.injEq] at he
    subst he
    simp only [Instr.findNow, Option.some.injEq] at hn
    exact hn.symm
  | (k', x, n) :: l, _, i, r, r', ⟨v, fs, h1, _, h2, e0⟩, he, hn => by
    subst e0
    obtain ⟨dep, hdep⟩ : ∃ n, Op.maxDepth = n + 1 := ⟨9999, rfl⟩
    have key : ∀ b, Instr.sameNow d k k' = some b → eval0 P (Op.equal K k k') = some b := by
      intro b hb
      unfold Instr.sameNow at hb
      split at hb
      · rename_i kd kk a kk' b'
        split at hb
        · rename_i hkk
          simp only [Option.some.injEq] at hb
          subst hb hkk
          simp only [Op.equal, hdep, Op.equalIn, eval0_bind, eval0_underlying hd, Option.bind_some, if_true, eval0_pure]
        · cases hb
      · simp only [Option.some.injEq] at hb
        subst hb
        simp only [Op.equal, hdep, Op.equalIn, eval0_bind, eval0_underlying hd, Option.bind_some, eval0_pure]
      · simp only [Option.some.injEq] at hb
        subst hb
        simp only [Op.equal, hdep, Op.equalIn, eval0_bind, eval0_underlying hd, Option.bind_some, eval0_pure]
      · cases hb
    simp only [Instr.findNow] at hn
    simp only [findE] at he
    split at hn
    · rename_i hs
      rw [key true hs] at he
      simp only [Option.some.injEq] at he hn
      subst he hn
      exact ⟨⟨k', v, n⟩, Nat.le_refl _, by simp, h1, rfl⟩
    · rename_i hs
      rw [key false hs] at he
      simp only at he
      have k2 := findE_now hd h2 he hn
      cases r with
      | none => exact k2
      | some ix =>
        obtain ⟨j, y⟩ := ix
        obtain ⟨e, m1, m2, m3, m4⟩ := k2
        refine ⟨e, by omega, ?_, m3, m4⟩
        rw [show j - i = (j - (i + 1)) + 1 from by omega, List.getElem?_cons_succ]
        exact m2
    · cases hn

theorem findE_run {P : Program} {q : Q} (w : World) {K : TypeId} {k : Value} {l : List (Value × V × Nat)} {es : List MapEntry} {r : Option (Nat × V)} (hK : (P.underlying K).isSome = true) (h : EL q l es) (he : findE P K k l 0 = some r) :
    ∃ r', (Instr.findKey K k es).run P w = .ok r' w ∧ Found q es 0 r r' := by
  obtain ⟨d, hd⟩ := Option.isSome_iff_exists.1 hK
  cases hn : Instr.findNow d k es 0 with
  | some r' =>
    exact ⟨r', by simp [Instr.findKey, run_underlying hd, hn], findE_now hd h he hn⟩
  | none =>
    obtain ⟨r', k1, k2⟩ := findE_asking w h he
    exact ⟨r', by simp [Instr.findKey, run_underlying hd, hn, k1], k2⟩

theorem EL.length {q : Q} : ∀ {l : List (Value × V × Nat)} {es : List MapEntry}, EL q l es → l.length = es.length
  | [], es, h => by simp only [EL] at h; subst h; rfl
  | (k', x, n) :: l, _, ⟨v, fs, h1, _, h2, e0⟩ => by subst e0; simp [EL.length h2]
theorem EL.get {q : Q} : ∀ {l : List (Value × V × Nat)} {es : List MapEntry}, EL q l es → ∀ {i : Nat} {e : MapEntry}, es[i]? = some e → ∃ x, l[i]? = some (e.key, x, e.born) ∧ R q x e.val
  | [], es, h, i, e, he => by simp only [EL] at h; subst h; simp at he
  | (k', x, n) :: l, _, ⟨v, fs, h1, _, h2, e0⟩, i, e, he => by
    subst e0
    cases i with
    | zero => simp only [List.getElem?_cons_zero, Option.some.injEq] at he; subst he; exact ⟨x, rfl, h1⟩
    | succ i => simpa using EL.get h2 (by simpa using he)
theorem EL.push {q : Q} {k : Value} {x : V} {v : Value} {n : Nat} (hx : R q x v) : ∀ {l : List (Value × V × Nat)} {es : List MapEntry}, EL q l es → EL q (l ++ [(k, x, n)]) (es ++ [⟨k, v, n⟩])
  | [], es, h => by simp only [EL] at h; subst h; exact ⟨v, [], hx, rfl, rfl, rfl⟩
  | (k', y, m) :: l, _, ⟨u, fs, h1, _, h2, e0⟩ => by subst e0; exact ⟨u, _, h1, rfl, EL.push hx h2, rfl⟩
theorem EL.set {q : Q} {k : Value} {x : V} {v : Value} {n : Nat} (hx : R q x v) : ∀ {l : List (Value × V × Nat)} {es : List MapEntry}, EL q l es → ∀ i, EL q (l.set i (k, x, n)) (es.set i ⟨k, v, n⟩)
  | [], es, h, i => by simp only [EL] at h; subst h; rfl
  | (k', y, m) :: l, _, ⟨u, fs, h1, _, h2, e0⟩, i => by
    subst e0
    cases i with
    | zero => exact ⟨v, fs, hx, rfl, h2, rfl⟩
    | succ i => exact ⟨u, _, h1, rfl, EL.set hx h2 i, rfl⟩
theorem modify_eq_set (es : Array MapEntry) (i : Nat) (f : MapEntry → MapEntry) (e : MapEntry) (h : es[i]? = some e) : (es.modify i f).toList = es.toList.set i (f e) := by
  obtain ⟨hlt, rfl⟩ := Array.getElem?_eq_some_iff.1 h
  apply List.ext_getElem?
  intro j
  rw [Array.toList_modify, List.getElem?_modify, List.getElem?_set]
  by_cases hij : i = j
  · subst hij
    simp [hlt]
  · simp [hij]

/-- The entries of a map at hand. -/
def mapOf (h : Hp) (x : V) : Option (List (Value × V × Nat)) := match x with
  | .mp id => match h.get id with
    | some (.map es _) => some es
    | _ => none
  | .sc (.map none) => some []
  | _ => none
def zeroV (P : Program) (e : TypeId) : Option V := match P.info? e with
  | some i => i.zero.bind ofVal
  | none => none
theorem zeroV_run {P : Program} {q : Q} (w : World) {e : TypeId} {x : V} (h : zeroV P e = some x) : ∃ v, (zeroValue e).run P w = .ok v w ∧ R q x v := by
  unfold zeroV at h
  split at h
  · rename_i i hi
    obtain ⟨z, hz, hx⟩ := Option.bind_eq_some_iff.1 h
    exact ⟨z, by simp [zeroValue, typeInfo, hi, hz], R.ofVal q z x hx⟩
  · cases h
def keyOk (P : Program) (empty : Bool) (K : TypeId) (k : Value) : Bool := (eval0 P (Instr.checkKey empty 10000 K k)).isSome
theorem keyOk_run {P : Program} (w : World) {empty : Bool} {K : TypeId} {k : Value} (h : keyOk P empty K k = true) : (Instr.checkKey empty 10000 K k).run P w = .ok () w := by
  obtain ⟨u, hu⟩ := Option.isSome_iff_exists.1 h
  exact eval0_run P w _ u hu

theorem R.pair {q : Q} {x y : V} {v u : Value} (hx : R q x v) (hy : R q y u) : R q (.tup [x, y]) (.tuple #[v, u]) :=
  ⟨[v, u], ⟨v, [u], hx, ⟨u, [], hy, rfl, rfl⟩, rfl⟩, rfl⟩
def lookupE (P : Program) (h : Hp) (T : TypeId) (m k : V) (ok : Bool) : Option V :=
  match mapParts P T, mapOf h m, valOf k with
  | some (K, e), some es, some kv => if keyOk P es.isEmpty K kv ∧ (P.underlying K).isSome = true then
      match findE P K kv es 0 with
      | some (some (_, x)) => some (bif ok then .tup [x, .sc (.bool true)] else x)
      | some none => (zeroV P e).map fun x => bif ok then .tup [x, .sc (.bool false)] else x
      | none => none
    else none
  | _, _, _ => none
theorem lookupE_run {P : Program} {B : Nat} {q : Q} {h : Hp} {w : World} (hT : HT B q h w) {T : TypeId} {m k x : V} {vm vk : Value} {ok : Bool} (hm : R q m vm) (hk : R q k vk) (he : lookupE P h T m k ok = some x) :
    ∃ v, (Instr.lookup T vm vk ok).run P w = .ok v w ∧ R q x v := by
  unfold lookupE at he
  split at he
  · rename_i K e es kv hp hme hkv
    obtain rfl := valOf_sound hk hkv
    have hTy := mapParts_eq hp
    have hes : ∃ fs : Array MapEntry, EL q es fs.toList ∧ ((vm = .map none ∧ fs = #[]) ∨ ∃ r clock, vm = .map (some r) ∧ w.heap[r]? = some (.map fs clock)) := by
      unfold mapOf at hme
      split at hme
      · rename_i id
        obtain ⟨f, k1, rfl⟩ := hm
        split at hme
        · rename_i es' clock hg
          simp only [Option.some.injEq] at hme
          subst hme
          obtain ⟨f', h1, ⟨vs, h2, h3⟩, _⟩ := hT.tie id _ hg
          rw [k1] at h1
          cases h1
          exact ⟨⟨vs⟩, h3, .inr ⟨_, _, rfl, h2⟩⟩
        · cases hme
      · simp only [Option.some.injEq] at hme
        subst hme
        obtain ⟨rfl, _⟩ := hm
        exact ⟨#[], rfl, .inl ⟨rfl, rfl⟩⟩
      · cases hme
    obtain ⟨fs, hel, hfs⟩ := hes
    have hemp : fs.isEmpty = es.isEmpty := by
      have := hel.length
      cases es with
      | nil =>
        have hz : fs.size = 0 := by simpa using this.symm
        simp [Array.isEmpty, hz]
      | cons a l =>
        have hz : fs.size ≠ 0 := by simp at this; omega
        simp [Array.isEmpty, hz]
    split at he
    · rename_i hok
      obtain ⟨h1, h2⟩ := hok
      have hck := keyOk_run w h1
      rw [← hemp] at hck
      have hlk : ∀ r', (Instr.findKey K vk fs.toList).run P w = .ok r' w → ∀ y b, (match r' with
          | some (_, v) => pure (v, true)
          | none => do pure (← zeroValue e, false) : Sem (Value × Bool)).run P w = .ok (y, b) w → (Instr.lookup T vm vk ok).run P w = .ok (if ok then .tuple #[y, .bool b] else y) w := by
        intro r' hr' y b hy
        rcases hfs with ⟨rfl, rfl⟩ | ⟨r, clock, rfl, hr⟩
        · cases r' with
          | none =>
            simp only [Sem.run_bind] at hy
            simp only [Instr.lookup, Sem.run_bind, run_underlying hTy, Result.andThen_ok, Sem.run_pure, hck, hr']
            cases hz : (zeroValue e).run P w with
            | ok z w' => rw [hz] at hy; simp only [Result.andThen_ok, Sem.run_pure, Result.ok.injEq, Prod.mk.injEq] at hy ⊢; obtain ⟨⟨rfl, rfl⟩, rfl⟩ := hy; exact ⟨rfl, rfl⟩
            | halt => rw [hz] at hy; cases hy
          | some iv =>
            simp only [Sem.run_pure, Result.ok.injEq, and_true, Prod.mk.injEq] at hy
            obtain ⟨rfl, rfl⟩ := hy
            simp only [Instr.lookup, Sem.run_bind, run_underlying hTy, Result.andThen_ok, Sem.run_pure, hck, hr']
        · have hg : (getObj r).run P w = .ok (.map fs clock) w := by simp [getObj, Sem.run, hr]
          cases r' with
          | none =>
            simp only [Sem.run_bind] at hy
            simp only [Instr.lookup, Sem.run_bind, run_underlying hTy, Result.andThen_ok, Sem.run_pure, hg, hck, hr']
            cases hz : (zeroValue e).run P w with
            | ok z w' => rw [hz] at hy; simp only [Result.andThen_ok, Sem.run_pure, Result.ok.injEq, Prod.mk.injEq] at hy ⊢; obtain ⟨⟨rfl, rfl⟩, rfl⟩ := hy; exact ⟨rfl, rfl⟩
            | halt => rw [hz] at hy; cases hy
          | some iv =>
            simp only [Sem.run_pure, Result.ok.injEq, and_true, Prod.mk.injEq] at hy
            obtain ⟨rfl, rfl⟩ := hy
            simp only [Instr.lookup, Sem.run_bind, run_underlying hTy, Result.andThen_ok, Sem.run_pure, hg, hck, hr']
      split at he
      · rename_i i y hf
        simp only [Option.some.injEq] at he
        subst he
        obtain ⟨r', m1, e', m2, m3, m4, rfl⟩ := findE_run w h2 hel hf
        refine ⟨_, hlk _ m1 e'.val true rfl, ?_⟩
        cases ok
        · exact m4
        · exact R.pair m4 ⟨rfl, rfl⟩
      · rename_i hf
        obtain ⟨y, hy, rfl⟩ := Option.map_eq_some_iff.1 he
        obtain ⟨r', m1, m2⟩ := findE_run w h2 hel hf
        simp only [Found] at m2
        subst m2
        obtain ⟨z, z1, z2⟩ := zeroV_run (q := q) w hy
        refine ⟨_, hlk _ m1 z false (by simp [z1]), ?_⟩
        cases ok
        · exact z2
        · exact R.pair z2 ⟨rfl, rfl⟩
      · cases he
    · cases he
  · cases he
end Go.N
