/- Ranges over maps. -/
import Derived.Test.YtmdmacmkmdgeaaaGreatDoorN5d
namespace Go.N
open Go Go.RowKit

def rangeE (P : Program) (h : Hp) (T : TypeId) (x : V) : Option (V × Hp) := match mapParts P T, x with
  | some _, .sc (.map none) => some (.ptr h.next 0, h.new (.iter none 0 [] 0))
  | some _, .mp id => match h.get id with
    | some (.map _ clock) => some (.ptr h.next 0, h.new (.iter (some id) clock [] clock))
    | _ => none
  | _, _ => none
theorem rangeE_did {P : Program} {B : Nat} {q : Q} {h : Hp} {w : World} (hT : HT B q h w) {T : TypeId} {x y : V} {v : Value} {h' : Hp} (hx : R q x v) (he : rangeE P h T x = some (y, h')) :
    Did P B q h w (do pure (.value (← Instr.range T v))) y h' := by
  have fin : ∀ (o : Ob) (it : Obj), OT q o ⟨w.heap.size, 0, 0⟩ (some it) → (Instr.range T v).run P w = .ok (.pointer (some ⟨w.heap.size, 0, none⟩)) (w.alloc it) → Did P B q h w (do pure (.value (← Instr.range T v))) (.ptr h.next 0) (h.new o) := by
    intro o it hO hrun hfree
    have hqn : q h.next = none := hfree _ (Nat.le_refl _) (Nat.lt_succ_self _)
    obtain ⟨h2, h3⟩ := hT.push hqn (o := o) (x := it) (d := 0) (n := 0) (w' := w.alloc it) rfl rfl rfl rfl hO
    exact ⟨.value (.pointer (some ⟨w.heap.size, 0, none⟩)), _, _, w.alloc it, by simp only [Sem.run_bind, hrun, Result.andThen_ok, Sem.run_pure], .inl rfl, h2, h3, ⟨w.heap.size, 0, 0⟩, by simp, rfl⟩
  unfold rangeE at he
  split at he
  · rename_i p hp
    obtain ⟨a, b⟩ := p
    simp only [Option.some.injEq, Prod.mk.injEq] at he
    obtain ⟨rfl, rfl⟩ := he
    obtain ⟨rfl, _⟩ := hx
    exact fin _ _ ⟨rfl, rfl⟩ (by simp [Instr.range, run_underlying (mapParts_eq hp)])
  · rename_i p id hp
    obtain ⟨a, b⟩ := p
    split at he
    · rename_i es clock hg
      simp only [Option.some.injEq, Prod.mk.injEq] at he
      obtain ⟨rfl, rfl⟩ := he
      obtain ⟨f, k1, rfl⟩ := hx
      obtain ⟨f', m1, ⟨fs, m2, m3⟩, _⟩ := hT.tie id _ hg
      rw [k1] at m1
      cases m1
      exact fin _ _ ⟨rfl, f, k1, rfl⟩ (by simp [Instr.range, run_underlying (mapParts_eq hp), run_getMap m2])
    · cases he
  · cases he

def entryE (h : Hp) (x : V) : Option V := match x with
  | .ptr id 0 => match h.get id with
    | some (.iter (some m) _ seen last) => match h.get m, seen.getLast? with
      | some (.map es clock), some stamp => if clock = last then match es.find? fun e => Nat.beq e.2.2 stamp with
          | some (k, v, _) => match ofVal k with
            | some k => some (.tup [k, v])
            | none => none
          | none => none
        else none
      | _, _ => none
    | _ => none
  | _ => none
theorem EL.find {q : Q} {stamp : Nat} : ∀ {es : List (Value × V × Nat)} {fs : List MapEntry}, EL q es fs → ∀ {k : Value} {x : V} {n : Nat}, es.find? (fun e => Nat.beq e.2.2 stamp) = some (k, x, n) →
    ∃ e, fs.find? (fun e => e.born == stamp) = some e ∧ e.key = k ∧ R q x e.val
  | [], fs, h, k, x, n, he => by simp at he
  | (k', x', n') :: l, _, ⟨v, fs, h1, _, h2, e0⟩, k, x, n, he => by
    subst e0
    simp only [List.find?_cons] at he ⊢
    cases hb : Nat.beq n' stamp with
    | true =>
      rw [hb] at he
      simp only [Option.some.injEq, Prod.mk.injEq] at he
      obtain ⟨rfl, rfl, rfl⟩ := he
      have hb2 : (n' == stamp) = true := by simpa using Nat.eq_of_beq_eq_true hb
      rw [hb2]
      exact ⟨_, rfl, rfl, h1⟩
    | false =>
      rw [hb] at he
      have hb2 : (n' == stamp) = false := by
        rw [beq_eq_false_iff_ne]
        rintro rfl
        rw [Nat.beq_refl] at hb
        cases hb
      rw [hb2]
      exact EL.find h2 he
theorem run_getIter {P : Program} {w : World} {r : Nat} {m : Option Nat} {since last : Nat} {seen : Array Nat} (h : w.heap[r]? = some (.mapIter m since seen last)) : (getObj r).run P w = .ok (.mapIter m since seen last) w := by
  simp [getObj, Sem.run, h]
theorem entryE_run {P : Program} {B : Nat} {q : Q} {h : Hp} {w : World} (hT : HT B q h w) {x y : V} {v : Value} (hx : R q x v) (he : entryE h x = some y) : ∃ u, (Instr.entry v).run P w = .ok u w ∧ R q y u := by
  unfold entryE at he
  split at he
  · rename_i id
    split at he
    · rename_i m since seen last hg
      split at he
      · rename_i es clock stamp hgm hst
        split at he
        · rename_i hcl
          subst hcl
          split at he
          · rename_i k z n hf
            split at he
            · rename_i kk hk
              simp only [Option.some.injEq] at he
              subst he
              obtain ⟨f, k1, rfl⟩ := hx
              obtain ⟨f', m1, ⟨m0, em, m2, m3⟩, _⟩ := hT.tie id _ hg
              rw [k1] at m1
              cases m1
              obtain ⟨g', n1, ⟨fs, n2, n3⟩, _⟩ := hT.tie m _ hgm
              rw [m2] at n1
              cases n1
              obtain ⟨e, p1, p2, p3⟩ := EL.find n3 hf
              refine ⟨.tuple #[e.key, e.val], ?_, _, ⟨_, _, R.ofVal q _ _ (p2 ▸ hk), ⟨_, _, p3, rfl, rfl⟩, rfl⟩, rfl⟩
              have hb : (⟨seen⟩ : Array Nat).back? = some stamp := by rw [Array.back?_eq_getElem?, ← hst, List.getLast?_eq_getElem?]; simp
              simp [Instr.entry, m0, run_getIter m3, run_getMap n2, hb, p1]
            · cases he
          · cases he
        · cases he
      · cases he
    · cases he
  · cases he

/-- Sorts of the next entry. -/
def leftE (seen : List Nat) (es : List (Value × V × Nat)) : List (Value × V × Nat) := es.filter fun e => !memB e.2.2 seen
def outs (h : Hp) (id m since : Nat) (seen : List Nat) (clock : Nat) : List (Value × V × Nat) → Option (List (V × Hp))
  | [] => some []
  | (k, x, n) :: l => match ofVal k, outs h id m since seen clock l with
    | some k, some rs => some ((.tup [.sc (.bool true), k, x], h.set id (some (.iter (some m) since (seen ++ [n]) clock))) :: rs)
    | _, _ => none
def nextE (h : Hp) (x : V) : Option (List (V × Hp)) := match x with
  | .ptr id 0 => match h.get id with
    | some (.iter none _ _ _) => some [(.tup [.sc (.bool false)], h)]
    | some (.iter (some m) since seen last) => match h.get m with
      | some (.map es clock) => if (seen.isEmpty || es.isEmpty || !es.all fun e => Nat.ble last e.2.2) && (es.all fun e => Nat.blt e.2.2 since) then
          match leftE seen es with
          | [] => some [(.tup [.sc (.bool false)], h)]
          | l => if h.lim ≤ id then outs h id m since seen clock l else none
        else none
      | _ => none
    | _ => none
  | _ => none
theorem outs_at {h : Hp} {id m since : Nat} {seen : List Nat} {clock : Nat} : ∀ {l : List (Value × V × Nat)} {rs : List (V × Hp)}, outs h id m since seen clock l = some rs → ∀ {c : Nat} {k : Value} {x : V} {n : Nat}, l[c]? = some (k, x, n) →
    ∃ kk, ofVal k = some kk ∧ (.tup [.sc (.bool true), kk, x], h.set id (some (.iter (some m) since (seen ++ [n]) clock))) ∈ rs
  | [], rs, he, c, k, x, n, hc => by simp at hc
  | (k', x', n') :: l, rs, he, c, k, x, n, hc => by
    simp only [outs] at he
    split at he
    · rename_i kk rs' hk hr
      simp only [Option.some.injEq] at he
      subst he
      cases c with
      | zero =>
        simp only [List.getElem?_cons_zero, Option.some.injEq, Prod.mk.injEq] at hc
        obtain ⟨rfl, rfl, rfl⟩ := hc
        exact ⟨kk, hk, List.mem_cons_self⟩
      | succ c =>
        obtain ⟨k2, h1, h2⟩ := outs_at hr (by simpa using hc)
        exact ⟨k2, h1, List.mem_cons_of_mem _ h2⟩
    · cases he
theorem EL.filter {q : Q} {p : Nat → Bool} : ∀ {es : List (Value × V × Nat)} {fs : List MapEntry}, EL q es fs → EL q (es.filter fun e => p e.2.2) (fs.filter fun e => p e.born)
  | [], fs, h => by simp only [EL] at h; subst h; rfl
  | (k', x', n') :: l, _, ⟨v, fs, h1, h0, h2, e0⟩ => by
    subst e0
    simp only [List.filter_cons]
    cases p n' with
    | true => exact ⟨v, _, h1, h0, EL.filter h2, rfl⟩
    | false => exact EL.filter h2
theorem EL.all {q : Q} {p : Nat → Bool} : ∀ {es : List (Value × V × Nat)} {fs : List MapEntry}, EL q es fs → (es.all fun e => p e.2.2) = fs.all fun e => p e.born
  | [], fs, h => by simp only [EL] at h; subst h; rfl
  | (k', x', n') :: l, _, ⟨v, fs, h1, h0, h2, e0⟩ => by
    subst e0
    simp only [List.all_cons, EL.all h2]

section
variable {P : Program} {w : World} {r m since last : Nat} {seen : Array Nat} {fs : List MapEntry} {clock : Nat} {ty : TypeId}
theorem run_next_eq (hr : w.heap[r]? = some (.mapIter (some m) since seen last)) (hm : w.heap[m]? = some (.map ⟨fs⟩ clock))
    (hu : (!seen.isEmpty && !fs.isEmpty && fs.all fun e => decide (e.born ≥ last)) = false) (hnew : (fs.all fun e => decide (e.born < since)) = true) {L : List MapEntry} (hL : (fs.filter fun e => !seen.contains e.born) = L) :
    (Instr.next (.pointer (some ⟨r, 0, none⟩)) false ty).run P w = (do
      match ((if (⟨L⟩ : Array MapEntry).isEmpty then #[none] else #[]) ++ (⟨L⟩ : Array MapEntry).map some)[← choose (.mapNext ((if (⟨L⟩ : Array MapEntry).isEmpty then #[none] else #[]) ++ (⟨L⟩ : Array MapEntry).map some).size)]? with
      | some (some e) =>
        setObj r (.mapIter (some m) since (seen.push e.born) clock)
        pure (.tuple #[.bool true, e.key, e.val])
      | some none => pure (.tuple #[.bool false])
      | none => stuck "Next: no such candidate" : Sem Value).run P w := by
  have e1 : ((⟨fs⟩ : Array MapEntry).filter fun e => !seen.contains e.born) = ⟨L⟩ := by
    apply Array.ext'
    rw [Array.toList_filter]
    exact hL
  have hall : ∀ e ∈ L, e.born < since := by
    intro e he
    rw [← hL] at he
    have := List.all_eq_true.1 hnew e (List.mem_filter.1 he).1
    simpa using this
  have e2 : ((⟨L⟩ : Array MapEntry).filter fun e => decide (e.born < since)) = ⟨L⟩ := by
    apply Array.ext'
    rw [Array.toList_filter]
    exact List.filter_eq_self.2 fun e he => by simpa using hall e he
  have e3 : ((⟨L⟩ : Array MapEntry).filter fun e => decide (e.born ≥ since)) = #[] := by
    apply Array.ext'
    rw [Array.toList_filter]
    refine List.filter_eq_nil_iff.2 fun e he => ?_
    have := hall e he
    simp; omega
  have e0 : (!seen.isEmpty && !(⟨fs⟩ : Array MapEntry).isEmpty && (⟨fs⟩ : Array MapEntry).all fun x => decide (x.born ≥ last)) = false := by
    have : (⟨fs⟩ : Array MapEntry).isEmpty = fs.isEmpty := by simp
    rw [this, ← hu]
    congr 1
    exact List.all_toArray' rfl
  simp only [Instr.next, Sem.run_bind, run_getIter hr, run_getMap hm, Result.andThen_ok]
  rw [e0]
  simp only [Bool.false_eq_true, if_false, e1, e2, e3, Array.append_empty, Sem.run_bind]
  congr 1
theorem run_next_over (hr : w.heap[r]? = some (.mapIter (some m) since seen last)) (hm : w.heap[m]? = some (.map ⟨fs⟩ clock))
    (hu : (!seen.isEmpty && !fs.isEmpty && fs.all fun e => decide (e.born ≥ last)) = false) (hnew : (fs.all fun e => decide (e.born < since)) = true) (hL : (fs.filter fun e => !seen.contains e.born) = []) :
    (Instr.next (.pointer (some ⟨r, 0, none⟩)) false ty).run P w = .ok (.tuple #[.bool false]) w := by
  rw [run_next_eq hr hm hu hnew hL]
  simp [choose, Sem.run, Question.forced]
theorem run_next_some (hr : w.heap[r]? = some (.mapIter (some m) since seen last)) (hm : w.heap[m]? = some (.map ⟨fs⟩ clock))
    (hu : (!seen.isEmpty && !fs.isEmpty && fs.all fun e => decide (e.born ≥ last)) = false) (hnew : (fs.all fun e => decide (e.born < since)) = true) {L : List MapEntry} (hL : (fs.filter fun e => !seen.contains e.born) = L) (hne : L ≠ []) :
    ∃ (c : Nat) (e : MapEntry) (n : Nat), L[c]? = some e ∧ (Instr.next (.pointer (some ⟨r, 0, none⟩)) false ty).run P w = .ok (.tuple #[.bool true, e.key, e.val]) { w with heap := w.heap.setIfInBounds r (.mapIter (some m) since (seen.push e.born) clock), drawn := n } := by
  have hpos : 0 < L.length := List.length_pos_iff.2 hne
  have hemp : (⟨L⟩ : Array MapEntry).isEmpty = false := by cases L with | nil => exact absurd rfl hne | cons _ _ => rfl
  have key : ∀ c n, c < L.length → (match (#[] ++ (⟨L⟩ : Array MapEntry).map some)[c]? with
      | some (some e) => (do
        setObj r (.mapIter (some m) since (seen.push e.born) clock)
        pure (.tuple #[.bool true, e.key, e.val]) : Sem Value)
      | some none => pure (.tuple #[.bool false])
      | none => stuck "Next: no such candidate").run P { w with drawn := n } = .ok (.tuple #[.bool true, (L[c]?.getD default).key, (L[c]?.getD default).val]) { w with heap := w.heap.setIfInBounds r (.mapIter (some m) since (seen.push (L[c]?.getD default).born) clock), drawn := n } := by
    intro c n hc
    have hcc : (#[] ++ (⟨L⟩ : Array MapEntry).map some)[c]? = some (some L[c]) := by simp [hc]
    rw [hcc]
    simp [setObj, Sem.run, hr, hc]
  rw [run_next_eq hr hm hu hnew hL]
  simp only [hemp, Bool.false_eq_true, if_false]
  have hsz : (#[] ++ (⟨L⟩ : Array MapEntry).map some).size = L.length := by simp
  simp only [Sem.run_bind, choose, Sem.run, hsz, Question.forced]
  by_cases h1 : L.length ≤ 1
  · simp only [h1, decide_true, if_true, Result.andThen_ok]
    exact ⟨0, _, w.drawn, List.getElem?_eq_getElem hpos, by have := key 0 w.drawn hpos; rw [List.getElem?_eq_getElem hpos] at this; exact this⟩
  · have hc : (Question.mapNext L.length).cut (w.tape w.drawn (.mapNext L.length)) < L.length := by
      simp only [Question.cut]
      exact Nat.mod_lt _ hpos
    simp only [h1, decide_false, Bool.false_eq_true, if_false, Result.andThen_ok]
    exact ⟨_, _, w.drawn + 1, List.getElem?_eq_getElem hc, by have := key _ (w.drawn + 1) hc; rw [List.getElem?_eq_getElem hc] at this; exact this⟩
end
theorem contains_memB {n : Nat} {l : List Nat} : l.contains n = memB n l := by
  rw [Bool.eq_iff_iff, List.contains_iff_mem, memB_iff]
theorem nextE_did {P : Program} {B : Nat} {q : Q} {h : Hp} {w : World} (hT : HT B q h w) {x : V} {v : Value} {ty : TypeId} {rs : List (V × Hp)} (hx : R q x v) (he : nextE h x = some rs) :
    ∃ y h' u w', (y, h') ∈ rs ∧ (Instr.next v false ty).run P w = .ok u w' ∧ HT B q h' w' ∧ Fr q h w q h' w' ∧ R q y u := by
  unfold nextE at he
  split at he
  · rename_i id
    obtain ⟨f, k1, rfl⟩ := hx
    split at he
    · rename_i since seen last hg
      simp only [Option.some.injEq] at he
      subst he
      obtain ⟨f', m1, ⟨m0, m2⟩, _⟩ := hT.tie id _ hg
      rw [k1] at m1
      cases m1
      refine ⟨_, _, .tuple #[.bool false], w, List.mem_singleton.2 rfl, ?_, hT, hT.fr, ⟨_, ⟨.bool false, [], ⟨rfl, rfl⟩, rfl, rfl⟩, rfl⟩⟩
      simp [Instr.next, m0, run_getIter m2]
    · rename_i m since seen last hg
      split at he
      · rename_i es clock hgm
        obtain ⟨f', m1, ⟨m0, em, m2, m3⟩, _⟩ := hT.tie id _ hg
        rw [k1] at m1
        cases m1
        obtain ⟨g', n1, ⟨fs, n2, n3⟩, _⟩ := hT.tie m _ hgm
        rw [m2] at n1
        cases n1
        split at he
        · rename_i hok
          simp only [Bool.and_eq_true] at hok
          obtain ⟨hu, hnew⟩ := hok
          have hnew' : (fs.all fun e => decide (e.born < since)) = true := by
            rw [n3.all (p := fun n => Nat.blt n since)] at hnew
            rw [← hnew]
            congr 1
            funext e
            rw [Bool.eq_iff_iff, decide_eq_true_eq]
            exact ⟨fun h => Nat.ble_eq_true_of_le h, fun h => Nat.le_of_ble_eq_true h⟩
          have hlen := n3.length
          have hu' : (!(⟨seen⟩ : Array Nat).isEmpty && !fs.isEmpty && fs.all fun e => decide (e.born ≥ last)) = false := by
            rw [n3.all (p := fun n => Nat.ble last n)] at hu
            have e1 : (fs.all fun e => decide (e.born ≥ last)) = fs.all fun e => Nat.ble last e.born := by
              congr 1
              funext e
              rw [Bool.eq_iff_iff, decide_eq_true_eq]
              exact ⟨fun h => Nat.ble_eq_true_of_le h, fun h => Nat.le_of_ble_eq_true h⟩
            have e2 : es.isEmpty = fs.isEmpty := by
              cases es <;> cases fs <;> simp at hlen ⊢
            have e3 : (⟨seen⟩ : Array Nat).isEmpty = seen.isEmpty := by simp
            rw [e1, e3, ← e2]
            revert hu
            cases seen.isEmpty <;> cases es.isEmpty <;> cases (fs.all fun e => Nat.ble last e.born) <;> simp
          have hL : EL q (leftE seen es) (fs.filter fun e => !(⟨seen⟩ : Array Nat).contains e.born) := by
            have := n3.filter (p := fun n => !memB n seen)
            have e : (fun e : MapEntry => !(⟨seen⟩ : Array Nat).contains e.born) = fun e => !memB e.born seen := by
              funext e
              rw [← contains_memB]
              simp
            rw [e]
            exact this
          split at he
          · rename_i hl
            simp only [Option.some.injEq] at he
            subst he
            rw [hl] at hL
            simp only [EL] at hL
            have hr := run_next_over (P := P) (ty := ty) m3 n2 hu' hnew' hL
            rw [m0]
            exact ⟨_, _, .tuple #[.bool false], w, List.mem_singleton.2 rfl, hr, hT, hT.fr, ⟨_, ⟨.bool false, [], ⟨rfl, rfl⟩, rfl, rfl⟩, rfl⟩⟩
          · rename_i hl
            split at he
            · rename_i hlim
              have hne : (fs.filter fun e => !(⟨seen⟩ : Array Nat).contains e.born) ≠ [] := by
                intro h0
                rw [h0] at hL
                cases hll : leftE seen es with
                | nil => exact hl hll
                | cons a b =>
                  rw [hll] at hL
                  have := hL.length
                  simp at this
              obtain ⟨c, e, n, hc, hrun⟩ := run_next_some (P := P) (ty := ty) m3 n2 hu' hnew' rfl hne
              obtain ⟨z, hz, hze⟩ := hL.get hc
              obtain ⟨kk, hk, hmem⟩ := outs_at he hz
              have hb := hT.dom id f k1
              have hov := HT.over hT (o' := .iter (some m) since (seen ++ [e.born]) clock) hg k1 hlim (x := .mapIter (some em.b) since ((⟨seen⟩ : Array Nat).push e.born) clock)
                (w' := { w with heap := w.heap.setIfInBounds f.b (.mapIter (some em.b) since ((⟨seen⟩ : Array Nat).push e.born) clock), drawn := n })
                (by simp [hb]) (fun b hne => by simp [Ne.symm hne]) (by simp) rfl rfl rfl ⟨m0, em, m2, by simp⟩
              rw [m0]
              exact ⟨_, _, _, _, hmem, hrun, hov.1, hov.2, ⟨_, ⟨.bool true, _, ⟨rfl, rfl⟩, ⟨_, _, R.ofVal q _ _ hk, ⟨_, _, hze, rfl, rfl⟩, rfl⟩, rfl⟩, rfl⟩⟩
            · cases he
        · cases he
      · cases he
    · cases he
  · cases he
end Go.N
