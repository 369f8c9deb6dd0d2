/- append, literals of slices, make. -/
import Derived.Test.YtmdmacmkmdgeaaaGreatDoorN4
import Derived.Laws.MakeOwn
namespace Go.N
open Go Go.RowKit

def isIntD : TypeDesc → Bool
  | .slice _ | .string => false
  | _ => true

set_option maxHeartbeats 1000000
/-- append in place. -/
theorem run_append_in {P : Program} (w : World) (t u ty e : TypeId) (i : TypeInfo) (d : TypeDesc) (ht : P.underlying t = some (.slice e)) (hu : P.underlying u = some d) (hd : isIntD d = false) (hi : P.info? e = some i)
    (g o sLen sCap : Nat) (cur : Array Value) (hg : w.heap[g]? = some (.cells cur e (0, 0))) (x : Value) (n : Nat) (news : List Value) (hn : (Builtin.lenOf x).run P w = .ok n w)
    (hx : (Builtin.firstCells i.size n x).run P w = .ok ⟨news⟩ w) (h1 : ∀ u ∈ news, u.oneCell' = true) (hroom : sLen + n ≤ sCap) (hfit : o + sLen * i.size + news.length ≤ cur.size) :
    (Builtin.append_ #[t, u] ty #[.slice (some ⟨g, o, none⟩) sLen sCap, x]).run P w =
      .ok (.slice (some ⟨g, o, none⟩) (sLen + n) sCap) (w.setRow g (cur.toList.take (o + sLen * i.size) ++ news ++ cur.toList.drop (o + sLen * i.size + news.length)).toArray) := by
  have hst := run_storeCells_at P g (o + sLen * i.size) e news 0 cur w hg (by simpa using hfit) h1
  simp only [Nat.add_zero] at hst
  cases d <;> first
    | (simp [isIntD] at hd; done)
    | simp [Builtin.append_, run_underlying ht, run_underlying hu, sizeOf, typeInfo, hi, hn, hroom, hx, addr_add, hst]

theorem run_append_none {P : Program} (w : World) (t u ty e : TypeId) (i : TypeInfo) (d : TypeDesc) (ht : P.underlying t = some (.slice e)) (hu : P.underlying u = some d) (hd : isIntD d = false) (hi : P.info? e = some i)
    (base : Option Addr) (sLen sCap : Nat) (x : Value) (hn : (Builtin.lenOf x).run P w = .ok 0 w)
    (hx : (Builtin.firstCells i.size 0 x).run P w = .ok #[] w) (hroom : sLen ≤ sCap) :
    (Builtin.append_ #[t, u] ty #[.slice base sLen sCap, x]).run P w = .ok (.slice base sLen sCap) w := by
  cases d <;> first
    | (simp [isIntD] at hd; done)
    | (cases base <;> simp [Builtin.append_, run_underlying ht, run_underlying hu, sizeOf, typeInfo, hi, hn, hroom, hx, storeCells])

theorem run_append_out {P : Program} (w : World) (t u ty e : TypeId) (i : TypeInfo) (z : Value) (d : TypeDesc) (ht : P.underlying t = some (.slice e)) (hu : P.underlying u = some d) (hd : isIntD d = false) (hi : P.info? e = some i) (hz : i.zero = some z)
    (base : Option Addr) (sLen sCap : Nat) (x : Value) (n : Nat) (olds news : List Value) (hn : (Builtin.lenOf x).run P w = .ok n w)
    (ho : ∀ w', w'.heap = w.heap → (Builtin.firstCells i.size sLen (.slice base sLen sCap)).run P w' = .ok ⟨olds⟩ w')
    (hx : ∀ w', w'.heap = w.heap → (Builtin.firstCells i.size n x).run P w' = .ok ⟨news⟩ w')
    (hg : sCap < sLen + n) (h63 : ((sLen + n : Nat) : Int) ≤ 9223372036854775807) (hfit : Builtin.nextslicecap (sLen + n) sCap * i.bytes ≤ 281474976710656) :
    (Builtin.append_ #[t, u] ty #[.slice base sLen sCap, x]).run P w =
      .ok (.slice (some ⟨w.heap.size, 0, none⟩) (sLen + n) (grownCap w (sLen + n) sCap e))
        (w.drew.alloc (.cells (olds.toArray ++ news.toArray ++ Builtin.zeroCells z.cells (grownCap w (sLen + n) sCap e - (sLen + n))) e)) := by
  have hn' : ¬ (sLen + n ≤ sCap) := by omega
  have h63' : ¬ (9223372036854775807 < ((sLen : Int) + (n : Int))) := by omega
  have h48' : ¬ (281474976710656 < Builtin.nextslicecap (sLen + n) sCap * i.bytes) := by omega
  have hf := hx w.drew rfl
  have hfo := ho w.drew rfl
  cases d <;> first
    | (simp [isIntD] at hd; done)
    | (simp [Builtin.append_, run_underlying ht, run_underlying hu, sizeOf, typeInfo, zeroValue, hi, hz, hn, hn', h63', h48', Question.forced, hf, hfo, newRow, grownCap]
       try (congr 2; apply Array.ext'; simp [List.append_assoc]))

def grow (h : Hp) (e : TypeId) (sz n : Nat) (cs : List V) : V × Hp := (.sl h.next 0 sz n n false, h.new (.cells e cs))

def appendE (P : Program) (h : Hp) (t u : TypeId) (s x : V) : Option (V × Hp) :=
  match sliceElem P t, P.underlying u with
  | some e, some d => match P.info? e with
    | some i => match i.zero with
      | some z => if isIntD d = false ∧ z.cells.size = i.size ∧ (zeroCells z).isSome = true then
          match srcCells h i.size x with
          | some (n, news) => match n with
            | 0 => match s with
              | .sl .. | .sc (.slice none 0 0) => some (s, h)
              | _ => none
            | n + 1 => match s with
              | .sc (.slice none 0 0) => if n + 1 ≤ maxLen ∧ (n + 1) * i.bytes ≤ 140737488355328 then some (grow h e i.size (n + 1) news) else none
              | .sl id off sz len cap ex => if sz = i.size ∧ len + (n + 1) ≤ maxLen ∧ (len + (n + 1)) * i.bytes ≤ 140737488355328 then
                  if len + (n + 1) ≤ cap then match h.get id with
                    | some (.cells T cs) => if off + (len + (n + 1)) * sz ≤ cs.length ∧ h.lim ≤ id ∧ T = e then some (.sl id off sz (len + (n + 1)) cap ex, h.set id (some (.cells T (overC cs news (off + len * sz))))) else none
                    | _ => none
                  else match ex with
                  | true => match cellsOf h id with
                    | some cs => if off + len * sz ≤ cs.length then some (grow h e sz (len + (n + 1)) ((cs.drop off).take (len * sz) ++ news)) else none
                    | none => none
                  | false => match h.get id with
                    | some (.cells T cs) => if off + len * sz ≤ cs.length ∧ h.lim ≤ id ∧ T = e then some (grow (h.set id none) e sz (len + (n + 1)) ((cs.drop off).take (len * sz) ++ news)) else none
                    | _ => none
                else none
              | _ => none
          | none => none
        else none
      | none => none
    | none => none
  | _, _ => none

/-- The new row behind an append that finds no room. -/
theorem HT.grown {B : Nat} {q : Q} {h : Hp} {w : World} (hT : HT B q h w) (hqn : q h.next = none) {e : TypeId} {cs : List V} {olds news : List Value} {z : Value} {zc : List V} {need old sz : Nat} (hR : RL q cs (olds ++ news)) (h1 : ∀ u ∈ olds ++ news, u.oneCell' = true)
    (hz : zeroCells z = some zc) (hzs : z.cells.size = sz) (hlen : (olds ++ news).length = need * sz) (hm : need ≤ maxLen) :
    ∃ q', HT B q' (h.new (.cells e cs)) (w.drew.alloc (.cells (olds.toArray ++ news.toArray ++ Builtin.zeroCells z.cells (grownCap w need old e - need)) e)) ∧
      Fr q h w q' (h.new (.cells e cs)) (w.drew.alloc (.cells (olds.toArray ++ news.toArray ++ Builtin.zeroCells z.cells (grownCap w need old e - need)) e)) ∧
      R q' (.sl h.next 0 sz need need false) (.slice (some ⟨w.heap.size, 0, none⟩) need (grownCap w need old e)) := by
  have hge := grownCap_ge w need old e
  have hcm := grownCap_le_maxLen w need old e hm
  obtain ⟨k1, k2⟩ := zeroCells_sound q hz
  let vs := olds ++ news ++ (Builtin.zeroCells z.cells (grownCap w need old e - need)).toList
  have hl := hR.length
  have hvl : vs.length = grownCap w need old e * sz := by
    simp only [vs, List.length_append, Array.length_toList, size_zeroCells, hzs] at hlen ⊢
    rw [hlen, ← Nat.add_mul]
    congr 1; omega
  have hpush := hT.cells hqn (T := e) (cs := cs) (vs := vs) (n := vs.length) rfl (by simp only [vs, List.length_append] at hl ⊢; omega)
    (by rw [hl]; simp only [vs]; rw [List.take_left]; exact hR)
    (by
      intro u hu
      simp only [vs, List.mem_append (s := olds ++ news)] at hu
      rcases hu with hu | hu
      · exact h1 u hu
      · simp only [Builtin.zeroCells, Array.toList_map, List.mem_map] at hu
        obtain ⟨j, hj, rfl⟩ := hu
        have hj2 : j < (grownCap w need old e - need) * z.cells.size := by simpa using hj
        have hpos : 0 < z.cells.size := by
          rcases Nat.eq_zero_or_pos z.cells.size with h | h
          · rw [h] at hj2; simp at hj2
          · exact h
        have hlt := Nat.mod_lt j hpos
        rw [getElem!_pos z.cells (j % z.cells.size) hlt]
        exact k2 _ (by simp))
    (w' := w.drew.alloc (.cells (olds.toArray ++ news.toArray ++ Builtin.zeroCells z.cells (grownCap w need old e - need)) e))
    (by
      show w.heap.push _ = _
      congr 2
      apply Array.ext'
      simp [vs]) rfl rfl rfl
  refine ⟨_, hpush.1, hpush.2, ⟨w.heap.size, 0, vs.length⟩, grownCap w need old e, _, by simp, rfl, fun _ => rfl, hge, hcm, ?_, hge, by simp⟩
  simp [hvl]

theorem appendE_did {P : Program} {B : Nat} {q : Q} {h : Hp} {w : World} (hT : HT B q h w) {t u ty : TypeId} {s x y : V} {v vx : Value} {h' : Hp} (hs : R q s v) (hx : R q x vx) (he : appendE P h t u s x = some (y, h')) :
    Did P B q h w (do pure (.value (← Builtin.append_ #[t, u] ty #[v, vx]))) y h' := by
  unfold appendE at he
  split at he
  · rename_i e d hel hud
    have hTy := sliceElem_eq hel
    split at he
    · rename_i i hi
      split at he
      · rename_i z hz
        split at he
        · rename_i hok
          obtain ⟨hd, hzs, hzc⟩ := hok
          obtain ⟨zc, hzc⟩ := Option.isSome_iff_exists.1 hzc
          have hd' := hd
          split at he
          · rename_i n news hsrc
            obtain ⟨nv, m1, m2, m3, m4, m5⟩ := srcCells_run (P := P) hT hx hsrc
            split at he
            · -- nothing
              have hnil : nv = [] := List.eq_nil_of_length_eq_zero (by simpa using m5)
              subst hnil
              have fin : ∀ base sLen sCap, v = .slice base sLen sCap → sLen ≤ sCap → R q s v → Did P B q h w (do pure (.value (← Builtin.append_ #[t, u] ty #[v, vx]))) s h := by
                rintro base sLen sCap rfl hle hR
                exact Did.val hT ⟨_, run_append_none w t u ty e i d hTy hud hd' hi base sLen sCap vx m1 (m2 w rfl) hle, hR⟩
              split at he
              · simp only [Option.some.injEq, Prod.mk.injEq] at he
                obtain ⟨rfl, rfl⟩ := he
                obtain ⟨ee, c, a, k1, rfl, k2, k3, k4⟩ := hs
                exact fin _ _ _ rfl k3 ⟨ee, c, a, k1, rfl, k2, k3, k4⟩
              · simp only [Option.some.injEq, Prod.mk.injEq] at he
                obtain ⟨rfl, rfl⟩ := he
                obtain ⟨rfl, _⟩ := hs
                exact fin _ _ _ rfl (Nat.le_refl _) ⟨rfl, rfl⟩
              · cases he
            · rename_i n
              split at he
              · -- onto nil
                split at he
                · rename_i hok
                  simp only [Option.some.injEq, grow, Prod.mk.injEq] at he
                  obtain ⟨rfl, rfl⟩ := he
                  obtain ⟨rfl, _⟩ := hs
                  intro hfree
                  have hqn : q h.next = none := hfree _ (Nat.le_refl _) (Nat.lt_succ_self _)
                  have hr := run_append_out w t u ty e i z d hTy hud hd' hi hz none 0 0 vx (n + 1) [] nv m1 (fun w' _ => run_firstCells_none (P := P) w' _ _ _ _) m2 (by omega) (by have := hok.1; simp only [maxLen] at this; omega)
                    (growslice_fits (by omega) (by rw [Nat.zero_add]; exact hok.2))
                  obtain ⟨q', g1, g2, g3⟩ := hT.grown hqn (e := e) (cs := news) (olds := []) (news := nv) (need := 0 + (n + 1)) (old := 0) (sz := i.size) (by simpa using m3) (by simpa using m4) hzc hzs (by simpa using m5) (by omega)
                  have e0 : 0 + (n + 1) = n + 1 := by omega
                  rw [e0] at hr g1 g2 g3
                  exact ⟨_, _, q', _, by simp only [Sem.run_bind, hr, Result.andThen_ok, Sem.run_pure], .inl rfl, g1, g2, g3⟩
                · cases he
              · rename_i id off sz len cap ex
                split at he
                · rename_i hok
                  obtain ⟨rfl, hmax, hby⟩ := hok
                  have hs0 := hs
                  obtain ⟨ee, c, a, k1, rfl, k2, k3, k4, k5, k6, k7⟩ := hs
                  have hml : len + (n + 1) ≤ 9223372036854775807 := by simp only [maxLen] at hmax; omega
                  have hnl := m3.length
                  have hsplit : (len + (n + 1)) * i.size = len * i.size + nv.length := by rw [m5, ← Nat.add_mul]
                  have hgrow : ∀ cs, cellsOf h id = some cs → off + len * i.size ≤ cs.length → c < len + (n + 1) → ∀ (h0 : Hp), HT B q h0 w → Fr q h w q h0 w → h0.next = h.next → Did P B q h w (do pure (.value (← Builtin.append_ #[t, u] ty #[.slice (some a) len c, vx]))) (.sl h0.next 0 i.size (len + (n + 1)) (len + (n + 1)) false) (h0.new (.cells e ((cs.drop off).take (len * i.size) ++ news))) := by
                    intro cs hcs hfit hc h0 hT0 hF0 hnx hfree
                    have hqn : q h0.next = none := hfree _ (by rw [hnx]; exact Nat.le_refl _) (Nat.lt_succ_self _)
                    obtain ⟨olds, o1, o2, o3, o4, o5⟩ := srcCells_run (P := P) (x := .sl id off i.size len cap ex) (v := .slice (some a) len c) (n := len) (cs := (cs.drop off).take (len * i.size)) (sz := i.size) hT hs0 (by simp [srcCells, hcs, hfit])
                    have hr := run_append_out w t u ty e i z d hTy hud hd' hi hz (some a) len c vx (n + 1) olds nv m1 o2 m2 hc (Int.ofNat_le.2 hml) (growslice_fits (by omega) hby)
                    obtain ⟨q', g1, g2, g3⟩ := hT0.grown hqn (e := e) (cs := (cs.drop off).take (len * i.size) ++ news) (olds := olds) (news := nv) (need := len + (n + 1)) (old := c) (sz := i.size) (o3.append m3)
                      (by intro u hu; rcases List.mem_append.1 hu with hu | hu; exact o4 u hu; exact m4 u hu) hzc hzs (by rw [List.length_append, o5, m5, ← Nat.add_mul]) hmax
                    exact ⟨_, _, q', _, by simp only [Sem.run_bind, hr, Result.andThen_ok, Sem.run_pure], .inl rfl, g1, hF0.trans g2, g3⟩
                  split at he
                  · rename_i hroom
                    split at he
                    · rename_i T cs hg
                      obtain ⟨f, hq, ⟨vs, n1, n2, n3, n4, n5⟩, hBlim⟩ := hT.tie id _ hg
                      rw [k1] at hq
                      cases hq
                      split at he
                      · rename_i hfit
                        obtain ⟨hfit, hlim, rfl⟩ := hfit
                        simp only [Option.some.injEq, Prod.mk.injEq] at he
                        obtain ⟨rfl, rfl⟩ := he
                        have ha : a = ⟨ee.b, ee.d + off, none⟩ := k2 (by omega)
                        subst ha
                        have hr := run_append_in w t u ty T i d hTy hud hd' hi ee.b (ee.d + off) len c ⟨vs⟩ n1 vx (n + 1) nv m1 (m2 w rfl) m4 (by omega) (by simp; omega)
                        obtain ⟨w', p1, p2, p3⟩ := hT.write (P := P) (cs' := news) (us := nv) (off := off + len * i.size) hg k1 hlim m3 m4 (by omega)
                        have hst := run_storeCells_at P ee.b (ee.d + (off + len * i.size)) T nv 0 ⟨vs⟩ w n1 (by simp; omega) m4
                        rw [hst] at p1
                        simp only [Result.ok.injEq, true_and] at p1
                        subst p1
                        have hadd : ee.d + off + len * i.size = ee.d + (off + len * i.size) := by omega
                        rw [hadd] at hr
                        simp only [Nat.add_zero] at hr p2 p3 ⊢
                        exact fun _ => ⟨_, _, q, _, by simp only [Sem.run_bind, hr, Result.andThen_ok, Sem.run_pure], .inl rfl, p2, p3, ee, c, _, k1, rfl, fun _ => rfl, by omega, k4, k5, k6, k7⟩
                      · cases he
                    · cases he
                  · rename_i hroom
                    split at he
                    · split at he
                      · rename_i cs hcs
                        split at he
                        · rename_i hfit
                          simp only [Option.some.injEq, grow, Prod.mk.injEq] at he
                          obtain ⟨rfl, rfl⟩ := he
                          have := k7 rfl
                          exact hgrow cs hcs hfit (by omega) h hT hT.fr rfl
                        · cases he
                      · cases he
                    · split at he
                      · rename_i T cs hg
                        obtain ⟨f, hq, ⟨vs, n1, n2, n3, n4, n5⟩, hBlim⟩ := hT.tie id _ hg
                        rw [k1] at hq
                        cases hq
                        split at he
                        · rename_i hfit
                          obtain ⟨hfit, hlim, rfl⟩ := hfit
                          simp only [Option.some.injEq, grow, Prod.mk.injEq] at he
                          obtain ⟨rfl, rfl⟩ := he
                          by_cases hin : len + (n + 1) ≤ c
                          · have ha : a = ⟨ee.b, ee.d + off, none⟩ := k2 (by omega)
                            subst ha
                            have hle : (len + (n + 1)) * i.size ≤ c * i.size := Nat.mul_le_mul_right _ hin
                            have hr := run_append_in w t u ty T i d hTy hud hd' hi ee.b (ee.d + off) len c ⟨vs⟩ n1 vx (n + 1) nv m1 (m2 w rfl) m4 hin (by simp; omega)
                            obtain ⟨r1, r2, r3⟩ := setRow_facts w ee.b ⟨vs⟩ (vs.take (ee.d + off + len * i.size) ++ nv ++ vs.drop (ee.d + off + len * i.size + nv.length)).toArray T n1
                            have hcl : ((cs.drop off).take (len * i.size)).length = len * i.size := by simp; omega
                            intro hfree
                            have hqn : q h.next = none := hfree _ (Nat.le_refl _) (Nat.lt_succ_self _)
                            have htk := HT.take hT hqn (o' := .cells T ((cs.drop off).take (len * i.size) ++ news)) (d := ee.d + off) (n := ee.n) hg k1 hlim r1 r2 r3 rfl rfl rfl ⟨_, rfl, by simp; omega, by rw [List.length_append, hcl]; simp only; omega, ?_, ?_⟩
                            · refine ⟨_, _, _, _, by simp only [Sem.run_bind, hr, Result.andThen_ok, Sem.run_pure], .inl rfl, htk.1, htk.2, ⟨ee.b, ee.d + off, ee.n⟩, c, ⟨ee.b, ee.d + off, none⟩, by simp [Hp.set], rfl, fun _ => by simp, hin, k4, by simpa using k5, hin, by simp⟩
                            · have e1 : ((vs.take (ee.d + off + len * i.size) ++ nv ++ vs.drop (ee.d + off + len * i.size + nv.length)).drop (ee.d + off)).take ((cs.drop off).take (len * i.size) ++ news).length = (((vs.drop ee.d).take cs.length).drop off).take (len * i.size) ++ nv := by
                                rw [List.length_append, hcl, hnl]
                                apply List.ext_getElem?
                                intro k
                                simp only [List.getElem?_take, List.getElem?_drop, List.getElem?_append, List.length_append, List.length_take, List.length_drop]
                                repeat' split
                                all_goals first
                                  | rfl
                                  | omega
                                  | (congr 1; omega)
                                  | (exfalso; omega)
                                  | (rw [List.getElem?_eq_none (by omega)])
                                  | (rw [eq_comm, List.getElem?_eq_none (by omega)])
                              rw [e1]
                              exact ((n4.drop off).take _).append m3
                            · intro u hu
                              simp only [List.mem_append] at hu
                              rcases hu with (hu | hu) | hu
                              · exact n5 u (List.mem_of_mem_take hu)
                              · exact m4 u hu
                              · exact n5 u (List.mem_of_mem_drop hu)
                          · obtain ⟨d1, d2⟩ := hT.drop hg hlim
                            exact hgrow cs (by simp [cellsOf, hg]) hfit (by omega) _ d1 d2 rfl
                        · cases he
                      · cases he
                · cases he
              · cases he
          · cases he
        · cases he
      · cases he
    · cases he
  · cases he
end Go.N
