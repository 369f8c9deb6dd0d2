/- What an operation leaves, whatever the world. -/
import Derived.Test.YtmdmacmkmdgeaaaGreatDoorN6
namespace Go.N
open Go Go.RowKit

structure Sf (h h' : Hp) : Prop where
  next : h.next ≤ h'.next
  lim : h'.lim = h.lim
  hid : h'.hid = h.hid
  same : ∀ id, id < h.next → (id < h.lim ∨ vis h.hid id = false) → h'.tr.get id = h.tr.get id
  wf : (∀ id, h.next ≤ id → h.tr.get id = none) → ∀ id, h'.next ≤ id → h'.tr.get id = none
theorem Sf.refl (h : Hp) : Sf h h := ⟨Nat.le_refl _, rfl, rfl, fun _ _ _ => rfl, fun h => h⟩
theorem Sf.trans {a b c : Hp} (h : Sf a b) (k : Sf b c) : Sf a c :=
  ⟨Nat.le_trans h.next k.next, k.lim.trans h.lim, k.hid.trans h.hid, fun id h1 h2 => (k.same id (Nat.lt_of_lt_of_le h1 h.next) (by rw [h.lim, h.hid]; exact h2)).trans (h.same id h1 h2), fun w => k.wf (h.wf w)⟩
theorem Sf.new (h : Hp) (o : Ob) : Sf h (h.new o) := ⟨Nat.le_succ _, rfl, rfl, fun id h1 _ => by rw [Hp.tr_new, if_neg (by omega)], fun w id hi => by
  have hi : h.next + 1 ≤ id := hi
  rw [Hp.tr_new, if_neg (by omega)]; exact w id (by omega)⟩
theorem Sf.set {h : Hp} {id : Nat} {p : Ob} (hg : h.get id = some p) (hl : h.lim ≤ id) (o : Option Ob) : Sf h (h.set id o) where
  next := Nat.le_refl _
  lim := rfl
  hid := rfl
  same := fun i _ h2 => by
    rw [Hp.tr_set, if_neg ?_]
    rintro rfl
    rcases h2 with h2 | h2
    · omega
    · rw [Hp.get_vis hg] at h2; cases h2
  wf := fun w i hi => by
    have hi : h.next ≤ i := hi
    have hlt : id < h.next := by
      rcases Nat.lt_or_ge id h.next with k | k
      · exact k
      · have := w id k; rw [Hp.get_tr hg] at this; cases this
    rw [Hp.tr_set, if_neg (by omega)]; exact w i hi

theorem allocE_sf {P : Program} {h h' : Hp} {T : TypeId} {x : V} (he : allocE P h T = some (x, h')) : Sf h h' := by
  unfold allocE at he
  (repeat' split at he) <;> simp only [Option.some.injEq, Prod.mk.injEq, reduceCtorEq] at he
  obtain ⟨_, rfl⟩ := he
  exact Sf.new _ _
theorem boxE_sf {h h' : Hp} {T : TypeId} {x y : V} (he : boxE h T x = some (y, h')) : Sf h h' := by
  unfold boxE at he
  (repeat' split at he) <;> simp only [Option.some.injEq, Prod.mk.injEq, reduceCtorEq] at he
  obtain ⟨_, rfl⟩ := he
  exact Sf.new _ _
theorem storeE_sf {P : Program} {h h' : Hp} {T : TypeId} {x y r : V} (he : storeE P h T x y = some (r, h')) : Sf h h' := by
  unfold storeE at he
  split at he
  · split at he
    · rename_i hg
      split at he
      · rename_i hok
        simp only [Option.some.injEq, Prod.mk.injEq] at he
        obtain ⟨_, rfl⟩ := he
        exact Sf.set hg hok.1 _
      · cases he
    · cases he
  · cases he
theorem makeSliceE_sf {P : Program} {h h' : Hp} {T : TypeId} {l c x : V} (he : makeSliceE P h T l c = some (x, h')) : Sf h h' := by
  unfold makeSliceE at he
  (repeat' split at he) <;> simp only [Option.some.injEq, Prod.mk.injEq, reduceCtorEq] at he
  obtain ⟨_, rfl⟩ := he
  exact Sf.new _ _
theorem buildSliceE_sf {P : Program} {h h' : Hp} {T : TypeId} {len : Nat} {parts : List (Nat × V)} {x : V} (he : buildSliceE P h T len parts = some (x, h')) : Sf h h' := by
  unfold buildSliceE at he
  (repeat' split at he) <;> simp only [Option.some.injEq, Prod.mk.injEq, reduceCtorEq] at he
  obtain ⟨_, rfl⟩ := he
  exact Sf.new _ _
theorem makeMapE_sf {P : Program} {h h' : Hp} {T : TypeId} {r : Option V} {x : V} (he : makeMapE P h T r = some (x, h')) : Sf h h' := by
  unfold makeMapE at he
  (repeat' split at he) <;> simp only [Option.some.injEq, Prod.mk.injEq, reduceCtorEq] at he
  all_goals (obtain ⟨_, rfl⟩ := he; exact Sf.new _ _)
theorem mapAt_get {h : Hp} {x : V} {id : Nat} {es : List (Value × V × Nat)} {clock : Nat} (he : mapAt h x = some (id, es, clock)) : h.get id = some (.map es clock) ∧ h.lim ≤ id := by
  unfold mapAt at he
  split at he
  · split at he
    · rename_i hg
      simp only [Option.ite_none_right_eq_some, Option.some.injEq, Prod.mk.injEq] at he
      obtain ⟨hl, rfl, rfl, rfl⟩ := he
      exact ⟨hg, hl⟩
    · cases he
  · cases he
theorem mapUpdateE_sf {P : Program} {h h' : Hp} {T : TypeId} {m k x y : V} (he : mapUpdateE P h T m k x = some (y, h')) : Sf h h' := by
  unfold mapUpdateE at he
  split at he
  · rename_i hma _
    obtain ⟨hg, hl⟩ := mapAt_get hma
    split at he
    · simp only [Option.some.injEq, Prod.mk.injEq] at he
      obtain ⟨_, rfl⟩ := he
      exact Sf.set hg hl _
    · simp only [Option.some.injEq, Prod.mk.injEq] at he
      obtain ⟨_, rfl⟩ := he
      exact Sf.set hg hl _
    · cases he
  · cases he
theorem mapEntryE_sf {P : Program} {h h' : Hp} {T : TypeId} {m k y : V} (he : mapEntryE P h T m k = some (y, h')) : Sf h h' := by
  unfold mapEntryE at he
  split at he
  · rename_i hma _
    obtain ⟨hg, hl⟩ := mapAt_get hma
    split at he
    · split at he
      · simp only [Option.some.injEq, Prod.mk.injEq] at he
        obtain ⟨_, rfl⟩ := he
        exact Sf.set hg hl _
      · cases he
    · simp only [Option.some.injEq, Prod.mk.injEq] at he
      obtain ⟨_, rfl⟩ := he
      exact Sf.set hg hl _
    · cases he
  · cases he
theorem entryStoreE_sf {h h' : Hp} {m s x y : V} (he : entryStoreE h m s x = some (y, h')) : Sf h h' := by
  unfold entryStoreE at he
  split at he
  · rename_i hma _
    obtain ⟨hg, hl⟩ := mapAt_get hma
    split at he
    · simp only [Option.some.injEq, Prod.mk.injEq] at he
      obtain ⟨_, rfl⟩ := he
      exact Sf.set hg hl _
    · cases he
  · cases he
theorem appendE_sf {P : Program} {h h' : Hp} {t u : TypeId} {s x y : V} (he : appendE P h t u s x = some (y, h')) : Sf h h' := by
  unfold appendE at he
  split at he
  · split at he
    · split at he
      · split at he
        · split at he
          · split at he
            · split at he
              · simp only [Option.some.injEq, Prod.mk.injEq] at he
                obtain ⟨_, rfl⟩ := he; exact Sf.refl _
              · simp only [Option.some.injEq, Prod.mk.injEq] at he
                obtain ⟨_, rfl⟩ := he; exact Sf.refl _
              · cases he
            · split at he
              · split at he
                · simp only [Option.some.injEq, grow, Prod.mk.injEq] at he
                  obtain ⟨_, rfl⟩ := he; exact Sf.new _ _
                · cases he
              · split at he
                · split at he
                  · split at he
                    · rename_i hg
                      split at he
                      · rename_i hok
                        simp only [Option.some.injEq, Prod.mk.injEq] at he
                        obtain ⟨_, rfl⟩ := he; exact Sf.set hg hok.2.1 _
                      · cases he
                    · cases he
                  · split at he
                    · split at he
                      · split at he
                        · simp only [Option.some.injEq, grow, Prod.mk.injEq] at he
                          obtain ⟨_, rfl⟩ := he; exact Sf.new _ _
                        · cases he
                      · cases he
                    · split at he
                      · rename_i hg
                        split at he
                        · rename_i hok
                          simp only [Option.some.injEq, grow, Prod.mk.injEq] at he
                          obtain ⟨_, rfl⟩ := he; exact (Sf.set hg hok.2.1 _).trans (Sf.new _ _)
                        · cases he
                      · cases he
                · cases he
              · cases he
          · cases he
        · cases he
      · cases he
    · cases he
  · cases he
theorem appendZE_sf {P : Program} {h h' : Hp} {t u : TypeId} {s x y : V} (he : appendZE P h t u s x = some (y, h')) : Sf h h' := by
  unfold appendZE at he
  (repeat' split at he) <;> simp only [Option.some.injEq, grow, Prod.mk.injEq, reduceCtorEq] at he
  obtain ⟨_, rfl⟩ := he
  exact Sf.new _ _
theorem bytesE_sf {P : Program} {h h' : Hp} {s t : TypeId} {x y : V} (he : bytesE P h s t x = some (y, h')) : Sf h h' := by
  unfold bytesE at he
  (repeat' split at he) <;> simp only [Option.some.injEq, Prod.mk.injEq, reduceCtorEq] at he
  obtain ⟨_, rfl⟩ := he
  exact Sf.new _ _
theorem rangeE_sf {P : Program} {h h' : Hp} {T : TypeId} {x y : V} (he : rangeE P h T x = some (y, h')) : Sf h h' := by
  unfold rangeE at he
  (repeat' split at he) <;> simp only [Option.some.injEq, Prod.mk.injEq, reduceCtorEq] at he
  · obtain ⟨_, rfl⟩ := he; exact Sf.new _ _
  · obtain ⟨_, rfl⟩ := he; exact Sf.new _ _
theorem clearE_sf {P : Program} {h h' : Hp} {t : TypeId} {x y : V} (he : clearE P h t x = some (y, h')) : Sf h h' := by
  unfold clearE at he
  (repeat' split at he) <;> simp only [Option.some.injEq, Prod.mk.injEq, reduceCtorEq] at he
  · obtain ⟨_, rfl⟩ := he; exact Sf.refl _
  · obtain ⟨_, rfl⟩ := he; exact Sf.refl _
  · rename_i hm
    obtain ⟨_, rfl⟩ := he
    simp only [mapAt] at hm
    split at hm
    · rename_i hg
      simp only [Option.ite_none_right_eq_some, Option.some.injEq, Prod.mk.injEq] at hm
      obtain ⟨hl, rfl, _, _⟩ := hm
      exact Sf.set hg hl _
    · cases hm
  · obtain ⟨_, rfl⟩ := he; exact Sf.refl _
  · rename_i hg hok
    obtain ⟨_, rfl⟩ := he
    exact Sf.set hg hok.2.2.1 _
theorem copyE_sf {P : Program} {h h' : Hp} {t : TypeId} {d x y : V} (he : copyE P h t d x = some (y, h')) : Sf h h' := by
  unfold copyE at he
  (repeat' split at he) <;> simp only [Option.some.injEq, Prod.mk.injEq, reduceCtorEq] at he
  · obtain ⟨_, rfl⟩ := he; exact Sf.refl _
  · rename_i hg hok
    obtain ⟨_, rfl⟩ := he
    exact Sf.set hg hok.2.1 _
theorem builtinE_sf {P : Program} {h h' : Hp} {b : Builtin} {argTypes : List TypeId} {type : TypeId} {consts : Array Bool} {xs : List V} {x : V} (he : builtinE P h b argTypes type consts xs = some (x, h')) : Sf h h' := by
  unfold builtinE at he
  split at he
  · split at he
    · rename_i r hr
      cases he
      exact appendE_sf hr
    · exact appendZE_sf he
  · split at he
    · simp only [Option.some.injEq, Prod.mk.injEq] at he
      obtain ⟨_, rfl⟩ := he; exact Sf.refl _
    · cases he
  · split at he
    · simp only [Option.some.injEq, Prod.mk.injEq] at he
      obtain ⟨_, rfl⟩ := he; exact Sf.refl _
    · cases he
  · exact clearE_sf he
  · exact copyE_sf he
  · split at he
    · simp only [Option.some.injEq, Prod.mk.injEq] at he
      obtain ⟨_, rfl⟩ := he; exact Sf.refl _
    · cases he
  · cases he
  · split at he
    · split at he
      · obtain ⟨_, _, hh⟩ := Option.map_eq_some_iff.1 he
        simp only [Prod.mk.injEq] at hh
        obtain ⟨_, rfl⟩ := hh; exact Sf.refl _
      · cases he
    · cases he
set_option maxHeartbeats 2000000 in
theorem stepOp_sf {P : Program} {Z : Nat → Bool} {o : Oper} {fr : List V} {h h' : Hp} {x : V} (he : stepOp P Z o fr h = some (x, h')) : Sf h h' := by
  have val : ∀ {y : Option V}, (y.map fun s => (s, h)) = some (x, h') → Sf h h' := fun hm => by
    obtain ⟨_, e⟩ := map_h hm
    simp only at e
    subst e
    exact Sf.refl _
  unfold stepOp at he
  split at he
  all_goals try exact val he
  all_goals try (cases he; done)
  all_goals try (split at he)
  all_goals try (cases he; done)
  all_goals first
    | exact val he
    | exact allocE_sf he
    | exact storeE_sf he
    | exact makeSliceE_sf he
    | exact mapUpdateE_sf he
    | exact mapEntryE_sf he
    | exact entryStoreE_sf he
    | exact builtinE_sf he
    | (split at he; (rename_i r hr; cases he; exact bytesE_sf hr); exact val he)
    | (obtain ⟨_, _, e⟩ := Option.bind_eq_some_iff.1 he; first | exact boxE_sf e | exact rangeE_sf e | exact buildSliceE_sf e | exact makeMapE_sf e)
    | (simp only [Option.some.injEq, Prod.mk.injEq] at he; obtain ⟨_, rfl⟩ := he; exact Sf.refl _)
    | (obtain ⟨_, _, e⟩ := Option.map_eq_some_iff.1 he; simp only [Prod.mk.injEq] at e; obtain ⟨_, rfl⟩ := e; exact Sf.refl _)
    | (split at he <;> first | exact val he | (cases he; done))
end Go.N
