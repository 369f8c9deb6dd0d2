/- Regions that draw their order are sound. -/
import Derived.Test.YtmdmacmkmdgeaaaGreatDoorN9
namespace Go.N
open Go Go.RowKit

/-- The slots, where just the operations of a set have been done. -/
structure Agree (l : List Oper) (fr0 : List V) (Vs : Nat → V) (X : Nat → Prop) (fr : List V) : Prop where
  len : fr.length = fr0.length
  old : ∀ t, (∀ (j : Nat) (o : Oper), l[j]? = some o → X j → o.dst ≠ some t) → fr[t]? = fr0[t]?
  new : ∀ (j : Nat) (o : Oper) (t : Tmp), l[j]? = some o → X j → o.dst = some t → t < fr0.length → fr[t]? = some (Vs j)
theorem Agree.get {l : List Oper} {fr0 : List V} {Vs : Nat → V} {X Y : Nat → Prop} {fr fr' : List V} (h : Agree l fr0 Vs X fr) (k : Agree l fr0 Vs Y fr') (t : Tmp)
    (hXY : ∀ (j : Nat) (o : Oper), l[j]? = some o → o.dst = some t → (X j ↔ Y j)) : fr[t]? = fr'[t]? := by
  by_cases ht : t < fr0.length
  · by_cases he : ∃ (j : Nat) (o : Oper), l[j]? = some o ∧ X j ∧ o.dst = some t
    · obtain ⟨j, o, ho, hx, hd⟩ := he
      rw [h.new j o t ho hx hd ht, k.new j o t ho ((hXY j o ho hd).1 hx) hd ht]
    · rw [h.old t (fun j o ho hx hd => he ⟨j, o, ho, hx, hd⟩), k.old t (fun j o ho hy hd => he ⟨j, o, ho, (hXY j o ho hd).2 hy, hd⟩)]
  · have h0 := Nat.le_of_not_lt ht
    have h1 : fr.length ≤ t := by rw [h.len]; exact h0
    have h2 : fr'.length ≤ t := by rw [k.len]; exact h0
    rw [List.getElem?_eq_none h1, List.getElem?_eq_none h2]
theorem Agree.put {l : List Oper} (hok : DrawOk l) {fr0 : List V} {Vs : Nat → V} {X : Nat → Prop} {fr : List V} (h : Agree l fr0 Vs X fr) {i : Nat} {o : Oper} (ho : l[i]? = some o) (hi : ¬ X i) :
    Agree l fr0 Vs (fun j => X j ∨ j = i) (putF fr o.dst (Vs i)) := by
  cases hd : o.dst with
  | none =>
    refine ⟨h.len, fun t ht => h.old t (fun j o' ho' hx => ht j o' ho' (.inl hx)), fun j o' t ho' hx hd' hlt => ?_⟩
    rcases hx with hx | rfl
    · exact h.new j o' t ho' hx hd' hlt
    · rw [ho] at ho'
      obtain rfl : o = o' := by simpa using ho'
      rw [hd] at hd'; cases hd'
  | some d =>
    refine ⟨by simp [putF, h.len], fun t ht => ?_, fun j o' t ho' hx hd' hlt => ?_⟩
    · have hne : d ≠ t := fun e => ht i o ho (.inr rfl) (by rw [hd, e])
      simp only [putF]
      rw [List.getElem?_set_ne hne]
      exact h.old t (fun j o' ho' hx => ht j o' ho' (.inl hx))
    · simp only [putF]
      by_cases e : d = t
      · subst e
        rw [List.getElem?_set_self (by rw [h.len]; exact hlt)]
        have := hok.once i o j o' d ho ho' hd' hd
        rw [this]
      · rw [List.getElem?_set_ne e]
        rcases hx with hx | rfl
        · exact h.new j o' t ho' hx hd' hlt
        · rw [ho] at ho'
          obtain rfl : o = o' := by simpa using ho'
          rw [hd] at hd'
          exact absurd (by simpa using hd') e
theorem Agree.congr {l : List Oper} {fr0 : List V} {Vs : Nat → V} {X Y : Nat → Prop} {fr : List V} (h : Agree l fr0 Vs X fr) (hXY : ∀ j, X j ↔ Y j) : Agree l fr0 Vs Y fr := by
  have : X = Y := funext fun j => propext (hXY j)
  exact this ▸ h
theorem getD_of {fr fr' : List V} {t : Nat} (h : fr[t]? = fr'[t]?) (d : V) : fr.getD t d = fr'.getD t d := by
  rw [List.getD_eq_getElem?_getD, List.getD_eq_getElem?_getD, h]

theorem vis_append : ∀ (a b : List Fl) (id : Nat), vis (a ++ b) id = (vis a id && vis b id)
  | [], b, id => rfl
  | f :: a, b, id => by
    simp only [List.cons_append, vis, vis_append a b id]
    cases f.vis id <;> simp
theorem vis_cons (f : Fl) (l : List Fl) (id : Nat) : vis (f :: l) id = (f.vis id && vis l id) := by
  simp only [vis]; cases f.vis id <;> simp
theorem only_false {l : List Nat} {n id : Nat} (h : id < n) (h2 : id ∉ l) : (Fl.only l n).vis id = false := by
  simp only [Fl.vis, Bool.or_eq_false_iff]
  constructor
  · cases hb : Nat.ble n id with
    | false => rfl
    | true => have := Nat.le_of_ble_eq_true hb; omega
  · cases hm : memB id l with
    | false => rfl
    | true => exact absurd (memB_iff.1 hm) h2
theorem only_true {l : List Nat} {n id : Nat} (h : id < n) (h2 : (Fl.only l n).vis id = true) : id ∈ l := by
  by_cases hm : id ∈ l
  · exact hm
  · rw [only_false h hm] at h2; cases h2

/-- The kinds that write. -/
def FK.has : FK → Nat → Prop
  | .wr l, id => id ∈ l
  | .wrAll, _ => True
  | _, _ => False
def Wr (Hs : Nat → Hp) (f : Foot) (j id : Nat) : Prop := (id < (Hs j).next ∧ vis f.fs id = true ∧ f.k.has id) ∨ ((Hs j).next ≤ id ∧ id < (Hs (j + 1)).next)

theorem view_next (h : Hp) (f : Foot) : (view h f).next = h.next := by unfold view; split <;> rfl
theorem view_tr (h : Hp) (f : Foot) : (view h f).tr = h.tr := by unfold view; split <;> rfl
theorem view_lim (h : Hp) (f : Foot) : (view h f).lim = h.next ∧ (∀ id, ¬ f.k.has id) ∨ (view h f).lim = h.lim := by
  unfold view
  split <;> rename_i hk
  · exact .inl ⟨rfl, fun id => by simp [hk, FK.has]⟩
  · exact .inl ⟨rfl, fun id => by simp [hk, FK.has]⟩
  · exact .inl ⟨rfl, fun id => by simp [hk, FK.has]⟩
  · exact .inr rfl
  · exact .inl ⟨rfl, fun id => by simp [hk, FK.has]⟩
  · exact .inr rfl
/-- What is seen. -/
theorem view_vis {h : Hp} {f : Foot} {id : Nat} (hlt : id < h.next) (hv : vis (view h f).hid id = true) :
    (vis f.fs id = true ∨ ∃ l, f.k = .st l) ∧ vis h.hid id = true ∧ (match f.k with | .no => False | .st l | .rd l | .wr l => id ∈ l | _ => True) := by
  unfold view at hv
  split at hv <;> rename_i hk <;> simp only [vis_cons, vis_append, Bool.and_eq_true] at hv
  · have := only_true hlt hv.1; simp at this
  · exact ⟨.inr ⟨_, hk⟩, hv.2, by rw [hk]; exact only_true hlt hv.1⟩
  · exact ⟨.inl hv.2.1, hv.2.2, by rw [hk]; exact only_true hlt hv.1⟩
  · exact ⟨.inl hv.2.1, hv.2.2, by rw [hk]; exact only_true hlt hv.1⟩
  · exact ⟨.inl hv.1, hv.2, by rw [hk]; trivial⟩
  · exact ⟨.inl hv.1, hv.2, by rw [hk]; trivial⟩
theorem view_hidden {h : Hp} {f : Foot} {id : Nat} (hlt : id < h.next) (hw : ¬ (vis f.fs id = true ∧ f.k.has id)) : id < (view h f).lim ∨ vis (view h f).hid id = false := by
  by_cases hv : vis (view h f).hid id = true
  · left
    obtain ⟨h1, _, h3⟩ := view_vis hlt hv
    have nst : (∀ l, f.k ≠ .st l) → vis f.fs id = true := fun hn => h1.resolve_right fun ⟨l, hl⟩ => hn l hl
    cases hk : f.k with
    | wr l => rw [hk] at h3; exact absurd ⟨nst (by rw [hk]; intro l h; cases h), by rw [hk]; exact h3⟩ hw
    | wrAll => exact absurd ⟨nst (by rw [hk]; intro l h; cases h), by rw [hk]; trivial⟩ hw
    | st l => simp only [view, hk]; exact hlt
    | no => simp only [view, hk]; exact hlt
    | rd l => simp only [view, hk]; exact hlt
    | rdAll => simp only [view, hk]; exact hlt
  · right
    cases hb : vis (view h f).hid id with
    | true => exact absurd hb hv
    | false => rfl

theorem load_heap {P : Program} {Z : Nat → Bool} {E : Env} {o : Oper} (ho : isLoad o.op = true) {fr : List V} {h h' : Hp} {r : Out} (he : oneOp P Z E o fr h = some (r, h')) : h' = h := by
  unfold isLoad at ho
  split at ho
  · rename_i T x hop
    simp only [oneOp, stepOp, hop] at he
    split at he
    · split at he
      · obtain ⟨⟨s, h1⟩, hs, he⟩ := Option.map_eq_some_iff.1 he
        obtain ⟨s', _, hs'⟩ := Option.map_eq_some_iff.1 hs
        simp only [Prod.mk.injEq] at hs' he
        rw [← he.2, ← hs'.2]
      · cases he
    · cases he
  · rename_i T x k ok hop
    simp only [oneOp, stepOp, hop] at he
    split at he
    · obtain ⟨⟨s, h1⟩, hs, he⟩ := Option.map_eq_some_iff.1 he
      obtain ⟨s', _, hs'⟩ := Option.map_eq_some_iff.1 hs
      simp only [Prod.mk.injEq] at hs' he
      rw [← he.2, ← hs'.2]
    · cases he
  · cases ho

/-- What an operation of the row leaves. -/
theorem Good.stat {P : Program} {Z : Nat → Bool} {E : Env} (hE : EnvOk P Z E) {ops : Array Oper} {A : List (List Nat)} {F : Nat → List V} {Hs : Nat → Hp} {Vs : Nat → V} {i : Nat} {o : Oper} {f : Foot} (hg : Good P Z E ops A F Hs Vs i o f) :
    (Hs i).next ≤ (Hs (i + 1)).next ∧ (Hs (i + 1)).lim = (Hs i).lim ∧ (Hs (i + 1)).hid = (Hs i).hid ∧ ((∀ id, (Hs i).next ≤ id → (Hs i).tr.get id = none) → ∀ id, (Hs (i + 1)).next ≤ id → (Hs (i + 1)).tr.get id = none) ∧
      (∀ id, (∀ id, (Hs i).next ≤ id → (Hs i).tr.get id = none) → ¬ Wr Hs f i id → (Hs (i + 1)).tr.get id = (Hs i).tr.get id) ∧
      ∀ id, id < (Hs i).next → (Hs i).lim ≤ (Hs i).next → (id < (Hs i).lim ∨ vis (Hs i).hid id = false) → (Hs (i + 1)).tr.get id = (Hs i).tr.get id := by
  rcases hg.run with ⟨_, h', hst, e⟩ | ⟨_, _, e, _⟩
  · have sf := oneOp_sf hE hst
    have s1 := sf.next
    have s2 := sf.same
    have s3 := sf.wf
    rw [view_next] at s1 s2 s3
    rw [view_tr] at s2 s3
    rw [e]
    refine ⟨s1, rfl, rfl, s3, fun id hw hn => ?_, fun id hlt hl hh => ?_⟩
    · show h'.tr.get id = _
      rcases Nat.lt_or_ge id (Hs i).next with hlt | hge
      · refine s2 id hlt (view_hidden hlt fun hc => hn (.inl ⟨hlt, hc⟩))
      · rcases Nat.lt_or_ge id (Hs (i + 1)).next with h2 | h2
        · exact absurd (.inr ⟨hge, h2⟩) hn
        · rw [e] at h2
          rw [hw id hge]
          exact s3 hw id h2
    · show h'.tr.get id = _
      refine s2 id hlt ?_
      rcases hh with hh | hh
      · left
        rcases view_lim (Hs i) f with ⟨e, _⟩ | e <;> rw [e] <;> omega
      · right
        cases hb : vis (view (Hs i) f).hid id with
        | false => rfl
        | true => have := (view_vis hlt hb).2.1; rw [hh] at this; cases this
  · rw [e]
    exact ⟨Nat.le_refl _, rfl, rfl, fun h => h, fun _ _ _ => rfl, fun _ _ _ _ => rfl⟩
end Go.N
