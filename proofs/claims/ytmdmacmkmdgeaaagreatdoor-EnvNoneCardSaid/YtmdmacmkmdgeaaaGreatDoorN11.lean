/- Regions that draw their order are sound: the proof. -/
import Derived.Test.YtmdmacmkmdgeaaaGreatDoorN10
namespace Go.N
open Go Go.RowKit

theorem runD_len {P : Program} {Z : Nat → Bool} {E : Env} {ops : Array Oper} {A : List (List Nat)} : ∀ (l : List Oper) (k : Nat) (fr : List V) (h : Hp) (rs : List (Nat × Nat)) (r : List V × Hp) (ft : List Foot),
    runD P Z E ops A k l fr h rs = some (r, ft) → ft.length = l.length
  | [], k, fr, h, rs, r, ft, he => by
    simp only [runD, Option.some.injEq, Prod.mk.injEq] at he
    rw [← he.2]; rfl
  | o :: l, k, fr, h, rs, r, ft, he => by
    have key : ∀ fr2 h2 rs2 f, (runD P Z E ops A (k + 1) l fr2 h2 rs2).map (fun r => (r.1, f :: r.2)) = some (r, ft) → ft.length = (o :: l).length := by
      intro fr2 h2 rs2 f hr
      obtain ⟨⟨r0, ft0⟩, hr0, hee⟩ := Option.map_eq_some_iff.1 hr
      simp only [Prod.mk.injEq] at hee
      rw [← hee.2]
      simp only [List.length_cons, runD_len l _ _ _ _ _ _ hr0]
    simp only [runD] at he
    split at he
    · split at he
      · exact key _ _ _ _ he
      · cases he
    · exact key _ _ _ _ he
    · cases he

theorem stOk_at {P : Program} {Z : Nat → Bool} {E : Env} {A : List (List Nat)} {ft0 : List Foot} {hs : List Hp} : ∀ {l : List Oper} {ft : List Foot} {i0 i : Nat} {o : Oper} {f : Foot} {ids : List Nat}, stOk P Z E A ft0 hs i0 l ft = true → l[i]? = some o → ft[i]? = some f → f.k = .st ids →
    shortB ids = true ∧ isLoad o.op = true ∧ stAll P Z E A o f.fr f.v ids (i0 + i) (wrsOf ft0 ids) 0 hs = true
  | o :: l, g :: ft, i0, 0, o', f, ids, h, h1, h2, hk => by
    simp only [List.getElem?_cons_zero, Option.some.injEq] at h1 h2
    subst h1 h2
    simp only [stOk, hk, Bool.and_eq_true] at h
    exact ⟨h.1.1.1, h.1.1.2, h.1.2⟩
  | o :: l, g :: ft, i0, i + 1, o', f, ids, h, h1, h2, hk => by
    simp only [stOk, Bool.and_eq_true] at h
    rw [show i0 + (i + 1) = i0 + 1 + i from by omega]
    exact stOk_at h.2 (by simpa using h1) (by simpa using h2) hk
  | [], _, i0, i, o', f, ids, h, h1, h2, hk => by simp at h1
  | _ :: _, [], i0, i, o', f, ids, h, h1, h2, hk => by simp at h2
theorem wrB_Wr {Hs : Nat → Hp} {g : Foot} {j id : Nat} (h : wrB g id = true) (hh : g.h = Hs j) : Wr Hs g j id := by
  simp only [wrB, Bool.and_eq_true] at h
  refine .inl ⟨by rw [← hh]; exact Nat.le_of_ble_eq_true h.1.1, h.1.2, ?_⟩
  have := h.2
  cases hk : g.k <;> rw [hk] at this <;> first | (cases this; done) | skip
  · exact memB_iff.1 this
  · trivial

set_option maxHeartbeats 2000000 in
theorem draw_sound {ro : Option Nat} {m0 : Nat} {P : Program} {Z : Nat → Bool} {E : Env} (hE : EnvOk P Z E) (hm : P.follows .mixedOrders = true) {B : Nat} {ops : Array Oper} (hok : drawOk ops = true) {id0 : Nat} {q : Q} {h : Hp} {w : World} {fr : List V} {a : Act}
    {r : List V × Hp} {ft : List Foot} (hT : HT B q h w) (hfree : Free q h.next r.2.next) (hz : GQ Z q) (hs : RL q fr a.tmps.toList) (he : runD P Z E ops (ancs ops.toList) 0 ops.toList fr h [] = some (r, ft)) (hcf : confOk (ancs ops.toList) ft = true) (hso : stOk P Z E (ancs ops.toList) ft (ft.map (·.h) ++ [r.2]) 0 ops.toList ft = true) {Qx : Exit → Act → World → Prop}
    (hQ : ∀ a' w', PostC Z B q h w a.defers (.normal, r.1, r.2) .normal a' w' → Qx .normal a' w') : (Code.region id0 ops true).wpIn (FN ro) m0 P Qx a w := by
  have hd := drawOk_parts hok
  obtain ⟨F, Hs, Vs, h0, fm, sm, hgood⟩ := runD_trace ops.toList 0 fr h [] (fun _ => fr) (fun _ => h) (fun _ => .any) r ft he rfl rfl rfl
  have hftlen : ft.length = ops.toList.length := runD_len _ _ _ _ _ _ _ he
  have f0 : F 0 = fr := (h0 0 (Nat.le_refl _)).1
  have s0 : Hs 0 = h := (h0 0 (Nat.le_refl _)).2
  simp only [Nat.zero_add] at fm sm hgood
  generalize hl : ops.toList = l at hd fm sm hgood hcf hso hftlen
  have hlen : l.length = ops.size := by rw [← hl]; simp
  have hops : ∀ i : Nat, ops[i]? = l[i]? := fun i => by rw [← hl]; simp
  -- the slots along the text
  have hF : ∀ i, i ≤ l.length → Agree l fr Vs (fun j => j < i) (F i) := by
    intro i
    induction i with
    | zero => intro _; rw [f0]; exact ⟨rfl, fun _ _ => rfl, fun j o t _ hj => absurd hj (Nat.not_lt_zero j)⟩
    | succ i ih =>
      intro hi
      have ho : l[i]? = some l[i] := List.getElem?_eq_getElem (by omega)
      have := (ih (by omega)).put hd ho (Nat.lt_irrefl i)
      obtain ⟨f, _, hg⟩ := hgood i _ ho
      rw [← hg.fr] at this
      exact this.congr fun j => by constructor <;> intro h <;> omega
  have hft : ∀ i, i < l.length → ∃ o f, l[i]? = some o ∧ ft[i]? = some f ∧ Good P Z E ops (ancs l) F Hs Vs i o f := by
    intro i hi
    have ho : l[i]? = some l[i] := List.getElem?_eq_getElem hi
    obtain ⟨f, hf, hg⟩ := hgood i _ ho
    exact ⟨_, f, ho, hf, hg⟩
  -- the heaps along the text
  have hbase : ∀ i, i ≤ l.length → (Hs i).lim = h.lim ∧ (Hs i).hid = h.hid ∧ (∀ id, (Hs i).next ≤ id → (Hs i).tr.get id = none) ∧ h.next ≤ (Hs i).next := by
    intro i
    induction i with
    | zero => intro _; rw [s0]; exact ⟨rfl, rfl, hT.wf, Nat.le_refl _⟩
    | succ i ih =>
      intro hi
      obtain ⟨k1, k2, k3, k4⟩ := ih (by omega)
      obtain ⟨o, f, _, _, hg⟩ := hft i (by omega)
      obtain ⟨g1, g2, g3, g4, _, _⟩ := hg.stat hE
      exact ⟨g2.trans k1, g3.trans k2, g4 k3, Nat.le_trans k4 g1⟩
  have hnext : ∀ k i, i + k ≤ l.length → (Hs i).next ≤ (Hs (i + k)).next := by
    intro k
    induction k with
    | zero => intro i _; exact Nat.le_refl _
    | succ k ih =>
      intro i hi
      obtain ⟨o, f, _, _, hg⟩ := hft (i + k) (by omega)
      exact Nat.le_trans (ih i (by omega)) (hg.stat hE).1
  have hmono : ∀ i j, i ≤ j → j ≤ l.length → (Hs i).next ≤ (Hs j).next := fun i j hij hj => by
    have := hnext (j - i) i (by omega)
    rwa [show i + (j - i) = j from by omega] at this
  have hgetE : ∀ i, i ≤ l.length → ∀ id, (Hs i).get id = bif vis h.hid id then (Hs i).tr.get id else none := fun i hi id => by
    simp only [Hp.get, (hbase i hi).2.1]
  have hcon : ∀ id k i, i + k ≤ l.length → (∀ j f, ft[j]? = some f → i ≤ j → j < i + k → ¬ Wr Hs f j id) → (Hs (i + k)).get id = (Hs i).get id := by
    intro id k
    induction k with
    | zero => intro i _ _; rfl
    | succ k ih =>
      intro i hi hh
      obtain ⟨o, f, ho, hf, hg⟩ := hft (i + k) (by omega)
      rw [show i + (k + 1) = i + k + 1 from by omega, ← ih i (by omega) (fun j f hf h1 h2 => hh j f hf h1 (by omega)), hgetE _ (by omega), hgetE _ (by omega),
        (hg.stat hE).2.2.2.2.1 id (hbase (i + k) (by omega)).2.2.1 (hh _ _ hf (by omega) (by omega))]
  have hcon2 : ∀ id p p', p ≤ l.length → p' ≤ l.length → (∀ j f, ft[j]? = some f → j < l.length → Wr Hs f j id → (j < p ↔ j < p')) → (Hs p).get id = (Hs p').get id := by
    intro id p p' hp hp' hh
    rcases Nat.le_total p p' with hle | hle
    · have := hcon id (p' - p) p (by omega) (fun j f hf h1 h2 hw => by have := hh j f hf (by omega) hw; omega)
      rw [show p + (p' - p) = p' from by omega] at this
      exact this.symm
    · have := hcon id (p - p') p' (by omega) (fun j f hf h1 h2 hw => by have := hh j f hf (by omega) hw; omega)
      rwa [show p' + (p - p') = p from by omega] at this
  have hback : ∀ i, Closed l (fun j => j < i) := fun i k o ho hk e he => Nat.lt_trans (hd.back k o ho e he) hk
  have hrange : ∀ i j id, i < l.length → j < l.length → (Hs i).next ≤ id → id < (Hs (i + 1)).next → (Hs j).next ≤ id → id < (Hs (j + 1)).next → i = j := by
    intro i j id hi hj a1 a2 b1 b2
    rcases Nat.lt_trichotomy i j with hij | hij | hij
    · have := hmono (i + 1) j (by omega) (by omega); omega
    · exact hij
    · have := hmono (j + 1) i (by omega) (by omega); omega
  -- the relation
  let X (listed : Array Bool) (j : Nat) : Prop := listed[j]? = some true
  let R0 (listed : Array Bool) (a' : Act) (w' : World) : Prop := ∃ fr' q' gX, HG B q' gX h.lim w' ∧ RL q' fr' a'.tmps.toList ∧ a'.defers = a.defers ∧ Agree l fr Vs (X listed) fr' ∧
    listed.size = l.length ∧ Closed l (X listed) ∧
    (q.le q' ∧ (∀ id e, q' id = some e → q id = some e ∨ ∃ j, j < l.length ∧ X listed j ∧ (Hs j).next ≤ id ∧ id < (Hs (j + 1)).next) ∧
      (∀ b, b < w.heap.size → (∀ id o e, h.lim ≤ id → h.get id = some o → q id = some e → e.b ≠ b) → w'.heap[b]? = w.heap[b]?) ∧ w.heap.size ≤ w'.heap.size ∧ w'.os = w.os ∧ w'.tape = w.tape ∧ w'.output = w.output ∧
      (∀ id o e, gX id = some o → q' id = some e → (∃ p, h.get id = some p ∧ q id = some e) ∨ (h.next ≤ id ∧ id < (Hs l.length).next ∧ NewB q h w e.b))) ∧
    ∀ id, ∃ p, p ≤ l.length ∧ (∀ j f, ft[j]? = some f → j < l.length → Wr Hs f j id → (X listed j ↔ j < p)) ∧ gX id = (Hs p).get id
  have hend : ∀ (listed : Array Bool) (a' : Act) (w' : World), R0 listed a' w' → (∀ j, j < l.length → X listed j) → Qx .normal a' w' := by
    rintro listed a' w' ⟨fr', q', gX, h1, h2, h3, h4, h5, h6, ⟨x1, x2, x3, x4, x5, x6, x7, x8⟩, h8⟩ hall
    have e1 : fr' = r.1 := by
      rw [← fm]
      apply List.ext_getElem?
      intro t
      refine h4.get (hF l.length (Nat.le_refl _)) t (fun j o ho _ => ?_)
      have hj : j < l.length := (List.getElem?_eq_some_iff.1 ho).1
      exact ⟨fun _ => hj, fun _ => hall j hj⟩
    have e2 : gX = (Hs l.length).get := by
      funext id
      obtain ⟨p, hp, hw, e⟩ := h8 id
      rw [e]
      refine hcon2 id p l.length hp (Nat.le_refl _) (fun j f hf hj hw' => ?_)
      have := (hw j f hf hj hw').1 (hall j hj)
      exact ⟨fun _ => hj, fun _ => this⟩
    obtain ⟨b1, b2, b3, b4⟩ := hbase l.length (Nat.le_refl _)
    subst e2
    refine hQ a' w' ⟨q', ?_, ?_, by rw [← e1]; exact h2, h3, rfl⟩
    · rw [← sm]
      refine ⟨⟨?_, h1.inj, h1.dom, h1.base⟩, ?_, ?_, b3⟩
      · rw [b1]; exact h1.tie
      · rw [b2]; exact fun f hf => Nat.le_trans (hT.hid f hf) b4
      · rw [b1]; exact Nat.le_trans hT.lim b4
    · rw [← sm]
      have hchain : ∀ id, id < h.next → (id < h.lim ∨ vis h.hid id = false) → ∀ i, i ≤ l.length → (Hs i).tr.get id = h.tr.get id := by
        intro id hlt hh i
        induction i with
        | zero => intro _; rw [s0]
        | succ i ih =>
          intro hi
          obtain ⟨o, f, _, _, hg⟩ := hft i (by omega)
          obtain ⟨c1, c2, c3, c4⟩ := hbase i (by omega)
          rw [← ih (by omega)]
          exact (hg.stat hE).2.2.2.2.2 id (by omega) (by rw [c1]; exact Nat.le_trans hT.lim c4) (by rw [c1, c2]; exact hh)
      refine ⟨x1, ?_, x3, x4, x5, x6, x7, b4, b1, b2, x8, ?_, ?_⟩
      · intro id e he
        rcases x2 id e he with k | ⟨j, hj, _, k1, k2⟩
        · exact .inl k
        · refine .inr ⟨Nat.le_trans (hbase j (by omega)).2.2.2 k1, ?_⟩
          exact Nat.lt_of_lt_of_le k2 (hmono (j + 1) l.length (by omega) (Nat.le_refl _))
      · intro id hid
        have := hT.lim
        rw [hgetE _ (Nat.le_refl _), hchain id (by omega) (.inl hid) _ (Nat.le_refl _)]
        rfl
      · intro id hv
        rcases Nat.lt_or_ge id h.next with hlt | hge
        · exact hchain id hlt (.inr hv) _ (Nat.le_refl _)
        · have := vis_new hT.hid hge
          rw [this] at hv; cases hv
  -- nothing ready: all done
  have hready : ∀ (listed : Array Bool), listed.size = l.length → Region.ready .any ops listed = [] → ∀ j, j < l.length → X listed j := by
    intro listed hsz hr j
    induction j using Nat.strongRecOn with
    | _ j ih =>
      intro hj
      by_cases hx : X listed j
      · exact hx
      · exfalso
        have hmem : j ∈ Region.ready .any ops listed := by
          unfold Region.ready
          have ho : l[j]? = some l[j] := List.getElem?_eq_getElem hj
          refine List.mem_filter.2 ⟨List.mem_range.2 (by omega), ?_⟩
          simp only [Bool.and_eq_true, Bool.not_eq_true', hops j, ho, Option.map_some, Option.getD_some, Array.all_eq_true_iff_forall_mem]
          constructor
          · have hlt : j < listed.size := by omega
            have : listed[j]? = some listed[j] := Array.getElem?_eq_getElem hlt
            simp only [Array.getD_eq_getD_getElem?, this, Option.getD_some]
            cases hb : listed[j] with
            | false => rfl
            | true => exact absurd (by simp only [X, this, hb]) hx
          · intro e he
            cases hb : Region.binds .any e with
            | false => rfl
            | true =>
              have hin : e.on ∈ psOf l[j] := by
                simp only [psOf, List.mem_map, List.mem_filter]
                exact ⟨e, ⟨by simpa using he, hb⟩, rfl⟩
              have hlt := hd.back j _ ho e.on hin
              have := ih e.on hlt (by omega)
              simp only [X] at this
              simp [Array.getD_eq_getD_getElem?, this]
        rw [hr] at hmem
        simp at hmem
  refine wpIn_region_any hm ?_
  have main : ∀ (fuel : Nat) (listed : Array Bool) (a' : Act) (w' : World), (List.range l.length).countP (fun j => listed.getD j true) + fuel = l.length → R0 listed a' w' →
      wpAnyIn (FN ro) m0 P .any ops Qx fuel listed a' w' := by
    intro fuel
    induction fuel with
    | zero =>
      intro listed a' w' hc hR
      have hsz : listed.size = l.length := by obtain ⟨_, _, _, _, _, _, _, h5, _⟩ := hR; exact h5
      have hall : ∀ j, j < l.length → X listed j := by
        intro j hj
        have := List.countP_eq_length.1 (by simpa using hc) j (List.mem_range.2 hj)
        have hlt : j < listed.size := by omega
        have e : listed[j]? = some listed[j] := Array.getElem?_eq_getElem hlt
        simp only [e, Option.getD_some] at this
        simp only [X, e, this]
      refine ⟨?_, hend listed a' w' hR hall⟩
      unfold Region.ready
      refine List.filter_eq_nil_iff.2 (fun j hj => ?_)
      have := hall j (by rw [hlen]; exact List.mem_range.1 hj)
      simp only [X] at this
      simp [Array.getD_eq_getD_getElem?, this]
    | succ fuel ih =>
      intro listed a' w' hc hR
      have hR0 := hR
      obtain ⟨fr', q', gX, h1, h2, h3, h4, h5, h6, ⟨x1, x2, x3, x4, x5, x6, x7, x8⟩, h8⟩ := hR
      refine ⟨fun hr => hend listed a' _ hR0 (hready listed h5 hr), fun i hi => ?_⟩
      -- the operation that comes next
      unfold Region.ready at hi
      obtain ⟨hi1, hi2⟩ := List.mem_filter.1 hi
      have hilt : i < l.length := by rw [hlen]; exact List.mem_range.1 hi1
      obtain ⟨o, f, ho, hf, hgo⟩ := hft i hilt
      simp only [Bool.and_eq_true, Bool.not_eq_true', hops i, ho, Option.map_some, Option.getD_some, Array.all_eq_true_iff_forall_mem] at hi2
      obtain ⟨hin, hpre⟩ := hi2
      have hie : listed[i]? = some false := by
        have hlt : i < listed.size := by omega
        have e : listed[i]? = some listed[i] := Array.getElem?_eq_getElem hlt
        simp only [Array.getD_eq_getD_getElem?, e, Option.getD_some] at hin
        rw [e, hin]
      have hni : ¬ X listed i := by simp only [X, hie]; simp
      have hpre' : ∀ e ∈ psOf o, X listed e := by
        intro e he
        simp only [psOf, List.mem_map, List.mem_filter] at he
        obtain ⟨ed, ⟨hed, hb⟩, rfl⟩ := he
        have := hpre ed (by simpa using hed)
        simp only [hb, Bool.not_true, Bool.false_or] at this
        have hlt : ed.on < listed.size := by
          have := hd.back i o ho ed.on (by simp only [psOf, List.mem_map, List.mem_filter]; exact ⟨ed, ⟨hed, hb⟩, rfl⟩)
          omega
        have e : listed[ed.on]? = some listed[ed.on] := Array.getElem?_eq_getElem hlt
        simp only [Array.getD_eq_getD_getElem?, e, Option.getD_some] at this
        simp only [X, e, this]
      let listed' := listed.setIfInBounds i true
      have hX' : ∀ j, X listed' j ↔ (X listed j ∨ j = i) := by
        intro j
        simp only [X, listed']
        by_cases e : j = i
        · subst e
          rw [Array.getElem?_setIfInBounds_self_of_lt (by omega)]
          simp
        · rw [Array.getElem?_setIfInBounds_ne (fun h => e h.symm)]
          simp [e]
      have hcl' : Closed l (X listed') := by
        intro k o' ho' hk e he
        rw [hX'] at hk ⊢
        rcases hk with hk | rfl
        · exact .inl (h6 k o' ho' hk e he)
        · rw [ho] at ho'
          obtain rfl : o = o' := by simpa using ho'
          exact .inl (hpre' e he)
      -- forced operations have been done, both here and in the text
      have hforce : ∀ j, j ∈ (ancs l).getD i [] → j ≠ i → X listed j ∧ j < i := by
        intro j hj hne
        have e1 := ancs_ok hj hcl' ((hX' i).2 (.inr rfl))
        rw [hX'] at e1
        have e2 := ancs_ok (X := fun j => j < i + 1) hj (hback (i + 1)) (Nat.lt_succ_self i)
        exact ⟨e1.resolve_right hne, by omega⟩
      have hforce2 : ∀ j, i ∈ (ancs l).getD j [] → ¬ X listed j ∧ ¬ j < i := by
        intro j hj
        exact ⟨fun hx => hni (ancs_ok hj h6 hx), fun hlt => Nat.lt_irrefl i (ancs_ok (X := fun j => j < i) hj (hback i) hlt)⟩
      have hslot : ∀ t, (∀ (j : Nat) (o' : Oper), l[j]? = some o' → o'.dst = some t → i = j ∨ j ∈ (ancs l).getD i [] ∨ i ∈ (ancs l).getD j []) → fr'[t]? = (F i)[t]? := by
        intro t ht
        refine h4.get (hF i (by omega)) t (fun j o' ho' hdj => ?_)
        rcases ht j o' ho' hdj with e | e | e
        · subst e; exact ⟨fun h => absurd h hni, fun h => absurd h (Nat.lt_irrefl i)⟩
        · by_cases hne : j = i
          · subst hne; exact ⟨fun h => absurd h hni, fun h => absurd h (Nat.lt_irrefl j)⟩
          · obtain ⟨e1, e2⟩ := hforce j e hne
            exact ⟨fun _ => e2, fun _ => e1⟩
        · obtain ⟨e1, e2⟩ := hforce2 j e
          exact ⟨fun h => absurd h e1, fun h => absurd h e2⟩
      have hopnd : ∀ x ∈ o.op.operands, opnd Z (F i) x = opnd Z fr' x := by
        intro x hx
        cases x with
        | tmp t =>
          have ht : t ∈ tmpsOf o := by
            simp only [tmpsOf, List.mem_filterMap]
            exact ⟨.tmp t, by simpa using hx, rfl⟩
          have := hslot t (fun j o' ho' hdj => hd.opnds i o j o' t ho ho' hdj ht)
          simp only [opnd, getD_of this]
        | _ => rfl
      have hwant : wantedE ops o fr' = wantedE ops o (F i) := by
        unfold wantedE
        cases hg : o.guard with
        | none => rfl
        | some jw =>
          obtain ⟨j, want⟩ := jw
          simp only
          cases hdj : (ops[j]?).bind (·.dst) with
          | none => rfl
          | some t =>
            simp only
            obtain ⟨o', ho', hdj⟩ := Option.bind_eq_some_iff.1 hdj
            rw [hops] at ho'
            have hjp := hd.guard i o ho j want hg
            have : fr'[t]? = (F i)[t]? := by
              refine h4.get (hF i (by omega)) t (fun k ok hk hdk => ?_)
              have := hd.once j o' k ok t ho' hk hdk hdj
              subst this
              exact ⟨fun _ => hd.back i o ho j hjp, fun _ => hpre' j hjp⟩
            rw [this]
      obtain ⟨b1, b2, b3, b4⟩ := hbase i (by omega)
      obtain ⟨g1, g2, g3, g4, g5, g6⟩ := hgo.stat hE
      -- what conflicts with the operation has been done, if, and only if, it stands ahead of it
      have hsync : ∀ j f', ft[j]? = some f' → j ≠ i → conf f'.k f.k = true → (X listed j ↔ j < i) := by
        intro j f' hf' hne c1
        constructor
        · intro hx
          rcases Nat.lt_or_gt_of_ne hne with hlt | hgt
          · exact hlt
          · exact absurd hx (hforce2 j (confOk_parts hcf hf' hf hgt (by rw [conf_symm]; exact c1))).1
        · intro hlt
          exact (hforce j (confOk_parts hcf hf hf' hlt c1) hne).1
      -- the view holds here, too
      have hview : (∀ l, f.k ≠ .st l) → ∀ id p, (view (Hs i) f).get id = some p → gX id = some p ∧ id < (Hs i).next ∧ vis f.fs id = true ∧ (match f.k with | .no => False | .st l | .rd l | .wr l => id ∈ l | _ => True) := by
        intro hnst id p hp
        have hv := Hp.get_vis hp
        have htr := Hp.get_tr hp
        rw [view_tr] at htr
        have hlt : id < (Hs i).next := by
          rcases Nat.lt_or_ge id (Hs i).next with k | k
          · exact k
          · rw [b3 id k] at htr; cases htr
        obtain ⟨v1, v2, v3⟩ := view_vis hlt hv
        have v1 := v1.resolve_right fun ⟨l, hl⟩ => hnst l hl
        refine ⟨?_, hlt, v1, v3⟩
        obtain ⟨p', hp', hw, e⟩ := h8 id
        have hgi : (Hs i).get id = some p := by rw [hgetE i (by omega), ← b2, v2]; exact htr
        rw [e, ← hgi]
        refine hcon2 id p' i hp' (by omega) (fun j f' hf' hj hw' => ?_)
        rw [← hw j f' hf' hj hw']
        by_cases hne : j = i
        · subst hne; exact ⟨fun h => absurd h hni, fun h => absurd h (Nat.lt_irrefl j)⟩
        · rcases hw' with ⟨m1, m2, m3⟩ | ⟨m1, m2⟩
          · refine hsync j f' hf' hne ?_
            cases hk : f.k with
            | no => rw [hk] at v3; exact v3.elim
            | st l1 => exact absurd hk (hnst l1)
            | rd l1 =>
              rw [hk] at v3
              cases hk' : f'.k <;> rw [hk'] at m3 <;> simp only [FK.has] at m3
              · simp only [conf, Bool.or_eq_true]; exact .inl (common_of m3 v3)
              · rfl
            | wr l1 =>
              rw [hk] at v3
              cases hk' : f'.k <;> rw [hk'] at m3 <;> simp only [FK.has] at m3
              · simp only [conf, Bool.or_eq_true]; exact .inl (common_of m3 v3)
              · rfl
            | rdAll => cases hk' : f'.k <;> rw [hk'] at m3 <;> simp only [FK.has] at m3 <;> rfl
            | wrAll => cases hk' : f'.k <;> rw [hk'] at m3 <;> simp only [FK.has] at m3 <;> rfl
          · constructor
            · intro hx
              rcases Nat.lt_or_gt_of_ne hne with hlt' | hgt
              · exact hlt'
              · have := hmono i j (by omega) (by omega); omega
            · intro hlt'
              by_cases hA : j ∈ (ancs l).getD i []
              · exact (hforce j hA hne).1
              · rcases hgo.deny j hlt' hA id m1 m2 with k | k
                · rw [k] at v1; cases v1
                · rw [k] at v3; exact v3.elim
      have hcount : (List.range l.length).countP (fun j => listed'.getD j true) + fuel = l.length := by
        have hc1 : (List.range l.length).countP (fun j => listed'.getD j true) = (List.range l.length).countP (fun j => listed.getD j true) + 1 := by
          have hsplit : ∀ n, i < n → n ≤ l.length → (List.range n).countP (fun j => listed'.getD j true) = (List.range n).countP (fun j => listed.getD j true) + 1 := by
            intro n
            induction n with
            | zero => intro h; omega
            | succ n ihn =>
              intro hin hn
              rw [List.range_succ, List.countP_append, List.countP_append]
              by_cases e : n = i
              · subst e
                have hsame : ∀ m, m ≤ n → (List.range m).countP (fun j => listed'.getD j true) = (List.range m).countP (fun j => listed.getD j true) := by
                  intro m hm
                  apply List.countP_congr
                  intro j hj
                  have hne : n ≠ j := by have := List.mem_range.1 hj; omega
                  simp only [listed', Array.getD_eq_getD_getElem?, Array.getElem?_setIfInBounds_ne hne]
                rw [hsame n (Nat.le_refl _)]
                have e1 : listed'.getD n true = true := by
                  simp only [listed', Array.getD_eq_getD_getElem?, Array.getElem?_setIfInBounds_self_of_lt (show n < listed.size by omega), Option.getD_some]
                have e2 : listed.getD n true = false := by simp only [Array.getD_eq_getD_getElem?, hie, Option.getD_some]
                simp only [List.countP_cons, List.countP_nil, e1, e2]
                simp
              · rw [ihn (by omega) (by omega)]
                have hne : i ≠ n := fun h => e h.symm
                have e1 : listed'.getD n true = listed.getD n true := by simp only [listed', Array.getD_eq_getD_getElem?, Array.getElem?_setIfInBounds_ne hne]
                simp only [List.countP_cons, List.countP_nil, e1]
                omega
          exact hsplit l.length hilt (Nat.le_refl _)
        omega
      have hagree : Agree l fr Vs (X listed') (putF fr' o.dst (Vs i)) := (h4.put hd ho hni).congr fun j => (hX' j).symm
      have hsz' : listed'.size = l.length := by simp [listed', h5]
      unfold wpOpIn
      rw [hops i, ho]
      simp only
      rcases hgo.run with ⟨hw, h', hst, hHs⟩ | ⟨hw, hv, hHs, hfk⟩
      · rw [if_pos (wanted_sound h2 (hwant.trans hw))]
        rw [oneOp_congr hopnd] at hst
        have sfh := oneOp_sf hE hst
        by_cases hks : ∃ ids, f.k = .st ids
        · obtain ⟨ids, hk⟩ := hks
          obtain ⟨s1, s2, s3⟩ := stOk_at hso ho hf hk
          rw [Nat.zero_add] at s3
          obtain ⟨fl1, fl2, fl3⟩ := hgo.fld
          have hle := load_heap s2 hst
          have hHs' : (Hs (i + 1)).next = (Hs i).next := by rw [hHs, hle]; exact view_next _ _
          -- the place of the text that shows this block
          have hpl : ∃ p, p ≤ l.length ∧ (∀ id, id ∈ ids → gX id = (Hs p).get id) ∧ skipP (ancs l) i (0 + p) (wrsOf ft ids) = false := by
            have hnw : ∀ g, f = g → ∀ id, wrB g id = false := fun g hg id => by rw [← hg]; simp [wrB, hk]
            clear s3 hk
            match ids, s1 with
            | [], _ => exact ⟨0, Nat.zero_le _, fun id hid => (by cases hid), rfl⟩
            | [id], _ =>
              obtain ⟨p, hp, hw, e⟩ := h8 id
              refine ⟨p, hp, fun id' hid => ?_, skipP_of fun j hj => ?_⟩
              · rw [List.mem_singleton] at hid
                rw [hid]; exact e
              · rw [Nat.zero_add]
                obtain ⟨k, g, rfl, hg, hwr⟩ := mem_wrs hj
                rw [Nat.zero_add]
                have hk2 : k < ft.length := (List.getElem?_eq_some_iff.1 hg).1
                have hkl : k < l.length := by
                  have := hftlen
                  omega
                obtain ⟨o2, f2, _, hf2, hg2⟩ := hft k hkl
                rw [hg] at hf2
                cases hf2
                have hww := hw k g hg hkl (wrB_Wr hwr hg2.fld.2.1)
                refine ⟨fun ha => hww.1 (hforce k ha ?_).1, fun ha => ?_⟩
                · rintro rfl
                  rw [hf] at hg
                  rw [hnw g (by simpa using hg)] at hwr
                  cases hwr
                · have := (hforce2 k ha).1
                  rw [hww] at this
                  omega
          obtain ⟨p, hp, hpe, hps⟩ := hpl
          have hmem : (ft.map (·.h) ++ [r.2])[p]? = some (Hs p) := by
            rcases Nat.lt_or_ge p l.length with hlt | hge
            · obtain ⟨o2, f2, _, hf2, hg2⟩ := hft p hlt
              rw [List.getElem?_append_left (by rw [List.length_map, hftlen]; exact hlt), List.getElem?_map, hf2]
              simp only [Option.map_some, hg2.fld.2.1]
            · obtain rfl : p = l.length := by omega
              rw [List.getElem?_append_right (by rw [List.length_map, hftlen]; exact Nat.le_refl _)]
              simp [hftlen, sm]
          obtain ⟨hz2, hst2⟩ := stAll_at s3 hmem hps
          rw [fl1, fl3, oneOp_congr hopnd] at hst2
          have hle2 := load_heap s2 hst2
          subst hle2
          obtain ⟨c1, c2, c3, c4⟩ := hbase p hp
          have hsee : ∀ id x, (view (Hs p) ⟨.st ids, [], [], Hs p, .any⟩).get id = some x → gX id = some x ∧ id < (Hs p).next := by
            intro id x hx
            have hv := Hp.get_vis hx
            have htr := Hp.get_tr hx
            rw [view_tr] at htr
            have hlt : id < (Hs p).next := by
              rcases Nat.lt_or_ge id (Hs p).next with k | k
              · exact k
              · rw [c3 id k] at htr; cases htr
            obtain ⟨_, v2, v3⟩ := view_vis hlt hv
            refine ⟨?_, hlt⟩
            rw [hpe id v3, hgetE p hp, ← c2, v2]
            exact htr
          have hTv : HT B q' (view (Hs p) ⟨.st ids, [], [], Hs p, .any⟩) w' := by
            refine ⟨⟨fun id x hx => ?_, fun i1 i2 o1 o2 e1 e2 k1 k2 => h1.inj i1 i2 o1 o2 e1 e2 (hsee _ _ k1).1 (hsee _ _ k2).1, h1.dom, h1.base⟩, ?_, ?_, ?_⟩
            · obtain ⟨e, t1, t2, t3⟩ := h1.tie id x (hsee id x hx).1
              refine ⟨e, t1, t2, fun hh => t3 ?_⟩
              have hh : (Hs p).next ≤ id := hh
              have := hT.lim
              omega
            · intro g hg
              rcases List.mem_cons.1 hg with rfl | hg
              · exact Nat.le_refl _
              · rw [c2] at hg; exact Nat.le_trans (hT.hid g hg) c4
            · exact Nat.le_refl _
            · exact c3
          refine oneOp_wp hE hTv (hz.mono x1) h2 (fun id a1 a2 => absurd a2 (Nat.not_lt.2 a1)) hst2 _ _ ?_ (fun _ _ _ _ h => by cases h)
          intro x v q2 w2 hx k1 k2 k3
          cases hx
          have hq2 : ∀ id e, q2 id = some e → q' id = some e := by
            intro id e he
            rcases k2.win id e he with k | ⟨m1, m2⟩
            · exact k
            · exact absurd m2 (Nat.not_lt.2 m1)
          have hw2 : ∀ b, b < w'.heap.size → w2.heap[b]? = w'.heap[b]? := by
            intro b hb
            refine k2.out b hb fun id x e hl hx _ _ => ?_
            have := (hsee id x hx).2
            have hl : (Hs p).next ≤ id := hl
            omega
          refine ih listed' _ w2 hcount ⟨_, q2, gX, ⟨?_, ?_, k1.dom, k1.base⟩, RL.put (RL.mono k2.ext _ _ h2) o.dst k3, by rw [put_defers]; exact h3, hagree, hsz', hcl',
            ⟨x1.trans k2.ext, ?_, ?_, Nat.le_trans x4 k2.size, k2.os.trans x5, k2.tape.trans x6, k2.output.trans x7, ?_⟩, ?_⟩
          · intro id x hx
            obtain ⟨e, t1, t2, t3⟩ := h1.tie id x hx
            exact ⟨e, k2.ext _ _ t1, by rw [hw2 _ (h1.dom id e t1)]; exact OT.mono k2.ext t2, t3⟩
          · intro i1 i2 o1 o2 e f' m1 m2 m3 m4 m5
            exact h1.inj i1 i2 o1 o2 e f' m1 m2 (hq2 _ _ m3) (hq2 _ _ m4) m5
          · intro id e hq
            rcases x2 id e (hq2 id e hq) with k | ⟨j, hj, hx, n1, n2⟩
            · exact .inl k
            · exact .inr ⟨j, hj, (hX' j).2 (.inl hx), n1, n2⟩
          · intro b hb hn
            rw [hw2 b (Nat.lt_of_lt_of_le hb x4), x3 b hb hn]
          · intro id x e hx hq
            exact x8 id x e hx (hq2 id e hq)
          · intro id
            obtain ⟨p', hp', hw', e⟩ := h8 id
            refine ⟨p', hp', fun j f' hf' hj hw2 => ?_, e⟩
            rw [← hw' j f' hf' hj hw2, hX']
            constructor
            · rintro (hx | rfl)
              · exact hx
              · rw [hf] at hf'
                cases hf'
                rcases hw2 with ⟨_, _, m3⟩ | ⟨m1, m2⟩
                · rw [hk] at m3; exact m3.elim
                · rw [hHs'] at m2; omega
            · intro hx; exact .inl hx
        have hnst : ∀ l, f.k ≠ .st l := fun l hl => hks ⟨l, hl⟩
        have hview := hview hnst
        have hn1 : h'.next = (Hs (i + 1)).next := by rw [hHs]; rfl
        have htr1 : h'.tr = (Hs (i + 1)).tr := by rw [hHs]; rfl
        have hTv : HT B q' (view (Hs i) f) w' := by
          have hl1 : (view (Hs i) f).lim = (Hs i).next ∨ (view (Hs i) f).lim = h.lim := by
            rcases view_lim (Hs i) f with ⟨e, _⟩ | e
            · exact .inl e
            · exact .inr (by rw [e, b1])
          have hl2 : h.lim ≤ (view (Hs i) f).lim := by
            rcases hl1 with e | e <;> rw [e]
            · exact Nat.le_trans hT.lim b4
            · exact Nat.le_refl _
          refine ⟨⟨fun id p hp => ?_, fun i1 i2 o1 o2 e1 e2 k1 k2 => h1.inj i1 i2 o1 o2 e1 e2 (hview _ _ k1).1 (hview _ _ k2).1, h1.dom, h1.base⟩, ?_, ?_, ?_⟩
          · obtain ⟨e, t1, t2, t3⟩ := h1.tie id p (hview id p hp).1
            exact ⟨e, t1, t2, fun hh => t3 (Nat.le_trans hl2 hh)⟩
          · have htop : ∀ g ∈ f.fs ++ (Hs i).hid, g.top ≤ (Hs i).next := by
              intro g hg
              rcases List.mem_append.1 hg with hg | hg
              · exact hgo.top (fun j hj => hmono (j + 1) i (by omega) (by omega)) g hg
              · rw [b2] at hg; exact Nat.le_trans (hT.hid g hg) b4
            rw [view_next]
            unfold view
            split
            · intro g hg; rcases List.mem_cons.1 hg with rfl | hg; exact Nat.le_refl _; exact htop g hg
            · rename_i hk; exact absurd hk (hnst _)
            · intro g hg; rcases List.mem_cons.1 hg with rfl | hg; exact Nat.le_refl _; exact htop g hg
            · intro g hg; rcases List.mem_cons.1 hg with rfl | hg; exact Nat.le_refl _; exact htop g hg
            · exact htop
            · exact htop
          · rw [view_next]
            rcases hl1 with e | e <;> rw [e]
            · exact Nat.le_refl _
            · exact Nat.le_trans hT.lim b4
          · rw [view_next, view_tr]; exact b3
        have hfr1 : Free q' (view (Hs i) f).next h'.next := by
          rw [view_next, hn1]
          intro id a1 a2
          cases hq : q' id with
          | none => rfl
          | some e =>
            rcases x2 id e hq with k | ⟨j, hj, hx, k1, k2⟩
            · have := hmono (i + 1) l.length (by omega) (Nat.le_refl _)
              rw [hfree id (by omega) (by rw [← sm]; omega)] at k
              cases k
            · have := hrange i j id hilt hj a1 a2 k1 k2
              subst this
              exact absurd hx hni
        refine oneOp_wp hE hTv (hz.mono x1) h2 hfr1 hst _ _ ?_ (fun _ _ _ _ h => by cases h)
        intro x v q2 w2 hx k1 k2 k3
        cases hx
        have hlimv : h'.lim = (view (Hs i) f).lim := k2.lim
        -- what is changed
        let ch (id : Nat) : Prop := (id < (Hs i).next ∧ vis f.fs id = true ∧ f.k.has id) ∨ ((Hs i).next ≤ id ∧ id < (Hs (i + 1)).next)
        have hchW : ∀ id, ch id ↔ Wr Hs f i id := fun id => Iff.rfl
        have hdec : ∀ id, ch id ∨ ¬ ch id := fun id => Classical.em _
        classical
        let gN : Nat → Option Ob := fun id => if ch id then (Hs (i + 1)).get id else gX id
        have hgN1 : ∀ id, ch id → gN id = (Hs (i + 1)).get id := fun id hc => if_pos hc
        have hgN2 : ∀ id, ¬ ch id → gN id = gX id := fun id hc => if_neg hc
        -- a block that is seen and may be written is changed
        have hseen : ∀ id p, (view (Hs i) f).lim ≤ id → (view (Hs i) f).get id = some p → ch id := by
          intro id p hl hp
          obtain ⟨m1, m2, m3, m4⟩ := hview id p hp
          refine .inl ⟨m2, m3, ?_⟩
          cases hk : f.k with
          | no => rw [hk] at m4; exact m4.elim
          | st l1 => exact absurd hk (hnst l1)
          | rd l1 => simp only [view, hk] at hl; omega
          | wr l1 => rw [hk] at m4; exact m4
          | rdAll => simp only [view, hk] at hl; omega
          | wrAll => trivial
        -- what is changed and there is tied by the step
        have hnewv : ∀ id p, ch id → (Hs (i + 1)).get id = some p → h'.get id = some p ∧ (view (Hs i) f).lim ≤ id ∨ (∃ p', gX id = some p' ∧ False) ∨ (h'.get id = some p ∧ h.lim ≤ id) ∨ h'.get id = some p := by
          intro id p hc hp
          right; right; right
          rw [hgetE (i + 1) (by omega)] at hp
          have hvh : vis h.hid id = true := by
            cases hb : vis h.hid id with
            | true => rfl
            | false => simp [hb] at hp
          rw [hvh] at hp
          have hp : (Hs (i + 1)).tr.get id = some p := hp
          have hvv : vis h'.hid id = true := by
            rw [k2.hid]
            rcases hc with ⟨c1, c2, c3⟩ | ⟨c1, c2⟩
            · unfold view
              cases hk : f.k with
              | no => rw [hk] at c3; exact c3.elim
              | st l1 => rw [hk] at c3; exact c3.elim
              | rd l1 => rw [hk] at c3; exact c3.elim
              | rdAll => rw [hk] at c3; exact c3.elim
              | wr l1 =>
                rw [hk] at c3
                simp only [vis_cons, vis_append, c2, b2, hvh, Bool.and_true, Fl.vis, Bool.or_eq_true]
                exact .inr (memB_iff.2 c3)
              | wrAll => simp only [vis_append, c2, b2, hvh, Bool.and_true]
            · exact vis_new hTv.hid (by rw [view_next]; exact c1)
          simp only [Hp.get, hvv, cond_true, htr1]
          exact hp
        have htieN : ∀ id p, ch id → gN id = some p → h'.get id = some p := by
          intro id p hc hp
          rw [hgN1 id hc] at hp
          rcases hnewv id p hc hp with k | ⟨_, _, k⟩ | k | k
          · exact k.1
          · exact k.elim
          · exact k.1
          · exact k
        have hold : ∀ id p, gX id = some p → ¬ ch id → ∃ e, q' id = some e ∧ q2 id = some e ∧ w2.heap[e.b]? = w'.heap[e.b]? := by
          intro id p hp hc
          obtain ⟨e, t1, t2, t3⟩ := h1.tie id p hp
          refine ⟨e, t1, k2.ext _ _ t1, k2.out e.b (h1.dom id e t1) ?_⟩
          intro id' p' e' hl' hp' hq' hbb
          have := h1.inj id' id p' p e' e (hview id' p' hp').1 hp hq' t1 hbb
          subst this
          exact hc (hseen id' p' hl' hp')
        refine ih listed' _ w2 hcount ⟨_, q2, gN, ⟨?_, ?_, k1.dom, k1.base⟩, RL.put (RL.mono k2.ext _ _ h2) o.dst k3, by rw [put_defers]; exact h3, hagree, hsz', hcl',
          ⟨x1.trans k2.ext, ?_, ?_, Nat.le_trans x4 k2.size, k2.os.trans x5, k2.tape.trans x6, k2.output.trans x7, ?_⟩, ?_⟩
        · -- ties
          intro id p hp
          rcases hdec id with hc | hc
          · obtain ⟨e, t1, t2, t3⟩ := k1.tie id p (htieN id p hc hp)
            refine ⟨e, t1, t2, fun hl => t3 ?_⟩
            rw [hlimv]
            rcases hc with ⟨c1, c2, c3⟩ | ⟨c1, c2⟩
            · cases hk : f.k with
              | no => rw [hk] at c3; exact c3.elim
              | st l1 => rw [hk] at c3; exact c3.elim
              | rd l1 => rw [hk] at c3; exact c3.elim
              | rdAll => rw [hk] at c3; exact c3.elim
              | wr l1 => simp only [view, hk, b1]; exact hl
              | wrAll => simp only [view, hk, b1]; exact hl
            · have := hTv.lim; rw [view_next] at this; omega
          · rw [hgN2 id hc] at hp
            obtain ⟨e, t1, t2, t3⟩ := h1.tie id p hp
            obtain ⟨e', s1, s2, s3⟩ := hold id p hp hc
            rw [t1] at s1
            cases s1
            exact ⟨e, s2, by rw [s3]; exact OT.mono k2.ext t2, t3⟩
        · -- apart
          have one : ∀ i1 i2 o1 o2 e f', gX i1 = some o1 → ¬ ch i1 → h'.get i2 = some o2 → q2 i1 = some e → q2 i2 = some f' → e.b = f'.b → i1 = i2 := by
            intro i1 i2 o1 o2 e f' m1 m2 m3 m4 m5 m6
            obtain ⟨e', s1, s2, _⟩ := hold i1 o1 m1 m2
            rw [m4] at s2
            cases s2
            rcases k2.old i2 o2 f' m3 m5 with ⟨p, n1, n2⟩ | ⟨_, _, n⟩
            · exact h1.inj i1 i2 o1 p e f' m1 (hview i2 p n1).1 s1 n2 m6
            · rcases n with n | ⟨i3, o3, f3, n1, n2, n3, n4⟩
              · have := h1.dom i1 e s1; omega
              · have := h1.inj i1 i3 o1 o3 e f3 m1 (hview i3 o3 n2).1 s1 n3 (by rw [m6, n4])
                subst this
                exact absurd (hseen i1 o3 n1 n2) m2
          intro i1 i2 o1 o2 e f' m1 m2 m3 m4 m5
          rcases hdec i1 with c1 | c1 <;> rcases hdec i2 with c2 | c2
          · exact k1.inj i1 i2 o1 o2 e f' (htieN i1 o1 c1 m1) (htieN i2 o2 c2 m2) m3 m4 m5
          · rw [hgN2 i2 c2] at m2
            exact (one i2 i1 o2 o1 f' e m2 c2 (htieN i1 o1 c1 m1) m4 m3 m5.symm).symm
          · rw [hgN2 i1 c1] at m1
            exact one i1 i2 o1 o2 e f' m1 c1 (htieN i2 o2 c2 m2) m3 m4 m5
          · rw [hgN2 i1 c1] at m1
            rw [hgN2 i2 c2] at m2
            obtain ⟨e1, s1, s2, _⟩ := hold i1 o1 m1 c1
            obtain ⟨e2, s3, s4, _⟩ := hold i2 o2 m2 c2
            rw [m3] at s2; rw [m4] at s4
            cases s2; cases s4
            exact h1.inj i1 i2 o1 o2 e f' m1 m2 s1 s3 m5
        · intro id e hq
          rcases k2.win id e hq with k | ⟨m1, m2⟩
          · rcases x2 id e k with k | ⟨j, hj, hx, n1, n2⟩
            · exact .inl k
            · exact .inr ⟨j, hj, (hX' j).2 (.inl hx), n1, n2⟩
          · rw [view_next] at m1
            exact .inr ⟨i, hilt, (hX' i).2 (.inr rfl), m1, by rw [← hn1]; exact m2⟩
        · intro b hb hn
          rw [k2.out b (Nat.lt_of_lt_of_le hb x4) ?_, x3 b hb hn]
          intro id p e hl hp hq
          have hl2 : h.lim ≤ id := by
            rcases view_lim (Hs i) f with ⟨e, _⟩ | e <;> rw [e] at hl
            · exact Nat.le_trans hT.lim (Nat.le_trans b4 hl)
            · rw [b1] at hl; exact hl
          rcases x8 id p e (hview id p hp).1 hq with ⟨p', m1, m2⟩ | ⟨_, _, m⟩
          · exact hn id p' e hl2 m1 m2
          · rcases m with m | ⟨i3, o3, f3, n1, n2, n3, n4⟩
            · omega
            · rw [← n4]; exact hn i3 o3 f3 n1 n2 n3
        · intro id p e hp hq
          rcases hdec id with hc | hc
          · have hp' := htieN id p hc hp
            rcases k2.old id p e hp' hq with ⟨p', n1, n2⟩ | ⟨n1, n2, n⟩
            · exact x8 id p' e (hview id p' n1).1 n2
            · rw [view_next] at n1
              refine .inr ⟨Nat.le_trans b4 n1, ?_, ?_⟩
              · rw [hn1] at n2
                exact Nat.lt_of_lt_of_le n2 (hmono (i + 1) l.length (by omega) (Nat.le_refl _))
              · rcases n with n | ⟨i3, o3, f3, m1, m2, m3, m4⟩
                · exact .inl (Nat.le_trans x4 n)
                · have hl2 : h.lim ≤ i3 := by
                    rcases view_lim (Hs i) f with ⟨e, _⟩ | e <;> rw [e] at m1
                    · exact Nat.le_trans hT.lim (Nat.le_trans b4 m1)
                    · rw [b1] at m1; exact m1
                  rcases x8 i3 o3 f3 (hview i3 o3 m2).1 m3 with ⟨p', r1, r2⟩ | ⟨_, _, r⟩
                  · exact .inr ⟨i3, p', f3, hl2, r1, r2, m4⟩
                  · rw [← m4]; exact r
          · rw [hgN2 id hc] at hp
            obtain ⟨e', s1, s2, _⟩ := hold id p hp hc
            rw [hq] at s2
            cases s2
            exact x8 id p e hp s1
        · -- where each block stands
          intro id
          rcases hdec id with hc | hc
          · refine ⟨i + 1, by omega, fun j f' hf' hj hw' => ?_, hgN1 id hc⟩
            rw [hX']
            by_cases hne : j = i
            · subst hne; exact ⟨fun _ => Nat.lt_succ_self _, fun _ => .inr rfl⟩
            · have key : (X listed j ↔ j < i) → (X listed j ∨ j = i ↔ j < i + 1) := by
                intro hk
                constructor
                · rintro (hx | e)
                  · have := hk.1 hx; omega
                  · exact absurd e hne
                · intro hlt; exact .inl (hk.2 (by omega))
              apply key
              rcases hc with ⟨c1, c2, c3⟩ | ⟨c1, c2⟩
              · rcases hw' with ⟨m1, m2, m3⟩ | ⟨m1, m2⟩
                · refine hsync j f' hf' hne ?_
                  cases hk : f.k <;> rw [hk] at c3 <;> simp only [FK.has] at c3
                  · cases hk' : f'.k <;> rw [hk'] at m3 <;> simp only [FK.has] at m3
                    · simp only [conf, Bool.or_eq_true]; exact .inl (common_of m3 c3)
                    · rfl
                  · cases hk' : f'.k <;> rw [hk'] at m3 <;> simp only [FK.has] at m3 <;> rfl
                · constructor
                  · intro hx
                    rcases Nat.lt_or_gt_of_ne hne with hlt' | hgt
                    · exact hlt'
                    · have := hmono i j (by omega) (by omega); omega
                  · intro hlt'
                    by_cases hA : j ∈ (ancs l).getD i []
                    · exact (hforce j hA hne).1
                    · rcases hgo.deny j hlt' hA id m1 m2 with k | k
                      · rw [k] at c2; cases c2
                      · rw [k] at c3; exact c3.elim
              · rcases hw' with ⟨m1, m2, m3⟩ | ⟨m1, m2⟩
                · rcases Nat.lt_or_gt_of_ne hne with hlt' | hgt
                  · have := hmono j i (by omega) (by omega); omega
                  · constructor
                    · intro hx
                      exfalso
                      obtain ⟨o'', f'', ho'', hf'', hgo''⟩ := hft j hj
                      rw [hf'] at hf''
                      cases hf''
                      by_cases hA : i ∈ (ancs l).getD j []
                      · exact hni (ancs_ok hA h6 hx)
                      · rcases hgo''.deny i hgt hA id c1 c2 with k | k
                        · rw [k] at m2; cases m2
                        · rw [k] at m3; exact m3.elim
                    · intro h; omega
                · exact absurd (hrange j i id hj hilt m1 m2 c1 c2) hne
          · obtain ⟨p, hp, hw', e⟩ := h8 id
            refine ⟨p, hp, fun j f' hf' hj hw2 => ?_, by rw [hgN2 id hc]; exact e⟩
            rw [← hw' j f' hf' hj hw2, hX']
            constructor
            · rintro (hx | rfl)
              · exact hx
              · rw [hf] at hf'
                cases hf'
                exact absurd ((hchW id).2 hw2) hc
            · intro hx; exact .inl hx
      · rw [if_neg (by rw [wanted_sound h2 (hwant.trans hw)]; simp)]
        rw [hv] at hagree
        refine ⟨fun f _ => FN_fn ro f, ?_⟩
        refine ih listed' _ _ hcount ⟨_, q', gX, h1, RL.put h2 o.dst (x := .tup []) (v := undef) ⟨[], rfl, rfl⟩, by rw [put_defers]; exact h3, hagree, hsz', hcl', ⟨x1, ?_, x3, x4, x5, x6, x7, x8⟩, ?_⟩
        · intro id e hq
          rcases x2 id e hq with k | ⟨j, hj, hx, n1, n2⟩
          · exact .inl k
          · exact .inr ⟨j, hj, (hX' j).2 (.inl hx), n1, n2⟩
        · intro id
          obtain ⟨p, hp, hw', e⟩ := h8 id
          refine ⟨p, hp, fun j f' hf' hj hw2 => ?_, e⟩
          rw [← hw' j f' hf' hj hw2, hX']
          constructor
          · rintro (hx | rfl)
            · exact hx
            · rw [hf] at hf'
              cases hf'
              rcases hw2 with ⟨_, _, m3⟩ | ⟨m1, m2⟩
              · rw [hfk] at m3; exact m3.elim
              · rw [hHs] at m2; omega
          · intro hx; exact .inl hx
  have hnone : ∀ j, ¬ X (Array.replicate ops.size false) j := by
    intro j hj
    simp only [X] at hj
    rw [Array.getElem?_replicate] at hj
    split at hj <;> simp at hj
  refine main ops.size _ a _ ?_ ⟨fr, q, h.get, (hT.drew (w.drawn + 1)).toHG, hs, rfl, ⟨rfl, fun _ _ => rfl, fun j o t _ hx => absurd hx (hnone j)⟩, by simp [hlen],
    fun i o _ hx => absurd hx (hnone i), ⟨Q.le.refl q, fun _ _ h => .inl h, fun _ _ _ => rfl, Nat.le_refl _, rfl, rfl, rfl, fun id p e hp hq => .inl ⟨p, hp, hq⟩⟩,
    fun id => ⟨0, Nat.zero_le _, fun j _ _ _ _ => ⟨fun hx => absurd hx (hnone j), fun h => absurd h (Nat.not_lt_zero j)⟩, by rw [s0]⟩⟩
  have : (List.range l.length).countP (fun j => (Array.replicate ops.size false).getD j true) = 0 := by
    rw [List.countP_eq_zero]
    intro j hj
    have hlt : j < ops.size := by rw [← hlen]; exact List.mem_range.1 hj
    simp [Array.getD_eq_getD_getElem?, hlt]
  rw [this, hlen]
  omega
end Go.N
