/- Regions in which at most one operation has to do with the heap: the order of the text, straight. -/
import Derived.Test.YtmdmacmkmdgeaaaGreatDoorN12
namespace Go.N
open Go Go.RowKit

theorem plain_step {P : Program} {Z : Nat → Bool} {o : Oper} (ho : plainOp o.op = true) {fr : List V} {h h' : Hp} {v : V} (he : stepOp P Z o fr h = some (v, h')) :
    h' = h ∧ ∀ h2, stepOp P Z o fr h2 = some (v, h2) := by
  have key : ∀ (x : Option V), ((x.map fun s => (s, h)) = some (v, h')) → h' = h ∧ ∀ h2 : Hp, (x.map fun s => (s, h2)) = some (v, h2) := by
    intro x hx
    obtain ⟨s, rfl, hh⟩ := Option.map_eq_some_iff.1 hx
    simp only [Prod.mk.injEq] at hh
    obtain ⟨rfl, rfl⟩ := hh
    exact ⟨rfl, fun _ => rfl⟩
  unfold stepOp at he ⊢
  unfold plainOp at ho
  split at ho
  case h_6 =>
    rename_i x hop
    simp only [hop] at he ⊢
    cases hx : opnd Z fr x with
    | none => rw [hx] at he; cases he
    | some a =>
      rw [hx] at he
      cases a <;> first
        | (simp only [Option.some.injEq, Prod.mk.injEq] at he; obtain ⟨rfl, rfl⟩ := he; exact ⟨rfl, fun _ => rfl⟩)
        | cases he
  case h_13 =>
    rename_i t x hop
    simp only [hop] at he ⊢
    cases hi : isIface P t with
    | none => rw [hi] at he; cases he
    | some b =>
      rw [hi] at he
      cases b with
      | true => cases he
      | false =>
        obtain ⟨s, hs, hh⟩ := Option.map_eq_some_iff.1 he
        simp only [Prod.mk.injEq] at hh
        obtain ⟨rfl, rfl⟩ := hh
        refine ⟨rfl, fun h2 => ?_⟩
        rw [hs]
        rfl
  all_goals first
    | (rename_i hop; simp only [hop] at he ⊢; exact key _ he)
    | (rename_i hop; simp only [hop] at he ⊢; split at he
       · first
         | exact key _ he
         | (simp only [Option.some.injEq, Prod.mk.injEq] at he; obtain ⟨rfl, rfl⟩ := he; exact ⟨rfl, fun _ => rfl⟩)
       · first
         | cases he
         | (simp only [Option.some.injEq, Prod.mk.injEq] at he; obtain ⟨rfl, rfl⟩ := he; exact ⟨rfl, fun _ => rfl⟩)
       all_goals first
         | (simp only [Option.some.injEq, Prod.mk.injEq] at he; obtain ⟨rfl, rfl⟩ := he; exact ⟨rfl, fun _ => rfl⟩)
         | cases he)
    | cases ho
theorem plain_one {P : Program} {Z : Nat → Bool} {E : Env} {o : Oper} (ho : plainOp o.op = true) {fr : List V} {h h' : Hp} {r : Out} (he : oneOp P Z E o fr h = some (r, h')) :
    h' = h ∧ ∀ h2, oneOp P Z E o fr h2 = some (r, h2) := by
  unfold oneOp at he ⊢
  split at he
  · rename_i hop; rw [hop] at ho; cases ho
  · rename_i hop; rw [hop] at ho; cases ho
  · obtain ⟨⟨v, h1⟩, hs, hh⟩ := Option.map_eq_some_iff.1 he
    simp only [Prod.mk.injEq] at hh
    obtain ⟨rfl, rfl⟩ := hh
    obtain ⟨k1, k2⟩ := plain_step ho hs
    refine ⟨k1, fun h2 => ?_⟩
    rw [k2 h2]; rfl

theorem plain_foot {Z : Nat → Bool} {o : Oper} (ho : plainOp o.op = true) (fr : List V) (L : List Oper) (A : List (List Nat)) (i : Nat) : kindE Z o fr L A i = .no := by
  unfold kindE
  rw [ho]
  simp only [Bool.not_true, Bool.and_false, cond_false]
  unfold footE
  unfold plainOp at ho
  split at ho <;> first | (rename_i hop; rw [hop]) | cases ho

/-- At most one operation is not plain. -/
def One (L : List Oper) : Prop := ∀ (i j : Nat) (o o' : Oper), L[i]? = some o → L[j]? = some o' → plainOp o.op = false → plainOp o'.op = false → i = j
theorem one_of_count : ∀ {L : List Oper}, L.countP (fun o => !plainOp o.op) ≤ 1 → One L
  | [], _ => fun i j o o' h => by simp at h
  | x :: L, hc => by
    intro i j o o' hi hj ho ho'
    rw [List.countP_cons] at hc
    have none_in : plainOp x.op = false → ∀ (k : Nat) (o : Oper), L[k]? = some o → plainOp o.op = false → False := by
      intro hx k o hk hp
      rw [hx] at hc
      simp only [Bool.not_false, if_true] at hc
      have h0 : L.countP (fun o => !plainOp o.op) = 0 := by omega
      rw [List.countP_eq_zero] at h0
      have := h0 o (List.mem_of_getElem? hk)
      simp [hp] at this
    cases i with
    | zero =>
      cases j with
      | zero => rfl
      | succ j =>
        simp only [List.getElem?_cons_zero, Option.some.injEq] at hi
        subst hi
        exact (none_in ho j o' (by simpa using hj) ho').elim
    | succ i =>
      cases j with
      | zero =>
        simp only [List.getElem?_cons_zero, Option.some.injEq] at hj
        subst hj
        exact (none_in ho' i o (by simpa using hi) ho).elim
      | succ j =>
        have := one_of_count (L := L) (by omega) i j o o' (by simpa using hi) (by simpa using hj) ho ho'
        omega
theorem lone_of {L : List Oper} (h1 : One L) {i : Nat} {o : Oper} (hi : L[i]? = some o) (ho : plainOp o.op = false) : lone L i = true := by
  unfold lone
  rw [List.all_eq_true]
  rintro ⟨o', j⟩ hj
  rw [List.mem_zipIdx_iff_getElem?] at hj
  simp only at hj ⊢
  cases hp : plainOp o'.op with
  | true => simp
  | false =>
    have := h1 i j o o' hi hj ho hp
    subst this
    simp
theorem denies_same (A : List Nat) : ∀ (rs : List (Nat × Nat)) (j : Nat), (∀ p ∈ rs, p.1 = p.2) → denies A j rs = []
  | [], _, _ => rfl
  | (a, b) :: rs, j, h => by
    have hab : a = b := h (a, b) (by simp)
    subst hab
    simp only [denies, Nat.beq_refl, Bool.or_true, cond_true]
    exact denies_same A rs (j + 1) fun p hp => h p (by simp [hp])

theorem calm_run {P : Program} {Z : Nat → Bool} {E : Env} (hE : EnvOk P Z E) {ops : Array Oper} {A : List (List Nat)} (h1 : One ops.toList) : ∀ (l : List Oper) (k : Nat) (fr : List V) (h : Hp) (rs : List (Nat × Nat)) (fr' : List V) (h' : Hp),
    (∀ (i : Nat), l[i]? = ops.toList[k + i]?) → rs.length = k → (∀ (j : Nat) (p : Nat × Nat), rs[j]? = some p → (∀ (o : Oper), ops.toList[j]? = some o → plainOp o.op = true) → p.1 = p.2) →
    execOps P Z E ops l fr h = some (.normal, fr', h') → ∃ ft, runD P Z E ops A k l fr h rs = some ((fr', h'), ft) ∧
      ∀ (i : Nat) (f : Foot) (o : Oper), ft[i]? = some f → l[i]? = some o → (plainOp o.op = true → f.k = .no) ∧ (f.k = .no ∨ f.k = .wrAll)
  | [], k, fr, h, rs, fr', h', _, _, _, he => by
    simp only [execOps, Option.some.injEq, Prod.mk.injEq, true_and] at he
    obtain ⟨rfl, rfl⟩ := he
    exact ⟨[], rfl, fun i f o h => by simp at h⟩
  | o :: l, k, fr, h, rs, fr', h', hl, hrs, hr, he => by
    have ho : ops.toList[k]? = some o := by have := hl 0; simpa using this.symm
    have hl' : ∀ (i : Nat), l[i]? = ops.toList[k + 1 + i]? := fun i => by have := hl (i + 1); rw [show k + 1 + i = k + (i + 1) from by omega, ← this]; rfl
    have grow : ∀ (p : Nat × Nat), ((∀ (o : Oper), ops.toList[k]? = some o → plainOp o.op = true) → p.1 = p.2) → ∀ (j : Nat) (p' : Nat × Nat), (rs ++ [p])[j]? = some p' → (∀ (o : Oper), ops.toList[j]? = some o → plainOp o.op = true) → p'.1 = p'.2 := by
      intro p hp j p' hj hpl
      rcases Nat.lt_or_ge j rs.length with hlt | hge
      · rw [List.getElem?_append_left hlt] at hj
        exact hr j p' hj hpl
      · rw [List.getElem?_append_right hge] at hj
        have : j - rs.length = 0 := by
          rcases Nat.lt_or_ge (j - rs.length) 1 with h | h
          · omega
          · rw [List.getElem?_eq_none (by simpa using h)] at hj; cases hj
        rw [this] at hj
        simp only [List.getElem?_cons_zero, Option.some.injEq] at hj
        subst hj
        have : j = k := by omega
        subst this
        exact hp hpl
    simp only [execOps] at he
    simp only [runD]
    split at he
    · rename_i hw
      rw [hw]
      simp only
      split at he
      · rename_i x h2 hst
        cases hp : plainOp o.op with
        | true =>
          obtain ⟨rfl, hall⟩ := plain_one hp hst
          have hk := plain_foot (Z := Z) hp fr ops.toList A k
          rw [hk, hall]
          simp only
          have hb : back h2 (view h2 ⟨.no, denies (A.getD k []) 0 rs, fr, h2, .any⟩) = h2 := rfl
          rw [hb]
          obtain ⟨ft, m1, m2⟩ := calm_run hE h1 l (k + 1) _ _ (rs ++ [(h2.next, (view h2 ⟨.no, denies (A.getD k []) 0 rs, fr, h2, .any⟩).next)]) fr' h' hl' (by simp [hrs]) (grow _ fun _ => (view_next _ _).symm) he
          rw [m1]
          refine ⟨_, rfl, fun i f o' hf ho' => ?_⟩
          cases i with
          | zero =>
            simp only [List.getElem?_cons_zero, Option.some.injEq] at hf
            subst hf
            exact ⟨fun _ => rfl, .inl rfl⟩
          | succ i => exact m2 i f o' (by simpa using hf) (by simpa using ho')
        | false =>
          have hk : kindE Z o fr ops.toList A k = .wrAll := by
            unfold kindE
            rw [lone_of h1 ho hp, hp]
            rfl
          have hd : denies (A.getD k []) 0 rs = [] := by
            refine denies_same _ _ _ fun p hpm => ?_
            obtain ⟨j, hj, rfl⟩ := List.getElem_of_mem hpm
            refine hr j _ (List.getElem?_eq_getElem hj) fun o' ho' => ?_
            cases hp' : plainOp o'.op with
            | true => rfl
            | false =>
              have := h1 j k o' o ho' ho hp' hp
              omega
          rw [hk, hd]
          have hv : view h ⟨.wrAll, [], fr, h, .any⟩ = h := rfl
          rw [hv, hst]
          simp only
          have sf := oneOp_sf hE hst
          have hb : back h h2 = h2 := by
            show Hp.mk h2.next h.lim h.hid h2.tr = h2
            rw [← sf.lim, ← sf.hid]
          rw [hb]
          obtain ⟨ft, m1, m2⟩ := calm_run hE h1 l (k + 1) _ _ (rs ++ [(h.next, h2.next)]) fr' h' hl' (by simp [hrs]) (grow _ fun hc => by rw [hc o ho] at hp; cases hp) he
          rw [m1]
          refine ⟨_, rfl, fun i f o' hf ho' => ?_⟩
          cases i with
          | zero =>
            simp only [List.getElem?_cons_zero, Option.some.injEq] at hf ho'
            subst hf ho'
            exact ⟨(fun hc => by rw [hp] at hc; cases hc), .inr rfl⟩
          | succ i => exact m2 i f o' (by simpa using hf) (by simpa using ho')
      · simp only [Option.some.injEq, Prod.mk.injEq] at he
        obtain ⟨he, _⟩ := he
        cases he
      · cases he
    · rename_i hw
      rw [hw]
      simp only
      obtain ⟨ft, m1, m2⟩ := calm_run hE h1 l (k + 1) _ _ (rs ++ [(h.next, h.next)]) fr' h' hl' (by simp [hrs]) (grow _ fun _ => rfl) he
      rw [m1]
      refine ⟨_, rfl, fun i f o' hf ho' => ?_⟩
      cases i with
      | zero =>
        simp only [List.getElem?_cons_zero, Option.some.injEq] at hf
        subst hf
        exact ⟨fun _ => rfl, .inl rfl⟩
      | succ i => exact m2 i f o' (by simpa using hf) (by simpa using ho')
    · cases he

theorem stOk_free {P : Program} {Z : Nat → Bool} {E : Env} {A : List (List Nat)} {ft0 : List Foot} {hs : List Hp} : ∀ (l : List Oper) (ft : List Foot) (i : Nat), (∀ f ∈ ft, ∀ ids, f.k ≠ .st ids) → stOk P Z E A ft0 hs i l ft = true
  | [], _, _, _ => by simp [stOk]
  | _ :: _, [], _, _ => by simp [stOk]
  | o :: l, f :: ft, i, h => by
    have hf := h f (by simp)
    have ih := stOk_free (P := P) (Z := Z) (E := E) (A := A) (ft0 := ft0) (hs := hs) l ft (i + 1) fun g hg => h g (by simp [hg])
    unfold stOk
    rw [ih]
    cases hk : f.k with
    | st ids => exact absurd hk (hf ids)
    | _ => rfl

/-- A region in which at most one operation has to do with the heap. -/
def calm (ops : Array Oper) : Bool := drawOk ops && Nat.ble (ops.toList.countP fun o => !plainOp o.op) 1
theorem calm_eval {P : Program} {Z : Nat → Bool} {E : Env} (hE : EnvOk P Z E) {rd : Option Nat} {n id : Nat} {ops : Array Oper} (hc : calm ops = true) {fr fr' : List V} {h h' : Hp}
    (he : execOps P Z E ops ops.toList fr h = some (.normal, fr', h')) : evalC P Z E rd n (.region id ops true) fr h = some (.normal, fr', h') := by
  simp only [calm, Bool.and_eq_true] at hc
  have h1 := one_of_count (Nat.le_of_ble_eq_true hc.2)
  obtain ⟨ft, m1, m2⟩ := calm_run hE h1 (A := ancs ops.toList) ops.toList 0 fr h [] fr' h' (fun i => by rw [Nat.zero_add]) rfl (fun j p hj => by simp at hj) he
  have hlen := runD_len _ _ _ _ _ _ _ m1
  have hat : ∀ (i : Nat) (f : Foot), ft[i]? = some f → ∃ (o : Oper), ops.toList[i]? = some o := fun i f hf => by
    have hi : i < ft.length := (List.getElem?_eq_some_iff.1 hf).1
    exact ⟨_, List.getElem?_eq_getElem (by omega)⟩
  simp only [evalC, hc.1, cond_true, m1]
  have hcf : confOk (ancs ops.toList) ft = true := by
    unfold confOk
    rw [List.all_eq_true]
    rintro ⟨f, i⟩ hf
    rw [List.mem_zipIdx_iff_getElem?] at hf
    rw [List.all_eq_true]
    rintro ⟨g, j⟩ hg
    rw [List.mem_zipIdx_iff_getElem?] at hg
    simp only at hf hg ⊢
    by_cases hij : i ≤ j
    · rw [Nat.ble_eq_true_of_le hij]; simp
    · obtain ⟨o, ho⟩ := hat i f hf
      obtain ⟨o', ho'⟩ := hat j g hg
      obtain ⟨a1, a2⟩ := m2 i f o hf ho
      obtain ⟨b1, b2⟩ := m2 j g o' hg ho'
      have hc0 : conf g.k f.k = false := by
        cases hp : plainOp o.op with
        | true => rw [a1 hp]; cases g.k <;> rfl
        | false =>
          cases hp' : plainOp o'.op with
          | true => rw [b1 hp']; rfl
          | false => have := h1 i j o o' ho ho' hp hp'; omega
      simp [hc0]
  have hst : stOk P Z E (ancs ops.toList) ft (ft.map (·.h) ++ [h']) 0 ops.toList ft = true := by
    refine stOk_free _ _ _ fun f hf ids hk => ?_
    obtain ⟨i, hi, rfl⟩ := List.getElem_of_mem hf
    obtain ⟨o, ho⟩ := hat i _ (List.getElem?_eq_getElem hi)
    rcases (m2 i _ o (List.getElem?_eq_getElem hi) ho).2 with h | h <;> (rw [h] at hk; cases hk)
  simp only [hcf, hst, Bool.and_self, cond_true]
end Go.N
