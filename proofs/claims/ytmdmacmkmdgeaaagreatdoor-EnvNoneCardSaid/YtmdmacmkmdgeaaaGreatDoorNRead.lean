/- From a law's run to its contract: the law returns true, and all that is older than the call is as it was. -/
import Derived.Test.YtmdmacmkmdgeaaaGreatDoorN17
import Derived.ChangeSame
import Derived.Carry
namespace Go.N
open Go Go.RowKit Go.WideShapes Go.ChangeShapes

def isTrue (r : Option (Out × Hp)) : Bool := match r with
  | some (.ret (.sc (.bool true)), _) => true
  | _ => false
theorem isTrue_eq {r : Option (Out × Hp)} (h : isTrue r = true) : ∃ h', r = some (.ret (.sc (.bool true)), h') := by
  unfold isTrue at h
  split at h
  · exact ⟨_, rfl⟩
  · cases h
theorem calls_of_run {P : Program} {Z : Nat → Bool} {E : Env} (hE : EnvOk P Z E) {f : FuncId} (hb : hasBody P f = true) {args : List V} {G : Nat} (hr : isTrue (E.S f args (h0 G)) = true) {W : World} {vs : List Value} (hZ : ∀ k, Z k = false) (hvs : RL (fun _ => none) args vs) :
    Calls P f ⟨vs⟩ W fun e W' => e = .returned (.bool true) ∧ Below W.heap.size W W' := by
  obtain ⟨h', he⟩ := isTrue_eq hr
  have hget : ∀ id, (h0 G).get id = none := fun id => rfl
  have hT : HT W.heap.size (fun _ => none) (h0 G) W :=
    ⟨⟨fun id o ho => (by rw [hget] at ho; cases ho), fun i j o p e f ho => (by rw [hget] at ho; cases ho), fun id e he => (by cases he), Nat.le_refl _⟩, fun a ha => (by cases ha), Nat.le_refl _, fun id _ => rfl⟩
  refine (hE.S _ _ _ _ _ he hb W.heap.size (fun _ => none) W vs hT (fun _ _ _ => rfl) (fun k hk => (by rw [hZ] at hk; cases hk)) hvs).mono ?_
  rintro e W' ⟨q', h1, h2, h3⟩
  refine ⟨?_, h2.os, h2.tape, h2.output, h2.size, fun b hb => h2.out b hb fun id o e _ ho => (by rw [hget] at ho; cases ho)⟩
  cases e with
  | returned v => obtain ⟨rfl, _⟩ := h3; rfl
  | panicked ch => exact h3.elim
  | outgrown => exact h3.elim

section
variable {H : Type} {enc : TypeId × Value → H} {P : Program} {w : World} {base : Nat} {spare : Nat → Bool} {held : Bool}
theorem stay_args (hl : laidOutB P = true) {w' : World} (hb : Below w.heap.size w w') {sp : Nat → Bool} : ∀ (ts : List TypeId) (vs : List Value) (ds : List (DataW H)) (p : List MemPlace), (∀ t ∈ ts, P.readableRec t = true ∧ t < P.types.size) →
    DataW.TrodAll enc P w 0 (fun _ => true) true ts vs ds p → (∀ x ∈ p, x.block < w.heap.size) → (∀ x ∈ p, sp x.block = true) → DataW.TrodAll enc P w' 0 sp true ts vs ds p
  | [], vs, ds, p, _, h, _, _ => by
    obtain ⟨rfl, rfl, rfl⟩ := trodAll_nil h
    exact rfl
  | t :: ts, vs, ds, p, hin, h, hlt, hsp => by
    obtain ⟨v, vs', d, ds', p1, q1, rfl, rfl, rfl, h1, h2⟩ := trodAll_cons h
    refine ⟨p1, q1, WideElems.Trod_stays hl (hin t (by simp)).1 (hin t (by simp)).2 h1 (fun x hx => hb.same (hlt x (by simp [hx]))) (fun x hx => hsp x (by simp [hx])), ?_, rfl⟩
    exact stay_args hl hb ts vs' ds' q1 (fun u hu => hin u (by simp [hu])) h2 (fun x hx => hlt x (by simp [hx])) (fun x hx => hsp x (by simp [hx]))

theorem post_same {f : Func} {s : ChangeSpec} {apart fresh handsOn again : Bool} {W W' : World} {args : Array Value} {v : Value} {ds gs : List (DataW H)} {before pa pv : List MemPlace}
    (hW : DataW.Whole enc P f.params.toList s.vars apart W args.toList ds gs before)
    (hres : ∀ (b : Nat) (sp : Nat → Bool) (hd : Bool), DataW.TrodAll enc P W' b sp hd f.resultTypes.toList (v.resultList f.resultTypes.size) (s.fn H (ds ++ gs)).results [])
    (hargs : ∀ sp : Nat → Bool, (∀ p ∈ before, sp p.block = true) → DataW.TrodAll enc P W' 0 sp true f.params.toList args.toList (s.fn H (ds ++ gs)).args pa)
    (hvars : ∀ sp : Nat → Bool, (∀ p ∈ before, sp p.block = true) → DataW.TrodVars enc P W' sp s.vars (s.fn H (ds ++ gs)).vars pv)
    (hps : before = pa ++ pv) (hk : W.keptBut W' (· ∈ before)) (hfz : ∀ b off, MemPlace.cell b off ∈ before → W'.frozen? ⟨b, off, none⟩ = W.frozen? ⟨b, off, none⟩)
    (hok : ∀ (j : Nat) (t : TypeId) (r : Value), f.resultTypes[j]? = some t → (v.resultList f.resultTypes.size)[j]? = some r → Value.okWide P W' .any 0 t r) :
    s.post enc P f apart fresh handsOn again W args v W' := by
  have hold : ∀ p ∈ before, (fun b => decide (b < W.heap.size)) p.block = true := fun p hp => by simpa using hW.lt p hp
  refine ⟨ds, gs, before, [], pa, pv, hW, hres _ _ _, hargs _ hold, hvars _ hold, World.keptBut_mono (fun p hp => ⟨hp, ?_⟩) hk, fun _ => ?_⟩
  · rw [hps, List.mem_append] at hp
    exact Or.inr hp
  · obtain ⟨_, _, _, _, _, hz, hn⟩ := hW
    refine ⟨hok, _, _, ([] ++ pa) ++ pv, ⟨[] ++ pa, pv, trodAll_append (hargs _ (fun _ _ => rfl)) (hres _ _ _), hvars _ (fun _ _ => rfl), rfl, ?_, ?_⟩, ?_⟩
    · intro b off hp
      have hp' : MemPlace.cell b off ∈ before := by rw [hps]; simpa using hp
      rw [hfz _ _ hp']
      exact hz b off hp'
    · intro ha
      have := hn ha
      rw [hps] at this
      simpa using this
    · intro p hp _
      rw [hps]
      simpa using hp

theorem contract_of_calls {f : FuncId} {fn : Func} {s : ChangeSpec} (hl : laidOutB P = true) (hin : (fn.params.toList.all fun t => P.readableRec t && decide (t < P.types.size)) = true)
    {tb0 : TypeId} (hres : fn.resultTypes = #[tb0]) (htb : P.underlying tb0 = some .bool) (hvars : s.vars = [])
    {W : World} {args : Array Value} {ds gs : List (DataW H)} {before : List MemPlace}
    (hspec : s.fn H ds = { results := [.lit (.bool true)], args := ds })
    (hW : DataW.Whole enc P fn.params.toList s.vars false W args.toList ds gs before)
    (hrun : Calls P f args W fun e W' => e = .returned (.bool true) ∧ Below W.heap.size W W') :
    Calls P f args W fun e W' => ∃ v, e = .returned v ∧ s.post enc P fn false true false false W args v W' := by
  have hW0 := hW
  have hlt0 := hW.lt
  obtain ⟨p, q, hA, hV, rfl, hfz, hnd⟩ := hW
  rw [hvars] at hV
  obtain ⟨rfl, rfl⟩ := trodVars_none hV
  have hin' : ∀ t ∈ fn.params.toList, P.readableRec t = true ∧ t < P.types.size := by
    intro t ht
    have := List.all_eq_true.1 hin t ht
    simp only [Bool.and_eq_true, decide_eq_true_eq] at this
    exact this
  refine hrun.mono ?_
  rintro e W' ⟨rfl, hb⟩
  refine ⟨_, rfl, ?_⟩
  have hlt : ∀ x ∈ p, x.block < W.heap.size := fun x hx => hlt0 x (by simp [hx])
  refine post_same (pa := p) (pv := []) hW0 ?_ ?_ ?_ rfl (hb.frame _) (fun b off ha => ?_) (ok_one hres rfl (okWide_bool_mk htb _))
  · intro b sp hd
    rw [List.append_nil, hspec, hres]
    exact ⟨[], [], shut_bool htb _, rfl, rfl⟩
  · intro sp hsp
    rw [List.append_nil, hspec]
    exact stay_args hl hb _ _ _ _ hin' hA hlt (fun x hx => hsp x (by simp [hx]))
  · intro sp hsp
    rw [List.append_nil, hspec, hvars]
    rfl
  · exact hb.frozen (hlt0 _ ha)
end
end Go.N
