/- The faster evaluator does what the other does: operations. -/
import Derived.Test.YtmdmacmkmdgeaaaGreatDoorNK4
namespace Go.N
open Go Go.RowKit

def KRel (n D : Nat) : KR → Option St → Prop
  | .no, _ => True
  | .nrm t h, s => s = some (.normal, toL n D t, h)
  | .ex id t h, s => s = some (.exit id, toL n D t, h)
  | .rt t h, s => s = some (.ret, toL n D t, h)
  | .pn x t h, s => s = some (.pan x, toL n D t, h)

section
variable {n D : Nat} {s : Option St}
theorem kOpt_rel {β : Type} {x : Option β} {z : KR} {f : β → KR} (h1 : KRel n D z s) (h2 : ∀ v, x = some v → KRel n D (f v) s) : KRel n D (kOpt x z f) s := by
  cases x with
  | none => exact h1
  | some v => exact h2 v rfl
theorem kPtr_rel {x : V} {z : KR} {f : Nat → Nat → KR} (h1 : KRel n D z s) (h2 : ∀ id off, x = .ptr id off → KRel n D (f id off) s) : KRel n D (kPtr x z f) s := by
  cases x with
  | ptr id off => exact h2 id off rfl
  | _ => exact h1
theorem cellsR_rel {x : Option Ob} {z : KR} {f : List V → KR} (h1 : KRel n D z s) (h2 : ∀ cs, (∃ T, x = some (.cells T cs) ∨ x = some (.ro T cs)) → KRel n D (f cs) s) : KRel n D (cellsR x z f) s := by
  unfold cellsR
  split
  · exact h2 _ ⟨_, .inl rfl⟩
  · exact h2 _ ⟨_, .inr rfl⟩
  · exact h1
theorem cellsK_rel {x : Option Ob} {z : KR} {f : TypeId → List V → KR} (h1 : KRel n D z s) (h2 : ∀ T cs, x = some (.cells T cs) → KRel n D (f T cs) s) : KRel n D (cellsK x z f) s := by
  unfold cellsK
  split
  · exact h2 _ _ rfl
  · exact h1
theorem kBool_rel {b : Bool} {x y : KR} (h1 : b = false → KRel n D x s) (h2 : b = true → KRel n D y s) : KRel n D (Bool.rec (motive := fun _ => KR) x y b) s := by
  cases b with
  | false => exact h1 rfl
  | true => exact h2 rfl
theorem kAgg_rel {cs : List V} {off sz : Nat} {z : KR} {f : V → KR} (h1 : KRel n D z s) (h2 : ((cs.drop off).take sz).length = sz → KRel n D (f (.agg ((cs.drop off).take sz))) s) : KRel n D (kAgg cs off sz z f) s := by
  unfold kAgg
  rw [takeA_eq, dropA_eq, lenA_eq]
  exact kBool_rel (fun _ => h1) fun hb => h2 (Nat.eq_of_beq_eq_true hb)
end

theorem kInt_some {v : V} {i : Int} (h : kInt v = some i) : ∃ k, v = .sc (.int k i) := by
  unfold kInt at h
  split at h
  · cases h; exact ⟨_, rfl⟩
  · cases h
theorem kNat_some {v : V} {j : Nat} (h : kNat v = some j) : ∃ k, v = .sc (.int k (.ofNat j)) := by
  unfold kNat at h
  split at h
  · cases h; exact ⟨_, rfl⟩
  · cases h
theorem kStr_some {v : V} {l : List UInt8} (h : kStr v = some l) : ∃ s : ByteArray, v = .sc (.string s) ∧ l = s.data.toList := by
  unfold kStr at h
  split at h
  · cases h; exact ⟨_, rfl, rfl⟩
  · cases h
theorem kPick_some {v : V} {b : Bool} (h : kPick v = some b) : v = .sc (.bool b) := by
  unfold kPick at h
  split at h
  · cases h; rfl
  · cases h
theorem kAggO_some {v : V} {cs : List V} (h : kAggO v = some cs) : v = .agg cs := by
  unfold kAggO at h
  split at h
  · cases h; rfl
  · cases h
theorem kTup_some {v : V} {cs : List V} (h : kTup v = some cs) : v = .tup cs := by
  unfold kTup at h
  split at h
  · cases h; rfl
  · cases h
theorem cells_get {h : Hp} {id : Nat} {cs : List V} (hg : ∃ T, hGet h id = some (.cells T cs) ∨ hGet h id = some (.ro T cs)) : cellsOf h id = some cs := by
  obtain ⟨T, hg⟩ := hg
  unfold cellsOf
  rw [hGet_eq] at hg
  rcases hg with hg | hg <;> rw [hg]
theorem bound_ok {P : Program} (k : IntKind) (m c : Nat) (code : BoundsCode) (hm : m ≤ c) : eval0 P (Instr.sliceBound (.int k (Int.ofNat m)) c code) = some m := by
  have h0 : (0 : Int) ≤ Int.ofNat m ∧ Int.ofNat m ≤ (c : Int) := ⟨Int.natCast_nonneg _, Int.ofNat_le.2 hm⟩
  unfold Instr.sliceBound asIntOf
  rw [eval0_bind, eval0_pure, Option.bind_some]
  simp only
  rw [if_pos h0]
  rfl
theorem slice_str {P : Program} {T : TypeId} (h1 : P.underlying T = some .string) {s : ByteArray} {i j : Nat} {vlo vhi : Option Value} (hb : eval0 P (Instr.sliceBounds false s.size s.size vlo vhi none) = some (i, j, s.size)) : eval0 P (Instr.sliceAt T (.string s) vlo vhi none) = some (.string (s.extract i j)) := by
  unfold Instr.sliceAt
  rw [eval0_bind, eval0_underlying h1, Option.bind_some]
  show eval0 P (Instr.slice T (.string s) vlo vhi none) = _
  unfold Instr.slice
  rw [eval0_bind, eval0_underlying h1, Option.bind_some]
  show eval0 P (Instr.sliceBounds false s.size s.size vlo vhi none >>= fun x => (pure (Value.string (s.extract x.1 x.2.1)) : Sem Value)) = _
  rw [eval0_bind, hb]
  rfl
theorem sliceE_str {P : Program} {h : Hp} {T : TypeId} (h1 : P.underlying T = some .string) {s : ByteArray} {lo hi : Option V} {i j : Nat} (hr : kSlc s.data.toList lo hi = some (i, j)) (b1 : i ≤ j) (b2 : j ≤ s.size) : sliceE P h T (.sc (.string s)) lo hi none = some (.sc (.string (s.extract i j))) := by
  have hsz : lenA s.data.toList = s.size := (lenA_eq _).trans rfl
  unfold kSlc at hr
  split at hr
  · split at hr
    · cases hr
    · rename_i vl
      split at hr
      · rename_i i' hi'
        obtain ⟨k, rfl⟩ := kNat_some hi'
        simp only [Option.some.injEq, Prod.mk.injEq] at hr
        obtain ⟨rfl, rfl⟩ := hr
        rw [hsz] at b1 ⊢
        simp only [sliceE, Option.map_some, Option.map_none, valOf]
        rw [slice_str h1 (i := i') (j := s.size) ?_]
        · rfl
        · unfold Instr.sliceBounds
          simp only [eval0_bind, eval0_pure, Option.bind_some, bound_ok _ _ _ _ b1]
      · cases hr
  · rename_i vu
    split at hr
    · rename_i j' hj'
      obtain ⟨k, rfl⟩ := kNat_some hj'
      split at hr
      · simp only [Option.some.injEq, Prod.mk.injEq] at hr
        obtain ⟨rfl, rfl⟩ := hr
        simp only [sliceE, Option.map_some, Option.map_none, valOf]
        rw [slice_str h1 (i := 0) (j := j') ?_]
        · rfl
        · unfold Instr.sliceBounds
          simp only [eval0_bind, eval0_pure, Option.bind_some, bound_ok _ _ _ _ b2]
      · rename_i vl
        split at hr
        · rename_i i' hi'
          obtain ⟨k', rfl⟩ := kNat_some hi'
          simp only [Option.some.injEq, Prod.mk.injEq] at hr
          obtain ⟨rfl, rfl⟩ := hr
          simp only [sliceE, Option.map_some, valOf]
          rw [slice_str h1 (i := i') (j := j') ?_]
          · rfl
          · unfold Instr.sliceBounds
            simp only [eval0_bind, eval0_pure, Option.bind_some, bound_ok _ _ _ _ b2, bound_ok _ _ _ _ b1]
        · cases hr
    · cases hr
theorem step_one {P : Program} {Z : Nat → Bool} {E : Env} {o : Oper} {fr : List V} {h h' : Hp} {v : V} (he : stepOp P Z o fr h = some (v, h')) : oneOp P Z E o fr h = some (.ret v, h') := by
  unfold oneOp
  split
  · rename_i hop; simp [stepOp, hop] at he
  · rename_i hop; simp [stepOp, hop] at he
  · rw [he]; rfl

/-- Where an operation's value goes. -/
def DOk (n D : Nat) : Option Tmp → Option (List D4) → Prop
  | none, none => True
  | some k, some p => k < n ∧ p = path D k
  | _, _ => False
theorem putD_eq {n D : Nat} (hD : n ≤ 4 ^ D) {dst : Option Tmp} {d : Option (List D4)} (hd : DOk n D dst d) (x : V) (t : T4) : toL n D (putD d x t) = putF (toL n D t) dst x := by
  cases dst with
  | none =>
    cases d with
    | none => rfl
    | some p => exact hd.elim
  | some k =>
    cases d with
    | none => exact hd.elim
    | some p =>
      obtain ⟨h1, rfl⟩ := hd
      exact toL_put hD h1 x t

section
variable {P : Program} {Z : Nat → Bool} {E : Env} {n D : Nat} {o : Oper} {d : Option (List D4)} {t : T4} {h : Hp} {ih : T4 → Hp → KR} {rest : List V → Hp → Option St}
def cont (P : Program) (Z : Nat → Bool) (E : Env) (o : Oper) (fr : List V) (h : Hp) (rest : List V → Hp → Option St) : Option St := match oneOp P Z E o fr h with
  | some (.ret x, h') => rest (putF fr o.dst x) h'
  | some (.pan x, h') => some (.pan x, fr, h')
  | none => none
theorem fin_rel (hD : n ≤ 4 ^ D) (hd : DOk n D o.dst d) (hih : ∀ t' h', KRel n D (ih t' h') (rest (toL n D t') h')) {v : V} {h' : Hp} (he : stepOp P Z o (toL n D t) h = some (v, h')) : KRel n D (ih (putD d v t) h') (cont P Z E o (toL n D t) h rest) := by
  unfold cont
  rw [step_one he]
  simp only
  rw [← putD_eq hD hd]
  exact hih _ _
theorem out_rel (hD : n ≤ 4 ^ D) (hd : DOk n D o.dst d) (hih : ∀ t' h', KRel n D (ih t' h') (rest (toL n D t') h')) {r : Option (Out × Hp)} (he : ∀ x, r = some x → oneOp P Z E o (toL n D t) h = some x) : KRel n D (outK d t ih r) (cont P Z E o (toL n D t) h rest) := by
  cases r with
  | none => trivial
  | some x =>
    obtain ⟨out, h'⟩ := x
    unfold cont
    rw [he _ rfl]
    cases out with
    | ret v =>
      show KRel n D (ih (putD d v t) h') _
      simp only
      rw [← putD_eq hD hd]
      exact hih _ _
    | pan v => rfl
theorem slow_rel (hD : n ≤ 4 ^ D) (hd : DOk n D o.dst d) (hih : ∀ t' h', KRel n D (ih t' h') (rest (toL n D t') h')) : KRel n D (slowK P Z E n D d o t h ih) (cont P Z E o (toL n D t) h rest) := out_rel hD hd hih fun _ h => h
theorem val_rel (hD : n ≤ 4 ^ D) (hd : DOk n D o.dst d) (hih : ∀ t' h', KRel n D (ih t' h') (rest (toL n D t') h')) {r : Option (V × Hp)} (he : ∀ x, r = some x → stepOp P Z o (toL n D t) h = some x) : KRel n D (valK d t ih r) (cont P Z E o (toL n D t) h rest) := by
  cases r with
  | none => trivial
  | some x =>
    obtain ⟨v, h'⟩ := x
    exact fin_rel hD hd hih (he _ rfl)

variable (hD : n ≤ 4 ^ D) (hd : DOk n D o.dst d) (hih : ∀ t' h', KRel n D (ih t' h') (rest (toL n D t') h'))
include hD hd hih
theorem do_slow : KRel n D (doK P Z E n D d .slow o t h ih) (cont P Z E o (toL n D t) h rest) := slow_rel hD hd hih
theorem do_bin {op : BinOp} {tt yt : TypeId} {x y : Operand} {a b : KA} (hop : o.op = .binOp op tt x y yt) (hx : karg Z n D x = some a) (hy : karg Z n D y = some b) :
    KRel n D (doK P Z E n D d (.bin op (typeKind P tt) (bin2 P op tt x y) a b) o t h ih) (cont P Z E o (toL n D t) h rest) := by
  have st : ∀ v, bin2 P op tt x y (arg a t) (arg b t) = some v → stepOp P Z o (toL n D t) h = some (v, h) := fun v hv => by
    simp only [stepOp, hop, karg_ok t hx, karg_ok t hy, hv, Option.map_some]
  show KRel n D (kOpt (fastBin op (typeKind P tt) (arg a t) (arg b t)) (force (arg a t) fun u => force (arg b t) fun w => kOpt (bin2 P op tt x y u w) .no fun v => ih (putD d v t) h) fun v => ih (putD d v t) h) _
  rw [force_eq, force_eq]
  exact kOpt_rel (kOpt_rel trivial fun v hv => fin_rel hD hd hih (st v hv)) fun v hv => fin_rel hD hd hih (st v (fastBin_ok hv))
theorem do_pick {c x y : Operand} {ac ax ay : KA} (hop : o.op = .pick c x y) (hc : karg Z n D c = some ac) (hx : karg Z n D x = some ax) (hy : karg Z n D y = some ay) : KRel n D (doK P Z E n D d (.pk ac ax ay) o t h ih) (cont P Z E o (toL n D t) h rest) := by
  refine kOpt_rel (slow_rel hD hd hih) fun b hb => ?_
  have hb2 : arg ac t = .sc (.bool b) := by
    unfold kPick at hb
    split at hb
    · rename_i b' he; rw [he]; cases hb; rfl
    · cases hb
  refine kBool_rel (fun h0 => ?_) fun h0 => ?_
  · subst h0
    refine fin_rel hD hd hih ?_
    simp only [stepOp, hop, karg_ok t hc, karg_ok t hx, karg_ok t hy, hb2, cond_false]
  · subst h0
    refine fin_rel hD hd hih ?_
    simp only [stepOp, hop, karg_ok t hc, karg_ok t hx, karg_ok t hy, hb2, cond_true]
theorem do_cv {ss tt : TypeId} {ds : TypeDesc} {k : IntKind} {x : Operand} {a : KA} (hop : o.op = .convert ss tt x) (hs : P.underlying ss = some ds) (ht : P.underlying tt = some (.int k)) (hx : karg Z n D x = some a) :
    KRel n D (doK P Z E n D d (.cv k a) o t h ih) (cont P Z E o (toL n D t) h rest) := by
  refine kOpt_rel (slow_rel hD hd hih) fun i hi => ?_
  obtain ⟨k', hv⟩ := kInt_some hi
  rw [kI_eq]
  refine fin_rel hD hd hih ?_
  have hb : bytesE P h ss tt (.sc (.int k' i)) = none := by simp [bytesE]
  have hc : flat1 P (convert ss tt) (.sc (.int k' i)) = some (.sc (.int k (k.wrap i))) := by
    show (eval0 P (convert ss tt (.int k' i))).bind ofVal = _
    unfold convert
    rw [eval0_bind, eval0_underlying hs, Option.bind_some, eval0_bind, eval0_underlying ht, Option.bind_some]
    rfl
  simp only [stepOp, hop, karg_ok t hx, hv, hb, hc, Option.map_some]
theorem do_ld1 {T : TypeId} {x : Operand} {a : KA} (hop : o.op = .load T x) (h1 : okT P T = true) (h2 : isAggT P T = false) (hx : karg Z n D x = some a) : KRel n D (doK P Z E n D d (.ld1 a) o t h ih) (cont P Z E o (toL n D t) h rest) := by
  refine kPtr_rel (slow_rel hD hd hih) fun id off hp => cellsR_rel (slow_rel hD hd hih) fun cs hcs => kOpt_rel (slow_rel hD hd hih) fun v hv => fin_rel hD hd hih ?_
  rw [nthA_eq] at hv
  simp only [stepOp, hop, karg_ok t hx, hp, cells_get hcs, loadC, h1, h2, if_true, Bool.false_eq_true, if_false, hv, Option.map_some]
theorem do_ldA {T : TypeId} {x : Operand} {a : KA} (hop : o.op = .load T x) (h1 : okT P T = true) (h2 : isAggT P T = true) (hx : karg Z n D x = some a) : KRel n D (doK P Z E n D d (.ldA (szOf P T) a) o t h ih) (cont P Z E o (toL n D t) h rest) := by
  refine kPtr_rel (slow_rel hD hd hih) fun id off hp => cellsR_rel (slow_rel hD hd hih) fun cs hcs => kAgg_rel (slow_rel hD hd hih) fun hl => fin_rel hD hd hih ?_
  simp only [stepOp, hop, karg_ok t hx, hp, cells_get hcs, loadC, h1, h2, if_true, if_pos hl, Option.map_some]
theorem do_st {T : TypeId} {x y : Operand} {a b : KA} (hop : o.op = .store T x y) (h1 : (P.info? T).isSome = true) (hx : karg Z n D x = some a) (hy : karg Z n D y = some b) : KRel n D (doK P Z E n D d (.st (szOf P T) a b) o t h ih) (cont P Z E o (toL n D t) h rest) := by
  refine kPtr_rel (slow_rel hD hd hih) fun id off hp => kOpt_rel (slow_rel hD hd hih) fun cs' hc' => cellsK_rel (slow_rel hD hd hih) fun T' cs hg => ?_
  obtain ⟨nx, lim, hid, tr⟩ := h
  refine kBool_rel (fun _ => slow_rel hD hd hih) fun hb => ?_
  simp only [Bool.and_eq_true] at hb
  obtain ⟨b1, b2, b3⟩ := hb
  have b1 := Nat.le_of_ble_eq_true b1
  have b2 := Nat.eq_of_beq_eq_true b2
  have b3 := Nat.le_of_ble_eq_true b3
  rw [lenA_eq] at b2 b3
  have b3 : off + szOf P T ≤ cs.length := b3
  rw [hGet_eq] at hg
  rw [overA_eq cs' off cs (by omega), trPut_eq]
  refine fin_rel hD hd hih ?_
  have hok : (lim ≤ id ∧ (P.info? T).isSome = true ∧ cs'.length = szOf P T ∧ off + cs'.length ≤ cs.length) := ⟨b1, h1, b2, by omega⟩
  simp only [stepOp, hop, karg_ok t hx, karg_ok t hy, hp, storeE, hc', hg]
  rw [if_pos hok]
  rfl
theorem do_fa {T : TypeId} {x : Operand} {f : Nat} {fd : Field} {a : KA} (hop : o.op = .fieldAddr T x f) (h1 : fieldOf P T f = some fd) (h2 : ((P.info? fd.type).isSome && !(szOf P fd.type == 0)) = true) (hx : karg Z n D x = some a) : KRel n D (doK P Z E n D d (.fa fd.offset a) o t h ih) (cont P Z E o (toL n D t) h rest) := by
  refine kPtr_rel (slow_rel hD hd hih) fun id off hp => fin_rel hD hd hih ?_
  simp only [stepOp, hop, karg_ok t hx, hp, Option.bind_some, fieldAddrE, h1, h2, if_true, Option.map_some]
  rfl
theorem do_f1 {T : TypeId} {x : Operand} {f : Nat} {fd : Field} {a : KA} (hop : o.op = .field T x f) (h1 : fieldOf P T f = some fd) (h2 : okT P fd.type = true) (h3 : isAggT P fd.type = false) (hx : karg Z n D x = some a) : KRel n D (doK P Z E n D d (.f1 fd.offset a) o t h ih) (cont P Z E o (toL n D t) h rest) := by
  refine kOpt_rel (slow_rel hD hd hih) fun cs hcs => kOpt_rel (slow_rel hD hd hih) fun v hv => fin_rel hD hd hih ?_
  rw [nthA_eq] at hv
  simp only [stepOp, hop, karg_ok t hx, kAggO_some hcs, Option.bind_some, fieldE, h1, loadC, h2, h3, if_true, Bool.false_eq_true, if_false, hv, Option.map_some]
theorem do_fA {T : TypeId} {x : Operand} {f : Nat} {fd : Field} {a : KA} (hop : o.op = .field T x f) (h1 : fieldOf P T f = some fd) (h2 : okT P fd.type = true) (h3 : isAggT P fd.type = true) (hx : karg Z n D x = some a) : KRel n D (doK P Z E n D d (.fA fd.offset (szOf P fd.type) a) o t h ih) (cont P Z E o (toL n D t) h rest) := by
  refine kOpt_rel (slow_rel hD hd hih) fun cs hcs => kAgg_rel (slow_rel hD hd hih) fun hl => fin_rel hD hd hih ?_
  simp only [stepOp, hop, karg_ok t hx, kAggO_some hcs, Option.bind_some, fieldE, h1, loadC, h2, h3, if_true, if_pos hl, Option.map_some]
theorem do_ia {T e : TypeId} {x i : Operand} {a b : KA} (hop : o.op = .indexAddr T x i) (h1 : sliceElem P T = some e) (h2 : (P.info? e).isSome = true) (hx : karg Z n D x = some a) (hi : karg Z n D i = some b) : KRel n D (doK P Z E n D d (.ia (szOf P e) a b) o t h ih) (cont P Z E o (toL n D t) h rest) := by
  show KRel n D (kIa (szOf P e) (arg a t) (arg b t) (slowK P Z E n D d o t h ih) fun v => ih (putD d v t) h) _
  unfold kIa
  split
  · rename_i id off sz' len cap ex hv
    refine kOpt_rel (slow_rel hD hd hih) fun j hj => kBool_rel (fun _ => slow_rel hD hd hih) fun hb => fin_rel hD hd hih ?_
    obtain ⟨k, hj⟩ := kNat_some hj
    simp only [Bool.and_eq_true] at hb
    have b1 : j < len := by simpa using hb.1
    obtain rfl := Nat.eq_of_beq_eq_true hb.2
    have hok : (0 ≤ Int.ofNat j ∧ Int.ofNat j < (len : Int) ∧ (P.info? e).isSome = true ∧ True) := ⟨Int.natCast_nonneg _, Int.ofNat_lt.2 b1, h2, trivial⟩
    simp only [stepOp, hop, karg_ok t hx, karg_ok t hi, hv, hj, indexAddrE, asI, h1]
    rw [if_pos hok]
    rfl
  · exact slow_rel hD hd hih
theorem do_pa {T e : TypeId} {m : Nat} {x i : Operand} {a b : KA} (hop : o.op = .indexAddr T x i) (h1 : arrayElem P T = some (m, e)) (h2 : (P.info? e).isSome = true) (hx : karg Z n D x = some a) (hi : karg Z n D i = some b) : KRel n D (doK P Z E n D d (.pa m (szOf P e) a b) o t h ih) (cont P Z E o (toL n D t) h rest) := by
  refine kPtr_rel (slow_rel hD hd hih) fun id off hp => kOpt_rel (slow_rel hD hd hih) fun j hj => kBool_rel (fun _ => slow_rel hD hd hih) fun hb => fin_rel hD hd hih ?_
  obtain ⟨k, hj⟩ := kNat_some hj
  have b1 : j < m := by simpa using hb
  have hok : (0 ≤ Int.ofNat j ∧ Int.ofNat j < (m : Int) ∧ (P.info? e).isSome = true) := ⟨Int.natCast_nonneg _, Int.ofNat_lt.2 b1, h2⟩
  simp only [stepOp, hop, karg_ok t hx, karg_ok t hi, hp, hj, indexAddrE, asI, h1]
  rw [if_pos hok]
  rfl
theorem do_ix {T : TypeId} {x i : Operand} {a b : KA} (hop : o.op = .index T x i) (h1 : P.underlying T = some .string) (hx : karg Z n D x = some a) (hi : karg Z n D i = some b) : KRel n D (doK P Z E n D d (.ix a b) o t h ih) (cont P Z E o (toL n D t) h rest) := by
  refine kOpt_rel (slow_rel hD hd hih) fun l hl => kOpt_rel (slow_rel hD hd hih) fun j hj => kOpt_rel (slow_rel hD hd hih) fun c hc => fin_rel hD hd hih ?_
  obtain ⟨s, hs, rfl⟩ := kStr_some hl
  obtain ⟨k, hj⟩ := kNat_some hj
  rw [nthA_eq] at hc
  have hlt : j < s.size := by
    have := (List.getElem?_eq_some_iff.1 hc).1
    simpa using this
  have hget : s[j]? = some c := by
    rw [getElem?_pos s j hlt]
    have := (List.getElem?_eq_some_iff.1 hc).2
    rw [← this]
    rfl
  have hev : eval0 P (Instr.index T (.string s) (.int k (Int.ofNat j))) = some (.int .u8 c.toNat) := by
    have h0 : (0 : Int) ≤ Int.ofNat j := Int.natCast_nonneg _
    unfold Instr.index asIntOf
    rw [eval0_bind, eval0_pure, Option.bind_some]
    simp only
    rw [eval0_bind, eval0_underlying h1, Option.bind_some]
    simp only [if_pos h0]
    have hget' : s[(Int.ofNat j).toNat]? = some c := hget
    rw [hget']
    rfl
  have he : indexE P T (.sc (.string s)) (.sc (.int k (Int.ofNat j))) = some (.sc (.int .u8 (Int.ofNat c.toNat))) := by
    show (eval0 P (Instr.index T (.string s) (.int k (Int.ofNat j)))).bind ofVal = _
    rw [hev]
    rfl
  simp only [stepOp, hop, karg_ok t hx, karg_ok t hi, hs, hj, he, Option.map_some]
theorem do_ex {x : Operand} {i : Nat} {a : KA} (hop : o.op = .extract x i) (hx : karg Z n D x = some a) : KRel n D (doK P Z E n D d (.ex a i) o t h ih) (cont P Z E o (toL n D t) h rest) := by
  refine kOpt_rel (slow_rel hD hd hih) fun xs hxs => kOpt_rel (slow_rel hD hd hih) fun v hv => fin_rel hD hd hih ?_
  rw [nthA_eq] at hv
  simp only [stepOp, hop, karg_ok t hx, kTup_some hxs, Option.bind_some, extractE, hv, Option.map_some]
theorem do_nt {T : TypeId} {x : Operand} {a : KA} (hop : o.op = .unOp .not T x) (hx : karg Z n D x = some a) : KRel n D (doK P Z E n D d (.nt a) o t h ih) (cont P Z E o (toL n D t) h rest) := by
  refine kOpt_rel (slow_rel hD hd hih) fun b hb => ?_
  rw [nB_eq]
  refine fin_rel hD hd hih ?_
  have hc : flat1 P (Op.unary .not) (.sc (.bool b)) = some (.sc (.bool (!b))) := rfl
  simp only [stepOp, hop, karg_ok t hx, kPick_some hb, Option.bind_some, hc, Option.map_some]
theorem do_nc {x : Operand} {a : KA} (hop : o.op = .nilCheck x) (hx : karg Z n D x = some a) : KRel n D (doK P Z E n D d (.nc a) o t h ih) (cont P Z E o (toL n D t) h rest) := by
  refine kPtr_rel (slow_rel hD hd hih) fun id off hp => fin_rel hD hd hih ?_
  simp only [stepOp, hop, karg_ok t hx, hp]
theorem do_len {T e : TypeId} {x : Operand} {a : KA} (hop : o.op = .call { callee := .builtin .len, args := ⟨[x]⟩, argTypes := ⟨[T]⟩ }) (h1 : P.underlying T = some (.slice e)) (hx : karg Z n D x = some a) : KRel n D (doK P Z E n D d (.len a) o t h ih) (cont P Z E o (toL n D t) h rest) := by
  refine kOpt_rel (slow_rel hD hd hih) fun l hl => fin_rel hD hd hih ?_
  have hse : sliceElem P T = some e := by unfold sliceElem; rw [h1]
  have hos : opndL Z (toL n D t) [x] = some [arg a t] := by simp only [opndL, karg_ok t hx]
  unfold kLen at hl
  split at hl
  · rename_i id off sz len cap ex hv
    cases hl
    simp only [stepOp, hop, hos, hv, builtinE, hse]
    rfl
  · cases hl
theorem do_lnS {T : TypeId} {x : Operand} {a : KA} (hop : o.op = .call { callee := .builtin .len, args := ⟨[x]⟩, argTypes := ⟨[T]⟩ }) (h1 : P.underlying T = some .string) (hx : karg Z n D x = some a) : KRel n D (doK P Z E n D d (.lnS a) o t h ih) (cont P Z E o (toL n D t) h rest) := by
  refine kOpt_rel (slow_rel hD hd hih) fun l hl => fin_rel hD hd hih ?_
  obtain ⟨s, hs, rfl⟩ := kStr_some hl
  have hos : opndL Z (toL n D t) [x] = some [arg a t] := by simp only [opndL, karg_ok t hx]
  rw [lenA_eq]
  have hev : ∀ c, eval0 P (builtin .len ⟨[T]⟩ o.type c #[.string s]) = some (.value (.int .i64 s.data.toList.length)) := fun c => by
    show eval0 P (do pure (Next.value (← Builtin.len_ ⟨[T]⟩ o.type #[.string s]))) = _
    rw [eval0_bind]
    have : eval0 P (Builtin.len_ ⟨[T]⟩ o.type #[.string s]) = some (.int .i64 s.data.toList.length) := by
      unfold Builtin.len_
      show eval0 P (underlying T >>= _) = _
      rw [eval0_bind, eval0_underlying h1]
      rfl
    rw [this]
    rfl
  have hfl : flatL [V.sc (.string s)] = some [.string s] := rfl
  have hb : builtinE P h .len [T] o.type (Array.map (fun | .const _ => true | _ => false) (⟨[x]⟩ : Array Operand)) [.sc (.string s)] = some (.sc (.int .i64 (Int.ofNat s.data.toList.length)), h) := by
    unfold builtinE
    simp only [hfl]
    rw [hev]
    rfl
  simp only [stepOp, hop, hos, hs]
  exact hb
theorem do_ss {T : TypeId} {x : Operand} {lo hi : Option Operand} {a : KA} {l u : Option KA} (hop : o.op = .slice T x lo hi none) (h1 : P.underlying T = some .string) (hx : karg Z n D x = some a) (hl : kargO Z n D lo = some l) (hu : kargO Z n D hi = some u) :
    KRel n D (doK P Z E n D d (.ss a l u) o t h ih) (cont P Z E o (toL n D t) h rest) := by
  refine kOpt_rel (slow_rel hD hd hih) fun bs hbs => kOpt_rel (slow_rel hD hd hih) fun r hr => ?_
  obtain ⟨i, j⟩ := r
  refine kBool_rel (fun _ => slow_rel hD hd hih) fun hb => fin_rel hD hd hih ?_
  obtain ⟨s, hs, rfl⟩ := kStr_some hbs
  simp only [Bool.and_eq_true] at hb
  have b1 := Nat.le_of_ble_eq_true hb.1
  have b2 := Nat.le_of_ble_eq_true hb.2
  rw [lenA_eq] at b2
  have hsz : s.data.toList.length = s.size := rfl
  rw [hsz] at b2
  rw [dropA_eq, takeA_eq]
  have hext : (⟨⟨(s.data.toList.take j).drop i⟩⟩ : ByteArray) = s.extract i j := by
    apply ByteArray.ext
    apply Array.ext'
    simp [ByteArray.data_extract, List.drop_take]
  rw [hext]
  have hlo := kargO_ok t hl
  have hhi := kargO_ok t hu
  have fin : ∀ r, sliceE P h T (.sc (.string s)) (argO l t) (argO u t) none = some r → stepOp P Z o (toL n D t) h = some (r, h) := fun r hr => by
    have hmx : optE Z (toL n D t) none = some none := rfl
    simp only [stepOp, hop, karg_ok t hx, hs, hlo, hhi, hmx, hr, Option.map_some]
  exact fin _ (sliceE_str h1 hr b1 b2)
end
end Go.N
