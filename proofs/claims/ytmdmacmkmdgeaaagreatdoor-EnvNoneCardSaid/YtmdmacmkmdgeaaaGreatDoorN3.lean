/- The operations that only yield a value, more; what an operation comes to. -/
import Derived.Test.YtmdmacmkmdgeaaaGreatDoorN2
namespace Go.N
open Go Go.RowKit

/-- What an operation comes to. -/
def Did (P : Program) (B : Nat) (q : Q) (h : Hp) (w : World) (s : Sem Next) (x : V) (h' : Hp) : Prop :=
  Free q h.next h'.next → ∃ nx v q' w', s.run P w = .ok nx w' ∧ (nx = .value v ∨ (nx = .skip ∧ v = undef)) ∧ HT B q' h' w' ∧ Fr q h w q' h' w' ∧ R q' x v
theorem Did.val {P : Program} {B : Nat} {q : Q} {h : Hp} {w : World} (hT : HT B q h w) {s : Sem Value} {x : V} (hr : ∃ v, s.run P w = .ok v w ∧ R q x v) :
    Did P B q h w (do pure (.value (← s))) x h := by
  obtain ⟨v, h1, h2⟩ := hr
  exact fun _ => ⟨.value v, v, q, w, by simp only [Sem.run_bind, h1, Result.andThen_ok, Sem.run_pure], .inl rfl, hT, hT.fr, h2⟩

def nonNil : V → Option Nat
  | .sl .. => some 0
  | .ptr .. => some 1
  | .clo .. | .yld _ => some 2
  | .mp _ => some 3
  | .ifc .. => some 4
  | _ => none
def nilOf : V → Option Nat
  | .sc (.slice none 0 0) => some 0
  | .sc (.pointer none) => some 1
  | .sc .nilFunc => some 2
  | .sc (.map none) => some 3
  | .sc .nilIface => some 4
  | _ => none
def typeKind (P : Program) (t : TypeId) : Option Nat := match P.underlying t with
  | some (.slice _) => some 0
  | some (.pointer _) => some 1
  | some (.func ..) => some 2
  | some (.map ..) => some 3
  | some (.interface _) => some 4
  | _ => none
def eqB (op : BinOp) (b : Bool) : Option V := match op with
  | .eql => some (.sc (.bool b))
  | .neq => some (.sc (.bool (!b)))
  | _ => none
def ptrElemSz (P : Program) (t : TypeId) : Option Nat := match P.underlying t with
  | some (.pointer e) => (P.info? e).map (·.size)
  | _ => none
def nilCmp (P : Program) (op : BinOp) (t : TypeId) (a b : V) : Option V :=
  match a, b with
  | .ptr i o, .ptr j p => match ptrElemSz P t with
    | some (_ + 1) => if i = j then eqB op (decide (o = p)) else none
    | _ => none
  | a, b => match nonNil a, nilOf b with
    | some k, some k' => if k = k' ∧ typeKind P t = some k then eqB op false else none
    | _, _ => none
def flat2 (P : Program) (op : BinOp) (t : TypeId) (x y : Operand) (a b : V) : Option V :=
  match valOf a, valOf b with
  | some u, some v => (eval0 P (do eqGuard op t x y u v; binOp op t u v)).bind ofVal
  | _, _ => none
def bin2 (P : Program) (op : BinOp) (t : TypeId) (x y : Operand) (a b : V) : Option V :=
  match nilCmp P op t a b with
  | some r => some r
  | none => flat2 P op t x y a b
def flat1 (P : Program) (f : Value → Sem Value) (a : V) : Option V :=
  match valOf a with
  | some u => (eval0 P (f u)).bind ofVal
  | none => none

theorem flat2_run {P : Program} {q : Q} (w : World) {op : BinOp} {t : TypeId} {x y : Operand} {a b d : V} {u v : Value}
    (ha : R q a u) (hb : R q b v) (h : flat2 P op t x y a b = some d) :
    ∃ r, (do eqGuard op t x y u v; binOp op t u v : Sem Value).run P w = .ok r w ∧ R q d r := by
  unfold flat2 at h
  split at h
  · rename_i u' v' h1 h2
    obtain rfl := valOf_sound ha h1
    obtain rfl := valOf_sound hb h2
    obtain ⟨r, hr, hd⟩ := Option.bind_eq_some_iff.1 h
    exact ⟨r, eval0_run P w _ r hr, R.ofVal q r d hd⟩
  · cases h
theorem flat1_run {P : Program} {q : Q} (w : World) {f : Value → Sem Value} {a d : V} {u : Value}
    (ha : R q a u) (h : flat1 P f a = some d) : ∃ r, (f u).run P w = .ok r w ∧ R q d r := by
  unfold flat1 at h
  split at h
  · rename_i u' h1
    obtain rfl := valOf_sound ha h1
    obtain ⟨r, hr, hd⟩ := Option.bind_eq_some_iff.1 h
    exact ⟨r, eval0_run P w _ r hr, R.ofVal q r d hd⟩
  · cases h

theorem eqB_run {P : Program} {q : Q} {w : World} {op : BinOp} {t : TypeId} {x y : Operand} {u v : Value} {b : Bool} {d : V} (h : eqB op b = some d)
    (h1 : (Op.equal t u v).run P w = .ok b w) (h2 : eqGuard op t x y u v = pure ()) (h3 : op = .eql → binOp op t u v = do pure (.bool (← Op.equal t u v)))
    (h4 : op = .neq → binOp op t u v = do pure (.bool (!(← Op.equal t u v)))) :
    ∃ r, (do eqGuard op t x y u v; binOp op t u v : Sem Value).run P w = .ok r w ∧ R q d r := by
  cases op <;> simp only [eqB, Option.some.injEq, reduceCtorEq] at h
  · subst h
    exact ⟨.bool b, by simp only [h2, h3 rfl, Sem.run_bind, Sem.run_pure, Result.andThen_ok, h1], rfl, rfl⟩
  · subst h
    exact ⟨.bool (!b), by simp only [h2, h4 rfl, Sem.run_bind, Sem.run_pure, Result.andThen_ok, h1], rfl, rfl⟩

theorem bin2_run {P : Program} {q : Q} (w : World) {op : BinOp} {t : TypeId} {x y : Operand} {a b d : V} {u v : Value}
    (ha : R q a u) (hb : R q b v) (h : bin2 P op t x y a b = some d) :
    ∃ r, (do eqGuard op t x y u v; binOp op t u v : Sem Value).run P w = .ok r w ∧ R q d r := by
  unfold bin2 at h
  have hd : ∃ n, Op.maxDepth = n + 1 := ⟨9999, rfl⟩
  obtain ⟨n, hn⟩ := hd
  split at h
  · rename_i r hr
    simp only [Option.some.injEq] at h
    subst h
    unfold nilCmp at hr
    split at hr
    · rename_i i o j p
      split at hr
      · rename_i m hsz
        split at hr
        · rename_i hij
          subst hij
          obtain ⟨e, he, rfl⟩ := ha
          obtain ⟨f, hf, rfl⟩ := hb
          rw [he] at hf
          cases hf
          unfold ptrElemSz at hsz
          split at hsz
          · rename_i el hu
            obtain ⟨inf, hi, hs⟩ := Option.map_eq_some_iff.1 hsz
            refine eqB_run hr ?_ ?_ ?_ ?_
            · have hz : szOf P el ≠ 0 := by simp [szOf, hi, hs]
              simp only [Op.equal, hn, Op.equalIn, Sem.run_bind, run_underlying hu, Result.andThen_ok, run_sizeOf hi, if_pos hz, sameAddr, beq_self_eq_true, if_true, Sem.run_pure]
              congr 1
              by_cases ho : o = p
              · simp [ho]
              · simp [ho]
            · unfold eqGuard; split <;> rfl
            · rintro rfl; rfl
            · rintro rfl; rfl
          · cases hsz
        · cases hr
      · cases hr
    · split at hr
      · rename_i k k' h1 h2
        split at hr
        · rename_i hk
          obtain ⟨rfl, hk⟩ := hk
          unfold typeKind at hk
          split at hk <;> simp only [Option.some.injEq, reduceCtorEq] at hk
          · rename_i e hT
            subst hk
            have : ∃ bb n c, u = .slice (some bb) n c := by
              cases a <;> simp [nonNil] at h1
              obtain ⟨_, c, a', _, rfl, _⟩ := ha
              exact ⟨_, _, _, rfl⟩
            obtain ⟨bb, m, c, rfl⟩ := this
            have : v = .slice none 0 0 := by
              unfold nilOf at h2; split at h2 <;> simp at h2
              exact hb.1
            subst this
            refine eqB_run hr (by simp only [Op.equal, hn, Op.equalIn, Sem.run_bind, run_underlying hT, Result.andThen_ok, Sem.run_pure]) ?_ ?_ ?_
            · unfold eqGuard; split <;> rfl
            · rintro rfl; rfl
            · rintro rfl; rfl
          · rename_i e hT
            subst hk
            have : ∃ bb, u = .pointer (some bb) := by
              cases a <;> simp [nonNil] at h1
              obtain ⟨_, _, rfl⟩ := ha
              exact ⟨_, rfl⟩
            obtain ⟨bb, rfl⟩ := this
            have : v = .pointer none := by
              unfold nilOf at h2; split at h2 <;> simp at h2
              exact hb.1
            subst this
            refine eqB_run hr (by simp only [Op.equal, hn, Op.equalIn, Sem.run_bind, run_underlying hT, Result.andThen_ok, Sem.run_pure]) ?_ ?_ ?_
            · unfold eqGuard; split <;> rfl
            · rintro rfl; rfl
            · rintro rfl; rfl
          · rename_i hT
            subst hk
            have : ∃ f xs ys, u = .func f xs ys := by
              cases a <;> simp [nonNil] at h1
              · obtain ⟨_, _, _, _, rfl⟩ := ha
                exact ⟨_, _, _, rfl⟩
              · obtain ⟨_, _, rfl⟩ := ha
                exact ⟨_, _, _, rfl⟩
            obtain ⟨f, xs, ys, rfl⟩ := this
            have : v = .nilFunc := by
              unfold nilOf at h2; split at h2 <;> simp at h2
              exact hb.1
            subst this
            refine eqB_run hr (by simp only [Op.equal, hn, Op.equalIn, Sem.run_bind, run_underlying hT, Result.andThen_ok, Sem.run_pure]) ?_ ?_ ?_
            · unfold eqGuard; split <;> rfl
            · rintro rfl; rfl
            · rintro rfl; rfl
          · rename_i hT
            subst hk
            have : ∃ bb, u = .map (some bb) := by
              cases a <;> simp [nonNil] at h1
              obtain ⟨_, _, rfl⟩ := ha
              exact ⟨_, rfl⟩
            obtain ⟨bb, rfl⟩ := this
            have : v = .map none := by
              unfold nilOf at h2; split at h2 <;> simp at h2
              exact hb.1
            subst this
            refine eqB_run hr (by simp only [Op.equal, hn, Op.equalIn, Sem.run_bind, run_underlying hT, Result.andThen_ok, Sem.run_pure]) ?_ ?_ ?_
            · unfold eqGuard; split <;> rfl
            · rintro rfl; rfl
            · rintro rfl; rfl
          · rename_i hT
            subst hk
            have : ∃ t' z, u = .iface t' z := by
              cases a <;> simp [nonNil] at h1
              obtain ⟨_, _, rfl⟩ := ha
              exact ⟨_, _, rfl⟩
            obtain ⟨t', z, rfl⟩ := this
            have : v = .nilIface := by
              unfold nilOf at h2; split at h2 <;> simp at h2
              exact hb.1
            subst this
            refine eqB_run hr (by simp only [Op.equal, hn, Op.equalIn, Sem.run_bind, run_underlying hT, Result.andThen_ok, Sem.run_pure]) ?_ ?_ ?_
            · unfold eqGuard; split <;> rfl
            · rintro rfl; rfl
            · rintro rfl; rfl
        · cases hr
      · cases hr
  · exact flat2_run w ha hb h

/-- 'x[l:h:m]'. -/
def sliceE (P : Program) (h : Hp) (T : TypeId) (x : V) (lo hi mx : Option V) : Option V :=
  match x with
  | .sl id off sz len cap ex => match sliceElem P T with
    | some e => if sz = szOf P e ∧ (P.info? e).isSome = true then
        match boundE hi len, boundE lo 0 with
        | some hh, some l => match mx with
          | none => if l ≤ hh ∧ hh ≤ cap then some (.sl id (off + l * sz) sz (hh - l) (cap - l) ex) else none
          | some _ => match boundE mx 0 with
            | some m => if l ≤ hh ∧ hh ≤ m ∧ m ≤ cap ∧ hi.isSome = true then some (.sl id (off + l * sz) sz (hh - l) (m - l) true) else none
            | none => none
        | _, _ => none
      else none
    | none => none
  | .ptr id off => match arrayElem P T, cellsOf h id with
    | some (n, e), some cs => match mx, boundE hi n, boundE lo 0 with
      | none, some hh, some l => if l ≤ hh ∧ hh ≤ n ∧ (P.info? e).isSome = true ∧ off + n * szOf P e ≤ cs.length ∧ n ≤ maxLen then some (.sl id (off + l * szOf P e) (szOf P e) (hh - l) (n - l) true) else none
      | _, _, _ => none
    | _, _ => none
  | x => match valOf x, lo.map valOf, hi.map valOf, mx with
    | some u, none, none, none => (eval0 P (Instr.sliceAt T u none none none)).bind ofVal
    | some u, some (some l), none, none => (eval0 P (Instr.sliceAt T u (some l) none none)).bind ofVal
    | some u, none, some (some m), none => (eval0 P (Instr.sliceAt T u none (some m) none)).bind ofVal
    | some u, some (some l), some (some m), none => (eval0 P (Instr.sliceAt T u (some l) (some m) none)).bind ofVal
    | _, _, _, _ => none

theorem sliceE_run {P : Program} {B : Nat} {q : Q} {h : Hp} {w : World} (hT : HT B q h w) {T : TypeId} {x y : V} {lo hi mx : Option V} {v : Value} {vlo vhi vmx : Option Value} (hx : R q x v)
    (hlo : OR q lo vlo) (hhi : OR q hi vhi) (hmx : OR q mx vmx) (he : sliceE P h T x lo hi mx = some y) : ∃ u, (Instr.sliceAt T v vlo vhi vmx).run P w = .ok u w ∧ R q y u := by
  unfold sliceE at he
  split at he
  · rename_i id off sz len cap ex
    obtain ⟨ee, c, a, k1, rfl, k2, k3, k4, k5, k6, k7⟩ := hx
    split at he
    · rename_i e hel
      have hTy := sliceElem_eq hel
      split at he
      · rename_i hok
        obtain ⟨rfl, hinfo⟩ := hok
        obtain ⟨i0, hinfo⟩ := Option.isSome_iff_exists.1 hinfo
        have e1 : (Instr.sliceAt T (.slice (some a) len c) vlo vhi vmx) = (do
            match ← underlying T with
            | .array n elem =>
              let a ← Instr.sureAddr (.slice (some a) len c)
              let (l, h, m) ← Instr.sliceBounds false n n vlo vhi vmx
              let size ← sizeOf elem
              pure (.slice (some (if m = l then a else a.add (l * size))) (h - l) (m - l))
            | _ => Instr.slice T (.slice (some a) len c) vlo vhi vmx) := rfl
        split at he
        · rename_i hh l hhe hle
          have fin : ∀ m cap' ex', (Instr.sliceBounds true len c vlo vhi vmx).run P w = .ok (l, hh, m) w → l ≤ hh → hh ≤ m → m ≤ c → cap' ≤ m - l → (ex' = true → m - l = cap') →
              ∃ u, (Instr.sliceAt T (.slice (some a) len c) vlo vhi vmx).run P w = .ok u w ∧ R q (.sl id (off + l * szOf P e) (szOf P e) (hh - l) cap' ex') u := by
            intro m cap' ex' hb h1 h2 h3 hcap hex
            refine ⟨.slice (some (if m = l then a else a.add (l * szOf P e))) (hh - l) (m - l), ?_, ee, m - l, _, k1, rfl, ?_, by omega, by omega, ?_, hcap, hex⟩
            · rw [e1]
              simp only [Sem.run_bind, run_underlying hTy, Result.andThen_ok, Instr.slice, hb, run_sizeOf hinfo, Sem.run_pure]
              by_cases hml : m = l <;> simp [hml]
            · intro hne
              rw [if_neg (by omega), k2 (by omega), addr_add]
              congr 1
              omega
            · have : l * szOf P e + (m - l) * szOf P e ≤ c * szOf P e := by rw [← Nat.add_mul]; exact Nat.mul_le_mul_right _ (by omega)
              omega
          split at he
          · obtain rfl : vmx = none := hmx
            split at he
            · rename_i hle'
              simp only [Option.some.injEq] at he
              subst he
              refine fin c _ _ ?_ hle'.1 (by omega) (Nat.le_refl _) (by omega) (fun h => by rw [k7 h])
              · rcases boundE_sound hlo hle with ⟨rfl, rfl⟩ | ⟨kl, rfl⟩ <;> rcases boundE_sound hhi hhe with ⟨rfl, rfl⟩ | ⟨kh, rfl⟩
                · simp [Instr.sliceBounds]
                · simp [Instr.sliceBounds, run_bound P w kh hh c _ (by omega)]
                · simp [Instr.sliceBounds, run_bound P w kl l _ _ hle'.1]
                · simp [Instr.sliceBounds, run_bound P w kh hh c _ (by omega), run_bound P w kl l _ _ hle'.1]
            · cases he
          · split at he
            · rename_i m hme
              split at he
              · rename_i hle'
                obtain ⟨hl1, hl2, hl3, hl4⟩ := hle'
                simp only [Option.some.injEq] at he
                subst he
                refine fin m _ _ ?_ hl1 hl2 (by omega) (Nat.le_refl _) (fun _ => rfl)
                obtain ⟨km, rfl⟩ : ∃ km, vmx = some (.int km (m : Int)) := by
                  rcases boundE_sound hmx hme with ⟨h1, _⟩ | h1
                  · obtain ⟨v, _, hv⟩ := hmx
                    rw [hv] at h1; cases h1
                  · exact h1
                obtain ⟨kh, rfl⟩ : ∃ kh, vhi = some (.int kh (hh : Int)) := by
                  rcases boundE_sound hhi hhe with ⟨h1, _⟩ | h1
                  · cases hi with
                    | none => cases hl4
                    | some z => obtain ⟨v, _, hv⟩ := hhi; rw [hv] at h1; cases h1
                  · exact h1
                rcases boundE_sound hlo hle with ⟨rfl, rfl⟩ | ⟨kl, rfl⟩
                · simp [Instr.sliceBounds, run_bound P w km m c _ (by omega), run_bound P w kh hh m _ hl2]
                · simp [Instr.sliceBounds, run_bound P w km m c _ (by omega), run_bound P w kh hh m _ hl2, run_bound P w kl l _ _ hl1]
              · cases he
            · cases he
        · cases he
      · cases he
    · cases he
  · rename_i id off
    obtain ⟨ee, k1, rfl⟩ := hx
    split at he
    · rename_i n e cs hel hg
      have hTy := arrayElem_eq hel
      split at he
      · rename_i hh l hhe hle
        obtain rfl : vmx = none := hmx
        split at he
        · rename_i hok
          obtain ⟨h1, h2, hinfo, h3, h4⟩ := hok
          obtain ⟨i0, hinfo⟩ := Option.isSome_iff_exists.1 hinfo
          simp only [Option.some.injEq] at he
          subst he
          obtain ⟨e', vs, m1, m2, m3, m4, m5⟩ := hT.holds hg
          rw [k1] at m1
          cases m1
          refine ⟨.slice (some (if n = l then ⟨ee.b, ee.d + off, none⟩ else (⟨ee.b, ee.d + off, none⟩ : Addr).add (l * szOf P e))) (hh - l) (n - l), ?_, ee, n - l, _, k1, rfl, ?_, by omega, by omega, ?_, Nat.le_refl _, fun _ => rfl⟩
          · have hb : (Instr.sliceBounds false n n vlo vhi none).run P w = .ok (l, hh, n) w := by
              rcases boundE_sound hlo hle with ⟨rfl, rfl⟩ | ⟨kl, rfl⟩ <;> rcases boundE_sound hhi hhe with ⟨rfl, rfl⟩ | ⟨kh, rfl⟩
              · simp [Instr.sliceBounds]
              · simp [Instr.sliceBounds, run_bound P w kh hh n _ (by omega)]
              · simp [Instr.sliceBounds, run_bound P w kl l _ _ h1]
              · simp [Instr.sliceBounds, run_bound P w kh hh n _ (by omega), run_bound P w kl l _ _ h1]
            simp only [Instr.sliceAt, Sem.run_bind, run_underlying hTy, Result.andThen_ok, Instr.sureAddr, hb, run_sizeOf hinfo, Sem.run_pure]
          · intro hne
            rw [if_neg (by omega), addr_add]
            congr 1
            omega
          · have : l * szOf P e + (n - l) * szOf P e ≤ n * szOf P e := by rw [← Nat.add_mul]; exact Nat.mul_le_mul_right _ (by omega)
            omega
        · cases he
      · cases he
    · cases he
  · have key : ∀ (o : Option V) (vo : Option Value) (l : Value), OR q o vo → o.map valOf = some (some l) → vo = some l := by
      intro o vo l ho hv
      cases o with
      | none => cases hv
      | some z =>
        obtain ⟨v, h1, h2⟩ := ho
        simp only [Option.map_some, Option.some.injEq] at hv
        rw [h2, valOf_sound h1 hv]
    have key0 : ∀ (o : Option V) (vo : Option Value), OR q o vo → o.map valOf = none → vo = none := by
      intro o vo ho hv
      cases o with
      | none => exact ho
      | some z => cases hv
    have fin : ∀ (u : Value) (a b : Option Value), valOf x = some u → vlo = a → vhi = b → vmx = none → (eval0 P (Instr.sliceAt T u a b none)).bind ofVal = some y → ∃ u, (Instr.sliceAt T v vlo vhi vmx).run P w = .ok u w ∧ R q y u := by
      rintro u a b hu rfl rfl rfl he
      obtain rfl := valOf_sound hx hu
      obtain ⟨r, hr, hd⟩ := Option.bind_eq_some_iff.1 he
      exact ⟨r, eval0_run P w _ r hr, R.ofVal q r y hd⟩
    split at he
    · rename_i u h1 h2 h3
      exact fin u _ _ h1 (key0 _ _ hlo h2) (key0 _ _ hhi h3) hmx he
    · rename_i u l h1 h2 h3
      exact fin u _ _ h1 (key _ _ _ hlo h2) (key0 _ _ hhi h3) hmx he
    · rename_i u m h1 h2 h3
      exact fin u _ _ h1 (key0 _ _ hlo h2) (key _ _ _ hhi h3) hmx he
    · rename_i u l m h1 h2 h3
      exact fin u _ _ h1 (key _ _ _ hlo h2) (key _ _ _ hhi h3) hmx he
    · cases he
end Go.N
