/- All ends of code: soundness. -/
import Derived.Test.YtmdmacmkmdgeaaaGreatDoorN14
namespace Go.N
open Go Go.RowKit

theorem PostM.one {Z : Nat → Bool} {B : Nat} {q : Q} {h : Hp} {w : World} {ds : List Deferred} {r : St} {e : Exit} {a : Act} {w' : World} (hp : PostD Z B q h w ds r e a w') : PostM Z B q h w ds [r] e a w' := ⟨r, List.mem_singleton.2 rfl, hp⟩
theorem PostD.normalE {Z : Nat → Bool} {B : Nat} {q : Q} {h : Hp} {w : World} {ds : List Deferred} {r : St} {a : Act} {w' : World} (hp : PostD Z B q h w ds r .normal a w') : r.1 = .normal := by
  obtain ⟨_, _, _, _, _, hx⟩ := hp
  cases hr : r.1 with
  | normal => rfl
  | exit j => rw [hr] at hx; cases hx
  | ret => rw [hr] at hx; cases hx
  | pan v => rw [hr] at hx; obtain ⟨_, _, hx⟩ := hx; cases hx
theorem PostD.other {Z : Nat → Bool} {B : Nat} {q : Q} {h : Hp} {w : World} {ds : List Deferred} {r : St} {e : Exit} {a : Act} {w' : World} (hp : PostD Z B q h w ds r e a w') (hn : r.1 ≠ .normal) : e ≠ .normal := by
  rintro rfl
  exact hn hp.normalE

theorem evalM_sound {P : Program} {Z : Nat → Bool} {E : Env} {m0 : Nat} (hE : EnvOk P Z E) (hm : P.follows .mixedOrders = true) {B N n : Nat} :
    ∀ (c : Code) {fr : List V} {q : Q} {h : Hp} {w : World} {a : Act} {rs : List St}, HT B q h w → Free q h.next N → GQ Z q → RL q fr a.tmps.toList → evalM P Z E N n c fr h = some rs → c.wpIn (FN none) m0 P (PostM Z B q h w a.defers rs) a w := by
  have leaf : ∀ (c : Code) {fr : List V} {q : Q} {h : Hp} {w : World} {a : Act} {rs : List St}, HT B q h w → Free q h.next N → GQ Z q → RL q fr a.tmps.toList → (evalC P Z E none n c fr h).bind (chk N) = some rs → c.wpIn (FN none) m0 P (PostM Z B q h w a.defers rs) a w := by
    intro c fr q h w a rs hT hf hz hs he
    obtain ⟨r, h1, h2⟩ := Option.bind_eq_some_iff.1 he
    obtain ⟨rfl, hle⟩ := chk_eq h2
    exact wpIn_mono (evalC_sound (rd := none) (ro := none) hE hm c hT (hf.left hle) hz rfl hs h1) fun e a' w' hp => PostM.one hp
  intro c
  induction c with
  | region id ops ord =>
    intro fr q h w a rs hT hf hz hs he
    simp only [evalM] at he
    cases hn : nextReg ops with
    | none => rw [hn] at he; exact leaf _ hT hf hz hs he
    | some p =>
      obtain ⟨o0, o1, x⟩ := p
      rw [hn] at he
      simp only at he
      split at he
      · rename_i v hv
        split at he
        · rename_i l hl
          exact region_next hE hm hn hT hf hz hs hv hl he
        · cases he
      · cases he
  | seq x y ihx ihy =>
    intro fr q h w a rs hT hf hz hs he
    simp only [evalM] at he
    obtain ⟨rs1, h1, h2⟩ := Option.bind_eq_some_iff.1 he
    refine wpIn_seq (wpIn_mono (ihx hT hf hz hs h1) ?_)
    rintro e a' w' ⟨r, hr, hp⟩
    rcases bindM_at h2 hr with ⟨fr', h', rfl, rs', k1, k2⟩ | ⟨k1, k2⟩
    · obtain ⟨q', t1, t2, t3, t4, t5⟩ := hp
      simp only at t5
      subst t5
      exact wpIn_mono (ihy t1 (hf.right t2) (hz.mono t2.ext) t3 k1) fun e a w hp => hp.mono t2 t4 k2
    · have := hp.other k1
      cases e with
      | normal => exact absurd rfl this
      | _ => exact ⟨r, k2, hp⟩
  | cond c x y ihx ihy =>
    intro fr q h w a rs hT hf hz hs he
    simp only [evalM] at he
    split at he
    · rename_i hc
      exact wpIn_cond (opnd_sound hz hs hc).1 (ihx hT hf hz hs he)
    · rename_i hc
      exact wpIn_cond (opnd_sound hz hs hc).1 (ihy hT hf hz hs he)
    · cases he
  | block id x ih =>
    intro fr q h w a rs hT hf hz hs he
    simp only [evalM] at he
    obtain ⟨rs1, h1, rfl⟩ := Option.map_eq_some_iff.1 he
    refine wpIn_block (wpIn_mono (ih hT hf hz hs h1) ?_)
    rintro e a' w' ⟨r, hr, hp⟩
    have hmem : inBlock1 id r ∈ rs1.map (inBlock1 id) := List.mem_map_of_mem hr
    obtain ⟨q', t1, t2, t3, t4, t5⟩ := hp
    obtain ⟨ex, fr', h'⟩ := r
    cases ex with
    | normal => simp only at t5; subst t5; exact ⟨_, hmem, q', t1, t2, t3, t4, rfl⟩
    | ret => simp only at t5; subst t5; exact ⟨_, hmem, q', t1, t2, t3, t4, rfl⟩
    | pan v => obtain ⟨u, t6, rfl⟩ := t5; exact ⟨_, hmem, q', t1, t2, t3, t4, u, t6, rfl⟩
    | exit j =>
      simp only at t5
      subst t5
      simp only [inBlock1] at hmem
      by_cases hj : j = id
      · rw [if_pos hj] at hmem
        simp only [Exit.inBlock]
        rw [if_pos hj]; exact ⟨_, hmem, q', t1, t2, t3, t4, rfl⟩
      · rw [if_neg hj] at hmem
        simp only [Exit.inBlock]
        rw [if_neg hj]; exact ⟨_, hmem, q', t1, t2, t3, t4, rfl⟩
  | loop x ih =>
    intro fr q h w a rs hT hf hz hs he
    simp only [evalM] at he
    have key : ∀ (m : Nat) {fr : List V} {q1 : Q} {h1 : Hp} {w1 : World} {a1 : Act} {rs1 : List St}, HT B q1 h1 w1 → Free q1 h1.next N → GQ Z q1 → RL q1 fr a1.tmps.toList → Fr q h w q1 h1 w1 → MK w q1 h1 w1 a.defers a1.defers → iterM m (evalM P Z E N n x) fr h1 = some rs1 → (∀ r ∈ rs1, r ∈ rs) →
        Code.roundsIn (FN none) m0 P x (PostM Z B q h w a.defers rs) m a1 w1 := by
      intro m
      induction m with
      | zero => intro fr q1 h1 w1 a1 rs1 _ _ _ _ _ _ he; cases he
      | succ m ihm =>
        intro fr q1 h1 w1 a1 rs1 hT1 hf1 hz1 hs1 hfr hd he hsub
        simp only [iterM] at he
        obtain ⟨rs2, k1, k2⟩ := Option.bind_eq_some_iff.1 he
        rw [roundsIn_succ]
        refine wpIn_mono (ih hT1 hf1 hz1 hs1 k1) ?_
        rintro e a' w' ⟨r, hr, hp⟩
        rcases bindM_at k2 hr with ⟨fr', h', rfl, rs', m1, m2⟩ | ⟨m1, m2⟩
        · obtain ⟨q', t1, t2, t3, t4, t5⟩ := hp
          simp only at t5
          subst t5
          exact ihm t1 (hf1.right t2) (hz1.mono t2.ext) t3 (hfr.trans t2) (hd.chain t2 hfr.size t4) m1 fun r hr => hsub r (m2 r hr)
        · have hne := hp.other m1
          have hp2 : PostM Z B q h w a.defers rs e a' w' := ⟨r, hsub r m2, hp.chain hfr hd⟩
          cases e with
          | normal => exact absurd rfl hne
          | _ => exact hp2
    exact wpIn_loop_rounds n (key n hT hf hz hs hT.fr (MK.refl _ _ _ _ _) he fun r hr => hr)
  | skip => intro fr q h w a rs hT hf hz hs he; exact leaf _ hT hf hz hs he
  | label _ => intro fr q h w a rs hT hf hz hs he; exact leaf _ hT hf hz hs he
  | exit _ => intro fr q h w a rs hT hf hz hs he; exact leaf _ hT hf hz hs he
  | ret => intro fr q h w a rs hT hf hz hs he; exact leaf _ hT hf hz hs he
  | scope x ih => intro fr q h w a rs hT hf hz hs he; exact leaf _ hT hf hz hs he
  | rangeFunc _ _ _ _ => intro fr q h w a rs hT hf hz hs he; exact leaf _ hT hf hz hs he
  | goto _ => intro fr q h w a rs hT hf hz hs he; exact leaf _ hT hf hz hs he
  | refuse _ => intro fr q h w a rs hT hf hz hs he; exact leaf _ hT hf hz hs he
end Go.N
