/- Functions of the program as functions of Lean's; printed by a program. -/
import Derived.Test.YtglnokfcjnnepaaDoorBVmHt
import Derived.Test.YtglnokfcjnnepaaDoorProg
import Derived.Test.YtglnokfcjnnepaaDoorBX5
namespace Go.Gen
open Go Go.Vm Go.Proofs
set_option maxRecDepth 100000
set_option maxHeartbeats 4000000
set_option linter.unusedVariables false
structure S25 where
  f_Line : Int
  f_Col : Int
structure S27 where
  f_Kind : Int
  f_Text : (List UInt8)
  f_N : Int
  f_At : S25
structure S45 where
  f_At : S25
  f_Err : Int
def row9 (x : (List UInt8)) : List D := [(str x)]
def row27 (x : S27) : List D := [(.sc (.int .i64 x.f_Kind)), (str x.f_Text), (.sc (.int .i64 x.f_N)), (.sc (.int .i64 x.f_At.f_Line)), (.sc (.int .i64 x.f_At.f_Col))]
abbrev Z : GTab := Zt
theorem fn54 : Tryd.prog.funcs[54]? = some Tryd.f54 := Tryd.func54
theorem bd54 : ((Tryd.prog.funcs[54]?).any fun fn => fn.body.isSome && fn.name != "runtime.NumGoroutine") = true := by kernel_rfl
theorem fn33 : Tryd.prog.funcs[33]? = some Tryd.f33 := Tryd.func33
theorem fn63 : Tryd.prog.funcs[63]? = some Tryd.f63 := Tryd.func63
theorem bd63 : ((Tryd.prog.funcs[63]?).any fun fn => fn.body.isSome && fn.name != "runtime.NumGoroutine") = true := by kernel_rfl
theorem fn55 : Tryd.prog.funcs[55]? = some Tryd.f55 := Tryd.func55
theorem bd33 : ((Tryd.prog.funcs[33]?).any fun fn => fn.body.isSome && fn.name != "runtime.NumGoroutine") = true := by kernel_rfl
theorem bd55 : ((Tryd.prog.funcs[55]?).any fun fn => fn.body.isSome && fn.name != "runtime.NumGoroutine") = true := by kernel_rfl
theorem fn44 : Tryd.prog.funcs[44]? = some Tryd.f44 := Tryd.func44
theorem fn64 : Tryd.prog.funcs[64]? = some Tryd.f64 := Tryd.func64
theorem fn69 : Tryd.prog.funcs[69]? = some Tryd.f69 := Tryd.func69
theorem bd69 : ((Tryd.prog.funcs[69]?).any fun fn => fn.body.isSome && fn.name != "runtime.NumGoroutine") = true := by kernel_rfl
theorem fn66 : Tryd.prog.funcs[66]? = some Tryd.f66 := Tryd.func66
theorem bd64 : ((Tryd.prog.funcs[64]?).any fun fn => fn.body.isSome && fn.name != "runtime.NumGoroutine") = true := by kernel_rfl
theorem bd66 : ((Tryd.prog.funcs[66]?).any fun fn => fn.body.isSome && fn.name != "runtime.NumGoroutine") = true := by kernel_rfl
theorem fn56 : Tryd.prog.funcs[56]? = some Tryd.f56 := Tryd.func56
theorem fn67 : Tryd.prog.funcs[67]? = some Tryd.f67 := Tryd.func67
theorem fn72 : Tryd.prog.funcs[72]? = some Tryd.f72 := Tryd.func72
theorem bd72 : ((Tryd.prog.funcs[72]?).any fun fn => fn.body.isSome && fn.name != "runtime.NumGoroutine") = true := by kernel_rfl
theorem fn68 : Tryd.prog.funcs[68]? = some Tryd.f68 := Tryd.func68
theorem bd67 : ((Tryd.prog.funcs[67]?).any fun fn => fn.body.isSome && fn.name != "runtime.NumGoroutine") = true := by kernel_rfl
theorem bd68 : ((Tryd.prog.funcs[68]?).any fun fn => fn.body.isSome && fn.name != "runtime.NumGoroutine") = true := by kernel_rfl
theorem fn57 : Tryd.prog.funcs[57]? = some Tryd.f57 := Tryd.func57
theorem al25 : ∃ I, Tryd.prog.info? 25 = some I ∧ I.zero.bind zeroCellsE = some [(.sc (.int .i64 0)), (.sc (.int .i64 0))] := ⟨_, rfl, rfl⟩
theorem if25 : (Tryd.prog.info? 25).isSome = true := rfl
theorem sz25 : szOf Tryd.prog 25 = 2 := rfl
theorem ok25 : okT Tryd.prog 25 = true := rfl
theorem ag25 : isAggT Tryd.prog 25 = true := rfl
theorem bd56 : ((Tryd.prog.funcs[56]?).any fun fn => fn.body.isSome && fn.name != "runtime.NumGoroutine") = true := by kernel_rfl
theorem bd57 : ((Tryd.prog.funcs[57]?).any fun fn => fn.body.isSome && fn.name != "runtime.NumGoroutine") = true := by kernel_rfl
theorem fn45 : Tryd.prog.funcs[45]? = some Tryd.f45 := Tryd.func45
theorem fn32 : Tryd.prog.funcs[32]? = some Tryd.f32 := Tryd.func32
theorem bd32 : ((Tryd.prog.funcs[32]?).any fun fn => fn.body.isSome && fn.name != "runtime.NumGoroutine") = true := by kernel_rfl
theorem fn34 : Tryd.prog.funcs[34]? = some Tryd.f34 := Tryd.func34
theorem fn35 : Tryd.prog.funcs[35]? = some Tryd.f35 := Tryd.func35
theorem bd35 : ((Tryd.prog.funcs[35]?).any fun fn => fn.body.isSome && fn.name != "runtime.NumGoroutine") = true := by kernel_rfl
theorem fn36 : Tryd.prog.funcs[36]? = some Tryd.f36 := Tryd.func36
theorem bd36 : ((Tryd.prog.funcs[36]?).any fun fn => fn.body.isSome && fn.name != "runtime.NumGoroutine") = true := by kernel_rfl
theorem fn51 : Tryd.prog.funcs[51]? = some Tryd.f51 := Tryd.func51
theorem bd51 : ((Tryd.prog.funcs[51]?).any fun fn => fn.body.isSome && fn.name != "runtime.NumGoroutine") = true := by kernel_rfl
theorem fn38 : Tryd.prog.funcs[38]? = some Tryd.f38 := Tryd.func38
theorem al27 : ∃ I, Tryd.prog.info? 27 = some I ∧ I.zero.bind zeroCellsE = some [(.sc (.int .i64 0)), (str (([] : List UInt8))), (.sc (.int .i64 0)), (.sc (.int .i64 0)), (.sc (.int .i64 0))] := ⟨_, rfl, rfl⟩
theorem bd34 : ((Tryd.prog.funcs[34]?).any fun fn => fn.body.isSome && fn.name != "runtime.NumGoroutine") = true := by kernel_rfl
theorem if27 : (Tryd.prog.info? 27).isSome = true := rfl
theorem sz27 : szOf Tryd.prog 27 = 5 := rfl
theorem ok27 : okT Tryd.prog 27 = true := rfl
theorem ag27 : isAggT Tryd.prog 27 = true := rfl
theorem bd37 : ((Tryd.prog.funcs[37]?).any fun fn => fn.body.isSome && fn.name != "runtime.NumGoroutine") = true := by kernel_rfl
theorem se52 : sliceElem Tryd.prog 52 = some 9 := rfl
theorem if9 : (Tryd.prog.info? 9).isSome = true := rfl
theorem ok9 : okT Tryd.prog 9 = true := rfl
theorem ag9 : isAggT Tryd.prog 9 = false := rfl
theorem bd38 : ((Tryd.prog.funcs[38]?).any fun fn => fn.body.isSome && fn.name != "runtime.NumGoroutine") = true := by kernel_rfl
theorem fn20 : Tryd.prog.funcs[20]? = some Tryd.f20 := Tryd.func20
theorem al45 : ∃ I, Tryd.prog.info? 45 = some I ∧ I.zero.bind zeroCellsE = some [(.sc (.int .i64 0)), (.sc (.int .i64 0)), (.sc (.int .i64 0))] := ⟨_, rfl, rfl⟩
theorem bd44 : ((Tryd.prog.funcs[44]?).any fun fn => fn.body.isSome && fn.name != "runtime.NumGoroutine") = true := by kernel_rfl
theorem bd45 : ((Tryd.prog.funcs[45]?).any fun fn => fn.body.isSome && fn.name != "runtime.NumGoroutine") = true := by kernel_rfl
theorem if45 : (Tryd.prog.info? 45).isSome = true := rfl
theorem sz45 : szOf Tryd.prog 45 = 3 := rfl
theorem ok45 : okT Tryd.prog 45 = true := rfl
theorem ag45 : isAggT Tryd.prog 45 = true := rfl
theorem bd20 : ((Tryd.prog.funcs[20]?).any fun fn => fn.body.isSome && fn.name != "runtime.NumGoroutine") = true := by kernel_rfl
theorem fap27_3 : ∀ (id i off : Nat), fieldAddrE Tryd.prog 27 3 (.ptr id i off) = some (.ptr id i (off + 3)) := fun _ _ _ => rfl
theorem fap27_1 : ∀ (id i off : Nat), fieldAddrE Tryd.prog 27 1 (.ptr id i off) = some (.ptr id i (off + 1)) := fun _ _ _ => rfl
theorem fn27 : Tryd.prog.funcs[27]? = some Tryd.f27 := Tryd.func27
theorem se22 : sliceElem Tryd.prog 22 = some 27 := rfl
theorem far27_0 : ∀ (r : List (List D)) (i off : Nat), fieldAddrE Tryd.prog 27 0 (.rp r i off) = some (.rp r i (off + 0)) := fun _ _ _ => rfl
theorem ok23 : okT Tryd.prog 23 = true := rfl
theorem ag23 : isAggT Tryd.prog 23 = false := rfl
theorem bd27 : ((Tryd.prog.funcs[27]?).any fun fn => fn.body.isSome && fn.name != "runtime.NumGoroutine") = true := by kernel_rfl
theorem fap45_1 : ∀ (id i off : Nat), fieldAddrE Tryd.prog 45 1 (.ptr id i off) = some (.ptr id i (off + 2)) := fun _ _ _ => rfl
theorem ok43 : okT Tryd.prog 43 = true := rfl
theorem ag43 : isAggT Tryd.prog 43 = false := rfl
theorem zr27 : (zeroRow Tryd.prog 27).isSome = true := rfl
theorem rz27 : ∀ a, (row27 a).length = szOf Tryd.prog 27 := fun _ => rfl
theorem ap27 : ∀ n, appendOk Tryd.prog 27 n = decide (n * 48 ≤ 140737488355328) := fun _ => rfl
theorem fn16 : Tryd.prog.funcs[16]? = some Tryd.f16 := Tryd.func16
theorem bd16 : ((Tryd.prog.funcs[16]?).any fun fn => fn.body.isSome && fn.name != "runtime.NumGoroutine") = true := by kernel_rfl
theorem far27_1 : ∀ (r : List (List D)) (i off : Nat), fieldAddrE Tryd.prog 27 1 (.rp r i off) = some (.rp r i (off + 1)) := fun _ _ _ => rfl
theorem far27_2 : ∀ (r : List (List D)) (i off : Nat), fieldAddrE Tryd.prog 27 2 (.rp r i off) = some (.rp r i (off + 2)) := fun _ _ _ => rfl
theorem ok2 : okT Tryd.prog 2 = true := rfl
theorem ag2 : isAggT Tryd.prog 2 = false := rfl
theorem far27_3 : ∀ (r : List (List D)) (i off : Nat), fieldAddrE Tryd.prog 27 3 (.rp r i off) = some (.rp r i (off + 3)) := fun _ _ _ => rfl
theorem gd25 : Tryd.prog.eqGuardType Tryd.prog.depth 25 = false := by decide +kernel
theorem eqT25 : ∀ (a0 : Int) (a1 : Int) (b0 : Int) (b1 : Int), EqT Tryd.prog 100 25 (.agg #[.int .i64 a0, .int .i64 a1]) (.agg #[.int .i64 b0, .int .i64 b1]) ((eqI a0 b0 && eqI a1 b1)) := fun a0 a1 b0 b1 => (eqT_struct rfl (by decide +kernel) (eqF_cons (by decide) (pa_one rfl rfl) (pa_one rfl rfl) (eqT_int rfl) (eqF_one (by decide) (pa_one rfl rfl) (pa_one rfl rfl) (eqT_int rfl))))
theorem gd45 : Tryd.prog.eqGuardType Tryd.prog.depth 45 = false := by decide +kernel
theorem eqT45 : ∀ (a0 : Int) (a1 : Int) (a2 : Int) (b0 : Int) (b1 : Int) (b2 : Int), EqT Tryd.prog 100 45 (.agg #[.int .i64 a0, .int .i64 a1, .int .i64 a2]) (.agg #[.int .i64 b0, .int .i64 b1, .int .i64 b2]) (((eqI a0 b0 && eqI a1 b1) && eqI a2 b2)) := fun a0 a1 a2 b0 b1 b2 => (eqT_struct rfl (by decide +kernel) (eqF_cons (by decide) (pa_agg rfl rfl rfl) (pa_agg rfl rfl rfl) (eqT_struct rfl (by decide +kernel) (eqF_cons (by decide) (pa_one rfl rfl) (pa_one rfl rfl) (eqT_int rfl) (eqF_one (by decide) (pa_one rfl rfl) (pa_one rfl rfl) (eqT_int rfl)))) (eqF_one (by decide) (pa_one rfl rfl) (pa_one rfl rfl) (eqT_int rfl))))
theorem fn6 : Tryd.prog.funcs[6]? = some Tryd.f6 := Tryd.func6
theorem fn58 : Tryd.prog.funcs[58]? = some Tryd.f58 := Tryd.func58
theorem bd58 : ((Tryd.prog.funcs[58]?).any fun fn => fn.body.isSome && fn.name != "runtime.NumGoroutine") = true := by kernel_rfl
theorem fn46 : Tryd.prog.funcs[46]? = some Tryd.f46 := Tryd.func46
theorem bd46 : ((Tryd.prog.funcs[46]?).any fun fn => fn.body.isSome && fn.name != "runtime.NumGoroutine") = true := by kernel_rfl
theorem zr9 : (zeroRow Tryd.prog 9).isSome = true := rfl
theorem rz9 : ∀ a, (row9 a).length = szOf Tryd.prog 9 := fun _ => rfl
theorem ap9 : ∀ n, appendOk Tryd.prog 9 n = decide (n * 16 ≤ 140737488355328) := fun _ => rfl
theorem fn28 : Tryd.prog.funcs[28]? = some Tryd.f28 := Tryd.func28
theorem bd28 : ((Tryd.prog.funcs[28]?).any fun fn => fn.body.isSome && fn.name != "runtime.NumGoroutine") = true := by kernel_rfl
theorem fap25_0 : ∀ (id i off : Nat), fieldAddrE Tryd.prog 25 0 (.ptr id i off) = some (.ptr id i (off + 0)) := fun _ _ _ => rfl
theorem ok3 : okT Tryd.prog 3 = true := rfl
theorem ag3 : isAggT Tryd.prog 3 = false := rfl
theorem fap25_1 : ∀ (id i off : Nat), fieldAddrE Tryd.prog 25 1 (.ptr id i off) = some (.ptr id i (off + 1)) := fun _ _ _ => rfl
theorem fn17 : Tryd.prog.funcs[17]? = some Tryd.f17 := Tryd.func17
theorem fn18 : Tryd.prog.funcs[18]? = some Tryd.f18 := Tryd.func18
theorem fap27_0 : ∀ (id i off : Nat), fieldAddrE Tryd.prog 27 0 (.ptr id i off) = some (.ptr id i (off + 0)) := fun _ _ _ => rfl
theorem fap27_2 : ∀ (id i off : Nat), fieldAddrE Tryd.prog 27 2 (.ptr id i off) = some (.ptr id i (off + 2)) := fun _ _ _ => rfl
theorem fn11 : Tryd.prog.funcs[11]? = some Tryd.f11 := Tryd.func11
theorem bd11 : ((Tryd.prog.funcs[11]?).any fun fn => fn.body.isSome && fn.name != "runtime.NumGoroutine") = true := by kernel_rfl
theorem fn8 : Tryd.prog.funcs[8]? = some Tryd.f8 := Tryd.func8
theorem bd26 : ((Tryd.prog.funcs[26]?).any fun fn => fn.body.isSome && fn.name != "runtime.NumGoroutine") = true := by kernel_rfl
theorem fn13 : Tryd.prog.funcs[13]? = some Tryd.f13 := Tryd.func13
theorem bd6 : ((Tryd.prog.funcs[6]?).any fun fn => fn.body.isSome && fn.name != "runtime.NumGoroutine") = true := by kernel_rfl
theorem bd17 : ((Tryd.prog.funcs[17]?).any fun fn => fn.body.isSome && fn.name != "runtime.NumGoroutine") = true := by kernel_rfl
theorem bd18 : ((Tryd.prog.funcs[18]?).any fun fn => fn.body.isSome && fn.name != "runtime.NumGoroutine") = true := by kernel_rfl
theorem bd8 : ((Tryd.prog.funcs[8]?).any fun fn => fn.body.isSome && fn.name != "runtime.NumGoroutine") = true := by kernel_rfl
theorem bd13 : ((Tryd.prog.funcs[13]?).any fun fn => fn.body.isSome && fn.name != "runtime.NumGoroutine") = true := by kernel_rfl
theorem fn4 : Tryd.prog.funcs[4]? = some Tryd.f4 := Tryd.func4
-- sieveholes/token.skip$1
def F54 (n : Nat) (t0 : Int) : Option (Bool) := some ((!(eqI t0 10)))
theorem F54_ok (n : Nat) (t0 : Int) (o : (Bool)) (h : F54 n t0 = some o) : PureC Tryd.prog Z 54 [(.sc (.int .u8 t0))] (tb o) := by
  refine pure_of_TS fn54 rfl (N := 5) rfl rfl fun B g0 q0 => ?_
  unfold F54 at h
  refine TS_seq ?_
  refine TS_region ?_
  refine TO_step rfl (S_to rfl rfl (V_assign rfl rfl)) ?_
  refine TO_nil ?_
  refine TS_seq ?_
  refine TS_region ?_
  refine TO_step rfl (S_to rfl rfl (V_move rfl rfl)) ?_
  refine TO_step rfl (S_to rfl rfl (V_bin rfl rfl rfl b_neq)) ?_
  refine TO_step rfl (S_to rfl rfl (V_assign rfl rfl)) ?_
  refine TO_nil ?_
  refine TS_ret ?_
  cases h
  exact ⟨trivial, _, _, (resEs_cons (resE_tmp rfl rfl) resEs_nil), rfl, (Wk.refl _)⟩
-- sieveholes/token.run
def F33_f54_L0 (n : Nat) (t0 : (List UInt8)) : Nat → (Int) → Option (LO ((List UInt8)) (Int))
  | 0, _ => none
  | m0 + 1, s0 => obind (cond ((ltI s0 ((lenL t0)))) (obind (idxS t0 s0) fun x3 => obind (F54 n x3) fun y4 => some y4) (some false)) fun (v1 : (Bool)) => cond v1 (F33_f54_L0 n t0 m0 ((addI .i64 s0 1))) (some (.out s0))
def F33_f54 (n : Nat) (t0 : (List UInt8)) : Option ((List UInt8)) := obind (F33_f54_L0 n t0 n 0) fun out0 => match out0 with | .ret _ => none | .out v6 => obind (cutL t0 0 v6) fun x7 => some x7
theorem F33_f54_ok (n : Nat) (t0 : (List UInt8)) (o : ((List UInt8))) (h : F33_f54 n t0 = some o) : PureC Tryd.prog Z 33 [(str t0), .fn 54 [] []] (str o) := by
  refine pure_of_TS fn33 rfl (N := 22) rfl rfl fun B g0 q0 => ?_
  unfold F33_f54 at h
  refine TS_seq ?_
  refine TS_region ?_
  refine TO_step rfl (S_to rfl rfl (V_assign rfl rfl)) ?_
  refine TO_nil ?_
  refine TS_seq ?_
  refine TS_region ?_
  refine TO_step rfl (S_to rfl rfl (V_assign rfl rfl)) ?_
  refine TO_nil ?_
  refine TS_seq ?_
  refine TS_block ?_
  obtain ⟨out0, hL0, h⟩ := obind_some h
  refine TS_cont (id := 0) (fun (v : (Int)) => out0 = .out v) (fun (v : (Int)) => [(5, (.d (.sc (.int .i64 v)))), (0, (.d (str t0)))]) (fun (v : (Int)) => []) ?_ fun kx0_0 => ?_
  · rintro v6 rfl
    try dsimp only at h
    refine UX_eq ?_
    refine TS_seq ?_
    refine TS_region ?_
    refine TO_step rfl (S_to rfl rfl (V_move rfl rfl)) ?_
    refine TO_step rfl (S_to rfl rfl (V_move rfl rfl)) ?_
    obtain ⟨x7, hx7, h⟩ := obind_some h
    refine TO_step rfl (S_to rfl rfl (V_cutS rfl Tryd.underlying9 rfl rfl rfl hx7)) ?_
    refine TO_step rfl (S_to rfl rfl (V_assign rfl rfl)) ?_
    refine TO_nil ?_
    refine TS_ret ?_
    cases h
    exact ⟨trivial, _, _, (resEs_cons (resE_tmp rfl rfl) resEs_nil), rfl, (Wk.refl _)⟩
  refine TS_loop (F33_f54_L0 n t0) (fun (s : (Int)) => [(5, (.d (.sc (.int .i64 s)))), (0, (.d (str t0))), (1, (.d (.fn 54 [] [])))]) (fun (s : (Int)) => []) out0 hL0 ⟨⟨.inr rfl, .inr rfl, .inr rfl, trivial⟩, ⟨_, rfl⟩, rfl, rfl, rfl⟩ (fun _ => rfl) fun m0 s0 h => ?_
  rw [F33_f54_L0] at h
  refine TS_seq ?_
  refine TS_seq ?_
  obtain ⟨v1, hv1, h⟩ := obind_some h
  refine TS_join (fun (v : (Bool)) => [(16, (.d (tb v))), (5, (.d (.sc (.int .i64 s0)))), (0, (.d (str t0))), (1, (.d (.fn 54 [] [])))]) (fun (v : (Bool)) => []) v1 (.inl rfl) ?_ ?_
  · rcases cond_some h with ⟨hb5, h⟩ | ⟨hb5, h⟩
    · refine TS_true rfl hb5 ?_
      refine TS_skip ?_
      refine TS_block ?_
      refine TS_region ?_
      refine TO_step rfl (S_to rfl rfl (V_move rfl rfl)) ?_
      refine TO_step rfl (S_to rfl rfl (V_bin rfl rfl rfl b_add)) ?_
      refine TO_step rfl (S_to rfl rfl (V_assign rfl rfl)) ?_
      refine TO_nil ?_
      refine TS_b ?_
      exact TS_nil ⟨_, h, ⟨⟨.inr rfl, .inr rfl, .inr rfl, trivial⟩, ⟨_, rfl⟩, rfl, rfl, rfl⟩⟩
    · refine TS_false rfl hb5 ?_
      refine TS_exit ?_
      refine UX_c ?_
      refine UX_up ?_
      exact UX_less (.inl rfl) (kx0_0 _ (Option.some.inj h).symm) ⟨⟨.inr rfl, .inr rfl, trivial⟩, ⟨_, rfl⟩, rfl, rfl, rfl⟩
  · have h := hv1
    refine TS_region ?_
    refine TO_step rfl (S_to rfl rfl (V_move rfl rfl)) ?_
    refine TO_step rfl (S_to rfl rfl (V_move rfl rfl)) ?_
    refine TO_step rfl (S_to rfl rfl (V_lenS ⟨_, rfl, rfl, rfl, rfl⟩ Tryd.underlying9 rfl)) ?_
    refine TO_step rfl (S_to rfl rfl (V_bin rfl rfl rfl b_lss)) ?_
    refine TO_step rfl (S_to rfl rfl (V_move rfl rfl)) ?_
    rcases cond_some h with ⟨hb2, h⟩ | ⟨hb2, h⟩
    · refine TO_stepG rfl rfl rfl rfl hb2 (S_to rfl rfl (V_move rfl rfl)) ?_
      refine TO_stepG rfl rfl rfl rfl hb2 (S_to rfl rfl (V_move rfl rfl)) ?_
      refine TO_stepG rfl rfl rfl rfl hb2 (S_to rfl rfl (V_move rfl rfl)) ?_
      obtain ⟨x3, hx3, h⟩ := obind_some h
      refine TO_stepG rfl rfl rfl rfl hb2 (S_to rfl rfl (V_idxS rfl Tryd.underlying9 rfl rfl hx3)) ?_
      obtain ⟨y4, hy4, h⟩ := obind_some h
      refine TO_stepG rfl rfl rfl rfl hb2 (S_st (S_call rfl rfl rfl rfl bd54 (F54_ok n x3 y4 hy4)) rfl rfl) ?_
      refine TO_step rfl (S_to rfl rfl (V_pickT rfl rfl hb2 rfl rfl)) ?_
      refine TO_nil ?_
      exact TS_nil ⟨_, Option.some.inj h, ⟨⟨.inr rfl, .inr rfl, .inr rfl, .inr rfl, trivial⟩, ⟨_, rfl⟩, rfl, rfl, rfl⟩⟩
    · refine TO_skip rfl rfl rfl rfl hb2 ?_
      refine TO_skip rfl rfl rfl rfl hb2 ?_
      refine TO_skip rfl rfl rfl rfl hb2 ?_
      refine TO_skip rfl rfl rfl rfl hb2 ?_
      refine TO_skip rfl rfl rfl rfl hb2 ?_
      refine TO_step rfl (S_to rfl rfl (V_pickF rfl rfl hb2 rfl rfl)) ?_
      refine TO_nil ?_
      exact TS_nil ⟨_, Option.some.inj h, ⟨⟨.inr rfl, .inr rfl, .inr rfl, .inr rfl, trivial⟩, ⟨_, rfl⟩, rfl, rfl, rfl⟩⟩
-- internal/stringslite.IndexByte
def F63 (n : Nat) (t0 : (List UInt8)) (t1 : Int) : Option (Int) := obind (X71 n t0 t1) fun y0 => some y0
theorem F63_ok (n : Nat) (t0 : (List UInt8)) (t1 : Int) (o : (Int)) (h : F63 n t0 t1 = some o) : PureC Tryd.prog Z 63 [(str t0), (.sc (.int .u8 t1))] (.sc (.int .i64 o)) := by
  refine pure_of_TS fn63 rfl (N := 8) rfl rfl fun B g0 q0 => ?_
  unfold F63 at h
  refine TS_seq ?_
  refine TS_region ?_
  refine TO_step rfl (S_to rfl rfl (V_assign rfl rfl)) ?_
  refine TO_nil ?_
  refine TS_seq ?_
  refine TS_region ?_
  refine TO_step rfl (S_to rfl rfl (V_move rfl rfl)) ?_
  refine TO_step rfl (S_to rfl rfl (V_move rfl rfl)) ?_
  obtain ⟨y0, hy0, h⟩ := obind_some h
  refine TO_step rfl (S_st (S_callX rfl rfl rfl rfl (X71_ok n t0 t1 y0 hy0)) rfl rfl) ?_
  refine TO_step rfl (S_to rfl rfl (V_assign rfl rfl)) ?_
  refine TO_nil ?_
  refine TS_ret ?_
  cases h
  exact ⟨trivial, _, _, (resEs_cons (resE_tmp rfl rfl) resEs_nil), rfl, (Wk.refl _)⟩
-- strings.IndexByte
def F55 (n : Nat) (t0 : (List UInt8)) (t1 : Int) : Option (Int) := obind (F63 n t0 t1) fun y0 => some y0
theorem F55_ok (n : Nat) (t0 : (List UInt8)) (t1 : Int) (o : (Int)) (h : F55 n t0 t1 = some o) : PureC Tryd.prog Z 55 [(str t0), (.sc (.int .u8 t1))] (.sc (.int .i64 o)) := by
  refine pure_of_TS fn55 rfl (N := 8) rfl rfl fun B g0 q0 => ?_
  unfold F55 at h
  refine TS_seq ?_
  refine TS_region ?_
  refine TO_step rfl (S_to rfl rfl (V_assign rfl rfl)) ?_
  refine TO_nil ?_
  refine TS_seq ?_
  refine TS_region ?_
  refine TO_step rfl (S_to rfl rfl (V_move rfl rfl)) ?_
  refine TO_step rfl (S_to rfl rfl (V_move rfl rfl)) ?_
  obtain ⟨y0, hy0, h⟩ := obind_some h
  refine TO_step rfl (S_st (S_call rfl rfl rfl rfl bd63 (F63_ok n t0 t1 y0 hy0)) rfl rfl) ?_
  refine TO_step rfl (S_to rfl rfl (V_assign rfl rfl)) ?_
  refine TO_nil ?_
  refine TS_ret ?_
  cases h
  exact ⟨trivial, _, _, (resEs_cons (resE_tmp rfl rfl) resEs_nil), rfl, (Wk.refl _)⟩
-- sieveholes/token.skip
def F44_L0 (n : Nat) (t0 : (List UInt8)) : Nat → (Int) → Option (LO (Int) (Int))
  | 0, _ => none
  | m0 + 1, s0 => cond ((ltI s0 ((lenL t0)))) (obind (idxS t0 s0) fun x2 => cond ((eqI x2 35)) (obind (cutL t0 s0 ((lenL t0))) fun x4 => obind (F33_f54 n x4) fun y5 => F44_L0 n t0 m0 ((addI .i64 s0 ((lenL y5))))) (obind (idxS t0 s0) fun x6 => obind (F55 n (([9, 10, 13, 32] : List UInt8)) x6) fun y7 => cond ((leI 0 y7)) (F44_L0 n t0 m0 ((addI .i64 s0 1))) (some (.ret s0)))) (some (.out s0))
def F44 (n : Nat) (t0 : (List UInt8)) (t1 : Int) : Option (Int) := obind (F44_L0 n t0 n t1) fun out0 => match out0 with | .ret r => some r | .out v9 => some v9
theorem F44_ok (n : Nat) (t0 : (List UInt8)) (t1 : Int) (o : (Int)) (h : F44 n t0 t1 = some o) : PureC Tryd.prog Z 44 [(str t0), (.sc (.int .i64 t1))] (.sc (.int .i64 o)) := by
  refine pure_of_TS fn44 rfl (N := 31) rfl rfl fun B g0 q0 => ?_
  unfold F44 at h
  refine TS_seq ?_
  refine TS_region ?_
  refine TO_step rfl (S_to rfl rfl (V_assign rfl rfl)) ?_
  refine TO_nil ?_
  refine TS_seq ?_
  refine TS_block ?_
  obtain ⟨out0, hL0, h⟩ := obind_some h
  have kr0 : ∀ r, out0 = .ret r → some r = some o := by rintro r rfl; exact h
  refine TS_cont (id := 0) (fun (v : (Int)) => out0 = .out v) (fun (v : (Int)) => [(1, (.d (.sc (.int .i64 v))))]) (fun (v : (Int)) => []) ?_ fun kx0_0 => ?_
  · rintro v9 rfl
    try dsimp only at h
    refine UX_eq ?_
    refine TS_seq ?_
    refine TS_region ?_
    refine TO_step rfl (S_to rfl rfl (V_move rfl rfl)) ?_
    refine TO_step rfl (S_to rfl rfl (V_assign rfl rfl)) ?_
    refine TO_nil ?_
    refine TS_ret ?_
    cases h
    exact ⟨trivial, _, _, (resEs_cons (resE_tmp rfl rfl) resEs_nil), rfl, (Wk.refl _)⟩
  refine TS_loop (F44_L0 n t0) (fun (s : (Int)) => [(1, (.d (.sc (.int .i64 s)))), (0, (.d (str t0)))]) (fun (s : (Int)) => []) out0 hL0 ⟨⟨.inr rfl, .inr rfl, trivial⟩, ⟨_, rfl⟩, rfl, rfl, rfl⟩ (fun _ => rfl) fun m0 s0 h => ?_
  rw [F44_L0] at h
  refine TS_seq ?_
  refine TS_seq ?_
  refine TS_region ?_
  refine TO_step rfl (S_to rfl rfl (V_move rfl rfl)) ?_
  refine TO_step rfl (S_to rfl rfl (V_move rfl rfl)) ?_
  refine TO_step rfl (S_to rfl rfl (V_lenS ⟨_, rfl, rfl, rfl, rfl⟩ Tryd.underlying9 rfl)) ?_
  refine TO_step rfl (S_to rfl rfl (V_bin rfl rfl rfl b_lss)) ?_
  refine TO_nil ?_
  rcases cond_some h with ⟨hb1, h⟩ | ⟨hb1, h⟩
  · refine TS_true rfl hb1 ?_
    refine TS_skip ?_
    refine TS_block ?_
    refine TS_block ?_
    refine TS_seq ?_
    refine TS_region ?_
    refine TO_step rfl (S_to rfl rfl (V_move rfl rfl)) ?_
    refine TO_step rfl (S_to rfl rfl (V_move rfl rfl)) ?_
    obtain ⟨x2, hx2, h⟩ := obind_some h
    refine TO_step rfl (S_to rfl rfl (V_idxS rfl Tryd.underlying9 rfl rfl hx2)) ?_
    refine TO_step rfl (S_to rfl rfl (V_bin rfl rfl rfl b_eql)) ?_
    refine TO_step rfl (S_to rfl rfl (V_assign rfl rfl)) ?_
    refine TO_nil ?_
    rcases cond_some h with ⟨hb3, h⟩ | ⟨hb3, h⟩
    · refine TS_true rfl hb3 ?_
      refine TS_region ?_
      refine TO_step rfl (S_to rfl rfl (V_move rfl rfl)) ?_
      refine TO_step rfl (S_to rfl rfl (V_move rfl rfl)) ?_
      refine TO_step rfl (S_to rfl rfl (V_move rfl rfl)) ?_
      obtain ⟨x4, hx4, h⟩ := obind_some h
      refine TO_step rfl (S_to rfl rfl (V_cutS rfl Tryd.underlying9 rfl rfl rfl hx4)) ?_
      obtain ⟨y5, hy5, h⟩ := obind_some h
      refine TO_step rfl (S_st (S_call rfl rfl rfl rfl bd33 (F33_f54_ok n x4 y5 hy5)) rfl rfl) ?_
      refine TO_step rfl (S_to rfl rfl (V_lenS ⟨_, rfl, rfl, rfl, rfl⟩ Tryd.underlying9 rfl)) ?_
      refine TO_step rfl (S_to rfl rfl (V_bin rfl rfl rfl b_add)) ?_
      refine TO_step rfl (S_to rfl rfl (V_assign rfl rfl)) ?_
      refine TO_nil ?_
      refine TS_b ?_
      refine TS_b ?_
      exact TS_nil ⟨_, h, ⟨⟨.inr rfl, .inr rfl, trivial⟩, ⟨_, rfl⟩, rfl, rfl, rfl⟩⟩
    · refine TS_false rfl hb3 ?_
      refine TS_seq ?_
      refine TS_region ?_
      refine TO_step rfl (S_to rfl rfl (V_move rfl rfl)) ?_
      refine TO_step rfl (S_to rfl rfl (V_move rfl rfl)) ?_
      obtain ⟨x6, hx6, h⟩ := obind_some h
      refine TO_step rfl (S_to rfl rfl (V_idxS rfl Tryd.underlying9 rfl rfl hx6)) ?_
      obtain ⟨y7, hy7, h⟩ := obind_some h
      refine TO_step rfl (S_st (S_call rfl rfl rfl rfl bd55 (F55_ok n (([9, 10, 13, 32] : List UInt8)) x6 y7 hy7)) rfl rfl) ?_
      refine TO_step rfl (S_to rfl rfl (V_bin rfl rfl rfl b_geq)) ?_
      refine TO_step rfl (S_to rfl rfl (V_assign rfl rfl)) ?_
      refine TO_nil ?_
      rcases cond_some h with ⟨hb8, h⟩ | ⟨hb8, h⟩
      · refine TS_true rfl hb8 ?_
        refine TS_region ?_
        refine TO_step rfl (S_to rfl rfl (V_move rfl rfl)) ?_
        refine TO_step rfl (S_to rfl rfl (V_bin rfl rfl rfl b_add)) ?_
        refine TO_step rfl (S_to rfl rfl (V_assign rfl rfl)) ?_
        refine TO_nil ?_
        refine TS_b ?_
        refine TS_b ?_
        exact TS_nil ⟨_, h, ⟨⟨.inr rfl, .inr rfl, trivial⟩, ⟨_, rfl⟩, rfl, rfl, rfl⟩⟩
      · refine TS_false rfl hb8 ?_
        refine TS_seq ?_
        refine TS_region ?_
        refine TO_step rfl (S_to rfl rfl (V_move rfl rfl)) ?_
        refine TO_step rfl (S_to rfl rfl (V_assign rfl rfl)) ?_
        refine TO_nil ?_
        refine TS_ret ?_
        refine ret_up ?_
        have h := kr0 _ (Option.some.inj h).symm
        cases h
        exact ⟨trivial, _, _, (resEs_cons (resE_tmp rfl rfl) resEs_nil), rfl, (Wk.refl _)⟩
  · refine TS_false rfl hb1 ?_
    refine TS_exit ?_
    refine UX_c ?_
    refine UX_up ?_
    exact UX_less (.inl rfl) (kx0_0 _ (Option.some.inj h).symm) ⟨⟨.inr rfl, trivial⟩, ⟨_, rfl⟩, rfl, rfl, rfl⟩
-- unicode/utf8.RuneCountInString
def F64 (n : Nat) (t0 : (List UInt8)) : Option (Int) := none
theorem F64_ok (n : Nat) (t0 : (List UInt8)) (o : (Int)) (h : F64 n t0 = some o) : PureC Tryd.prog Z 64 [(str t0)] (.sc (.int .i64 o)) := by
  refine pure_of_TS fn64 rfl (N := 10) rfl rfl fun B g0 q0 => ?_
  unfold F64 at h
  refine TS_seq ?_
  refine TS_region ?_
  refine TO_step rfl (S_to rfl rfl (V_assign rfl rfl)) ?_
  refine TO_nil ?_
  refine TS_seq ?_
  refine TS_seq ?_
  refine TS_region ?_
  refine TO_step rfl (S_to rfl rfl (V_move rfl rfl)) ?_
  cases h
-- internal/stringslite.Index
def F69 (n : Nat) (t0 : (List UInt8)) (t1 : (List UInt8)) : Option (Int) := obind (cond ((eqI ((lenL t1)) 0)) (some true) (some ((eqS t1 t0)))) fun (v0 : (Bool)) => cond v0 (some 0) (cond ((eqI ((lenL t1)) 1)) (obind (idxS t1 0) fun x4 => obind (F63 n t0 x4) fun y5 => some y5) (cond ((leI ((lenL t0)) ((lenL t1)))) (some (-1)) (none)))
theorem F69_ok (n : Nat) (t0 : (List UInt8)) (t1 : (List UInt8)) (o : (Int)) (h : F69 n t0 t1 = some o) : PureC Tryd.prog Z 69 [(str t0), (str t1)] (.sc (.int .i64 o)) := by
  refine pure_of_TS fn69 rfl (N := 143) rfl rfl fun B g0 q0 => ?_
  unfold F69 at h
  refine TS_seq ?_
  refine TS_region ?_
  refine TO_step rfl (S_to rfl rfl (V_assign rfl rfl)) ?_
  refine TO_nil ?_
  refine TS_seq ?_
  refine TS_region ?_
  refine TO_step rfl (S_to rfl rfl (V_move rfl rfl)) ?_
  refine TO_step rfl (S_to rfl rfl (V_lenS ⟨_, rfl, rfl, rfl, rfl⟩ Tryd.underlying9 rfl)) ?_
  refine TO_step rfl (S_to rfl rfl (V_assign rfl rfl)) ?_
  refine TO_nil ?_
  refine TS_seq ?_
  refine TS_block ?_
  refine TS_seq ?_
  obtain ⟨v0, hv0, h⟩ := obind_some h
  refine TS_join (fun (v : (Bool)) => [(16, (.d (tb v))), (5, (.d (.sc (.int .i64 ((lenL t1)))))), (0, (.d (str t0))), (1, (.d (str t1)))]) (fun (v : (Bool)) => []) v0 (.inl rfl) ?_ ?_
  · rcases cond_some h with ⟨hb2, h⟩ | ⟨hb2, h⟩
    · refine TS_true rfl hb2 ?_
      refine TS_seq ?_
      refine TS_region ?_
      refine TO_step rfl (S_to rfl rfl (V_assign rfl rfl)) ?_
      refine TO_nil ?_
      refine TS_ret ?_
      cases h
      exact ⟨trivial, _, _, (resEs_cons (resE_tmp rfl rfl) resEs_nil), rfl, (Wk.refl _)⟩
    · refine TS_false rfl hb2 ?_
      refine TS_seq ?_
      refine TS_region ?_
      refine TO_step rfl (S_to rfl rfl (V_move rfl rfl)) ?_
      refine TO_step rfl (S_to rfl rfl (V_bin rfl rfl rfl b_eql)) ?_
      refine TO_step rfl (S_to rfl rfl (V_assign rfl rfl)) ?_
      refine TO_nil ?_
      rcases cond_some h with ⟨hb3, h⟩ | ⟨hb3, h⟩
      · refine TS_true rfl hb3 ?_
        refine TS_seq ?_
        refine TS_region ?_
        refine TO_step rfl (S_to rfl rfl (V_move rfl rfl)) ?_
        refine TO_step rfl (S_to rfl rfl (V_move rfl rfl)) ?_
        obtain ⟨x4, hx4, h⟩ := obind_some h
        refine TO_step rfl (S_to rfl rfl (V_idxS rfl Tryd.underlying9 rfl rfl hx4)) ?_
        obtain ⟨y5, hy5, h⟩ := obind_some h
        refine TO_step rfl (S_st (S_call rfl rfl rfl rfl bd63 (F63_ok n t0 x4 y5 hy5)) rfl rfl) ?_
        refine TO_step rfl (S_to rfl rfl (V_assign rfl rfl)) ?_
        refine TO_nil ?_
        refine TS_ret ?_
        cases h
        exact ⟨trivial, _, _, (resEs_cons (resE_tmp rfl rfl) resEs_nil), rfl, (Wk.refl _)⟩
      · refine TS_false rfl hb3 ?_
        refine TS_seq ?_
        refine TS_region ?_
        refine TO_step rfl (S_to rfl rfl (V_move rfl rfl)) ?_
        refine TO_step rfl (S_to rfl rfl (V_move rfl rfl)) ?_
        refine TO_step rfl (S_to rfl rfl (V_lenS ⟨_, rfl, rfl, rfl, rfl⟩ Tryd.underlying9 rfl)) ?_
        refine TO_step rfl (S_to rfl rfl (V_bin rfl rfl rfl b_geq)) ?_
        refine TO_step rfl (S_to rfl rfl (V_assign rfl rfl)) ?_
        refine TO_nil ?_
        rcases cond_some h with ⟨hb6, h⟩ | ⟨hb6, h⟩
        · refine TS_true rfl hb6 ?_
          refine TS_seq ?_
          refine TS_region ?_
          refine TO_step rfl (S_to rfl rfl (V_assign rfl rfl)) ?_
          refine TO_nil ?_
          refine TS_ret ?_
          cases h
          exact ⟨trivial, _, _, (resEs_cons (resE_tmp rfl rfl) resEs_nil), rfl, (Wk.refl _)⟩
        · refine TS_false rfl hb6 ?_
          refine TS_seq ?_
          refine TS_region ?_
          refine TO_step rfl (S_to rfl rfl (V_move rfl rfl)) ?_
          cases h
  · have h := hv0
    refine TS_region ?_
    refine TO_step rfl (S_to rfl rfl (V_move rfl rfl)) ?_
    refine TO_step rfl (S_to rfl rfl (V_bin rfl rfl rfl b_eql)) ?_
    refine TO_step rfl (S_to rfl rfl (V_move rfl rfl)) ?_
    rcases cond_some h with ⟨hb1, h⟩ | ⟨hb1, h⟩
    · refine TO_skip rfl rfl rfl rfl hb1 ?_
      refine TO_skip rfl rfl rfl rfl hb1 ?_
      refine TO_skip rfl rfl rfl rfl hb1 ?_
      refine TO_step rfl (S_to rfl rfl (V_pickT rfl rfl hb1 rfl rfl)) ?_
      refine TO_step rfl (S_to rfl rfl (V_assign rfl rfl)) ?_
      refine TO_nil ?_
      exact TS_nil ⟨_, Option.some.inj h, ⟨⟨.inr rfl, .inr rfl, .inr rfl, .inr rfl, trivial⟩, ⟨_, rfl⟩, rfl, rfl, rfl⟩⟩
    · refine TO_stepG rfl rfl rfl rfl hb1 (S_to rfl rfl (V_move rfl rfl)) ?_
      refine TO_stepG rfl rfl rfl rfl hb1 (S_to rfl rfl (V_move rfl rfl)) ?_
      refine TO_stepG rfl rfl rfl rfl hb1 (S_to rfl rfl (V_bin rfl rfl rfl bs_eql)) ?_
      refine TO_step rfl (S_to rfl rfl (V_pickF rfl rfl hb1 rfl rfl)) ?_
      refine TO_step rfl (S_to rfl rfl (V_assign rfl rfl)) ?_
      refine TO_nil ?_
      exact TS_nil ⟨_, Option.some.inj h, ⟨⟨.inr rfl, .inr rfl, .inr rfl, .inr rfl, trivial⟩, ⟨_, rfl⟩, rfl, rfl, rfl⟩⟩
-- strings.Index
def F66 (n : Nat) (t0 : (List UInt8)) (t1 : (List UInt8)) : Option (Int) := obind (F69 n t0 t1) fun y0 => some y0
theorem F66_ok (n : Nat) (t0 : (List UInt8)) (t1 : (List UInt8)) (o : (Int)) (h : F66 n t0 t1 = some o) : PureC Tryd.prog Z 66 [(str t0), (str t1)] (.sc (.int .i64 o)) := by
  refine pure_of_TS fn66 rfl (N := 8) rfl rfl fun B g0 q0 => ?_
  unfold F66 at h
  refine TS_seq ?_
  refine TS_region ?_
  refine TO_step rfl (S_to rfl rfl (V_assign rfl rfl)) ?_
  refine TO_nil ?_
  refine TS_seq ?_
  refine TS_region ?_
  refine TO_step rfl (S_to rfl rfl (V_move rfl rfl)) ?_
  refine TO_step rfl (S_to rfl rfl (V_move rfl rfl)) ?_
  obtain ⟨y0, hy0, h⟩ := obind_some h
  refine TO_step rfl (S_st (S_call rfl rfl rfl rfl bd69 (F69_ok n t0 t1 y0 hy0)) rfl rfl) ?_
  refine TO_step rfl (S_to rfl rfl (V_assign rfl rfl)) ?_
  refine TO_nil ?_
  refine TS_ret ?_
  cases h
  exact ⟨trivial, _, _, (resEs_cons (resE_tmp rfl rfl) resEs_nil), rfl, (Wk.refl _)⟩
-- strings.Count
def F56_L5 (n : Nat) (t1 : (List UInt8)) : Nat → (Int × (List UInt8)) → Option (LO (Int) Unit)
  | 0, _ => none
  | m5 + 1, s5 => obind (F66 n s5.2 t1) fun y6 => cond ((eqI y6 (-1))) (some (.ret s5.1)) (obind (cutL s5.2 ((addI .i64 y6 ((lenL t1)))) ((lenL s5.2))) fun x8 => F56_L5 n t1 m5 ((addI .i64 s5.1 1), x8))
def F56 (n : Nat) (t0 : (List UInt8)) (t1 : (List UInt8)) : Option (Int) := cond ((eqI ((lenL t1)) 0)) (obind (F64 n t0) fun y1 => some ((addI .i64 y1 1))) (cond ((eqI ((lenL t1)) 1)) (obind (idxS t1 0) fun x3 => obind (X65 n t0 x3) fun y4 => some y4) (obind (F56_L5 n t1 n (0, t0)) fun out5 => match out5 with | .ret r => some r | .out _ => none))
theorem F56_ok (n : Nat) (t0 : (List UInt8)) (t1 : (List UInt8)) (o : (Int)) (h : F56 n t0 t1 = some o) : PureC Tryd.prog Z 56 [(str t0), (str t1)] (.sc (.int .i64 o)) := by
  refine pure_of_TS fn56 rfl (N := 34) rfl rfl fun B g0 q0 => ?_
  unfold F56 at h
  refine TS_seq ?_
  refine TS_region ?_
  refine TO_step rfl (S_to rfl rfl (V_assign rfl rfl)) ?_
  refine TO_nil ?_
  refine TS_seq ?_
  refine TS_seq ?_
  refine TS_region ?_
  refine TO_step rfl (S_to rfl rfl (V_move rfl rfl)) ?_
  refine TO_step rfl (S_to rfl rfl (V_lenS ⟨_, rfl, rfl, rfl, rfl⟩ Tryd.underlying9 rfl)) ?_
  refine TO_step rfl (S_to rfl rfl (V_bin rfl rfl rfl b_eql)) ?_
  refine TO_nil ?_
  rcases cond_some h with ⟨hb0, h⟩ | ⟨hb0, h⟩
  · refine TS_true rfl hb0 ?_
    refine TS_seq ?_
    refine TS_region ?_
    refine TO_step rfl (S_to rfl rfl (V_move rfl rfl)) ?_
    obtain ⟨y1, hy1, h⟩ := obind_some h
    refine TO_step rfl (S_st (S_call rfl rfl rfl rfl bd64 (F64_ok n t0 y1 hy1)) rfl rfl) ?_
    refine TO_step rfl (S_to rfl rfl (V_bin rfl rfl rfl b_add)) ?_
    refine TO_step rfl (S_to rfl rfl (V_assign rfl rfl)) ?_
    refine TO_nil ?_
    refine TS_ret ?_
    cases h
    exact ⟨trivial, _, _, (resEs_cons (resE_tmp rfl rfl) resEs_nil), rfl, (Wk.refl _)⟩
  · refine TS_false rfl hb0 ?_
    refine TS_skip ?_
    refine TS_seq ?_
    refine TS_seq ?_
    refine TS_region ?_
    refine TO_step rfl (S_to rfl rfl (V_move rfl rfl)) ?_
    refine TO_step rfl (S_to rfl rfl (V_lenS ⟨_, rfl, rfl, rfl, rfl⟩ Tryd.underlying9 rfl)) ?_
    refine TO_step rfl (S_to rfl rfl (V_bin rfl rfl rfl b_eql)) ?_
    refine TO_nil ?_
    rcases cond_some h with ⟨hb2, h⟩ | ⟨hb2, h⟩
    · refine TS_true rfl hb2 ?_
      refine TS_seq ?_
      refine TS_region ?_
      refine TO_step rfl (S_to rfl rfl (V_move rfl rfl)) ?_
      refine TO_step rfl (S_to rfl rfl (V_move rfl rfl)) ?_
      obtain ⟨x3, hx3, h⟩ := obind_some h
      refine TO_step rfl (S_to rfl rfl (V_idxS rfl Tryd.underlying9 rfl rfl hx3)) ?_
      obtain ⟨y4, hy4, h⟩ := obind_some h
      refine TO_step rfl (S_st (S_callX rfl rfl rfl rfl (X65_ok n t0 x3 y4 hy4)) rfl rfl) ?_
      refine TO_step rfl (S_to rfl rfl (V_assign rfl rfl)) ?_
      refine TO_nil ?_
      refine TS_ret ?_
      cases h
      exact ⟨trivial, _, _, (resEs_cons (resE_tmp rfl rfl) resEs_nil), rfl, (Wk.refl _)⟩
    · refine TS_false rfl hb2 ?_
      refine TS_skip ?_
      refine TS_seq ?_
      refine TS_region ?_
      refine TO_step rfl (S_to rfl rfl (V_assign rfl rfl)) ?_
      refine TO_nil ?_
      refine TS_block ?_
      obtain ⟨out5, hL5, h⟩ := obind_some h
      have kr5 : ∀ r, out5 = .ret r → some r = some o := by rintro r rfl; exact h
      refine TS_loop (F56_L5 n t1) (fun (s : (Int × (List UInt8))) => [(0, (.d (str s.2))), (5, (.d (.sc (.int .i64 s.1)))), (1, (.d (str t1)))]) (fun (s : (Int × (List UInt8))) => []) out5 hL5 ⟨⟨.inr rfl, .inr rfl, .inr rfl, trivial⟩, ⟨_, rfl⟩, rfl, rfl, rfl⟩ (fun _ => rfl) fun m5 s5 h => ?_
      rw [F56_L5] at h
      refine TS_block ?_
      refine TS_seq ?_
      refine TS_region ?_
      refine TO_step rfl (S_to rfl rfl (V_move rfl rfl)) ?_
      refine TO_step rfl (S_to rfl rfl (V_move rfl rfl)) ?_
      obtain ⟨y6, hy6, h⟩ := obind_some h
      refine TO_step rfl (S_st (S_call rfl rfl rfl rfl bd66 (F66_ok n s5.2 t1 y6 hy6)) rfl rfl) ?_
      refine TO_step rfl (S_to rfl rfl (V_assign rfl rfl)) ?_
      refine TO_nil ?_
      refine TS_seq ?_
      refine TS_seq ?_
      refine TS_region ?_
      refine TO_step rfl (S_to rfl rfl (V_move rfl rfl)) ?_
      refine TO_step rfl (S_to rfl rfl (V_bin rfl rfl rfl b_eql)) ?_
      refine TO_nil ?_
      rcases cond_some h with ⟨hb7, h⟩ | ⟨hb7, h⟩
      · refine TS_true rfl hb7 ?_
        refine TS_seq ?_
        refine TS_region ?_
        refine TO_step rfl (S_to rfl rfl (V_move rfl rfl)) ?_
        refine TO_step rfl (S_to rfl rfl (V_assign rfl rfl)) ?_
        refine TO_nil ?_
        refine TS_ret ?_
        refine ret_up ?_
        have h := kr5 _ (Option.some.inj h).symm
        cases h
        exact ⟨trivial, _, _, (resEs_cons (resE_tmp rfl rfl) resEs_nil), rfl, (Wk.refl _)⟩
      · refine TS_false rfl hb7 ?_
        refine TS_skip ?_
        refine TS_seq ?_
        refine TS_region ?_
        refine TO_step rfl (S_to rfl rfl (V_move rfl rfl)) ?_
        refine TO_step rfl (S_to rfl rfl (V_bin rfl rfl rfl b_add)) ?_
        refine TO_step rfl (S_to rfl rfl (V_assign rfl rfl)) ?_
        refine TO_nil ?_
        refine TS_region ?_
        refine TO_step rfl (S_to rfl rfl (V_move rfl rfl)) ?_
        refine TO_step rfl (S_to rfl rfl (V_move rfl rfl)) ?_
        refine TO_step rfl (S_to rfl rfl (V_move rfl rfl)) ?_
        refine TO_step rfl (S_to rfl rfl (V_lenS ⟨_, rfl, rfl, rfl, rfl⟩ Tryd.underlying9 rfl)) ?_
        refine TO_step rfl (S_to rfl rfl (V_bin rfl rfl rfl b_add)) ?_
        obtain ⟨x8, hx8, h⟩ := obind_some h
        refine TO_step rfl (S_to rfl rfl (V_cutS rfl Tryd.underlying9 rfl rfl rfl hx8)) ?_
        refine TO_step rfl (S_to rfl rfl (V_assign rfl rfl)) ?_
        refine TO_nil ?_
        refine TS_b ?_
        exact TS_nil ⟨_, h, ⟨⟨.inr rfl, .inr rfl, .inr rfl, trivial⟩, ⟨_, rfl⟩, rfl, rfl, rfl⟩⟩
-- internal/bytealg.LastIndexByteString
def F67_L0 (t0 : (List UInt8)) (t1 : Int) : Nat → (Int) → Option (LO (Int) Unit)
  | 0, _ => none
  | m0 + 1, s0 => cond ((leI 0 s0)) (obind (idxS t0 s0) fun x2 => cond ((eqI x2 t1)) (some (.ret s0)) (F67_L0 t0 t1 m0 ((subI .i64 s0 1)))) (some (.out ()))
def F67 (n : Nat) (t0 : (List UInt8)) (t1 : Int) : Option (Int) := obind (F67_L0 t0 t1 n ((subI .i64 ((lenL t0)) 1))) fun out0 => match out0 with | .ret r => some r | .out v4 => some (-1)
theorem F67_ok (n : Nat) (t0 : (List UInt8)) (t1 : Int) (o : (Int)) (h : F67 n t0 t1 = some o) : PureC Tryd.prog Z 67 [(str t0), (.sc (.int .u8 t1))] (.sc (.int .i64 o)) := by
  refine pure_of_TS fn67 rfl (N := 19) rfl rfl fun B g0 q0 => ?_
  unfold F67 at h
  refine TS_seq ?_
  refine TS_region ?_
  refine TO_step rfl (S_to rfl rfl (V_assign rfl rfl)) ?_
  refine TO_nil ?_
  refine TS_seq ?_
  refine TS_seq ?_
  refine TS_region ?_
  refine TO_step rfl (S_to rfl rfl (V_move rfl rfl)) ?_
  refine TO_step rfl (S_to rfl rfl (V_lenS ⟨_, rfl, rfl, rfl, rfl⟩ Tryd.underlying9 rfl)) ?_
  refine TO_step rfl (S_to rfl rfl (V_bin rfl rfl rfl b_sub)) ?_
  refine TO_step rfl (S_to rfl rfl (V_assign rfl rfl)) ?_
  refine TO_nil ?_
  refine TS_block ?_
  obtain ⟨out0, hL0, h⟩ := obind_some h
  have kr0 : ∀ r, out0 = .ret r → some r = some o := by rintro r rfl; exact h
  refine TS_cont (id := 0) (fun (v : Unit) => out0 = .out v) (fun (v : Unit) => []) (fun (v : Unit) => []) ?_ fun kx0_0 => ?_
  · rintro v4 rfl
    try dsimp only at h
    refine UX_eq ?_
    refine TS_seq ?_
    refine TS_region ?_
    refine TO_step rfl (S_to rfl rfl (V_assign rfl rfl)) ?_
    refine TO_nil ?_
    refine TS_ret ?_
    cases h
    exact ⟨trivial, _, _, (resEs_cons (resE_tmp rfl rfl) resEs_nil), rfl, (Wk.refl _)⟩
  refine TS_loop (F67_L0 t0 t1) (fun (s : (Int)) => [(5, (.d (.sc (.int .i64 s)))), (0, (.d (str t0))), (1, (.d (.sc (.int .u8 t1))))]) (fun (s : (Int)) => []) out0 hL0 ⟨⟨.inr rfl, .inr rfl, .inr rfl, trivial⟩, ⟨_, rfl⟩, rfl, rfl, rfl⟩ (fun _ => rfl) fun m0 s0 h => ?_
  rw [F67_L0] at h
  refine TS_seq ?_
  refine TS_seq ?_
  refine TS_region ?_
  refine TO_step rfl (S_to rfl rfl (V_move rfl rfl)) ?_
  refine TO_step rfl (S_to rfl rfl (V_bin rfl rfl rfl b_geq)) ?_
  refine TO_nil ?_
  rcases cond_some h with ⟨hb1, h⟩ | ⟨hb1, h⟩
  · refine TS_true rfl hb1 ?_
    refine TS_skip ?_
    refine TS_seq ?_
    refine TS_block ?_
    refine TS_seq ?_
    refine TS_region ?_
    refine TO_step rfl (S_to rfl rfl (V_move rfl rfl)) ?_
    refine TO_step rfl (S_to rfl rfl (V_move rfl rfl)) ?_
    obtain ⟨x2, hx2, h⟩ := obind_some h
    refine TO_step rfl (S_to rfl rfl (V_idxS rfl Tryd.underlying9 rfl rfl hx2)) ?_
    refine TO_step rfl (S_to rfl rfl (V_move rfl rfl)) ?_
    refine TO_step rfl (S_to rfl rfl (V_bin rfl rfl rfl b_eql)) ?_
    refine TO_nil ?_
    rcases cond_some h with ⟨hb3, h⟩ | ⟨hb3, h⟩
    · refine TS_true rfl hb3 ?_
      refine TS_seq ?_
      refine TS_region ?_
      refine TO_step rfl (S_to rfl rfl (V_move rfl rfl)) ?_
      refine TO_step rfl (S_to rfl rfl (V_assign rfl rfl)) ?_
      refine TO_nil ?_
      refine TS_ret ?_
      refine ret_up ?_
      have h := kr0 _ (Option.some.inj h).symm
      cases h
      exact ⟨trivial, _, _, (resEs_cons (resE_tmp rfl rfl) resEs_nil), rfl, (Wk.refl _)⟩
    · refine TS_false rfl hb3 ?_
      refine TS_skip ?_
      refine TS_b ?_
      refine TS_region ?_
      refine TO_step rfl (S_to rfl rfl (V_move rfl rfl)) ?_
      refine TO_step rfl (S_to rfl rfl (V_bin rfl rfl rfl b_sub)) ?_
      refine TO_step rfl (S_to rfl rfl (V_assign rfl rfl)) ?_
      refine TO_nil ?_
      exact TS_nil ⟨_, h, ⟨⟨.inr rfl, .inr rfl, .inr rfl, trivial⟩, ⟨_, rfl⟩, rfl, rfl, rfl⟩⟩
  · refine TS_false rfl hb1 ?_
    refine TS_exit ?_
    refine UX_c ?_
    refine UX_up ?_
    exact UX_less (.inl rfl) (kx0_0 _ (Option.some.inj h).symm) ⟨trivial, ⟨_, rfl⟩, rfl, rfl, rfl⟩
-- internal/bytealg.hashStrRev[string]
def F72_L0 (t0 : (List UInt8)) : Nat → (Int × Int) → Option (LO (Int × Int) (Int))
  | 0, _ => none
  | m0 + 1, s0 => cond ((leI 0 s0.1)) (obind (idxS t0 s0.1) fun x2 => F72_L0 t0 m0 ((subI .i64 s0.1 1), (addI .u32 ((mulI .u32 s0.2 16777619)) ((wr .u32 x2))))) (some (.out s0.2))
def F72_L4 (t0 : (List UInt8)) : Nat → Unit → Option (LO (Int × Int) Unit)
  | 0, _ => none
  | m4 + 1, s4 => cond ((ltI 0 ((lenL t0)))) (none) (some (.out ()))
def F72 (n : Nat) (t0 : (List UInt8)) : Option (Int × Int) := obind (F72_L0 t0 n ((subI .i64 ((lenL t0)) 1), 0)) fun out0 => match out0 with | .ret _ => none | .out v3 => obind (F72_L4 t0 n ()) fun out4 => match out4 with | .ret _ => none | .out v6 => some (v3, 1)
theorem F72_ok (n : Nat) (t0 : (List UInt8)) (o : (Int × Int)) (h : F72 n t0 = some o) : PureC Tryd.prog Z 72 [(str t0)] (.tup [(.sc (.int .u32 o.1)), (.sc (.int .u32 o.2))]) := by
  refine pure_of_TS fn72 rfl (N := 40) rfl rfl fun B g0 q0 => ?_
  unfold F72 at h
  refine TS_seq ?_
  refine TS_region ?_
  refine TO_step rfl (S_to rfl rfl (V_assign rfl rfl)) ?_
  refine TO_step rfl (S_to rfl rfl (V_assign rfl rfl)) ?_
  refine TO_nil ?_
  refine TS_seq ?_
  refine TS_region ?_
  refine TO_step rfl (S_to rfl rfl (V_assign rfl rfl)) ?_
  refine TO_nil ?_
  refine TS_seq ?_
  refine TS_seq ?_
  refine TS_region ?_
  refine TO_step rfl (S_to rfl rfl (V_move rfl rfl)) ?_
  refine TO_step rfl (S_to rfl rfl (V_lenS ⟨_, rfl, rfl, rfl, rfl⟩ Tryd.underlying9 rfl)) ?_
  refine TO_step rfl (S_to rfl rfl (V_bin rfl rfl rfl b_sub)) ?_
  refine TO_step rfl (S_to rfl rfl (V_assign rfl rfl)) ?_
  refine TO_nil ?_
  refine TS_block ?_
  obtain ⟨out0, hL0, h⟩ := obind_some h
  refine TS_cont (id := 0) (fun (v : (Int)) => out0 = .out v) (fun (v : (Int)) => [(4, (.d (.sc (.int .u32 v)))), (0, (.d (str t0)))]) (fun (v : (Int)) => []) ?_ fun kx0_0 => ?_
  · rintro v3 rfl
    try dsimp only at h
    refine UX_eq ?_
    refine TS_seq ?_
    refine TS_region ?_
    refine TO_step rfl (S_to rfl rfl (V_assign rfl rfl)) ?_
    refine TO_step rfl (S_to rfl rfl (V_assign rfl rfl)) ?_
    refine TO_nil ?_
    refine TS_seq ?_
    refine TS_seq ?_
    refine TS_region ?_
    refine TO_step rfl (S_to rfl rfl (V_move rfl rfl)) ?_
    refine TO_step rfl (S_to rfl rfl (V_lenS ⟨_, rfl, rfl, rfl, rfl⟩ Tryd.underlying9 rfl)) ?_
    refine TO_step rfl (S_to rfl rfl (V_assign rfl rfl)) ?_
    refine TO_nil ?_
    refine TS_block ?_
    obtain ⟨out4, hL4, h⟩ := obind_some h
    refine TS_cont (id := 2) (fun (v : Unit) => out4 = .out v) (fun (v : Unit) => [(6, (.d (.sc (.int .u32 1)))), (4, (.d (.sc (.int .u32 v3))))]) (fun (v : Unit) => []) ?_ fun kx4_0 => ?_
    · rintro v6 rfl
      try dsimp only at h
      refine UX_eq ?_
      refine TS_seq ?_
      refine TS_region ?_
      refine TO_step rfl (S_to rfl rfl (V_move rfl rfl)) ?_
      refine TO_step rfl (S_to rfl rfl (V_move rfl rfl)) ?_
      refine TO_step rfl (S_to rfl rfl (V_assign rfl rfl)) ?_
      refine TO_step rfl (S_to rfl rfl (V_assign rfl rfl)) ?_
      refine TO_nil ?_
      refine TS_ret ?_
      cases h
      exact ⟨trivial, _, _, (resEs_cons (resE_tmp rfl rfl) (resEs_cons (resE_tmp rfl rfl) resEs_nil)), rfl, (Wk.refl _)⟩
    refine TS_loop (F72_L4 t0) (fun (s : Unit) => [(8, (.d (.sc (.int .i64 ((lenL t0)))))), (7, (.d (.sc (.int .u32 16777619)))), (6, (.d (.sc (.int .u32 1)))), (4, (.d (.sc (.int .u32 v3))))]) (fun (s : Unit) => []) out4 hL4 ⟨⟨.inr rfl, .inr rfl, .inr rfl, .inr rfl, trivial⟩, ⟨_, rfl⟩, rfl, rfl, rfl⟩ (fun _ => rfl) fun m4 s4 h => ?_
    rw [F72_L4] at h
    refine TS_seq ?_
    refine TS_seq ?_
    refine TS_region ?_
    refine TO_step rfl (S_to rfl rfl (V_move rfl rfl)) ?_
    refine TO_step rfl (S_to rfl rfl (V_bin rfl rfl rfl b_gtr)) ?_
    refine TO_nil ?_
    rcases cond_some h with ⟨hb5, h⟩ | ⟨hb5, h⟩
    · refine TS_true rfl hb5 ?_
      refine TS_skip ?_
      refine TS_seq ?_
      refine TS_block ?_
      refine TS_seq ?_
      refine TS_seq ?_
      refine TS_region ?_
      refine TO_step rfl (S_to rfl rfl (V_move rfl rfl)) ?_
      cases h
    · refine TS_false rfl hb5 ?_
      refine TS_exit ?_
      refine UX_c ?_
      refine UX_up ?_
      exact UX_less (.inl rfl) (kx4_0 _ (Option.some.inj h).symm) ⟨⟨.inr rfl, .inr rfl, trivial⟩, ⟨_, rfl⟩, rfl, rfl, rfl⟩
  refine TS_loop (F72_L0 t0) (fun (s : (Int × Int)) => [(4, (.d (.sc (.int .u32 s.2)))), (5, (.d (.sc (.int .i64 s.1)))), (0, (.d (str t0)))]) (fun (s : (Int × Int)) => []) out0 hL0 ⟨⟨.inr rfl, .inr rfl, .inr rfl, trivial⟩, ⟨_, rfl⟩, rfl, rfl, rfl⟩ (fun _ => rfl) fun m0 s0 h => ?_
  rw [F72_L0] at h
  refine TS_seq ?_
  refine TS_seq ?_
  refine TS_region ?_
  refine TO_step rfl (S_to rfl rfl (V_move rfl rfl)) ?_
  refine TO_step rfl (S_to rfl rfl (V_bin rfl rfl rfl b_geq)) ?_
  refine TO_nil ?_
  rcases cond_some h with ⟨hb1, h⟩ | ⟨hb1, h⟩
  · refine TS_true rfl hb1 ?_
    refine TS_skip ?_
    refine TS_seq ?_
    refine TS_block ?_
    refine TS_region ?_
    refine TO_step rfl (S_to rfl rfl (V_move rfl rfl)) ?_
    refine TO_step rfl (S_to rfl rfl (V_bin rfl rfl rfl b_mul)) ?_
    refine TO_step rfl (S_to rfl rfl (V_move rfl rfl)) ?_
    refine TO_step rfl (S_to rfl rfl (V_move rfl rfl)) ?_
    obtain ⟨x2, hx2, h⟩ := obind_some h
    refine TO_step rfl (S_to rfl rfl (V_idxS rfl Tryd.underlying9 rfl rfl hx2)) ?_
    refine TO_step rfl (S_to rfl rfl (V_conv rfl rfl (u_conv Tryd.underlying5 Tryd.underlying109))) ?_
    refine TO_step rfl (S_to rfl rfl (V_bin rfl rfl rfl b_add)) ?_
    refine TO_step rfl (S_to rfl rfl (V_assign rfl rfl)) ?_
    refine TO_nil ?_
    refine TS_b ?_
    refine TS_region ?_
    refine TO_step rfl (S_to rfl rfl (V_move rfl rfl)) ?_
    refine TO_step rfl (S_to rfl rfl (V_bin rfl rfl rfl b_sub)) ?_
    refine TO_step rfl (S_to rfl rfl (V_assign rfl rfl)) ?_
    refine TO_nil ?_
    exact TS_nil ⟨_, h, ⟨⟨.inr rfl, .inr rfl, .inr rfl, trivial⟩, ⟨_, rfl⟩, rfl, rfl, rfl⟩⟩
  · refine TS_false rfl hb1 ?_
    refine TS_exit ?_
    refine UX_c ?_
    refine UX_up ?_
    exact UX_less (.inl rfl) (kx0_0 _ (Option.some.inj h).symm) ⟨⟨.inr rfl, .inr rfl, trivial⟩, ⟨_, rfl⟩, rfl, rfl, rfl⟩
-- internal/bytealg.LastIndexRabinKarp[string]
def F68_L1 (t0 : (List UInt8)) (t1 : (List UInt8)) : Nat → (Int × Int) → Option (LO (Int) (Int))
  | 0, _ => none
  | m1 + 1, s1 => cond ((leI ((subI .i64 ((lenL t0)) ((lenL t1)))) s1.1)) (obind (idxS t0 s1.1) fun x3 => F68_L1 t0 t1 m1 ((subI .i64 s1.1 1), (addI .u32 ((mulI .u32 s1.2 16777619)) ((wr .u32 x3))))) (some (.out s1.2))
def F68_L9 (t0 : (List UInt8)) (t1 : (List UInt8)) (y0 : (Int × Int)) : Nat → (Int × Int) → Option (LO (Int) Unit)
  | 0, _ => none
  | m9 + 1, s9 => cond ((leI 0 s9.1)) (obind (idxS t0 s9.1) fun x11 => obind (idxS t0 ((addI .i64 s9.1 ((lenL t1))))) fun x12 => obind (cond ((eqI ((subI .u32 ((addI .u32 ((mulI .u32 s9.2 16777619)) ((wr .u32 x11)))) ((mulI .u32 y0.2 ((wr .u32 x12)))))) y0.1)) (obind (cutL t0 s9.1 ((addI .i64 s9.1 ((lenL t1))))) fun x15 => some ((eqS x15 t1))) (some false)) fun (v13 : (Bool)) => cond v13 (some (.ret s9.1)) (F68_L9 t0 t1 y0 m9 ((subI .i64 s9.1 1), (subI .u32 ((addI .u32 ((mulI .u32 s9.2 16777619)) ((wr .u32 x11)))) ((mulI .u32 y0.2 ((wr .u32 x12)))))))) (some (.out ()))
def F68 (n : Nat) (t0 : (List UInt8)) (t1 : (List UInt8)) : Option (Int) := obind (F72 n t1) fun y0 => obind (F68_L1 t0 t1 n ((subI .i64 ((lenL t0)) 1), 0)) fun out1 => match out1 with | .ret _ => none | .out v4 => obind (cond ((eqI v4 y0.1)) (obind (cutL t0 ((subI .i64 ((lenL t0)) ((lenL t1)))) ((lenL t0))) fun x7 => some ((eqS x7 t1))) (some false)) fun (v5 : (Bool)) => cond v5 (some ((subI .i64 ((lenL t0)) ((lenL t1))))) (obind (F68_L9 t0 t1 y0 n ((subI .i64 ((subI .i64 ((lenL t0)) ((lenL t1)))) 1), v4)) fun out9 => match out9 with | .ret r => some r | .out v17 => some (-1))
theorem F68_ok (n : Nat) (t0 : (List UInt8)) (t1 : (List UInt8)) (o : (Int)) (h : F68 n t0 t1 = some o) : PureC Tryd.prog Z 68 [(str t0), (str t1)] (.sc (.int .i64 o)) := by
  refine pure_of_TS fn68 rfl (N := 87) rfl rfl fun B g0 q0 => ?_
  unfold F68 at h
  refine TS_seq ?_
  refine TS_region ?_
  refine TO_step rfl (S_to rfl rfl (V_assign rfl rfl)) ?_
  refine TO_nil ?_
  refine TS_seq ?_
  refine TS_region ?_
  refine TO_step rfl (S_to rfl rfl (V_move rfl rfl)) ?_
  obtain ⟨y0, hy0, h⟩ := obind_some h
  refine TO_step rfl (S_st (S_call rfl rfl rfl rfl bd72 (F72_ok n t1 y0 hy0)) rfl rfl) ?_
  refine TO_step rfl (S_to rfl rfl (V_move rfl rfl)) ?_
  refine TO_step rfl (S_to rfl rfl (V_extract rfl rfl rfl)) ?_
  refine TO_step rfl (S_to rfl rfl (V_extract rfl rfl rfl)) ?_
  refine TO_step rfl (S_to rfl rfl (V_assign rfl rfl)) ?_
  refine TO_step rfl (S_to rfl rfl (V_assign rfl rfl)) ?_
  refine TO_nil ?_
  refine TS_seq ?_
  refine TS_region ?_
  refine TO_step rfl (S_to rfl rfl (V_move rfl rfl)) ?_
  refine TO_step rfl (S_to rfl rfl (V_lenS ⟨_, rfl, rfl, rfl, rfl⟩ Tryd.underlying9 rfl)) ?_
  refine TO_step rfl (S_to rfl rfl (V_assign rfl rfl)) ?_
  refine TO_nil ?_
  refine TS_seq ?_
  refine TS_region ?_
  refine TO_step rfl (S_to rfl rfl (V_move rfl rfl)) ?_
  refine TO_step rfl (S_to rfl rfl (V_lenS ⟨_, rfl, rfl, rfl, rfl⟩ Tryd.underlying9 rfl)) ?_
  refine TO_step rfl (S_to rfl rfl (V_move rfl rfl)) ?_
  refine TO_step rfl (S_to rfl rfl (V_bin rfl rfl rfl b_sub)) ?_
  refine TO_step rfl (S_to rfl rfl (V_assign rfl rfl)) ?_
  refine TO_nil ?_
  refine TS_seq ?_
  refine TS_region ?_
  refine TO_step rfl (S_to rfl rfl (V_assign rfl rfl)) ?_
  refine TO_nil ?_
  refine TS_seq ?_
  refine TS_seq ?_
  refine TS_region ?_
  refine TO_step rfl (S_to rfl rfl (V_move rfl rfl)) ?_
  refine TO_step rfl (S_to rfl rfl (V_lenS ⟨_, rfl, rfl, rfl, rfl⟩ Tryd.underlying9 rfl)) ?_
  refine TO_step rfl (S_to rfl rfl (V_bin rfl rfl rfl b_sub)) ?_
  refine TO_step rfl (S_to rfl rfl (V_assign rfl rfl)) ?_
  refine TO_nil ?_
  refine TS_block ?_
  obtain ⟨out1, hL1, h⟩ := obind_some h
  refine TS_cont (id := 0) (fun (v : (Int)) => out1 = .out v) (fun (v : (Int)) => [(9, (.d (.sc (.int .u32 v)))), (8, (.d (.sc (.int .i64 ((subI .i64 ((lenL t0)) ((lenL t1)))))))), (7, (.d (.sc (.int .i64 ((lenL t1)))))), (6, (.d (.sc (.int .u32 y0.2)))), (5, (.d (.sc (.int .u32 y0.1)))), (0, (.d (str t0))), (1, (.d (str t1)))]) (fun (v : (Int)) => []) ?_ fun kx1_0 => ?_
  · rintro v4 rfl
    try dsimp only at h
    refine UX_eq ?_
    refine TS_seq ?_
    refine TS_seq ?_
    obtain ⟨v5, hv5, h⟩ := obind_some h
    refine TS_join (fun (v : (Bool)) => [(47, (.d (tb v))), (9, (.d (.sc (.int .u32 v4)))), (8, (.d (.sc (.int .i64 ((subI .i64 ((lenL t0)) ((lenL t1)))))))), (7, (.d (.sc (.int .i64 ((lenL t1)))))), (6, (.d (.sc (.int .u32 y0.2)))), (5, (.d (.sc (.int .u32 y0.1)))), (0, (.d (str t0))), (1, (.d (str t1)))]) (fun (v : (Bool)) => []) v5 (.inl rfl) ?_ ?_
    · rcases cond_some h with ⟨hb8, h⟩ | ⟨hb8, h⟩
      · refine TS_true rfl hb8 ?_
        refine TS_seq ?_
        refine TS_region ?_
        refine TO_step rfl (S_to rfl rfl (V_move rfl rfl)) ?_
        refine TO_step rfl (S_to rfl rfl (V_assign rfl rfl)) ?_
        refine TO_nil ?_
        refine TS_ret ?_
        cases h
        exact ⟨trivial, _, _, (resEs_cons (resE_tmp rfl rfl) resEs_nil), rfl, (Wk.refl _)⟩
      · refine TS_false rfl hb8 ?_
        refine TS_skip ?_
        refine TS_seq ?_
        refine TS_seq ?_
        refine TS_region ?_
        refine TO_step rfl (S_to rfl rfl (V_move rfl rfl)) ?_
        refine TO_step rfl (S_to rfl rfl (V_bin rfl rfl rfl b_sub)) ?_
        refine TO_step rfl (S_to rfl rfl (V_assign rfl rfl)) ?_
        refine TO_nil ?_
        refine TS_block ?_
        obtain ⟨out9, hL9, h⟩ := obind_some h
        have kr9 : ∀ r, out9 = .ret r → some r = some o := by rintro r rfl; exact h
        refine TS_cont (id := 2) (fun (v : Unit) => out9 = .out v) (fun (v : Unit) => []) (fun (v : Unit) => []) ?_ fun kx9_0 => ?_
        · rintro v17 rfl
          try dsimp only at h
          refine UX_eq ?_
          refine TS_seq ?_
          refine TS_region ?_
          refine TO_step rfl (S_to rfl rfl (V_assign rfl rfl)) ?_
          refine TO_nil ?_
          refine TS_ret ?_
          cases h
          exact ⟨trivial, _, _, (resEs_cons (resE_tmp rfl rfl) resEs_nil), rfl, (Wk.refl _)⟩
        refine TS_loop (F68_L9 t0 t1 y0) (fun (s : (Int × Int)) => [(9, (.d (.sc (.int .u32 s.2)))), (11, (.d (.sc (.int .i64 s.1)))), (7, (.d (.sc (.int .i64 ((lenL t1)))))), (6, (.d (.sc (.int .u32 y0.2)))), (5, (.d (.sc (.int .u32 y0.1)))), (0, (.d (str t0))), (1, (.d (str t1)))]) (fun (s : (Int × Int)) => []) out9 hL9 ⟨⟨.inr rfl, .inr rfl, .inr rfl, .inr rfl, .inr rfl, .inr rfl, .inr rfl, trivial⟩, ⟨_, rfl⟩, rfl, rfl, rfl⟩ (fun _ => rfl) fun m9 s9 h => ?_
        rw [F68_L9] at h
        refine TS_seq ?_
        refine TS_seq ?_
        refine TS_region ?_
        refine TO_step rfl (S_to rfl rfl (V_move rfl rfl)) ?_
        refine TO_step rfl (S_to rfl rfl (V_bin rfl rfl rfl b_geq)) ?_
        refine TO_nil ?_
        rcases cond_some h with ⟨hb10, h⟩ | ⟨hb10, h⟩
        · refine TS_true rfl hb10 ?_
          refine TS_skip ?_
          refine TS_seq ?_
          refine TS_block ?_
          refine TS_seq ?_
          refine TS_region ?_
          refine TO_step rfl (S_to rfl rfl (V_move rfl rfl)) ?_
          refine TO_step rfl (S_to rfl rfl (V_bin rfl rfl rfl b_mul)) ?_
          refine TO_step rfl (S_to rfl rfl (V_assign rfl rfl)) ?_
          refine TO_nil ?_
          refine TS_seq ?_
          refine TS_region ?_
          refine TO_step rfl (S_to rfl rfl (V_move rfl rfl)) ?_
          refine TO_step rfl (S_to rfl rfl (V_move rfl rfl)) ?_
          refine TO_step rfl (S_to rfl rfl (V_move rfl rfl)) ?_
          obtain ⟨x11, hx11, h⟩ := obind_some h
          refine TO_step rfl (S_to rfl rfl (V_idxS rfl Tryd.underlying9 rfl rfl hx11)) ?_
          refine TO_step rfl (S_to rfl rfl (V_conv rfl rfl (u_conv Tryd.underlying5 Tryd.underlying109))) ?_
          refine TO_step rfl (S_to rfl rfl (V_bin rfl rfl rfl b_add)) ?_
          refine TO_step rfl (S_to rfl rfl (V_assign rfl rfl)) ?_
          refine TO_nil ?_
          refine TS_seq ?_
          refine TS_region ?_
          refine TO_step rfl (S_to rfl rfl (V_move rfl rfl)) ?_
          refine TO_step rfl (S_to rfl rfl (V_move rfl rfl)) ?_
          refine TO_step rfl (S_to rfl rfl (V_move rfl rfl)) ?_
          refine TO_step rfl (S_to rfl rfl (V_move rfl rfl)) ?_
          refine TO_step rfl (S_to rfl rfl (V_move rfl rfl)) ?_
          refine TO_step rfl (S_to rfl rfl (V_bin rfl rfl rfl b_add)) ?_
          obtain ⟨x12, hx12, h⟩ := obind_some h
          refine TO_step rfl (S_to rfl rfl (V_idxS rfl Tryd.underlying9 rfl rfl hx12)) ?_
          refine TO_step rfl (S_to rfl rfl (V_conv rfl rfl (u_conv Tryd.underlying5 Tryd.underlying109))) ?_
          refine TO_step rfl (S_to rfl rfl (V_bin rfl rfl rfl b_mul)) ?_
          refine TO_step rfl (S_to rfl rfl (V_bin rfl rfl rfl b_sub)) ?_
          refine TO_step rfl (S_to rfl rfl (V_assign rfl rfl)) ?_
          refine TO_nil ?_
          refine TS_seq ?_
          obtain ⟨v13, hv13, h⟩ := obind_some h
          refine TS_join (fun (v : (Bool)) => [(85, (.d (tb v))), (9, (.d (.sc (.int .u32 ((subI .u32 ((addI .u32 ((mulI .u32 s9.2 16777619)) ((wr .u32 x11)))) ((mulI .u32 y0.2 ((wr .u32 x12)))))))))), (11, (.d (.sc (.int .i64 s9.1)))), (7, (.d (.sc (.int .i64 ((lenL t1)))))), (6, (.d (.sc (.int .u32 y0.2)))), (5, (.d (.sc (.int .u32 y0.1)))), (0, (.d (str t0))), (1, (.d (str t1)))]) (fun (v : (Bool)) => []) v13 (.inl rfl) ?_ ?_
          · rcases cond_some h with ⟨hb16, h⟩ | ⟨hb16, h⟩
            · refine TS_true rfl hb16 ?_
              refine TS_seq ?_
              refine TS_region ?_
              refine TO_step rfl (S_to rfl rfl (V_move rfl rfl)) ?_
              refine TO_step rfl (S_to rfl rfl (V_assign rfl rfl)) ?_
              refine TO_nil ?_
              refine TS_ret ?_
              refine ret_up ?_
              have h := kr9 _ (Option.some.inj h).symm
              cases h
              exact ⟨trivial, _, _, (resEs_cons (resE_tmp rfl rfl) resEs_nil), rfl, (Wk.refl _)⟩
            · refine TS_false rfl hb16 ?_
              refine TS_skip ?_
              refine TS_b ?_
              refine TS_region ?_
              refine TO_step rfl (S_to rfl rfl (V_move rfl rfl)) ?_
              refine TO_step rfl (S_to rfl rfl (V_bin rfl rfl rfl b_sub)) ?_
              refine TO_step rfl (S_to rfl rfl (V_assign rfl rfl)) ?_
              refine TO_nil ?_
              exact TS_nil ⟨_, h, ⟨⟨.inr rfl, .inr rfl, .inr rfl, .inr rfl, .inr rfl, .inr rfl, .inr rfl, trivial⟩, ⟨_, rfl⟩, rfl, rfl, rfl⟩⟩
          · have h := hv13
            refine TS_region ?_
            refine TO_step rfl (S_to rfl rfl (V_move rfl rfl)) ?_
            refine TO_step rfl (S_to rfl rfl (V_move rfl rfl)) ?_
            refine TO_step rfl (S_to rfl rfl (V_bin rfl rfl rfl b_eql)) ?_
            refine TO_step rfl (S_to rfl rfl (V_move rfl rfl)) ?_
            rcases cond_some h with ⟨hb14, h⟩ | ⟨hb14, h⟩
            · refine TO_stepG rfl rfl rfl rfl hb14 (S_to rfl rfl (V_move rfl rfl)) ?_
              refine TO_stepG rfl rfl rfl rfl hb14 (S_to rfl rfl (V_move rfl rfl)) ?_
              refine TO_stepG rfl rfl rfl rfl hb14 (S_to rfl rfl (V_move rfl rfl)) ?_
              refine TO_stepG rfl rfl rfl rfl hb14 (S_to rfl rfl (V_move rfl rfl)) ?_
              refine TO_stepG rfl rfl rfl rfl hb14 (S_to rfl rfl (V_bin rfl rfl rfl b_add)) ?_
              obtain ⟨x15, hx15, h⟩ := obind_some h
              refine TO_stepG rfl rfl rfl rfl hb14 (S_to rfl rfl (V_cutS rfl Tryd.underlying9 rfl rfl rfl hx15)) ?_
              refine TO_stepG rfl rfl rfl rfl hb14 (S_to rfl rfl (V_move rfl rfl)) ?_
              refine TO_stepG rfl rfl rfl rfl hb14 (S_to rfl rfl (V_bin rfl rfl rfl bs_eql)) ?_
              refine TO_step rfl (S_to rfl rfl (V_pickT rfl rfl hb14 rfl rfl)) ?_
              refine TO_nil ?_
              exact TS_nil ⟨_, Option.some.inj h, ⟨⟨.inr rfl, .inr rfl, .inr rfl, .inr rfl, .inr rfl, .inr rfl, .inr rfl, .inr rfl, trivial⟩, ⟨_, rfl⟩, rfl, rfl, rfl⟩⟩
            · refine TO_skip rfl rfl rfl rfl hb14 ?_
              refine TO_skip rfl rfl rfl rfl hb14 ?_
              refine TO_skip rfl rfl rfl rfl hb14 ?_
              refine TO_skip rfl rfl rfl rfl hb14 ?_
              refine TO_skip rfl rfl rfl rfl hb14 ?_
              refine TO_skip rfl rfl rfl rfl hb14 ?_
              refine TO_skip rfl rfl rfl rfl hb14 ?_
              refine TO_skip rfl rfl rfl rfl hb14 ?_
              refine TO_step rfl (S_to rfl rfl (V_pickF rfl rfl hb14 rfl rfl)) ?_
              refine TO_nil ?_
              exact TS_nil ⟨_, Option.some.inj h, ⟨⟨.inr rfl, .inr rfl, .inr rfl, .inr rfl, .inr rfl, .inr rfl, .inr rfl, .inr rfl, trivial⟩, ⟨_, rfl⟩, rfl, rfl, rfl⟩⟩
        · refine TS_false rfl hb10 ?_
          refine TS_exit ?_
          refine UX_c ?_
          refine UX_up ?_
          exact UX_less (.inl rfl) (kx9_0 _ (Option.some.inj h).symm) ⟨trivial, ⟨_, rfl⟩, rfl, rfl, rfl⟩
    · have h := hv5
      refine TS_region ?_
      refine TO_step rfl (S_to rfl rfl (V_move rfl rfl)) ?_
      refine TO_step rfl (S_to rfl rfl (V_move rfl rfl)) ?_
      refine TO_step rfl (S_to rfl rfl (V_bin rfl rfl rfl b_eql)) ?_
      refine TO_step rfl (S_to rfl rfl (V_move rfl rfl)) ?_
      rcases cond_some h with ⟨hb6, h⟩ | ⟨hb6, h⟩
      · refine TO_stepG rfl rfl rfl rfl hb6 (S_to rfl rfl (V_move rfl rfl)) ?_
        refine TO_stepG rfl rfl rfl rfl hb6 (S_to rfl rfl (V_move rfl rfl)) ?_
        obtain ⟨x7, hx7, h⟩ := obind_some h
        refine TO_stepG rfl rfl rfl rfl hb6 (S_to rfl rfl (V_cutS rfl Tryd.underlying9 rfl rfl rfl hx7)) ?_
        refine TO_stepG rfl rfl rfl rfl hb6 (S_to rfl rfl (V_move rfl rfl)) ?_
        refine TO_stepG rfl rfl rfl rfl hb6 (S_to rfl rfl (V_bin rfl rfl rfl bs_eql)) ?_
        refine TO_step rfl (S_to rfl rfl (V_pickT rfl rfl hb6 rfl rfl)) ?_
        refine TO_nil ?_
        exact TS_nil ⟨_, Option.some.inj h, ⟨⟨.inr rfl, .inr rfl, .inr rfl, .inr rfl, .inr rfl, .inr rfl, .inr rfl, .inr rfl, trivial⟩, ⟨_, rfl⟩, rfl, rfl, rfl⟩⟩
      · refine TO_skip rfl rfl rfl rfl hb6 ?_
        refine TO_skip rfl rfl rfl rfl hb6 ?_
        refine TO_skip rfl rfl rfl rfl hb6 ?_
        refine TO_skip rfl rfl rfl rfl hb6 ?_
        refine TO_skip rfl rfl rfl rfl hb6 ?_
        refine TO_step rfl (S_to rfl rfl (V_pickF rfl rfl hb6 rfl rfl)) ?_
        refine TO_nil ?_
        exact TS_nil ⟨_, Option.some.inj h, ⟨⟨.inr rfl, .inr rfl, .inr rfl, .inr rfl, .inr rfl, .inr rfl, .inr rfl, .inr rfl, trivial⟩, ⟨_, rfl⟩, rfl, rfl, rfl⟩⟩
  refine TS_loop (F68_L1 t0 t1) (fun (s : (Int × Int)) => [(9, (.d (.sc (.int .u32 s.2)))), (10, (.d (.sc (.int .i64 s.1)))), (8, (.d (.sc (.int .i64 ((subI .i64 ((lenL t0)) ((lenL t1)))))))), (7, (.d (.sc (.int .i64 ((lenL t1)))))), (6, (.d (.sc (.int .u32 y0.2)))), (5, (.d (.sc (.int .u32 y0.1)))), (0, (.d (str t0))), (1, (.d (str t1)))]) (fun (s : (Int × Int)) => []) out1 hL1 ⟨⟨.inr rfl, .inr rfl, .inr rfl, .inr rfl, .inr rfl, .inr rfl, .inr rfl, .inr rfl, trivial⟩, ⟨_, rfl⟩, rfl, rfl, rfl⟩ (fun _ => rfl) fun m1 s1 h => ?_
  rw [F68_L1] at h
  refine TS_seq ?_
  refine TS_seq ?_
  refine TS_region ?_
  refine TO_step rfl (S_to rfl rfl (V_move rfl rfl)) ?_
  refine TO_step rfl (S_to rfl rfl (V_move rfl rfl)) ?_
  refine TO_step rfl (S_to rfl rfl (V_bin rfl rfl rfl b_geq)) ?_
  refine TO_nil ?_
  rcases cond_some h with ⟨hb2, h⟩ | ⟨hb2, h⟩
  · refine TS_true rfl hb2 ?_
    refine TS_skip ?_
    refine TS_seq ?_
    refine TS_block ?_
    refine TS_region ?_
    refine TO_step rfl (S_to rfl rfl (V_move rfl rfl)) ?_
    refine TO_step rfl (S_to rfl rfl (V_bin rfl rfl rfl b_mul)) ?_
    refine TO_step rfl (S_to rfl rfl (V_move rfl rfl)) ?_
    refine TO_step rfl (S_to rfl rfl (V_move rfl rfl)) ?_
    obtain ⟨x3, hx3, h⟩ := obind_some h
    refine TO_step rfl (S_to rfl rfl (V_idxS rfl Tryd.underlying9 rfl rfl hx3)) ?_
    refine TO_step rfl (S_to rfl rfl (V_conv rfl rfl (u_conv Tryd.underlying5 Tryd.underlying109))) ?_
    refine TO_step rfl (S_to rfl rfl (V_bin rfl rfl rfl b_add)) ?_
    refine TO_step rfl (S_to rfl rfl (V_assign rfl rfl)) ?_
    refine TO_nil ?_
    refine TS_b ?_
    refine TS_region ?_
    refine TO_step rfl (S_to rfl rfl (V_move rfl rfl)) ?_
    refine TO_step rfl (S_to rfl rfl (V_bin rfl rfl rfl b_sub)) ?_
    refine TO_step rfl (S_to rfl rfl (V_assign rfl rfl)) ?_
    refine TO_nil ?_
    exact TS_nil ⟨_, h, ⟨⟨.inr rfl, .inr rfl, .inr rfl, .inr rfl, .inr rfl, .inr rfl, .inr rfl, .inr rfl, trivial⟩, ⟨_, rfl⟩, rfl, rfl, rfl⟩⟩
  · refine TS_false rfl hb2 ?_
    refine TS_exit ?_
    refine UX_c ?_
    refine UX_up ?_
    exact UX_less (.inl rfl) (kx1_0 _ (Option.some.inj h).symm) ⟨⟨.inr rfl, .inr rfl, .inr rfl, .inr rfl, .inr rfl, .inr rfl, .inr rfl, trivial⟩, ⟨_, rfl⟩, rfl, rfl, rfl⟩
-- strings.LastIndex
def F57 (n : Nat) (t0 : (List UInt8)) (t1 : (List UInt8)) : Option (Int) := cond ((eqI ((lenL t1)) 0)) (some ((lenL t0))) (cond ((eqI ((lenL t1)) 1)) (obind (idxS t1 0) fun x2 => obind (F67 n t0 x2) fun y3 => some y3) (cond ((eqI ((lenL t1)) ((lenL t0)))) (cond ((eqS t1 t0)) (some 0) (some (-1))) (cond ((ltI ((lenL t0)) ((lenL t1)))) (some (-1)) (obind (F68 n t0 t1) fun y7 => some y7))))
theorem F57_ok (n : Nat) (t0 : (List UInt8)) (t1 : (List UInt8)) (o : (Int)) (h : F57 n t0 t1 = some o) : PureC Tryd.prog Z 57 [(str t0), (str t1)] (.sc (.int .i64 o)) := by
  refine pure_of_TS fn57 rfl (N := 36) rfl rfl fun B g0 q0 => ?_
  unfold F57 at h
  refine TS_seq ?_
  refine TS_region ?_
  refine TO_step rfl (S_to rfl rfl (V_assign rfl rfl)) ?_
  refine TO_nil ?_
  refine TS_seq ?_
  refine TS_region ?_
  refine TO_step rfl (S_to rfl rfl (V_move rfl rfl)) ?_
  refine TO_step rfl (S_to rfl rfl (V_lenS ⟨_, rfl, rfl, rfl, rfl⟩ Tryd.underlying9 rfl)) ?_
  refine TO_step rfl (S_to rfl rfl (V_assign rfl rfl)) ?_
  refine TO_nil ?_
  refine TS_seq ?_
  refine TS_block ?_
  refine TS_seq ?_
  refine TS_region ?_
  refine TO_step rfl (S_to rfl rfl (V_move rfl rfl)) ?_
  refine TO_step rfl (S_to rfl rfl (V_bin rfl rfl rfl b_eql)) ?_
  refine TO_step rfl (S_to rfl rfl (V_assign rfl rfl)) ?_
  refine TO_nil ?_
  rcases cond_some h with ⟨hb0, h⟩ | ⟨hb0, h⟩
  · refine TS_true rfl hb0 ?_
    refine TS_seq ?_
    refine TS_region ?_
    refine TO_step rfl (S_to rfl rfl (V_move rfl rfl)) ?_
    refine TO_step rfl (S_to rfl rfl (V_lenS ⟨_, rfl, rfl, rfl, rfl⟩ Tryd.underlying9 rfl)) ?_
    refine TO_step rfl (S_to rfl rfl (V_assign rfl rfl)) ?_
    refine TO_nil ?_
    refine TS_ret ?_
    cases h
    exact ⟨trivial, _, _, (resEs_cons (resE_tmp rfl rfl) resEs_nil), rfl, (Wk.refl _)⟩
  · refine TS_false rfl hb0 ?_
    refine TS_seq ?_
    refine TS_region ?_
    refine TO_step rfl (S_to rfl rfl (V_move rfl rfl)) ?_
    refine TO_step rfl (S_to rfl rfl (V_bin rfl rfl rfl b_eql)) ?_
    refine TO_step rfl (S_to rfl rfl (V_assign rfl rfl)) ?_
    refine TO_nil ?_
    rcases cond_some h with ⟨hb1, h⟩ | ⟨hb1, h⟩
    · refine TS_true rfl hb1 ?_
      refine TS_seq ?_
      refine TS_region ?_
      refine TO_step rfl (S_to rfl rfl (V_move rfl rfl)) ?_
      refine TO_step rfl (S_to rfl rfl (V_move rfl rfl)) ?_
      obtain ⟨x2, hx2, h⟩ := obind_some h
      refine TO_step rfl (S_to rfl rfl (V_idxS rfl Tryd.underlying9 rfl rfl hx2)) ?_
      obtain ⟨y3, hy3, h⟩ := obind_some h
      refine TO_step rfl (S_st (S_call rfl rfl rfl rfl bd67 (F67_ok n t0 x2 y3 hy3)) rfl rfl) ?_
      refine TO_step rfl (S_to rfl rfl (V_assign rfl rfl)) ?_
      refine TO_nil ?_
      refine TS_ret ?_
      cases h
      exact ⟨trivial, _, _, (resEs_cons (resE_tmp rfl rfl) resEs_nil), rfl, (Wk.refl _)⟩
    · refine TS_false rfl hb1 ?_
      refine TS_seq ?_
      refine TS_region ?_
      refine TO_step rfl (S_to rfl rfl (V_move rfl rfl)) ?_
      refine TO_step rfl (S_to rfl rfl (V_move rfl rfl)) ?_
      refine TO_step rfl (S_to rfl rfl (V_lenS ⟨_, rfl, rfl, rfl, rfl⟩ Tryd.underlying9 rfl)) ?_
      refine TO_step rfl (S_to rfl rfl (V_bin rfl rfl rfl b_eql)) ?_
      refine TO_step rfl (S_to rfl rfl (V_assign rfl rfl)) ?_
      refine TO_nil ?_
      rcases cond_some h with ⟨hb4, h⟩ | ⟨hb4, h⟩
      · refine TS_true rfl hb4 ?_
        refine TS_seq ?_
        refine TS_seq ?_
        refine TS_region ?_
        refine TO_step rfl (S_to rfl rfl (V_move rfl rfl)) ?_
        refine TO_step rfl (S_to rfl rfl (V_move rfl rfl)) ?_
        refine TO_step rfl (S_to rfl rfl (V_bin rfl rfl rfl bs_eql)) ?_
        refine TO_nil ?_
        rcases cond_some h with ⟨hb5, h⟩ | ⟨hb5, h⟩
        · refine TS_true rfl hb5 ?_
          refine TS_seq ?_
          refine TS_region ?_
          refine TO_step rfl (S_to rfl rfl (V_assign rfl rfl)) ?_
          refine TO_nil ?_
          refine TS_ret ?_
          cases h
          exact ⟨trivial, _, _, (resEs_cons (resE_tmp rfl rfl) resEs_nil), rfl, (Wk.refl _)⟩
        · refine TS_false rfl hb5 ?_
          refine TS_skip ?_
          refine TS_seq ?_
          refine TS_region ?_
          refine TO_step rfl (S_to rfl rfl (V_assign rfl rfl)) ?_
          refine TO_nil ?_
          refine TS_ret ?_
          cases h
          exact ⟨trivial, _, _, (resEs_cons (resE_tmp rfl rfl) resEs_nil), rfl, (Wk.refl _)⟩
      · refine TS_false rfl hb4 ?_
        refine TS_seq ?_
        refine TS_region ?_
        refine TO_step rfl (S_to rfl rfl (V_move rfl rfl)) ?_
        refine TO_step rfl (S_to rfl rfl (V_move rfl rfl)) ?_
        refine TO_step rfl (S_to rfl rfl (V_lenS ⟨_, rfl, rfl, rfl, rfl⟩ Tryd.underlying9 rfl)) ?_
        refine TO_step rfl (S_to rfl rfl (V_bin rfl rfl rfl b_gtr)) ?_
        refine TO_step rfl (S_to rfl rfl (V_assign rfl rfl)) ?_
        refine TO_nil ?_
        rcases cond_some h with ⟨hb6, h⟩ | ⟨hb6, h⟩
        · refine TS_true rfl hb6 ?_
          refine TS_seq ?_
          refine TS_region ?_
          refine TO_step rfl (S_to rfl rfl (V_assign rfl rfl)) ?_
          refine TO_nil ?_
          refine TS_ret ?_
          cases h
          exact ⟨trivial, _, _, (resEs_cons (resE_tmp rfl rfl) resEs_nil), rfl, (Wk.refl _)⟩
        · refine TS_false rfl hb6 ?_
          refine TS_skip ?_
          refine TS_b ?_
          refine TS_seq ?_
          refine TS_region ?_
          refine TO_step rfl (S_to rfl rfl (V_move rfl rfl)) ?_
          refine TO_step rfl (S_to rfl rfl (V_move rfl rfl)) ?_
          obtain ⟨y7, hy7, h⟩ := obind_some h
          refine TO_step rfl (S_st (S_call rfl rfl rfl rfl bd68 (F68_ok n t0 t1 y7 hy7)) rfl rfl) ?_
          refine TO_step rfl (S_to rfl rfl (V_assign rfl rfl)) ?_
          refine TO_nil ?_
          refine TS_ret ?_
          cases h
          exact ⟨trivial, _, _, (resEs_cons (resE_tmp rfl rfl) resEs_nil), rfl, (Wk.refl _)⟩
-- sieveholes/pos.Of
def F45 (n : Nat) (t0 : (List UInt8)) (t1 : Int) : Option (S25 × Bool) := obind (cond ((ltI t1 0)) (some true) (some ((ltI ((lenL t0)) t1)))) fun (v0 : (Bool)) => cond v0 (some ((⟨0, 0⟩ : S25), false)) (obind (cutL t0 0 t1) fun x3 => obind (F56 n x3 (([10] : List UInt8))) fun y4 => obind (F57 n x3 (([10] : List UInt8))) fun y5 => some ((⟨(addI .i64 y4 1), (subI .i64 t1 y5)⟩ : S25), true))
theorem F45_ok (n : Nat) (t0 : (List UInt8)) (t1 : Int) (o : (S25 × Bool)) (h : F45 n t0 t1 = some o) : PureC Tryd.prog Z 45 [(str t0), (.sc (.int .i64 t1))] (.tup [(.agg [(.sc (.int .i64 o.1.f_Line)), (.sc (.int .i64 o.1.f_Col))]), (tb o.2)]) := by
  refine pure_of_TS fn45 rfl (N := 27) rfl rfl fun B g0 q0 => ?_
  unfold F45 at h
  refine TS_seq ?_
  refine TS_region ?_
  refine TO_step rfl (S_allocE rfl rfl al25 rfl rfl (show _ = [.box 25 [(.d (.sc (.int .i64 0))), (.d (.sc (.int .i64 0)))]] from rfl)) ?_
  refine TO_step rfl (S_to rfl rfl (V_assign rfl rfl)) ?_
  refine TO_nil ?_
  refine TS_seq ?_
  refine TS_seq ?_
  obtain ⟨v0, hv0, h⟩ := obind_some h
  refine TS_join (fun (v : (Bool)) => [(14, (.d (tb v))), (4, (.ptr 0 0 0)), (0, (.d (str t0))), (1, (.d (.sc (.int .i64 t1))))]) (fun (v : (Bool)) => [.box 25 [(.d (.sc (.int .i64 0))), (.d (.sc (.int .i64 0)))]]) v0 (.inl rfl) ?_ ?_
  · rcases cond_some h with ⟨hb2, h⟩ | ⟨hb2, h⟩
    · refine TS_true rfl hb2 ?_
      refine TS_seq ?_
      refine TS_region ?_
      refine TO_step rfl (S_to rfl rfl (V_build rfl rfl (show buildE _ 25 _ = some (.agg [(.sc (.int .i64 0)), (.sc (.int .i64 0))]) from rfl))) ?_
      refine TO_step rfl (S_st (S_storeE rfl rfl rfl rfl rfl if25 sz25 rfl rfl (show _ = [(.d (.sc (.int .i64 0))), (.d (.sc (.int .i64 0)))] from rfl) rfl) rfl (show _ = [.box 25 [(.d (.sc (.int .i64 0))), (.d (.sc (.int .i64 0)))]] from rfl)) ?_
      refine TO_step rfl (S_to rfl rfl (V_assign rfl rfl)) ?_
      refine TO_nil ?_
      refine TS_ret ?_
      cases h
      exact ⟨trivial, _, _, (resEs_cons (resE_cell rfl rfl rfl (loadB_agg ok25 ag25 sz25 (show _ = some [(.sc (.int .i64 0)), (.sc (.int .i64 0))] from rfl) rfl)) (resEs_cons (resE_tmp rfl rfl) resEs_nil)), rfl, (Wk.refl _)⟩
    · refine TS_false rfl hb2 ?_
      refine TS_skip ?_
      refine TS_seq ?_
      refine TS_region ?_
      refine TO_step rfl (S_to rfl rfl (V_move rfl rfl)) ?_
      refine TO_step rfl (S_to rfl rfl (V_move rfl rfl)) ?_
      obtain ⟨x3, hx3, h⟩ := obind_some h
      refine TO_step rfl (S_to rfl rfl (V_cutS rfl Tryd.underlying9 rfl rfl rfl hx3)) ?_
      refine TO_step rfl (S_to rfl rfl (V_assign rfl rfl)) ?_
      refine TO_nil ?_
      refine TS_seq ?_
      refine TS_region ?_
      refine TO_step rfl (S_to rfl rfl (V_move rfl rfl)) ?_
      obtain ⟨y4, hy4, h⟩ := obind_some h
      refine TO_step rfl (S_st (S_call rfl rfl rfl rfl bd56 (F56_ok n x3 (([10] : List UInt8)) y4 hy4)) rfl rfl) ?_
      refine TO_step rfl (S_to rfl rfl (V_bin rfl rfl rfl b_add)) ?_
      refine TO_step rfl (S_to rfl rfl (V_move rfl rfl)) ?_
      refine TO_step rfl (S_to rfl rfl (V_move rfl rfl)) ?_
      obtain ⟨y5, hy5, h⟩ := obind_some h
      refine TO_step rfl (S_st (S_call rfl rfl rfl rfl bd57 (F57_ok n x3 (([10] : List UInt8)) y5 hy5)) rfl rfl) ?_
      refine TO_step rfl (S_to rfl rfl (V_bin rfl rfl rfl b_sub)) ?_
      refine TO_step rfl (S_to rfl rfl (V_build rfl rfl (show buildE _ 25 _ = some (.agg [(.sc (.int .i64 ((addI .i64 y4 1)))), (.sc (.int .i64 ((subI .i64 t1 y5))))]) from rfl))) ?_
      refine TO_step rfl (S_st (S_storeE rfl rfl rfl rfl rfl if25 sz25 rfl rfl (show _ = [(.d (.sc (.int .i64 ((addI .i64 y4 1))))), (.d (.sc (.int .i64 ((subI .i64 t1 y5)))))] from rfl) rfl) rfl (show _ = [.box 25 [(.d (.sc (.int .i64 ((addI .i64 y4 1))))), (.d (.sc (.int .i64 ((subI .i64 t1 y5)))))]] from rfl)) ?_
      refine TO_step rfl (S_to rfl rfl (V_assign rfl rfl)) ?_
      refine TO_nil ?_
      refine TS_ret ?_
      cases h
      exact ⟨trivial, _, _, (resEs_cons (resE_cell rfl rfl rfl (loadB_agg ok25 ag25 sz25 (show _ = some [(.sc (.int .i64 ((addI .i64 y4 1)))), (.sc (.int .i64 ((subI .i64 t1 y5))))] from rfl) rfl)) (resEs_cons (resE_tmp rfl rfl) resEs_nil)), rfl, (Wk.refl _)⟩
  · have h := hv0
    refine TS_region ?_
    refine TO_step rfl (S_to rfl rfl (V_move rfl rfl)) ?_
    refine TO_step rfl (S_to rfl rfl (V_bin rfl rfl rfl b_lss)) ?_
    refine TO_step rfl (S_to rfl rfl (V_move rfl rfl)) ?_
    rcases cond_some h with ⟨hb1, h⟩ | ⟨hb1, h⟩
    · refine TO_skip rfl rfl rfl rfl hb1 ?_
      refine TO_skip rfl rfl rfl rfl hb1 ?_
      refine TO_skip rfl rfl rfl rfl hb1 ?_
      refine TO_skip rfl rfl rfl rfl hb1 ?_
      refine TO_step rfl (S_to rfl rfl (V_pickT rfl rfl hb1 rfl rfl)) ?_
      refine TO_nil ?_
      exact TS_nil ⟨_, Option.some.inj h, ⟨⟨.inr rfl, .inr rfl, .inr rfl, .inr rfl, trivial⟩, ⟨_, rfl⟩, rfl, rfl, rfl⟩⟩
    · refine TO_stepG rfl rfl rfl rfl hb1 (S_to rfl rfl (V_move rfl rfl)) ?_
      refine TO_stepG rfl rfl rfl rfl hb1 (S_to rfl rfl (V_move rfl rfl)) ?_
      refine TO_stepG rfl rfl rfl rfl hb1 (S_to rfl rfl (V_lenS ⟨_, rfl, rfl, rfl, rfl⟩ Tryd.underlying9 rfl)) ?_
      refine TO_stepG rfl rfl rfl rfl hb1 (S_to rfl rfl (V_bin rfl rfl rfl b_gtr)) ?_
      refine TO_step rfl (S_to rfl rfl (V_pickF rfl rfl hb1 rfl rfl)) ?_
      refine TO_nil ?_
      exact TS_nil ⟨_, Option.some.inj h, ⟨⟨.inr rfl, .inr rfl, .inr rfl, .inr rfl, trivial⟩, ⟨_, rfl⟩, rfl, rfl, rfl⟩⟩
-- sieveholes/token.digit
def F32 (n : Nat) (t0 : Int) : Option (Bool) := obind (cond ((leI 48 t0)) (some ((leI t0 57))) (some false)) fun (v0 : (Bool)) => some v0
theorem F32_ok (n : Nat) (t0 : Int) (o : (Bool)) (h : F32 n t0 = some o) : PureC Tryd.prog Z 32 [(.sc (.int .u8 t0))] (tb o) := by
  refine pure_of_TS fn32 rfl (N := 9) rfl rfl fun B g0 q0 => ?_
  unfold F32 at h
  refine TS_seq ?_
  refine TS_region ?_
  refine TO_step rfl (S_to rfl rfl (V_assign rfl rfl)) ?_
  refine TO_nil ?_
  refine TS_seq ?_
  obtain ⟨v0, hv0, h⟩ := obind_some h
  refine TS_join (fun (v : (Bool)) => [(2, (.d (tb v)))]) (fun (v : (Bool)) => []) v0 (.inl rfl) ?_ ?_
  · refine TS_ret ?_
    cases h
    exact ⟨trivial, _, _, (resEs_cons (resE_tmp rfl rfl) resEs_nil), rfl, (Wk.refl _)⟩
  · have h := hv0
    refine TS_region ?_
    refine TO_step rfl (S_to rfl rfl (V_move rfl rfl)) ?_
    refine TO_step rfl (S_to rfl rfl (V_bin rfl rfl rfl b_geq)) ?_
    refine TO_step rfl (S_to rfl rfl (V_move rfl rfl)) ?_
    rcases cond_some h with ⟨hb1, h⟩ | ⟨hb1, h⟩
    · refine TO_stepG rfl rfl rfl rfl hb1 (S_to rfl rfl (V_move rfl rfl)) ?_
      refine TO_stepG rfl rfl rfl rfl hb1 (S_to rfl rfl (V_bin rfl rfl rfl b_leq)) ?_
      refine TO_step rfl (S_to rfl rfl (V_pickT rfl rfl hb1 rfl rfl)) ?_
      refine TO_step rfl (S_to rfl rfl (V_assign rfl rfl)) ?_
      refine TO_nil ?_
      exact TS_nil ⟨_, Option.some.inj h, ⟨⟨.inr rfl, trivial⟩, ⟨_, rfl⟩, rfl, rfl, rfl⟩⟩
    · refine TO_skip rfl rfl rfl rfl hb1 ?_
      refine TO_skip rfl rfl rfl rfl hb1 ?_
      refine TO_step rfl (S_to rfl rfl (V_pickF rfl rfl hb1 rfl rfl)) ?_
      refine TO_step rfl (S_to rfl rfl (V_assign rfl rfl)) ?_
      refine TO_nil ?_
      exact TS_nil ⟨_, Option.some.inj h, ⟨⟨.inr rfl, trivial⟩, ⟨_, rfl⟩, rfl, rfl, rfl⟩⟩
-- sieveholes/token.run
def F33_f32_L0 (n : Nat) (t0 : (List UInt8)) : Nat → (Int) → Option (LO ((List UInt8)) (Int))
  | 0, _ => none
  | m0 + 1, s0 => obind (cond ((ltI s0 ((lenL t0)))) (obind (idxS t0 s0) fun x3 => obind (F32 n x3) fun y4 => some y4) (some false)) fun (v1 : (Bool)) => cond v1 (F33_f32_L0 n t0 m0 ((addI .i64 s0 1))) (some (.out s0))
def F33_f32 (n : Nat) (t0 : (List UInt8)) : Option ((List UInt8)) := obind (F33_f32_L0 n t0 n 0) fun out0 => match out0 with | .ret _ => none | .out v6 => obind (cutL t0 0 v6) fun x7 => some x7
theorem F33_f32_ok (n : Nat) (t0 : (List UInt8)) (o : ((List UInt8))) (h : F33_f32 n t0 = some o) : PureC Tryd.prog Z 33 [(str t0), .fn 32 [] []] (str o) := by
  refine pure_of_TS fn33 rfl (N := 22) rfl rfl fun B g0 q0 => ?_
  unfold F33_f32 at h
  refine TS_seq ?_
  refine TS_region ?_
  refine TO_step rfl (S_to rfl rfl (V_assign rfl rfl)) ?_
  refine TO_nil ?_
  refine TS_seq ?_
  refine TS_region ?_
  refine TO_step rfl (S_to rfl rfl (V_assign rfl rfl)) ?_
  refine TO_nil ?_
  refine TS_seq ?_
  refine TS_block ?_
  obtain ⟨out0, hL0, h⟩ := obind_some h
  refine TS_cont (id := 0) (fun (v : (Int)) => out0 = .out v) (fun (v : (Int)) => [(5, (.d (.sc (.int .i64 v)))), (0, (.d (str t0)))]) (fun (v : (Int)) => []) ?_ fun kx0_0 => ?_
  · rintro v6 rfl
    try dsimp only at h
    refine UX_eq ?_
    refine TS_seq ?_
    refine TS_region ?_
    refine TO_step rfl (S_to rfl rfl (V_move rfl rfl)) ?_
    refine TO_step rfl (S_to rfl rfl (V_move rfl rfl)) ?_
    obtain ⟨x7, hx7, h⟩ := obind_some h
    refine TO_step rfl (S_to rfl rfl (V_cutS rfl Tryd.underlying9 rfl rfl rfl hx7)) ?_
    refine TO_step rfl (S_to rfl rfl (V_assign rfl rfl)) ?_
    refine TO_nil ?_
    refine TS_ret ?_
    cases h
    exact ⟨trivial, _, _, (resEs_cons (resE_tmp rfl rfl) resEs_nil), rfl, (Wk.refl _)⟩
  refine TS_loop (F33_f32_L0 n t0) (fun (s : (Int)) => [(5, (.d (.sc (.int .i64 s)))), (0, (.d (str t0))), (1, (.d (.fn 32 [] [])))]) (fun (s : (Int)) => []) out0 hL0 ⟨⟨.inr rfl, .inr rfl, .inr rfl, trivial⟩, ⟨_, rfl⟩, rfl, rfl, rfl⟩ (fun _ => rfl) fun m0 s0 h => ?_
  rw [F33_f32_L0] at h
  refine TS_seq ?_
  refine TS_seq ?_
  obtain ⟨v1, hv1, h⟩ := obind_some h
  refine TS_join (fun (v : (Bool)) => [(16, (.d (tb v))), (5, (.d (.sc (.int .i64 s0)))), (0, (.d (str t0))), (1, (.d (.fn 32 [] [])))]) (fun (v : (Bool)) => []) v1 (.inl rfl) ?_ ?_
  · rcases cond_some h with ⟨hb5, h⟩ | ⟨hb5, h⟩
    · refine TS_true rfl hb5 ?_
      refine TS_skip ?_
      refine TS_block ?_
      refine TS_region ?_
      refine TO_step rfl (S_to rfl rfl (V_move rfl rfl)) ?_
      refine TO_step rfl (S_to rfl rfl (V_bin rfl rfl rfl b_add)) ?_
      refine TO_step rfl (S_to rfl rfl (V_assign rfl rfl)) ?_
      refine TO_nil ?_
      refine TS_b ?_
      exact TS_nil ⟨_, h, ⟨⟨.inr rfl, .inr rfl, .inr rfl, trivial⟩, ⟨_, rfl⟩, rfl, rfl, rfl⟩⟩
    · refine TS_false rfl hb5 ?_
      refine TS_exit ?_
      refine UX_c ?_
      refine UX_up ?_
      exact UX_less (.inl rfl) (kx0_0 _ (Option.some.inj h).symm) ⟨⟨.inr rfl, .inr rfl, trivial⟩, ⟨_, rfl⟩, rfl, rfl, rfl⟩
  · have h := hv1
    refine TS_region ?_
    refine TO_step rfl (S_to rfl rfl (V_move rfl rfl)) ?_
    refine TO_step rfl (S_to rfl rfl (V_move rfl rfl)) ?_
    refine TO_step rfl (S_to rfl rfl (V_lenS ⟨_, rfl, rfl, rfl, rfl⟩ Tryd.underlying9 rfl)) ?_
    refine TO_step rfl (S_to rfl rfl (V_bin rfl rfl rfl b_lss)) ?_
    refine TO_step rfl (S_to rfl rfl (V_move rfl rfl)) ?_
    rcases cond_some h with ⟨hb2, h⟩ | ⟨hb2, h⟩
    · refine TO_stepG rfl rfl rfl rfl hb2 (S_to rfl rfl (V_move rfl rfl)) ?_
      refine TO_stepG rfl rfl rfl rfl hb2 (S_to rfl rfl (V_move rfl rfl)) ?_
      refine TO_stepG rfl rfl rfl rfl hb2 (S_to rfl rfl (V_move rfl rfl)) ?_
      obtain ⟨x3, hx3, h⟩ := obind_some h
      refine TO_stepG rfl rfl rfl rfl hb2 (S_to rfl rfl (V_idxS rfl Tryd.underlying9 rfl rfl hx3)) ?_
      obtain ⟨y4, hy4, h⟩ := obind_some h
      refine TO_stepG rfl rfl rfl rfl hb2 (S_st (S_call rfl rfl rfl rfl bd32 (F32_ok n x3 y4 hy4)) rfl rfl) ?_
      refine TO_step rfl (S_to rfl rfl (V_pickT rfl rfl hb2 rfl rfl)) ?_
      refine TO_nil ?_
      exact TS_nil ⟨_, Option.some.inj h, ⟨⟨.inr rfl, .inr rfl, .inr rfl, .inr rfl, trivial⟩, ⟨_, rfl⟩, rfl, rfl, rfl⟩⟩
    · refine TO_skip rfl rfl rfl rfl hb2 ?_
      refine TO_skip rfl rfl rfl rfl hb2 ?_
      refine TO_skip rfl rfl rfl rfl hb2 ?_
      refine TO_skip rfl rfl rfl rfl hb2 ?_
      refine TO_skip rfl rfl rfl rfl hb2 ?_
      refine TO_step rfl (S_to rfl rfl (V_pickF rfl rfl hb2 rfl rfl)) ?_
      refine TO_nil ?_
      exact TS_nil ⟨_, Option.some.inj h, ⟨⟨.inr rfl, .inr rfl, .inr rfl, .inr rfl, trivial⟩, ⟨_, rfl⟩, rfl, rfl, rfl⟩⟩
-- sieveholes/token.number
def F34_L0 (t0 : (List UInt8)) : Nat → (Int × Int) → Option (LO (Int × Int) (Int))
  | 0, _ => none
  | m0 + 1, s0 => cond ((ltI s0.1 ((lenL t0)))) (obind (idxS t0 s0.1) fun x2 => obind (cond ((ltI ((quoI .u64 ((subI .u64 9223372036854775808 ((wr .u64 ((subI .u8 x2 48)))))) 10)) s0.2)) (some true) (cond ((ltI 0 s0.1)) (some ((eqI s0.2 0))) (some false))) fun (v3 : (Bool)) => cond v3 (some (.ret (0, 51))) (F34_L0 t0 m0 ((addI .i64 s0.1 1), (addI .u64 ((mulI .u64 s0.2 10)) ((wr .u64 ((subI .u8 x2 48)))))))) (some (.out s0.2))
def F34 (n : Nat) (t0 : (List UInt8)) : Option (Int × Int) := obind (F34_L0 t0 n (0, 0)) fun out0 => match out0 with | .ret r => some r | .out v7 => some ((wr .i64 v7), 0)
theorem F34_ok (n : Nat) (t0 : (List UInt8)) (o : (Int × Int)) (h : F34 n t0 = some o) : PureC Tryd.prog Z 34 [(str t0)] (.tup [(.sc (.int .i64 o.1)), (.sc (.int .i64 o.2))]) := by
  refine pure_of_TS fn34 rfl (N := 37) rfl rfl fun B g0 q0 => ?_
  unfold F34 at h
  refine TS_seq ?_
  refine TS_region ?_
  refine TO_step rfl (S_to rfl rfl (V_assign rfl rfl)) ?_
  refine TO_step rfl (S_to rfl rfl (V_assign rfl rfl)) ?_
  refine TO_nil ?_
  refine TS_seq ?_
  refine TS_region ?_
  refine TO_step rfl (S_to rfl rfl (V_assign rfl rfl)) ?_
  refine TO_nil ?_
  refine TS_seq ?_
  refine TS_seq ?_
  refine TS_region ?_
  refine TO_step rfl (S_to rfl rfl (V_move rfl rfl)) ?_
  refine TO_step rfl (S_to rfl rfl (V_lenS ⟨_, rfl, rfl, rfl, rfl⟩ Tryd.underlying9 rfl)) ?_
  refine TO_step rfl (S_to rfl rfl (V_move rfl rfl)) ?_
  refine TO_nil ?_
  refine TS_block ?_
  obtain ⟨out0, hL0, h⟩ := obind_some h
  have kr0 : ∀ r, out0 = .ret r → some r = some o := by rintro r rfl; exact h
  refine TS_cont (id := 0) (fun (v : (Int)) => out0 = .out v) (fun (v : (Int)) => [(4, (.d (.sc (.int .u64 v))))]) (fun (v : (Int)) => []) ?_ fun kx0_0 => ?_
  · rintro v7 rfl
    try dsimp only at h
    refine UX_eq ?_
    refine TS_seq ?_
    refine TS_region ?_
    refine TO_step rfl (S_to rfl rfl (V_move rfl rfl)) ?_
    refine TO_step rfl (S_to rfl rfl (V_conv rfl rfl (u_conv Tryd.underlying77 Tryd.underlying2))) ?_
    refine TO_step rfl (S_to rfl rfl (V_assign rfl rfl)) ?_
    refine TO_step rfl (S_to rfl rfl (V_assign rfl rfl)) ?_
    refine TO_nil ?_
    refine TS_ret ?_
    cases h
    exact ⟨trivial, _, _, (resEs_cons (resE_tmp rfl rfl) (resEs_cons (resE_tmp rfl rfl) resEs_nil)), rfl, (Wk.refl _)⟩
  refine TS_loop (F34_L0 t0) (fun (s : (Int × Int)) => [(4, (.d (.sc (.int .u64 s.2)))), (9, (.d (.sc (.int .i64 s.1)))), (8, (.d (.sc (.int .i64 ((lenL t0)))))), (0, (.d (str t0)))]) (fun (s : (Int × Int)) => []) out0 hL0 ⟨⟨.inr rfl, .inr rfl, .inr rfl, .inr rfl, trivial⟩, ⟨_, rfl⟩, rfl, rfl, rfl⟩ (fun _ => rfl) fun m0 s0 h => ?_
  rw [F34_L0] at h
  refine TS_seq ?_
  refine TS_region ?_
  refine TO_step rfl (S_to rfl rfl (V_bin rfl rfl rfl b_lss)) ?_
  refine TO_nil ?_
  refine TS_seq ?_
  rcases cond_some h with ⟨hb1, h⟩ | ⟨hb1, h⟩
  · refine TS_true rfl hb1 ?_
    refine TS_skip ?_
    refine TS_seq ?_
    refine TS_block ?_
    refine TS_seq ?_
    refine TS_region ?_
    refine TO_step rfl (S_to rfl rfl (V_move rfl rfl)) ?_
    refine TO_step rfl (S_to rfl rfl (V_assign rfl rfl)) ?_
    refine TO_nil ?_
    refine TS_seq ?_
    refine TS_region ?_
    refine TO_step rfl (S_to rfl rfl (V_move rfl rfl)) ?_
    refine TO_step rfl (S_to rfl rfl (V_move rfl rfl)) ?_
    obtain ⟨x2, hx2, h⟩ := obind_some h
    refine TO_step rfl (S_to rfl rfl (V_idxS rfl Tryd.underlying9 rfl rfl hx2)) ?_
    refine TO_step rfl (S_to rfl rfl (V_bin rfl rfl rfl b_sub)) ?_
    refine TO_step rfl (S_to rfl rfl (V_conv rfl rfl (u_conv Tryd.underlying5 Tryd.underlying77))) ?_
    refine TO_step rfl (S_to rfl rfl (V_assign rfl rfl)) ?_
    refine TO_nil ?_
    refine TS_seq ?_
    refine TS_seq ?_
    obtain ⟨v3, hv3, h⟩ := obind_some h
    refine TS_join (fun (v : (Bool)) => [(29, (.d (tb v))), (6, (.d (.sc (.int .u64 ((wr .u64 ((subI .u8 x2 48)))))))), (4, (.d (.sc (.int .u64 s0.2)))), (9, (.d (.sc (.int .i64 s0.1)))), (8, (.d (.sc (.int .i64 ((lenL t0)))))), (0, (.d (str t0)))]) (fun (v : (Bool)) => []) v3 (.inl rfl) ?_ ?_
    · rcases cond_some h with ⟨hb6, h⟩ | ⟨hb6, h⟩
      · refine TS_true rfl hb6 ?_
        refine TS_seq ?_
        refine TS_region ?_
        refine TO_step rfl (S_to rfl rfl (V_assign rfl rfl)) ?_
        refine TO_step rfl (S_to rfl rfl (V_assign rfl rfl)) ?_
        refine TO_nil ?_
        refine TS_ret ?_
        refine ret_up ?_
        have h := kr0 _ (Option.some.inj h).symm
        cases h
        exact ⟨trivial, _, _, (resEs_cons (resE_tmp rfl rfl) (resEs_cons (resE_tmp rfl rfl) resEs_nil)), rfl, (Wk.refl _)⟩
      · refine TS_false rfl hb6 ?_
        refine TS_skip ?_
        refine TS_region ?_
        refine TO_step rfl (S_to rfl rfl (V_move rfl rfl)) ?_
        refine TO_step rfl (S_to rfl rfl (V_bin rfl rfl rfl b_mul)) ?_
        refine TO_step rfl (S_to rfl rfl (V_move rfl rfl)) ?_
        refine TO_step rfl (S_to rfl rfl (V_bin rfl rfl rfl b_add)) ?_
        refine TO_step rfl (S_to rfl rfl (V_assign rfl rfl)) ?_
        refine TO_nil ?_
        refine TS_b ?_
        refine TS_region ?_
        refine TO_step rfl (S_to rfl rfl (V_bin rfl rfl rfl b_add)) ?_
        refine TO_step rfl (S_to rfl rfl (V_move rfl rfl)) ?_
        refine TO_nil ?_
        exact TS_nil ⟨_, h, ⟨⟨.inr rfl, .inr rfl, .inr rfl, .inr rfl, trivial⟩, ⟨_, rfl⟩, rfl, rfl, rfl⟩⟩
    · have h := hv3
      refine TS_region ?_
      refine TO_step rfl (S_to rfl rfl (V_move rfl rfl)) ?_
      refine TO_step rfl (S_to rfl rfl (V_move rfl rfl)) ?_
      refine TO_step rfl (S_to rfl rfl (V_bin rfl rfl rfl b_sub)) ?_
      refine TO_step rfl (S_to rfl rfl (V_bin rfl rfl rfl (b_quo rfl))) ?_
      refine TO_step rfl (S_to rfl rfl (V_bin rfl rfl rfl b_gtr)) ?_
      refine TO_step rfl (S_to rfl rfl (V_move rfl rfl)) ?_
      rcases cond_some h with ⟨hb4, h⟩ | ⟨hb4, h⟩
      · refine TO_skip rfl rfl rfl rfl hb4 ?_
        refine TO_skip rfl rfl rfl rfl hb4 ?_
        refine TO_skip rfl rfl rfl rfl hb4 ?_
        refine TO_skipU rfl rfl rfl rfl ?_
        refine TO_skipU rfl rfl rfl rfl ?_
        refine TO_skip rfl rfl rfl rfl hb4 ?_
        refine TO_step rfl (S_to rfl rfl (V_pickT rfl rfl hb4 rfl rfl)) ?_
        refine TO_nil ?_
        exact TS_nil ⟨_, Option.some.inj h, ⟨⟨.inr rfl, .inr rfl, .inr rfl, .inr rfl, .inr rfl, .inr rfl, trivial⟩, ⟨_, rfl⟩, rfl, rfl, rfl⟩⟩
      · refine TO_stepG rfl rfl rfl rfl hb4 (S_to rfl rfl (V_move rfl rfl)) ?_
        refine TO_stepG rfl rfl rfl rfl hb4 (S_to rfl rfl (V_bin rfl rfl rfl b_gtr)) ?_
        refine TO_stepG rfl rfl rfl rfl hb4 (S_to rfl rfl (V_move rfl rfl)) ?_
        rcases cond_some h with ⟨hb5, h⟩ | ⟨hb5, h⟩
        · refine TO_stepG rfl rfl rfl rfl hb5 (S_to rfl rfl (V_move rfl rfl)) ?_
          refine TO_stepG rfl rfl rfl rfl hb5 (S_to rfl rfl (V_bin rfl rfl rfl b_eql)) ?_
          refine TO_stepG rfl rfl rfl rfl hb4 (S_to rfl rfl (V_pickT rfl rfl hb5 rfl rfl)) ?_
          refine TO_step rfl (S_to rfl rfl (V_pickF rfl rfl hb4 rfl rfl)) ?_
          refine TO_nil ?_
          exact TS_nil ⟨_, Option.some.inj h, ⟨⟨.inr rfl, .inr rfl, .inr rfl, .inr rfl, .inr rfl, .inr rfl, trivial⟩, ⟨_, rfl⟩, rfl, rfl, rfl⟩⟩
        · refine TO_skip rfl rfl rfl rfl hb5 ?_
          refine TO_skip rfl rfl rfl rfl hb5 ?_
          refine TO_stepG rfl rfl rfl rfl hb4 (S_to rfl rfl (V_pickF rfl rfl hb5 rfl rfl)) ?_
          refine TO_step rfl (S_to rfl rfl (V_pickF rfl rfl hb4 rfl rfl)) ?_
          refine TO_nil ?_
          exact TS_nil ⟨_, Option.some.inj h, ⟨⟨.inr rfl, .inr rfl, .inr rfl, .inr rfl, .inr rfl, .inr rfl, trivial⟩, ⟨_, rfl⟩, rfl, rfl, rfl⟩⟩
  · refine TS_false rfl hb1 ?_
    refine TS_exit ?_
    refine UX_c ?_
    refine UX_up ?_
    exact UX_less (.inl rfl) (kx0_0 _ (Option.some.inj h).symm) ⟨⟨.inr rfl, trivial⟩, ⟨_, rfl⟩, rfl, rfl, rfl⟩
-- sieveholes/token.letter
def F35 (n : Nat) (t0 : Int) : Option (Bool) := obind (cond ((leI 97 t0)) (cond ((leI t0 122)) (some true) (cond ((leI 65 t0)) (cond ((leI t0 90)) (some true) (some ((eqI t0 95)))) (some ((eqI t0 95))))) (cond ((leI 65 t0)) (cond ((leI t0 90)) (some true) (some ((eqI t0 95)))) (some ((eqI t0 95))))) fun (v0 : (Bool)) => some v0
theorem F35_ok (n : Nat) (t0 : Int) (o : (Bool)) (h : F35 n t0 = some o) : PureC Tryd.prog Z 35 [(.sc (.int .u8 t0))] (tb o) := by
  refine pure_of_TS fn35 rfl (N := 21) rfl rfl fun B g0 q0 => ?_
  unfold F35 at h
  refine TS_seq ?_
  refine TS_region ?_
  refine TO_step rfl (S_to rfl rfl (V_assign rfl rfl)) ?_
  refine TO_nil ?_
  refine TS_seq ?_
  obtain ⟨v0, hv0, h⟩ := obind_some h
  refine TS_join (fun (v : (Bool)) => [(2, (.d (tb v)))]) (fun (v : (Bool)) => []) v0 (.inl rfl) ?_ ?_
  · refine TS_ret ?_
    cases h
    exact ⟨trivial, _, _, (resEs_cons (resE_tmp rfl rfl) resEs_nil), rfl, (Wk.refl _)⟩
  · have h := hv0
    refine TS_region ?_
    refine TO_step rfl (S_to rfl rfl (V_move rfl rfl)) ?_
    refine TO_step rfl (S_to rfl rfl (V_bin rfl rfl rfl b_geq)) ?_
    refine TO_step rfl (S_to rfl rfl (V_move rfl rfl)) ?_
    rcases cond_some h with ⟨hb1, h⟩ | ⟨hb1, h⟩
    · refine TO_stepG rfl rfl rfl rfl hb1 (S_to rfl rfl (V_move rfl rfl)) ?_
      refine TO_stepG rfl rfl rfl rfl hb1 (S_to rfl rfl (V_bin rfl rfl rfl b_leq)) ?_
      refine TO_step rfl (S_to rfl rfl (V_pickT rfl rfl hb1 rfl rfl)) ?_
      refine TO_step rfl (S_to rfl rfl (V_move rfl rfl)) ?_
      rcases cond_some h with ⟨hb2, h⟩ | ⟨hb2, h⟩
      · refine TO_skip rfl rfl rfl rfl hb2 ?_
        refine TO_skip rfl rfl rfl rfl hb2 ?_
        refine TO_skip rfl rfl rfl rfl hb2 ?_
        refine TO_skipU rfl rfl rfl rfl ?_
        refine TO_skipU rfl rfl rfl rfl ?_
        refine TO_skip rfl rfl rfl rfl hb2 ?_
        refine TO_step rfl (S_to rfl rfl (V_pickT rfl rfl hb2 rfl rfl)) ?_
        refine TO_step rfl (S_to rfl rfl (V_move rfl rfl)) ?_
        refine TO_skip rfl rfl rfl rfl rfl ?_
        refine TO_skip rfl rfl rfl rfl rfl ?_
        refine TO_step rfl (S_to rfl rfl (V_pickT rfl rfl rfl rfl rfl)) ?_
        refine TO_step rfl (S_to rfl rfl (V_assign rfl rfl)) ?_
        refine TO_nil ?_
        exact TS_nil ⟨_, Option.some.inj h, ⟨⟨.inr rfl, trivial⟩, ⟨_, rfl⟩, rfl, rfl, rfl⟩⟩
      · refine TO_stepG rfl rfl rfl rfl hb2 (S_to rfl rfl (V_move rfl rfl)) ?_
        refine TO_stepG rfl rfl rfl rfl hb2 (S_to rfl rfl (V_bin rfl rfl rfl b_geq)) ?_
        refine TO_stepG rfl rfl rfl rfl hb2 (S_to rfl rfl (V_move rfl rfl)) ?_
        rcases cond_some h with ⟨hb3, h⟩ | ⟨hb3, h⟩
        · refine TO_stepG rfl rfl rfl rfl hb3 (S_to rfl rfl (V_move rfl rfl)) ?_
          refine TO_stepG rfl rfl rfl rfl hb3 (S_to rfl rfl (V_bin rfl rfl rfl b_leq)) ?_
          refine TO_stepG rfl rfl rfl rfl hb2 (S_to rfl rfl (V_pickT rfl rfl hb3 rfl rfl)) ?_
          refine TO_step rfl (S_to rfl rfl (V_pickF rfl rfl hb2 rfl rfl)) ?_
          refine TO_step rfl (S_to rfl rfl (V_move rfl rfl)) ?_
          rcases cond_some h with ⟨hb4, h⟩ | ⟨hb4, h⟩
          · refine TO_skip rfl rfl rfl rfl hb4 ?_
            refine TO_skip rfl rfl rfl rfl hb4 ?_
            refine TO_step rfl (S_to rfl rfl (V_pickT rfl rfl hb4 rfl rfl)) ?_
            refine TO_step rfl (S_to rfl rfl (V_assign rfl rfl)) ?_
            refine TO_nil ?_
            exact TS_nil ⟨_, Option.some.inj h, ⟨⟨.inr rfl, trivial⟩, ⟨_, rfl⟩, rfl, rfl, rfl⟩⟩
          · refine TO_stepG rfl rfl rfl rfl hb4 (S_to rfl rfl (V_move rfl rfl)) ?_
            refine TO_stepG rfl rfl rfl rfl hb4 (S_to rfl rfl (V_bin rfl rfl rfl b_eql)) ?_
            refine TO_step rfl (S_to rfl rfl (V_pickF rfl rfl hb4 rfl rfl)) ?_
            refine TO_step rfl (S_to rfl rfl (V_assign rfl rfl)) ?_
            refine TO_nil ?_
            exact TS_nil ⟨_, Option.some.inj h, ⟨⟨.inr rfl, trivial⟩, ⟨_, rfl⟩, rfl, rfl, rfl⟩⟩
        · refine TO_skip rfl rfl rfl rfl hb3 ?_
          refine TO_skip rfl rfl rfl rfl hb3 ?_
          refine TO_stepG rfl rfl rfl rfl hb2 (S_to rfl rfl (V_pickF rfl rfl hb3 rfl rfl)) ?_
          refine TO_step rfl (S_to rfl rfl (V_pickF rfl rfl hb2 rfl rfl)) ?_
          refine TO_step rfl (S_to rfl rfl (V_move rfl rfl)) ?_
          refine TO_stepG rfl rfl rfl rfl rfl (S_to rfl rfl (V_move rfl rfl)) ?_
          refine TO_stepG rfl rfl rfl rfl rfl (S_to rfl rfl (V_bin rfl rfl rfl b_eql)) ?_
          refine TO_step rfl (S_to rfl rfl (V_pickF rfl rfl rfl rfl rfl)) ?_
          refine TO_step rfl (S_to rfl rfl (V_assign rfl rfl)) ?_
          refine TO_nil ?_
          exact TS_nil ⟨_, Option.some.inj h, ⟨⟨.inr rfl, trivial⟩, ⟨_, rfl⟩, rfl, rfl, rfl⟩⟩
    · refine TO_skip rfl rfl rfl rfl hb1 ?_
      refine TO_skip rfl rfl rfl rfl hb1 ?_
      refine TO_step rfl (S_to rfl rfl (V_pickF rfl rfl hb1 rfl rfl)) ?_
      refine TO_step rfl (S_to rfl rfl (V_move rfl rfl)) ?_
      refine TO_stepG rfl rfl rfl rfl rfl (S_to rfl rfl (V_move rfl rfl)) ?_
      refine TO_stepG rfl rfl rfl rfl rfl (S_to rfl rfl (V_bin rfl rfl rfl b_geq)) ?_
      refine TO_stepG rfl rfl rfl rfl rfl (S_to rfl rfl (V_move rfl rfl)) ?_
      rcases cond_some h with ⟨hb5, h⟩ | ⟨hb5, h⟩
      · refine TO_stepG rfl rfl rfl rfl hb5 (S_to rfl rfl (V_move rfl rfl)) ?_
        refine TO_stepG rfl rfl rfl rfl hb5 (S_to rfl rfl (V_bin rfl rfl rfl b_leq)) ?_
        refine TO_stepG rfl rfl rfl rfl rfl (S_to rfl rfl (V_pickT rfl rfl hb5 rfl rfl)) ?_
        refine TO_step rfl (S_to rfl rfl (V_pickF rfl rfl rfl rfl rfl)) ?_
        refine TO_step rfl (S_to rfl rfl (V_move rfl rfl)) ?_
        rcases cond_some h with ⟨hb6, h⟩ | ⟨hb6, h⟩
        · refine TO_skip rfl rfl rfl rfl hb6 ?_
          refine TO_skip rfl rfl rfl rfl hb6 ?_
          refine TO_step rfl (S_to rfl rfl (V_pickT rfl rfl hb6 rfl rfl)) ?_
          refine TO_step rfl (S_to rfl rfl (V_assign rfl rfl)) ?_
          refine TO_nil ?_
          exact TS_nil ⟨_, Option.some.inj h, ⟨⟨.inr rfl, trivial⟩, ⟨_, rfl⟩, rfl, rfl, rfl⟩⟩
        · refine TO_stepG rfl rfl rfl rfl hb6 (S_to rfl rfl (V_move rfl rfl)) ?_
          refine TO_stepG rfl rfl rfl rfl hb6 (S_to rfl rfl (V_bin rfl rfl rfl b_eql)) ?_
          refine TO_step rfl (S_to rfl rfl (V_pickF rfl rfl hb6 rfl rfl)) ?_
          refine TO_step rfl (S_to rfl rfl (V_assign rfl rfl)) ?_
          refine TO_nil ?_
          exact TS_nil ⟨_, Option.some.inj h, ⟨⟨.inr rfl, trivial⟩, ⟨_, rfl⟩, rfl, rfl, rfl⟩⟩
      · refine TO_skip rfl rfl rfl rfl hb5 ?_
        refine TO_skip rfl rfl rfl rfl hb5 ?_
        refine TO_stepG rfl rfl rfl rfl rfl (S_to rfl rfl (V_pickF rfl rfl hb5 rfl rfl)) ?_
        refine TO_step rfl (S_to rfl rfl (V_pickF rfl rfl rfl rfl rfl)) ?_
        refine TO_step rfl (S_to rfl rfl (V_move rfl rfl)) ?_
        refine TO_stepG rfl rfl rfl rfl rfl (S_to rfl rfl (V_move rfl rfl)) ?_
        refine TO_stepG rfl rfl rfl rfl rfl (S_to rfl rfl (V_bin rfl rfl rfl b_eql)) ?_
        refine TO_step rfl (S_to rfl rfl (V_pickF rfl rfl rfl rfl rfl)) ?_
        refine TO_step rfl (S_to rfl rfl (V_assign rfl rfl)) ?_
        refine TO_nil ?_
        exact TS_nil ⟨_, Option.some.inj h, ⟨⟨.inr rfl, trivial⟩, ⟨_, rfl⟩, rfl, rfl, rfl⟩⟩
-- sieveholes/token.token$1
def F36 (n : Nat) (t0 : Int) : Option (Bool) := obind (obind (F35 n t0) fun y1 => cond y1 (some true) (obind (F32 n t0) fun y3 => some y3)) fun (v0 : (Bool)) => some v0
theorem F36_ok (n : Nat) (t0 : Int) (o : (Bool)) (h : F36 n t0 = some o) : PureC Tryd.prog Z 36 [(.sc (.int .u8 t0))] (tb o) := by
  refine pure_of_TS fn36 rfl (N := 9) rfl rfl fun B g0 q0 => ?_
  unfold F36 at h
  refine TS_seq ?_
  refine TS_region ?_
  refine TO_step rfl (S_to rfl rfl (V_assign rfl rfl)) ?_
  refine TO_nil ?_
  refine TS_seq ?_
  obtain ⟨v0, hv0, h⟩ := obind_some h
  refine TS_join (fun (v : (Bool)) => [(2, (.d (tb v)))]) (fun (v : (Bool)) => []) v0 (.inl rfl) ?_ ?_
  · refine TS_ret ?_
    cases h
    exact ⟨trivial, _, _, (resEs_cons (resE_tmp rfl rfl) resEs_nil), rfl, (Wk.refl _)⟩
  · have h := hv0
    refine TS_region ?_
    refine TO_step rfl (S_to rfl rfl (V_move rfl rfl)) ?_
    obtain ⟨y1, hy1, h⟩ := obind_some h
    refine TO_step rfl (S_st (S_call rfl rfl rfl rfl bd35 (F35_ok n t0 y1 hy1)) rfl rfl) ?_
    refine TO_step rfl (S_to rfl rfl (V_move rfl rfl)) ?_
    rcases cond_some h with ⟨hb2, h⟩ | ⟨hb2, h⟩
    · refine TO_skip rfl rfl rfl rfl hb2 ?_
      refine TO_skip rfl rfl rfl rfl hb2 ?_
      refine TO_step rfl (S_to rfl rfl (V_pickT rfl rfl hb2 rfl rfl)) ?_
      refine TO_step rfl (S_to rfl rfl (V_assign rfl rfl)) ?_
      refine TO_nil ?_
      exact TS_nil ⟨_, Option.some.inj h, ⟨⟨.inr rfl, trivial⟩, ⟨_, rfl⟩, rfl, rfl, rfl⟩⟩
    · refine TO_stepG rfl rfl rfl rfl hb2 (S_to rfl rfl (V_move rfl rfl)) ?_
      obtain ⟨y3, hy3, h⟩ := obind_some h
      refine TO_stepG rfl rfl rfl rfl hb2 (S_st (S_call rfl rfl rfl rfl bd32 (F32_ok n t0 y3 hy3)) rfl rfl) ?_
      refine TO_step rfl (S_to rfl rfl (V_pickF rfl rfl hb2 rfl rfl)) ?_
      refine TO_step rfl (S_to rfl rfl (V_assign rfl rfl)) ?_
      refine TO_nil ?_
      exact TS_nil ⟨_, Option.some.inj h, ⟨⟨.inr rfl, trivial⟩, ⟨_, rfl⟩, rfl, rfl, rfl⟩⟩
-- sieveholes/token.run
def F33_f36_L0 (n : Nat) (t0 : (List UInt8)) : Nat → (Int) → Option (LO ((List UInt8)) (Int))
  | 0, _ => none
  | m0 + 1, s0 => obind (cond ((ltI s0 ((lenL t0)))) (obind (idxS t0 s0) fun x3 => obind (F36 n x3) fun y4 => some y4) (some false)) fun (v1 : (Bool)) => cond v1 (F33_f36_L0 n t0 m0 ((addI .i64 s0 1))) (some (.out s0))
def F33_f36 (n : Nat) (t0 : (List UInt8)) : Option ((List UInt8)) := obind (F33_f36_L0 n t0 n 0) fun out0 => match out0 with | .ret _ => none | .out v6 => obind (cutL t0 0 v6) fun x7 => some x7
theorem F33_f36_ok (n : Nat) (t0 : (List UInt8)) (o : ((List UInt8))) (h : F33_f36 n t0 = some o) : PureC Tryd.prog Z 33 [(str t0), .fn 36 [] []] (str o) := by
  refine pure_of_TS fn33 rfl (N := 22) rfl rfl fun B g0 q0 => ?_
  unfold F33_f36 at h
  refine TS_seq ?_
  refine TS_region ?_
  refine TO_step rfl (S_to rfl rfl (V_assign rfl rfl)) ?_
  refine TO_nil ?_
  refine TS_seq ?_
  refine TS_region ?_
  refine TO_step rfl (S_to rfl rfl (V_assign rfl rfl)) ?_
  refine TO_nil ?_
  refine TS_seq ?_
  refine TS_block ?_
  obtain ⟨out0, hL0, h⟩ := obind_some h
  refine TS_cont (id := 0) (fun (v : (Int)) => out0 = .out v) (fun (v : (Int)) => [(5, (.d (.sc (.int .i64 v)))), (0, (.d (str t0)))]) (fun (v : (Int)) => []) ?_ fun kx0_0 => ?_
  · rintro v6 rfl
    try dsimp only at h
    refine UX_eq ?_
    refine TS_seq ?_
    refine TS_region ?_
    refine TO_step rfl (S_to rfl rfl (V_move rfl rfl)) ?_
    refine TO_step rfl (S_to rfl rfl (V_move rfl rfl)) ?_
    obtain ⟨x7, hx7, h⟩ := obind_some h
    refine TO_step rfl (S_to rfl rfl (V_cutS rfl Tryd.underlying9 rfl rfl rfl hx7)) ?_
    refine TO_step rfl (S_to rfl rfl (V_assign rfl rfl)) ?_
    refine TO_nil ?_
    refine TS_ret ?_
    cases h
    exact ⟨trivial, _, _, (resEs_cons (resE_tmp rfl rfl) resEs_nil), rfl, (Wk.refl _)⟩
  refine TS_loop (F33_f36_L0 n t0) (fun (s : (Int)) => [(5, (.d (.sc (.int .i64 s)))), (0, (.d (str t0))), (1, (.d (.fn 36 [] [])))]) (fun (s : (Int)) => []) out0 hL0 ⟨⟨.inr rfl, .inr rfl, .inr rfl, trivial⟩, ⟨_, rfl⟩, rfl, rfl, rfl⟩ (fun _ => rfl) fun m0 s0 h => ?_
  rw [F33_f36_L0] at h
  refine TS_seq ?_
  refine TS_seq ?_
  obtain ⟨v1, hv1, h⟩ := obind_some h
  refine TS_join (fun (v : (Bool)) => [(16, (.d (tb v))), (5, (.d (.sc (.int .i64 s0)))), (0, (.d (str t0))), (1, (.d (.fn 36 [] [])))]) (fun (v : (Bool)) => []) v1 (.inl rfl) ?_ ?_
  · rcases cond_some h with ⟨hb5, h⟩ | ⟨hb5, h⟩
    · refine TS_true rfl hb5 ?_
      refine TS_skip ?_
      refine TS_block ?_
      refine TS_region ?_
      refine TO_step rfl (S_to rfl rfl (V_move rfl rfl)) ?_
      refine TO_step rfl (S_to rfl rfl (V_bin rfl rfl rfl b_add)) ?_
      refine TO_step rfl (S_to rfl rfl (V_assign rfl rfl)) ?_
      refine TO_nil ?_
      refine TS_b ?_
      exact TS_nil ⟨_, h, ⟨⟨.inr rfl, .inr rfl, .inr rfl, trivial⟩, ⟨_, rfl⟩, rfl, rfl, rfl⟩⟩
    · refine TS_false rfl hb5 ?_
      refine TS_exit ?_
      refine UX_c ?_
      refine UX_up ?_
      exact UX_less (.inl rfl) (kx0_0 _ (Option.some.inj h).symm) ⟨⟨.inr rfl, .inr rfl, trivial⟩, ⟨_, rfl⟩, rfl, rfl, rfl⟩
  · have h := hv1
    refine TS_region ?_
    refine TO_step rfl (S_to rfl rfl (V_move rfl rfl)) ?_
    refine TO_step rfl (S_to rfl rfl (V_move rfl rfl)) ?_
    refine TO_step rfl (S_to rfl rfl (V_lenS ⟨_, rfl, rfl, rfl, rfl⟩ Tryd.underlying9 rfl)) ?_
    refine TO_step rfl (S_to rfl rfl (V_bin rfl rfl rfl b_lss)) ?_
    refine TO_step rfl (S_to rfl rfl (V_move rfl rfl)) ?_
    rcases cond_some h with ⟨hb2, h⟩ | ⟨hb2, h⟩
    · refine TO_stepG rfl rfl rfl rfl hb2 (S_to rfl rfl (V_move rfl rfl)) ?_
      refine TO_stepG rfl rfl rfl rfl hb2 (S_to rfl rfl (V_move rfl rfl)) ?_
      refine TO_stepG rfl rfl rfl rfl hb2 (S_to rfl rfl (V_move rfl rfl)) ?_
      obtain ⟨x3, hx3, h⟩ := obind_some h
      refine TO_stepG rfl rfl rfl rfl hb2 (S_to rfl rfl (V_idxS rfl Tryd.underlying9 rfl rfl hx3)) ?_
      obtain ⟨y4, hy4, h⟩ := obind_some h
      refine TO_stepG rfl rfl rfl rfl hb2 (S_st (S_call rfl rfl rfl rfl bd36 (F36_ok n x3 y4 hy4)) rfl rfl) ?_
      refine TO_step rfl (S_to rfl rfl (V_pickT rfl rfl hb2 rfl rfl)) ?_
      refine TO_nil ?_
      exact TS_nil ⟨_, Option.some.inj h, ⟨⟨.inr rfl, .inr rfl, .inr rfl, .inr rfl, trivial⟩, ⟨_, rfl⟩, rfl, rfl, rfl⟩⟩
    · refine TO_skip rfl rfl rfl rfl hb2 ?_
      refine TO_skip rfl rfl rfl rfl hb2 ?_
      refine TO_skip rfl rfl rfl rfl hb2 ?_
      refine TO_skip rfl rfl rfl rfl hb2 ?_
      refine TO_skip rfl rfl rfl rfl hb2 ?_
      refine TO_step rfl (S_to rfl rfl (V_pickF rfl rfl hb2 rfl rfl)) ?_
      refine TO_nil ?_
      exact TS_nil ⟨_, Option.some.inj h, ⟨⟨.inr rfl, .inr rfl, .inr rfl, .inr rfl, trivial⟩, ⟨_, rfl⟩, rfl, rfl, rfl⟩⟩
-- internal/stringslite.HasPrefix
def F51 (n : Nat) (t0 : (List UInt8)) (t1 : (List UInt8)) : Option (Bool) := obind (cond ((leI ((lenL t1)) ((lenL t0)))) (obind (cutL t0 0 ((lenL t1))) fun x2 => some ((eqS x2 t1))) (some false)) fun (v0 : (Bool)) => some v0
theorem F51_ok (n : Nat) (t0 : (List UInt8)) (t1 : (List UInt8)) (o : (Bool)) (h : F51 n t0 t1 = some o) : PureC Tryd.prog Z 51 [(str t0), (str t1)] (tb o) := by
  refine pure_of_TS fn51 rfl (N := 18) rfl rfl fun B g0 q0 => ?_
  unfold F51 at h
  refine TS_seq ?_
  refine TS_region ?_
  refine TO_step rfl (S_to rfl rfl (V_assign rfl rfl)) ?_
  refine TO_nil ?_
  refine TS_seq ?_
  obtain ⟨v0, hv0, h⟩ := obind_some h
  refine TS_join (fun (v : (Bool)) => [(4, (.d (tb v)))]) (fun (v : (Bool)) => []) v0 (.inl rfl) ?_ ?_
  · refine TS_ret ?_
    cases h
    exact ⟨trivial, _, _, (resEs_cons (resE_tmp rfl rfl) resEs_nil), rfl, (Wk.refl _)⟩
  · have h := hv0
    refine TS_region ?_
    refine TO_step rfl (S_to rfl rfl (V_move rfl rfl)) ?_
    refine TO_step rfl (S_to rfl rfl (V_lenS ⟨_, rfl, rfl, rfl, rfl⟩ Tryd.underlying9 rfl)) ?_
    refine TO_step rfl (S_to rfl rfl (V_move rfl rfl)) ?_
    refine TO_step rfl (S_to rfl rfl (V_lenS ⟨_, rfl, rfl, rfl, rfl⟩ Tryd.underlying9 rfl)) ?_
    refine TO_step rfl (S_to rfl rfl (V_bin rfl rfl rfl b_geq)) ?_
    refine TO_step rfl (S_to rfl rfl (V_move rfl rfl)) ?_
    rcases cond_some h with ⟨hb1, h⟩ | ⟨hb1, h⟩
    · refine TO_stepG rfl rfl rfl rfl hb1 (S_to rfl rfl (V_move rfl rfl)) ?_
      refine TO_stepG rfl rfl rfl rfl hb1 (S_to rfl rfl (V_move rfl rfl)) ?_
      refine TO_stepG rfl rfl rfl rfl hb1 (S_to rfl rfl (V_lenS ⟨_, rfl, rfl, rfl, rfl⟩ Tryd.underlying9 rfl)) ?_
      obtain ⟨x2, hx2, h⟩ := obind_some h
      refine TO_stepG rfl rfl rfl rfl hb1 (S_to rfl rfl (V_cutS rfl Tryd.underlying9 rfl rfl rfl hx2)) ?_
      refine TO_stepG rfl rfl rfl rfl hb1 (S_to rfl rfl (V_move rfl rfl)) ?_
      refine TO_stepG rfl rfl rfl rfl hb1 (S_to rfl rfl (V_bin rfl rfl rfl bs_eql)) ?_
      refine TO_step rfl (S_to rfl rfl (V_pickT rfl rfl hb1 rfl rfl)) ?_
      refine TO_step rfl (S_to rfl rfl (V_assign rfl rfl)) ?_
      refine TO_nil ?_
      exact TS_nil ⟨_, Option.some.inj h, ⟨⟨.inr rfl, trivial⟩, ⟨_, rfl⟩, rfl, rfl, rfl⟩⟩
    · refine TO_skip rfl rfl rfl rfl hb1 ?_
      refine TO_skip rfl rfl rfl rfl hb1 ?_
      refine TO_skip rfl rfl rfl rfl hb1 ?_
      refine TO_skip rfl rfl rfl rfl hb1 ?_
      refine TO_skip rfl rfl rfl rfl hb1 ?_
      refine TO_skip rfl rfl rfl rfl hb1 ?_
      refine TO_step rfl (S_to rfl rfl (V_pickF rfl rfl hb1 rfl rfl)) ?_
      refine TO_step rfl (S_to rfl rfl (V_assign rfl rfl)) ?_
      refine TO_nil ?_
      exact TS_nil ⟨_, Option.some.inj h, ⟨⟨.inr rfl, trivial⟩, ⟨_, rfl⟩, rfl, rfl, rfl⟩⟩
-- strings.HasPrefix
def F38 (n : Nat) (t0 : (List UInt8)) (t1 : (List UInt8)) : Option (Bool) := obind (F51 n t0 t1) fun y0 => some y0
theorem F38_ok (n : Nat) (t0 : (List UInt8)) (t1 : (List UInt8)) (o : (Bool)) (h : F38 n t0 t1 = some o) : PureC Tryd.prog Z 38 [(str t0), (str t1)] (tb o) := by
  refine pure_of_TS fn38 rfl (N := 8) rfl rfl fun B g0 q0 => ?_
  unfold F38 at h
  refine TS_seq ?_
  refine TS_region ?_
  refine TO_step rfl (S_to rfl rfl (V_assign rfl rfl)) ?_
  refine TO_nil ?_
  refine TS_seq ?_
  refine TS_region ?_
  refine TO_step rfl (S_to rfl rfl (V_move rfl rfl)) ?_
  refine TO_step rfl (S_to rfl rfl (V_move rfl rfl)) ?_
  obtain ⟨y0, hy0, h⟩ := obind_some h
  refine TO_step rfl (S_st (S_call rfl rfl rfl rfl bd51 (F51_ok n t0 t1 y0 hy0)) rfl rfl) ?_
  refine TO_step rfl (S_to rfl rfl (V_assign rfl rfl)) ?_
  refine TO_nil ?_
  refine TS_ret ?_
  cases h
  exact ⟨trivial, _, _, (resEs_cons (resE_tmp rfl rfl) resEs_nil), rfl, (Wk.refl _)⟩
-- sieveholes/token.token
def F20_L11 (n : Nat) (t0 : (List UInt8)) (y10 : ((List (List UInt8)))) : Nat → (Int) → Option (LO (S27 × Int) ((List UInt8)))
  | 0, _ => none
  | m11 + 1, s11 => cond ((ltI s11 ((lenL y10)))) (obind (getL y10 s11) fun x13 => obind (F38 n t0 x13) fun y14 => cond y14 (some (.out x13)) (F20_L11 n t0 y10 m11 ((addI .i64 s11 1)))) (some (.out (([] : List UInt8))))
def F20 (n : Nat) (t0 : (List UInt8)) : Option (S27 × Int) := obind (idxS t0 0) fun x0 => obind (F32 n x0) fun y1 => cond y1 (obind (F33_f32 n t0) fun y3 => obind (F34 n y3) fun y4 => some ((⟨1, y3, y4.1, (⟨0, 0⟩ : S25)⟩ : S27), y4.2)) (obind (idxS t0 0) fun x5 => obind (F35 n x5) fun y6 => cond y6 (obind (F33_f36 n t0) fun y8 => cond ((ltI 32 ((lenL y8)))) (some ((⟨0, ([] : List UInt8), 0, (⟨0, 0⟩ : S25)⟩ : S27), 52)) (some ((⟨0, y8, 0, (⟨0, 0⟩ : S25)⟩ : S27), 0))) (obind (X37 n ) fun y10 => obind (F20_L11 n t0 y10 n 0) fun out11 => match out11 with | .ret _ => none | .out v16 => cond ((eqS v16 (([] : List UInt8)))) (some ((⟨0, ([] : List UInt8), 0, (⟨0, 0⟩ : S25)⟩ : S27), 50)) (some ((⟨2, v16, 0, (⟨0, 0⟩ : S25)⟩ : S27), 0))))
theorem F20_ok (n : Nat) (t0 : (List UInt8)) (o : (S27 × Int)) (h : F20 n t0 = some o) : PureC Tryd.prog Z 20 [(str t0)] (.tup [(.agg [(.sc (.int .i64 o.1.f_Kind)), (str o.1.f_Text), (.sc (.int .i64 o.1.f_N)), (.sc (.int .i64 o.1.f_At.f_Line)), (.sc (.int .i64 o.1.f_At.f_Col))]), (.sc (.int .i64 o.2))]) := by
  refine pure_of_TS fn20 rfl (N := 52) rfl rfl fun B g0 q0 => ?_
  unfold F20 at h
  refine TS_seq ?_
  refine TS_region ?_
  refine TO_step rfl (S_allocE rfl rfl al27 rfl rfl (show _ = [.box 27 [(.d (.sc (.int .i64 0))), (.d (str (([] : List UInt8)))), (.d (.sc (.int .i64 0))), (.d (.sc (.int .i64 0))), (.d (.sc (.int .i64 0)))]] from rfl)) ?_
  refine TO_step rfl (S_to rfl rfl (V_assign rfl rfl)) ?_
  refine TO_nil ?_
  refine TS_scope ?_
  refine TS_seq ?_
  refine TS_seq ?_
  refine TS_region ?_
  refine TO_step rfl (S_to rfl rfl (V_move rfl rfl)) ?_
  obtain ⟨x0, hx0, h⟩ := obind_some h
  refine TO_step rfl (S_to rfl rfl (V_idxS rfl Tryd.underlying9 rfl rfl hx0)) ?_
  obtain ⟨y1, hy1, h⟩ := obind_some h
  refine TO_step rfl (S_st (S_call rfl rfl rfl rfl bd32 (F32_ok n x0 y1 hy1)) rfl rfl) ?_
  refine TO_nil ?_
  rcases cond_some h with ⟨hb2, h⟩ | ⟨hb2, h⟩
  · refine TS_true rfl hb2 ?_
    refine TS_seq ?_
    refine TS_region ?_
    refine TO_step rfl (S_to rfl rfl (V_move rfl rfl)) ?_
    obtain ⟨y3, hy3, h⟩ := obind_some h
    refine TO_step rfl (S_st (S_call rfl rfl rfl rfl bd33 (F33_f32_ok n t0 y3 hy3)) rfl rfl) ?_
    refine TO_step rfl (S_to rfl rfl (V_assign rfl rfl)) ?_
    refine TO_nil ?_
    refine TS_seq ?_
    refine TS_region ?_
    refine TO_step rfl (S_to rfl rfl (V_move rfl rfl)) ?_
    obtain ⟨y4, hy4, h⟩ := obind_some h
    refine TO_step rfl (S_st (S_call rfl rfl rfl rfl bd34 (F34_ok n y3 y4 hy4)) rfl rfl) ?_
    refine TO_step rfl (S_to rfl rfl (V_move rfl rfl)) ?_
    refine TO_step rfl (S_to rfl rfl (V_extract rfl rfl rfl)) ?_
    refine TO_step rfl (S_to rfl rfl (V_extract rfl rfl rfl)) ?_
    refine TO_step rfl (S_to rfl rfl (V_assign rfl rfl)) ?_
    refine TO_step rfl (S_to rfl rfl (V_assign rfl rfl)) ?_
    refine TO_nil ?_
    refine TS_seq ?_
    refine TS_region ?_
    refine TO_step rfl (S_to rfl rfl (V_move rfl rfl)) ?_
    refine TO_step rfl (S_to rfl rfl (V_move rfl rfl)) ?_
    refine TO_step rfl (S_to rfl rfl (V_build rfl rfl (show buildE _ 27 _ = some (.agg [(.sc (.int .i64 1)), (str y3), (.sc (.int .i64 y4.1)), (.sc (.int .i64 0)), (.sc (.int .i64 0))]) from rfl))) ?_
    refine TO_step rfl (S_to rfl rfl (V_move rfl rfl)) ?_
    refine TO_step rfl (S_st (S_storeE rfl rfl rfl rfl rfl if27 sz27 rfl rfl (show _ = [(.d (.sc (.int .i64 1))), (.d (str y3)), (.d (.sc (.int .i64 y4.1))), (.d (.sc (.int .i64 0))), (.d (.sc (.int .i64 0)))] from rfl) rfl) rfl (show _ = [.box 27 [(.d (.sc (.int .i64 1))), (.d (str y3)), (.d (.sc (.int .i64 y4.1))), (.d (.sc (.int .i64 0))), (.d (.sc (.int .i64 0)))]] from rfl)) ?_
    refine TO_step rfl (S_to rfl rfl (V_assign rfl rfl)) ?_
    refine TO_nil ?_
    refine TS_ret ?_
    cases h
    exact ⟨trivial, _, _, (resEs_cons (resE_cell rfl rfl rfl (loadB_agg ok27 ag27 sz27 (show _ = some [(.sc (.int .i64 1)), (str y3), (.sc (.int .i64 y4.1)), (.sc (.int .i64 0)), (.sc (.int .i64 0))] from rfl) rfl)) (resEs_cons (resE_tmp rfl rfl) resEs_nil)), rfl, (Wk.refl _)⟩
  · refine TS_false rfl hb2 ?_
    refine TS_skip ?_
    refine TS_seq ?_
    refine TS_seq ?_
    refine TS_region ?_
    refine TO_step rfl (S_to rfl rfl (V_move rfl rfl)) ?_
    obtain ⟨x5, hx5, h⟩ := obind_some h
    refine TO_step rfl (S_to rfl rfl (V_idxS rfl Tryd.underlying9 rfl rfl hx5)) ?_
    obtain ⟨y6, hy6, h⟩ := obind_some h
    refine TO_step rfl (S_st (S_call rfl rfl rfl rfl bd35 (F35_ok n x5 y6 hy6)) rfl rfl) ?_
    refine TO_nil ?_
    rcases cond_some h with ⟨hb7, h⟩ | ⟨hb7, h⟩
    · refine TS_true rfl hb7 ?_
      refine TS_seq ?_
      refine TS_region ?_
      refine TO_step rfl (S_to rfl rfl (V_move rfl rfl)) ?_
      obtain ⟨y8, hy8, h⟩ := obind_some h
      refine TO_step rfl (S_st (S_call rfl rfl rfl rfl bd33 (F33_f36_ok n t0 y8 hy8)) rfl rfl) ?_
      refine TO_step rfl (S_to rfl rfl (V_assign rfl rfl)) ?_
      refine TO_nil ?_
      refine TS_seq ?_
      refine TS_seq ?_
      refine TS_region ?_
      refine TO_step rfl (S_to rfl rfl (V_move rfl rfl)) ?_
      refine TO_step rfl (S_to rfl rfl (V_lenS ⟨_, rfl, rfl, rfl, rfl⟩ Tryd.underlying9 rfl)) ?_
      refine TO_step rfl (S_to rfl rfl (V_bin rfl rfl rfl b_gtr)) ?_
      refine TO_nil ?_
      rcases cond_some h with ⟨hb9, h⟩ | ⟨hb9, h⟩
      · refine TS_true rfl hb9 ?_
        refine TS_seq ?_
        refine TS_region ?_
        refine TO_step rfl (S_to rfl rfl (V_build rfl rfl (show buildE _ 27 _ = some (.agg [(.sc (.int .i64 0)), (str (([] : List UInt8))), (.sc (.int .i64 0)), (.sc (.int .i64 0)), (.sc (.int .i64 0))]) from rfl))) ?_
        refine TO_step rfl (S_st (S_storeE rfl rfl rfl rfl rfl if27 sz27 rfl rfl (show _ = [(.d (.sc (.int .i64 0))), (.d (str (([] : List UInt8)))), (.d (.sc (.int .i64 0))), (.d (.sc (.int .i64 0))), (.d (.sc (.int .i64 0)))] from rfl) rfl) rfl (show _ = [.box 27 [(.d (.sc (.int .i64 0))), (.d (str (([] : List UInt8)))), (.d (.sc (.int .i64 0))), (.d (.sc (.int .i64 0))), (.d (.sc (.int .i64 0)))]] from rfl)) ?_
        refine TO_step rfl (S_to rfl rfl (V_assign rfl rfl)) ?_
        refine TO_nil ?_
        refine TS_ret ?_
        cases h
        exact ⟨trivial, _, _, (resEs_cons (resE_cell rfl rfl rfl (loadB_agg ok27 ag27 sz27 (show _ = some [(.sc (.int .i64 0)), (str (([] : List UInt8))), (.sc (.int .i64 0)), (.sc (.int .i64 0)), (.sc (.int .i64 0))] from rfl) rfl)) (resEs_cons (resE_tmp rfl rfl) resEs_nil)), rfl, (Wk.refl _)⟩
      · refine TS_false rfl hb9 ?_
        refine TS_skip ?_
        refine TS_seq ?_
        refine TS_region ?_
        refine TO_step rfl (S_to rfl rfl (V_move rfl rfl)) ?_
        refine TO_step rfl (S_to rfl rfl (V_build rfl rfl (show buildE _ 27 _ = some (.agg [(.sc (.int .i64 0)), (str y8), (.sc (.int .i64 0)), (.sc (.int .i64 0)), (.sc (.int .i64 0))]) from rfl))) ?_
        refine TO_step rfl (S_st (S_storeE rfl rfl rfl rfl rfl if27 sz27 rfl rfl (show _ = [(.d (.sc (.int .i64 0))), (.d (str y8)), (.d (.sc (.int .i64 0))), (.d (.sc (.int .i64 0))), (.d (.sc (.int .i64 0)))] from rfl) rfl) rfl (show _ = [.box 27 [(.d (.sc (.int .i64 0))), (.d (str y8)), (.d (.sc (.int .i64 0))), (.d (.sc (.int .i64 0))), (.d (.sc (.int .i64 0)))]] from rfl)) ?_
        refine TO_step rfl (S_to rfl rfl (V_assign rfl rfl)) ?_
        refine TO_nil ?_
        refine TS_ret ?_
        cases h
        exact ⟨trivial, _, _, (resEs_cons (resE_cell rfl rfl rfl (loadB_agg ok27 ag27 sz27 (show _ = some [(.sc (.int .i64 0)), (str y8), (.sc (.int .i64 0)), (.sc (.int .i64 0)), (.sc (.int .i64 0))] from rfl) rfl)) (resEs_cons (resE_tmp rfl rfl) resEs_nil)), rfl, (Wk.refl _)⟩
    · refine TS_false rfl hb7 ?_
      refine TS_skip ?_
      refine TS_seq ?_
      refine TS_region ?_
      refine TO_step rfl (S_to rfl rfl (V_assign rfl rfl)) ?_
      refine TO_nil ?_
      refine TS_seq ?_
      refine TS_label ?_
      refine TS_seq ?_
      refine TS_seq ?_
      refine TS_region ?_
      obtain ⟨y10, hy10, h⟩ := obind_some h
      refine TO_step rfl (S_st (S_call rfl rfl rfl rfl bd37 (X37_ok n  y10 hy10)) rfl rfl) ?_
      refine TO_step rfl (S_to rfl rfl (V_lenM (row := row9) ⟨_, rfl, rfl, rfl, rfl⟩ se52 rfl rfl)) ?_
      refine TO_step rfl (S_to rfl rfl (V_move rfl rfl)) ?_
      refine TO_nil ?_
      refine TS_block ?_
      obtain ⟨out11, hL11, h⟩ := obind_some h
      refine TS_cont (id := 0) (fun (v : ((List UInt8))) => out11 = .out v) (fun (v : ((List UInt8))) => [(8, (.d (str v))), (2, (.ptr 0 0 0))]) (fun (v : ((List UInt8))) => [.box 27 [(.d (.sc (.int .i64 0))), (.d (str (([] : List UInt8)))), (.d (.sc (.int .i64 0))), (.d (.sc (.int .i64 0))), (.d (.sc (.int .i64 0)))]]) ?_ fun kx11_0 => ?_
      · rintro v16 rfl
        try dsimp only at h
        refine UX_eq ?_
        refine TS_seq ?_
        refine TS_seq ?_
        refine TS_region ?_
        refine TO_step rfl (S_to rfl rfl (V_move rfl rfl)) ?_
        refine TO_step rfl (S_to rfl rfl (V_bin rfl rfl rfl bs_eql)) ?_
        refine TO_nil ?_
        rcases cond_some h with ⟨hb17, h⟩ | ⟨hb17, h⟩
        · refine TS_true rfl hb17 ?_
          refine TS_seq ?_
          refine TS_region ?_
          refine TO_step rfl (S_to rfl rfl (V_build rfl rfl (show buildE _ 27 _ = some (.agg [(.sc (.int .i64 0)), (str (([] : List UInt8))), (.sc (.int .i64 0)), (.sc (.int .i64 0)), (.sc (.int .i64 0))]) from rfl))) ?_
          refine TO_step rfl (S_st (S_storeE rfl rfl rfl rfl rfl if27 sz27 rfl rfl (show _ = [(.d (.sc (.int .i64 0))), (.d (str (([] : List UInt8)))), (.d (.sc (.int .i64 0))), (.d (.sc (.int .i64 0))), (.d (.sc (.int .i64 0)))] from rfl) rfl) rfl (show _ = [.box 27 [(.d (.sc (.int .i64 0))), (.d (str (([] : List UInt8)))), (.d (.sc (.int .i64 0))), (.d (.sc (.int .i64 0))), (.d (.sc (.int .i64 0)))]] from rfl)) ?_
          refine TO_step rfl (S_to rfl rfl (V_assign rfl rfl)) ?_
          refine TO_nil ?_
          refine TS_ret ?_
          cases h
          exact ⟨trivial, _, _, (resEs_cons (resE_cell rfl rfl rfl (loadB_agg ok27 ag27 sz27 (show _ = some [(.sc (.int .i64 0)), (str (([] : List UInt8))), (.sc (.int .i64 0)), (.sc (.int .i64 0)), (.sc (.int .i64 0))] from rfl) rfl)) (resEs_cons (resE_tmp rfl rfl) resEs_nil)), rfl, (Wk.refl _)⟩
        · refine TS_false rfl hb17 ?_
          refine TS_skip ?_
          refine TS_seq ?_
          refine TS_region ?_
          refine TO_step rfl (S_to rfl rfl (V_move rfl rfl)) ?_
          refine TO_step rfl (S_to rfl rfl (V_build rfl rfl (show buildE _ 27 _ = some (.agg [(.sc (.int .i64 2)), (str v16), (.sc (.int .i64 0)), (.sc (.int .i64 0)), (.sc (.int .i64 0))]) from rfl))) ?_
          refine TO_step rfl (S_st (S_storeE rfl rfl rfl rfl rfl if27 sz27 rfl rfl (show _ = [(.d (.sc (.int .i64 2))), (.d (str v16)), (.d (.sc (.int .i64 0))), (.d (.sc (.int .i64 0))), (.d (.sc (.int .i64 0)))] from rfl) rfl) rfl (show _ = [.box 27 [(.d (.sc (.int .i64 2))), (.d (str v16)), (.d (.sc (.int .i64 0))), (.d (.sc (.int .i64 0))), (.d (.sc (.int .i64 0)))]] from rfl)) ?_
          refine TO_step rfl (S_to rfl rfl (V_assign rfl rfl)) ?_
          refine TO_nil ?_
          refine TS_ret ?_
          cases h
          exact ⟨trivial, _, _, (resEs_cons (resE_cell rfl rfl rfl (loadB_agg ok27 ag27 sz27 (show _ = some [(.sc (.int .i64 2)), (str v16), (.sc (.int .i64 0)), (.sc (.int .i64 0)), (.sc (.int .i64 0))] from rfl) rfl)) (resEs_cons (resE_tmp rfl rfl) resEs_nil)), rfl, (Wk.refl _)⟩
      refine TS_loop (F20_L11 n t0 y10) (fun (s : (Int)) => [(38, (.d (.sc (.int .i64 s)))), (37, (.d (.sc (.int .i64 ((lenL y10)))))), (36, (.d (.sl (y10.map row9)))), (8, (.d (str (([] : List UInt8))))), (2, (.ptr 0 0 0)), (0, (.d (str t0)))]) (fun (s : (Int)) => [.box 27 [(.d (.sc (.int .i64 0))), (.d (str (([] : List UInt8)))), (.d (.sc (.int .i64 0))), (.d (.sc (.int .i64 0))), (.d (.sc (.int .i64 0)))]]) out11 hL11 ⟨⟨.inr rfl, .inr rfl, .inr rfl, .inr rfl, .inr rfl, .inr rfl, trivial⟩, ⟨_, rfl⟩, rfl, rfl, rfl⟩ (fun _ => rfl) fun m11 s11 h => ?_
      rw [F20_L11] at h
      refine TS_seq ?_
      refine TS_region ?_
      refine TO_step rfl (S_to rfl rfl (V_bin rfl rfl rfl b_lss)) ?_
      refine TO_nil ?_
      refine TS_seq ?_
      rcases cond_some h with ⟨hb12, h⟩ | ⟨hb12, h⟩
      · refine TS_true rfl hb12 ?_
        refine TS_skip ?_
        refine TS_seq ?_
        refine TS_block ?_
        refine TS_seq ?_
        refine TS_region ?_
        obtain ⟨x13, hx13, h⟩ := obind_some h
        refine TO_step rfl (S_to rfl rfl (V_idxA (row := row9) rfl se52 if9 rfl rfl rfl hx13 rfl)) ?_
        refine TO_step rfl (S_to rfl rfl (V_loadR rfl rfl (map_get hx13) (loadD_one ok9 ag9 rfl))) ?_
        refine TO_step rfl (S_to rfl rfl (V_assign rfl rfl)) ?_
        refine TO_nil ?_
        refine TS_seq ?_
        refine TS_region ?_
        refine TO_step rfl (S_to rfl rfl (V_move rfl rfl)) ?_
        refine TO_step rfl (S_to rfl rfl (V_move rfl rfl)) ?_
        obtain ⟨y14, hy14, h⟩ := obind_some h
        refine TO_step rfl (S_st (S_call rfl rfl rfl rfl bd38 (F38_ok n t0 x13 y14 hy14)) rfl rfl) ?_
        refine TO_nil ?_
        rcases cond_some h with ⟨hb15, h⟩ | ⟨hb15, h⟩
        · refine TS_true rfl hb15 ?_
          refine TS_seq ?_
          refine TS_region ?_
          refine TO_step rfl (S_to rfl rfl (V_move rfl rfl)) ?_
          refine TO_step rfl (S_to rfl rfl (V_assign rfl rfl)) ?_
          refine TO_nil ?_
          refine TS_exit ?_
          refine UX_ne rfl ?_
          refine UX_c ?_
          refine UX_up ?_
          exact UX_less (.inl rfl) (kx11_0 _ (Option.some.inj h).symm) ⟨⟨.inr rfl, .inr rfl, trivial⟩, ⟨_, rfl⟩, rfl, rfl, rfl⟩
        · refine TS_false rfl hb15 ?_
          refine TS_skip ?_
          refine TS_b ?_
          refine TS_region ?_
          refine TO_step rfl (S_to rfl rfl (V_bin rfl rfl rfl b_add)) ?_
          refine TO_step rfl (S_to rfl rfl (V_move rfl rfl)) ?_
          refine TO_nil ?_
          exact TS_nil ⟨_, h, ⟨⟨.inr rfl, .inr rfl, .inr rfl, .inr rfl, .inr rfl, .inr rfl, trivial⟩, ⟨_, rfl⟩, rfl, rfl, rfl⟩⟩
      · refine TS_false rfl hb12 ?_
        refine TS_exit ?_
        refine UX_c ?_
        refine UX_up ?_
        exact UX_less (.inl rfl) (kx11_0 _ (Option.some.inj h).symm) ⟨⟨.inr rfl, .inr rfl, trivial⟩, ⟨_, rfl⟩, rfl, rfl, rfl⟩
-- sieveholes/token.Next
def F27 (n : Nat) (t0 : (List UInt8)) (t1 : Int) : Option (S27 × Int × S45) := obind (F44 n t0 ((bif ltI 0 ((bif ltI ((lenL t0)) t1 then (lenL t0) else t1)) then (bif ltI ((lenL t0)) t1 then (lenL t0) else t1) else 0))) fun y0 => obind (F45 n t0 y0) fun y1 => cond ((eqI y0 ((lenL t0)))) (some ((⟨3, ([] : List UInt8), 0, y1.1⟩ : S27), y0, (⟨(⟨0, 0⟩ : S25), 0⟩ : S45))) (obind (cutL t0 y0 ((lenL t0))) fun x3 => obind (F20 n x3) fun y4 => cond ((!(eqI y4.2 0))) (some ((⟨0, ([] : List UInt8), 0, (⟨0, 0⟩ : S25)⟩ : S27), y0, (⟨y1.1, y4.2⟩ : S45))) (some ((⟨y4.1.f_Kind, y4.1.f_Text, y4.1.f_N, y1.1⟩ : S27), (addI .i64 y0 ((lenL y4.1.f_Text))), (⟨(⟨0, 0⟩ : S25), 0⟩ : S45))))
theorem F27_ok (n : Nat) (t0 : (List UInt8)) (t1 : Int) (o : (S27 × Int × S45)) (h : F27 n t0 t1 = some o) : PureC Tryd.prog Z 27 [(str t0), (.sc (.int .i64 t1))] (.tup [(.agg [(.sc (.int .i64 o.1.f_Kind)), (str o.1.f_Text), (.sc (.int .i64 o.1.f_N)), (.sc (.int .i64 o.1.f_At.f_Line)), (.sc (.int .i64 o.1.f_At.f_Col))]), (.sc (.int .i64 o.2.1)), (.agg [(.sc (.int .i64 o.2.2.f_At.f_Line)), (.sc (.int .i64 o.2.2.f_At.f_Col)), (.sc (.int .i64 o.2.2.f_Err))])]) := by
  refine pure_of_TS fn27 rfl (N := 54) rfl rfl fun B g0 q0 => ?_
  unfold F27 at h
  refine TS_seq ?_
  refine TS_region ?_
  refine TO_step rfl (S_allocE rfl rfl al27 rfl rfl (show _ = [.box 27 [(.d (.sc (.int .i64 0))), (.d (str (([] : List UInt8)))), (.d (.sc (.int .i64 0))), (.d (.sc (.int .i64 0))), (.d (.sc (.int .i64 0)))]] from rfl)) ?_
  refine TO_step rfl (S_to rfl rfl (V_assign rfl rfl)) ?_
  refine TO_step rfl (S_allocE rfl rfl al45 rfl rfl (show _ = [.box 27 [(.d (.sc (.int .i64 0))), (.d (str (([] : List UInt8)))), (.d (.sc (.int .i64 0))), (.d (.sc (.int .i64 0))), (.d (.sc (.int .i64 0)))], .box 45 [(.d (.sc (.int .i64 0))), (.d (.sc (.int .i64 0))), (.d (.sc (.int .i64 0)))]] from rfl)) ?_
  refine TO_nil ?_
  refine TS_seq ?_
  refine TS_region ?_
  refine TO_step rfl (S_to rfl rfl (V_move rfl rfl)) ?_
  refine TO_step rfl (S_to rfl rfl (V_move rfl rfl)) ?_
  refine TO_step rfl (S_to rfl rfl (V_move rfl rfl)) ?_
  refine TO_step rfl (S_to rfl rfl (V_lenS ⟨_, rfl, rfl, rfl, rfl⟩ Tryd.underlying9 rfl)) ?_
  refine TO_step rfl (S_to rfl rfl (V_min ⟨_, rfl, rfl, rfl⟩ rfl rfl)) ?_
  refine TO_step rfl (S_to rfl rfl (V_max ⟨_, rfl, rfl, rfl⟩ rfl rfl)) ?_
  obtain ⟨y0, hy0, h⟩ := obind_some h
  refine TO_step rfl (S_st (S_call rfl rfl rfl rfl bd44 (F44_ok n t0 ((bif ltI 0 ((bif ltI ((lenL t0)) t1 then (lenL t0) else t1)) then (bif ltI ((lenL t0)) t1 then (lenL t0) else t1) else 0)) y0 hy0)) rfl rfl) ?_
  refine TO_step rfl (S_to rfl rfl (V_assign rfl rfl)) ?_
  refine TO_nil ?_
  refine TS_seq ?_
  refine TS_region ?_
  refine TO_step rfl (S_to rfl rfl (V_move rfl rfl)) ?_
  refine TO_step rfl (S_to rfl rfl (V_move rfl rfl)) ?_
  obtain ⟨y1, hy1, h⟩ := obind_some h
  refine TO_step rfl (S_st (S_call rfl rfl rfl rfl bd45 (F45_ok n t0 y0 y1 hy1)) rfl rfl) ?_
  refine TO_step rfl (S_to rfl rfl (V_move rfl rfl)) ?_
  refine TO_step rfl (S_to rfl rfl (V_extract rfl rfl rfl)) ?_
  refine TO_step rfl (S_to rfl rfl (V_extract rfl rfl rfl)) ?_
  refine TO_step rfl (S_allocE rfl rfl al25 rfl rfl (show _ = [.box 27 [(.d (.sc (.int .i64 0))), (.d (str (([] : List UInt8)))), (.d (.sc (.int .i64 0))), (.d (.sc (.int .i64 0))), (.d (.sc (.int .i64 0)))], .box 45 [(.d (.sc (.int .i64 0))), (.d (.sc (.int .i64 0))), (.d (.sc (.int .i64 0)))], .box 25 [(.d (.sc (.int .i64 0))), (.d (.sc (.int .i64 0)))]] from rfl)) ?_
  refine TO_step rfl (S_st (S_storeE rfl rfl rfl rfl rfl if25 sz25 rfl rfl (show _ = [(.d (.sc (.int .i64 y1.1.f_Line))), (.d (.sc (.int .i64 y1.1.f_Col)))] from rfl) rfl) rfl (show _ = [.box 27 [(.d (.sc (.int .i64 0))), (.d (str (([] : List UInt8)))), (.d (.sc (.int .i64 0))), (.d (.sc (.int .i64 0))), (.d (.sc (.int .i64 0)))], .box 45 [(.d (.sc (.int .i64 0))), (.d (.sc (.int .i64 0))), (.d (.sc (.int .i64 0)))], .box 25 [(.d (.sc (.int .i64 y1.1.f_Line))), (.d (.sc (.int .i64 y1.1.f_Col)))]] from rfl)) ?_
  refine TO_step rfl (S_to rfl rfl (V_assign rfl rfl)) ?_
  refine TO_nil ?_
  refine TS_seq ?_
  refine TS_seq ?_
  refine TS_region ?_
  refine TO_step rfl (S_to rfl rfl (V_move rfl rfl)) ?_
  refine TO_step rfl (S_to rfl rfl (V_move rfl rfl)) ?_
  refine TO_step rfl (S_to rfl rfl (V_lenS ⟨_, rfl, rfl, rfl, rfl⟩ Tryd.underlying9 rfl)) ?_
  refine TO_step rfl (S_to rfl rfl (V_bin rfl rfl rfl b_eql)) ?_
  refine TO_nil ?_
  rcases cond_some h with ⟨hb2, h⟩ | ⟨hb2, h⟩
  · refine TS_true rfl hb2 ?_
    refine TS_seq ?_
    refine TS_region ?_
    refine TO_step rfl (S_to rfl rfl (V_loadB rfl rfl rfl (loadB_agg ok25 ag25 sz25 (show _ = some [(.sc (.int .i64 y1.1.f_Line)), (.sc (.int .i64 y1.1.f_Col))] from rfl) rfl))) ?_
    refine TO_step rfl (S_to rfl rfl (V_build rfl rfl (show buildE _ 27 _ = some (.agg [(.sc (.int .i64 3)), (str (([] : List UInt8))), (.sc (.int .i64 0)), (.sc (.int .i64 y1.1.f_Line)), (.sc (.int .i64 y1.1.f_Col))]) from rfl))) ?_
    refine TO_step rfl (S_to rfl rfl (V_move rfl rfl)) ?_
    refine TO_step rfl (S_to rfl rfl (V_build rfl rfl (show buildE _ 45 _ = some (.agg [(.sc (.int .i64 0)), (.sc (.int .i64 0)), (.sc (.int .i64 0))]) from rfl))) ?_
    refine TO_step rfl (S_st (S_storeE rfl rfl rfl rfl rfl if27 sz27 rfl rfl (show _ = [(.d (.sc (.int .i64 3))), (.d (str (([] : List UInt8)))), (.d (.sc (.int .i64 0))), (.d (.sc (.int .i64 y1.1.f_Line))), (.d (.sc (.int .i64 y1.1.f_Col)))] from rfl) rfl) rfl (show _ = [.box 27 [(.d (.sc (.int .i64 3))), (.d (str (([] : List UInt8)))), (.d (.sc (.int .i64 0))), (.d (.sc (.int .i64 y1.1.f_Line))), (.d (.sc (.int .i64 y1.1.f_Col)))], .box 45 [(.d (.sc (.int .i64 0))), (.d (.sc (.int .i64 0))), (.d (.sc (.int .i64 0)))], .box 25 [(.d (.sc (.int .i64 y1.1.f_Line))), (.d (.sc (.int .i64 y1.1.f_Col)))]] from rfl)) ?_
    refine TO_step rfl (S_to rfl rfl (V_assign rfl rfl)) ?_
    refine TO_step rfl (S_st (S_storeE rfl rfl rfl rfl rfl if45 sz45 rfl rfl (show _ = [(.d (.sc (.int .i64 0))), (.d (.sc (.int .i64 0))), (.d (.sc (.int .i64 0)))] from rfl) rfl) rfl (show _ = [.box 27 [(.d (.sc (.int .i64 3))), (.d (str (([] : List UInt8)))), (.d (.sc (.int .i64 0))), (.d (.sc (.int .i64 y1.1.f_Line))), (.d (.sc (.int .i64 y1.1.f_Col)))], .box 45 [(.d (.sc (.int .i64 0))), (.d (.sc (.int .i64 0))), (.d (.sc (.int .i64 0)))], .box 25 [(.d (.sc (.int .i64 y1.1.f_Line))), (.d (.sc (.int .i64 y1.1.f_Col)))]] from rfl)) ?_
    refine TO_nil ?_
    refine TS_ret ?_
    cases h
    exact ⟨trivial, _, _, (resEs_cons (resE_cell rfl rfl rfl (loadB_agg ok27 ag27 sz27 (show _ = some [(.sc (.int .i64 3)), (str (([] : List UInt8))), (.sc (.int .i64 0)), (.sc (.int .i64 y1.1.f_Line)), (.sc (.int .i64 y1.1.f_Col))] from rfl) rfl)) (resEs_cons (resE_tmp rfl rfl) (resEs_cons (resE_cell rfl rfl rfl (loadB_agg ok45 ag45 sz45 (show _ = some [(.sc (.int .i64 0)), (.sc (.int .i64 0)), (.sc (.int .i64 0))] from rfl) rfl)) resEs_nil))), rfl, (Wk.refl _)⟩
  · refine TS_false rfl hb2 ?_
    refine TS_skip ?_
    refine TS_seq ?_
    refine TS_region ?_
    refine TO_step rfl (S_to rfl rfl (V_move rfl rfl)) ?_
    refine TO_step rfl (S_to rfl rfl (V_move rfl rfl)) ?_
    obtain ⟨x3, hx3, h⟩ := obind_some h
    refine TO_step rfl (S_to rfl rfl (V_cutS rfl Tryd.underlying9 rfl rfl rfl hx3)) ?_
    obtain ⟨y4, hy4, h⟩ := obind_some h
    refine TO_step rfl (S_st (S_call rfl rfl rfl rfl bd20 (F20_ok n x3 y4 hy4)) rfl rfl) ?_
    refine TO_step rfl (S_to rfl rfl (V_move rfl rfl)) ?_
    refine TO_step rfl (S_to rfl rfl (V_extract rfl rfl rfl)) ?_
    refine TO_step rfl (S_to rfl rfl (V_extract rfl rfl rfl)) ?_
    refine TO_step rfl (S_st (S_storeE rfl rfl rfl rfl rfl if27 sz27 rfl rfl (show _ = [(.d (.sc (.int .i64 y4.1.f_Kind))), (.d (str y4.1.f_Text)), (.d (.sc (.int .i64 y4.1.f_N))), (.d (.sc (.int .i64 y4.1.f_At.f_Line))), (.d (.sc (.int .i64 y4.1.f_At.f_Col)))] from rfl) rfl) rfl (show _ = [.box 27 [(.d (.sc (.int .i64 y4.1.f_Kind))), (.d (str y4.1.f_Text)), (.d (.sc (.int .i64 y4.1.f_N))), (.d (.sc (.int .i64 y4.1.f_At.f_Line))), (.d (.sc (.int .i64 y4.1.f_At.f_Col)))], .box 45 [(.d (.sc (.int .i64 0))), (.d (.sc (.int .i64 0))), (.d (.sc (.int .i64 0)))], .box 25 [(.d (.sc (.int .i64 y1.1.f_Line))), (.d (.sc (.int .i64 y1.1.f_Col)))]] from rfl)) ?_
    refine TO_step rfl (S_to rfl rfl (V_assign rfl rfl)) ?_
    refine TO_nil ?_
    refine TS_seq ?_
    refine TS_seq ?_
    refine TS_region ?_
    refine TO_step rfl (S_to rfl rfl (V_move rfl rfl)) ?_
    refine TO_step rfl (S_to rfl rfl (V_bin rfl rfl rfl b_neq)) ?_
    refine TO_nil ?_
    rcases cond_some h with ⟨hb5, h⟩ | ⟨hb5, h⟩
    · refine TS_true rfl hb5 ?_
      refine TS_seq ?_
      refine TS_draw (envF_ok (L := []) (fun x hx => by cases hx)) (by kernel_rfl : Tryd.prog.follows .mixedOrders = true) (by decide +kernel) ?_
      refine TD_step rfl (D_V rfl (V_build rfl rfl (show buildE _ 27 _ = some (.agg [(.sc (.int .i64 0)), (str (([] : List UInt8))), (.sc (.int .i64 0)), (.sc (.int .i64 0)), (.sc (.int .i64 0))]) from rfl))) ((foot_mk _ _).trans (show _ = Foot.no from rfl)) ?_
      refine TD_step rfl (D_V rfl (V_move rfl rfl)) ((foot_mk _ _).trans (show _ = Foot.no from rfl)) ?_
      refine TD_step rfl (D_V rfl (V_loadB rfl rfl rfl (loadB_agg ok25 ag25 sz25 (show _ = some [(.sc (.int .i64 y1.1.f_Line)), (.sc (.int .i64 y1.1.f_Col))] from rfl) rfl))) ((foot_mk _ _).trans (show _ = Foot.rd 2 from rfl)) ?_
      refine TD_step rfl (D_V rfl (V_move rfl rfl)) ((foot_mk _ _).trans (show _ = Foot.no from rfl)) ?_
      refine TD_step rfl (D_V rfl (V_build rfl rfl (show buildE _ 45 _ = some (.agg [(.sc (.int .i64 y1.1.f_Line)), (.sc (.int .i64 y1.1.f_Col)), (.sc (.int .i64 y4.2))]) from rfl))) ((foot_mk _ _).trans (show _ = Foot.no from rfl)) ?_
      refine TD_step rfl (D_storeE rfl rfl rfl rfl rfl if27 sz27 rfl rfl (show _ = [(.d (.sc (.int .i64 0))), (.d (str (([] : List UInt8)))), (.d (.sc (.int .i64 0))), (.d (.sc (.int .i64 0))), (.d (.sc (.int .i64 0)))] from rfl)) ((foot_mk _ _).trans (show _ = Foot.wr 0 from rfl)) ?_
      refine TD_step rfl (D_V rfl (V_assign rfl rfl)) ((foot_mk _ _).trans (show _ = Foot.no from rfl)) ?_
      refine TD_step rfl (D_storeE rfl rfl rfl rfl rfl if45 sz45 rfl rfl (show _ = [(.d (.sc (.int .i64 y1.1.f_Line))), (.d (.sc (.int .i64 y1.1.f_Col))), (.d (.sc (.int .i64 y4.2)))] from rfl)) ((foot_mk _ _).trans (show _ = Foot.wr 1 from rfl)) ?_
      refine TD_nil ⟨by decide +kernel, ?_⟩
      refine TS_ret ?_
      cases h
      exact ⟨trivial, _, _, (resEs_cons (resE_cell rfl rfl rfl (loadB_agg ok27 ag27 sz27 (show _ = some [(.sc (.int .i64 0)), (str (([] : List UInt8))), (.sc (.int .i64 0)), (.sc (.int .i64 0)), (.sc (.int .i64 0))] from rfl) rfl)) (resEs_cons (resE_tmp rfl rfl) (resEs_cons (resE_cell rfl rfl rfl (loadB_agg ok45 ag45 sz45 (show _ = some [(.sc (.int .i64 y1.1.f_Line)), (.sc (.int .i64 y1.1.f_Col)), (.sc (.int .i64 y4.2))] from rfl) rfl)) resEs_nil))), rfl, (Wk.refl _)⟩
    · refine TS_false rfl hb5 ?_
      refine TS_skip ?_
      refine TS_seq ?_
      refine TS_region ?_
      refine TO_step rfl (S_to rfl rfl (V_loadB rfl rfl rfl (loadB_agg ok25 ag25 sz25 (show _ = some [(.sc (.int .i64 y1.1.f_Line)), (.sc (.int .i64 y1.1.f_Col))] from rfl) rfl))) ?_
      refine TO_step rfl (S_to rfl rfl (V_fieldAddr rfl rfl (fap27_3 _ _ _))) ?_
      refine TO_step rfl (S_st (S_storeE rfl rfl rfl rfl rfl if25 sz25 rfl rfl (show _ = [(.d (.sc (.int .i64 y4.1.f_Kind))), (.d (str y4.1.f_Text)), (.d (.sc (.int .i64 y4.1.f_N))), (.d (.sc (.int .i64 y1.1.f_Line))), (.d (.sc (.int .i64 y1.1.f_Col)))] from rfl) rfl) rfl (show _ = [.box 27 [(.d (.sc (.int .i64 y4.1.f_Kind))), (.d (str y4.1.f_Text)), (.d (.sc (.int .i64 y4.1.f_N))), (.d (.sc (.int .i64 y1.1.f_Line))), (.d (.sc (.int .i64 y1.1.f_Col)))], .box 45 [(.d (.sc (.int .i64 0))), (.d (.sc (.int .i64 0))), (.d (.sc (.int .i64 0)))], .box 25 [(.d (.sc (.int .i64 y1.1.f_Line))), (.d (.sc (.int .i64 y1.1.f_Col)))]] from rfl)) ?_
      refine TO_nil ?_
      refine TS_seq ?_
      refine TS_region ?_
      refine TO_step rfl (S_to rfl rfl (V_loadB rfl rfl rfl (loadB_agg ok27 ag27 sz27 (show _ = some [(.sc (.int .i64 y4.1.f_Kind)), (str y4.1.f_Text), (.sc (.int .i64 y4.1.f_N)), (.sc (.int .i64 y1.1.f_Line)), (.sc (.int .i64 y1.1.f_Col))] from rfl) rfl))) ?_
      refine TO_step rfl (S_to rfl rfl (V_move rfl rfl)) ?_
      refine TO_step rfl (S_to rfl rfl (V_fieldAddr rfl rfl (fap27_1 _ _ _))) ?_
      refine TO_step rfl (S_to rfl rfl (V_loadB rfl rfl rfl (loadB_one ok9 ag9 rfl))) ?_
      refine TO_step rfl (S_to rfl rfl (V_lenS ⟨_, rfl, rfl, rfl, rfl⟩ Tryd.underlying9 rfl)) ?_
      refine TO_step rfl (S_to rfl rfl (V_bin rfl rfl rfl b_add)) ?_
      refine TO_step rfl (S_to rfl rfl (V_build rfl rfl (show buildE _ 45 _ = some (.agg [(.sc (.int .i64 0)), (.sc (.int .i64 0)), (.sc (.int .i64 0))]) from rfl))) ?_
      refine TO_step rfl (S_st (S_storeE rfl rfl rfl rfl rfl if27 sz27 rfl rfl (show _ = [(.d (.sc (.int .i64 y4.1.f_Kind))), (.d (str y4.1.f_Text)), (.d (.sc (.int .i64 y4.1.f_N))), (.d (.sc (.int .i64 y1.1.f_Line))), (.d (.sc (.int .i64 y1.1.f_Col)))] from rfl) rfl) rfl (show _ = [.box 27 [(.d (.sc (.int .i64 y4.1.f_Kind))), (.d (str y4.1.f_Text)), (.d (.sc (.int .i64 y4.1.f_N))), (.d (.sc (.int .i64 y1.1.f_Line))), (.d (.sc (.int .i64 y1.1.f_Col)))], .box 45 [(.d (.sc (.int .i64 0))), (.d (.sc (.int .i64 0))), (.d (.sc (.int .i64 0)))], .box 25 [(.d (.sc (.int .i64 y1.1.f_Line))), (.d (.sc (.int .i64 y1.1.f_Col)))]] from rfl)) ?_
      refine TO_step rfl (S_to rfl rfl (V_assign rfl rfl)) ?_
      refine TO_step rfl (S_st (S_storeE rfl rfl rfl rfl rfl if45 sz45 rfl rfl (show _ = [(.d (.sc (.int .i64 0))), (.d (.sc (.int .i64 0))), (.d (.sc (.int .i64 0)))] from rfl) rfl) rfl (show _ = [.box 27 [(.d (.sc (.int .i64 y4.1.f_Kind))), (.d (str y4.1.f_Text)), (.d (.sc (.int .i64 y4.1.f_N))), (.d (.sc (.int .i64 y1.1.f_Line))), (.d (.sc (.int .i64 y1.1.f_Col)))], .box 45 [(.d (.sc (.int .i64 0))), (.d (.sc (.int .i64 0))), (.d (.sc (.int .i64 0)))], .box 25 [(.d (.sc (.int .i64 y1.1.f_Line))), (.d (.sc (.int .i64 y1.1.f_Col)))]] from rfl)) ?_
      refine TO_nil ?_
      refine TS_ret ?_
      cases h
      exact ⟨trivial, _, _, (resEs_cons (resE_cell rfl rfl rfl (loadB_agg ok27 ag27 sz27 (show _ = some [(.sc (.int .i64 y4.1.f_Kind)), (str y4.1.f_Text), (.sc (.int .i64 y4.1.f_N)), (.sc (.int .i64 y1.1.f_Line)), (.sc (.int .i64 y1.1.f_Col))] from rfl) rfl)) (resEs_cons (resE_tmp rfl rfl) (resEs_cons (resE_cell rfl rfl rfl (loadB_agg ok45 ag45 sz45 (show _ = some [(.sc (.int .i64 0)), (.sc (.int .i64 0)), (.sc (.int .i64 0))] from rfl) rfl)) resEs_nil))), rfl, (Wk.refl _)⟩
-- sieveholes/token.All
def F16_L0 (n : Nat) (t0 : (List UInt8)) : Nat → (Int × (List S27)) → Option (LO ((List S27) × S45) ((List S27)))
  | 0, _ => none
  | m0 + 1, s0 => obind (cond ((eqI ((lenL s0.2)) 0)) (some true) (obind (getL s0.2 ((subI .i64 ((lenL s0.2)) 1))) fun x3 => some ((!(eqI x3.f_Kind 3))))) fun (v1 : (Bool)) => cond v1 (obind (F27 n t0 s0.1) fun y5 => cond ((!(eqI y5.2.2.f_Err 0))) (some (.ret (([] : (List S27)), y5.2.2))) (obind (appL 48 s0.2 (([y5.1] : List S27))) fun x7 => F16_L0 n t0 m0 (y5.2.1, x7))) (some (.out s0.2))
def F16 (n : Nat) (t0 : (List UInt8)) : Option ((List S27) × S45) := obind (F16_L0 n t0 n (0, ([] : List S27))) fun out0 => match out0 with | .ret r => some r | .out v8 => some (v8, (⟨(⟨0, 0⟩ : S25), 0⟩ : S45))
theorem F16_ok (n : Nat) (t0 : (List UInt8)) (o : ((List S27) × S45)) (h : F16 n t0 = some o) : PureC Tryd.prog Z 16 [(str t0)] (.tup [(.sl (o.1.map row27)), (.agg [(.sc (.int .i64 o.2.f_At.f_Line)), (.sc (.int .i64 o.2.f_At.f_Col)), (.sc (.int .i64 o.2.f_Err))])]) := by
  refine pure_of_TS fn16 rfl (N := 40) rfl rfl fun B g0 q0 => ?_
  unfold F16 at h
  refine TS_seq ?_
  refine TS_region ?_
  refine TO_step rfl (S_nil (row := row27) rfl rfl se22 rfl) ?_
  refine TO_step rfl (S_allocE rfl rfl al45 rfl rfl (show _ = [.box 45 [(.d (.sc (.int .i64 0))), (.d (.sc (.int .i64 0))), (.d (.sc (.int .i64 0)))]] from rfl)) ?_
  refine TO_nil ?_
  refine TS_seq ?_
  refine TS_region ?_
  refine TO_step rfl (S_nil (row := row27) rfl rfl se22 rfl) ?_
  refine TO_nil ?_
  refine TS_seq ?_
  refine TS_seq ?_
  refine TS_region ?_
  refine TO_step rfl (S_to rfl rfl (V_assign rfl rfl)) ?_
  refine TO_nil ?_
  refine TS_block ?_
  obtain ⟨out0, hL0, h⟩ := obind_some h
  have kr0 : ∀ r, out0 = .ret r → some r = some o := by rintro r rfl; exact h
  refine TS_cont (id := 0) (fun (v : ((List S27))) => out0 = .out v) (fun (v : ((List S27))) => [(4, (.gl 4 27 (v.map row27))), (3, (.ptr 0 0 0))]) (fun (v : ((List S27))) => [.box 45 [(.d (.sc (.int .i64 0))), (.d (.sc (.int .i64 0))), (.d (.sc (.int .i64 0)))]]) ?_ fun kx0_0 => ?_
  · rintro v8 rfl
    try dsimp only at h
    refine UX_eq ?_
    refine TS_seq ?_
    refine TS_region ?_
    refine TO_step rfl (S_to rfl rfl (V_move rfl rfl)) ?_
    refine TO_step rfl (S_to rfl rfl (V_build rfl rfl (show buildE _ 45 _ = some (.agg [(.sc (.int .i64 0)), (.sc (.int .i64 0)), (.sc (.int .i64 0))]) from rfl))) ?_
    refine TO_step rfl (S_to rfl rfl (V_assign rfl rfl)) ?_
    refine TO_step rfl (S_st (S_storeE rfl rfl rfl rfl rfl if45 sz45 rfl rfl (show _ = [(.d (.sc (.int .i64 0))), (.d (.sc (.int .i64 0))), (.d (.sc (.int .i64 0)))] from rfl) rfl) rfl (show _ = [.box 45 [(.d (.sc (.int .i64 0))), (.d (.sc (.int .i64 0))), (.d (.sc (.int .i64 0)))]] from rfl)) ?_
    refine TO_nil ?_
    refine TS_ret ?_
    cases h
    exact ⟨trivial, _, _, (resEs_cons (resE_tmp rfl rfl) (resEs_cons (resE_cell rfl rfl rfl (loadB_agg ok45 ag45 sz45 (show _ = some [(.sc (.int .i64 0)), (.sc (.int .i64 0)), (.sc (.int .i64 0))] from rfl) rfl)) resEs_nil)), rfl, (Wk.refl _)⟩
  refine TS_loop (F16_L0 n t0) (fun (s : (Int × (List S27))) => [(4, (.gl 4 27 (s.2.map row27))), (5, (.d (.sc (.int .i64 s.1)))), (3, (.ptr 0 0 0)), (0, (.d (str t0)))]) (fun (s : (Int × (List S27))) => [.box 45 [(.d (.sc (.int .i64 0))), (.d (.sc (.int .i64 0))), (.d (.sc (.int .i64 0)))]]) out0 hL0 ⟨⟨.inr rfl, .inr rfl, .inr rfl, .inr rfl, trivial⟩, ⟨_, rfl⟩, rfl, rfl, rfl⟩ (fun _ => rfl) fun m0 s0 h => ?_
  rw [F16_L0] at h
  refine TS_seq ?_
  refine TS_seq ?_
  obtain ⟨v1, hv1, h⟩ := obind_some h
  refine TS_join (fun (v : (Bool)) => [(21, (.d (tb v))), (4, (.gl 4 27 (s0.2.map row27))), (5, (.d (.sc (.int .i64 s0.1)))), (3, (.ptr 0 0 0)), (0, (.d (str t0)))]) (fun (v : (Bool)) => [.box 45 [(.d (.sc (.int .i64 0))), (.d (.sc (.int .i64 0))), (.d (.sc (.int .i64 0)))]]) v1 (.inl rfl) ?_ ?_
  · rcases cond_some h with ⟨hb4, h⟩ | ⟨hb4, h⟩
    · refine TS_true rfl hb4 ?_
      refine TS_skip ?_
      refine TS_block ?_
      refine TS_seq ?_
      refine TS_region ?_
      refine TO_step rfl (S_to rfl rfl (V_move rfl rfl)) ?_
      refine TO_step rfl (S_to rfl rfl (V_move rfl rfl)) ?_
      obtain ⟨y5, hy5, h⟩ := obind_some h
      refine TO_step rfl (S_st (S_call rfl rfl rfl rfl bd27 (F27_ok n t0 s0.1 y5 hy5)) rfl rfl) ?_
      refine TO_step rfl (S_to rfl rfl (V_move rfl rfl)) ?_
      refine TO_step rfl (S_to rfl rfl (V_extract rfl rfl rfl)) ?_
      refine TO_step rfl (S_to rfl rfl (V_extract rfl rfl rfl)) ?_
      refine TO_step rfl (S_to rfl rfl (V_extract rfl rfl rfl)) ?_
      refine TO_step rfl (S_allocE rfl rfl al27 rfl rfl (show _ = [.box 45 [(.d (.sc (.int .i64 0))), (.d (.sc (.int .i64 0))), (.d (.sc (.int .i64 0)))], .box 27 [(.d (.sc (.int .i64 0))), (.d (str (([] : List UInt8)))), (.d (.sc (.int .i64 0))), (.d (.sc (.int .i64 0))), (.d (.sc (.int .i64 0)))]] from rfl)) ?_
      refine TO_step rfl (S_allocE rfl rfl al45 rfl rfl (show _ = [.box 45 [(.d (.sc (.int .i64 0))), (.d (.sc (.int .i64 0))), (.d (.sc (.int .i64 0)))], .box 27 [(.d (.sc (.int .i64 0))), (.d (str (([] : List UInt8)))), (.d (.sc (.int .i64 0))), (.d (.sc (.int .i64 0))), (.d (.sc (.int .i64 0)))], .box 45 [(.d (.sc (.int .i64 0))), (.d (.sc (.int .i64 0))), (.d (.sc (.int .i64 0)))]] from rfl)) ?_
      refine TO_step rfl (S_st (S_storeE rfl rfl rfl rfl rfl if27 sz27 rfl rfl (show _ = [(.d (.sc (.int .i64 y5.1.f_Kind))), (.d (str y5.1.f_Text)), (.d (.sc (.int .i64 y5.1.f_N))), (.d (.sc (.int .i64 y5.1.f_At.f_Line))), (.d (.sc (.int .i64 y5.1.f_At.f_Col)))] from rfl) rfl) rfl (show _ = [.box 45 [(.d (.sc (.int .i64 0))), (.d (.sc (.int .i64 0))), (.d (.sc (.int .i64 0)))], .box 27 [(.d (.sc (.int .i64 y5.1.f_Kind))), (.d (str y5.1.f_Text)), (.d (.sc (.int .i64 y5.1.f_N))), (.d (.sc (.int .i64 y5.1.f_At.f_Line))), (.d (.sc (.int .i64 y5.1.f_At.f_Col)))], .box 45 [(.d (.sc (.int .i64 0))), (.d (.sc (.int .i64 0))), (.d (.sc (.int .i64 0)))]] from rfl)) ?_
      refine TO_step rfl (S_to rfl rfl (V_assign rfl rfl)) ?_
      refine TO_step rfl (S_st (S_storeE rfl rfl rfl rfl rfl if45 sz45 rfl rfl (show _ = [(.d (.sc (.int .i64 y5.2.2.f_At.f_Line))), (.d (.sc (.int .i64 y5.2.2.f_At.f_Col))), (.d (.sc (.int .i64 y5.2.2.f_Err)))] from rfl) rfl) rfl (show _ = [.box 45 [(.d (.sc (.int .i64 0))), (.d (.sc (.int .i64 0))), (.d (.sc (.int .i64 0)))], .box 27 [(.d (.sc (.int .i64 y5.1.f_Kind))), (.d (str y5.1.f_Text)), (.d (.sc (.int .i64 y5.1.f_N))), (.d (.sc (.int .i64 y5.1.f_At.f_Line))), (.d (.sc (.int .i64 y5.1.f_At.f_Col)))], .box 45 [(.d (.sc (.int .i64 y5.2.2.f_At.f_Line))), (.d (.sc (.int .i64 y5.2.2.f_At.f_Col))), (.d (.sc (.int .i64 y5.2.2.f_Err)))]] from rfl)) ?_
      refine TO_nil ?_
      refine TS_seq ?_
      refine TS_seq ?_
      refine TS_region ?_
      refine TO_step rfl (S_to rfl rfl (V_fieldAddr rfl rfl (fap45_1 _ _ _))) ?_
      refine TO_step rfl (S_to rfl rfl (V_loadB rfl rfl rfl (loadB_one ok43 ag43 rfl))) ?_
      refine TO_step rfl (S_to rfl rfl (V_bin rfl rfl rfl b_neq)) ?_
      refine TO_nil ?_
      rcases cond_some h with ⟨hb6, h⟩ | ⟨hb6, h⟩
      · refine TS_true rfl hb6 ?_
        refine TS_seq ?_
        refine TS_draw (envF_ok (L := []) (fun x hx => by cases hx)) (by kernel_rfl : Tryd.prog.follows .mixedOrders = true) (by decide +kernel) ?_
        refine TD_step rfl (D_V rfl (V_loadB rfl rfl rfl (loadB_agg ok45 ag45 sz45 (show _ = some [(.sc (.int .i64 y5.2.2.f_At.f_Line)), (.sc (.int .i64 y5.2.2.f_At.f_Col)), (.sc (.int .i64 y5.2.2.f_Err))] from rfl) rfl))) ((foot_mk _ _).trans (show _ = Foot.rd 2 from rfl)) ?_
        refine TD_step rfl (D_V rfl (V_assign rfl rfl)) ((foot_mk _ _).trans (show _ = Foot.no from rfl)) ?_
        refine TD_step rfl (D_storeE rfl rfl rfl rfl rfl if45 sz45 rfl rfl (show _ = [(.d (.sc (.int .i64 y5.2.2.f_At.f_Line))), (.d (.sc (.int .i64 y5.2.2.f_At.f_Col))), (.d (.sc (.int .i64 y5.2.2.f_Err)))] from rfl)) ((foot_mk _ _).trans (show _ = Foot.wr 0 from rfl)) ?_
        refine TD_nil ⟨by decide +kernel, ?_⟩
        refine TS_ret ?_
        refine ret_up ?_
        have h := kr0 _ (Option.some.inj h).symm
        cases h
        exact ⟨trivial, _, _, (resEs_cons (resE_tmp rfl rfl) (resEs_cons (resE_cell rfl rfl rfl (loadB_agg ok45 ag45 sz45 (show _ = some [(.sc (.int .i64 y5.2.2.f_At.f_Line)), (.sc (.int .i64 y5.2.2.f_At.f_Col)), (.sc (.int .i64 y5.2.2.f_Err))] from rfl) rfl)) resEs_nil)), rfl, (Wk_tup ⟨Wk.nil, (Wk.refl _), trivial⟩)⟩
      · refine TS_false rfl hb6 ?_
        refine TS_skip ?_
        refine TS_region ?_
        refine TO_step rfl (S_to rfl rfl (V_move rfl rfl)) ?_
        refine TO_step rfl (S_to rfl rfl (V_loadB rfl rfl rfl (loadB_agg ok27 ag27 sz27 (show _ = some [(.sc (.int .i64 y5.1.f_Kind)), (str y5.1.f_Text), (.sc (.int .i64 y5.1.f_N)), (.sc (.int .i64 y5.1.f_At.f_Line)), (.sc (.int .i64 y5.1.f_At.f_Col))] from rfl) rfl))) ?_
        refine TO_step rfl (S_lit (l := ([y5.1] : List S27)) (row := row27) rfl rfl se22 rfl rfl rfl zr27 rfl) ?_
        obtain ⟨x7, hx7, h⟩ := obind_some h
        refine TO_step rfl (S_appM (row := row27) ⟨_, rfl, rfl, rfl, rfl⟩ rfl se22 rfl rfl rfl rz27 ap27 hx7 rfl) ?_
        refine TO_step rfl (S_to rfl rfl (V_move rfl rfl)) ?_
        refine TO_step rfl (S_to rfl rfl (V_assign rfl rfl)) ?_
        refine TO_step rfl (S_to rfl rfl (V_assign rfl rfl)) ?_
        refine TO_nil ?_
        refine TS_b ?_
        exact TS_nil ⟨_, h, ⟨⟨.inr rfl, .inr rfl, .inr rfl, .inr rfl, trivial⟩, ⟨_, rfl⟩, rfl, rfl, rfl⟩⟩
    · refine TS_false rfl hb4 ?_
      refine TS_exit ?_
      refine UX_c ?_
      refine UX_up ?_
      exact UX_less (.inl rfl) (kx0_0 _ (Option.some.inj h).symm) ⟨⟨.inr rfl, .inr rfl, trivial⟩, ⟨_, rfl⟩, rfl, rfl, rfl⟩
  · have h := hv1
    refine TS_region ?_
    refine TO_step rfl (S_to rfl rfl (V_move rfl rfl)) ?_
    refine TO_step rfl (S_to rfl rfl (V_lenM (row := row27) ⟨_, rfl, rfl, rfl, rfl⟩ se22 rfl rfl)) ?_
    refine TO_step rfl (S_to rfl rfl (V_bin rfl rfl rfl b_eql)) ?_
    refine TO_step rfl (S_to rfl rfl (V_move rfl rfl)) ?_
    rcases cond_some h with ⟨hb2, h⟩ | ⟨hb2, h⟩
    · refine TO_skip rfl rfl rfl rfl hb2 ?_
      refine TO_skip rfl rfl rfl rfl hb2 ?_
      refine TO_skip rfl rfl rfl rfl hb2 ?_
      refine TO_skip rfl rfl rfl rfl hb2 ?_
      refine TO_skip rfl rfl rfl rfl hb2 ?_
      refine TO_skip rfl rfl rfl rfl hb2 ?_
      refine TO_skip rfl rfl rfl rfl hb2 ?_
      refine TO_skip rfl rfl rfl rfl hb2 ?_
      refine TO_step rfl (S_to rfl rfl (V_pickT rfl rfl hb2 rfl rfl)) ?_
      refine TO_nil ?_
      exact TS_nil ⟨_, Option.some.inj h, ⟨⟨.inr rfl, .inr rfl, .inr rfl, .inr rfl, .inr rfl, trivial⟩, ⟨_, rfl⟩, rfl, rfl, rfl⟩⟩
    · refine TO_stepG rfl rfl rfl rfl hb2 (S_to rfl rfl (V_move rfl rfl)) ?_
      refine TO_stepG rfl rfl rfl rfl hb2 (S_to rfl rfl (V_move rfl rfl)) ?_
      refine TO_stepG rfl rfl rfl rfl hb2 (S_to rfl rfl (V_lenM (row := row27) ⟨_, rfl, rfl, rfl, rfl⟩ se22 rfl rfl)) ?_
      refine TO_stepG rfl rfl rfl rfl hb2 (S_to rfl rfl (V_bin rfl rfl rfl b_sub)) ?_
      obtain ⟨x3, hx3, h⟩ := obind_some h
      refine TO_stepG rfl rfl rfl rfl hb2 (S_to rfl rfl (V_idxA (row := row27) rfl se22 if27 rfl rfl rfl hx3 rfl)) ?_
      refine TO_stepG rfl rfl rfl rfl hb2 (S_to rfl rfl (V_fieldAddr rfl rfl (far27_0 _ _ _))) ?_
      refine TO_stepG rfl rfl rfl rfl hb2 (S_to rfl rfl (V_loadR rfl rfl (map_get hx3) (loadD_one ok23 ag23 rfl))) ?_
      refine TO_stepG rfl rfl rfl rfl hb2 (S_to rfl rfl (V_bin rfl rfl rfl b_neq)) ?_
      refine TO_step rfl (S_to rfl rfl (V_pickF rfl rfl hb2 rfl rfl)) ?_
      refine TO_nil ?_
      exact TS_nil ⟨_, Option.some.inj h, ⟨⟨.inr rfl, .inr rfl, .inr rfl, .inr rfl, .inr rfl, trivial⟩, ⟨_, rfl⟩, rfl, rfl, rfl⟩⟩
-- sieveholes/sieveholeslaw05.works
def F6 (n : Nat) : Option (Bool) := obind (F16 n (([120, 61, 49, 60, 60, 121, 59] : List UInt8))) fun y0 => obind (F16 n (([97, 32, 35, 32, 98] : List UInt8))) fun y1 => obind (F16 n (([49, 50, 97, 98] : List UInt8))) fun y2 => obind (F16 n (([48, 48, 55] : List UInt8))) fun y3 => obind (F16 n (([120, 64, 121] : List UInt8))) fun y4 => obind (cond ((!(eqI y0.2.f_Err 0))) (some true) (cond ((!(eqI y1.2.f_Err 0))) (some true) (cond ((!(eqI y2.2.f_Err 0))) (some true) (cond ((!(eqI ((lenL y0.1)) 7))) (some true) (cond ((!(eqI ((lenL y1.1)) 2))) (some true) (some ((!(eqI ((lenL y2.1)) 3))))))))) fun (v5 : (Bool)) => cond v5 (some false) (obind (obind (getL y0.1 3) fun x13 => cond ((eqS x13.f_Text (([60, 60] : List UInt8)))) (obind (getL y0.1 2) fun x15 => cond ((eqI x15.f_N 1)) (obind (getL y0.1 6) fun x17 => cond ((eqI x17.f_Kind 3)) (obind (getL y1.1 1) fun x19 => cond (((eqI x19.f_At.f_Line 1 && eqI x19.f_At.f_Col 6))) (obind (getL y2.1 1) fun x21 => cond ((eqS x21.f_Text (([97, 98] : List UInt8)))) (cond ((((eqI y3.2.f_At.f_Line 1 && eqI y3.2.f_At.f_Col 1) && eqI y3.2.f_Err 51))) (some ((((eqI y4.2.f_At.f_Line 1 && eqI y4.2.f_At.f_Col 2) && eqI y4.2.f_Err 50)))) (some false)) (some false)) (some false)) (some false)) (some false)) (some false)) fun (v12 : (Bool)) => some v12)
theorem F6_ok (n : Nat) (o : (Bool)) (h : F6 n = some o) : PureC Tryd.prog Z 6 [] (tb o) := by
  refine pure_of_TS fn6 rfl (N := 105) rfl rfl fun B g0 q0 => ?_
  unfold F6 at h
  refine TS_seq ?_
  refine TS_region ?_
  refine TO_step rfl (S_to rfl rfl (V_assign rfl rfl)) ?_
  refine TO_nil ?_
  refine TS_seq ?_
  refine TS_region ?_
  obtain ⟨y0, hy0, h⟩ := obind_some h
  refine TO_step rfl (S_st (S_call rfl rfl rfl rfl bd16 (F16_ok n (([120, 61, 49, 60, 60, 121, 59] : List UInt8)) y0 hy0)) rfl rfl) ?_
  refine TO_step rfl (S_to rfl rfl (V_move rfl rfl)) ?_
  refine TO_step rfl (S_to rfl rfl (V_extract rfl rfl rfl)) ?_
  refine TO_step rfl (S_to rfl rfl (V_extract rfl rfl rfl)) ?_
  refine TO_step rfl (S_allocE rfl rfl al45 rfl rfl (show _ = [.box 45 [(.d (.sc (.int .i64 0))), (.d (.sc (.int .i64 0))), (.d (.sc (.int .i64 0)))]] from rfl)) ?_
  refine TO_step rfl (S_to rfl rfl (V_assign rfl rfl)) ?_
  refine TO_step rfl (S_st (S_storeE rfl rfl rfl rfl rfl if45 sz45 rfl rfl (show _ = [(.d (.sc (.int .i64 y0.2.f_At.f_Line))), (.d (.sc (.int .i64 y0.2.f_At.f_Col))), (.d (.sc (.int .i64 y0.2.f_Err)))] from rfl) rfl) rfl (show _ = [.box 45 [(.d (.sc (.int .i64 y0.2.f_At.f_Line))), (.d (.sc (.int .i64 y0.2.f_At.f_Col))), (.d (.sc (.int .i64 y0.2.f_Err)))]] from rfl)) ?_
  refine TO_nil ?_
  refine TS_seq ?_
  refine TS_region ?_
  obtain ⟨y1, hy1, h⟩ := obind_some h
  refine TO_step rfl (S_st (S_call rfl rfl rfl rfl bd16 (F16_ok n (([97, 32, 35, 32, 98] : List UInt8)) y1 hy1)) rfl rfl) ?_
  refine TO_step rfl (S_to rfl rfl (V_move rfl rfl)) ?_
  refine TO_step rfl (S_to rfl rfl (V_extract rfl rfl rfl)) ?_
  refine TO_step rfl (S_to rfl rfl (V_extract rfl rfl rfl)) ?_
  refine TO_step rfl (S_allocE rfl rfl al45 rfl rfl (show _ = [.box 45 [(.d (.sc (.int .i64 y0.2.f_At.f_Line))), (.d (.sc (.int .i64 y0.2.f_At.f_Col))), (.d (.sc (.int .i64 y0.2.f_Err)))], .box 45 [(.d (.sc (.int .i64 0))), (.d (.sc (.int .i64 0))), (.d (.sc (.int .i64 0)))]] from rfl)) ?_
  refine TO_step rfl (S_to rfl rfl (V_assign rfl rfl)) ?_
  refine TO_step rfl (S_st (S_storeE rfl rfl rfl rfl rfl if45 sz45 rfl rfl (show _ = [(.d (.sc (.int .i64 y1.2.f_At.f_Line))), (.d (.sc (.int .i64 y1.2.f_At.f_Col))), (.d (.sc (.int .i64 y1.2.f_Err)))] from rfl) rfl) rfl (show _ = [.box 45 [(.d (.sc (.int .i64 y0.2.f_At.f_Line))), (.d (.sc (.int .i64 y0.2.f_At.f_Col))), (.d (.sc (.int .i64 y0.2.f_Err)))], .box 45 [(.d (.sc (.int .i64 y1.2.f_At.f_Line))), (.d (.sc (.int .i64 y1.2.f_At.f_Col))), (.d (.sc (.int .i64 y1.2.f_Err)))]] from rfl)) ?_
  refine TO_nil ?_
  refine TS_seq ?_
  refine TS_region ?_
  obtain ⟨y2, hy2, h⟩ := obind_some h
  refine TO_step rfl (S_st (S_call rfl rfl rfl rfl bd16 (F16_ok n (([49, 50, 97, 98] : List UInt8)) y2 hy2)) rfl rfl) ?_
  refine TO_step rfl (S_to rfl rfl (V_move rfl rfl)) ?_
  refine TO_step rfl (S_to rfl rfl (V_extract rfl rfl rfl)) ?_
  refine TO_step rfl (S_to rfl rfl (V_extract rfl rfl rfl)) ?_
  refine TO_step rfl (S_allocE rfl rfl al45 rfl rfl (show _ = [.box 45 [(.d (.sc (.int .i64 y0.2.f_At.f_Line))), (.d (.sc (.int .i64 y0.2.f_At.f_Col))), (.d (.sc (.int .i64 y0.2.f_Err)))], .box 45 [(.d (.sc (.int .i64 y1.2.f_At.f_Line))), (.d (.sc (.int .i64 y1.2.f_At.f_Col))), (.d (.sc (.int .i64 y1.2.f_Err)))], .box 45 [(.d (.sc (.int .i64 0))), (.d (.sc (.int .i64 0))), (.d (.sc (.int .i64 0)))]] from rfl)) ?_
  refine TO_step rfl (S_to rfl rfl (V_assign rfl rfl)) ?_
  refine TO_step rfl (S_st (S_storeE rfl rfl rfl rfl rfl if45 sz45 rfl rfl (show _ = [(.d (.sc (.int .i64 y2.2.f_At.f_Line))), (.d (.sc (.int .i64 y2.2.f_At.f_Col))), (.d (.sc (.int .i64 y2.2.f_Err)))] from rfl) rfl) rfl (show _ = [.box 45 [(.d (.sc (.int .i64 y0.2.f_At.f_Line))), (.d (.sc (.int .i64 y0.2.f_At.f_Col))), (.d (.sc (.int .i64 y0.2.f_Err)))], .box 45 [(.d (.sc (.int .i64 y1.2.f_At.f_Line))), (.d (.sc (.int .i64 y1.2.f_At.f_Col))), (.d (.sc (.int .i64 y1.2.f_Err)))], .box 45 [(.d (.sc (.int .i64 y2.2.f_At.f_Line))), (.d (.sc (.int .i64 y2.2.f_At.f_Col))), (.d (.sc (.int .i64 y2.2.f_Err)))]] from rfl)) ?_
  refine TO_nil ?_
  refine TS_seq ?_
  refine TS_region ?_
  obtain ⟨y3, hy3, h⟩ := obind_some h
  refine TO_step rfl (S_st (S_call rfl rfl rfl rfl bd16 (F16_ok n (([48, 48, 55] : List UInt8)) y3 hy3)) rfl rfl) ?_
  refine TO_step rfl (S_to rfl rfl (V_move rfl rfl)) ?_
  refine TO_step rfl (S_to rfl rfl (V_extract rfl rfl rfl)) ?_
  refine TO_step rfl (S_to rfl rfl (V_extract rfl rfl rfl)) ?_
  refine TO_step rfl (S_allocE rfl rfl al45 rfl rfl (show _ = [.box 45 [(.d (.sc (.int .i64 y0.2.f_At.f_Line))), (.d (.sc (.int .i64 y0.2.f_At.f_Col))), (.d (.sc (.int .i64 y0.2.f_Err)))], .box 45 [(.d (.sc (.int .i64 y1.2.f_At.f_Line))), (.d (.sc (.int .i64 y1.2.f_At.f_Col))), (.d (.sc (.int .i64 y1.2.f_Err)))], .box 45 [(.d (.sc (.int .i64 y2.2.f_At.f_Line))), (.d (.sc (.int .i64 y2.2.f_At.f_Col))), (.d (.sc (.int .i64 y2.2.f_Err)))], .box 45 [(.d (.sc (.int .i64 0))), (.d (.sc (.int .i64 0))), (.d (.sc (.int .i64 0)))]] from rfl)) ?_
  refine TO_step rfl (S_to rfl rfl (V_assign rfl rfl)) ?_
  refine TO_step rfl (S_st (S_storeE rfl rfl rfl rfl rfl if45 sz45 rfl rfl (show _ = [(.d (.sc (.int .i64 y3.2.f_At.f_Line))), (.d (.sc (.int .i64 y3.2.f_At.f_Col))), (.d (.sc (.int .i64 y3.2.f_Err)))] from rfl) rfl) rfl (show _ = [.box 45 [(.d (.sc (.int .i64 y0.2.f_At.f_Line))), (.d (.sc (.int .i64 y0.2.f_At.f_Col))), (.d (.sc (.int .i64 y0.2.f_Err)))], .box 45 [(.d (.sc (.int .i64 y1.2.f_At.f_Line))), (.d (.sc (.int .i64 y1.2.f_At.f_Col))), (.d (.sc (.int .i64 y1.2.f_Err)))], .box 45 [(.d (.sc (.int .i64 y2.2.f_At.f_Line))), (.d (.sc (.int .i64 y2.2.f_At.f_Col))), (.d (.sc (.int .i64 y2.2.f_Err)))], .box 45 [(.d (.sc (.int .i64 y3.2.f_At.f_Line))), (.d (.sc (.int .i64 y3.2.f_At.f_Col))), (.d (.sc (.int .i64 y3.2.f_Err)))]] from rfl)) ?_
  refine TO_nil ?_
  refine TS_seq ?_
  refine TS_region ?_
  obtain ⟨y4, hy4, h⟩ := obind_some h
  refine TO_step rfl (S_st (S_call rfl rfl rfl rfl bd16 (F16_ok n (([120, 64, 121] : List UInt8)) y4 hy4)) rfl rfl) ?_
  refine TO_step rfl (S_to rfl rfl (V_move rfl rfl)) ?_
  refine TO_step rfl (S_to rfl rfl (V_extract rfl rfl rfl)) ?_
  refine TO_step rfl (S_to rfl rfl (V_extract rfl rfl rfl)) ?_
  refine TO_step rfl (S_allocE rfl rfl al45 rfl rfl (show _ = [.box 45 [(.d (.sc (.int .i64 y0.2.f_At.f_Line))), (.d (.sc (.int .i64 y0.2.f_At.f_Col))), (.d (.sc (.int .i64 y0.2.f_Err)))], .box 45 [(.d (.sc (.int .i64 y1.2.f_At.f_Line))), (.d (.sc (.int .i64 y1.2.f_At.f_Col))), (.d (.sc (.int .i64 y1.2.f_Err)))], .box 45 [(.d (.sc (.int .i64 y2.2.f_At.f_Line))), (.d (.sc (.int .i64 y2.2.f_At.f_Col))), (.d (.sc (.int .i64 y2.2.f_Err)))], .box 45 [(.d (.sc (.int .i64 y3.2.f_At.f_Line))), (.d (.sc (.int .i64 y3.2.f_At.f_Col))), (.d (.sc (.int .i64 y3.2.f_Err)))], .box 45 [(.d (.sc (.int .i64 0))), (.d (.sc (.int .i64 0))), (.d (.sc (.int .i64 0)))]] from rfl)) ?_
  refine TO_step rfl (S_to rfl rfl (V_assign rfl rfl)) ?_
  refine TO_step rfl (S_st (S_storeE rfl rfl rfl rfl rfl if45 sz45 rfl rfl (show _ = [(.d (.sc (.int .i64 y4.2.f_At.f_Line))), (.d (.sc (.int .i64 y4.2.f_At.f_Col))), (.d (.sc (.int .i64 y4.2.f_Err)))] from rfl) rfl) rfl (show _ = [.box 45 [(.d (.sc (.int .i64 y0.2.f_At.f_Line))), (.d (.sc (.int .i64 y0.2.f_At.f_Col))), (.d (.sc (.int .i64 y0.2.f_Err)))], .box 45 [(.d (.sc (.int .i64 y1.2.f_At.f_Line))), (.d (.sc (.int .i64 y1.2.f_At.f_Col))), (.d (.sc (.int .i64 y1.2.f_Err)))], .box 45 [(.d (.sc (.int .i64 y2.2.f_At.f_Line))), (.d (.sc (.int .i64 y2.2.f_At.f_Col))), (.d (.sc (.int .i64 y2.2.f_Err)))], .box 45 [(.d (.sc (.int .i64 y3.2.f_At.f_Line))), (.d (.sc (.int .i64 y3.2.f_At.f_Col))), (.d (.sc (.int .i64 y3.2.f_Err)))], .box 45 [(.d (.sc (.int .i64 y4.2.f_At.f_Line))), (.d (.sc (.int .i64 y4.2.f_At.f_Col))), (.d (.sc (.int .i64 y4.2.f_Err)))]] from rfl)) ?_
  refine TO_nil ?_
  refine TS_seq ?_
  refine TS_seq ?_
  obtain ⟨v5, hv5, h⟩ := obind_some h
  refine TS_join (fun (v : (Bool)) => [(58, (.d (tb v))), (10, (.ptr 4 0 0)), (8, (.ptr 3 0 0)), (5, (.d (.sl (y2.1.map row27)))), (3, (.d (.sl (y1.1.map row27)))), (1, (.d (.sl (y0.1.map row27))))]) (fun (v : (Bool)) => [.box 45 [(.d (.sc (.int .i64 y0.2.f_At.f_Line))), (.d (.sc (.int .i64 y0.2.f_At.f_Col))), (.d (.sc (.int .i64 y0.2.f_Err)))], .box 45 [(.d (.sc (.int .i64 y1.2.f_At.f_Line))), (.d (.sc (.int .i64 y1.2.f_At.f_Col))), (.d (.sc (.int .i64 y1.2.f_Err)))], .box 45 [(.d (.sc (.int .i64 y2.2.f_At.f_Line))), (.d (.sc (.int .i64 y2.2.f_At.f_Col))), (.d (.sc (.int .i64 y2.2.f_Err)))], .box 45 [(.d (.sc (.int .i64 y3.2.f_At.f_Line))), (.d (.sc (.int .i64 y3.2.f_At.f_Col))), (.d (.sc (.int .i64 y3.2.f_Err)))], .box 45 [(.d (.sc (.int .i64 y4.2.f_At.f_Line))), (.d (.sc (.int .i64 y4.2.f_At.f_Col))), (.d (.sc (.int .i64 y4.2.f_Err)))]]) v5 (.inl rfl) ?_ ?_
  · rcases cond_some h with ⟨hb11, h⟩ | ⟨hb11, h⟩
    · refine TS_true rfl hb11 ?_
      refine TS_seq ?_
      refine TS_region ?_
      refine TO_step rfl (S_to rfl rfl (V_assign rfl rfl)) ?_
      refine TO_nil ?_
      refine TS_ret ?_
      cases h
      exact ⟨trivial, _, _, (resEs_cons (resE_tmp rfl rfl) resEs_nil), rfl, (Wk.refl _)⟩
    · refine TS_false rfl hb11 ?_
      refine TS_skip ?_
      refine TS_seq ?_
      obtain ⟨v12, hv12, h⟩ := obind_some h
      refine TS_join (fun (v : (Bool)) => [(0, (.d (tb v)))]) (fun (v : (Bool)) => [.box 45 [(.d (.sc (.int .i64 y0.2.f_At.f_Line))), (.d (.sc (.int .i64 y0.2.f_At.f_Col))), (.d (.sc (.int .i64 y0.2.f_Err)))], .box 45 [(.d (.sc (.int .i64 y1.2.f_At.f_Line))), (.d (.sc (.int .i64 y1.2.f_At.f_Col))), (.d (.sc (.int .i64 y1.2.f_Err)))], .box 45 [(.d (.sc (.int .i64 y2.2.f_At.f_Line))), (.d (.sc (.int .i64 y2.2.f_At.f_Col))), (.d (.sc (.int .i64 y2.2.f_Err)))], .box 45 [(.d (.sc (.int .i64 y3.2.f_At.f_Line))), (.d (.sc (.int .i64 y3.2.f_At.f_Col))), (.d (.sc (.int .i64 y3.2.f_Err)))], .box 45 [(.d (.sc (.int .i64 y4.2.f_At.f_Line))), (.d (.sc (.int .i64 y4.2.f_At.f_Col))), (.d (.sc (.int .i64 y4.2.f_Err)))]]) v12 (.inl rfl) ?_ ?_
      · refine TS_ret ?_
        cases h
        exact ⟨trivial, _, _, (resEs_cons (resE_tmp rfl rfl) resEs_nil), rfl, (Wk.refl _)⟩
      · have h := hv12
        refine TS_region ?_
        refine TO_step rfl (S_to rfl rfl (V_move rfl rfl)) ?_
        obtain ⟨x13, hx13, h⟩ := obind_some h
        refine TO_step rfl (S_to rfl rfl (V_idxA (row := row27) rfl se22 if27 rfl rfl rfl hx13 rfl)) ?_
        refine TO_step rfl (S_to rfl rfl (V_fieldAddr rfl rfl (far27_1 _ _ _))) ?_
        refine TO_step rfl (S_to rfl rfl (V_loadR rfl rfl (map_get hx13) (loadD_one ok9 ag9 rfl))) ?_
        refine TO_step rfl (S_to rfl rfl (V_bin rfl rfl rfl bs_eql)) ?_
        refine TO_step rfl (S_to rfl rfl (V_move rfl rfl)) ?_
        rcases cond_some h with ⟨hb14, h⟩ | ⟨hb14, h⟩
        · refine TO_stepG rfl rfl rfl rfl hb14 (S_to rfl rfl (V_move rfl rfl)) ?_
          obtain ⟨x15, hx15, h⟩ := obind_some h
          refine TO_stepG rfl rfl rfl rfl hb14 (S_to rfl rfl (V_idxA (row := row27) rfl se22 if27 rfl rfl rfl hx15 rfl)) ?_
          refine TO_stepG rfl rfl rfl rfl hb14 (S_to rfl rfl (V_fieldAddr rfl rfl (far27_2 _ _ _))) ?_
          refine TO_stepG rfl rfl rfl rfl hb14 (S_to rfl rfl (V_loadR rfl rfl (map_get hx15) (loadD_one ok2 ag2 rfl))) ?_
          refine TO_stepG rfl rfl rfl rfl hb14 (S_to rfl rfl (V_bin rfl rfl rfl b_eql)) ?_
          refine TO_step rfl (S_to rfl rfl (V_pickT rfl rfl hb14 rfl rfl)) ?_
          refine TO_step rfl (S_to rfl rfl (V_move rfl rfl)) ?_
          rcases cond_some h with ⟨hb16, h⟩ | ⟨hb16, h⟩
          · refine TO_stepG rfl rfl rfl rfl hb16 (S_to rfl rfl (V_move rfl rfl)) ?_
            obtain ⟨x17, hx17, h⟩ := obind_some h
            refine TO_stepG rfl rfl rfl rfl hb16 (S_to rfl rfl (V_idxA (row := row27) rfl se22 if27 rfl rfl rfl hx17 rfl)) ?_
            refine TO_stepG rfl rfl rfl rfl hb16 (S_to rfl rfl (V_fieldAddr rfl rfl (far27_0 _ _ _))) ?_
            refine TO_stepG rfl rfl rfl rfl hb16 (S_to rfl rfl (V_loadR rfl rfl (map_get hx17) (loadD_one ok23 ag23 rfl))) ?_
            refine TO_stepG rfl rfl rfl rfl hb16 (S_to rfl rfl (V_bin rfl rfl rfl b_eql)) ?_
            refine TO_step rfl (S_to rfl rfl (V_pickT rfl rfl hb16 rfl rfl)) ?_
            refine TO_step rfl (S_to rfl rfl (V_move rfl rfl)) ?_
            rcases cond_some h with ⟨hb18, h⟩ | ⟨hb18, h⟩
            · refine TO_stepG rfl rfl rfl rfl hb18 (S_to rfl rfl (V_move rfl rfl)) ?_
              obtain ⟨x19, hx19, h⟩ := obind_some h
              refine TO_stepG rfl rfl rfl rfl hb18 (S_to rfl rfl (V_idxA (row := row27) rfl se22 if27 rfl rfl rfl hx19 rfl)) ?_
              refine TO_stepG rfl rfl rfl rfl hb18 (S_to rfl rfl (V_fieldAddr rfl rfl (far27_3 _ _ _))) ?_
              refine TO_stepG rfl rfl rfl rfl hb18 (S_to rfl rfl (V_loadR rfl rfl (map_get hx19) (loadD_agg ok25 ag25 sz25 (show _ = [(.sc (.int .i64 x19.f_At.f_Line)), (.sc (.int .i64 x19.f_At.f_Col))] from rfl) rfl))) ?_
              refine TO_stepG rfl rfl rfl rfl hb18 (S_to rfl rfl (V_build rfl rfl (show buildE _ 25 _ = some (.agg [(.sc (.int .i64 1)), (.sc (.int .i64 6))]) from rfl))) ?_
              refine TO_stepG rfl rfl rfl rfl hb18 (S_to rfl rfl (V_bin rfl rfl rfl (b_eqT gd25 rfl rfl rfl (eqT25 _ _ _ _)))) ?_
              refine TO_step rfl (S_to rfl rfl (V_pickT rfl rfl hb18 rfl rfl)) ?_
              refine TO_step rfl (S_to rfl rfl (V_move rfl rfl)) ?_
              rcases cond_some h with ⟨hb20, h⟩ | ⟨hb20, h⟩
              · refine TO_stepG rfl rfl rfl rfl hb20 (S_to rfl rfl (V_move rfl rfl)) ?_
                obtain ⟨x21, hx21, h⟩ := obind_some h
                refine TO_stepG rfl rfl rfl rfl hb20 (S_to rfl rfl (V_idxA (row := row27) rfl se22 if27 rfl rfl rfl hx21 rfl)) ?_
                refine TO_stepG rfl rfl rfl rfl hb20 (S_to rfl rfl (V_fieldAddr rfl rfl (far27_1 _ _ _))) ?_
                refine TO_stepG rfl rfl rfl rfl hb20 (S_to rfl rfl (V_loadR rfl rfl (map_get hx21) (loadD_one ok9 ag9 rfl))) ?_
                refine TO_stepG rfl rfl rfl rfl hb20 (S_to rfl rfl (V_bin rfl rfl rfl bs_eql)) ?_
                refine TO_step rfl (S_to rfl rfl (V_pickT rfl rfl hb20 rfl rfl)) ?_
                refine TO_step rfl (S_to rfl rfl (V_move rfl rfl)) ?_
                rcases cond_some h with ⟨hb22, h⟩ | ⟨hb22, h⟩
                · refine TO_stepG rfl rfl rfl rfl hb22 (S_to rfl rfl (V_loadB rfl rfl rfl (loadB_agg ok45 ag45 sz45 (show _ = some [(.sc (.int .i64 y3.2.f_At.f_Line)), (.sc (.int .i64 y3.2.f_At.f_Col)), (.sc (.int .i64 y3.2.f_Err))] from rfl) rfl))) ?_
                  refine TO_stepG rfl rfl rfl rfl hb22 (S_to rfl rfl (V_build rfl rfl (show buildE _ 25 _ = some (.agg [(.sc (.int .i64 1)), (.sc (.int .i64 1))]) from rfl))) ?_
                  refine TO_stepG rfl rfl rfl rfl hb22 (S_to rfl rfl (V_build rfl rfl (show buildE _ 45 _ = some (.agg [(.sc (.int .i64 1)), (.sc (.int .i64 1)), (.sc (.int .i64 51))]) from rfl))) ?_
                  refine TO_stepG rfl rfl rfl rfl hb22 (S_to rfl rfl (V_bin rfl rfl rfl (b_eqT gd45 rfl rfl rfl (eqT45 _ _ _ _ _ _)))) ?_
                  refine TO_step rfl (S_to rfl rfl (V_pickT rfl rfl hb22 rfl rfl)) ?_
                  refine TO_step rfl (S_to rfl rfl (V_move rfl rfl)) ?_
                  rcases cond_some h with ⟨hb23, h⟩ | ⟨hb23, h⟩
                  · refine TO_stepG rfl rfl rfl rfl hb23 (S_to rfl rfl (V_loadB rfl rfl rfl (loadB_agg ok45 ag45 sz45 (show _ = some [(.sc (.int .i64 y4.2.f_At.f_Line)), (.sc (.int .i64 y4.2.f_At.f_Col)), (.sc (.int .i64 y4.2.f_Err))] from rfl) rfl))) ?_
                    refine TO_stepG rfl rfl rfl rfl hb23 (S_to rfl rfl (V_build rfl rfl (show buildE _ 25 _ = some (.agg [(.sc (.int .i64 1)), (.sc (.int .i64 2))]) from rfl))) ?_
                    refine TO_stepG rfl rfl rfl rfl hb23 (S_to rfl rfl (V_build rfl rfl (show buildE _ 45 _ = some (.agg [(.sc (.int .i64 1)), (.sc (.int .i64 2)), (.sc (.int .i64 50))]) from rfl))) ?_
                    refine TO_stepG rfl rfl rfl rfl hb23 (S_to rfl rfl (V_bin rfl rfl rfl (b_eqT gd45 rfl rfl rfl (eqT45 _ _ _ _ _ _)))) ?_
                    refine TO_step rfl (S_to rfl rfl (V_pickT rfl rfl hb23 rfl rfl)) ?_
                    refine TO_step rfl (S_to rfl rfl (V_assign rfl rfl)) ?_
                    refine TO_nil ?_
                    exact TS_nil ⟨_, Option.some.inj h, ⟨⟨.inr rfl, trivial⟩, ⟨_, rfl⟩, rfl, rfl, rfl⟩⟩
                  · refine TO_skip rfl rfl rfl rfl hb23 ?_
                    refine TO_skip rfl rfl rfl rfl hb23 ?_
                    refine TO_skip rfl rfl rfl rfl hb23 ?_
                    refine TO_skip rfl rfl rfl rfl hb23 ?_
                    refine TO_step rfl (S_to rfl rfl (V_pickF rfl rfl hb23 rfl rfl)) ?_
                    refine TO_step rfl (S_to rfl rfl (V_assign rfl rfl)) ?_
                    refine TO_nil ?_
                    exact TS_nil ⟨_, Option.some.inj h, ⟨⟨.inr rfl, trivial⟩, ⟨_, rfl⟩, rfl, rfl, rfl⟩⟩
                · refine TO_skip rfl rfl rfl rfl hb22 ?_
                  refine TO_skip rfl rfl rfl rfl hb22 ?_
                  refine TO_skip rfl rfl rfl rfl hb22 ?_
                  refine TO_skip rfl rfl rfl rfl hb22 ?_
                  refine TO_step rfl (S_to rfl rfl (V_pickF rfl rfl hb22 rfl rfl)) ?_
                  refine TO_step rfl (S_to rfl rfl (V_move rfl rfl)) ?_
                  refine TO_skip rfl rfl rfl rfl rfl ?_
                  refine TO_skip rfl rfl rfl rfl rfl ?_
                  refine TO_skip rfl rfl rfl rfl rfl ?_
                  refine TO_skip rfl rfl rfl rfl rfl ?_
                  refine TO_step rfl (S_to rfl rfl (V_pickF rfl rfl rfl rfl rfl)) ?_
                  refine TO_step rfl (S_to rfl rfl (V_assign rfl rfl)) ?_
                  refine TO_nil ?_
                  exact TS_nil ⟨_, Option.some.inj h, ⟨⟨.inr rfl, trivial⟩, ⟨_, rfl⟩, rfl, rfl, rfl⟩⟩
              · refine TO_skip rfl rfl rfl rfl hb20 ?_
                refine TO_skip rfl rfl rfl rfl hb20 ?_
                refine TO_skip rfl rfl rfl rfl hb20 ?_
                refine TO_skip rfl rfl rfl rfl hb20 ?_
                refine TO_skip rfl rfl rfl rfl hb20 ?_
                refine TO_step rfl (S_to rfl rfl (V_pickF rfl rfl hb20 rfl rfl)) ?_
                refine TO_step rfl (S_to rfl rfl (V_move rfl rfl)) ?_
                refine TO_skip rfl rfl rfl rfl rfl ?_
                refine TO_skip rfl rfl rfl rfl rfl ?_
                refine TO_skip rfl rfl rfl rfl rfl ?_
                refine TO_skip rfl rfl rfl rfl rfl ?_
                refine TO_step rfl (S_to rfl rfl (V_pickF rfl rfl rfl rfl rfl)) ?_
                refine TO_step rfl (S_to rfl rfl (V_move rfl rfl)) ?_
                refine TO_skip rfl rfl rfl rfl rfl ?_
                refine TO_skip rfl rfl rfl rfl rfl ?_
                refine TO_skip rfl rfl rfl rfl rfl ?_
                refine TO_skip rfl rfl rfl rfl rfl ?_
                refine TO_step rfl (S_to rfl rfl (V_pickF rfl rfl rfl rfl rfl)) ?_
                refine TO_step rfl (S_to rfl rfl (V_assign rfl rfl)) ?_
                refine TO_nil ?_
                exact TS_nil ⟨_, Option.some.inj h, ⟨⟨.inr rfl, trivial⟩, ⟨_, rfl⟩, rfl, rfl, rfl⟩⟩
            · refine TO_skip rfl rfl rfl rfl hb18 ?_
              refine TO_skip rfl rfl rfl rfl hb18 ?_
              refine TO_skip rfl rfl rfl rfl hb18 ?_
              refine TO_skip rfl rfl rfl rfl hb18 ?_
              refine TO_skip rfl rfl rfl rfl hb18 ?_
              refine TO_skip rfl rfl rfl rfl hb18 ?_
              refine TO_step rfl (S_to rfl rfl (V_pickF rfl rfl hb18 rfl rfl)) ?_
              refine TO_step rfl (S_to rfl rfl (V_move rfl rfl)) ?_
              refine TO_skip rfl rfl rfl rfl rfl ?_
              refine TO_skip rfl rfl rfl rfl rfl ?_
              refine TO_skip rfl rfl rfl rfl rfl ?_
              refine TO_skip rfl rfl rfl rfl rfl ?_
              refine TO_skip rfl rfl rfl rfl rfl ?_
              refine TO_step rfl (S_to rfl rfl (V_pickF rfl rfl rfl rfl rfl)) ?_
              refine TO_step rfl (S_to rfl rfl (V_move rfl rfl)) ?_
              refine TO_skip rfl rfl rfl rfl rfl ?_
              refine TO_skip rfl rfl rfl rfl rfl ?_
              refine TO_skip rfl rfl rfl rfl rfl ?_
              refine TO_skip rfl rfl rfl rfl rfl ?_
              refine TO_step rfl (S_to rfl rfl (V_pickF rfl rfl rfl rfl rfl)) ?_
              refine TO_step rfl (S_to rfl rfl (V_move rfl rfl)) ?_
              refine TO_skip rfl rfl rfl rfl rfl ?_
              refine TO_skip rfl rfl rfl rfl rfl ?_
              refine TO_skip rfl rfl rfl rfl rfl ?_
              refine TO_skip rfl rfl rfl rfl rfl ?_
              refine TO_step rfl (S_to rfl rfl (V_pickF rfl rfl rfl rfl rfl)) ?_
              refine TO_step rfl (S_to rfl rfl (V_assign rfl rfl)) ?_
              refine TO_nil ?_
              exact TS_nil ⟨_, Option.some.inj h, ⟨⟨.inr rfl, trivial⟩, ⟨_, rfl⟩, rfl, rfl, rfl⟩⟩
          · refine TO_skip rfl rfl rfl rfl hb16 ?_
            refine TO_skip rfl rfl rfl rfl hb16 ?_
            refine TO_skip rfl rfl rfl rfl hb16 ?_
            refine TO_skip rfl rfl rfl rfl hb16 ?_
            refine TO_skip rfl rfl rfl rfl hb16 ?_
            refine TO_step rfl (S_to rfl rfl (V_pickF rfl rfl hb16 rfl rfl)) ?_
            refine TO_step rfl (S_to rfl rfl (V_move rfl rfl)) ?_
            refine TO_skip rfl rfl rfl rfl rfl ?_
            refine TO_skip rfl rfl rfl rfl rfl ?_
            refine TO_skip rfl rfl rfl rfl rfl ?_
            refine TO_skip rfl rfl rfl rfl rfl ?_
            refine TO_skip rfl rfl rfl rfl rfl ?_
            refine TO_skip rfl rfl rfl rfl rfl ?_
            refine TO_step rfl (S_to rfl rfl (V_pickF rfl rfl rfl rfl rfl)) ?_
            refine TO_step rfl (S_to rfl rfl (V_move rfl rfl)) ?_
            refine TO_skip rfl rfl rfl rfl rfl ?_
            refine TO_skip rfl rfl rfl rfl rfl ?_
            refine TO_skip rfl rfl rfl rfl rfl ?_
            refine TO_skip rfl rfl rfl rfl rfl ?_
            refine TO_skip rfl rfl rfl rfl rfl ?_
            refine TO_step rfl (S_to rfl rfl (V_pickF rfl rfl rfl rfl rfl)) ?_
            refine TO_step rfl (S_to rfl rfl (V_move rfl rfl)) ?_
            refine TO_skip rfl rfl rfl rfl rfl ?_
            refine TO_skip rfl rfl rfl rfl rfl ?_
            refine TO_skip rfl rfl rfl rfl rfl ?_
            refine TO_skip rfl rfl rfl rfl rfl ?_
            refine TO_step rfl (S_to rfl rfl (V_pickF rfl rfl rfl rfl rfl)) ?_
            refine TO_step rfl (S_to rfl rfl (V_move rfl rfl)) ?_
            refine TO_skip rfl rfl rfl rfl rfl ?_
            refine TO_skip rfl rfl rfl rfl rfl ?_
            refine TO_skip rfl rfl rfl rfl rfl ?_
            refine TO_skip rfl rfl rfl rfl rfl ?_
            refine TO_step rfl (S_to rfl rfl (V_pickF rfl rfl rfl rfl rfl)) ?_
            refine TO_step rfl (S_to rfl rfl (V_assign rfl rfl)) ?_
            refine TO_nil ?_
            exact TS_nil ⟨_, Option.some.inj h, ⟨⟨.inr rfl, trivial⟩, ⟨_, rfl⟩, rfl, rfl, rfl⟩⟩
        · refine TO_skip rfl rfl rfl rfl hb14 ?_
          refine TO_skip rfl rfl rfl rfl hb14 ?_
          refine TO_skip rfl rfl rfl rfl hb14 ?_
          refine TO_skip rfl rfl rfl rfl hb14 ?_
          refine TO_skip rfl rfl rfl rfl hb14 ?_
          refine TO_step rfl (S_to rfl rfl (V_pickF rfl rfl hb14 rfl rfl)) ?_
          refine TO_step rfl (S_to rfl rfl (V_move rfl rfl)) ?_
          refine TO_skip rfl rfl rfl rfl rfl ?_
          refine TO_skip rfl rfl rfl rfl rfl ?_
          refine TO_skip rfl rfl rfl rfl rfl ?_
          refine TO_skip rfl rfl rfl rfl rfl ?_
          refine TO_skip rfl rfl rfl rfl rfl ?_
          refine TO_step rfl (S_to rfl rfl (V_pickF rfl rfl rfl rfl rfl)) ?_
          refine TO_step rfl (S_to rfl rfl (V_move rfl rfl)) ?_
          refine TO_skip rfl rfl rfl rfl rfl ?_
          refine TO_skip rfl rfl rfl rfl rfl ?_
          refine TO_skip rfl rfl rfl rfl rfl ?_
          refine TO_skip rfl rfl rfl rfl rfl ?_
          refine TO_skip rfl rfl rfl rfl rfl ?_
          refine TO_skip rfl rfl rfl rfl rfl ?_
          refine TO_step rfl (S_to rfl rfl (V_pickF rfl rfl rfl rfl rfl)) ?_
          refine TO_step rfl (S_to rfl rfl (V_move rfl rfl)) ?_
          refine TO_skip rfl rfl rfl rfl rfl ?_
          refine TO_skip rfl rfl rfl rfl rfl ?_
          refine TO_skip rfl rfl rfl rfl rfl ?_
          refine TO_skip rfl rfl rfl rfl rfl ?_
          refine TO_skip rfl rfl rfl rfl rfl ?_
          refine TO_step rfl (S_to rfl rfl (V_pickF rfl rfl rfl rfl rfl)) ?_
          refine TO_step rfl (S_to rfl rfl (V_move rfl rfl)) ?_
          refine TO_skip rfl rfl rfl rfl rfl ?_
          refine TO_skip rfl rfl rfl rfl rfl ?_
          refine TO_skip rfl rfl rfl rfl rfl ?_
          refine TO_skip rfl rfl rfl rfl rfl ?_
          refine TO_step rfl (S_to rfl rfl (V_pickF rfl rfl rfl rfl rfl)) ?_
          refine TO_step rfl (S_to rfl rfl (V_move rfl rfl)) ?_
          refine TO_skip rfl rfl rfl rfl rfl ?_
          refine TO_skip rfl rfl rfl rfl rfl ?_
          refine TO_skip rfl rfl rfl rfl rfl ?_
          refine TO_skip rfl rfl rfl rfl rfl ?_
          refine TO_step rfl (S_to rfl rfl (V_pickF rfl rfl rfl rfl rfl)) ?_
          refine TO_step rfl (S_to rfl rfl (V_assign rfl rfl)) ?_
          refine TO_nil ?_
          exact TS_nil ⟨_, Option.some.inj h, ⟨⟨.inr rfl, trivial⟩, ⟨_, rfl⟩, rfl, rfl, rfl⟩⟩
  · have h := hv5
    refine TS_region ?_
    refine TO_step rfl (S_to rfl rfl (V_fieldAddr rfl rfl (fap45_1 _ _ _))) ?_
    refine TO_step rfl (S_to rfl rfl (V_loadB rfl rfl rfl (loadB_one ok43 ag43 rfl))) ?_
    refine TO_step rfl (S_to rfl rfl (V_bin rfl rfl rfl b_neq)) ?_
    refine TO_step rfl (S_to rfl rfl (V_move rfl rfl)) ?_
    rcases cond_some h with ⟨hb6, h⟩ | ⟨hb6, h⟩
    · refine TO_skip rfl rfl rfl rfl hb6 ?_
      refine TO_skip rfl rfl rfl rfl hb6 ?_
      refine TO_skip rfl rfl rfl rfl hb6 ?_
      refine TO_step rfl (S_to rfl rfl (V_pickT rfl rfl hb6 rfl rfl)) ?_
      refine TO_step rfl (S_to rfl rfl (V_move rfl rfl)) ?_
      refine TO_skip rfl rfl rfl rfl rfl ?_
      refine TO_skip rfl rfl rfl rfl rfl ?_
      refine TO_skip rfl rfl rfl rfl rfl ?_
      refine TO_step rfl (S_to rfl rfl (V_pickT rfl rfl rfl rfl rfl)) ?_
      refine TO_step rfl (S_to rfl rfl (V_move rfl rfl)) ?_
      refine TO_skip rfl rfl rfl rfl rfl ?_
      refine TO_skip rfl rfl rfl rfl rfl ?_
      refine TO_skip rfl rfl rfl rfl rfl ?_
      refine TO_step rfl (S_to rfl rfl (V_pickT rfl rfl rfl rfl rfl)) ?_
      refine TO_step rfl (S_to rfl rfl (V_move rfl rfl)) ?_
      refine TO_skip rfl rfl rfl rfl rfl ?_
      refine TO_skip rfl rfl rfl rfl rfl ?_
      refine TO_skip rfl rfl rfl rfl rfl ?_
      refine TO_step rfl (S_to rfl rfl (V_pickT rfl rfl rfl rfl rfl)) ?_
      refine TO_step rfl (S_to rfl rfl (V_move rfl rfl)) ?_
      refine TO_skip rfl rfl rfl rfl rfl ?_
      refine TO_skip rfl rfl rfl rfl rfl ?_
      refine TO_skip rfl rfl rfl rfl rfl ?_
      refine TO_step rfl (S_to rfl rfl (V_pickT rfl rfl rfl rfl rfl)) ?_
      refine TO_nil ?_
      exact TS_nil ⟨_, Option.some.inj h, ⟨⟨.inr rfl, .inr rfl, .inr rfl, .inr rfl, .inr rfl, .inr rfl, trivial⟩, ⟨_, rfl⟩, rfl, rfl, rfl⟩⟩
    · refine TO_stepG rfl rfl rfl rfl hb6 (S_to rfl rfl (V_fieldAddr rfl rfl (fap45_1 _ _ _))) ?_
      refine TO_stepG rfl rfl rfl rfl hb6 (S_to rfl rfl (V_loadB rfl rfl rfl (loadB_one ok43 ag43 rfl))) ?_
      refine TO_stepG rfl rfl rfl rfl hb6 (S_to rfl rfl (V_bin rfl rfl rfl b_neq)) ?_
      refine TO_step rfl (S_to rfl rfl (V_pickF rfl rfl hb6 rfl rfl)) ?_
      refine TO_step rfl (S_to rfl rfl (V_move rfl rfl)) ?_
      rcases cond_some h with ⟨hb7, h⟩ | ⟨hb7, h⟩
      · refine TO_skip rfl rfl rfl rfl hb7 ?_
        refine TO_skip rfl rfl rfl rfl hb7 ?_
        refine TO_skip rfl rfl rfl rfl hb7 ?_
        refine TO_step rfl (S_to rfl rfl (V_pickT rfl rfl hb7 rfl rfl)) ?_
        refine TO_step rfl (S_to rfl rfl (V_move rfl rfl)) ?_
        refine TO_skip rfl rfl rfl rfl rfl ?_
        refine TO_skip rfl rfl rfl rfl rfl ?_
        refine TO_skip rfl rfl rfl rfl rfl ?_
        refine TO_step rfl (S_to rfl rfl (V_pickT rfl rfl rfl rfl rfl)) ?_
        refine TO_step rfl (S_to rfl rfl (V_move rfl rfl)) ?_
        refine TO_skip rfl rfl rfl rfl rfl ?_
        refine TO_skip rfl rfl rfl rfl rfl ?_
        refine TO_skip rfl rfl rfl rfl rfl ?_
        refine TO_step rfl (S_to rfl rfl (V_pickT rfl rfl rfl rfl rfl)) ?_
        refine TO_step rfl (S_to rfl rfl (V_move rfl rfl)) ?_
        refine TO_skip rfl rfl rfl rfl rfl ?_
        refine TO_skip rfl rfl rfl rfl rfl ?_
        refine TO_skip rfl rfl rfl rfl rfl ?_
        refine TO_step rfl (S_to rfl rfl (V_pickT rfl rfl rfl rfl rfl)) ?_
        refine TO_nil ?_
        exact TS_nil ⟨_, Option.some.inj h, ⟨⟨.inr rfl, .inr rfl, .inr rfl, .inr rfl, .inr rfl, .inr rfl, trivial⟩, ⟨_, rfl⟩, rfl, rfl, rfl⟩⟩
      · refine TO_stepG rfl rfl rfl rfl hb7 (S_to rfl rfl (V_fieldAddr rfl rfl (fap45_1 _ _ _))) ?_
        refine TO_stepG rfl rfl rfl rfl hb7 (S_to rfl rfl (V_loadB rfl rfl rfl (loadB_one ok43 ag43 rfl))) ?_
        refine TO_stepG rfl rfl rfl rfl hb7 (S_to rfl rfl (V_bin rfl rfl rfl b_neq)) ?_
        refine TO_step rfl (S_to rfl rfl (V_pickF rfl rfl hb7 rfl rfl)) ?_
        refine TO_step rfl (S_to rfl rfl (V_move rfl rfl)) ?_
        rcases cond_some h with ⟨hb8, h⟩ | ⟨hb8, h⟩
        · refine TO_skip rfl rfl rfl rfl hb8 ?_
          refine TO_skip rfl rfl rfl rfl hb8 ?_
          refine TO_skip rfl rfl rfl rfl hb8 ?_
          refine TO_step rfl (S_to rfl rfl (V_pickT rfl rfl hb8 rfl rfl)) ?_
          refine TO_step rfl (S_to rfl rfl (V_move rfl rfl)) ?_
          refine TO_skip rfl rfl rfl rfl rfl ?_
          refine TO_skip rfl rfl rfl rfl rfl ?_
          refine TO_skip rfl rfl rfl rfl rfl ?_
          refine TO_step rfl (S_to rfl rfl (V_pickT rfl rfl rfl rfl rfl)) ?_
          refine TO_step rfl (S_to rfl rfl (V_move rfl rfl)) ?_
          refine TO_skip rfl rfl rfl rfl rfl ?_
          refine TO_skip rfl rfl rfl rfl rfl ?_
          refine TO_skip rfl rfl rfl rfl rfl ?_
          refine TO_step rfl (S_to rfl rfl (V_pickT rfl rfl rfl rfl rfl)) ?_
          refine TO_nil ?_
          exact TS_nil ⟨_, Option.some.inj h, ⟨⟨.inr rfl, .inr rfl, .inr rfl, .inr rfl, .inr rfl, .inr rfl, trivial⟩, ⟨_, rfl⟩, rfl, rfl, rfl⟩⟩
        · refine TO_stepG rfl rfl rfl rfl hb8 (S_to rfl rfl (V_move rfl rfl)) ?_
          refine TO_stepG rfl rfl rfl rfl hb8 (S_to rfl rfl (V_lenM (row := row27) ⟨_, rfl, rfl, rfl, rfl⟩ se22 rfl rfl)) ?_
          refine TO_stepG rfl rfl rfl rfl hb8 (S_to rfl rfl (V_bin rfl rfl rfl b_neq)) ?_
          refine TO_step rfl (S_to rfl rfl (V_pickF rfl rfl hb8 rfl rfl)) ?_
          refine TO_step rfl (S_to rfl rfl (V_move rfl rfl)) ?_
          rcases cond_some h with ⟨hb9, h⟩ | ⟨hb9, h⟩
          · refine TO_skip rfl rfl rfl rfl hb9 ?_
            refine TO_skip rfl rfl rfl rfl hb9 ?_
            refine TO_skip rfl rfl rfl rfl hb9 ?_
            refine TO_step rfl (S_to rfl rfl (V_pickT rfl rfl hb9 rfl rfl)) ?_
            refine TO_step rfl (S_to rfl rfl (V_move rfl rfl)) ?_
            refine TO_skip rfl rfl rfl rfl rfl ?_
            refine TO_skip rfl rfl rfl rfl rfl ?_
            refine TO_skip rfl rfl rfl rfl rfl ?_
            refine TO_step rfl (S_to rfl rfl (V_pickT rfl rfl rfl rfl rfl)) ?_
            refine TO_nil ?_
            exact TS_nil ⟨_, Option.some.inj h, ⟨⟨.inr rfl, .inr rfl, .inr rfl, .inr rfl, .inr rfl, .inr rfl, trivial⟩, ⟨_, rfl⟩, rfl, rfl, rfl⟩⟩
          · refine TO_stepG rfl rfl rfl rfl hb9 (S_to rfl rfl (V_move rfl rfl)) ?_
            refine TO_stepG rfl rfl rfl rfl hb9 (S_to rfl rfl (V_lenM (row := row27) ⟨_, rfl, rfl, rfl, rfl⟩ se22 rfl rfl)) ?_
            refine TO_stepG rfl rfl rfl rfl hb9 (S_to rfl rfl (V_bin rfl rfl rfl b_neq)) ?_
            refine TO_step rfl (S_to rfl rfl (V_pickF rfl rfl hb9 rfl rfl)) ?_
            refine TO_step rfl (S_to rfl rfl (V_move rfl rfl)) ?_
            rcases cond_some h with ⟨hb10, h⟩ | ⟨hb10, h⟩
            · refine TO_skip rfl rfl rfl rfl hb10 ?_
              refine TO_skip rfl rfl rfl rfl hb10 ?_
              refine TO_skip rfl rfl rfl rfl hb10 ?_
              refine TO_step rfl (S_to rfl rfl (V_pickT rfl rfl hb10 rfl rfl)) ?_
              refine TO_nil ?_
              exact TS_nil ⟨_, Option.some.inj h, ⟨⟨.inr rfl, .inr rfl, .inr rfl, .inr rfl, .inr rfl, .inr rfl, trivial⟩, ⟨_, rfl⟩, rfl, rfl, rfl⟩⟩
            · refine TO_stepG rfl rfl rfl rfl hb10 (S_to rfl rfl (V_move rfl rfl)) ?_
              refine TO_stepG rfl rfl rfl rfl hb10 (S_to rfl rfl (V_lenM (row := row27) ⟨_, rfl, rfl, rfl, rfl⟩ se22 rfl rfl)) ?_
              refine TO_stepG rfl rfl rfl rfl hb10 (S_to rfl rfl (V_bin rfl rfl rfl b_neq)) ?_
              refine TO_step rfl (S_to rfl rfl (V_pickF rfl rfl hb10 rfl rfl)) ?_
              refine TO_nil ?_
              exact TS_nil ⟨_, Option.some.inj h, ⟨⟨.inr rfl, .inr rfl, .inr rfl, .inr rfl, .inr rfl, .inr rfl, trivial⟩, ⟨_, rfl⟩, rfl, rfl, rfl⟩⟩
-- internal/stringslite.Cut
def F58 (n : Nat) (t0 : (List UInt8)) (t1 : (List UInt8)) : Option ((List UInt8) × (List UInt8) × Bool) := obind (F69 n t0 t1) fun y0 => cond ((leI 0 y0)) (obind (cutL t0 0 y0) fun x2 => obind (cutL t0 ((addI .i64 y0 ((lenL t1)))) ((lenL t0))) fun x3 => some (x2, x3, true)) (some (t0, ([] : List UInt8), false))
theorem F58_ok (n : Nat) (t0 : (List UInt8)) (t1 : (List UInt8)) (o : ((List UInt8) × (List UInt8) × Bool)) (h : F58 n t0 t1 = some o) : PureC Tryd.prog Z 58 [(str t0), (str t1)] (.tup [(str o.1), (str o.2.1), (tb o.2.2)]) := by
  refine pure_of_TS fn58 rfl (N := 23) rfl rfl fun B g0 q0 => ?_
  unfold F58 at h
  refine TS_seq ?_
  refine TS_region ?_
  refine TO_step rfl (S_to rfl rfl (V_assign rfl rfl)) ?_
  refine TO_step rfl (S_to rfl rfl (V_assign rfl rfl)) ?_
  refine TO_step rfl (S_to rfl rfl (V_assign rfl rfl)) ?_
  refine TO_nil ?_
  refine TS_seq ?_
  refine TS_seq ?_
  refine TS_region ?_
  refine TO_step rfl (S_to rfl rfl (V_move rfl rfl)) ?_
  refine TO_step rfl (S_to rfl rfl (V_move rfl rfl)) ?_
  obtain ⟨y0, hy0, h⟩ := obind_some h
  refine TO_step rfl (S_st (S_call rfl rfl rfl rfl bd69 (F69_ok n t0 t1 y0 hy0)) rfl rfl) ?_
  refine TO_step rfl (S_to rfl rfl (V_assign rfl rfl)) ?_
  refine TO_nil ?_
  refine TS_seq ?_
  refine TS_region ?_
  refine TO_step rfl (S_to rfl rfl (V_move rfl rfl)) ?_
  refine TO_step rfl (S_to rfl rfl (V_bin rfl rfl rfl b_geq)) ?_
  refine TO_nil ?_
  rcases cond_some h with ⟨hb1, h⟩ | ⟨hb1, h⟩
  · refine TS_true rfl hb1 ?_
    refine TS_seq ?_
    obtain ⟨x2, hx2, h⟩ := obind_some h
    obtain ⟨x3, hx3, h⟩ := obind_some h
    refine TS_draw (envF_ok (L := []) (fun x hx => by cases hx)) (by kernel_rfl : Tryd.prog.follows .mixedOrders = true) (by decide +kernel) ?_
    refine TD_step rfl (D_V rfl (V_move rfl rfl)) ((foot_mk _ _).trans (show _ = Foot.no from rfl)) ?_
    refine TD_step rfl (D_V rfl (V_move rfl rfl)) ((foot_mk _ _).trans (show _ = Foot.no from rfl)) ?_
    refine TD_step rfl (D_V rfl (V_cutS rfl Tryd.underlying9 rfl rfl rfl hx2)) ((foot_mk _ _).trans (show _ = Foot.no from rfl)) ?_
    refine TD_step rfl (D_V rfl (V_move rfl rfl)) ((foot_mk _ _).trans (show _ = Foot.no from rfl)) ?_
    refine TD_step rfl (D_V rfl (V_move rfl rfl)) ((foot_mk _ _).trans (show _ = Foot.no from rfl)) ?_
    refine TD_step rfl (D_V rfl (V_move rfl rfl)) ((foot_mk _ _).trans (show _ = Foot.no from rfl)) ?_
    refine TD_step rfl (D_V rfl (V_lenS ⟨_, rfl, rfl, rfl, rfl⟩ Tryd.underlying9 rfl)) ((foot_mk _ _).trans (show _ = Foot.no from rfl)) ?_
    refine TD_step rfl (D_V rfl (V_bin rfl rfl rfl b_add)) ((foot_mk _ _).trans (show _ = Foot.no from rfl)) ?_
    refine TD_step rfl (D_V rfl (V_cutS rfl Tryd.underlying9 rfl rfl rfl hx3)) ((foot_mk _ _).trans (show _ = Foot.no from rfl)) ?_
    refine TD_step rfl (D_V rfl (V_assign rfl rfl)) ((foot_mk _ _).trans (show _ = Foot.no from rfl)) ?_
    refine TD_step rfl (D_V rfl (V_assign rfl rfl)) ((foot_mk _ _).trans (show _ = Foot.no from rfl)) ?_
    refine TD_step rfl (D_V rfl (V_assign rfl rfl)) ((foot_mk _ _).trans (show _ = Foot.no from rfl)) ?_
    refine TD_nil ⟨by decide +kernel, ?_⟩
    refine TS_ret ?_
    cases h
    exact ⟨trivial, _, _, (resEs_cons (resE_tmp rfl rfl) (resEs_cons (resE_tmp rfl rfl) (resEs_cons (resE_tmp rfl rfl) resEs_nil))), rfl, (Wk.refl _)⟩
  · refine TS_false rfl hb1 ?_
    refine TS_skip ?_
    refine TS_seq ?_
    refine TS_region ?_
    refine TO_step rfl (S_to rfl rfl (V_move rfl rfl)) ?_
    refine TO_step rfl (S_to rfl rfl (V_assign rfl rfl)) ?_
    refine TO_step rfl (S_to rfl rfl (V_assign rfl rfl)) ?_
    refine TO_step rfl (S_to rfl rfl (V_assign rfl rfl)) ?_
    refine TO_nil ?_
    refine TS_ret ?_
    cases h
    exact ⟨trivial, _, _, (resEs_cons (resE_tmp rfl rfl) (resEs_cons (resE_tmp rfl rfl) (resEs_cons (resE_tmp rfl rfl) resEs_nil))), rfl, (Wk.refl _)⟩
-- strings.Cut
def F46 (n : Nat) (t0 : (List UInt8)) (t1 : (List UInt8)) : Option ((List UInt8) × (List UInt8) × Bool) := obind (F58 n t0 t1) fun y0 => some (y0.1, y0.2.1, y0.2.2)
theorem F46_ok (n : Nat) (t0 : (List UInt8)) (t1 : (List UInt8)) (o : ((List UInt8) × (List UInt8) × Bool)) (h : F46 n t0 t1 = some o) : PureC Tryd.prog Z 46 [(str t0), (str t1)] (.tup [(str o.1), (str o.2.1), (tb o.2.2)]) := by
  refine pure_of_TS fn46 rfl (N := 13) rfl rfl fun B g0 q0 => ?_
  unfold F46 at h
  refine TS_seq ?_
  refine TS_region ?_
  refine TO_step rfl (S_to rfl rfl (V_assign rfl rfl)) ?_
  refine TO_step rfl (S_to rfl rfl (V_assign rfl rfl)) ?_
  refine TO_step rfl (S_to rfl rfl (V_assign rfl rfl)) ?_
  refine TO_nil ?_
  refine TS_seq ?_
  refine TS_region ?_
  refine TO_step rfl (S_to rfl rfl (V_move rfl rfl)) ?_
  refine TO_step rfl (S_to rfl rfl (V_move rfl rfl)) ?_
  obtain ⟨y0, hy0, h⟩ := obind_some h
  refine TO_step rfl (S_st (S_call rfl rfl rfl rfl bd58 (F58_ok n t0 t1 y0 hy0)) rfl rfl) ?_
  refine TO_step rfl (S_to rfl rfl (V_extract rfl rfl rfl)) ?_
  refine TO_step rfl (S_to rfl rfl (V_extract rfl rfl rfl)) ?_
  refine TO_step rfl (S_to rfl rfl (V_extract rfl rfl rfl)) ?_
  refine TO_step rfl (S_to rfl rfl (V_assign rfl rfl)) ?_
  refine TO_step rfl (S_to rfl rfl (V_assign rfl rfl)) ?_
  refine TO_step rfl (S_to rfl rfl (V_assign rfl rfl)) ?_
  refine TO_nil ?_
  refine TS_ret ?_
  cases h
  exact ⟨trivial, _, _, (resEs_cons (resE_tmp rfl rfl) (resEs_cons (resE_tmp rfl rfl) (resEs_cons (resE_tmp rfl rfl) resEs_nil))), rfl, (Wk.refl _)⟩
-- sieveholes/pos.Lines
def F28_L0 (n : Nat) : Nat → ((List (List UInt8)) × (List UInt8)) → Option (LO ((List (List UInt8))) ((List (List UInt8))))
  | 0, _ => none
  | m0 + 1, s0 => obind (F46 n s0.2 (([10] : List UInt8))) fun y1 => obind (appL 16 s0.1 (([y1.1] : List (List UInt8)))) fun x2 => cond (!y1.2.2) (some (.out x2)) (F28_L0 n m0 (x2, y1.2.1))
def F28 (n : Nat) (t0 : (List UInt8)) : Option ((List (List UInt8))) := obind (F28_L0 n n (([] : List (List UInt8)), t0)) fun out0 => match out0 with | .ret _ => none | .out v4 => some v4
theorem F28_ok (n : Nat) (t0 : (List UInt8)) (o : ((List (List UInt8)))) (h : F28 n t0 = some o) : PureC Tryd.prog Z 28 [(str t0)] (.sl (o.map row9)) := by
  refine pure_of_TS fn28 rfl (N := 21) rfl rfl fun B g0 q0 => ?_
  unfold F28 at h
  refine TS_seq ?_
  refine TS_region ?_
  refine TO_step rfl (S_nil (row := row9) rfl rfl se52 rfl) ?_
  refine TO_nil ?_
  refine TS_scope ?_
  refine TS_seq ?_
  refine TS_region ?_
  refine TO_step rfl (S_nil (row := row9) rfl rfl se52 rfl) ?_
  refine TO_nil ?_
  refine TS_seq ?_
  refine TS_label ?_
  refine TS_seq ?_
  refine TS_block ?_
  obtain ⟨out0, hL0, h⟩ := obind_some h
  refine TS_cont (id := 0) (fun (v : ((List (List UInt8)))) => out0 = .out v) (fun (v : ((List (List UInt8)))) => [(3, (.gl 3 9 (v.map row9)))]) (fun (v : ((List (List UInt8)))) => []) ?_ fun kx0_0 => ?_
  · rintro v4 rfl
    try dsimp only at h
    refine UX_eq ?_
    refine TS_seq ?_
    refine TS_region ?_
    refine TO_step rfl (S_to rfl rfl (V_move rfl rfl)) ?_
    refine TO_step rfl (S_to rfl rfl (V_assign rfl rfl)) ?_
    refine TO_nil ?_
    refine TS_ret ?_
    cases h
    exact ⟨trivial, _, _, (resEs_cons (resE_tmp rfl rfl) resEs_nil), rfl, (Wk.refl _)⟩
  refine TS_loop (F28_L0 n) (fun (s : ((List (List UInt8)) × (List UInt8))) => [(0, (.d (str s.2))), (3, (.gl 3 9 (s.1.map row9)))]) (fun (s : ((List (List UInt8)) × (List UInt8))) => []) out0 hL0 ⟨⟨.inr rfl, .inr rfl, trivial⟩, ⟨_, rfl⟩, rfl, rfl, rfl⟩ (fun _ => rfl) fun m0 s0 h => ?_
  rw [F28_L0] at h
  refine TS_block ?_
  refine TS_seq ?_
  refine TS_region ?_
  refine TO_step rfl (S_to rfl rfl (V_move rfl rfl)) ?_
  obtain ⟨y1, hy1, h⟩ := obind_some h
  refine TO_step rfl (S_st (S_call rfl rfl rfl rfl bd46 (F46_ok n s0.2 (([10] : List UInt8)) y1 hy1)) rfl rfl) ?_
  refine TO_step rfl (S_to rfl rfl (V_move rfl rfl)) ?_
  refine TO_step rfl (S_to rfl rfl (V_extract rfl rfl rfl)) ?_
  refine TO_step rfl (S_to rfl rfl (V_extract rfl rfl rfl)) ?_
  refine TO_step rfl (S_to rfl rfl (V_extract rfl rfl rfl)) ?_
  refine TO_step rfl (S_to rfl rfl (V_assign rfl rfl)) ?_
  refine TO_step rfl (S_to rfl rfl (V_assign rfl rfl)) ?_
  refine TO_step rfl (S_to rfl rfl (V_assign rfl rfl)) ?_
  refine TO_nil ?_
  refine TS_seq ?_
  refine TS_region ?_
  refine TO_step rfl (S_to rfl rfl (V_move rfl rfl)) ?_
  refine TO_step rfl (S_to rfl rfl (V_move rfl rfl)) ?_
  refine TO_step rfl (S_lit (l := ([y1.1] : List (List UInt8))) (row := row9) rfl rfl se52 rfl rfl rfl zr9 rfl) ?_
  obtain ⟨x2, hx2, h⟩ := obind_some h
  refine TO_step rfl (S_appM (row := row9) ⟨_, rfl, rfl, rfl, rfl⟩ rfl se52 rfl rfl rfl rz9 ap9 hx2 rfl) ?_
  refine TO_step rfl (S_to rfl rfl (V_assign rfl rfl)) ?_
  refine TO_nil ?_
  refine TS_seq ?_
  refine TS_seq ?_
  refine TS_region ?_
  refine TO_step rfl (S_to rfl rfl (V_move rfl rfl)) ?_
  refine TO_step rfl (S_to rfl rfl (V_un rfl rfl u_not)) ?_
  refine TO_nil ?_
  rcases cond_some h with ⟨hb3, h⟩ | ⟨hb3, h⟩
  · refine TS_true rfl hb3 ?_
    refine TS_exit ?_
    refine UX_c ?_
    refine UX_ne rfl ?_
    refine UX_up ?_
    exact UX_less (.inl rfl) (kx0_0 _ (Option.some.inj h).symm) ⟨⟨.inr rfl, trivial⟩, ⟨_, rfl⟩, rfl, rfl, rfl⟩
  · refine TS_false rfl hb3 ?_
    refine TS_skip ?_
    refine TS_region ?_
    refine TO_step rfl (S_to rfl rfl (V_move rfl rfl)) ?_
    refine TO_step rfl (S_to rfl rfl (V_assign rfl rfl)) ?_
    refine TO_nil ?_
    refine TS_b ?_
    exact TS_nil ⟨_, h, ⟨⟨.inr rfl, .inr rfl, trivial⟩, ⟨_, rfl⟩, rfl, rfl, rfl⟩⟩
end Go.Gen
