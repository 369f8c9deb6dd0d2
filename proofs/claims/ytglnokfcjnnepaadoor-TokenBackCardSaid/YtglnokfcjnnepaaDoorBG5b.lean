/- Functions of the program as functions of Lean's; printed by a program. -/
import Derived.Test.YtglnokfcjnnepaaDoorBG5a
namespace Go.Gen
open Go Go.Vm Go.Proofs
set_option maxRecDepth 100000
set_option maxHeartbeats 4000000
set_option linter.unusedVariables false

-- sieveholes/pos.Place
def F17_L8 (x7 : (List (List UInt8))) : Nat → (Int × Int) → Option (LO (Int × Bool) (Int))
  | 0, _ => none
  | m8 + 1, s8 => cond ((ltI s8.1 ((lenL x7)))) (obind (getL x7 s8.1) fun x10 => F17_L8 x7 m8 ((addI .i64 s8.1 1), (addI .i64 s8.2 ((addI .i64 ((lenL x10)) 1))))) (some (.out s8.2))
def F17 (n : Nat) (t0 : (List UInt8)) (t1 : S25) : Option (Int × Bool) := obind (F28 n t0) fun y0 => obind (cond ((ltI t1.f_Line 1)) (some true) (cond ((ltI ((lenL y0)) t1.f_Line)) (some true) (cond ((ltI t1.f_Col 1)) (some true) (obind (getL y0 ((subI .i64 t1.f_Line 1))) fun x5 => some ((ltI ((addI .i64 ((lenL x5)) 1)) t1.f_Col)))))) fun (v1 : (Bool)) => cond v1 (some (0, false)) (obind (cutL y0 0 ((subI .i64 t1.f_Line 1))) fun x7 => obind (F17_L8 x7 n (0, (subI .i64 t1.f_Col 1))) fun out8 => match out8 with | .ret _ => none | .out v11 => some (v11, true))
theorem F17_ok (n : Nat) (t0 : (List UInt8)) (t1 : S25) (o : (Int × Bool)) (h : F17 n t0 t1 = some o) : PureC Tryd.prog Z 17 [(str t0), (.agg [(.sc (.int .i64 t1.f_Line)), (.sc (.int .i64 t1.f_Col))])] (.tup [(.sc (.int .i64 o.1)), (tb o.2)]) := by
  refine pure_of_TS fn17 rfl (N := 60) rfl rfl fun B g0 q0 => ?_
  unfold F17 at h
  refine TS_seq ?_
  refine TS_region ?_
  refine TO_step rfl (S_boxE rfl rfl rfl (show _ = some [(.d (.sc (.int .i64 t1.f_Line))), (.d (.sc (.int .i64 t1.f_Col)))] from rfl) rfl rfl (show _ = [.box 25 [(.d (.sc (.int .i64 t1.f_Line))), (.d (.sc (.int .i64 t1.f_Col)))]] from rfl)) ?_
  refine TO_step rfl (S_to rfl rfl (V_assign rfl rfl)) ?_
  refine TO_step rfl (S_to rfl rfl (V_assign rfl rfl)) ?_
  refine TO_nil ?_
  refine TS_seq ?_
  refine TS_region ?_
  refine TO_step rfl (S_to rfl rfl (V_move rfl rfl)) ?_
  obtain ⟨y0, hy0, h⟩ := obind_some h
  refine TO_step rfl (S_st (S_call rfl rfl rfl rfl bd28 (F28_ok n t0 y0 hy0)) rfl rfl) ?_
  refine TO_step rfl (S_to rfl rfl (V_assign rfl rfl)) ?_
  refine TO_nil ?_
  refine TS_seq ?_
  refine TS_seq ?_
  obtain ⟨v1, hv1, h⟩ := obind_some h
  refine TS_join (fun (v : (Bool)) => [(39, (.d (tb v))), (6, (.d (.sl (y0.map row9)))), (3, (.ptr 0 0 0))]) (fun (v : (Bool)) => [.box 25 [(.d (.sc (.int .i64 t1.f_Line))), (.d (.sc (.int .i64 t1.f_Col)))]]) v1 (.inl rfl) ?_ ?_
  · rcases cond_some h with ⟨hb6, h⟩ | ⟨hb6, h⟩
    · refine TS_true rfl hb6 ?_
      refine TS_seq ?_
      refine TS_region ?_
      refine TO_step rfl (S_to rfl rfl (V_assign rfl rfl)) ?_
      refine TO_step rfl (S_to rfl rfl (V_assign rfl rfl)) ?_
      refine TO_nil ?_
      refine TS_ret ?_
      cases h
      exact ⟨trivial, _, _, (resEs_cons (resE_tmp rfl rfl) (resEs_cons (resE_tmp rfl rfl) resEs_nil)), rfl, (Wk.refl _)⟩
    · refine TS_false rfl hb6 ?_
      refine TS_skip ?_
      refine TS_seq ?_
      refine TS_region ?_
      refine TO_step rfl (S_to rfl rfl (V_fieldAddr rfl rfl (fap25_1 _ _ _))) ?_
      refine TO_step rfl (S_to rfl rfl (V_loadB rfl rfl rfl (loadB_one ok3 ag3 rfl))) ?_
      refine TO_step rfl (S_to rfl rfl (V_bin rfl rfl rfl b_sub)) ?_
      refine TO_step rfl (S_to rfl rfl (V_assign rfl rfl)) ?_
      refine TO_nil ?_
      refine TS_seq ?_
      refine TS_seq ?_
      refine TS_region ?_
      refine TO_step rfl (S_to rfl rfl (V_move rfl rfl)) ?_
      refine TO_step rfl (S_to rfl rfl (V_fieldAddr rfl rfl (fap25_0 _ _ _))) ?_
      refine TO_step rfl (S_to rfl rfl (V_loadB rfl rfl rfl (loadB_one ok3 ag3 rfl))) ?_
      refine TO_step rfl (S_to rfl rfl (V_bin rfl rfl rfl b_sub)) ?_
      obtain ⟨x7, hx7, h⟩ := obind_some h
      refine TO_step rfl (S_to rfl rfl (V_cutM (row := row9) rfl se52 if9 rfl rfl rz9 rfl rfl hx7)) ?_
      refine TO_step rfl (S_to rfl rfl (V_lenM (row := row9) ⟨_, rfl, rfl, rfl, rfl⟩ se52 rfl rfl)) ?_
      refine TO_step rfl (S_to rfl rfl (V_move rfl rfl)) ?_
      refine TO_nil ?_
      refine TS_block ?_
      obtain ⟨out8, hL8, h⟩ := obind_some h
      refine TS_cont (id := 0) (fun (v : (Int)) => out8 = .out v) (fun (v : (Int)) => [(7, (.d (.sc (.int .i64 v))))]) (fun (v : (Int)) => [.box 25 [(.d (.sc (.int .i64 t1.f_Line))), (.d (.sc (.int .i64 t1.f_Col)))]]) ?_ fun kx8_0 => ?_
      · rintro v11 rfl
        try dsimp only at h
        refine UX_eq ?_
        refine TS_seq ?_
        refine TS_region ?_
        refine TO_step rfl (S_to rfl rfl (V_move rfl rfl)) ?_
        refine TO_step rfl (S_to rfl rfl (V_assign rfl rfl)) ?_
        refine TO_step rfl (S_to rfl rfl (V_assign rfl rfl)) ?_
        refine TO_nil ?_
        refine TS_ret ?_
        cases h
        exact ⟨trivial, _, _, (resEs_cons (resE_tmp rfl rfl) (resEs_cons (resE_tmp rfl rfl) resEs_nil)), rfl, (Wk.refl _)⟩
      refine TS_loop (F17_L8 x7) (fun (s : (Int × Int)) => [(7, (.d (.sc (.int .i64 s.2)))), (49, (.d (.sc (.int .i64 s.1)))), (48, (.d (.sc (.int .i64 ((lenL x7)))))), (47, (.d (.sl (x7.map row9))))]) (fun (s : (Int × Int)) => [.box 25 [(.d (.sc (.int .i64 t1.f_Line))), (.d (.sc (.int .i64 t1.f_Col)))]]) out8 hL8 ⟨⟨.inr rfl, .inr rfl, .inr rfl, .inr rfl, trivial⟩, ⟨_, rfl⟩, rfl, rfl, rfl⟩ (fun _ => rfl) fun m8 s8 h => ?_
      rw [F17_L8] at h
      refine TS_seq ?_
      refine TS_region ?_
      refine TO_step rfl (S_to rfl rfl (V_bin rfl rfl rfl b_lss)) ?_
      refine TO_nil ?_
      refine TS_seq ?_
      rcases cond_some h with ⟨hb9, h⟩ | ⟨hb9, h⟩
      · refine TS_true rfl hb9 ?_
        refine TS_skip ?_
        refine TS_seq ?_
        refine TS_block ?_
        refine TS_seq ?_
        refine TS_region ?_
        obtain ⟨x10, hx10, h⟩ := obind_some h
        refine TO_step rfl (S_to rfl rfl (V_idxA (row := row9) rfl se52 if9 rfl rfl rfl hx10 rfl)) ?_
        refine TO_step rfl (S_to rfl rfl (V_loadR rfl rfl (map_get hx10) (loadD_one ok9 ag9 rfl))) ?_
        refine TO_step rfl (S_to rfl rfl (V_assign rfl rfl)) ?_
        refine TO_nil ?_
        refine TS_region ?_
        refine TO_step rfl (S_to rfl rfl (V_move rfl rfl)) ?_
        refine TO_step rfl (S_to rfl rfl (V_move rfl rfl)) ?_
        refine TO_step rfl (S_to rfl rfl (V_lenS ⟨_, rfl, rfl, rfl, rfl⟩ Tryd.underlying9 rfl)) ?_
        refine TO_step rfl (S_to rfl rfl (V_bin rfl rfl rfl b_add)) ?_
        refine TO_step rfl (S_to rfl rfl (V_bin rfl rfl rfl b_add)) ?_
        refine TO_step rfl (S_to rfl rfl (V_assign rfl rfl)) ?_
        refine TO_nil ?_
        refine TS_b ?_
        refine TS_region ?_
        refine TO_step rfl (S_to rfl rfl (V_bin rfl rfl rfl b_add)) ?_
        refine TO_step rfl (S_to rfl rfl (V_move rfl rfl)) ?_
        refine TO_nil ?_
        exact TS_nil ⟨_, h, ⟨⟨.inr rfl, .inr rfl, .inr rfl, .inr rfl, trivial⟩, ⟨_, rfl⟩, rfl, rfl, rfl⟩⟩
      · refine TS_false rfl hb9 ?_
        refine TS_exit ?_
        refine UX_c ?_
        refine UX_up ?_
        exact UX_less (.inl rfl) (kx8_0 _ (Option.some.inj h).symm) ⟨⟨.inr rfl, trivial⟩, ⟨_, rfl⟩, rfl, rfl, rfl⟩
  · have h := hv1
    rcases cond_some h with ⟨hb2, h⟩ | ⟨hb2, h⟩
    · refine TS_draw (envF_ok (L := []) (fun x hx => by cases hx)) (by kernel_rfl : Tryd.prog.follows .mixedOrders = true) (by decide +kernel) ?_
      refine TD_step rfl (D_V rfl (V_fieldAddr rfl rfl (fap25_0 _ _ _))) ((foot_mk _ _).trans (show _ = Foot.no from rfl)) ?_
      refine TD_step rfl (D_V rfl (V_loadB rfl rfl rfl (loadB_one ok3 ag3 rfl))) ((foot_mk _ _).trans (show _ = Foot.rd 0 from rfl)) ?_
      refine TD_step rfl (D_V rfl (V_bin rfl rfl rfl b_lss)) ((foot_mk _ _).trans (show _ = Foot.no from rfl)) ?_
      refine TD_step rfl (D_V rfl (V_move rfl rfl)) ((foot_mk _ _).trans (show _ = Foot.no from rfl)) ?_
      refine TD_skip rfl rfl rfl rfl hb2 ?_
      refine TD_skip rfl rfl rfl rfl hb2 ?_
      refine TD_skip rfl rfl rfl rfl hb2 ?_
      refine TD_skip rfl rfl rfl rfl hb2 ?_
      refine TD_skip rfl rfl rfl rfl hb2 ?_
      refine TD_step rfl (D_V rfl (V_pickT rfl rfl hb2 rfl rfl)) ((foot_mk _ _).trans (show _ = Foot.no from rfl)) ?_
      refine TD_step rfl (D_V rfl (V_move rfl rfl)) ((foot_mk _ _).trans (show _ = Foot.no from rfl)) ?_
      refine TD_skip rfl rfl rfl rfl rfl ?_
      refine TD_skip rfl rfl rfl rfl rfl ?_
      refine TD_skip rfl rfl rfl rfl rfl ?_
      refine TD_step rfl (D_V rfl (V_pickT rfl rfl rfl rfl rfl)) ((foot_mk _ _).trans (show _ = Foot.no from rfl)) ?_
      refine TD_step rfl (D_V rfl (V_move rfl rfl)) ((foot_mk _ _).trans (show _ = Foot.no from rfl)) ?_
      refine TD_skip rfl rfl rfl rfl rfl ?_
      refine TD_skip rfl rfl rfl rfl rfl ?_
      refine TD_skip rfl rfl rfl rfl rfl ?_
      refine TD_skip rfl rfl rfl rfl rfl ?_
      refine TD_skip rfl rfl rfl rfl rfl ?_
      refine TD_skip rfl rfl rfl rfl rfl ?_
      refine TD_skip rfl rfl rfl rfl rfl ?_
      refine TD_skip rfl rfl rfl rfl rfl ?_
      refine TD_skip rfl rfl rfl rfl rfl ?_
      refine TD_skip rfl rfl rfl rfl rfl ?_
      refine TD_skip rfl rfl rfl rfl rfl ?_
      refine TD_step rfl (D_V rfl (V_pickT rfl rfl rfl rfl rfl)) ((foot_mk _ _).trans (show _ = Foot.no from rfl)) ?_
      refine TD_nil ⟨by decide +kernel, ?_⟩
      exact TS_nil ⟨_, Option.some.inj h, ⟨⟨.inr rfl, .inr rfl, .inr rfl, trivial⟩, ⟨_, rfl⟩, rfl, rfl, rfl⟩⟩
    · rcases cond_some h with ⟨hb3, h⟩ | ⟨hb3, h⟩
      · refine TS_draw (envF_ok (L := []) (fun x hx => by cases hx)) (by kernel_rfl : Tryd.prog.follows .mixedOrders = true) (by decide +kernel) ?_
        refine TD_step rfl (D_V rfl (V_fieldAddr rfl rfl (fap25_0 _ _ _))) ((foot_mk _ _).trans (show _ = Foot.no from rfl)) ?_
        refine TD_step rfl (D_V rfl (V_loadB rfl rfl rfl (loadB_one ok3 ag3 rfl))) ((foot_mk _ _).trans (show _ = Foot.rd 0 from rfl)) ?_
        refine TD_step rfl (D_V rfl (V_bin rfl rfl rfl b_lss)) ((foot_mk _ _).trans (show _ = Foot.no from rfl)) ?_
        refine TD_step rfl (D_V rfl (V_move rfl rfl)) ((foot_mk _ _).trans (show _ = Foot.no from rfl)) ?_
        refine TD_stepG rfl rfl rfl rfl hb2 (D_V rfl (V_fieldAddr rfl rfl (fap25_0 _ _ _))) ((foot_mk _ _).trans (show _ = Foot.no from rfl)) ?_
        refine TD_stepG rfl rfl rfl rfl hb2 (D_V rfl (V_loadB rfl rfl rfl (loadB_one ok3 ag3 rfl))) ((foot_mk _ _).trans (show _ = Foot.rd 0 from rfl)) ?_
        refine TD_stepG rfl rfl rfl rfl hb2 (D_V rfl (V_move rfl rfl)) ((foot_mk _ _).trans (show _ = Foot.no from rfl)) ?_
        refine TD_stepG rfl rfl rfl rfl hb2 (D_V rfl (V_lenM (row := row9) ⟨_, rfl, rfl, rfl, rfl⟩ se52 rfl rfl)) ((foot_mk _ _).trans (show _ = Foot.no from rfl)) ?_
        refine TD_stepG rfl rfl rfl rfl hb2 (D_V rfl (V_bin rfl rfl rfl b_gtr)) ((foot_mk _ _).trans (show _ = Foot.no from rfl)) ?_
        refine TD_step rfl (D_V rfl (V_pickF rfl rfl hb2 rfl rfl)) ((foot_mk _ _).trans (show _ = Foot.no from rfl)) ?_
        refine TD_step rfl (D_V rfl (V_move rfl rfl)) ((foot_mk _ _).trans (show _ = Foot.no from rfl)) ?_
        refine TD_skip rfl rfl rfl rfl hb3 ?_
        refine TD_skip rfl rfl rfl rfl hb3 ?_
        refine TD_skip rfl rfl rfl rfl hb3 ?_
        refine TD_step rfl (D_V rfl (V_pickT rfl rfl hb3 rfl rfl)) ((foot_mk _ _).trans (show _ = Foot.no from rfl)) ?_
        refine TD_step rfl (D_V rfl (V_move rfl rfl)) ((foot_mk _ _).trans (show _ = Foot.no from rfl)) ?_
        refine TD_skip rfl rfl rfl rfl rfl ?_
        refine TD_skip rfl rfl rfl rfl rfl ?_
        refine TD_skip rfl rfl rfl rfl rfl ?_
        refine TD_skip rfl rfl rfl rfl rfl ?_
        refine TD_skip rfl rfl rfl rfl rfl ?_
        refine TD_skip rfl rfl rfl rfl rfl ?_
        refine TD_skip rfl rfl rfl rfl rfl ?_
        refine TD_skip rfl rfl rfl rfl rfl ?_
        refine TD_skip rfl rfl rfl rfl rfl ?_
        refine TD_skip rfl rfl rfl rfl rfl ?_
        refine TD_skip rfl rfl rfl rfl rfl ?_
        refine TD_step rfl (D_V rfl (V_pickT rfl rfl rfl rfl rfl)) ((foot_mk _ _).trans (show _ = Foot.no from rfl)) ?_
        refine TD_nil ⟨by decide +kernel, ?_⟩
        exact TS_nil ⟨_, Option.some.inj h, ⟨⟨.inr rfl, .inr rfl, .inr rfl, trivial⟩, ⟨_, rfl⟩, rfl, rfl, rfl⟩⟩
      · rcases cond_some h with ⟨hb4, h⟩ | ⟨hb4, h⟩
        · refine TS_draw (envF_ok (L := []) (fun x hx => by cases hx)) (by kernel_rfl : Tryd.prog.follows .mixedOrders = true) (by decide +kernel) ?_
          refine TD_step rfl (D_V rfl (V_fieldAddr rfl rfl (fap25_0 _ _ _))) ((foot_mk _ _).trans (show _ = Foot.no from rfl)) ?_
          refine TD_step rfl (D_V rfl (V_loadB rfl rfl rfl (loadB_one ok3 ag3 rfl))) ((foot_mk _ _).trans (show _ = Foot.rd 0 from rfl)) ?_
          refine TD_step rfl (D_V rfl (V_bin rfl rfl rfl b_lss)) ((foot_mk _ _).trans (show _ = Foot.no from rfl)) ?_
          refine TD_step rfl (D_V rfl (V_move rfl rfl)) ((foot_mk _ _).trans (show _ = Foot.no from rfl)) ?_
          refine TD_stepG rfl rfl rfl rfl hb2 (D_V rfl (V_fieldAddr rfl rfl (fap25_0 _ _ _))) ((foot_mk _ _).trans (show _ = Foot.no from rfl)) ?_
          refine TD_stepG rfl rfl rfl rfl hb2 (D_V rfl (V_loadB rfl rfl rfl (loadB_one ok3 ag3 rfl))) ((foot_mk _ _).trans (show _ = Foot.rd 0 from rfl)) ?_
          refine TD_stepG rfl rfl rfl rfl hb2 (D_V rfl (V_move rfl rfl)) ((foot_mk _ _).trans (show _ = Foot.no from rfl)) ?_
          refine TD_stepG rfl rfl rfl rfl hb2 (D_V rfl (V_lenM (row := row9) ⟨_, rfl, rfl, rfl, rfl⟩ se52 rfl rfl)) ((foot_mk _ _).trans (show _ = Foot.no from rfl)) ?_
          refine TD_stepG rfl rfl rfl rfl hb2 (D_V rfl (V_bin rfl rfl rfl b_gtr)) ((foot_mk _ _).trans (show _ = Foot.no from rfl)) ?_
          refine TD_step rfl (D_V rfl (V_pickF rfl rfl hb2 rfl rfl)) ((foot_mk _ _).trans (show _ = Foot.no from rfl)) ?_
          refine TD_step rfl (D_V rfl (V_move rfl rfl)) ((foot_mk _ _).trans (show _ = Foot.no from rfl)) ?_
          refine TD_stepG rfl rfl rfl rfl hb3 (D_V rfl (V_fieldAddr rfl rfl (fap25_1 _ _ _))) ((foot_mk _ _).trans (show _ = Foot.no from rfl)) ?_
          refine TD_stepG rfl rfl rfl rfl hb3 (D_V rfl (V_loadB rfl rfl rfl (loadB_one ok3 ag3 rfl))) ((foot_mk _ _).trans (show _ = Foot.rd 0 from rfl)) ?_
          refine TD_stepG rfl rfl rfl rfl hb3 (D_V rfl (V_bin rfl rfl rfl b_lss)) ((foot_mk _ _).trans (show _ = Foot.no from rfl)) ?_
          refine TD_step rfl (D_V rfl (V_pickF rfl rfl hb3 rfl rfl)) ((foot_mk _ _).trans (show _ = Foot.no from rfl)) ?_
          refine TD_step rfl (D_V rfl (V_move rfl rfl)) ((foot_mk _ _).trans (show _ = Foot.no from rfl)) ?_
          refine TD_skip rfl rfl rfl rfl hb4 ?_
          refine TD_skip rfl rfl rfl rfl hb4 ?_
          refine TD_skip rfl rfl rfl rfl hb4 ?_
          refine TD_skip rfl rfl rfl rfl hb4 ?_
          refine TD_skip rfl rfl rfl rfl hb4 ?_
          refine TD_skip rfl rfl rfl rfl hb4 ?_
          refine TD_skip rfl rfl rfl rfl hb4 ?_
          refine TD_skip rfl rfl rfl rfl hb4 ?_
          refine TD_skip rfl rfl rfl rfl hb4 ?_
          refine TD_skip rfl rfl rfl rfl hb4 ?_
          refine TD_skip rfl rfl rfl rfl hb4 ?_
          refine TD_step rfl (D_V rfl (V_pickT rfl rfl hb4 rfl rfl)) ((foot_mk _ _).trans (show _ = Foot.no from rfl)) ?_
          refine TD_nil ⟨by decide +kernel, ?_⟩
          exact TS_nil ⟨_, Option.some.inj h, ⟨⟨.inr rfl, .inr rfl, .inr rfl, trivial⟩, ⟨_, rfl⟩, rfl, rfl, rfl⟩⟩
        · obtain ⟨x5, hx5, h⟩ := obind_some h
          refine TS_draw (envF_ok (L := []) (fun x hx => by cases hx)) (by kernel_rfl : Tryd.prog.follows .mixedOrders = true) (by decide +kernel) ?_
          refine TD_step rfl (D_V rfl (V_fieldAddr rfl rfl (fap25_0 _ _ _))) ((foot_mk _ _).trans (show _ = Foot.no from rfl)) ?_
          refine TD_step rfl (D_V rfl (V_loadB rfl rfl rfl (loadB_one ok3 ag3 rfl))) ((foot_mk _ _).trans (show _ = Foot.rd 0 from rfl)) ?_
          refine TD_step rfl (D_V rfl (V_bin rfl rfl rfl b_lss)) ((foot_mk _ _).trans (show _ = Foot.no from rfl)) ?_
          refine TD_step rfl (D_V rfl (V_move rfl rfl)) ((foot_mk _ _).trans (show _ = Foot.no from rfl)) ?_
          refine TD_stepG rfl rfl rfl rfl hb2 (D_V rfl (V_fieldAddr rfl rfl (fap25_0 _ _ _))) ((foot_mk _ _).trans (show _ = Foot.no from rfl)) ?_
          refine TD_stepG rfl rfl rfl rfl hb2 (D_V rfl (V_loadB rfl rfl rfl (loadB_one ok3 ag3 rfl))) ((foot_mk _ _).trans (show _ = Foot.rd 0 from rfl)) ?_
          refine TD_stepG rfl rfl rfl rfl hb2 (D_V rfl (V_move rfl rfl)) ((foot_mk _ _).trans (show _ = Foot.no from rfl)) ?_
          refine TD_stepG rfl rfl rfl rfl hb2 (D_V rfl (V_lenM (row := row9) ⟨_, rfl, rfl, rfl, rfl⟩ se52 rfl rfl)) ((foot_mk _ _).trans (show _ = Foot.no from rfl)) ?_
          refine TD_stepG rfl rfl rfl rfl hb2 (D_V rfl (V_bin rfl rfl rfl b_gtr)) ((foot_mk _ _).trans (show _ = Foot.no from rfl)) ?_
          refine TD_step rfl (D_V rfl (V_pickF rfl rfl hb2 rfl rfl)) ((foot_mk _ _).trans (show _ = Foot.no from rfl)) ?_
          refine TD_step rfl (D_V rfl (V_move rfl rfl)) ((foot_mk _ _).trans (show _ = Foot.no from rfl)) ?_
          refine TD_stepG rfl rfl rfl rfl hb3 (D_V rfl (V_fieldAddr rfl rfl (fap25_1 _ _ _))) ((foot_mk _ _).trans (show _ = Foot.no from rfl)) ?_
          refine TD_stepG rfl rfl rfl rfl hb3 (D_V rfl (V_loadB rfl rfl rfl (loadB_one ok3 ag3 rfl))) ((foot_mk _ _).trans (show _ = Foot.rd 0 from rfl)) ?_
          refine TD_stepG rfl rfl rfl rfl hb3 (D_V rfl (V_bin rfl rfl rfl b_lss)) ((foot_mk _ _).trans (show _ = Foot.no from rfl)) ?_
          refine TD_step rfl (D_V rfl (V_pickF rfl rfl hb3 rfl rfl)) ((foot_mk _ _).trans (show _ = Foot.no from rfl)) ?_
          refine TD_step rfl (D_V rfl (V_move rfl rfl)) ((foot_mk _ _).trans (show _ = Foot.no from rfl)) ?_
          refine TD_stepG rfl rfl rfl rfl hb4 (D_V rfl (V_fieldAddr rfl rfl (fap25_1 _ _ _))) ((foot_mk _ _).trans (show _ = Foot.no from rfl)) ?_
          refine TD_stepG rfl rfl rfl rfl hb4 (D_V rfl (V_loadB rfl rfl rfl (loadB_one ok3 ag3 rfl))) ((foot_mk _ _).trans (show _ = Foot.rd 0 from rfl)) ?_
          refine TD_stepG rfl rfl rfl rfl hb4 (D_V rfl (V_move rfl rfl)) ((foot_mk _ _).trans (show _ = Foot.no from rfl)) ?_
          refine TD_stepG rfl rfl rfl rfl hb4 (D_V rfl (V_fieldAddr rfl rfl (fap25_0 _ _ _))) ((foot_mk _ _).trans (show _ = Foot.no from rfl)) ?_
          refine TD_stepG rfl rfl rfl rfl hb4 (D_V rfl (V_loadB rfl rfl rfl (loadB_one ok3 ag3 rfl))) ((foot_mk _ _).trans (show _ = Foot.rd 0 from rfl)) ?_
          refine TD_stepG rfl rfl rfl rfl hb4 (D_V rfl (V_bin rfl rfl rfl b_sub)) ((foot_mk _ _).trans (show _ = Foot.no from rfl)) ?_
          refine TD_stepG rfl rfl rfl rfl hb4 (D_V rfl (V_idxA (row := row9) rfl se52 if9 rfl rfl rfl hx5 rfl)) ((foot_mk _ _).trans (show _ = Foot.no from rfl)) ?_
          refine TD_stepG rfl rfl rfl rfl hb4 (D_V rfl (V_loadR rfl rfl (map_get hx5) (loadD_one ok9 ag9 rfl))) ((foot_mk _ _).trans (show _ = Foot.no from rfl)) ?_
          refine TD_stepG rfl rfl rfl rfl hb4 (D_V rfl (V_lenS ⟨_, rfl, rfl, rfl, rfl⟩ Tryd.underlying9 rfl)) ((foot_mk _ _).trans (show _ = Foot.no from rfl)) ?_
          refine TD_stepG rfl rfl rfl rfl hb4 (D_V rfl (V_bin rfl rfl rfl b_add)) ((foot_mk _ _).trans (show _ = Foot.no from rfl)) ?_
          refine TD_stepG rfl rfl rfl rfl hb4 (D_V rfl (V_bin rfl rfl rfl b_gtr)) ((foot_mk _ _).trans (show _ = Foot.no from rfl)) ?_
          refine TD_step rfl (D_V rfl (V_pickF rfl rfl hb4 rfl rfl)) ((foot_mk _ _).trans (show _ = Foot.no from rfl)) ?_
          refine TD_nil ⟨by decide +kernel, ?_⟩
          exact TS_nil ⟨_, Option.some.inj h, ⟨⟨.inr rfl, .inr rfl, .inr rfl, trivial⟩, ⟨_, rfl⟩, rfl, rfl, rfl⟩⟩
-- sieveholes/sieveholeslaw05.gap
def F18_L0 (t0 : (List UInt8)) : Nat → (Int × Bool) → Option (LO (Bool) Unit)
  | 0, _ => none
  | m0 + 1, s0 => cond ((ltI s0.1 ((lenL t0)))) (obind (idxS t0 s0.1) fun x2 => obind (cond ((eqI x2 35)) (some true) (some s0.2)) fun (v3 : (Bool)) => obind (cond (!v3) (cond ((!(eqI x2 9))) (cond ((!(eqI x2 10))) (cond ((!(eqI x2 13))) (some ((!(eqI x2 32)))) (some false)) (some false)) (some false)) (some false)) fun (v5 : (Bool)) => cond v5 (some (.ret false)) (obind (cond ((eqI x2 10)) (some false) (some v3)) fun (v11 : (Bool)) => F18_L0 t0 m0 ((addI .i64 s0.1 1), v11))) (some (.out ()))
def F18 (n : Nat) (t0 : (List UInt8)) : Option (Bool) := obind (F18_L0 t0 n (0, false)) fun out0 => match out0 with | .ret r => some r | .out v13 => some true
theorem F18_ok (n : Nat) (t0 : (List UInt8)) (o : (Bool)) (h : F18 n t0 = some o) : PureC Tryd.prog Z 18 [(str t0)] (tb o) := by
  refine pure_of_TS fn18 rfl (N := 37) rfl rfl fun B g0 q0 => ?_
  unfold F18 at h
  refine TS_seq ?_
  refine TS_region ?_
  refine TO_step rfl (S_to rfl rfl (V_assign rfl rfl)) ?_
  refine TO_nil ?_
  refine TS_seq ?_
  refine TS_region ?_
  refine TO_step rfl (S_to rfl rfl (V_assign rfl rfl)) ?_
  refine TO_nil ?_
  refine TS_seq ?_
  refine TS_seq ?_
  refine TS_region ?_
  refine TO_step rfl (S_to rfl rfl (V_assign rfl rfl)) ?_
  refine TO_nil ?_
  refine TS_block ?_
  obtain ⟨out0, hL0, h⟩ := obind_some h
  have kr0 : ∀ r, out0 = .ret r → some r = some o := by rintro r rfl; exact h
  refine TS_cont (id := 0) (fun (v : Unit) => out0 = .out v) (fun (v : Unit) => []) (fun (v : Unit) => []) ?_ fun kx0_0 => ?_
  · rintro v13 rfl
    try dsimp only at h
    refine UX_eq ?_
    refine TS_seq ?_
    refine TS_region ?_
    refine TO_step rfl (S_to rfl rfl (V_assign rfl rfl)) ?_
    refine TO_nil ?_
    refine TS_ret ?_
    cases h
    exact ⟨trivial, _, _, (resEs_cons (resE_tmp rfl rfl) resEs_nil), rfl, (Wk.refl _)⟩
  refine TS_loop (F18_L0 t0) (fun (s : (Int × Bool)) => [(3, (.d (tb s.2))), (4, (.d (.sc (.int .i64 s.1)))), (0, (.d (str t0)))]) (fun (s : (Int × Bool)) => []) out0 hL0 ⟨⟨.inr rfl, .inr rfl, .inr rfl, trivial⟩, ⟨_, rfl⟩, rfl, rfl, rfl⟩ (fun _ => rfl) fun m0 s0 h => ?_
  rw [F18_L0] at h
  refine TS_seq ?_
  refine TS_seq ?_
  refine TS_region ?_
  refine TO_step rfl (S_to rfl rfl (V_move rfl rfl)) ?_
  refine TO_step rfl (S_to rfl rfl (V_move rfl rfl)) ?_
  refine TO_step rfl (S_to rfl rfl (V_lenS ⟨_, rfl, rfl, rfl, rfl⟩ Tryd.underlying9 rfl)) ?_
  refine TO_step rfl (S_to rfl rfl (V_bin rfl rfl rfl b_lss)) ?_
  refine TO_nil ?_
  rcases cond_some h with ⟨hb1, h⟩ | ⟨hb1, h⟩
  · refine TS_true rfl hb1 ?_
    refine TS_skip ?_
    refine TS_seq ?_
    refine TS_block ?_
    refine TS_seq ?_
    refine TS_region ?_
    refine TO_step rfl (S_to rfl rfl (V_move rfl rfl)) ?_
    refine TO_step rfl (S_to rfl rfl (V_move rfl rfl)) ?_
    obtain ⟨x2, hx2, h⟩ := obind_some h
    refine TO_step rfl (S_to rfl rfl (V_idxS rfl Tryd.underlying9 rfl rfl hx2)) ?_
    refine TO_step rfl (S_to rfl rfl (V_assign rfl rfl)) ?_
    refine TO_nil ?_
    refine TS_seq ?_
    refine TS_seq ?_
    refine TS_region ?_
    refine TO_step rfl (S_to rfl rfl (V_move rfl rfl)) ?_
    refine TO_step rfl (S_to rfl rfl (V_bin rfl rfl rfl b_eql)) ?_
    refine TO_nil ?_
    obtain ⟨v3, hv3, h⟩ := obind_some h
    refine TS_join (fun (v : (Bool)) => [(3, (.d (tb v))), (5, (.d (.sc (.int .u8 x2)))), (4, (.d (.sc (.int .i64 s0.1)))), (0, (.d (str t0)))]) (fun (v : (Bool)) => []) v3 (.inl rfl) ?_ ?_
    · refine TS_seq ?_
      refine TS_seq ?_
      obtain ⟨v5, hv5, h⟩ := obind_some h
      refine TS_join (fun (v : (Bool)) => [(34, (.d (tb v))), (3, (.d (tb v3))), (5, (.d (.sc (.int .u8 x2)))), (4, (.d (.sc (.int .i64 s0.1)))), (0, (.d (str t0)))]) (fun (v : (Bool)) => []) v5 (.inl rfl) ?_ ?_
      · rcases cond_some h with ⟨hb10, h⟩ | ⟨hb10, h⟩
        · refine TS_true rfl hb10 ?_
          refine TS_seq ?_
          refine TS_region ?_
          refine TO_step rfl (S_to rfl rfl (V_assign rfl rfl)) ?_
          refine TO_nil ?_
          refine TS_ret ?_
          refine ret_up ?_
          have h := kr0 _ (Option.some.inj h).symm
          cases h
          exact ⟨trivial, _, _, (resEs_cons (resE_tmp rfl rfl) resEs_nil), rfl, (Wk.refl _)⟩
        · refine TS_false rfl hb10 ?_
          refine TS_skip ?_
          refine TS_seq ?_
          refine TS_region ?_
          refine TO_step rfl (S_to rfl rfl (V_move rfl rfl)) ?_
          refine TO_step rfl (S_to rfl rfl (V_bin rfl rfl rfl b_eql)) ?_
          refine TO_nil ?_
          obtain ⟨v11, hv11, h⟩ := obind_some h
          refine TS_join (fun (v : (Bool)) => [(3, (.d (tb v))), (4, (.d (.sc (.int .i64 s0.1)))), (0, (.d (str t0)))]) (fun (v : (Bool)) => []) v11 (.inl rfl) ?_ ?_
          · refine TS_b ?_
            refine TS_region ?_
            refine TO_step rfl (S_to rfl rfl (V_move rfl rfl)) ?_
            refine TO_step rfl (S_to rfl rfl (V_bin rfl rfl rfl b_add)) ?_
            refine TO_step rfl (S_to rfl rfl (V_assign rfl rfl)) ?_
            refine TO_nil ?_
            exact TS_nil ⟨_, h, ⟨⟨.inr rfl, .inr rfl, .inr rfl, trivial⟩, ⟨_, rfl⟩, rfl, rfl, rfl⟩⟩
          · have h := hv11
            rcases cond_some h with ⟨hb12, h⟩ | ⟨hb12, h⟩
            · refine TS_true rfl hb12 ?_
              refine TS_region ?_
              refine TO_step rfl (S_to rfl rfl (V_assign rfl rfl)) ?_
              refine TO_nil ?_
              exact TS_nil ⟨_, Option.some.inj h, ⟨⟨.inr rfl, .inr rfl, .inr rfl, trivial⟩, ⟨_, rfl⟩, rfl, rfl, rfl⟩⟩
            · refine TS_false rfl hb12 ?_
              refine TS_skip ?_
              exact TS_nil ⟨_, Option.some.inj h, ⟨⟨.inr rfl, .inr rfl, .inr rfl, trivial⟩, ⟨_, rfl⟩, rfl, rfl, rfl⟩⟩
      · have h := hv5
        refine TS_region ?_
        refine TO_step rfl (S_to rfl rfl (V_move rfl rfl)) ?_
        refine TO_step rfl (S_to rfl rfl (V_un rfl rfl u_not)) ?_
        refine TO_step rfl (S_to rfl rfl (V_move rfl rfl)) ?_
        rcases cond_some h with ⟨hb6, h⟩ | ⟨hb6, h⟩
        · refine TO_stepG rfl rfl rfl rfl hb6 (S_to rfl rfl (V_move rfl rfl)) ?_
          refine TO_stepG rfl rfl rfl rfl hb6 (S_to rfl rfl (V_bin rfl rfl rfl b_neq)) ?_
          refine TO_step rfl (S_to rfl rfl (V_pickT rfl rfl hb6 rfl rfl)) ?_
          refine TO_step rfl (S_to rfl rfl (V_move rfl rfl)) ?_
          rcases cond_some h with ⟨hb7, h⟩ | ⟨hb7, h⟩
          · refine TO_stepG rfl rfl rfl rfl hb7 (S_to rfl rfl (V_move rfl rfl)) ?_
            refine TO_stepG rfl rfl rfl rfl hb7 (S_to rfl rfl (V_bin rfl rfl rfl b_neq)) ?_
            refine TO_step rfl (S_to rfl rfl (V_pickT rfl rfl hb7 rfl rfl)) ?_
            refine TO_step rfl (S_to rfl rfl (V_move rfl rfl)) ?_
            rcases cond_some h with ⟨hb8, h⟩ | ⟨hb8, h⟩
            · refine TO_stepG rfl rfl rfl rfl hb8 (S_to rfl rfl (V_move rfl rfl)) ?_
              refine TO_stepG rfl rfl rfl rfl hb8 (S_to rfl rfl (V_bin rfl rfl rfl b_neq)) ?_
              refine TO_step rfl (S_to rfl rfl (V_pickT rfl rfl hb8 rfl rfl)) ?_
              refine TO_step rfl (S_to rfl rfl (V_move rfl rfl)) ?_
              rcases cond_some h with ⟨hb9, h⟩ | ⟨hb9, h⟩
              · refine TO_stepG rfl rfl rfl rfl hb9 (S_to rfl rfl (V_move rfl rfl)) ?_
                refine TO_stepG rfl rfl rfl rfl hb9 (S_to rfl rfl (V_bin rfl rfl rfl b_neq)) ?_
                refine TO_step rfl (S_to rfl rfl (V_pickT rfl rfl hb9 rfl rfl)) ?_
                refine TO_nil ?_
                exact TS_nil ⟨_, Option.some.inj h, ⟨⟨.inr rfl, .inr rfl, .inr rfl, .inr rfl, .inr rfl, trivial⟩, ⟨_, rfl⟩, rfl, rfl, rfl⟩⟩
              · refine TO_skip rfl rfl rfl rfl hb9 ?_
                refine TO_skip rfl rfl rfl rfl hb9 ?_
                refine TO_step rfl (S_to rfl rfl (V_pickF rfl rfl hb9 rfl rfl)) ?_
                refine TO_nil ?_
                exact TS_nil ⟨_, Option.some.inj h, ⟨⟨.inr rfl, .inr rfl, .inr rfl, .inr rfl, .inr rfl, trivial⟩, ⟨_, rfl⟩, rfl, rfl, rfl⟩⟩
            · refine TO_skip rfl rfl rfl rfl hb8 ?_
              refine TO_skip rfl rfl rfl rfl hb8 ?_
              refine TO_step rfl (S_to rfl rfl (V_pickF rfl rfl hb8 rfl rfl)) ?_
              refine TO_step rfl (S_to rfl rfl (V_move rfl rfl)) ?_
              refine TO_skip rfl rfl rfl rfl rfl ?_
              refine TO_skip rfl rfl rfl rfl rfl ?_
              refine TO_step rfl (S_to rfl rfl (V_pickF rfl rfl rfl rfl rfl)) ?_
              refine TO_nil ?_
              exact TS_nil ⟨_, Option.some.inj h, ⟨⟨.inr rfl, .inr rfl, .inr rfl, .inr rfl, .inr rfl, trivial⟩, ⟨_, rfl⟩, rfl, rfl, rfl⟩⟩
          · refine TO_skip rfl rfl rfl rfl hb7 ?_
            refine TO_skip rfl rfl rfl rfl hb7 ?_
            refine TO_step rfl (S_to rfl rfl (V_pickF rfl rfl hb7 rfl rfl)) ?_
            refine TO_step rfl (S_to rfl rfl (V_move rfl rfl)) ?_
            refine TO_skip rfl rfl rfl rfl rfl ?_
            refine TO_skip rfl rfl rfl rfl rfl ?_
            refine TO_step rfl (S_to rfl rfl (V_pickF rfl rfl rfl rfl rfl)) ?_
            refine TO_step rfl (S_to rfl rfl (V_move rfl rfl)) ?_
            refine TO_skip rfl rfl rfl rfl rfl ?_
            refine TO_skip rfl rfl rfl rfl rfl ?_
            refine TO_step rfl (S_to rfl rfl (V_pickF rfl rfl rfl rfl rfl)) ?_
            refine TO_nil ?_
            exact TS_nil ⟨_, Option.some.inj h, ⟨⟨.inr rfl, .inr rfl, .inr rfl, .inr rfl, .inr rfl, trivial⟩, ⟨_, rfl⟩, rfl, rfl, rfl⟩⟩
        · refine TO_skip rfl rfl rfl rfl hb6 ?_
          refine TO_skip rfl rfl rfl rfl hb6 ?_
          refine TO_step rfl (S_to rfl rfl (V_pickF rfl rfl hb6 rfl rfl)) ?_
          refine TO_step rfl (S_to rfl rfl (V_move rfl rfl)) ?_
          refine TO_skip rfl rfl rfl rfl rfl ?_
          refine TO_skip rfl rfl rfl rfl rfl ?_
          refine TO_step rfl (S_to rfl rfl (V_pickF rfl rfl rfl rfl rfl)) ?_
          refine TO_step rfl (S_to rfl rfl (V_move rfl rfl)) ?_
          refine TO_skip rfl rfl rfl rfl rfl ?_
          refine TO_skip rfl rfl rfl rfl rfl ?_
          refine TO_step rfl (S_to rfl rfl (V_pickF rfl rfl rfl rfl rfl)) ?_
          refine TO_step rfl (S_to rfl rfl (V_move rfl rfl)) ?_
          refine TO_skip rfl rfl rfl rfl rfl ?_
          refine TO_skip rfl rfl rfl rfl rfl ?_
          refine TO_step rfl (S_to rfl rfl (V_pickF rfl rfl rfl rfl rfl)) ?_
          refine TO_nil ?_
          exact TS_nil ⟨_, Option.some.inj h, ⟨⟨.inr rfl, .inr rfl, .inr rfl, .inr rfl, .inr rfl, trivial⟩, ⟨_, rfl⟩, rfl, rfl, rfl⟩⟩
    · have h := hv3
      rcases cond_some h with ⟨hb4, h⟩ | ⟨hb4, h⟩
      · refine TS_true rfl hb4 ?_
        refine TS_region ?_
        refine TO_step rfl (S_to rfl rfl (V_assign rfl rfl)) ?_
        refine TO_nil ?_
        exact TS_nil ⟨_, Option.some.inj h, ⟨⟨.inr rfl, .inr rfl, .inr rfl, .inr rfl, trivial⟩, ⟨_, rfl⟩, rfl, rfl, rfl⟩⟩
      · refine TS_false rfl hb4 ?_
        refine TS_skip ?_
        exact TS_nil ⟨_, Option.some.inj h, ⟨⟨.inr rfl, .inr rfl, .inr rfl, .inr rfl, trivial⟩, ⟨_, rfl⟩, rfl, rfl, rfl⟩⟩
  · refine TS_false rfl hb1 ?_
    refine TS_exit ?_
    refine UX_c ?_
    refine UX_up ?_
    exact UX_less (.inl rfl) (kx0_0 _ (Option.some.inj h).symm) ⟨trivial, ⟨_, rfl⟩, rfl, rfl, rfl⟩
-- sieveholes/token.Same
def F11 (n : Nat) (t0 : S27) (t1 : S27) : Option (Bool) := obind (cond ((eqI t0.f_Kind t1.f_Kind)) (cond ((eqS t0.f_Text t1.f_Text)) (some ((eqI t0.f_N t1.f_N))) (some false)) (some false)) fun (v0 : (Bool)) => some v0
theorem F11_ok (n : Nat) (t0 : S27) (t1 : S27) (o : (Bool)) (h : F11 n t0 t1 = some o) : PureC Tryd.prog Z 11 [(.agg [(.sc (.int .i64 t0.f_Kind)), (str t0.f_Text), (.sc (.int .i64 t0.f_N)), (.sc (.int .i64 t0.f_At.f_Line)), (.sc (.int .i64 t0.f_At.f_Col))]), (.agg [(.sc (.int .i64 t1.f_Kind)), (str t1.f_Text), (.sc (.int .i64 t1.f_N)), (.sc (.int .i64 t1.f_At.f_Line)), (.sc (.int .i64 t1.f_At.f_Col))])] (tb o) := by
  refine pure_of_TS fn11 rfl (N := 24) rfl rfl fun B g0 q0 => ?_
  unfold F11 at h
  refine TS_seq ?_
  refine TS_region ?_
  refine TO_step rfl (S_boxE rfl rfl rfl (show _ = some [(.d (.sc (.int .i64 t0.f_Kind))), (.d (str t0.f_Text)), (.d (.sc (.int .i64 t0.f_N))), (.d (.sc (.int .i64 t0.f_At.f_Line))), (.d (.sc (.int .i64 t0.f_At.f_Col)))] from rfl) rfl rfl (show _ = [.box 27 [(.d (.sc (.int .i64 t0.f_Kind))), (.d (str t0.f_Text)), (.d (.sc (.int .i64 t0.f_N))), (.d (.sc (.int .i64 t0.f_At.f_Line))), (.d (.sc (.int .i64 t0.f_At.f_Col)))]] from rfl)) ?_
  refine TO_step rfl (S_boxE rfl rfl rfl (show _ = some [(.d (.sc (.int .i64 t1.f_Kind))), (.d (str t1.f_Text)), (.d (.sc (.int .i64 t1.f_N))), (.d (.sc (.int .i64 t1.f_At.f_Line))), (.d (.sc (.int .i64 t1.f_At.f_Col)))] from rfl) rfl rfl (show _ = [.box 27 [(.d (.sc (.int .i64 t0.f_Kind))), (.d (str t0.f_Text)), (.d (.sc (.int .i64 t0.f_N))), (.d (.sc (.int .i64 t0.f_At.f_Line))), (.d (.sc (.int .i64 t0.f_At.f_Col)))], .box 27 [(.d (.sc (.int .i64 t1.f_Kind))), (.d (str t1.f_Text)), (.d (.sc (.int .i64 t1.f_N))), (.d (.sc (.int .i64 t1.f_At.f_Line))), (.d (.sc (.int .i64 t1.f_At.f_Col)))]] from rfl)) ?_
  refine TO_step rfl (S_to rfl rfl (V_assign rfl rfl)) ?_
  refine TO_nil ?_
  refine TS_seq ?_
  obtain ⟨v0, hv0, h⟩ := obind_some h
  refine TS_join (fun (v : (Bool)) => [(4, (.d (tb v)))]) (fun (v : (Bool)) => [.box 27 [(.d (.sc (.int .i64 t0.f_Kind))), (.d (str t0.f_Text)), (.d (.sc (.int .i64 t0.f_N))), (.d (.sc (.int .i64 t0.f_At.f_Line))), (.d (.sc (.int .i64 t0.f_At.f_Col)))], .box 27 [(.d (.sc (.int .i64 t1.f_Kind))), (.d (str t1.f_Text)), (.d (.sc (.int .i64 t1.f_N))), (.d (.sc (.int .i64 t1.f_At.f_Line))), (.d (.sc (.int .i64 t1.f_At.f_Col)))]]) v0 (.inl rfl) ?_ ?_
  · refine TS_ret ?_
    cases h
    exact ⟨trivial, _, _, (resEs_cons (resE_tmp rfl rfl) resEs_nil), rfl, (Wk.refl _)⟩
  · have h := hv0
    refine TS_region ?_
    refine TO_step rfl (S_to rfl rfl (V_fieldAddr rfl rfl (fap27_0 _ _ _))) ?_
    refine TO_step rfl (S_to rfl rfl (V_loadB rfl rfl rfl (loadB_one ok23 ag23 rfl))) ?_
    refine TO_step rfl (S_to rfl rfl (V_fieldAddr rfl rfl (fap27_0 _ _ _))) ?_
    refine TO_step rfl (S_to rfl rfl (V_loadB rfl rfl rfl (loadB_one ok23 ag23 rfl))) ?_
    refine TO_step rfl (S_to rfl rfl (V_bin rfl rfl rfl b_eql)) ?_
    refine TO_step rfl (S_to rfl rfl (V_move rfl rfl)) ?_
    rcases cond_some h with ⟨hb1, h⟩ | ⟨hb1, h⟩
    · refine TO_stepG rfl rfl rfl rfl hb1 (S_to rfl rfl (V_fieldAddr rfl rfl (fap27_1 _ _ _))) ?_
      refine TO_stepG rfl rfl rfl rfl hb1 (S_to rfl rfl (V_loadB rfl rfl rfl (loadB_one ok9 ag9 rfl))) ?_
      refine TO_stepG rfl rfl rfl rfl hb1 (S_to rfl rfl (V_fieldAddr rfl rfl (fap27_1 _ _ _))) ?_
      refine TO_stepG rfl rfl rfl rfl hb1 (S_to rfl rfl (V_loadB rfl rfl rfl (loadB_one ok9 ag9 rfl))) ?_
      refine TO_stepG rfl rfl rfl rfl hb1 (S_to rfl rfl (V_bin rfl rfl rfl bs_eql)) ?_
      refine TO_step rfl (S_to rfl rfl (V_pickT rfl rfl hb1 rfl rfl)) ?_
      refine TO_step rfl (S_to rfl rfl (V_move rfl rfl)) ?_
      rcases cond_some h with ⟨hb2, h⟩ | ⟨hb2, h⟩
      · refine TO_stepG rfl rfl rfl rfl hb2 (S_to rfl rfl (V_fieldAddr rfl rfl (fap27_2 _ _ _))) ?_
        refine TO_stepG rfl rfl rfl rfl hb2 (S_to rfl rfl (V_loadB rfl rfl rfl (loadB_one ok2 ag2 rfl))) ?_
        refine TO_stepG rfl rfl rfl rfl hb2 (S_to rfl rfl (V_fieldAddr rfl rfl (fap27_2 _ _ _))) ?_
        refine TO_stepG rfl rfl rfl rfl hb2 (S_to rfl rfl (V_loadB rfl rfl rfl (loadB_one ok2 ag2 rfl))) ?_
        refine TO_stepG rfl rfl rfl rfl hb2 (S_to rfl rfl (V_bin rfl rfl rfl b_eql)) ?_
        refine TO_step rfl (S_to rfl rfl (V_pickT rfl rfl hb2 rfl rfl)) ?_
        refine TO_step rfl (S_to rfl rfl (V_assign rfl rfl)) ?_
        refine TO_nil ?_
        exact TS_nil ⟨_, Option.some.inj h, ⟨⟨.inr rfl, trivial⟩, ⟨_, rfl⟩, rfl, rfl, rfl⟩⟩
      · refine TO_skip rfl rfl rfl rfl hb2 ?_
        refine TO_skip rfl rfl rfl rfl hb2 ?_
        refine TO_skip rfl rfl rfl rfl hb2 ?_
        refine TO_skip rfl rfl rfl rfl hb2 ?_
        refine TO_skip rfl rfl rfl rfl hb2 ?_
        refine TO_step rfl (S_to rfl rfl (V_pickF rfl rfl hb2 rfl rfl)) ?_
        refine TO_step rfl (S_to rfl rfl (V_assign rfl rfl)) ?_
        refine TO_nil ?_
        exact TS_nil ⟨_, Option.some.inj h, ⟨⟨.inr rfl, trivial⟩, ⟨_, rfl⟩, rfl, rfl, rfl⟩⟩
    · refine TO_skip rfl rfl rfl rfl hb1 ?_
      refine TO_skip rfl rfl rfl rfl hb1 ?_
      refine TO_skip rfl rfl rfl rfl hb1 ?_
      refine TO_skip rfl rfl rfl rfl hb1 ?_
      refine TO_skip rfl rfl rfl rfl hb1 ?_
      refine TO_step rfl (S_to rfl rfl (V_pickF rfl rfl hb1 rfl rfl)) ?_
      refine TO_step rfl (S_to rfl rfl (V_move rfl rfl)) ?_
      refine TO_skip rfl rfl rfl rfl rfl ?_
      refine TO_skip rfl rfl rfl rfl rfl ?_
      refine TO_skip rfl rfl rfl rfl rfl ?_
      refine TO_skip rfl rfl rfl rfl rfl ?_
      refine TO_skip rfl rfl rfl rfl rfl ?_
      refine TO_step rfl (S_to rfl rfl (V_pickF rfl rfl rfl rfl rfl)) ?_
      refine TO_step rfl (S_to rfl rfl (V_assign rfl rfl)) ?_
      refine TO_nil ?_
      exact TS_nil ⟨_, Option.some.inj h, ⟨⟨.inr rfl, trivial⟩, ⟨_, rfl⟩, rfl, rfl, rfl⟩⟩
-- sieveholes/token.Right
def F8 (n : Nat) (t0 : S27) : Option (Bool) := cond ((eqS t0.f_Text (([] : List UInt8)))) (obind (cond ((eqI t0.f_Kind 3)) (some ((eqI t0.f_N 0))) (some false)) fun (v1 : (Bool)) => some v1) (obind (F20 n t0.f_Text) fun y3 => obind (cond ((eqI y3.2 0)) (obind (F11 n y3.1 t0) fun y6 => some y6) (some false)) fun (v4 : (Bool)) => some v4)
theorem F8_ok (n : Nat) (t0 : S27) (o : (Bool)) (h : F8 n t0 = some o) : PureC Tryd.prog Z 8 [(.agg [(.sc (.int .i64 t0.f_Kind)), (str t0.f_Text), (.sc (.int .i64 t0.f_N)), (.sc (.int .i64 t0.f_At.f_Line)), (.sc (.int .i64 t0.f_At.f_Col))])] (tb o) := by
  refine pure_of_TS fn8 rfl (N := 29) rfl rfl fun B g0 q0 => ?_
  unfold F8 at h
  refine TS_seq ?_
  refine TS_region ?_
  refine TO_step rfl (S_boxE rfl rfl rfl (show _ = some [(.d (.sc (.int .i64 t0.f_Kind))), (.d (str t0.f_Text)), (.d (.sc (.int .i64 t0.f_N))), (.d (.sc (.int .i64 t0.f_At.f_Line))), (.d (.sc (.int .i64 t0.f_At.f_Col)))] from rfl) rfl rfl (show _ = [.box 27 [(.d (.sc (.int .i64 t0.f_Kind))), (.d (str t0.f_Text)), (.d (.sc (.int .i64 t0.f_N))), (.d (.sc (.int .i64 t0.f_At.f_Line))), (.d (.sc (.int .i64 t0.f_At.f_Col)))]] from rfl)) ?_
  refine TO_step rfl (S_to rfl rfl (V_assign rfl rfl)) ?_
  refine TO_nil ?_
  refine TS_seq ?_
  refine TS_seq ?_
  refine TS_region ?_
  refine TO_step rfl (S_to rfl rfl (V_fieldAddr rfl rfl (fap27_1 _ _ _))) ?_
  refine TO_step rfl (S_to rfl rfl (V_loadB rfl rfl rfl (loadB_one ok9 ag9 rfl))) ?_
  refine TO_step rfl (S_to rfl rfl (V_bin rfl rfl rfl bs_eql)) ?_
  refine TO_nil ?_
  rcases cond_some h with ⟨hb0, h⟩ | ⟨hb0, h⟩
  · refine TS_true rfl hb0 ?_
    refine TS_seq ?_
    obtain ⟨v1, hv1, h⟩ := obind_some h
    refine TS_join (fun (v : (Bool)) => [(2, (.d (tb v)))]) (fun (v : (Bool)) => [.box 27 [(.d (.sc (.int .i64 t0.f_Kind))), (.d (str t0.f_Text)), (.d (.sc (.int .i64 t0.f_N))), (.d (.sc (.int .i64 t0.f_At.f_Line))), (.d (.sc (.int .i64 t0.f_At.f_Col)))]]) v1 (.inl rfl) ?_ ?_
    · refine TS_ret ?_
      cases h
      exact ⟨trivial, _, _, (resEs_cons (resE_tmp rfl rfl) resEs_nil), rfl, (Wk.refl _)⟩
    · have h := hv1
      refine TS_region ?_
      refine TO_step rfl (S_to rfl rfl (V_fieldAddr rfl rfl (fap27_0 _ _ _))) ?_
      refine TO_step rfl (S_to rfl rfl (V_loadB rfl rfl rfl (loadB_one ok23 ag23 rfl))) ?_
      refine TO_step rfl (S_to rfl rfl (V_bin rfl rfl rfl b_eql)) ?_
      refine TO_step rfl (S_to rfl rfl (V_move rfl rfl)) ?_
      rcases cond_some h with ⟨hb2, h⟩ | ⟨hb2, h⟩
      · refine TO_stepG rfl rfl rfl rfl hb2 (S_to rfl rfl (V_fieldAddr rfl rfl (fap27_2 _ _ _))) ?_
        refine TO_stepG rfl rfl rfl rfl hb2 (S_to rfl rfl (V_loadB rfl rfl rfl (loadB_one ok2 ag2 rfl))) ?_
        refine TO_stepG rfl rfl rfl rfl hb2 (S_to rfl rfl (V_bin rfl rfl rfl b_eql)) ?_
        refine TO_step rfl (S_to rfl rfl (V_pickT rfl rfl hb2 rfl rfl)) ?_
        refine TO_step rfl (S_to rfl rfl (V_assign rfl rfl)) ?_
        refine TO_nil ?_
        exact TS_nil ⟨_, Option.some.inj h, ⟨⟨.inr rfl, trivial⟩, ⟨_, rfl⟩, rfl, rfl, rfl⟩⟩
      · refine TO_skip rfl rfl rfl rfl hb2 ?_
        refine TO_skip rfl rfl rfl rfl hb2 ?_
        refine TO_skip rfl rfl rfl rfl hb2 ?_
        refine TO_step rfl (S_to rfl rfl (V_pickF rfl rfl hb2 rfl rfl)) ?_
        refine TO_step rfl (S_to rfl rfl (V_assign rfl rfl)) ?_
        refine TO_nil ?_
        exact TS_nil ⟨_, Option.some.inj h, ⟨⟨.inr rfl, trivial⟩, ⟨_, rfl⟩, rfl, rfl, rfl⟩⟩
  · refine TS_false rfl hb0 ?_
    refine TS_skip ?_
    refine TS_seq ?_
    refine TS_region ?_
    refine TO_step rfl (S_to rfl rfl (V_fieldAddr rfl rfl (fap27_1 _ _ _))) ?_
    refine TO_step rfl (S_to rfl rfl (V_loadB rfl rfl rfl (loadB_one ok9 ag9 rfl))) ?_
    obtain ⟨y3, hy3, h⟩ := obind_some h
    refine TO_step rfl (S_st (S_call rfl rfl rfl rfl bd20 (F20_ok n t0.f_Text y3 hy3)) rfl rfl) ?_
    refine TO_step rfl (S_to rfl rfl (V_move rfl rfl)) ?_
    refine TO_step rfl (S_to rfl rfl (V_extract rfl rfl rfl)) ?_
    refine TO_step rfl (S_to rfl rfl (V_extract rfl rfl rfl)) ?_
    refine TO_step rfl (S_allocE rfl rfl al27 rfl rfl (show _ = [.box 27 [(.d (.sc (.int .i64 t0.f_Kind))), (.d (str t0.f_Text)), (.d (.sc (.int .i64 t0.f_N))), (.d (.sc (.int .i64 t0.f_At.f_Line))), (.d (.sc (.int .i64 t0.f_At.f_Col)))], .box 27 [(.d (.sc (.int .i64 0))), (.d (str (([] : List UInt8)))), (.d (.sc (.int .i64 0))), (.d (.sc (.int .i64 0))), (.d (.sc (.int .i64 0)))]] from rfl)) ?_
    refine TO_step rfl (S_st (S_storeE rfl rfl rfl rfl rfl if27 sz27 rfl rfl (show _ = [(.d (.sc (.int .i64 y3.1.f_Kind))), (.d (str y3.1.f_Text)), (.d (.sc (.int .i64 y3.1.f_N))), (.d (.sc (.int .i64 y3.1.f_At.f_Line))), (.d (.sc (.int .i64 y3.1.f_At.f_Col)))] from rfl) rfl) rfl (show _ = [.box 27 [(.d (.sc (.int .i64 t0.f_Kind))), (.d (str t0.f_Text)), (.d (.sc (.int .i64 t0.f_N))), (.d (.sc (.int .i64 t0.f_At.f_Line))), (.d (.sc (.int .i64 t0.f_At.f_Col)))], .box 27 [(.d (.sc (.int .i64 y3.1.f_Kind))), (.d (str y3.1.f_Text)), (.d (.sc (.int .i64 y3.1.f_N))), (.d (.sc (.int .i64 y3.1.f_At.f_Line))), (.d (.sc (.int .i64 y3.1.f_At.f_Col)))]] from rfl)) ?_
    refine TO_step rfl (S_to rfl rfl (V_assign rfl rfl)) ?_
    refine TO_nil ?_
    refine TS_seq ?_
    obtain ⟨v4, hv4, h⟩ := obind_some h
    refine TS_join (fun (v : (Bool)) => [(2, (.d (tb v)))]) (fun (v : (Bool)) => [.box 27 [(.d (.sc (.int .i64 t0.f_Kind))), (.d (str t0.f_Text)), (.d (.sc (.int .i64 t0.f_N))), (.d (.sc (.int .i64 t0.f_At.f_Line))), (.d (.sc (.int .i64 t0.f_At.f_Col)))], .box 27 [(.d (.sc (.int .i64 y3.1.f_Kind))), (.d (str y3.1.f_Text)), (.d (.sc (.int .i64 y3.1.f_N))), (.d (.sc (.int .i64 y3.1.f_At.f_Line))), (.d (.sc (.int .i64 y3.1.f_At.f_Col)))]]) v4 (.inl rfl) ?_ ?_
    · refine TS_ret ?_
      cases h
      exact ⟨trivial, _, _, (resEs_cons (resE_tmp rfl rfl) resEs_nil), rfl, (Wk.refl _)⟩
    · have h := hv4
      refine TS_region ?_
      refine TO_step rfl (S_to rfl rfl (V_move rfl rfl)) ?_
      refine TO_step rfl (S_to rfl rfl (V_bin rfl rfl rfl b_eql)) ?_
      refine TO_step rfl (S_to rfl rfl (V_move rfl rfl)) ?_
      rcases cond_some h with ⟨hb5, h⟩ | ⟨hb5, h⟩
      · refine TO_stepG rfl rfl rfl rfl hb5 (S_to rfl rfl (V_loadB rfl rfl rfl (loadB_agg ok27 ag27 sz27 (show _ = some [(.sc (.int .i64 y3.1.f_Kind)), (str y3.1.f_Text), (.sc (.int .i64 y3.1.f_N)), (.sc (.int .i64 y3.1.f_At.f_Line)), (.sc (.int .i64 y3.1.f_At.f_Col))] from rfl) rfl))) ?_
        refine TO_stepG rfl rfl rfl rfl hb5 (S_to rfl rfl (V_loadB rfl rfl rfl (loadB_agg ok27 ag27 sz27 (show _ = some [(.sc (.int .i64 t0.f_Kind)), (str t0.f_Text), (.sc (.int .i64 t0.f_N)), (.sc (.int .i64 t0.f_At.f_Line)), (.sc (.int .i64 t0.f_At.f_Col))] from rfl) rfl))) ?_
        obtain ⟨y6, hy6, h⟩ := obind_some h
        refine TO_stepG rfl rfl rfl rfl hb5 (S_st (S_call rfl rfl rfl rfl bd11 (F11_ok n y3.1 t0 y6 hy6)) rfl rfl) ?_
        refine TO_step rfl (S_to rfl rfl (V_pickT rfl rfl hb5 rfl rfl)) ?_
        refine TO_step rfl (S_to rfl rfl (V_assign rfl rfl)) ?_
        refine TO_nil ?_
        exact TS_nil ⟨_, Option.some.inj h, ⟨⟨.inr rfl, trivial⟩, ⟨_, rfl⟩, rfl, rfl, rfl⟩⟩
      · refine TO_skip rfl rfl rfl rfl hb5 ?_
        refine TO_skip rfl rfl rfl rfl hb5 ?_
        refine TO_skip rfl rfl rfl rfl hb5 ?_
        refine TO_step rfl (S_to rfl rfl (V_pickF rfl rfl hb5 rfl rfl)) ?_
        refine TO_step rfl (S_to rfl rfl (V_assign rfl rfl)) ?_
        refine TO_nil ?_
        exact TS_nil ⟨_, Option.some.inj h, ⟨⟨.inr rfl, trivial⟩, ⟨_, rfl⟩, rfl, rfl, rfl⟩⟩
-- sieveholes/token.Join
def F13_L0 (t0 : (List S27)) : Nat → (Int × (List (List UInt8))) → Option (LO ((List UInt8)) ((List (List UInt8))))
  | 0, _ => none
  | m0 + 1, s0 => cond ((ltI s0.1 ((lenL t0)))) (obind (getL t0 s0.1) fun x2 => obind (cond ((!(eqI x2.f_Kind 3))) (obind (appL 16 s0.2 (([x2.f_Text] : List (List UInt8)))) fun x5 => some x5) (some s0.2)) fun (v3 : ((List (List UInt8)))) => F13_L0 t0 m0 ((addI .i64 s0.1 1), v3)) (some (.out s0.2))
def F13 (n : Nat) (t0 : (List S27)) : Option ((List UInt8)) := obind (F13_L0 t0 n (0, ([] : List (List UInt8)))) fun out0 => match out0 with | .ret _ => none | .out v6 => obind (X26 n v6 (([32] : List UInt8))) fun y7 => some y7
theorem F13_ok (n : Nat) (t0 : (List S27)) (o : ((List UInt8))) (h : F13 n t0 = some o) : PureC Tryd.prog Z 13 [(.sl (t0.map row27))] (str o) := by
  refine pure_of_TS fn13 rfl (N := 23) rfl rfl fun B g0 q0 => ?_
  unfold F13 at h
  refine TS_seq ?_
  refine TS_region ?_
  refine TO_step rfl (S_to rfl rfl (V_assign rfl rfl)) ?_
  refine TO_nil ?_
  refine TS_seq ?_
  refine TS_region ?_
  refine TO_step rfl (S_nil (row := row9) rfl rfl se52 rfl) ?_
  refine TO_nil ?_
  refine TS_seq ?_
  refine TS_seq ?_
  refine TS_region ?_
  refine TO_step rfl (S_to rfl rfl (V_move rfl rfl)) ?_
  refine TO_step rfl (S_to rfl rfl (V_lenM (row := row27) ⟨_, rfl, rfl, rfl, rfl⟩ se22 rfl rfl)) ?_
  refine TO_step rfl (S_to rfl rfl (V_move rfl rfl)) ?_
  refine TO_nil ?_
  refine TS_block ?_
  obtain ⟨out0, hL0, h⟩ := obind_some h
  refine TS_cont (id := 0) (fun (v : ((List (List UInt8)))) => out0 = .out v) (fun (v : ((List (List UInt8)))) => [(3, (.gl 3 9 (v.map row9)))]) (fun (v : ((List (List UInt8)))) => []) ?_ fun kx0_0 => ?_
  · rintro v6 rfl
    try dsimp only at h
    refine UX_eq ?_
    refine TS_seq ?_
    refine TS_region ?_
    refine TO_step rfl (S_to rfl rfl (V_move rfl rfl)) ?_
    obtain ⟨y7, hy7, h⟩ := obind_some h
    refine TO_step rfl (S_st (S_call rfl rfl rfl rfl bd26 (X26_ok n v6 (([32] : List UInt8)) y7 hy7)) rfl rfl) ?_
    refine TO_step rfl (S_to rfl rfl (V_assign rfl rfl)) ?_
    refine TO_nil ?_
    refine TS_ret ?_
    cases h
    exact ⟨trivial, _, _, (resEs_cons (resE_tmp rfl rfl) resEs_nil), rfl, (Wk.refl _)⟩
  refine TS_loop (F13_L0 t0) (fun (s : (Int × (List (List UInt8)))) => [(3, (.gl 3 9 (s.2.map row9))), (8, (.d (.sc (.int .i64 s.1)))), (7, (.d (.sc (.int .i64 ((lenL t0)))))), (6, (.d (.sl (t0.map row27))))]) (fun (s : (Int × (List (List UInt8)))) => []) out0 hL0 ⟨⟨.inr rfl, .inr rfl, .inr rfl, .inr rfl, trivial⟩, ⟨_, rfl⟩, rfl, rfl, rfl⟩ (fun _ => rfl) fun m0 s0 h => ?_
  rw [F13_L0] at h
  refine TS_seq ?_
  refine TS_region ?_
  refine TO_step rfl (S_to rfl rfl (V_bin rfl rfl rfl b_lss)) ?_
  refine TO_nil ?_
  refine TS_seq ?_
  rcases cond_some h with ⟨hb1, h⟩ | ⟨hb1, h⟩
  · refine TS_true rfl hb1 ?_
    refine TS_skip ?_
    refine TS_seq ?_
    refine TS_block ?_
    refine TS_seq ?_
    refine TS_region ?_
    obtain ⟨x2, hx2, h⟩ := obind_some h
    refine TO_step rfl (S_to rfl rfl (V_idxA (row := row27) rfl se22 if27 rfl rfl rfl hx2 rfl)) ?_
    refine TO_step rfl (S_to rfl rfl (V_loadR rfl rfl (map_get hx2) (loadD_agg ok27 ag27 sz27 (show _ = [(.sc (.int .i64 x2.f_Kind)), (str x2.f_Text), (.sc (.int .i64 x2.f_N)), (.sc (.int .i64 x2.f_At.f_Line)), (.sc (.int .i64 x2.f_At.f_Col))] from rfl) rfl))) ?_
    refine TO_step rfl (S_allocE rfl rfl al27 rfl rfl (show _ = [.box 27 [(.d (.sc (.int .i64 0))), (.d (str (([] : List UInt8)))), (.d (.sc (.int .i64 0))), (.d (.sc (.int .i64 0))), (.d (.sc (.int .i64 0)))]] from rfl)) ?_
    refine TO_step rfl (S_st (S_storeE rfl rfl rfl rfl rfl if27 sz27 rfl rfl (show _ = [(.d (.sc (.int .i64 x2.f_Kind))), (.d (str x2.f_Text)), (.d (.sc (.int .i64 x2.f_N))), (.d (.sc (.int .i64 x2.f_At.f_Line))), (.d (.sc (.int .i64 x2.f_At.f_Col)))] from rfl) rfl) rfl (show _ = [.box 27 [(.d (.sc (.int .i64 x2.f_Kind))), (.d (str x2.f_Text)), (.d (.sc (.int .i64 x2.f_N))), (.d (.sc (.int .i64 x2.f_At.f_Line))), (.d (.sc (.int .i64 x2.f_At.f_Col)))]] from rfl)) ?_
    refine TO_nil ?_
    refine TS_seq ?_
    refine TS_region ?_
    refine TO_step rfl (S_to rfl rfl (V_fieldAddr rfl rfl (fap27_0 _ _ _))) ?_
    refine TO_step rfl (S_to rfl rfl (V_loadB rfl rfl rfl (loadB_one ok23 ag23 rfl))) ?_
    refine TO_step rfl (S_to rfl rfl (V_bin rfl rfl rfl b_neq)) ?_
    refine TO_nil ?_
    obtain ⟨v3, hv3, h⟩ := obind_some h
    refine TS_join (fun (v : ((List (List UInt8)))) => [(3, (.gl 3 9 (v.map row9))), (8, (.d (.sc (.int .i64 s0.1)))), (7, (.d (.sc (.int .i64 ((lenL t0)))))), (6, (.d (.sl (t0.map row27))))]) (fun (v : ((List (List UInt8)))) => [.box 27 [(.d (.sc (.int .i64 x2.f_Kind))), (.d (str x2.f_Text)), (.d (.sc (.int .i64 x2.f_N))), (.d (.sc (.int .i64 x2.f_At.f_Line))), (.d (.sc (.int .i64 x2.f_At.f_Col)))]]) v3 (.inl rfl) ?_ ?_
    · refine TS_b ?_
      refine TS_region ?_
      refine TO_step rfl (S_to rfl rfl (V_bin rfl rfl rfl b_add)) ?_
      refine TO_step rfl (S_to rfl rfl (V_move rfl rfl)) ?_
      refine TO_nil ?_
      exact TS_nil ⟨_, h, ⟨⟨.inr rfl, .inr rfl, .inr rfl, .inr rfl, trivial⟩, ⟨_, rfl⟩, rfl, rfl, rfl⟩⟩
    · have h := hv3
      rcases cond_some h with ⟨hb4, h⟩ | ⟨hb4, h⟩
      · refine TS_true rfl hb4 ?_
        refine TS_region ?_
        refine TO_step rfl (S_to rfl rfl (V_move rfl rfl)) ?_
        refine TO_step rfl (S_to rfl rfl (V_fieldAddr rfl rfl (fap27_1 _ _ _))) ?_
        refine TO_step rfl (S_to rfl rfl (V_loadB rfl rfl rfl (loadB_one ok9 ag9 rfl))) ?_
        refine TO_step rfl (S_lit (l := ([x2.f_Text] : List (List UInt8))) (row := row9) rfl rfl se52 rfl rfl rfl zr9 rfl) ?_
        obtain ⟨x5, hx5, h⟩ := obind_some h
        refine TO_step rfl (S_appM (row := row9) ⟨_, rfl, rfl, rfl, rfl⟩ rfl se52 rfl rfl rfl rz9 ap9 hx5 rfl) ?_
        refine TO_step rfl (S_to rfl rfl (V_assign rfl rfl)) ?_
        refine TO_nil ?_
        exact TS_nil ⟨_, Option.some.inj h, ⟨⟨.inr rfl, .inr rfl, .inr rfl, .inr rfl, trivial⟩, ⟨_, rfl⟩, rfl, rfl, rfl⟩⟩
      · refine TS_false rfl hb4 ?_
        refine TS_skip ?_
        exact TS_nil ⟨_, Option.some.inj h, ⟨⟨.inr rfl, .inr rfl, .inr rfl, .inr rfl, trivial⟩, ⟨_, rfl⟩, rfl, rfl, rfl⟩⟩
  · refine TS_false rfl hb1 ?_
    refine TS_exit ?_
    refine UX_c ?_
    refine UX_up ?_
    exact UX_less (.inl rfl) (kx0_0 _ (Option.some.inj h).symm) ⟨⟨.inr rfl, trivial⟩, ⟨_, rfl⟩, rfl, rfl, rfl⟩
-- sieveholes/sieveholeslaw05.TokenBack
def F4_L6 (n : Nat) (t0 : (List UInt8)) (y4 : ((List S27) × S45)) : Nat → (Int × Int) → Option (LO (Bool) (Int))
  | 0, _ => none
  | m6 + 1, s6 => cond ((ltI s6.1 ((lenL y4.1)))) (obind (getL y4.1 s6.1) fun x8 => obind (F17 n t0 x8.f_At) fun y9 => obind (cond (!y9.2) (some true) (cond ((ltI y9.1 s6.2)) (some true) (obind (getL y4.1 s6.1) fun x13 => cond ((ltI ((lenL t0)) ((addI .i64 y9.1 ((lenL x13.f_Text)))))) (some true) (obind (getL y4.1 s6.1) fun x15 => obind (cutL t0 y9.1 ((addI .i64 y9.1 ((lenL x15.f_Text))))) fun x16 => obind (getL y4.1 s6.1) fun x17 => cond ((!(eqS x16 x17.f_Text))) (some true) (obind (cutL t0 s6.2 y9.1) fun x19 => obind (F18 n x19) fun y20 => cond (!y20) (some true) (obind (getL y4.1 s6.1) fun x22 => obind (F8 n x22) fun y23 => cond (!y23) (some true) (obind (getL y4.1 s6.1) fun x25 => some ((((eqI x25.f_Kind 3)) != ((eqI s6.1 ((subI .i64 ((lenL y4.1)) 1))))))))))))) fun (v10 : (Bool)) => cond v10 (some (.ret false)) (obind (getL y4.1 s6.1) fun x27 => F4_L6 n t0 y4 m6 ((addI .i64 s6.1 1), (addI .i64 y9.1 ((lenL x27.f_Text)))))) (some (.out s6.2))
def F4_L30 (n : Nat) (t1 : (List S27)) : Nat → (Int × (List S27)) → Option (LO (Bool) ((List S27)))
  | 0, _ => none
  | m30 + 1, s30 => cond ((ltI s30.1 ((lenL t1)))) (obind (obind (getL t1 s30.1) fun x33 => cond ((leI ((lenL x33.f_Text)) 60)) (obind (getL t1 s30.1) fun x35 => obind (F8 n x35) fun y36 => cond y36 (obind (getL t1 s30.1) fun x38 => some ((!(eqI x38.f_Kind 3)))) (some false)) (some false)) fun (v32 : (Bool)) => obind (cond v32 (obind (getL t1 s30.1) fun x41 => obind (appL 48 s30.2 (([x41] : List S27))) fun x42 => some x42) (some s30.2)) fun (v39 : ((List S27))) => F4_L30 n t1 m30 ((addI .i64 s30.1 1), v39)) (some (.out s30.2))
def F4_L51 (n : Nat) (v43 : ((List S27))) (y45 : ((List S27) × S45)) : Nat → (Int) → Option (LO (Bool) Unit)
  | 0, _ => none
  | m51 + 1, s51 => cond ((ltI s51 ((lenL v43)))) (obind (getL y45.1 s51) fun x53 => obind (getL v43 s51) fun x54 => obind (F11 n x53 x54) fun y55 => cond (!y55) (some (.ret false)) (F4_L51 n v43 y45 m51 ((addI .i64 s51 1)))) (some (.out ()))
def F4_L59 (n : Nat) (t1 : (List S27)) : Nat → (Int × (List S27)) → Option (LO (Bool) ((List S27)))
  | 0, _ => none
  | m59 + 1, s59 => cond ((ltI s59.1 ((lenL t1)))) (obind (obind (getL t1 s59.1) fun x62 => cond ((leI ((lenL x62.f_Text)) 60)) (obind (getL t1 s59.1) fun x64 => obind (F8 n x64) fun y65 => cond y65 (obind (getL t1 s59.1) fun x67 => some ((!(eqI x67.f_Kind 3)))) (some false)) (some false)) fun (v61 : (Bool)) => obind (cond v61 (obind (getL t1 s59.1) fun x70 => obind (appL 48 s59.2 (([x70] : List S27))) fun x71 => some x71) (some s59.2)) fun (v68 : ((List S27))) => F4_L59 n t1 m59 ((addI .i64 s59.1 1), v68)) (some (.out s59.2))
def F4_L80 (n : Nat) (v72 : ((List S27))) (y74 : ((List S27) × S45)) : Nat → (Int) → Option (LO (Bool) Unit)
  | 0, _ => none
  | m80 + 1, s80 => cond ((ltI s80 ((lenL v72)))) (obind (getL y74.1 s80) fun x82 => obind (getL v72 s80) fun x83 => obind (F11 n x82 x83) fun y84 => cond (!y84) (some (.ret false)) (F4_L80 n v72 y74 m80 ((addI .i64 s80 1)))) (some (.out ()))
def F4 (n : Nat) (t0 : (List UInt8)) (t1 : (List S27)) : Option (Bool) := obind (cond ((ltI 400 ((lenL t0)))) (some true) (some ((ltI 30 ((lenL t1)))))) fun (v0 : (Bool)) => cond v0 (obind (F6 n ) fun y3 => some y3) (obind (F16 n t0) fun y4 => cond ((eqI y4.2.f_Err 0)) (obind (F4_L6 n t0 y4 n (0, 0)) fun out6 => match out6 with | .ret r => some r | .out v28 => cond ((!(eqI v28 ((lenL t0))))) (some false) (obind (F4_L30 n t1 n (0, ([] : List S27))) fun out30 => match out30 with | .ret _ => none | .out v43 => obind (F13 n v43) fun y44 => obind (F16 n y44) fun y45 => obind (cond ((!(eqI y45.2.f_Err 0))) (some true) (cond ((!(eqI ((lenL y45.1)) ((addI .i64 ((lenL v43)) 1))))) (some true) (obind (getL y45.1 ((lenL v43))) fun x49 => some ((!(eqI x49.f_Kind 3)))))) fun (v46 : (Bool)) => cond v46 (some false) (obind (F4_L51 n v43 y45 n 0) fun out51 => match out51 with | .ret r => some r | .out v57 => obind (F6 n ) fun y58 => some y58))) (obind (F4_L59 n t1 n (0, ([] : List S27))) fun out59 => match out59 with | .ret _ => none | .out v72 => obind (F13 n v72) fun y73 => obind (F16 n y73) fun y74 => obind (cond ((!(eqI y74.2.f_Err 0))) (some true) (cond ((!(eqI ((lenL y74.1)) ((addI .i64 ((lenL v72)) 1))))) (some true) (obind (getL y74.1 ((lenL v72))) fun x78 => some ((!(eqI x78.f_Kind 3)))))) fun (v75 : (Bool)) => cond v75 (some false) (obind (F4_L80 n v72 y74 n 0) fun out80 => match out80 with | .ret r => some r | .out v86 => obind (F6 n ) fun y87 => some y87)))
theorem F4_ok (n : Nat) (t0 : (List UInt8)) (t1 : (List S27)) (o : (Bool)) (h : F4 n t0 t1 = some o) : PureC Tryd.prog Z 4 [(str t0), (.sl (t1.map row27))] (tb o) := by
  refine pure_of_TS fn4 rfl (N := 208) rfl rfl fun B g0 q0 => ?_
  unfold F4 at h
  refine TS_seq ?_
  refine TS_region ?_
  refine TO_step rfl (S_to rfl rfl (V_assign rfl rfl)) ?_
  refine TO_nil ?_
  refine TS_seq ?_
  refine TS_seq ?_
  obtain ⟨v0, hv0, h⟩ := obind_some h
  refine TS_join (fun (v : (Bool)) => [(23, (.d (tb v))), (0, (.d (str t0))), (1, (.d (.sl (t1.map row27))))]) (fun (v : (Bool)) => []) v0 (.inl rfl) ?_ ?_
  · rcases cond_some h with ⟨hb2, h⟩ | ⟨hb2, h⟩
    · refine TS_true rfl hb2 ?_
      refine TS_seq ?_
      refine TS_region ?_
      obtain ⟨y3, hy3, h⟩ := obind_some h
      refine TO_step rfl (S_st (S_call rfl rfl rfl rfl bd6 (F6_ok n  y3 hy3)) rfl rfl) ?_
      refine TO_step rfl (S_to rfl rfl (V_assign rfl rfl)) ?_
      refine TO_nil ?_
      refine TS_ret ?_
      cases h
      exact ⟨trivial, _, _, (resEs_cons (resE_tmp rfl rfl) resEs_nil), rfl, (Wk.refl _)⟩
    · refine TS_false rfl hb2 ?_
      refine TS_skip ?_
      refine TS_seq ?_
      refine TS_region ?_
      refine TO_step rfl (S_to rfl rfl (V_move rfl rfl)) ?_
      obtain ⟨y4, hy4, h⟩ := obind_some h
      refine TO_step rfl (S_st (S_call rfl rfl rfl rfl bd16 (F16_ok n t0 y4 hy4)) rfl rfl) ?_
      refine TO_step rfl (S_to rfl rfl (V_move rfl rfl)) ?_
      refine TO_step rfl (S_to rfl rfl (V_extract rfl rfl rfl)) ?_
      refine TO_step rfl (S_to rfl rfl (V_extract rfl rfl rfl)) ?_
      refine TO_step rfl (S_allocE rfl rfl al45 rfl rfl (show _ = [.box 45 [(.d (.sc (.int .i64 0))), (.d (.sc (.int .i64 0))), (.d (.sc (.int .i64 0)))]] from rfl)) ?_
      refine TO_step rfl (S_to rfl rfl (V_assign rfl rfl)) ?_
      refine TO_step rfl (S_st (S_storeE rfl rfl rfl rfl rfl if45 sz45 rfl rfl (show _ = [(.d (.sc (.int .i64 y4.2.f_At.f_Line))), (.d (.sc (.int .i64 y4.2.f_At.f_Col))), (.d (.sc (.int .i64 y4.2.f_Err)))] from rfl) rfl) rfl (show _ = [.box 45 [(.d (.sc (.int .i64 y4.2.f_At.f_Line))), (.d (.sc (.int .i64 y4.2.f_At.f_Col))), (.d (.sc (.int .i64 y4.2.f_Err)))]] from rfl)) ?_
      refine TO_nil ?_
      refine TS_seq ?_
      refine TS_seq ?_
      refine TS_region ?_
      refine TO_step rfl (S_to rfl rfl (V_fieldAddr rfl rfl (fap45_1 _ _ _))) ?_
      refine TO_step rfl (S_to rfl rfl (V_loadB rfl rfl rfl (loadB_one ok43 ag43 rfl))) ?_
      refine TO_step rfl (S_to rfl rfl (V_bin rfl rfl rfl b_eql)) ?_
      refine TO_nil ?_
      rcases cond_some h with ⟨hb5, h⟩ | ⟨hb5, h⟩
      · refine TS_true rfl hb5 ?_
        refine TS_seq ?_
        refine TS_region ?_
        refine TO_step rfl (S_to rfl rfl (V_assign rfl rfl)) ?_
        refine TO_nil ?_
        refine TS_seq ?_
        refine TS_seq ?_
        refine TS_region ?_
        refine TO_step rfl (S_to rfl rfl (V_assign rfl rfl)) ?_
        refine TO_nil ?_
        refine TS_block ?_
        obtain ⟨out6, hL6, h⟩ := obind_some h
        have kr6 : ∀ r, out6 = .ret r → some r = some o := by rintro r rfl; exact h
        refine TS_cont (id := 0) (fun (v : (Int)) => out6 = .out v) (fun (v : (Int)) => [(7, (.d (.sc (.int .i64 v)))), (0, (.d (str t0))), (1, (.d (.sl (t1.map row27))))]) (fun (v : (Int)) => [.box 45 [(.d (.sc (.int .i64 y4.2.f_At.f_Line))), (.d (.sc (.int .i64 y4.2.f_At.f_Col))), (.d (.sc (.int .i64 y4.2.f_Err)))]]) ?_ fun kx6_0 => ?_
        · rintro v28 rfl
          try dsimp only at h
          refine UX_eq ?_
          refine TS_seq ?_
          refine TS_region ?_
          refine TO_step rfl (S_to rfl rfl (V_move rfl rfl)) ?_
          refine TO_step rfl (S_to rfl rfl (V_move rfl rfl)) ?_
          refine TO_step rfl (S_to rfl rfl (V_lenS ⟨_, rfl, rfl, rfl, rfl⟩ Tryd.underlying9 rfl)) ?_
          refine TO_step rfl (S_to rfl rfl (V_bin rfl rfl rfl b_neq)) ?_
          refine TO_nil ?_
          rcases cond_some h with ⟨hb29, h⟩ | ⟨hb29, h⟩
          · refine TS_true rfl hb29 ?_
            refine TS_seq ?_
            refine TS_region ?_
            refine TO_step rfl (S_to rfl rfl (V_assign rfl rfl)) ?_
            refine TO_nil ?_
            refine TS_ret ?_
            cases h
            exact ⟨trivial, _, _, (resEs_cons (resE_tmp rfl rfl) resEs_nil), rfl, (Wk.refl _)⟩
          · refine TS_false rfl hb29 ?_
            refine TS_skip ?_
            refine TS_seq ?_
            refine TS_region ?_
            refine TO_step rfl (S_nil (row := row27) rfl rfl se22 rfl) ?_
            refine TO_nil ?_
            refine TS_seq ?_
            refine TS_seq ?_
            refine TS_region ?_
            refine TO_step rfl (S_to rfl rfl (V_assign rfl rfl)) ?_
            refine TO_nil ?_
            refine TS_block ?_
            obtain ⟨out30, hL30, h⟩ := obind_some h
            refine TS_cont (id := 2) (fun (v : ((List S27))) => out30 = .out v) (fun (v : ((List S27))) => [(11, (.gl 11 27 (v.map row27)))]) (fun (v : ((List S27))) => [.box 45 [(.d (.sc (.int .i64 y4.2.f_At.f_Line))), (.d (.sc (.int .i64 y4.2.f_At.f_Col))), (.d (.sc (.int .i64 y4.2.f_Err)))]]) ?_ fun kx30_0 => ?_
            · rintro v43 rfl
              try dsimp only at h
              refine UX_eq ?_
              refine TS_seq ?_
              refine TS_region ?_
              refine TO_step rfl (S_to rfl rfl (V_move rfl rfl)) ?_
              obtain ⟨y44, hy44, h⟩ := obind_some h
              refine TO_step rfl (S_st (S_call rfl rfl rfl rfl bd13 (F13_ok n v43 y44 hy44)) rfl rfl) ?_
              obtain ⟨y45, hy45, h⟩ := obind_some h
              refine TO_step rfl (S_st (S_call rfl rfl rfl rfl bd16 (F16_ok n y44 y45 hy45)) rfl rfl) ?_
              refine TO_step rfl (S_to rfl rfl (V_move rfl rfl)) ?_
              refine TO_step rfl (S_to rfl rfl (V_extract rfl rfl rfl)) ?_
              refine TO_step rfl (S_to rfl rfl (V_extract rfl rfl rfl)) ?_
              refine TO_step rfl (S_allocE rfl rfl al45 rfl rfl (show _ = [.box 45 [(.d (.sc (.int .i64 y4.2.f_At.f_Line))), (.d (.sc (.int .i64 y4.2.f_At.f_Col))), (.d (.sc (.int .i64 y4.2.f_Err)))], .box 45 [(.d (.sc (.int .i64 0))), (.d (.sc (.int .i64 0))), (.d (.sc (.int .i64 0)))]] from rfl)) ?_
              refine TO_step rfl (S_to rfl rfl (V_assign rfl rfl)) ?_
              refine TO_step rfl (S_st (S_storeE rfl rfl rfl rfl rfl if45 sz45 rfl rfl (show _ = [(.d (.sc (.int .i64 y45.2.f_At.f_Line))), (.d (.sc (.int .i64 y45.2.f_At.f_Col))), (.d (.sc (.int .i64 y45.2.f_Err)))] from rfl) rfl) rfl (show _ = [.box 45 [(.d (.sc (.int .i64 y4.2.f_At.f_Line))), (.d (.sc (.int .i64 y4.2.f_At.f_Col))), (.d (.sc (.int .i64 y4.2.f_Err)))], .box 45 [(.d (.sc (.int .i64 y45.2.f_At.f_Line))), (.d (.sc (.int .i64 y45.2.f_At.f_Col))), (.d (.sc (.int .i64 y45.2.f_Err)))]] from rfl)) ?_
              refine TO_nil ?_
              refine TS_seq ?_
              refine TS_seq ?_
              obtain ⟨v46, hv46, h⟩ := obind_some h
              refine TS_join (fun (v : (Bool)) => [(190, (.d (tb v))), (13, (.d (.sl (y45.1.map row27)))), (11, (.gl 11 27 (v43.map row27)))]) (fun (v : (Bool)) => [.box 45 [(.d (.sc (.int .i64 y4.2.f_At.f_Line))), (.d (.sc (.int .i64 y4.2.f_At.f_Col))), (.d (.sc (.int .i64 y4.2.f_Err)))], .box 45 [(.d (.sc (.int .i64 y45.2.f_At.f_Line))), (.d (.sc (.int .i64 y45.2.f_At.f_Col))), (.d (.sc (.int .i64 y45.2.f_Err)))]]) v46 (.inl rfl) ?_ ?_
              · rcases cond_some h with ⟨hb50, h⟩ | ⟨hb50, h⟩
                · refine TS_true rfl hb50 ?_
                  refine TS_seq ?_
                  refine TS_region ?_
                  refine TO_step rfl (S_to rfl rfl (V_assign rfl rfl)) ?_
                  refine TO_nil ?_
                  refine TS_ret ?_
                  cases h
                  exact ⟨trivial, _, _, (resEs_cons (resE_tmp rfl rfl) resEs_nil), rfl, (Wk.refl _)⟩
                · refine TS_false rfl hb50 ?_
                  refine TS_skip ?_
                  refine TS_seq ?_
                  refine TS_seq ?_
                  refine TS_region ?_
                  refine TO_step rfl (S_to rfl rfl (V_assign rfl rfl)) ?_
                  refine TO_nil ?_
                  refine TS_block ?_
                  obtain ⟨out51, hL51, h⟩ := obind_some h
                  have kr51 : ∀ r, out51 = .ret r → some r = some o := by rintro r rfl; exact h
                  refine TS_cont (id := 4) (fun (v : Unit) => out51 = .out v) (fun (v : Unit) => []) (fun (v : Unit) => [.box 45 [(.d (.sc (.int .i64 y4.2.f_At.f_Line))), (.d (.sc (.int .i64 y4.2.f_At.f_Col))), (.d (.sc (.int .i64 y4.2.f_Err)))], .box 45 [(.d (.sc (.int .i64 y45.2.f_At.f_Line))), (.d (.sc (.int .i64 y45.2.f_At.f_Col))), (.d (.sc (.int .i64 y45.2.f_Err)))]]) ?_ fun kx51_0 => ?_
                  · rintro v57 rfl
                    try dsimp only at h
                    refine UX_eq ?_
                    refine TS_seq ?_
                    refine TS_region ?_
                    obtain ⟨y58, hy58, h⟩ := obind_some h
                    refine TO_step rfl (S_st (S_call rfl rfl rfl rfl bd6 (F6_ok n  y58 hy58)) rfl rfl) ?_
                    refine TO_step rfl (S_to rfl rfl (V_assign rfl rfl)) ?_
                    refine TO_nil ?_
                    refine TS_ret ?_
                    cases h
                    exact ⟨trivial, _, _, (resEs_cons (resE_tmp rfl rfl) resEs_nil), rfl, (Wk.refl _)⟩
                  refine TS_loop (F4_L51 n v43 y45) (fun (s : (Int)) => [(15, (.d (.sc (.int .i64 s)))), (13, (.d (.sl (y45.1.map row27)))), (11, (.gl 11 27 (v43.map row27)))]) (fun (s : (Int)) => [.box 45 [(.d (.sc (.int .i64 y4.2.f_At.f_Line))), (.d (.sc (.int .i64 y4.2.f_At.f_Col))), (.d (.sc (.int .i64 y4.2.f_Err)))], .box 45 [(.d (.sc (.int .i64 y45.2.f_At.f_Line))), (.d (.sc (.int .i64 y45.2.f_At.f_Col))), (.d (.sc (.int .i64 y45.2.f_Err)))]]) out51 hL51 ⟨⟨.inr rfl, .inr rfl, .inr rfl, trivial⟩, ⟨_, rfl⟩, rfl, rfl, rfl⟩ (fun _ => rfl) fun m51 s51 h => ?_
                  rw [F4_L51] at h
                  refine TS_seq ?_
                  refine TS_seq ?_
                  refine TS_region ?_
                  refine TO_step rfl (S_to rfl rfl (V_move rfl rfl)) ?_
                  refine TO_step rfl (S_to rfl rfl (V_move rfl rfl)) ?_
                  refine TO_step rfl (S_to rfl rfl (V_lenM (row := row27) ⟨_, rfl, rfl, rfl, rfl⟩ se22 rfl rfl)) ?_
                  refine TO_step rfl (S_to rfl rfl (V_bin rfl rfl rfl b_lss)) ?_
                  refine TO_nil ?_
                  rcases cond_some h with ⟨hb52, h⟩ | ⟨hb52, h⟩
                  · refine TS_true rfl hb52 ?_
                    refine TS_skip ?_
                    refine TS_seq ?_
                    refine TS_block ?_
                    refine TS_seq ?_
                    obtain ⟨x53, hx53, h⟩ := obind_some h
                    obtain ⟨x54, hx54, h⟩ := obind_some h
                    obtain ⟨y55, hy55, h⟩ := obind_some h
                    refine TS_draw (envF_ok (L := [(11, [(.agg [(.sc (.int .i64 x53.f_Kind)), (str x53.f_Text), (.sc (.int .i64 x53.f_N)), (.sc (.int .i64 x53.f_At.f_Line)), (.sc (.int .i64 x53.f_At.f_Col))]), (.agg [(.sc (.int .i64 x54.f_Kind)), (str x54.f_Text), (.sc (.int .i64 x54.f_N)), (.sc (.int .i64 x54.f_At.f_Line)), (.sc (.int .i64 x54.f_At.f_Col))])], (tb y55))]) (by simp only [List.forall_mem_cons]; exact ⟨(F11_ok n x53 x54 y55 hy55), fun _ hx => by cases hx⟩)) (by kernel_rfl : Tryd.prog.follows .mixedOrders = true) (by decide +kernel) ?_
                    refine TD_step rfl (D_V rfl (V_move rfl rfl)) ((foot_mk _ _).trans (show _ = Foot.no from rfl)) ?_
                    refine TD_step rfl (D_V rfl (V_move rfl rfl)) ((foot_mk _ _).trans (show _ = Foot.no from rfl)) ?_
                    refine TD_step rfl (D_V rfl (V_idxA (row := row27) rfl se22 if27 rfl rfl rfl hx53 rfl)) ((foot_mk _ _).trans (show _ = Foot.no from rfl)) ?_
                    refine TD_step rfl (D_V rfl (V_loadR rfl rfl (map_get hx53) (loadD_agg ok27 ag27 sz27 (show _ = [(.sc (.int .i64 x53.f_Kind)), (str x53.f_Text), (.sc (.int .i64 x53.f_N)), (.sc (.int .i64 x53.f_At.f_Line)), (.sc (.int .i64 x53.f_At.f_Col))] from rfl) rfl))) ((foot_mk _ _).trans (show _ = Foot.no from rfl)) ?_
                    refine TD_step rfl (D_V rfl (V_move rfl rfl)) ((foot_mk _ _).trans (show _ = Foot.no from rfl)) ?_
                    refine TD_step rfl (D_V rfl (V_move rfl rfl)) ((foot_mk _ _).trans (show _ = Foot.no from rfl)) ?_
                    refine TD_step rfl (D_V rfl (V_idxA (row := row27) rfl se22 if27 rfl rfl rfl hx54 rfl)) ((foot_mk _ _).trans (show _ = Foot.no from rfl)) ?_
                    refine TD_step rfl (D_V rfl (V_loadR rfl rfl (map_get hx54) (loadD_agg ok27 ag27 sz27 (show _ = [(.sc (.int .i64 x54.f_Kind)), (str x54.f_Text), (.sc (.int .i64 x54.f_N)), (.sc (.int .i64 x54.f_At.f_Line)), (.sc (.int .i64 x54.f_At.f_Col))] from rfl) rfl))) ((foot_mk _ _).trans (show _ = Foot.no from rfl)) ?_
                    refine TD_step rfl (D_call rfl rfl rfl (show _ = some [(.agg [(.sc (.int .i64 x53.f_Kind)), (str x53.f_Text), (.sc (.int .i64 x53.f_N)), (.sc (.int .i64 x53.f_At.f_Line)), (.sc (.int .i64 x53.f_At.f_Col))]), (.agg [(.sc (.int .i64 x54.f_Kind)), (str x54.f_Text), (.sc (.int .i64 x54.f_N)), (.sc (.int .i64 x54.f_At.f_Line)), (.sc (.int .i64 x54.f_At.f_Col))])] from rfl) bd11 (envF_at (r := (tb y55)) (by simp) (by intro r' hr'; simpa using hr'))) ((foot_mk _ _).trans (show _ = Foot.no from rfl)) ?_
                    refine TD_step rfl (D_V rfl (V_un rfl rfl u_not)) ((foot_mk _ _).trans (show _ = Foot.no from rfl)) ?_
                    refine TD_nil ⟨by decide +kernel, ?_⟩
                    rcases cond_some h with ⟨hb56, h⟩ | ⟨hb56, h⟩
                    · refine TS_true rfl hb56 ?_
                      refine TS_seq ?_
                      refine TS_region ?_
                      refine TO_step rfl (S_to rfl rfl (V_assign rfl rfl)) ?_
                      refine TO_nil ?_
                      refine TS_ret ?_
                      refine ret_up ?_
                      have h := kr51 _ (Option.some.inj h).symm
                      cases h
                      exact ⟨trivial, _, _, (resEs_cons (resE_tmp rfl rfl) resEs_nil), rfl, (Wk.refl _)⟩
                    · refine TS_false rfl hb56 ?_
                      refine TS_skip ?_
                      refine TS_b ?_
                      refine TS_region ?_
                      refine TO_step rfl (S_to rfl rfl (V_move rfl rfl)) ?_
                      refine TO_step rfl (S_to rfl rfl (V_bin rfl rfl rfl b_add)) ?_
                      refine TO_step rfl (S_to rfl rfl (V_assign rfl rfl)) ?_
                      refine TO_nil ?_
                      exact TS_nil ⟨_, h, ⟨⟨.inr rfl, .inr rfl, .inr rfl, trivial⟩, ⟨_, rfl⟩, rfl, rfl, rfl⟩⟩
                  · refine TS_false rfl hb52 ?_
                    refine TS_exit ?_
                    refine UX_c ?_
                    refine UX_up ?_
                    exact UX_less (.inl rfl) (kx51_0 _ (Option.some.inj h).symm) ⟨trivial, ⟨_, rfl⟩, rfl, rfl, rfl⟩
              · have h := hv46
                refine TS_region ?_
                refine TO_step rfl (S_to rfl rfl (V_fieldAddr rfl rfl (fap45_1 _ _ _))) ?_
                refine TO_step rfl (S_to rfl rfl (V_loadB rfl rfl rfl (loadB_one ok43 ag43 rfl))) ?_
                refine TO_step rfl (S_to rfl rfl (V_bin rfl rfl rfl b_neq)) ?_
                refine TO_step rfl (S_to rfl rfl (V_move rfl rfl)) ?_
                rcases cond_some h with ⟨hb47, h⟩ | ⟨hb47, h⟩
                · refine TO_skip rfl rfl rfl rfl hb47 ?_
                  refine TO_skip rfl rfl rfl rfl hb47 ?_
                  refine TO_skip rfl rfl rfl rfl hb47 ?_
                  refine TO_skip rfl rfl rfl rfl hb47 ?_
                  refine TO_skip rfl rfl rfl rfl hb47 ?_
                  refine TO_skip rfl rfl rfl rfl hb47 ?_
                  refine TO_step rfl (S_to rfl rfl (V_pickT rfl rfl hb47 rfl rfl)) ?_
                  refine TO_step rfl (S_to rfl rfl (V_move rfl rfl)) ?_
                  refine TO_skip rfl rfl rfl rfl rfl ?_
                  refine TO_skip rfl rfl rfl rfl rfl ?_
                  refine TO_skip rfl rfl rfl rfl rfl ?_
                  refine TO_skip rfl rfl rfl rfl rfl ?_
                  refine TO_skip rfl rfl rfl rfl rfl ?_
                  refine TO_skip rfl rfl rfl rfl rfl ?_
                  refine TO_skip rfl rfl rfl rfl rfl ?_
                  refine TO_step rfl (S_to rfl rfl (V_pickT rfl rfl rfl rfl rfl)) ?_
                  refine TO_nil ?_
                  exact TS_nil ⟨_, Option.some.inj h, ⟨⟨.inr rfl, .inr rfl, .inr rfl, trivial⟩, ⟨_, rfl⟩, rfl, rfl, rfl⟩⟩
                · refine TO_stepG rfl rfl rfl rfl hb47 (S_to rfl rfl (V_move rfl rfl)) ?_
                  refine TO_stepG rfl rfl rfl rfl hb47 (S_to rfl rfl (V_lenM (row := row27) ⟨_, rfl, rfl, rfl, rfl⟩ se22 rfl rfl)) ?_
                  refine TO_stepG rfl rfl rfl rfl hb47 (S_to rfl rfl (V_move rfl rfl)) ?_
                  refine TO_stepG rfl rfl rfl rfl hb47 (S_to rfl rfl (V_lenM (row := row27) ⟨_, rfl, rfl, rfl, rfl⟩ se22 rfl rfl)) ?_
                  refine TO_stepG rfl rfl rfl rfl hb47 (S_to rfl rfl (V_bin rfl rfl rfl b_add)) ?_
                  refine TO_stepG rfl rfl rfl rfl hb47 (S_to rfl rfl (V_bin rfl rfl rfl b_neq)) ?_
                  refine TO_step rfl (S_to rfl rfl (V_pickF rfl rfl hb47 rfl rfl)) ?_
                  refine TO_step rfl (S_to rfl rfl (V_move rfl rfl)) ?_
                  rcases cond_some h with ⟨hb48, h⟩ | ⟨hb48, h⟩
                  · refine TO_skip rfl rfl rfl rfl hb48 ?_
                    refine TO_skip rfl rfl rfl rfl hb48 ?_
                    refine TO_skip rfl rfl rfl rfl hb48 ?_
                    refine TO_skip rfl rfl rfl rfl hb48 ?_
                    refine TO_skip rfl rfl rfl rfl hb48 ?_
                    refine TO_skip rfl rfl rfl rfl hb48 ?_
                    refine TO_skip rfl rfl rfl rfl hb48 ?_
                    refine TO_step rfl (S_to rfl rfl (V_pickT rfl rfl hb48 rfl rfl)) ?_
                    refine TO_nil ?_
                    exact TS_nil ⟨_, Option.some.inj h, ⟨⟨.inr rfl, .inr rfl, .inr rfl, trivial⟩, ⟨_, rfl⟩, rfl, rfl, rfl⟩⟩
                  · refine TO_stepG rfl rfl rfl rfl hb48 (S_to rfl rfl (V_move rfl rfl)) ?_
                    refine TO_stepG rfl rfl rfl rfl hb48 (S_to rfl rfl (V_move rfl rfl)) ?_
                    refine TO_stepG rfl rfl rfl rfl hb48 (S_to rfl rfl (V_lenM (row := row27) ⟨_, rfl, rfl, rfl, rfl⟩ se22 rfl rfl)) ?_
                    obtain ⟨x49, hx49, h⟩ := obind_some h
                    refine TO_stepG rfl rfl rfl rfl hb48 (S_to rfl rfl (V_idxA (row := row27) rfl se22 if27 rfl rfl rfl hx49 rfl)) ?_
                    refine TO_stepG rfl rfl rfl rfl hb48 (S_to rfl rfl (V_fieldAddr rfl rfl (far27_0 _ _ _))) ?_
                    refine TO_stepG rfl rfl rfl rfl hb48 (S_to rfl rfl (V_loadR rfl rfl (map_get hx49) (loadD_one ok23 ag23 rfl))) ?_
                    refine TO_stepG rfl rfl rfl rfl hb48 (S_to rfl rfl (V_bin rfl rfl rfl b_neq)) ?_
                    refine TO_step rfl (S_to rfl rfl (V_pickF rfl rfl hb48 rfl rfl)) ?_
                    refine TO_nil ?_
                    exact TS_nil ⟨_, Option.some.inj h, ⟨⟨.inr rfl, .inr rfl, .inr rfl, trivial⟩, ⟨_, rfl⟩, rfl, rfl, rfl⟩⟩
            refine TS_loop (F4_L30 n t1) (fun (s : (Int × (List S27))) => [(11, (.gl 11 27 (s.2.map row27))), (12, (.d (.sc (.int .i64 s.1)))), (1, (.d (.sl (t1.map row27))))]) (fun (s : (Int × (List S27))) => [.box 45 [(.d (.sc (.int .i64 y4.2.f_At.f_Line))), (.d (.sc (.int .i64 y4.2.f_At.f_Col))), (.d (.sc (.int .i64 y4.2.f_Err)))]]) out30 hL30 ⟨⟨.inr rfl, .inr rfl, .inr rfl, trivial⟩, ⟨_, rfl⟩, rfl, rfl, rfl⟩ (fun _ => rfl) fun m30 s30 h => ?_
            rw [F4_L30] at h
            refine TS_seq ?_
            refine TS_seq ?_
            refine TS_region ?_
            refine TO_step rfl (S_to rfl rfl (V_move rfl rfl)) ?_
            refine TO_step rfl (S_to rfl rfl (V_move rfl rfl)) ?_
            refine TO_step rfl (S_to rfl rfl (V_lenM (row := row27) ⟨_, rfl, rfl, rfl, rfl⟩ se22 rfl rfl)) ?_
            refine TO_step rfl (S_to rfl rfl (V_bin rfl rfl rfl b_lss)) ?_
            refine TO_nil ?_
            rcases cond_some h with ⟨hb31, h⟩ | ⟨hb31, h⟩
            · refine TS_true rfl hb31 ?_
              refine TS_skip ?_
              refine TS_seq ?_
              refine TS_block ?_
              refine TS_seq ?_
              obtain ⟨v32, hv32, h⟩ := obind_some h
              refine TS_join (fun (v : (Bool)) => [(157, (.d (tb v))), (11, (.gl 11 27 (s30.2.map row27))), (12, (.d (.sc (.int .i64 s30.1)))), (1, (.d (.sl (t1.map row27))))]) (fun (v : (Bool)) => [.box 45 [(.d (.sc (.int .i64 y4.2.f_At.f_Line))), (.d (.sc (.int .i64 y4.2.f_At.f_Col))), (.d (.sc (.int .i64 y4.2.f_Err)))]]) v32 (.inl rfl) ?_ ?_
              · obtain ⟨v39, hv39, h⟩ := obind_some h
                refine TS_join (fun (v : ((List S27))) => [(11, (.gl 11 27 (v.map row27))), (12, (.d (.sc (.int .i64 s30.1)))), (1, (.d (.sl (t1.map row27))))]) (fun (v : ((List S27))) => [.box 45 [(.d (.sc (.int .i64 y4.2.f_At.f_Line))), (.d (.sc (.int .i64 y4.2.f_At.f_Col))), (.d (.sc (.int .i64 y4.2.f_Err)))]]) v39 (.inl rfl) ?_ ?_
                · refine TS_b ?_
                  refine TS_region ?_
                  refine TO_step rfl (S_to rfl rfl (V_move rfl rfl)) ?_
                  refine TO_step rfl (S_to rfl rfl (V_bin rfl rfl rfl b_add)) ?_
                  refine TO_step rfl (S_to rfl rfl (V_assign rfl rfl)) ?_
                  refine TO_nil ?_
                  exact TS_nil ⟨_, h, ⟨⟨.inr rfl, .inr rfl, .inr rfl, trivial⟩, ⟨_, rfl⟩, rfl, rfl, rfl⟩⟩
                · have h := hv39
                  rcases cond_some h with ⟨hb40, h⟩ | ⟨hb40, h⟩
                  · refine TS_true rfl hb40 ?_
                    refine TS_region ?_
                    refine TO_step rfl (S_to rfl rfl (V_move rfl rfl)) ?_
                    refine TO_step rfl (S_to rfl rfl (V_move rfl rfl)) ?_
                    refine TO_step rfl (S_to rfl rfl (V_move rfl rfl)) ?_
                    obtain ⟨x41, hx41, h⟩ := obind_some h
                    refine TO_step rfl (S_to rfl rfl (V_idxA (row := row27) rfl se22 if27 rfl rfl rfl hx41 rfl)) ?_
                    refine TO_step rfl (S_to rfl rfl (V_loadR rfl rfl (map_get hx41) (loadD_agg ok27 ag27 sz27 (show _ = [(.sc (.int .i64 x41.f_Kind)), (str x41.f_Text), (.sc (.int .i64 x41.f_N)), (.sc (.int .i64 x41.f_At.f_Line)), (.sc (.int .i64 x41.f_At.f_Col))] from rfl) rfl))) ?_
                    refine TO_step rfl (S_lit (l := ([x41] : List S27)) (row := row27) rfl rfl se22 rfl rfl rfl zr27 rfl) ?_
                    obtain ⟨x42, hx42, h⟩ := obind_some h
                    refine TO_step rfl (S_appM (row := row27) ⟨_, rfl, rfl, rfl, rfl⟩ rfl se22 rfl rfl rfl rz27 ap27 hx42 rfl) ?_
                    refine TO_step rfl (S_to rfl rfl (V_assign rfl rfl)) ?_
                    refine TO_nil ?_
                    exact TS_nil ⟨_, Option.some.inj h, ⟨⟨.inr rfl, .inr rfl, .inr rfl, trivial⟩, ⟨_, rfl⟩, rfl, rfl, rfl⟩⟩
                  · refine TS_false rfl hb40 ?_
                    refine TS_skip ?_
                    exact TS_nil ⟨_, Option.some.inj h, ⟨⟨.inr rfl, .inr rfl, .inr rfl, trivial⟩, ⟨_, rfl⟩, rfl, rfl, rfl⟩⟩
              · have h := hv32
                refine TS_region ?_
                refine TO_step rfl (S_to rfl rfl (V_move rfl rfl)) ?_
                refine TO_step rfl (S_to rfl rfl (V_move rfl rfl)) ?_
                obtain ⟨x33, hx33, h⟩ := obind_some h
                refine TO_step rfl (S_to rfl rfl (V_idxA (row := row27) rfl se22 if27 rfl rfl rfl hx33 rfl)) ?_
                refine TO_step rfl (S_to rfl rfl (V_fieldAddr rfl rfl (far27_1 _ _ _))) ?_
                refine TO_step rfl (S_to rfl rfl (V_loadR rfl rfl (map_get hx33) (loadD_one ok9 ag9 rfl))) ?_
                refine TO_step rfl (S_to rfl rfl (V_lenS ⟨_, rfl, rfl, rfl, rfl⟩ Tryd.underlying9 rfl)) ?_
                refine TO_step rfl (S_to rfl rfl (V_bin rfl rfl rfl b_leq)) ?_
                refine TO_step rfl (S_to rfl rfl (V_move rfl rfl)) ?_
                rcases cond_some h with ⟨hb34, h⟩ | ⟨hb34, h⟩
                · refine TO_stepG rfl rfl rfl rfl hb34 (S_to rfl rfl (V_move rfl rfl)) ?_
                  refine TO_stepG rfl rfl rfl rfl hb34 (S_to rfl rfl (V_move rfl rfl)) ?_
                  obtain ⟨x35, hx35, h⟩ := obind_some h
                  refine TO_stepG rfl rfl rfl rfl hb34 (S_to rfl rfl (V_idxA (row := row27) rfl se22 if27 rfl rfl rfl hx35 rfl)) ?_
                  refine TO_stepG rfl rfl rfl rfl hb34 (S_to rfl rfl (V_loadR rfl rfl (map_get hx35) (loadD_agg ok27 ag27 sz27 (show _ = [(.sc (.int .i64 x35.f_Kind)), (str x35.f_Text), (.sc (.int .i64 x35.f_N)), (.sc (.int .i64 x35.f_At.f_Line)), (.sc (.int .i64 x35.f_At.f_Col))] from rfl) rfl))) ?_
                  obtain ⟨y36, hy36, h⟩ := obind_some h
                  refine TO_stepG rfl rfl rfl rfl hb34 (S_st (S_call rfl rfl rfl rfl bd8 (F8_ok n x35 y36 hy36)) rfl rfl) ?_
                  refine TO_step rfl (S_to rfl rfl (V_pickT rfl rfl hb34 rfl rfl)) ?_
                  refine TO_step rfl (S_to rfl rfl (V_move rfl rfl)) ?_
                  rcases cond_some h with ⟨hb37, h⟩ | ⟨hb37, h⟩
                  · refine TO_stepG rfl rfl rfl rfl hb37 (S_to rfl rfl (V_move rfl rfl)) ?_
                    refine TO_stepG rfl rfl rfl rfl hb37 (S_to rfl rfl (V_move rfl rfl)) ?_
                    obtain ⟨x38, hx38, h⟩ := obind_some h
                    refine TO_stepG rfl rfl rfl rfl hb37 (S_to rfl rfl (V_idxA (row := row27) rfl se22 if27 rfl rfl rfl hx38 rfl)) ?_
                    refine TO_stepG rfl rfl rfl rfl hb37 (S_to rfl rfl (V_fieldAddr rfl rfl (far27_0 _ _ _))) ?_
                    refine TO_stepG rfl rfl rfl rfl hb37 (S_to rfl rfl (V_loadR rfl rfl (map_get hx38) (loadD_one ok23 ag23 rfl))) ?_
                    refine TO_stepG rfl rfl rfl rfl hb37 (S_to rfl rfl (V_bin rfl rfl rfl b_neq)) ?_
                    refine TO_step rfl (S_to rfl rfl (V_pickT rfl rfl hb37 rfl rfl)) ?_
                    refine TO_nil ?_
                    exact TS_nil ⟨_, Option.some.inj h, ⟨⟨.inr rfl, .inr rfl, .inr rfl, .inr rfl, trivial⟩, ⟨_, rfl⟩, rfl, rfl, rfl⟩⟩
                  · refine TO_skip rfl rfl rfl rfl hb37 ?_
                    refine TO_skip rfl rfl rfl rfl hb37 ?_
                    refine TO_skip rfl rfl rfl rfl hb37 ?_
                    refine TO_skip rfl rfl rfl rfl hb37 ?_
                    refine TO_skip rfl rfl rfl rfl hb37 ?_
                    refine TO_skip rfl rfl rfl rfl hb37 ?_
                    refine TO_step rfl (S_to rfl rfl (V_pickF rfl rfl hb37 rfl rfl)) ?_
                    refine TO_nil ?_
                    exact TS_nil ⟨_, Option.some.inj h, ⟨⟨.inr rfl, .inr rfl, .inr rfl, .inr rfl, trivial⟩, ⟨_, rfl⟩, rfl, rfl, rfl⟩⟩
                · refine TO_skip rfl rfl rfl rfl hb34 ?_
                  refine TO_skip rfl rfl rfl rfl hb34 ?_
                  refine TO_skip rfl rfl rfl rfl hb34 ?_
                  refine TO_skip rfl rfl rfl rfl hb34 ?_
                  refine TO_skip rfl rfl rfl rfl hb34 ?_
                  refine TO_step rfl (S_to rfl rfl (V_pickF rfl rfl hb34 rfl rfl)) ?_
                  refine TO_step rfl (S_to rfl rfl (V_move rfl rfl)) ?_
                  refine TO_skip rfl rfl rfl rfl rfl ?_
                  refine TO_skip rfl rfl rfl rfl rfl ?_
                  refine TO_skip rfl rfl rfl rfl rfl ?_
                  refine TO_skip rfl rfl rfl rfl rfl ?_
                  refine TO_skip rfl rfl rfl rfl rfl ?_
                  refine TO_skip rfl rfl rfl rfl rfl ?_
                  refine TO_step rfl (S_to rfl rfl (V_pickF rfl rfl rfl rfl rfl)) ?_
                  refine TO_nil ?_
                  exact TS_nil ⟨_, Option.some.inj h, ⟨⟨.inr rfl, .inr rfl, .inr rfl, .inr rfl, trivial⟩, ⟨_, rfl⟩, rfl, rfl, rfl⟩⟩
            · refine TS_false rfl hb31 ?_
              refine TS_exit ?_
              refine UX_c ?_
              refine UX_up ?_
              exact UX_less (.inl rfl) (kx30_0 _ (Option.some.inj h).symm) ⟨⟨.inr rfl, trivial⟩, ⟨_, rfl⟩, rfl, rfl, rfl⟩
        refine TS_loop (F4_L6 n t0 y4) (fun (s : (Int × Int)) => [(7, (.d (.sc (.int .i64 s.2)))), (8, (.d (.sc (.int .i64 s.1)))), (5, (.d (.sl (y4.1.map row27)))), (0, (.d (str t0))), (1, (.d (.sl (t1.map row27))))]) (fun (s : (Int × Int)) => [.box 45 [(.d (.sc (.int .i64 y4.2.f_At.f_Line))), (.d (.sc (.int .i64 y4.2.f_At.f_Col))), (.d (.sc (.int .i64 y4.2.f_Err)))]]) out6 hL6 ⟨⟨.inr rfl, .inr rfl, .inr rfl, .inr rfl, .inr rfl, trivial⟩, ⟨_, rfl⟩, rfl, rfl, rfl⟩ (fun _ => rfl) fun m6 s6 h => ?_
        rw [F4_L6] at h
        refine TS_seq ?_
        refine TS_seq ?_
        refine TS_region ?_
        refine TO_step rfl (S_to rfl rfl (V_move rfl rfl)) ?_
        refine TO_step rfl (S_to rfl rfl (V_move rfl rfl)) ?_
        refine TO_step rfl (S_to rfl rfl (V_lenM (row := row27) ⟨_, rfl, rfl, rfl, rfl⟩ se22 rfl rfl)) ?_
        refine TO_step rfl (S_to rfl rfl (V_bin rfl rfl rfl b_lss)) ?_
        refine TO_nil ?_
        rcases cond_some h with ⟨hb7, h⟩ | ⟨hb7, h⟩
        · refine TS_true rfl hb7 ?_
          refine TS_skip ?_
          refine TS_seq ?_
          refine TS_block ?_
          refine TS_seq ?_
          refine TS_region ?_
          refine TO_step rfl (S_to rfl rfl (V_move rfl rfl)) ?_
          refine TO_step rfl (S_to rfl rfl (V_move rfl rfl)) ?_
          refine TO_step rfl (S_to rfl rfl (V_move rfl rfl)) ?_
          obtain ⟨x8, hx8, h⟩ := obind_some h
          refine TO_step rfl (S_to rfl rfl (V_idxA (row := row27) rfl se22 if27 rfl rfl rfl hx8 rfl)) ?_
          refine TO_step rfl (S_to rfl rfl (V_fieldAddr rfl rfl (far27_3 _ _ _))) ?_
          refine TO_step rfl (S_to rfl rfl (V_loadR rfl rfl (map_get hx8) (loadD_agg ok25 ag25 sz25 (show _ = [(.sc (.int .i64 x8.f_At.f_Line)), (.sc (.int .i64 x8.f_At.f_Col))] from rfl) rfl))) ?_
          obtain ⟨y9, hy9, h⟩ := obind_some h
          refine TO_step rfl (S_st (S_call rfl rfl rfl rfl bd17 (F17_ok n t0 x8.f_At y9 hy9)) rfl rfl) ?_
          refine TO_step rfl (S_to rfl rfl (V_move rfl rfl)) ?_
          refine TO_step rfl (S_to rfl rfl (V_extract rfl rfl rfl)) ?_
          refine TO_step rfl (S_to rfl rfl (V_extract rfl rfl rfl)) ?_
          refine TO_step rfl (S_to rfl rfl (V_assign rfl rfl)) ?_
          refine TO_step rfl (S_to rfl rfl (V_assign rfl rfl)) ?_
          refine TO_nil ?_
          refine TS_seq ?_
          refine TS_seq ?_
          obtain ⟨v10, hv10, h⟩ := obind_some h
          refine TS_join (fun (v : (Bool)) => [(117, (.d (tb v))), (9, (.d (.sc (.int .i64 y9.1)))), (8, (.d (.sc (.int .i64 s6.1)))), (5, (.d (.sl (y4.1.map row27)))), (0, (.d (str t0))), (1, (.d (.sl (t1.map row27))))]) (fun (v : (Bool)) => [.box 45 [(.d (.sc (.int .i64 y4.2.f_At.f_Line))), (.d (.sc (.int .i64 y4.2.f_At.f_Col))), (.d (.sc (.int .i64 y4.2.f_Err)))]]) v10 (.inl rfl) ?_ ?_
          · rcases cond_some h with ⟨hb26, h⟩ | ⟨hb26, h⟩
            · refine TS_true rfl hb26 ?_
              refine TS_seq ?_
              refine TS_region ?_
              refine TO_step rfl (S_to rfl rfl (V_assign rfl rfl)) ?_
              refine TO_nil ?_
              refine TS_ret ?_
              refine ret_up ?_
              have h := kr6 _ (Option.some.inj h).symm
              cases h
              exact ⟨trivial, _, _, (resEs_cons (resE_tmp rfl rfl) resEs_nil), rfl, (Wk.refl _)⟩
            · refine TS_false rfl hb26 ?_
              refine TS_skip ?_
              refine TS_region ?_
              refine TO_step rfl (S_to rfl rfl (V_move rfl rfl)) ?_
              refine TO_step rfl (S_to rfl rfl (V_move rfl rfl)) ?_
              refine TO_step rfl (S_to rfl rfl (V_move rfl rfl)) ?_
              obtain ⟨x27, hx27, h⟩ := obind_some h
              refine TO_step rfl (S_to rfl rfl (V_idxA (row := row27) rfl se22 if27 rfl rfl rfl hx27 rfl)) ?_
              refine TO_step rfl (S_to rfl rfl (V_fieldAddr rfl rfl (far27_1 _ _ _))) ?_
              refine TO_step rfl (S_to rfl rfl (V_loadR rfl rfl (map_get hx27) (loadD_one ok9 ag9 rfl))) ?_
              refine TO_step rfl (S_to rfl rfl (V_lenS ⟨_, rfl, rfl, rfl, rfl⟩ Tryd.underlying9 rfl)) ?_
              refine TO_step rfl (S_to rfl rfl (V_bin rfl rfl rfl b_add)) ?_
              refine TO_step rfl (S_to rfl rfl (V_assign rfl rfl)) ?_
              refine TO_nil ?_
              refine TS_b ?_
              refine TS_region ?_
              refine TO_step rfl (S_to rfl rfl (V_move rfl rfl)) ?_
              refine TO_step rfl (S_to rfl rfl (V_bin rfl rfl rfl b_add)) ?_
              refine TO_step rfl (S_to rfl rfl (V_assign rfl rfl)) ?_
              refine TO_nil ?_
              exact TS_nil ⟨_, h, ⟨⟨.inr rfl, .inr rfl, .inr rfl, .inr rfl, .inr rfl, trivial⟩, ⟨_, rfl⟩, rfl, rfl, rfl⟩⟩
          · have h := hv10
            rcases cond_some h with ⟨hb11, h⟩ | ⟨hb11, h⟩
            · refine TS_draw (envF_ok (L := []) (fun x hx => by cases hx)) (by kernel_rfl : Tryd.prog.follows .mixedOrders = true) (by decide +kernel) ?_
              refine TD_step rfl (D_V rfl (V_move rfl rfl)) ((foot_mk _ _).trans (show _ = Foot.no from rfl)) ?_
              refine TD_step rfl (D_V rfl (V_un rfl rfl u_not)) ((foot_mk _ _).trans (show _ = Foot.no from rfl)) ?_
              refine TD_step rfl (D_V rfl (V_move rfl rfl)) ((foot_mk _ _).trans (show _ = Foot.no from rfl)) ?_
              refine TD_skip rfl rfl rfl rfl hb11 ?_
              refine TD_skip rfl rfl rfl rfl hb11 ?_
              refine TD_skip rfl rfl rfl rfl hb11 ?_
              refine TD_step rfl (D_V rfl (V_pickT rfl rfl hb11 rfl rfl)) ((foot_mk _ _).trans (show _ = Foot.no from rfl)) ?_
              refine TD_step rfl (D_V rfl (V_move rfl rfl)) ((foot_mk _ _).trans (show _ = Foot.no from rfl)) ?_
              refine TD_skip rfl rfl rfl rfl rfl ?_
              refine TD_skip rfl rfl rfl rfl rfl ?_
              refine TD_skip rfl rfl rfl rfl rfl ?_
              refine TD_skip rfl rfl rfl rfl rfl ?_
              refine TD_skip rfl rfl rfl rfl rfl ?_
              refine TD_skip rfl rfl rfl rfl rfl ?_
              refine TD_skip rfl rfl rfl rfl rfl ?_
              refine TD_skip rfl rfl rfl rfl rfl ?_
              refine TD_skip rfl rfl rfl rfl rfl ?_
              refine TD_skip rfl rfl rfl rfl rfl ?_
              refine TD_skip rfl rfl rfl rfl rfl ?_
              refine TD_step rfl (D_V rfl (V_pickT rfl rfl rfl rfl rfl)) ((foot_mk _ _).trans (show _ = Foot.no from rfl)) ?_
              refine TD_step rfl (D_V rfl (V_move rfl rfl)) ((foot_mk _ _).trans (show _ = Foot.no from rfl)) ?_
              refine TD_skip rfl rfl rfl rfl rfl ?_
              refine TD_skip rfl rfl rfl rfl rfl ?_
              refine TD_skip rfl rfl rfl rfl rfl ?_
              refine TD_skip rfl rfl rfl rfl rfl ?_
              refine TD_skip rfl rfl rfl rfl rfl ?_
              refine TD_skip rfl rfl rfl rfl rfl ?_
              refine TD_skip rfl rfl rfl rfl rfl ?_
              refine TD_skip rfl rfl rfl rfl rfl ?_
              refine TD_skip rfl rfl rfl rfl rfl ?_
              refine TD_skip rfl rfl rfl rfl rfl ?_
              refine TD_skip rfl rfl rfl rfl rfl ?_
              refine TD_skip rfl rfl rfl rfl rfl ?_
              refine TD_skip rfl rfl rfl rfl rfl ?_
              refine TD_skip rfl rfl rfl rfl rfl ?_
              refine TD_skip rfl rfl rfl rfl rfl ?_
              refine TD_skip rfl rfl rfl rfl rfl ?_
              refine TD_skip rfl rfl rfl rfl rfl ?_
              refine TD_step rfl (D_V rfl (V_pickT rfl rfl rfl rfl rfl)) ((foot_mk _ _).trans (show _ = Foot.no from rfl)) ?_
              refine TD_step rfl (D_V rfl (V_move rfl rfl)) ((foot_mk _ _).trans (show _ = Foot.no from rfl)) ?_
              refine TD_skip rfl rfl rfl rfl rfl ?_
              refine TD_skip rfl rfl rfl rfl rfl ?_
              refine TD_skip rfl rfl rfl rfl rfl ?_
              refine TD_skip rfl rfl rfl rfl rfl ?_
              refine TD_skip rfl rfl rfl rfl rfl ?_
              refine TD_skip rfl rfl rfl rfl rfl ?_
              refine TD_step rfl (D_V rfl (V_pickT rfl rfl rfl rfl rfl)) ((foot_mk _ _).trans (show _ = Foot.no from rfl)) ?_
              refine TD_step rfl (D_V rfl (V_move rfl rfl)) ((foot_mk _ _).trans (show _ = Foot.no from rfl)) ?_
              refine TD_skip rfl rfl rfl rfl rfl ?_
              refine TD_skip rfl rfl rfl rfl rfl ?_
              refine TD_skip rfl rfl rfl rfl rfl ?_
              refine TD_skip rfl rfl rfl rfl rfl ?_
              refine TD_skip rfl rfl rfl rfl rfl ?_
              refine TD_skip rfl rfl rfl rfl rfl ?_
              refine TD_step rfl (D_V rfl (V_pickT rfl rfl rfl rfl rfl)) ((foot_mk _ _).trans (show _ = Foot.no from rfl)) ?_
              refine TD_step rfl (D_V rfl (V_move rfl rfl)) ((foot_mk _ _).trans (show _ = Foot.no from rfl)) ?_
              refine TD_skip rfl rfl rfl rfl rfl ?_
              refine TD_skip rfl rfl rfl rfl rfl ?_
              refine TD_skip rfl rfl rfl rfl rfl ?_
              refine TD_skip rfl rfl rfl rfl rfl ?_
              refine TD_skip rfl rfl rfl rfl rfl ?_
              refine TD_skip rfl rfl rfl rfl rfl ?_
              refine TD_skip rfl rfl rfl rfl rfl ?_
              refine TD_skip rfl rfl rfl rfl rfl ?_
              refine TD_skip rfl rfl rfl rfl rfl ?_
              refine TD_skip rfl rfl rfl rfl rfl ?_
              refine TD_skip rfl rfl rfl rfl rfl ?_
              refine TD_skip rfl rfl rfl rfl rfl ?_
              refine TD_step rfl (D_V rfl (V_pickT rfl rfl rfl rfl rfl)) ((foot_mk _ _).trans (show _ = Foot.no from rfl)) ?_
              refine TD_nil ⟨by decide +kernel, ?_⟩
              exact TS_nil ⟨_, Option.some.inj h, ⟨⟨.inr rfl, .inr rfl, .inr rfl, .inr rfl, .inr rfl, .inr rfl, trivial⟩, ⟨_, rfl⟩, rfl, rfl, rfl⟩⟩
            · rcases cond_some h with ⟨hb12, h⟩ | ⟨hb12, h⟩
              · refine TS_draw (envF_ok (L := []) (fun x hx => by cases hx)) (by kernel_rfl : Tryd.prog.follows .mixedOrders = true) (by decide +kernel) ?_
                refine TD_step rfl (D_V rfl (V_move rfl rfl)) ((foot_mk _ _).trans (show _ = Foot.no from rfl)) ?_
                refine TD_step rfl (D_V rfl (V_un rfl rfl u_not)) ((foot_mk _ _).trans (show _ = Foot.no from rfl)) ?_
                refine TD_step rfl (D_V rfl (V_move rfl rfl)) ((foot_mk _ _).trans (show _ = Foot.no from rfl)) ?_
                refine TD_stepG rfl rfl rfl rfl hb11 (D_V rfl (V_move rfl rfl)) ((foot_mk _ _).trans (show _ = Foot.no from rfl)) ?_
                refine TD_stepG rfl rfl rfl rfl hb11 (D_V rfl (V_move rfl rfl)) ((foot_mk _ _).trans (show _ = Foot.no from rfl)) ?_
                refine TD_stepG rfl rfl rfl rfl hb11 (D_V rfl (V_bin rfl rfl rfl b_lss)) ((foot_mk _ _).trans (show _ = Foot.no from rfl)) ?_
                refine TD_step rfl (D_V rfl (V_pickF rfl rfl hb11 rfl rfl)) ((foot_mk _ _).trans (show _ = Foot.no from rfl)) ?_
                refine TD_step rfl (D_V rfl (V_move rfl rfl)) ((foot_mk _ _).trans (show _ = Foot.no from rfl)) ?_
                refine TD_skip rfl rfl rfl rfl hb12 ?_
                refine TD_skip rfl rfl rfl rfl hb12 ?_
                refine TD_skip rfl rfl rfl rfl hb12 ?_
                refine TD_skip rfl rfl rfl rfl hb12 ?_
                refine TD_skip rfl rfl rfl rfl hb12 ?_
                refine TD_skip rfl rfl rfl rfl hb12 ?_
                refine TD_skip rfl rfl rfl rfl hb12 ?_
                refine TD_skip rfl rfl rfl rfl hb12 ?_
                refine TD_skip rfl rfl rfl rfl hb12 ?_
                refine TD_skip rfl rfl rfl rfl hb12 ?_
                refine TD_skip rfl rfl rfl rfl hb12 ?_
                refine TD_step rfl (D_V rfl (V_pickT rfl rfl hb12 rfl rfl)) ((foot_mk _ _).trans (show _ = Foot.no from rfl)) ?_
                refine TD_step rfl (D_V rfl (V_move rfl rfl)) ((foot_mk _ _).trans (show _ = Foot.no from rfl)) ?_
                refine TD_skip rfl rfl rfl rfl rfl ?_
                refine TD_skip rfl rfl rfl rfl rfl ?_
                refine TD_skip rfl rfl rfl rfl rfl ?_
                refine TD_skip rfl rfl rfl rfl rfl ?_
                refine TD_skip rfl rfl rfl rfl rfl ?_
                refine TD_skip rfl rfl rfl rfl rfl ?_
                refine TD_skip rfl rfl rfl rfl rfl ?_
                refine TD_skip rfl rfl rfl rfl rfl ?_
                refine TD_skip rfl rfl rfl rfl rfl ?_
                refine TD_skip rfl rfl rfl rfl rfl ?_
                refine TD_skip rfl rfl rfl rfl rfl ?_
                refine TD_skip rfl rfl rfl rfl rfl ?_
                refine TD_skip rfl rfl rfl rfl rfl ?_
                refine TD_skip rfl rfl rfl rfl rfl ?_
                refine TD_skip rfl rfl rfl rfl rfl ?_
                refine TD_skip rfl rfl rfl rfl rfl ?_
                refine TD_skip rfl rfl rfl rfl rfl ?_
                refine TD_step rfl (D_V rfl (V_pickT rfl rfl rfl rfl rfl)) ((foot_mk _ _).trans (show _ = Foot.no from rfl)) ?_
                refine TD_step rfl (D_V rfl (V_move rfl rfl)) ((foot_mk _ _).trans (show _ = Foot.no from rfl)) ?_
                refine TD_skip rfl rfl rfl rfl rfl ?_
                refine TD_skip rfl rfl rfl rfl rfl ?_
                refine TD_skip rfl rfl rfl rfl rfl ?_
                refine TD_skip rfl rfl rfl rfl rfl ?_
                refine TD_skip rfl rfl rfl rfl rfl ?_
                refine TD_skip rfl rfl rfl rfl rfl ?_
                refine TD_step rfl (D_V rfl (V_pickT rfl rfl rfl rfl rfl)) ((foot_mk _ _).trans (show _ = Foot.no from rfl)) ?_
                refine TD_step rfl (D_V rfl (V_move rfl rfl)) ((foot_mk _ _).trans (show _ = Foot.no from rfl)) ?_
                refine TD_skip rfl rfl rfl rfl rfl ?_
                refine TD_skip rfl rfl rfl rfl rfl ?_
                refine TD_skip rfl rfl rfl rfl rfl ?_
                refine TD_skip rfl rfl rfl rfl rfl ?_
                refine TD_skip rfl rfl rfl rfl rfl ?_
                refine TD_skip rfl rfl rfl rfl rfl ?_
                refine TD_step rfl (D_V rfl (V_pickT rfl rfl rfl rfl rfl)) ((foot_mk _ _).trans (show _ = Foot.no from rfl)) ?_
                refine TD_step rfl (D_V rfl (V_move rfl rfl)) ((foot_mk _ _).trans (show _ = Foot.no from rfl)) ?_
                refine TD_skip rfl rfl rfl rfl rfl ?_
                refine TD_skip rfl rfl rfl rfl rfl ?_
                refine TD_skip rfl rfl rfl rfl rfl ?_
                refine TD_skip rfl rfl rfl rfl rfl ?_
                refine TD_skip rfl rfl rfl rfl rfl ?_
                refine TD_skip rfl rfl rfl rfl rfl ?_
                refine TD_skip rfl rfl rfl rfl rfl ?_
                refine TD_skip rfl rfl rfl rfl rfl ?_
                refine TD_skip rfl rfl rfl rfl rfl ?_
                refine TD_skip rfl rfl rfl rfl rfl ?_
                refine TD_skip rfl rfl rfl rfl rfl ?_
                refine TD_skip rfl rfl rfl rfl rfl ?_
                refine TD_step rfl (D_V rfl (V_pickT rfl rfl rfl rfl rfl)) ((foot_mk _ _).trans (show _ = Foot.no from rfl)) ?_
                refine TD_nil ⟨by decide +kernel, ?_⟩
                exact TS_nil ⟨_, Option.some.inj h, ⟨⟨.inr rfl, .inr rfl, .inr rfl, .inr rfl, .inr rfl, .inr rfl, trivial⟩, ⟨_, rfl⟩, rfl, rfl, rfl⟩⟩
              · obtain ⟨x13, hx13, h⟩ := obind_some h
                rcases cond_some h with ⟨hb14, h⟩ | ⟨hb14, h⟩
                · refine TS_draw (envF_ok (L := []) (fun x hx => by cases hx)) (by kernel_rfl : Tryd.prog.follows .mixedOrders = true) (by decide +kernel) ?_
                  refine TD_step rfl (D_V rfl (V_move rfl rfl)) ((foot_mk _ _).trans (show _ = Foot.no from rfl)) ?_
                  refine TD_step rfl (D_V rfl (V_un rfl rfl u_not)) ((foot_mk _ _).trans (show _ = Foot.no from rfl)) ?_
                  refine TD_step rfl (D_V rfl (V_move rfl rfl)) ((foot_mk _ _).trans (show _ = Foot.no from rfl)) ?_
                  refine TD_stepG rfl rfl rfl rfl hb11 (D_V rfl (V_move rfl rfl)) ((foot_mk _ _).trans (show _ = Foot.no from rfl)) ?_
                  refine TD_stepG rfl rfl rfl rfl hb11 (D_V rfl (V_move rfl rfl)) ((foot_mk _ _).trans (show _ = Foot.no from rfl)) ?_
                  refine TD_stepG rfl rfl rfl rfl hb11 (D_V rfl (V_bin rfl rfl rfl b_lss)) ((foot_mk _ _).trans (show _ = Foot.no from rfl)) ?_
                  refine TD_step rfl (D_V rfl (V_pickF rfl rfl hb11 rfl rfl)) ((foot_mk _ _).trans (show _ = Foot.no from rfl)) ?_
                  refine TD_step rfl (D_V rfl (V_move rfl rfl)) ((foot_mk _ _).trans (show _ = Foot.no from rfl)) ?_
                  refine TD_stepG rfl rfl rfl rfl hb12 (D_V rfl (V_move rfl rfl)) ((foot_mk _ _).trans (show _ = Foot.no from rfl)) ?_
                  refine TD_stepG rfl rfl rfl rfl hb12 (D_V rfl (V_move rfl rfl)) ((foot_mk _ _).trans (show _ = Foot.no from rfl)) ?_
                  refine TD_stepG rfl rfl rfl rfl hb12 (D_V rfl (V_move rfl rfl)) ((foot_mk _ _).trans (show _ = Foot.no from rfl)) ?_
                  refine TD_stepG rfl rfl rfl rfl hb12 (D_V rfl (V_idxA (row := row27) rfl se22 if27 rfl rfl rfl hx13 rfl)) ((foot_mk _ _).trans (show _ = Foot.no from rfl)) ?_
                  refine TD_stepG rfl rfl rfl rfl hb12 (D_V rfl (V_fieldAddr rfl rfl (far27_1 _ _ _))) ((foot_mk _ _).trans (show _ = Foot.no from rfl)) ?_
                  refine TD_stepG rfl rfl rfl rfl hb12 (D_V rfl (V_loadR rfl rfl (map_get hx13) (loadD_one ok9 ag9 rfl))) ((foot_mk _ _).trans (show _ = Foot.no from rfl)) ?_
                  refine TD_stepG rfl rfl rfl rfl hb12 (D_V rfl (V_lenS ⟨_, rfl, rfl, rfl, rfl⟩ Tryd.underlying9 rfl)) ((foot_mk _ _).trans (show _ = Foot.no from rfl)) ?_
                  refine TD_stepG rfl rfl rfl rfl hb12 (D_V rfl (V_bin rfl rfl rfl b_add)) ((foot_mk _ _).trans (show _ = Foot.no from rfl)) ?_
                  refine TD_stepG rfl rfl rfl rfl hb12 (D_V rfl (V_move rfl rfl)) ((foot_mk _ _).trans (show _ = Foot.no from rfl)) ?_
                  refine TD_stepG rfl rfl rfl rfl hb12 (D_V rfl (V_lenS ⟨_, rfl, rfl, rfl, rfl⟩ Tryd.underlying9 rfl)) ((foot_mk _ _).trans (show _ = Foot.no from rfl)) ?_
                  refine TD_stepG rfl rfl rfl rfl hb12 (D_V rfl (V_bin rfl rfl rfl b_gtr)) ((foot_mk _ _).trans (show _ = Foot.no from rfl)) ?_
                  refine TD_step rfl (D_V rfl (V_pickF rfl rfl hb12 rfl rfl)) ((foot_mk _ _).trans (show _ = Foot.no from rfl)) ?_
                  refine TD_step rfl (D_V rfl (V_move rfl rfl)) ((foot_mk _ _).trans (show _ = Foot.no from rfl)) ?_
                  refine TD_skip rfl rfl rfl rfl hb14 ?_
                  refine TD_skip rfl rfl rfl rfl hb14 ?_
                  refine TD_skip rfl rfl rfl rfl hb14 ?_
                  refine TD_skip rfl rfl rfl rfl hb14 ?_
                  refine TD_skip rfl rfl rfl rfl hb14 ?_
                  refine TD_skip rfl rfl rfl rfl hb14 ?_
                  refine TD_skip rfl rfl rfl rfl hb14 ?_
                  refine TD_skip rfl rfl rfl rfl hb14 ?_
                  refine TD_skip rfl rfl rfl rfl hb14 ?_
                  refine TD_skip rfl rfl rfl rfl hb14 ?_
                  refine TD_skip rfl rfl rfl rfl hb14 ?_
                  refine TD_skip rfl rfl rfl rfl hb14 ?_
                  refine TD_skip rfl rfl rfl rfl hb14 ?_
                  refine TD_skip rfl rfl rfl rfl hb14 ?_
                  refine TD_skip rfl rfl rfl rfl hb14 ?_
                  refine TD_skip rfl rfl rfl rfl hb14 ?_
                  refine TD_skip rfl rfl rfl rfl hb14 ?_
                  refine TD_step rfl (D_V rfl (V_pickT rfl rfl hb14 rfl rfl)) ((foot_mk _ _).trans (show _ = Foot.no from rfl)) ?_
                  refine TD_step rfl (D_V rfl (V_move rfl rfl)) ((foot_mk _ _).trans (show _ = Foot.no from rfl)) ?_
                  refine TD_skip rfl rfl rfl rfl rfl ?_
                  refine TD_skip rfl rfl rfl rfl rfl ?_
                  refine TD_skip rfl rfl rfl rfl rfl ?_
                  refine TD_skip rfl rfl rfl rfl rfl ?_
                  refine TD_skip rfl rfl rfl rfl rfl ?_
                  refine TD_skip rfl rfl rfl rfl rfl ?_
                  refine TD_step rfl (D_V rfl (V_pickT rfl rfl rfl rfl rfl)) ((foot_mk _ _).trans (show _ = Foot.no from rfl)) ?_
                  refine TD_step rfl (D_V rfl (V_move rfl rfl)) ((foot_mk _ _).trans (show _ = Foot.no from rfl)) ?_
                  refine TD_skip rfl rfl rfl rfl rfl ?_
                  refine TD_skip rfl rfl rfl rfl rfl ?_
                  refine TD_skip rfl rfl rfl rfl rfl ?_
                  refine TD_skip rfl rfl rfl rfl rfl ?_
                  refine TD_skip rfl rfl rfl rfl rfl ?_
                  refine TD_skip rfl rfl rfl rfl rfl ?_
                  refine TD_step rfl (D_V rfl (V_pickT rfl rfl rfl rfl rfl)) ((foot_mk _ _).trans (show _ = Foot.no from rfl)) ?_
                  refine TD_step rfl (D_V rfl (V_move rfl rfl)) ((foot_mk _ _).trans (show _ = Foot.no from rfl)) ?_
                  refine TD_skip rfl rfl rfl rfl rfl ?_
                  refine TD_skip rfl rfl rfl rfl rfl ?_
                  refine TD_skip rfl rfl rfl rfl rfl ?_
                  refine TD_skip rfl rfl rfl rfl rfl ?_
                  refine TD_skip rfl rfl rfl rfl rfl ?_
                  refine TD_skip rfl rfl rfl rfl rfl ?_
                  refine TD_skip rfl rfl rfl rfl rfl ?_
                  refine TD_skip rfl rfl rfl rfl rfl ?_
                  refine TD_skip rfl rfl rfl rfl rfl ?_
                  refine TD_skip rfl rfl rfl rfl rfl ?_
                  refine TD_skip rfl rfl rfl rfl rfl ?_
                  refine TD_skip rfl rfl rfl rfl rfl ?_
                  refine TD_step rfl (D_V rfl (V_pickT rfl rfl rfl rfl rfl)) ((foot_mk _ _).trans (show _ = Foot.no from rfl)) ?_
                  refine TD_nil ⟨by decide +kernel, ?_⟩
                  exact TS_nil ⟨_, Option.some.inj h, ⟨⟨.inr rfl, .inr rfl, .inr rfl, .inr rfl, .inr rfl, .inr rfl, trivial⟩, ⟨_, rfl⟩, rfl, rfl, rfl⟩⟩
                · obtain ⟨x15, hx15, h⟩ := obind_some h
                  obtain ⟨x16, hx16, h⟩ := obind_some h
                  obtain ⟨x17, hx17, h⟩ := obind_some h
                  rcases cond_some h with ⟨hb18, h⟩ | ⟨hb18, h⟩
                  · refine TS_draw (envF_ok (L := []) (fun x hx => by cases hx)) (by kernel_rfl : Tryd.prog.follows .mixedOrders = true) (by decide +kernel) ?_
                    refine TD_step rfl (D_V rfl (V_move rfl rfl)) ((foot_mk _ _).trans (show _ = Foot.no from rfl)) ?_
                    refine TD_step rfl (D_V rfl (V_un rfl rfl u_not)) ((foot_mk _ _).trans (show _ = Foot.no from rfl)) ?_
                    refine TD_step rfl (D_V rfl (V_move rfl rfl)) ((foot_mk _ _).trans (show _ = Foot.no from rfl)) ?_
                    refine TD_stepG rfl rfl rfl rfl hb11 (D_V rfl (V_move rfl rfl)) ((foot_mk _ _).trans (show _ = Foot.no from rfl)) ?_
                    refine TD_stepG rfl rfl rfl rfl hb11 (D_V rfl (V_move rfl rfl)) ((foot_mk _ _).trans (show _ = Foot.no from rfl)) ?_
                    refine TD_stepG rfl rfl rfl rfl hb11 (D_V rfl (V_bin rfl rfl rfl b_lss)) ((foot_mk _ _).trans (show _ = Foot.no from rfl)) ?_
                    refine TD_step rfl (D_V rfl (V_pickF rfl rfl hb11 rfl rfl)) ((foot_mk _ _).trans (show _ = Foot.no from rfl)) ?_
                    refine TD_step rfl (D_V rfl (V_move rfl rfl)) ((foot_mk _ _).trans (show _ = Foot.no from rfl)) ?_
                    refine TD_stepG rfl rfl rfl rfl hb12 (D_V rfl (V_move rfl rfl)) ((foot_mk _ _).trans (show _ = Foot.no from rfl)) ?_
                    refine TD_stepG rfl rfl rfl rfl hb12 (D_V rfl (V_move rfl rfl)) ((foot_mk _ _).trans (show _ = Foot.no from rfl)) ?_
                    refine TD_stepG rfl rfl rfl rfl hb12 (D_V rfl (V_move rfl rfl)) ((foot_mk _ _).trans (show _ = Foot.no from rfl)) ?_
                    refine TD_stepG rfl rfl rfl rfl hb12 (D_V rfl (V_idxA (row := row27) rfl se22 if27 rfl rfl rfl hx13 rfl)) ((foot_mk _ _).trans (show _ = Foot.no from rfl)) ?_
                    refine TD_stepG rfl rfl rfl rfl hb12 (D_V rfl (V_fieldAddr rfl rfl (far27_1 _ _ _))) ((foot_mk _ _).trans (show _ = Foot.no from rfl)) ?_
                    refine TD_stepG rfl rfl rfl rfl hb12 (D_V rfl (V_loadR rfl rfl (map_get hx13) (loadD_one ok9 ag9 rfl))) ((foot_mk _ _).trans (show _ = Foot.no from rfl)) ?_
                    refine TD_stepG rfl rfl rfl rfl hb12 (D_V rfl (V_lenS ⟨_, rfl, rfl, rfl, rfl⟩ Tryd.underlying9 rfl)) ((foot_mk _ _).trans (show _ = Foot.no from rfl)) ?_
                    refine TD_stepG rfl rfl rfl rfl hb12 (D_V rfl (V_bin rfl rfl rfl b_add)) ((foot_mk _ _).trans (show _ = Foot.no from rfl)) ?_
                    refine TD_stepG rfl rfl rfl rfl hb12 (D_V rfl (V_move rfl rfl)) ((foot_mk _ _).trans (show _ = Foot.no from rfl)) ?_
                    refine TD_stepG rfl rfl rfl rfl hb12 (D_V rfl (V_lenS ⟨_, rfl, rfl, rfl, rfl⟩ Tryd.underlying9 rfl)) ((foot_mk _ _).trans (show _ = Foot.no from rfl)) ?_
                    refine TD_stepG rfl rfl rfl rfl hb12 (D_V rfl (V_bin rfl rfl rfl b_gtr)) ((foot_mk _ _).trans (show _ = Foot.no from rfl)) ?_
                    refine TD_step rfl (D_V rfl (V_pickF rfl rfl hb12 rfl rfl)) ((foot_mk _ _).trans (show _ = Foot.no from rfl)) ?_
                    refine TD_step rfl (D_V rfl (V_move rfl rfl)) ((foot_mk _ _).trans (show _ = Foot.no from rfl)) ?_
                    refine TD_stepG rfl rfl rfl rfl hb14 (D_V rfl (V_move rfl rfl)) ((foot_mk _ _).trans (show _ = Foot.no from rfl)) ?_
                    refine TD_stepG rfl rfl rfl rfl hb14 (D_V rfl (V_move rfl rfl)) ((foot_mk _ _).trans (show _ = Foot.no from rfl)) ?_
                    refine TD_stepG rfl rfl rfl rfl hb14 (D_V rfl (V_move rfl rfl)) ((foot_mk _ _).trans (show _ = Foot.no from rfl)) ?_
                    refine TD_stepG rfl rfl rfl rfl hb14 (D_V rfl (V_move rfl rfl)) ((foot_mk _ _).trans (show _ = Foot.no from rfl)) ?_
                    refine TD_stepG rfl rfl rfl rfl hb14 (D_V rfl (V_move rfl rfl)) ((foot_mk _ _).trans (show _ = Foot.no from rfl)) ?_
                    refine TD_stepG rfl rfl rfl rfl hb14 (D_V rfl (V_idxA (row := row27) rfl se22 if27 rfl rfl rfl hx15 rfl)) ((foot_mk _ _).trans (show _ = Foot.no from rfl)) ?_
                    refine TD_stepG rfl rfl rfl rfl hb14 (D_V rfl (V_fieldAddr rfl rfl (far27_1 _ _ _))) ((foot_mk _ _).trans (show _ = Foot.no from rfl)) ?_
                    refine TD_stepG rfl rfl rfl rfl hb14 (D_V rfl (V_loadR rfl rfl (map_get hx15) (loadD_one ok9 ag9 rfl))) ((foot_mk _ _).trans (show _ = Foot.no from rfl)) ?_
                    refine TD_stepG rfl rfl rfl rfl hb14 (D_V rfl (V_lenS ⟨_, rfl, rfl, rfl, rfl⟩ Tryd.underlying9 rfl)) ((foot_mk _ _).trans (show _ = Foot.no from rfl)) ?_
                    refine TD_stepG rfl rfl rfl rfl hb14 (D_V rfl (V_bin rfl rfl rfl b_add)) ((foot_mk _ _).trans (show _ = Foot.no from rfl)) ?_
                    refine TD_stepG rfl rfl rfl rfl hb14 (D_V rfl (V_cutS rfl Tryd.underlying9 rfl rfl rfl hx16)) ((foot_mk _ _).trans (show _ = Foot.no from rfl)) ?_
                    refine TD_stepG rfl rfl rfl rfl hb14 (D_V rfl (V_move rfl rfl)) ((foot_mk _ _).trans (show _ = Foot.no from rfl)) ?_
                    refine TD_stepG rfl rfl rfl rfl hb14 (D_V rfl (V_move rfl rfl)) ((foot_mk _ _).trans (show _ = Foot.no from rfl)) ?_
                    refine TD_stepG rfl rfl rfl rfl hb14 (D_V rfl (V_idxA (row := row27) rfl se22 if27 rfl rfl rfl hx17 rfl)) ((foot_mk _ _).trans (show _ = Foot.no from rfl)) ?_
                    refine TD_stepG rfl rfl rfl rfl hb14 (D_V rfl (V_fieldAddr rfl rfl (far27_1 _ _ _))) ((foot_mk _ _).trans (show _ = Foot.no from rfl)) ?_
                    refine TD_stepG rfl rfl rfl rfl hb14 (D_V rfl (V_loadR rfl rfl (map_get hx17) (loadD_one ok9 ag9 rfl))) ((foot_mk _ _).trans (show _ = Foot.no from rfl)) ?_
                    refine TD_stepG rfl rfl rfl rfl hb14 (D_V rfl (V_bin rfl rfl rfl bs_neq)) ((foot_mk _ _).trans (show _ = Foot.no from rfl)) ?_
                    refine TD_step rfl (D_V rfl (V_pickF rfl rfl hb14 rfl rfl)) ((foot_mk _ _).trans (show _ = Foot.no from rfl)) ?_
                    refine TD_step rfl (D_V rfl (V_move rfl rfl)) ((foot_mk _ _).trans (show _ = Foot.no from rfl)) ?_
                    refine TD_skip rfl rfl rfl rfl hb18 ?_
                    refine TD_skip rfl rfl rfl rfl hb18 ?_
                    refine TD_skip rfl rfl rfl rfl hb18 ?_
                    refine TD_skip rfl rfl rfl rfl hb18 ?_
                    refine TD_skip rfl rfl rfl rfl hb18 ?_
                    refine TD_skip rfl rfl rfl rfl hb18 ?_
                    refine TD_step rfl (D_V rfl (V_pickT rfl rfl hb18 rfl rfl)) ((foot_mk _ _).trans (show _ = Foot.no from rfl)) ?_
                    refine TD_step rfl (D_V rfl (V_move rfl rfl)) ((foot_mk _ _).trans (show _ = Foot.no from rfl)) ?_
                    refine TD_skip rfl rfl rfl rfl rfl ?_
                    refine TD_skip rfl rfl rfl rfl rfl ?_
                    refine TD_skip rfl rfl rfl rfl rfl ?_
                    refine TD_skip rfl rfl rfl rfl rfl ?_
                    refine TD_skip rfl rfl rfl rfl rfl ?_
                    refine TD_skip rfl rfl rfl rfl rfl ?_
                    refine TD_step rfl (D_V rfl (V_pickT rfl rfl rfl rfl rfl)) ((foot_mk _ _).trans (show _ = Foot.no from rfl)) ?_
                    refine TD_step rfl (D_V rfl (V_move rfl rfl)) ((foot_mk _ _).trans (show _ = Foot.no from rfl)) ?_
                    refine TD_skip rfl rfl rfl rfl rfl ?_
                    refine TD_skip rfl rfl rfl rfl rfl ?_
                    refine TD_skip rfl rfl rfl rfl rfl ?_
                    refine TD_skip rfl rfl rfl rfl rfl ?_
                    refine TD_skip rfl rfl rfl rfl rfl ?_
                    refine TD_skip rfl rfl rfl rfl rfl ?_
                    refine TD_skip rfl rfl rfl rfl rfl ?_
                    refine TD_skip rfl rfl rfl rfl rfl ?_
                    refine TD_skip rfl rfl rfl rfl rfl ?_
                    refine TD_skip rfl rfl rfl rfl rfl ?_
                    refine TD_skip rfl rfl rfl rfl rfl ?_
                    refine TD_skip rfl rfl rfl rfl rfl ?_
                    refine TD_step rfl (D_V rfl (V_pickT rfl rfl rfl rfl rfl)) ((foot_mk _ _).trans (show _ = Foot.no from rfl)) ?_
                    refine TD_nil ⟨by decide +kernel, ?_⟩
                    exact TS_nil ⟨_, Option.some.inj h, ⟨⟨.inr rfl, .inr rfl, .inr rfl, .inr rfl, .inr rfl, .inr rfl, trivial⟩, ⟨_, rfl⟩, rfl, rfl, rfl⟩⟩
                  · obtain ⟨x19, hx19, h⟩ := obind_some h
                    obtain ⟨y20, hy20, h⟩ := obind_some h
                    rcases cond_some h with ⟨hb21, h⟩ | ⟨hb21, h⟩
                    · refine TS_draw (envF_ok (L := [(18, [(str x19)], (tb y20))]) (by simp only [List.forall_mem_cons]; exact ⟨(F18_ok n x19 y20 hy20), fun _ hx => by cases hx⟩)) (by kernel_rfl : Tryd.prog.follows .mixedOrders = true) (by decide +kernel) ?_
                      refine TD_step rfl (D_V rfl (V_move rfl rfl)) ((foot_mk _ _).trans (show _ = Foot.no from rfl)) ?_
                      refine TD_step rfl (D_V rfl (V_un rfl rfl u_not)) ((foot_mk _ _).trans (show _ = Foot.no from rfl)) ?_
                      refine TD_step rfl (D_V rfl (V_move rfl rfl)) ((foot_mk _ _).trans (show _ = Foot.no from rfl)) ?_
                      refine TD_stepG rfl rfl rfl rfl hb11 (D_V rfl (V_move rfl rfl)) ((foot_mk _ _).trans (show _ = Foot.no from rfl)) ?_
                      refine TD_stepG rfl rfl rfl rfl hb11 (D_V rfl (V_move rfl rfl)) ((foot_mk _ _).trans (show _ = Foot.no from rfl)) ?_
                      refine TD_stepG rfl rfl rfl rfl hb11 (D_V rfl (V_bin rfl rfl rfl b_lss)) ((foot_mk _ _).trans (show _ = Foot.no from rfl)) ?_
                      refine TD_step rfl (D_V rfl (V_pickF rfl rfl hb11 rfl rfl)) ((foot_mk _ _).trans (show _ = Foot.no from rfl)) ?_
                      refine TD_step rfl (D_V rfl (V_move rfl rfl)) ((foot_mk _ _).trans (show _ = Foot.no from rfl)) ?_
                      refine TD_stepG rfl rfl rfl rfl hb12 (D_V rfl (V_move rfl rfl)) ((foot_mk _ _).trans (show _ = Foot.no from rfl)) ?_
                      refine TD_stepG rfl rfl rfl rfl hb12 (D_V rfl (V_move rfl rfl)) ((foot_mk _ _).trans (show _ = Foot.no from rfl)) ?_
                      refine TD_stepG rfl rfl rfl rfl hb12 (D_V rfl (V_move rfl rfl)) ((foot_mk _ _).trans (show _ = Foot.no from rfl)) ?_
                      refine TD_stepG rfl rfl rfl rfl hb12 (D_V rfl (V_idxA (row := row27) rfl se22 if27 rfl rfl rfl hx13 rfl)) ((foot_mk _ _).trans (show _ = Foot.no from rfl)) ?_
                      refine TD_stepG rfl rfl rfl rfl hb12 (D_V rfl (V_fieldAddr rfl rfl (far27_1 _ _ _))) ((foot_mk _ _).trans (show _ = Foot.no from rfl)) ?_
                      refine TD_stepG rfl rfl rfl rfl hb12 (D_V rfl (V_loadR rfl rfl (map_get hx13) (loadD_one ok9 ag9 rfl))) ((foot_mk _ _).trans (show _ = Foot.no from rfl)) ?_
                      refine TD_stepG rfl rfl rfl rfl hb12 (D_V rfl (V_lenS ⟨_, rfl, rfl, rfl, rfl⟩ Tryd.underlying9 rfl)) ((foot_mk _ _).trans (show _ = Foot.no from rfl)) ?_
                      refine TD_stepG rfl rfl rfl rfl hb12 (D_V rfl (V_bin rfl rfl rfl b_add)) ((foot_mk _ _).trans (show _ = Foot.no from rfl)) ?_
                      refine TD_stepG rfl rfl rfl rfl hb12 (D_V rfl (V_move rfl rfl)) ((foot_mk _ _).trans (show _ = Foot.no from rfl)) ?_
                      refine TD_stepG rfl rfl rfl rfl hb12 (D_V rfl (V_lenS ⟨_, rfl, rfl, rfl, rfl⟩ Tryd.underlying9 rfl)) ((foot_mk _ _).trans (show _ = Foot.no from rfl)) ?_
                      refine TD_stepG rfl rfl rfl rfl hb12 (D_V rfl (V_bin rfl rfl rfl b_gtr)) ((foot_mk _ _).trans (show _ = Foot.no from rfl)) ?_
                      refine TD_step rfl (D_V rfl (V_pickF rfl rfl hb12 rfl rfl)) ((foot_mk _ _).trans (show _ = Foot.no from rfl)) ?_
                      refine TD_step rfl (D_V rfl (V_move rfl rfl)) ((foot_mk _ _).trans (show _ = Foot.no from rfl)) ?_
                      refine TD_stepG rfl rfl rfl rfl hb14 (D_V rfl (V_move rfl rfl)) ((foot_mk _ _).trans (show _ = Foot.no from rfl)) ?_
                      refine TD_stepG rfl rfl rfl rfl hb14 (D_V rfl (V_move rfl rfl)) ((foot_mk _ _).trans (show _ = Foot.no from rfl)) ?_
                      refine TD_stepG rfl rfl rfl rfl hb14 (D_V rfl (V_move rfl rfl)) ((foot_mk _ _).trans (show _ = Foot.no from rfl)) ?_
                      refine TD_stepG rfl rfl rfl rfl hb14 (D_V rfl (V_move rfl rfl)) ((foot_mk _ _).trans (show _ = Foot.no from rfl)) ?_
                      refine TD_stepG rfl rfl rfl rfl hb14 (D_V rfl (V_move rfl rfl)) ((foot_mk _ _).trans (show _ = Foot.no from rfl)) ?_
                      refine TD_stepG rfl rfl rfl rfl hb14 (D_V rfl (V_idxA (row := row27) rfl se22 if27 rfl rfl rfl hx15 rfl)) ((foot_mk _ _).trans (show _ = Foot.no from rfl)) ?_
                      refine TD_stepG rfl rfl rfl rfl hb14 (D_V rfl (V_fieldAddr rfl rfl (far27_1 _ _ _))) ((foot_mk _ _).trans (show _ = Foot.no from rfl)) ?_
                      refine TD_stepG rfl rfl rfl rfl hb14 (D_V rfl (V_loadR rfl rfl (map_get hx15) (loadD_one ok9 ag9 rfl))) ((foot_mk _ _).trans (show _ = Foot.no from rfl)) ?_
                      refine TD_stepG rfl rfl rfl rfl hb14 (D_V rfl (V_lenS ⟨_, rfl, rfl, rfl, rfl⟩ Tryd.underlying9 rfl)) ((foot_mk _ _).trans (show _ = Foot.no from rfl)) ?_
                      refine TD_stepG rfl rfl rfl rfl hb14 (D_V rfl (V_bin rfl rfl rfl b_add)) ((foot_mk _ _).trans (show _ = Foot.no from rfl)) ?_
                      refine TD_stepG rfl rfl rfl rfl hb14 (D_V rfl (V_cutS rfl Tryd.underlying9 rfl rfl rfl hx16)) ((foot_mk _ _).trans (show _ = Foot.no from rfl)) ?_
                      refine TD_stepG rfl rfl rfl rfl hb14 (D_V rfl (V_move rfl rfl)) ((foot_mk _ _).trans (show _ = Foot.no from rfl)) ?_
                      refine TD_stepG rfl rfl rfl rfl hb14 (D_V rfl (V_move rfl rfl)) ((foot_mk _ _).trans (show _ = Foot.no from rfl)) ?_
                      refine TD_stepG rfl rfl rfl rfl hb14 (D_V rfl (V_idxA (row := row27) rfl se22 if27 rfl rfl rfl hx17 rfl)) ((foot_mk _ _).trans (show _ = Foot.no from rfl)) ?_
                      refine TD_stepG rfl rfl rfl rfl hb14 (D_V rfl (V_fieldAddr rfl rfl (far27_1 _ _ _))) ((foot_mk _ _).trans (show _ = Foot.no from rfl)) ?_
                      refine TD_stepG rfl rfl rfl rfl hb14 (D_V rfl (V_loadR rfl rfl (map_get hx17) (loadD_one ok9 ag9 rfl))) ((foot_mk _ _).trans (show _ = Foot.no from rfl)) ?_
                      refine TD_stepG rfl rfl rfl rfl hb14 (D_V rfl (V_bin rfl rfl rfl bs_neq)) ((foot_mk _ _).trans (show _ = Foot.no from rfl)) ?_
                      refine TD_step rfl (D_V rfl (V_pickF rfl rfl hb14 rfl rfl)) ((foot_mk _ _).trans (show _ = Foot.no from rfl)) ?_
                      refine TD_step rfl (D_V rfl (V_move rfl rfl)) ((foot_mk _ _).trans (show _ = Foot.no from rfl)) ?_
                      refine TD_stepG rfl rfl rfl rfl hb18 (D_V rfl (V_move rfl rfl)) ((foot_mk _ _).trans (show _ = Foot.no from rfl)) ?_
                      refine TD_stepG rfl rfl rfl rfl hb18 (D_V rfl (V_move rfl rfl)) ((foot_mk _ _).trans (show _ = Foot.no from rfl)) ?_
                      refine TD_stepG rfl rfl rfl rfl hb18 (D_V rfl (V_move rfl rfl)) ((foot_mk _ _).trans (show _ = Foot.no from rfl)) ?_
                      refine TD_stepG rfl rfl rfl rfl hb18 (D_V rfl (V_cutS rfl Tryd.underlying9 rfl rfl rfl hx19)) ((foot_mk _ _).trans (show _ = Foot.no from rfl)) ?_
                      refine TD_stepG rfl rfl rfl rfl hb18 (D_call rfl rfl rfl (show _ = some [(str x19)] from rfl) bd18 (envF_at (r := (tb y20)) (by simp) (by intro r' hr'; simpa using hr'))) ((foot_mk _ _).trans (show _ = Foot.no from rfl)) ?_
                      refine TD_stepG rfl rfl rfl rfl hb18 (D_V rfl (V_un rfl rfl u_not)) ((foot_mk _ _).trans (show _ = Foot.no from rfl)) ?_
                      refine TD_step rfl (D_V rfl (V_pickF rfl rfl hb18 rfl rfl)) ((foot_mk _ _).trans (show _ = Foot.no from rfl)) ?_
                      refine TD_step rfl (D_V rfl (V_move rfl rfl)) ((foot_mk _ _).trans (show _ = Foot.no from rfl)) ?_
                      refine TD_skip rfl rfl rfl rfl hb21 ?_
                      refine TD_skip rfl rfl rfl rfl hb21 ?_
                      refine TD_skip rfl rfl rfl rfl hb21 ?_
                      refine TD_skip rfl rfl rfl rfl hb21 ?_
                      refine TD_skip rfl rfl rfl rfl hb21 ?_
                      refine TD_skip rfl rfl rfl rfl hb21 ?_
                      refine TD_step rfl (D_V rfl (V_pickT rfl rfl hb21 rfl rfl)) ((foot_mk _ _).trans (show _ = Foot.no from rfl)) ?_
                      refine TD_step rfl (D_V rfl (V_move rfl rfl)) ((foot_mk _ _).trans (show _ = Foot.no from rfl)) ?_
                      refine TD_skip rfl rfl rfl rfl rfl ?_
                      refine TD_skip rfl rfl rfl rfl rfl ?_
                      refine TD_skip rfl rfl rfl rfl rfl ?_
                      refine TD_skip rfl rfl rfl rfl rfl ?_
                      refine TD_skip rfl rfl rfl rfl rfl ?_
                      refine TD_skip rfl rfl rfl rfl rfl ?_
                      refine TD_skip rfl rfl rfl rfl rfl ?_
                      refine TD_skip rfl rfl rfl rfl rfl ?_
                      refine TD_skip rfl rfl rfl rfl rfl ?_
                      refine TD_skip rfl rfl rfl rfl rfl ?_
                      refine TD_skip rfl rfl rfl rfl rfl ?_
                      refine TD_skip rfl rfl rfl rfl rfl ?_
                      refine TD_step rfl (D_V rfl (V_pickT rfl rfl rfl rfl rfl)) ((foot_mk _ _).trans (show _ = Foot.no from rfl)) ?_
                      refine TD_nil ⟨by decide +kernel, ?_⟩
                      exact TS_nil ⟨_, Option.some.inj h, ⟨⟨.inr rfl, .inr rfl, .inr rfl, .inr rfl, .inr rfl, .inr rfl, trivial⟩, ⟨_, rfl⟩, rfl, rfl, rfl⟩⟩
                    · obtain ⟨x22, hx22, h⟩ := obind_some h
                      obtain ⟨y23, hy23, h⟩ := obind_some h
                      rcases cond_some h with ⟨hb24, h⟩ | ⟨hb24, h⟩
                      · refine TS_draw (envF_ok (L := [(18, [(str x19)], (tb y20)), (8, [(.agg [(.sc (.int .i64 x22.f_Kind)), (str x22.f_Text), (.sc (.int .i64 x22.f_N)), (.sc (.int .i64 x22.f_At.f_Line)), (.sc (.int .i64 x22.f_At.f_Col))])], (tb y23))]) (by simp only [List.forall_mem_cons]; exact ⟨(F18_ok n x19 y20 hy20), (F8_ok n x22 y23 hy23), fun _ hx => by cases hx⟩)) (by kernel_rfl : Tryd.prog.follows .mixedOrders = true) (by decide +kernel) ?_
                        refine TD_step rfl (D_V rfl (V_move rfl rfl)) ((foot_mk _ _).trans (show _ = Foot.no from rfl)) ?_
                        refine TD_step rfl (D_V rfl (V_un rfl rfl u_not)) ((foot_mk _ _).trans (show _ = Foot.no from rfl)) ?_
                        refine TD_step rfl (D_V rfl (V_move rfl rfl)) ((foot_mk _ _).trans (show _ = Foot.no from rfl)) ?_
                        refine TD_stepG rfl rfl rfl rfl hb11 (D_V rfl (V_move rfl rfl)) ((foot_mk _ _).trans (show _ = Foot.no from rfl)) ?_
                        refine TD_stepG rfl rfl rfl rfl hb11 (D_V rfl (V_move rfl rfl)) ((foot_mk _ _).trans (show _ = Foot.no from rfl)) ?_
                        refine TD_stepG rfl rfl rfl rfl hb11 (D_V rfl (V_bin rfl rfl rfl b_lss)) ((foot_mk _ _).trans (show _ = Foot.no from rfl)) ?_
                        refine TD_step rfl (D_V rfl (V_pickF rfl rfl hb11 rfl rfl)) ((foot_mk _ _).trans (show _ = Foot.no from rfl)) ?_
                        refine TD_step rfl (D_V rfl (V_move rfl rfl)) ((foot_mk _ _).trans (show _ = Foot.no from rfl)) ?_
                        refine TD_stepG rfl rfl rfl rfl hb12 (D_V rfl (V_move rfl rfl)) ((foot_mk _ _).trans (show _ = Foot.no from rfl)) ?_
                        refine TD_stepG rfl rfl rfl rfl hb12 (D_V rfl (V_move rfl rfl)) ((foot_mk _ _).trans (show _ = Foot.no from rfl)) ?_
                        refine TD_stepG rfl rfl rfl rfl hb12 (D_V rfl (V_move rfl rfl)) ((foot_mk _ _).trans (show _ = Foot.no from rfl)) ?_
                        refine TD_stepG rfl rfl rfl rfl hb12 (D_V rfl (V_idxA (row := row27) rfl se22 if27 rfl rfl rfl hx13 rfl)) ((foot_mk _ _).trans (show _ = Foot.no from rfl)) ?_
                        refine TD_stepG rfl rfl rfl rfl hb12 (D_V rfl (V_fieldAddr rfl rfl (far27_1 _ _ _))) ((foot_mk _ _).trans (show _ = Foot.no from rfl)) ?_
                        refine TD_stepG rfl rfl rfl rfl hb12 (D_V rfl (V_loadR rfl rfl (map_get hx13) (loadD_one ok9 ag9 rfl))) ((foot_mk _ _).trans (show _ = Foot.no from rfl)) ?_
                        refine TD_stepG rfl rfl rfl rfl hb12 (D_V rfl (V_lenS ⟨_, rfl, rfl, rfl, rfl⟩ Tryd.underlying9 rfl)) ((foot_mk _ _).trans (show _ = Foot.no from rfl)) ?_
                        refine TD_stepG rfl rfl rfl rfl hb12 (D_V rfl (V_bin rfl rfl rfl b_add)) ((foot_mk _ _).trans (show _ = Foot.no from rfl)) ?_
                        refine TD_stepG rfl rfl rfl rfl hb12 (D_V rfl (V_move rfl rfl)) ((foot_mk _ _).trans (show _ = Foot.no from rfl)) ?_
                        refine TD_stepG rfl rfl rfl rfl hb12 (D_V rfl (V_lenS ⟨_, rfl, rfl, rfl, rfl⟩ Tryd.underlying9 rfl)) ((foot_mk _ _).trans (show _ = Foot.no from rfl)) ?_
                        refine TD_stepG rfl rfl rfl rfl hb12 (D_V rfl (V_bin rfl rfl rfl b_gtr)) ((foot_mk _ _).trans (show _ = Foot.no from rfl)) ?_
                        refine TD_step rfl (D_V rfl (V_pickF rfl rfl hb12 rfl rfl)) ((foot_mk _ _).trans (show _ = Foot.no from rfl)) ?_
                        refine TD_step rfl (D_V rfl (V_move rfl rfl)) ((foot_mk _ _).trans (show _ = Foot.no from rfl)) ?_
                        refine TD_stepG rfl rfl rfl rfl hb14 (D_V rfl (V_move rfl rfl)) ((foot_mk _ _).trans (show _ = Foot.no from rfl)) ?_
                        refine TD_stepG rfl rfl rfl rfl hb14 (D_V rfl (V_move rfl rfl)) ((foot_mk _ _).trans (show _ = Foot.no from rfl)) ?_
                        refine TD_stepG rfl rfl rfl rfl hb14 (D_V rfl (V_move rfl rfl)) ((foot_mk _ _).trans (show _ = Foot.no from rfl)) ?_
                        refine TD_stepG rfl rfl rfl rfl hb14 (D_V rfl (V_move rfl rfl)) ((foot_mk _ _).trans (show _ = Foot.no from rfl)) ?_
                        refine TD_stepG rfl rfl rfl rfl hb14 (D_V rfl (V_move rfl rfl)) ((foot_mk _ _).trans (show _ = Foot.no from rfl)) ?_
                        refine TD_stepG rfl rfl rfl rfl hb14 (D_V rfl (V_idxA (row := row27) rfl se22 if27 rfl rfl rfl hx15 rfl)) ((foot_mk _ _).trans (show _ = Foot.no from rfl)) ?_
                        refine TD_stepG rfl rfl rfl rfl hb14 (D_V rfl (V_fieldAddr rfl rfl (far27_1 _ _ _))) ((foot_mk _ _).trans (show _ = Foot.no from rfl)) ?_
                        refine TD_stepG rfl rfl rfl rfl hb14 (D_V rfl (V_loadR rfl rfl (map_get hx15) (loadD_one ok9 ag9 rfl))) ((foot_mk _ _).trans (show _ = Foot.no from rfl)) ?_
                        refine TD_stepG rfl rfl rfl rfl hb14 (D_V rfl (V_lenS ⟨_, rfl, rfl, rfl, rfl⟩ Tryd.underlying9 rfl)) ((foot_mk _ _).trans (show _ = Foot.no from rfl)) ?_
                        refine TD_stepG rfl rfl rfl rfl hb14 (D_V rfl (V_bin rfl rfl rfl b_add)) ((foot_mk _ _).trans (show _ = Foot.no from rfl)) ?_
                        refine TD_stepG rfl rfl rfl rfl hb14 (D_V rfl (V_cutS rfl Tryd.underlying9 rfl rfl rfl hx16)) ((foot_mk _ _).trans (show _ = Foot.no from rfl)) ?_
                        refine TD_stepG rfl rfl rfl rfl hb14 (D_V rfl (V_move rfl rfl)) ((foot_mk _ _).trans (show _ = Foot.no from rfl)) ?_
                        refine TD_stepG rfl rfl rfl rfl hb14 (D_V rfl (V_move rfl rfl)) ((foot_mk _ _).trans (show _ = Foot.no from rfl)) ?_
                        refine TD_stepG rfl rfl rfl rfl hb14 (D_V rfl (V_idxA (row := row27) rfl se22 if27 rfl rfl rfl hx17 rfl)) ((foot_mk _ _).trans (show _ = Foot.no from rfl)) ?_
                        refine TD_stepG rfl rfl rfl rfl hb14 (D_V rfl (V_fieldAddr rfl rfl (far27_1 _ _ _))) ((foot_mk _ _).trans (show _ = Foot.no from rfl)) ?_
                        refine TD_stepG rfl rfl rfl rfl hb14 (D_V rfl (V_loadR rfl rfl (map_get hx17) (loadD_one ok9 ag9 rfl))) ((foot_mk _ _).trans (show _ = Foot.no from rfl)) ?_
                        refine TD_stepG rfl rfl rfl rfl hb14 (D_V rfl (V_bin rfl rfl rfl bs_neq)) ((foot_mk _ _).trans (show _ = Foot.no from rfl)) ?_
                        refine TD_step rfl (D_V rfl (V_pickF rfl rfl hb14 rfl rfl)) ((foot_mk _ _).trans (show _ = Foot.no from rfl)) ?_
                        refine TD_step rfl (D_V rfl (V_move rfl rfl)) ((foot_mk _ _).trans (show _ = Foot.no from rfl)) ?_
                        refine TD_stepG rfl rfl rfl rfl hb18 (D_V rfl (V_move rfl rfl)) ((foot_mk _ _).trans (show _ = Foot.no from rfl)) ?_
                        refine TD_stepG rfl rfl rfl rfl hb18 (D_V rfl (V_move rfl rfl)) ((foot_mk _ _).trans (show _ = Foot.no from rfl)) ?_
                        refine TD_stepG rfl rfl rfl rfl hb18 (D_V rfl (V_move rfl rfl)) ((foot_mk _ _).trans (show _ = Foot.no from rfl)) ?_
                        refine TD_stepG rfl rfl rfl rfl hb18 (D_V rfl (V_cutS rfl Tryd.underlying9 rfl rfl rfl hx19)) ((foot_mk _ _).trans (show _ = Foot.no from rfl)) ?_
                        refine TD_stepG rfl rfl rfl rfl hb18 (D_call rfl rfl rfl (show _ = some [(str x19)] from rfl) bd18 (envF_at (r := (tb y20)) (by simp) (by intro r' hr'; simpa using hr'))) ((foot_mk _ _).trans (show _ = Foot.no from rfl)) ?_
                        refine TD_stepG rfl rfl rfl rfl hb18 (D_V rfl (V_un rfl rfl u_not)) ((foot_mk _ _).trans (show _ = Foot.no from rfl)) ?_
                        refine TD_step rfl (D_V rfl (V_pickF rfl rfl hb18 rfl rfl)) ((foot_mk _ _).trans (show _ = Foot.no from rfl)) ?_
                        refine TD_step rfl (D_V rfl (V_move rfl rfl)) ((foot_mk _ _).trans (show _ = Foot.no from rfl)) ?_
                        refine TD_stepG rfl rfl rfl rfl hb21 (D_V rfl (V_move rfl rfl)) ((foot_mk _ _).trans (show _ = Foot.no from rfl)) ?_
                        refine TD_stepG rfl rfl rfl rfl hb21 (D_V rfl (V_move rfl rfl)) ((foot_mk _ _).trans (show _ = Foot.no from rfl)) ?_
                        refine TD_stepG rfl rfl rfl rfl hb21 (D_V rfl (V_idxA (row := row27) rfl se22 if27 rfl rfl rfl hx22 rfl)) ((foot_mk _ _).trans (show _ = Foot.no from rfl)) ?_
                        refine TD_stepG rfl rfl rfl rfl hb21 (D_V rfl (V_loadR rfl rfl (map_get hx22) (loadD_agg ok27 ag27 sz27 (show _ = [(.sc (.int .i64 x22.f_Kind)), (str x22.f_Text), (.sc (.int .i64 x22.f_N)), (.sc (.int .i64 x22.f_At.f_Line)), (.sc (.int .i64 x22.f_At.f_Col))] from rfl) rfl))) ((foot_mk _ _).trans (show _ = Foot.no from rfl)) ?_
                        refine TD_stepG rfl rfl rfl rfl hb21 (D_call rfl rfl rfl (show _ = some [(.agg [(.sc (.int .i64 x22.f_Kind)), (str x22.f_Text), (.sc (.int .i64 x22.f_N)), (.sc (.int .i64 x22.f_At.f_Line)), (.sc (.int .i64 x22.f_At.f_Col))])] from rfl) bd8 (envF_at (r := (tb y23)) (by simp) (by intro r' hr'; simpa using hr'))) ((foot_mk _ _).trans (show _ = Foot.no from rfl)) ?_
                        refine TD_stepG rfl rfl rfl rfl hb21 (D_V rfl (V_un rfl rfl u_not)) ((foot_mk _ _).trans (show _ = Foot.no from rfl)) ?_
                        refine TD_step rfl (D_V rfl (V_pickF rfl rfl hb21 rfl rfl)) ((foot_mk _ _).trans (show _ = Foot.no from rfl)) ?_
                        refine TD_step rfl (D_V rfl (V_move rfl rfl)) ((foot_mk _ _).trans (show _ = Foot.no from rfl)) ?_
                        refine TD_skip rfl rfl rfl rfl hb24 ?_
                        refine TD_skip rfl rfl rfl rfl hb24 ?_
                        refine TD_skip rfl rfl rfl rfl hb24 ?_
                        refine TD_skip rfl rfl rfl rfl hb24 ?_
                        refine TD_skip rfl rfl rfl rfl hb24 ?_
                        refine TD_skip rfl rfl rfl rfl hb24 ?_
                        refine TD_skip rfl rfl rfl rfl hb24 ?_
                        refine TD_skip rfl rfl rfl rfl hb24 ?_
                        refine TD_skip rfl rfl rfl rfl hb24 ?_
                        refine TD_skip rfl rfl rfl rfl hb24 ?_
                        refine TD_skip rfl rfl rfl rfl hb24 ?_
                        refine TD_skip rfl rfl rfl rfl hb24 ?_
                        refine TD_step rfl (D_V rfl (V_pickT rfl rfl hb24 rfl rfl)) ((foot_mk _ _).trans (show _ = Foot.no from rfl)) ?_
                        refine TD_nil ⟨by decide +kernel, ?_⟩
                        exact TS_nil ⟨_, Option.some.inj h, ⟨⟨.inr rfl, .inr rfl, .inr rfl, .inr rfl, .inr rfl, .inr rfl, trivial⟩, ⟨_, rfl⟩, rfl, rfl, rfl⟩⟩
                      · obtain ⟨x25, hx25, h⟩ := obind_some h
                        refine TS_draw (envF_ok (L := [(18, [(str x19)], (tb y20)), (8, [(.agg [(.sc (.int .i64 x22.f_Kind)), (str x22.f_Text), (.sc (.int .i64 x22.f_N)), (.sc (.int .i64 x22.f_At.f_Line)), (.sc (.int .i64 x22.f_At.f_Col))])], (tb y23))]) (by simp only [List.forall_mem_cons]; exact ⟨(F18_ok n x19 y20 hy20), (F8_ok n x22 y23 hy23), fun _ hx => by cases hx⟩)) (by kernel_rfl : Tryd.prog.follows .mixedOrders = true) (by decide +kernel) ?_
                        refine TD_step rfl (D_V rfl (V_move rfl rfl)) ((foot_mk _ _).trans (show _ = Foot.no from rfl)) ?_
                        refine TD_step rfl (D_V rfl (V_un rfl rfl u_not)) ((foot_mk _ _).trans (show _ = Foot.no from rfl)) ?_
                        refine TD_step rfl (D_V rfl (V_move rfl rfl)) ((foot_mk _ _).trans (show _ = Foot.no from rfl)) ?_
                        refine TD_stepG rfl rfl rfl rfl hb11 (D_V rfl (V_move rfl rfl)) ((foot_mk _ _).trans (show _ = Foot.no from rfl)) ?_
                        refine TD_stepG rfl rfl rfl rfl hb11 (D_V rfl (V_move rfl rfl)) ((foot_mk _ _).trans (show _ = Foot.no from rfl)) ?_
                        refine TD_stepG rfl rfl rfl rfl hb11 (D_V rfl (V_bin rfl rfl rfl b_lss)) ((foot_mk _ _).trans (show _ = Foot.no from rfl)) ?_
                        refine TD_step rfl (D_V rfl (V_pickF rfl rfl hb11 rfl rfl)) ((foot_mk _ _).trans (show _ = Foot.no from rfl)) ?_
                        refine TD_step rfl (D_V rfl (V_move rfl rfl)) ((foot_mk _ _).trans (show _ = Foot.no from rfl)) ?_
                        refine TD_stepG rfl rfl rfl rfl hb12 (D_V rfl (V_move rfl rfl)) ((foot_mk _ _).trans (show _ = Foot.no from rfl)) ?_
                        refine TD_stepG rfl rfl rfl rfl hb12 (D_V rfl (V_move rfl rfl)) ((foot_mk _ _).trans (show _ = Foot.no from rfl)) ?_
                        refine TD_stepG rfl rfl rfl rfl hb12 (D_V rfl (V_move rfl rfl)) ((foot_mk _ _).trans (show _ = Foot.no from rfl)) ?_
                        refine TD_stepG rfl rfl rfl rfl hb12 (D_V rfl (V_idxA (row := row27) rfl se22 if27 rfl rfl rfl hx13 rfl)) ((foot_mk _ _).trans (show _ = Foot.no from rfl)) ?_
                        refine TD_stepG rfl rfl rfl rfl hb12 (D_V rfl (V_fieldAddr rfl rfl (far27_1 _ _ _))) ((foot_mk _ _).trans (show _ = Foot.no from rfl)) ?_
                        refine TD_stepG rfl rfl rfl rfl hb12 (D_V rfl (V_loadR rfl rfl (map_get hx13) (loadD_one ok9 ag9 rfl))) ((foot_mk _ _).trans (show _ = Foot.no from rfl)) ?_
                        refine TD_stepG rfl rfl rfl rfl hb12 (D_V rfl (V_lenS ⟨_, rfl, rfl, rfl, rfl⟩ Tryd.underlying9 rfl)) ((foot_mk _ _).trans (show _ = Foot.no from rfl)) ?_
                        refine TD_stepG rfl rfl rfl rfl hb12 (D_V rfl (V_bin rfl rfl rfl b_add)) ((foot_mk _ _).trans (show _ = Foot.no from rfl)) ?_
                        refine TD_stepG rfl rfl rfl rfl hb12 (D_V rfl (V_move rfl rfl)) ((foot_mk _ _).trans (show _ = Foot.no from rfl)) ?_
                        refine TD_stepG rfl rfl rfl rfl hb12 (D_V rfl (V_lenS ⟨_, rfl, rfl, rfl, rfl⟩ Tryd.underlying9 rfl)) ((foot_mk _ _).trans (show _ = Foot.no from rfl)) ?_
                        refine TD_stepG rfl rfl rfl rfl hb12 (D_V rfl (V_bin rfl rfl rfl b_gtr)) ((foot_mk _ _).trans (show _ = Foot.no from rfl)) ?_
                        refine TD_step rfl (D_V rfl (V_pickF rfl rfl hb12 rfl rfl)) ((foot_mk _ _).trans (show _ = Foot.no from rfl)) ?_
                        refine TD_step rfl (D_V rfl (V_move rfl rfl)) ((foot_mk _ _).trans (show _ = Foot.no from rfl)) ?_
                        refine TD_stepG rfl rfl rfl rfl hb14 (D_V rfl (V_move rfl rfl)) ((foot_mk _ _).trans (show _ = Foot.no from rfl)) ?_
                        refine TD_stepG rfl rfl rfl rfl hb14 (D_V rfl (V_move rfl rfl)) ((foot_mk _ _).trans (show _ = Foot.no from rfl)) ?_
                        refine TD_stepG rfl rfl rfl rfl hb14 (D_V rfl (V_move rfl rfl)) ((foot_mk _ _).trans (show _ = Foot.no from rfl)) ?_
                        refine TD_stepG rfl rfl rfl rfl hb14 (D_V rfl (V_move rfl rfl)) ((foot_mk _ _).trans (show _ = Foot.no from rfl)) ?_
                        refine TD_stepG rfl rfl rfl rfl hb14 (D_V rfl (V_move rfl rfl)) ((foot_mk _ _).trans (show _ = Foot.no from rfl)) ?_
                        refine TD_stepG rfl rfl rfl rfl hb14 (D_V rfl (V_idxA (row := row27) rfl se22 if27 rfl rfl rfl hx15 rfl)) ((foot_mk _ _).trans (show _ = Foot.no from rfl)) ?_
                        refine TD_stepG rfl rfl rfl rfl hb14 (D_V rfl (V_fieldAddr rfl rfl (far27_1 _ _ _))) ((foot_mk _ _).trans (show _ = Foot.no from rfl)) ?_
                        refine TD_stepG rfl rfl rfl rfl hb14 (D_V rfl (V_loadR rfl rfl (map_get hx15) (loadD_one ok9 ag9 rfl))) ((foot_mk _ _).trans (show _ = Foot.no from rfl)) ?_
                        refine TD_stepG rfl rfl rfl rfl hb14 (D_V rfl (V_lenS ⟨_, rfl, rfl, rfl, rfl⟩ Tryd.underlying9 rfl)) ((foot_mk _ _).trans (show _ = Foot.no from rfl)) ?_
                        refine TD_stepG rfl rfl rfl rfl hb14 (D_V rfl (V_bin rfl rfl rfl b_add)) ((foot_mk _ _).trans (show _ = Foot.no from rfl)) ?_
                        refine TD_stepG rfl rfl rfl rfl hb14 (D_V rfl (V_cutS rfl Tryd.underlying9 rfl rfl rfl hx16)) ((foot_mk _ _).trans (show _ = Foot.no from rfl)) ?_
                        refine TD_stepG rfl rfl rfl rfl hb14 (D_V rfl (V_move rfl rfl)) ((foot_mk _ _).trans (show _ = Foot.no from rfl)) ?_
                        refine TD_stepG rfl rfl rfl rfl hb14 (D_V rfl (V_move rfl rfl)) ((foot_mk _ _).trans (show _ = Foot.no from rfl)) ?_
                        refine TD_stepG rfl rfl rfl rfl hb14 (D_V rfl (V_idxA (row := row27) rfl se22 if27 rfl rfl rfl hx17 rfl)) ((foot_mk _ _).trans (show _ = Foot.no from rfl)) ?_
                        refine TD_stepG rfl rfl rfl rfl hb14 (D_V rfl (V_fieldAddr rfl rfl (far27_1 _ _ _))) ((foot_mk _ _).trans (show _ = Foot.no from rfl)) ?_
                        refine TD_stepG rfl rfl rfl rfl hb14 (D_V rfl (V_loadR rfl rfl (map_get hx17) (loadD_one ok9 ag9 rfl))) ((foot_mk _ _).trans (show _ = Foot.no from rfl)) ?_
                        refine TD_stepG rfl rfl rfl rfl hb14 (D_V rfl (V_bin rfl rfl rfl bs_neq)) ((foot_mk _ _).trans (show _ = Foot.no from rfl)) ?_
                        refine TD_step rfl (D_V rfl (V_pickF rfl rfl hb14 rfl rfl)) ((foot_mk _ _).trans (show _ = Foot.no from rfl)) ?_
                        refine TD_step rfl (D_V rfl (V_move rfl rfl)) ((foot_mk _ _).trans (show _ = Foot.no from rfl)) ?_
                        refine TD_stepG rfl rfl rfl rfl hb18 (D_V rfl (V_move rfl rfl)) ((foot_mk _ _).trans (show _ = Foot.no from rfl)) ?_
                        refine TD_stepG rfl rfl rfl rfl hb18 (D_V rfl (V_move rfl rfl)) ((foot_mk _ _).trans (show _ = Foot.no from rfl)) ?_
                        refine TD_stepG rfl rfl rfl rfl hb18 (D_V rfl (V_move rfl rfl)) ((foot_mk _ _).trans (show _ = Foot.no from rfl)) ?_
                        refine TD_stepG rfl rfl rfl rfl hb18 (D_V rfl (V_cutS rfl Tryd.underlying9 rfl rfl rfl hx19)) ((foot_mk _ _).trans (show _ = Foot.no from rfl)) ?_
                        refine TD_stepG rfl rfl rfl rfl hb18 (D_call rfl rfl rfl (show _ = some [(str x19)] from rfl) bd18 (envF_at (r := (tb y20)) (by simp) (by intro r' hr'; simpa using hr'))) ((foot_mk _ _).trans (show _ = Foot.no from rfl)) ?_
                        refine TD_stepG rfl rfl rfl rfl hb18 (D_V rfl (V_un rfl rfl u_not)) ((foot_mk _ _).trans (show _ = Foot.no from rfl)) ?_
                        refine TD_step rfl (D_V rfl (V_pickF rfl rfl hb18 rfl rfl)) ((foot_mk _ _).trans (show _ = Foot.no from rfl)) ?_
                        refine TD_step rfl (D_V rfl (V_move rfl rfl)) ((foot_mk _ _).trans (show _ = Foot.no from rfl)) ?_
                        refine TD_stepG rfl rfl rfl rfl hb21 (D_V rfl (V_move rfl rfl)) ((foot_mk _ _).trans (show _ = Foot.no from rfl)) ?_
                        refine TD_stepG rfl rfl rfl rfl hb21 (D_V rfl (V_move rfl rfl)) ((foot_mk _ _).trans (show _ = Foot.no from rfl)) ?_
                        refine TD_stepG rfl rfl rfl rfl hb21 (D_V rfl (V_idxA (row := row27) rfl se22 if27 rfl rfl rfl hx22 rfl)) ((foot_mk _ _).trans (show _ = Foot.no from rfl)) ?_
                        refine TD_stepG rfl rfl rfl rfl hb21 (D_V rfl (V_loadR rfl rfl (map_get hx22) (loadD_agg ok27 ag27 sz27 (show _ = [(.sc (.int .i64 x22.f_Kind)), (str x22.f_Text), (.sc (.int .i64 x22.f_N)), (.sc (.int .i64 x22.f_At.f_Line)), (.sc (.int .i64 x22.f_At.f_Col))] from rfl) rfl))) ((foot_mk _ _).trans (show _ = Foot.no from rfl)) ?_
                        refine TD_stepG rfl rfl rfl rfl hb21 (D_call rfl rfl rfl (show _ = some [(.agg [(.sc (.int .i64 x22.f_Kind)), (str x22.f_Text), (.sc (.int .i64 x22.f_N)), (.sc (.int .i64 x22.f_At.f_Line)), (.sc (.int .i64 x22.f_At.f_Col))])] from rfl) bd8 (envF_at (r := (tb y23)) (by simp) (by intro r' hr'; simpa using hr'))) ((foot_mk _ _).trans (show _ = Foot.no from rfl)) ?_
                        refine TD_stepG rfl rfl rfl rfl hb21 (D_V rfl (V_un rfl rfl u_not)) ((foot_mk _ _).trans (show _ = Foot.no from rfl)) ?_
                        refine TD_step rfl (D_V rfl (V_pickF rfl rfl hb21 rfl rfl)) ((foot_mk _ _).trans (show _ = Foot.no from rfl)) ?_
                        refine TD_step rfl (D_V rfl (V_move rfl rfl)) ((foot_mk _ _).trans (show _ = Foot.no from rfl)) ?_
                        refine TD_stepG rfl rfl rfl rfl hb24 (D_V rfl (V_move rfl rfl)) ((foot_mk _ _).trans (show _ = Foot.no from rfl)) ?_
                        refine TD_stepG rfl rfl rfl rfl hb24 (D_V rfl (V_move rfl rfl)) ((foot_mk _ _).trans (show _ = Foot.no from rfl)) ?_
                        refine TD_stepG rfl rfl rfl rfl hb24 (D_V rfl (V_idxA (row := row27) rfl se22 if27 rfl rfl rfl hx25 rfl)) ((foot_mk _ _).trans (show _ = Foot.no from rfl)) ?_
                        refine TD_stepG rfl rfl rfl rfl hb24 (D_V rfl (V_fieldAddr rfl rfl (far27_0 _ _ _))) ((foot_mk _ _).trans (show _ = Foot.no from rfl)) ?_
                        refine TD_stepG rfl rfl rfl rfl hb24 (D_V rfl (V_loadR rfl rfl (map_get hx25) (loadD_one ok23 ag23 rfl))) ((foot_mk _ _).trans (show _ = Foot.no from rfl)) ?_
                        refine TD_stepG rfl rfl rfl rfl hb24 (D_V rfl (V_bin rfl rfl rfl b_eql)) ((foot_mk _ _).trans (show _ = Foot.no from rfl)) ?_
                        refine TD_stepG rfl rfl rfl rfl hb24 (D_V rfl (V_move rfl rfl)) ((foot_mk _ _).trans (show _ = Foot.no from rfl)) ?_
                        refine TD_stepG rfl rfl rfl rfl hb24 (D_V rfl (V_move rfl rfl)) ((foot_mk _ _).trans (show _ = Foot.no from rfl)) ?_
                        refine TD_stepG rfl rfl rfl rfl hb24 (D_V rfl (V_lenM (row := row27) ⟨_, rfl, rfl, rfl, rfl⟩ se22 rfl rfl)) ((foot_mk _ _).trans (show _ = Foot.no from rfl)) ?_
                        refine TD_stepG rfl rfl rfl rfl hb24 (D_V rfl (V_bin rfl rfl rfl b_sub)) ((foot_mk _ _).trans (show _ = Foot.no from rfl)) ?_
                        refine TD_stepG rfl rfl rfl rfl hb24 (D_V rfl (V_bin rfl rfl rfl b_eql)) ((foot_mk _ _).trans (show _ = Foot.no from rfl)) ?_
                        refine TD_stepG rfl rfl rfl rfl hb24 (D_V rfl (V_bin rfl rfl rfl (bb_neq Tryd.underlying4))) ((foot_mk _ _).trans (show _ = Foot.no from rfl)) ?_
                        refine TD_step rfl (D_V rfl (V_pickF rfl rfl hb24 rfl rfl)) ((foot_mk _ _).trans (show _ = Foot.no from rfl)) ?_
                        refine TD_nil ⟨by decide +kernel, ?_⟩
                        exact TS_nil ⟨_, Option.some.inj h, ⟨⟨.inr rfl, .inr rfl, .inr rfl, .inr rfl, .inr rfl, .inr rfl, trivial⟩, ⟨_, rfl⟩, rfl, rfl, rfl⟩⟩
        · refine TS_false rfl hb7 ?_
          refine TS_exit ?_
          refine UX_c ?_
          refine UX_up ?_
          exact UX_less (.inl rfl) (kx6_0 _ (Option.some.inj h).symm) ⟨⟨.inr rfl, .inr rfl, .inr rfl, trivial⟩, ⟨_, rfl⟩, rfl, rfl, rfl⟩
      · refine TS_false rfl hb5 ?_
        refine TS_skip ?_
        refine TS_seq ?_
        refine TS_region ?_
        refine TO_step rfl (S_nil (row := row27) rfl rfl se22 rfl) ?_
        refine TO_nil ?_
        refine TS_seq ?_
        refine TS_seq ?_
        refine TS_region ?_
        refine TO_step rfl (S_to rfl rfl (V_assign rfl rfl)) ?_
        refine TO_nil ?_
        refine TS_block ?_
        obtain ⟨out59, hL59, h⟩ := obind_some h
        refine TS_cont (id := 2) (fun (v : ((List S27))) => out59 = .out v) (fun (v : ((List S27))) => [(11, (.gl 11 27 (v.map row27)))]) (fun (v : ((List S27))) => [.box 45 [(.d (.sc (.int .i64 y4.2.f_At.f_Line))), (.d (.sc (.int .i64 y4.2.f_At.f_Col))), (.d (.sc (.int .i64 y4.2.f_Err)))]]) ?_ fun kx59_0 => ?_
        · rintro v72 rfl
          try dsimp only at h
          refine UX_eq ?_
          refine TS_seq ?_
          refine TS_region ?_
          refine TO_step rfl (S_to rfl rfl (V_move rfl rfl)) ?_
          obtain ⟨y73, hy73, h⟩ := obind_some h
          refine TO_step rfl (S_st (S_call rfl rfl rfl rfl bd13 (F13_ok n v72 y73 hy73)) rfl rfl) ?_
          obtain ⟨y74, hy74, h⟩ := obind_some h
          refine TO_step rfl (S_st (S_call rfl rfl rfl rfl bd16 (F16_ok n y73 y74 hy74)) rfl rfl) ?_
          refine TO_step rfl (S_to rfl rfl (V_move rfl rfl)) ?_
          refine TO_step rfl (S_to rfl rfl (V_extract rfl rfl rfl)) ?_
          refine TO_step rfl (S_to rfl rfl (V_extract rfl rfl rfl)) ?_
          refine TO_step rfl (S_allocE rfl rfl al45 rfl rfl (show _ = [.box 45 [(.d (.sc (.int .i64 y4.2.f_At.f_Line))), (.d (.sc (.int .i64 y4.2.f_At.f_Col))), (.d (.sc (.int .i64 y4.2.f_Err)))], .box 45 [(.d (.sc (.int .i64 0))), (.d (.sc (.int .i64 0))), (.d (.sc (.int .i64 0)))]] from rfl)) ?_
          refine TO_step rfl (S_to rfl rfl (V_assign rfl rfl)) ?_
          refine TO_step rfl (S_st (S_storeE rfl rfl rfl rfl rfl if45 sz45 rfl rfl (show _ = [(.d (.sc (.int .i64 y74.2.f_At.f_Line))), (.d (.sc (.int .i64 y74.2.f_At.f_Col))), (.d (.sc (.int .i64 y74.2.f_Err)))] from rfl) rfl) rfl (show _ = [.box 45 [(.d (.sc (.int .i64 y4.2.f_At.f_Line))), (.d (.sc (.int .i64 y4.2.f_At.f_Col))), (.d (.sc (.int .i64 y4.2.f_Err)))], .box 45 [(.d (.sc (.int .i64 y74.2.f_At.f_Line))), (.d (.sc (.int .i64 y74.2.f_At.f_Col))), (.d (.sc (.int .i64 y74.2.f_Err)))]] from rfl)) ?_
          refine TO_nil ?_
          refine TS_seq ?_
          refine TS_seq ?_
          obtain ⟨v75, hv75, h⟩ := obind_some h
          refine TS_join (fun (v : (Bool)) => [(190, (.d (tb v))), (13, (.d (.sl (y74.1.map row27)))), (11, (.gl 11 27 (v72.map row27)))]) (fun (v : (Bool)) => [.box 45 [(.d (.sc (.int .i64 y4.2.f_At.f_Line))), (.d (.sc (.int .i64 y4.2.f_At.f_Col))), (.d (.sc (.int .i64 y4.2.f_Err)))], .box 45 [(.d (.sc (.int .i64 y74.2.f_At.f_Line))), (.d (.sc (.int .i64 y74.2.f_At.f_Col))), (.d (.sc (.int .i64 y74.2.f_Err)))]]) v75 (.inl rfl) ?_ ?_
          · rcases cond_some h with ⟨hb79, h⟩ | ⟨hb79, h⟩
            · refine TS_true rfl hb79 ?_
              refine TS_seq ?_
              refine TS_region ?_
              refine TO_step rfl (S_to rfl rfl (V_assign rfl rfl)) ?_
              refine TO_nil ?_
              refine TS_ret ?_
              cases h
              exact ⟨trivial, _, _, (resEs_cons (resE_tmp rfl rfl) resEs_nil), rfl, (Wk.refl _)⟩
            · refine TS_false rfl hb79 ?_
              refine TS_skip ?_
              refine TS_seq ?_
              refine TS_seq ?_
              refine TS_region ?_
              refine TO_step rfl (S_to rfl rfl (V_assign rfl rfl)) ?_
              refine TO_nil ?_
              refine TS_block ?_
              obtain ⟨out80, hL80, h⟩ := obind_some h
              have kr80 : ∀ r, out80 = .ret r → some r = some o := by rintro r rfl; exact h
              refine TS_cont (id := 4) (fun (v : Unit) => out80 = .out v) (fun (v : Unit) => []) (fun (v : Unit) => [.box 45 [(.d (.sc (.int .i64 y4.2.f_At.f_Line))), (.d (.sc (.int .i64 y4.2.f_At.f_Col))), (.d (.sc (.int .i64 y4.2.f_Err)))], .box 45 [(.d (.sc (.int .i64 y74.2.f_At.f_Line))), (.d (.sc (.int .i64 y74.2.f_At.f_Col))), (.d (.sc (.int .i64 y74.2.f_Err)))]]) ?_ fun kx80_0 => ?_
              · rintro v86 rfl
                try dsimp only at h
                refine UX_eq ?_
                refine TS_seq ?_
                refine TS_region ?_
                obtain ⟨y87, hy87, h⟩ := obind_some h
                refine TO_step rfl (S_st (S_call rfl rfl rfl rfl bd6 (F6_ok n  y87 hy87)) rfl rfl) ?_
                refine TO_step rfl (S_to rfl rfl (V_assign rfl rfl)) ?_
                refine TO_nil ?_
                refine TS_ret ?_
                cases h
                exact ⟨trivial, _, _, (resEs_cons (resE_tmp rfl rfl) resEs_nil), rfl, (Wk.refl _)⟩
              refine TS_loop (F4_L80 n v72 y74) (fun (s : (Int)) => [(15, (.d (.sc (.int .i64 s)))), (13, (.d (.sl (y74.1.map row27)))), (11, (.gl 11 27 (v72.map row27)))]) (fun (s : (Int)) => [.box 45 [(.d (.sc (.int .i64 y4.2.f_At.f_Line))), (.d (.sc (.int .i64 y4.2.f_At.f_Col))), (.d (.sc (.int .i64 y4.2.f_Err)))], .box 45 [(.d (.sc (.int .i64 y74.2.f_At.f_Line))), (.d (.sc (.int .i64 y74.2.f_At.f_Col))), (.d (.sc (.int .i64 y74.2.f_Err)))]]) out80 hL80 ⟨⟨.inr rfl, .inr rfl, .inr rfl, trivial⟩, ⟨_, rfl⟩, rfl, rfl, rfl⟩ (fun _ => rfl) fun m80 s80 h => ?_
              rw [F4_L80] at h
              refine TS_seq ?_
              refine TS_seq ?_
              refine TS_region ?_
              refine TO_step rfl (S_to rfl rfl (V_move rfl rfl)) ?_
              refine TO_step rfl (S_to rfl rfl (V_move rfl rfl)) ?_
              refine TO_step rfl (S_to rfl rfl (V_lenM (row := row27) ⟨_, rfl, rfl, rfl, rfl⟩ se22 rfl rfl)) ?_
              refine TO_step rfl (S_to rfl rfl (V_bin rfl rfl rfl b_lss)) ?_
              refine TO_nil ?_
              rcases cond_some h with ⟨hb81, h⟩ | ⟨hb81, h⟩
              · refine TS_true rfl hb81 ?_
                refine TS_skip ?_
                refine TS_seq ?_
                refine TS_block ?_
                refine TS_seq ?_
                obtain ⟨x82, hx82, h⟩ := obind_some h
                obtain ⟨x83, hx83, h⟩ := obind_some h
                obtain ⟨y84, hy84, h⟩ := obind_some h
                refine TS_draw (envF_ok (L := [(11, [(.agg [(.sc (.int .i64 x82.f_Kind)), (str x82.f_Text), (.sc (.int .i64 x82.f_N)), (.sc (.int .i64 x82.f_At.f_Line)), (.sc (.int .i64 x82.f_At.f_Col))]), (.agg [(.sc (.int .i64 x83.f_Kind)), (str x83.f_Text), (.sc (.int .i64 x83.f_N)), (.sc (.int .i64 x83.f_At.f_Line)), (.sc (.int .i64 x83.f_At.f_Col))])], (tb y84))]) (by simp only [List.forall_mem_cons]; exact ⟨(F11_ok n x82 x83 y84 hy84), fun _ hx => by cases hx⟩)) (by kernel_rfl : Tryd.prog.follows .mixedOrders = true) (by decide +kernel) ?_
                refine TD_step rfl (D_V rfl (V_move rfl rfl)) ((foot_mk _ _).trans (show _ = Foot.no from rfl)) ?_
                refine TD_step rfl (D_V rfl (V_move rfl rfl)) ((foot_mk _ _).trans (show _ = Foot.no from rfl)) ?_
                refine TD_step rfl (D_V rfl (V_idxA (row := row27) rfl se22 if27 rfl rfl rfl hx82 rfl)) ((foot_mk _ _).trans (show _ = Foot.no from rfl)) ?_
                refine TD_step rfl (D_V rfl (V_loadR rfl rfl (map_get hx82) (loadD_agg ok27 ag27 sz27 (show _ = [(.sc (.int .i64 x82.f_Kind)), (str x82.f_Text), (.sc (.int .i64 x82.f_N)), (.sc (.int .i64 x82.f_At.f_Line)), (.sc (.int .i64 x82.f_At.f_Col))] from rfl) rfl))) ((foot_mk _ _).trans (show _ = Foot.no from rfl)) ?_
                refine TD_step rfl (D_V rfl (V_move rfl rfl)) ((foot_mk _ _).trans (show _ = Foot.no from rfl)) ?_
                refine TD_step rfl (D_V rfl (V_move rfl rfl)) ((foot_mk _ _).trans (show _ = Foot.no from rfl)) ?_
                refine TD_step rfl (D_V rfl (V_idxA (row := row27) rfl se22 if27 rfl rfl rfl hx83 rfl)) ((foot_mk _ _).trans (show _ = Foot.no from rfl)) ?_
                refine TD_step rfl (D_V rfl (V_loadR rfl rfl (map_get hx83) (loadD_agg ok27 ag27 sz27 (show _ = [(.sc (.int .i64 x83.f_Kind)), (str x83.f_Text), (.sc (.int .i64 x83.f_N)), (.sc (.int .i64 x83.f_At.f_Line)), (.sc (.int .i64 x83.f_At.f_Col))] from rfl) rfl))) ((foot_mk _ _).trans (show _ = Foot.no from rfl)) ?_
                refine TD_step rfl (D_call rfl rfl rfl (show _ = some [(.agg [(.sc (.int .i64 x82.f_Kind)), (str x82.f_Text), (.sc (.int .i64 x82.f_N)), (.sc (.int .i64 x82.f_At.f_Line)), (.sc (.int .i64 x82.f_At.f_Col))]), (.agg [(.sc (.int .i64 x83.f_Kind)), (str x83.f_Text), (.sc (.int .i64 x83.f_N)), (.sc (.int .i64 x83.f_At.f_Line)), (.sc (.int .i64 x83.f_At.f_Col))])] from rfl) bd11 (envF_at (r := (tb y84)) (by simp) (by intro r' hr'; simpa using hr'))) ((foot_mk _ _).trans (show _ = Foot.no from rfl)) ?_
                refine TD_step rfl (D_V rfl (V_un rfl rfl u_not)) ((foot_mk _ _).trans (show _ = Foot.no from rfl)) ?_
                refine TD_nil ⟨by decide +kernel, ?_⟩
                rcases cond_some h with ⟨hb85, h⟩ | ⟨hb85, h⟩
                · refine TS_true rfl hb85 ?_
                  refine TS_seq ?_
                  refine TS_region ?_
                  refine TO_step rfl (S_to rfl rfl (V_assign rfl rfl)) ?_
                  refine TO_nil ?_
                  refine TS_ret ?_
                  refine ret_up ?_
                  have h := kr80 _ (Option.some.inj h).symm
                  cases h
                  exact ⟨trivial, _, _, (resEs_cons (resE_tmp rfl rfl) resEs_nil), rfl, (Wk.refl _)⟩
                · refine TS_false rfl hb85 ?_
                  refine TS_skip ?_
                  refine TS_b ?_
                  refine TS_region ?_
                  refine TO_step rfl (S_to rfl rfl (V_move rfl rfl)) ?_
                  refine TO_step rfl (S_to rfl rfl (V_bin rfl rfl rfl b_add)) ?_
                  refine TO_step rfl (S_to rfl rfl (V_assign rfl rfl)) ?_
                  refine TO_nil ?_
                  exact TS_nil ⟨_, h, ⟨⟨.inr rfl, .inr rfl, .inr rfl, trivial⟩, ⟨_, rfl⟩, rfl, rfl, rfl⟩⟩
              · refine TS_false rfl hb81 ?_
                refine TS_exit ?_
                refine UX_c ?_
                refine UX_up ?_
                exact UX_less (.inl rfl) (kx80_0 _ (Option.some.inj h).symm) ⟨trivial, ⟨_, rfl⟩, rfl, rfl, rfl⟩
          · have h := hv75
            refine TS_region ?_
            refine TO_step rfl (S_to rfl rfl (V_fieldAddr rfl rfl (fap45_1 _ _ _))) ?_
            refine TO_step rfl (S_to rfl rfl (V_loadB rfl rfl rfl (loadB_one ok43 ag43 rfl))) ?_
            refine TO_step rfl (S_to rfl rfl (V_bin rfl rfl rfl b_neq)) ?_
            refine TO_step rfl (S_to rfl rfl (V_move rfl rfl)) ?_
            rcases cond_some h with ⟨hb76, h⟩ | ⟨hb76, h⟩
            · refine TO_skip rfl rfl rfl rfl hb76 ?_
              refine TO_skip rfl rfl rfl rfl hb76 ?_
              refine TO_skip rfl rfl rfl rfl hb76 ?_
              refine TO_skip rfl rfl rfl rfl hb76 ?_
              refine TO_skip rfl rfl rfl rfl hb76 ?_
              refine TO_skip rfl rfl rfl rfl hb76 ?_
              refine TO_step rfl (S_to rfl rfl (V_pickT rfl rfl hb76 rfl rfl)) ?_
              refine TO_step rfl (S_to rfl rfl (V_move rfl rfl)) ?_
              refine TO_skip rfl rfl rfl rfl rfl ?_
              refine TO_skip rfl rfl rfl rfl rfl ?_
              refine TO_skip rfl rfl rfl rfl rfl ?_
              refine TO_skip rfl rfl rfl rfl rfl ?_
              refine TO_skip rfl rfl rfl rfl rfl ?_
              refine TO_skip rfl rfl rfl rfl rfl ?_
              refine TO_skip rfl rfl rfl rfl rfl ?_
              refine TO_step rfl (S_to rfl rfl (V_pickT rfl rfl rfl rfl rfl)) ?_
              refine TO_nil ?_
              exact TS_nil ⟨_, Option.some.inj h, ⟨⟨.inr rfl, .inr rfl, .inr rfl, trivial⟩, ⟨_, rfl⟩, rfl, rfl, rfl⟩⟩
            · refine TO_stepG rfl rfl rfl rfl hb76 (S_to rfl rfl (V_move rfl rfl)) ?_
              refine TO_stepG rfl rfl rfl rfl hb76 (S_to rfl rfl (V_lenM (row := row27) ⟨_, rfl, rfl, rfl, rfl⟩ se22 rfl rfl)) ?_
              refine TO_stepG rfl rfl rfl rfl hb76 (S_to rfl rfl (V_move rfl rfl)) ?_
              refine TO_stepG rfl rfl rfl rfl hb76 (S_to rfl rfl (V_lenM (row := row27) ⟨_, rfl, rfl, rfl, rfl⟩ se22 rfl rfl)) ?_
              refine TO_stepG rfl rfl rfl rfl hb76 (S_to rfl rfl (V_bin rfl rfl rfl b_add)) ?_
              refine TO_stepG rfl rfl rfl rfl hb76 (S_to rfl rfl (V_bin rfl rfl rfl b_neq)) ?_
              refine TO_step rfl (S_to rfl rfl (V_pickF rfl rfl hb76 rfl rfl)) ?_
              refine TO_step rfl (S_to rfl rfl (V_move rfl rfl)) ?_
              rcases cond_some h with ⟨hb77, h⟩ | ⟨hb77, h⟩
              · refine TO_skip rfl rfl rfl rfl hb77 ?_
                refine TO_skip rfl rfl rfl rfl hb77 ?_
                refine TO_skip rfl rfl rfl rfl hb77 ?_
                refine TO_skip rfl rfl rfl rfl hb77 ?_
                refine TO_skip rfl rfl rfl rfl hb77 ?_
                refine TO_skip rfl rfl rfl rfl hb77 ?_
                refine TO_skip rfl rfl rfl rfl hb77 ?_
                refine TO_step rfl (S_to rfl rfl (V_pickT rfl rfl hb77 rfl rfl)) ?_
                refine TO_nil ?_
                exact TS_nil ⟨_, Option.some.inj h, ⟨⟨.inr rfl, .inr rfl, .inr rfl, trivial⟩, ⟨_, rfl⟩, rfl, rfl, rfl⟩⟩
              · refine TO_stepG rfl rfl rfl rfl hb77 (S_to rfl rfl (V_move rfl rfl)) ?_
                refine TO_stepG rfl rfl rfl rfl hb77 (S_to rfl rfl (V_move rfl rfl)) ?_
                refine TO_stepG rfl rfl rfl rfl hb77 (S_to rfl rfl (V_lenM (row := row27) ⟨_, rfl, rfl, rfl, rfl⟩ se22 rfl rfl)) ?_
                obtain ⟨x78, hx78, h⟩ := obind_some h
                refine TO_stepG rfl rfl rfl rfl hb77 (S_to rfl rfl (V_idxA (row := row27) rfl se22 if27 rfl rfl rfl hx78 rfl)) ?_
                refine TO_stepG rfl rfl rfl rfl hb77 (S_to rfl rfl (V_fieldAddr rfl rfl (far27_0 _ _ _))) ?_
                refine TO_stepG rfl rfl rfl rfl hb77 (S_to rfl rfl (V_loadR rfl rfl (map_get hx78) (loadD_one ok23 ag23 rfl))) ?_
                refine TO_stepG rfl rfl rfl rfl hb77 (S_to rfl rfl (V_bin rfl rfl rfl b_neq)) ?_
                refine TO_step rfl (S_to rfl rfl (V_pickF rfl rfl hb77 rfl rfl)) ?_
                refine TO_nil ?_
                exact TS_nil ⟨_, Option.some.inj h, ⟨⟨.inr rfl, .inr rfl, .inr rfl, trivial⟩, ⟨_, rfl⟩, rfl, rfl, rfl⟩⟩
        refine TS_loop (F4_L59 n t1) (fun (s : (Int × (List S27))) => [(11, (.gl 11 27 (s.2.map row27))), (12, (.d (.sc (.int .i64 s.1)))), (1, (.d (.sl (t1.map row27))))]) (fun (s : (Int × (List S27))) => [.box 45 [(.d (.sc (.int .i64 y4.2.f_At.f_Line))), (.d (.sc (.int .i64 y4.2.f_At.f_Col))), (.d (.sc (.int .i64 y4.2.f_Err)))]]) out59 hL59 ⟨⟨.inr rfl, .inr rfl, .inr rfl, trivial⟩, ⟨_, rfl⟩, rfl, rfl, rfl⟩ (fun _ => rfl) fun m59 s59 h => ?_
        rw [F4_L59] at h
        refine TS_seq ?_
        refine TS_seq ?_
        refine TS_region ?_
        refine TO_step rfl (S_to rfl rfl (V_move rfl rfl)) ?_
        refine TO_step rfl (S_to rfl rfl (V_move rfl rfl)) ?_
        refine TO_step rfl (S_to rfl rfl (V_lenM (row := row27) ⟨_, rfl, rfl, rfl, rfl⟩ se22 rfl rfl)) ?_
        refine TO_step rfl (S_to rfl rfl (V_bin rfl rfl rfl b_lss)) ?_
        refine TO_nil ?_
        rcases cond_some h with ⟨hb60, h⟩ | ⟨hb60, h⟩
        · refine TS_true rfl hb60 ?_
          refine TS_skip ?_
          refine TS_seq ?_
          refine TS_block ?_
          refine TS_seq ?_
          obtain ⟨v61, hv61, h⟩ := obind_some h
          refine TS_join (fun (v : (Bool)) => [(157, (.d (tb v))), (11, (.gl 11 27 (s59.2.map row27))), (12, (.d (.sc (.int .i64 s59.1)))), (1, (.d (.sl (t1.map row27))))]) (fun (v : (Bool)) => [.box 45 [(.d (.sc (.int .i64 y4.2.f_At.f_Line))), (.d (.sc (.int .i64 y4.2.f_At.f_Col))), (.d (.sc (.int .i64 y4.2.f_Err)))]]) v61 (.inl rfl) ?_ ?_
          · obtain ⟨v68, hv68, h⟩ := obind_some h
            refine TS_join (fun (v : ((List S27))) => [(11, (.gl 11 27 (v.map row27))), (12, (.d (.sc (.int .i64 s59.1)))), (1, (.d (.sl (t1.map row27))))]) (fun (v : ((List S27))) => [.box 45 [(.d (.sc (.int .i64 y4.2.f_At.f_Line))), (.d (.sc (.int .i64 y4.2.f_At.f_Col))), (.d (.sc (.int .i64 y4.2.f_Err)))]]) v68 (.inl rfl) ?_ ?_
            · refine TS_b ?_
              refine TS_region ?_
              refine TO_step rfl (S_to rfl rfl (V_move rfl rfl)) ?_
              refine TO_step rfl (S_to rfl rfl (V_bin rfl rfl rfl b_add)) ?_
              refine TO_step rfl (S_to rfl rfl (V_assign rfl rfl)) ?_
              refine TO_nil ?_
              exact TS_nil ⟨_, h, ⟨⟨.inr rfl, .inr rfl, .inr rfl, trivial⟩, ⟨_, rfl⟩, rfl, rfl, rfl⟩⟩
            · have h := hv68
              rcases cond_some h with ⟨hb69, h⟩ | ⟨hb69, h⟩
              · refine TS_true rfl hb69 ?_
                refine TS_region ?_
                refine TO_step rfl (S_to rfl rfl (V_move rfl rfl)) ?_
                refine TO_step rfl (S_to rfl rfl (V_move rfl rfl)) ?_
                refine TO_step rfl (S_to rfl rfl (V_move rfl rfl)) ?_
                obtain ⟨x70, hx70, h⟩ := obind_some h
                refine TO_step rfl (S_to rfl rfl (V_idxA (row := row27) rfl se22 if27 rfl rfl rfl hx70 rfl)) ?_
                refine TO_step rfl (S_to rfl rfl (V_loadR rfl rfl (map_get hx70) (loadD_agg ok27 ag27 sz27 (show _ = [(.sc (.int .i64 x70.f_Kind)), (str x70.f_Text), (.sc (.int .i64 x70.f_N)), (.sc (.int .i64 x70.f_At.f_Line)), (.sc (.int .i64 x70.f_At.f_Col))] from rfl) rfl))) ?_
                refine TO_step rfl (S_lit (l := ([x70] : List S27)) (row := row27) rfl rfl se22 rfl rfl rfl zr27 rfl) ?_
                obtain ⟨x71, hx71, h⟩ := obind_some h
                refine TO_step rfl (S_appM (row := row27) ⟨_, rfl, rfl, rfl, rfl⟩ rfl se22 rfl rfl rfl rz27 ap27 hx71 rfl) ?_
                refine TO_step rfl (S_to rfl rfl (V_assign rfl rfl)) ?_
                refine TO_nil ?_
                exact TS_nil ⟨_, Option.some.inj h, ⟨⟨.inr rfl, .inr rfl, .inr rfl, trivial⟩, ⟨_, rfl⟩, rfl, rfl, rfl⟩⟩
              · refine TS_false rfl hb69 ?_
                refine TS_skip ?_
                exact TS_nil ⟨_, Option.some.inj h, ⟨⟨.inr rfl, .inr rfl, .inr rfl, trivial⟩, ⟨_, rfl⟩, rfl, rfl, rfl⟩⟩
          · have h := hv61
            refine TS_region ?_
            refine TO_step rfl (S_to rfl rfl (V_move rfl rfl)) ?_
            refine TO_step rfl (S_to rfl rfl (V_move rfl rfl)) ?_
            obtain ⟨x62, hx62, h⟩ := obind_some h
            refine TO_step rfl (S_to rfl rfl (V_idxA (row := row27) rfl se22 if27 rfl rfl rfl hx62 rfl)) ?_
            refine TO_step rfl (S_to rfl rfl (V_fieldAddr rfl rfl (far27_1 _ _ _))) ?_
            refine TO_step rfl (S_to rfl rfl (V_loadR rfl rfl (map_get hx62) (loadD_one ok9 ag9 rfl))) ?_
            refine TO_step rfl (S_to rfl rfl (V_lenS ⟨_, rfl, rfl, rfl, rfl⟩ Tryd.underlying9 rfl)) ?_
            refine TO_step rfl (S_to rfl rfl (V_bin rfl rfl rfl b_leq)) ?_
            refine TO_step rfl (S_to rfl rfl (V_move rfl rfl)) ?_
            rcases cond_some h with ⟨hb63, h⟩ | ⟨hb63, h⟩
            · refine TO_stepG rfl rfl rfl rfl hb63 (S_to rfl rfl (V_move rfl rfl)) ?_
              refine TO_stepG rfl rfl rfl rfl hb63 (S_to rfl rfl (V_move rfl rfl)) ?_
              obtain ⟨x64, hx64, h⟩ := obind_some h
              refine TO_stepG rfl rfl rfl rfl hb63 (S_to rfl rfl (V_idxA (row := row27) rfl se22 if27 rfl rfl rfl hx64 rfl)) ?_
              refine TO_stepG rfl rfl rfl rfl hb63 (S_to rfl rfl (V_loadR rfl rfl (map_get hx64) (loadD_agg ok27 ag27 sz27 (show _ = [(.sc (.int .i64 x64.f_Kind)), (str x64.f_Text), (.sc (.int .i64 x64.f_N)), (.sc (.int .i64 x64.f_At.f_Line)), (.sc (.int .i64 x64.f_At.f_Col))] from rfl) rfl))) ?_
              obtain ⟨y65, hy65, h⟩ := obind_some h
              refine TO_stepG rfl rfl rfl rfl hb63 (S_st (S_call rfl rfl rfl rfl bd8 (F8_ok n x64 y65 hy65)) rfl rfl) ?_
              refine TO_step rfl (S_to rfl rfl (V_pickT rfl rfl hb63 rfl rfl)) ?_
              refine TO_step rfl (S_to rfl rfl (V_move rfl rfl)) ?_
              rcases cond_some h with ⟨hb66, h⟩ | ⟨hb66, h⟩
              · refine TO_stepG rfl rfl rfl rfl hb66 (S_to rfl rfl (V_move rfl rfl)) ?_
                refine TO_stepG rfl rfl rfl rfl hb66 (S_to rfl rfl (V_move rfl rfl)) ?_
                obtain ⟨x67, hx67, h⟩ := obind_some h
                refine TO_stepG rfl rfl rfl rfl hb66 (S_to rfl rfl (V_idxA (row := row27) rfl se22 if27 rfl rfl rfl hx67 rfl)) ?_
                refine TO_stepG rfl rfl rfl rfl hb66 (S_to rfl rfl (V_fieldAddr rfl rfl (far27_0 _ _ _))) ?_
                refine TO_stepG rfl rfl rfl rfl hb66 (S_to rfl rfl (V_loadR rfl rfl (map_get hx67) (loadD_one ok23 ag23 rfl))) ?_
                refine TO_stepG rfl rfl rfl rfl hb66 (S_to rfl rfl (V_bin rfl rfl rfl b_neq)) ?_
                refine TO_step rfl (S_to rfl rfl (V_pickT rfl rfl hb66 rfl rfl)) ?_
                refine TO_nil ?_
                exact TS_nil ⟨_, Option.some.inj h, ⟨⟨.inr rfl, .inr rfl, .inr rfl, .inr rfl, trivial⟩, ⟨_, rfl⟩, rfl, rfl, rfl⟩⟩
              · refine TO_skip rfl rfl rfl rfl hb66 ?_
                refine TO_skip rfl rfl rfl rfl hb66 ?_
                refine TO_skip rfl rfl rfl rfl hb66 ?_
                refine TO_skip rfl rfl rfl rfl hb66 ?_
                refine TO_skip rfl rfl rfl rfl hb66 ?_
                refine TO_skip rfl rfl rfl rfl hb66 ?_
                refine TO_step rfl (S_to rfl rfl (V_pickF rfl rfl hb66 rfl rfl)) ?_
                refine TO_nil ?_
                exact TS_nil ⟨_, Option.some.inj h, ⟨⟨.inr rfl, .inr rfl, .inr rfl, .inr rfl, trivial⟩, ⟨_, rfl⟩, rfl, rfl, rfl⟩⟩
            · refine TO_skip rfl rfl rfl rfl hb63 ?_
              refine TO_skip rfl rfl rfl rfl hb63 ?_
              refine TO_skip rfl rfl rfl rfl hb63 ?_
              refine TO_skip rfl rfl rfl rfl hb63 ?_
              refine TO_skip rfl rfl rfl rfl hb63 ?_
              refine TO_step rfl (S_to rfl rfl (V_pickF rfl rfl hb63 rfl rfl)) ?_
              refine TO_step rfl (S_to rfl rfl (V_move rfl rfl)) ?_
              refine TO_skip rfl rfl rfl rfl rfl ?_
              refine TO_skip rfl rfl rfl rfl rfl ?_
              refine TO_skip rfl rfl rfl rfl rfl ?_
              refine TO_skip rfl rfl rfl rfl rfl ?_
              refine TO_skip rfl rfl rfl rfl rfl ?_
              refine TO_skip rfl rfl rfl rfl rfl ?_
              refine TO_step rfl (S_to rfl rfl (V_pickF rfl rfl rfl rfl rfl)) ?_
              refine TO_nil ?_
              exact TS_nil ⟨_, Option.some.inj h, ⟨⟨.inr rfl, .inr rfl, .inr rfl, .inr rfl, trivial⟩, ⟨_, rfl⟩, rfl, rfl, rfl⟩⟩
        · refine TS_false rfl hb60 ?_
          refine TS_exit ?_
          refine UX_c ?_
          refine UX_up ?_
          exact UX_less (.inl rfl) (kx59_0 _ (Option.some.inj h).symm) ⟨⟨.inr rfl, trivial⟩, ⟨_, rfl⟩, rfl, rfl, rfl⟩
  · have h := hv0
    refine TS_region ?_
    refine TO_step rfl (S_to rfl rfl (V_move rfl rfl)) ?_
    refine TO_step rfl (S_to rfl rfl (V_lenS ⟨_, rfl, rfl, rfl, rfl⟩ Tryd.underlying9 rfl)) ?_
    refine TO_step rfl (S_to rfl rfl (V_bin rfl rfl rfl b_gtr)) ?_
    refine TO_step rfl (S_to rfl rfl (V_move rfl rfl)) ?_
    rcases cond_some h with ⟨hb1, h⟩ | ⟨hb1, h⟩
    · refine TO_skip rfl rfl rfl rfl hb1 ?_
      refine TO_skip rfl rfl rfl rfl hb1 ?_
      refine TO_skip rfl rfl rfl rfl hb1 ?_
      refine TO_step rfl (S_to rfl rfl (V_pickT rfl rfl hb1 rfl rfl)) ?_
      refine TO_nil ?_
      exact TS_nil ⟨_, Option.some.inj h, ⟨⟨.inr rfl, .inr rfl, .inr rfl, trivial⟩, ⟨_, rfl⟩, rfl, rfl, rfl⟩⟩
    · refine TO_stepG rfl rfl rfl rfl hb1 (S_to rfl rfl (V_move rfl rfl)) ?_
      refine TO_stepG rfl rfl rfl rfl hb1 (S_to rfl rfl (V_lenM (row := row27) ⟨_, rfl, rfl, rfl, rfl⟩ se22 rfl rfl)) ?_
      refine TO_stepG rfl rfl rfl rfl hb1 (S_to rfl rfl (V_bin rfl rfl rfl b_gtr)) ?_
      refine TO_step rfl (S_to rfl rfl (V_pickF rfl rfl hb1 rfl rfl)) ?_
      refine TO_nil ?_
      exact TS_nil ⟨_, Option.some.inj h, ⟨⟨.inr rfl, .inr rfl, .inr rfl, trivial⟩, ⟨_, rfl⟩, rfl, rfl, rfl⟩⟩

end Go.Gen
