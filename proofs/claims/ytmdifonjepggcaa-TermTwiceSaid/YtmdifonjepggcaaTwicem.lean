import Derived.Test.YtmdifonjepggcaaTwicel
/-! Walks, printed by a program of this session's own (gen.py). -/
namespace Go.Proofs.Ytmdifonjepggcaa.Hs
open Go Go.Proofs
set_option maxRecDepth 100000
set_option linter.unusedVariables false
set_option linter.unusedSimpArgs false
attribute [local irreducible] JL J CT wlo
theorem big_ct (e : Int) (H : Heap) : CT Try.prog 11 ⟨[.int .i64 (e)]⟩ [] H (fun v N => v = .bool (decide (e = 11)) ∧ N = []) := by
 refine CT_enter Try.func11 rfl rfl ?_
 refine J_seq ?_
 refine J_region ?_
 refine JL_pure (v := .bool (false)) rfl (Pu.assign rfl) ?_
 refine JL_nil ?_
 refine J_seq ?_
 refine J_region ?_
 refine JL_pure (v := .int .i64 (e)) rfl (Pu.move rfl) ?_
 refine JL_pure (v := .bool (decide (e = 11))) rfl (Pu.eql rfl rfl) ?_
 refine JL_pure (v := .bool (decide (e = 11))) rfl (Pu.assign rfl) ?_
 refine JL_nil ?_
 refine J_ret ?_
 refine ⟨.bool (decide (e = 11)), [], Ret.one rfl (RV.tmp rfl), Sub.nil, ?_⟩
 exact ⟨rfl, rfl⟩
set_option maxHeartbeats 8000000 in
theorem twice_ct (v : Value) (l : List Int) (H : Heap) (hb : bytesR H v l) (hv : Hs.rdS RB 1 H v l) : CT Try.prog 4 ⟨[v]⟩ [] H (fun v N => v = .bool true ∧ N = []) := by
 refine CT_enter Try.func4 rfl rfl ?_
 refine J_seq ?_
 refine J_region ?_
 refine JL_pure (v := .bool (false)) rfl (Pu.assign rfl) ?_
 refine JL_nil ?_
 refine J_seq ?_
 refine J_region ?_
 refine JL_pure (v := v) rfl (Pu.move rfl) ?_
 refine JL_call rfl Try.call5 rfl (fun hin => of_ct _ _ _ (bytesR.mono (Hle.hu _ _) hb) (RBs.mono (Hle.hu _ _) hv)) rfl ?_
 rintro _ _ ⟨bS1, u1, k1, s1, l1, rfl, rfl, hu1, hr1⟩
 refine JL_pure (v := .pointer (some ⟨bS1, 0, none⟩)) rfl (Pu.assign rfl) ?_
 refine JL_nil ?_
 refine J_seq ?_
 refine J_region ?_
 refine JL_pure (v := .pointer (some ⟨bS1, 0, none⟩)) rfl (Pu.move rfl) ?_
 refine JL_call1 0 rfl Try.call6 rfl rfl (fun hin => drawn_ct _ _ _ _ _ _ (hr1 _ (hin 0 _ rfl)) (by omega) (by omega) _ _ (by omega) (by omega) (by omega) (by omega) (by omega)) rfl ?_
 rintro _ _ ⟨t2, cs2, k2, a2, s2, rfl, rfl, hO2, hg2, ha2⟩
 refine JL_pure (v := .tuple ⟨[.agg ⟨cs2⟩, .bool (true)]⟩) rfl (Pu.move rfl) ?_
 refine JL_pure (v := .agg ⟨cs2⟩) rfl (Pu.extract rfl rfl) ?_
 refine JL_pure (v := .bool (true)) rfl (Pu.extract rfl rfl) ?_
 refine JL_run rfl (Runs_alloc (l := pkT (0) (0) (zS) (.slice none 0 0) (.slice none 0 0)) Try.zeroValue30 rfl fun b3 => ?_)
 refine JL_run rfl (Runs_storeB 0 (vs := cs2) (l := cs2) ty30 rfl rfl rfl rfl hO2.len hO2.ok (spl_a (n := 36) rfl hO2.len) ?_)
 refine JL_pure (v := .bool (true)) rfl (Pu.assign rfl) ?_
 refine JL_nil ?_
 refine J_seq ?_
 refine J_region ?_
 refine JL_pure (v := .pointer (some ⟨bS1, 0, none⟩)) rfl (Pu.move rfl) ?_
 refine JL_call1 1 rfl Try.call6 rfl rfl (fun hin => drawn_ct _ _ _ _ _ _ (hr1 _ (hin 2 _ rfl)) (by omega) (by omega) _ _ (by omega) (by omega) (by omega) (by omega) (by omega)) rfl ?_
 rintro _ _ ⟨t4, cs4, k4, a4, s4, rfl, rfl, hO4, hg4, ha4⟩
 refine JL_pure (v := .tuple ⟨[.agg ⟨cs4⟩, .bool (true)]⟩) rfl (Pu.move rfl) ?_
 refine JL_pure (v := .agg ⟨cs4⟩) rfl (Pu.extract rfl rfl) ?_
 refine JL_pure (v := .bool (true)) rfl (Pu.extract rfl rfl) ?_
 refine JL_run rfl (Runs_alloc (l := pkT (0) (0) (zS) (.slice none 0 0) (.slice none 0 0)) Try.zeroValue30 rfl fun b5 => ?_)
 refine JL_run rfl (Runs_storeB 0 (vs := cs4) (l := cs4) ty30 rfl rfl rfl rfl hO4.len hO4.ok (spl_a (n := 36) rfl hO4.len) ?_)
 refine JL_pure (v := .bool (true)) rfl (Pu.assign rfl) ?_
 refine JL_nil ?_
 refine J_seq ?_
 refine J_region ?_
 refine JL_pure (v := .pointer (some ⟨bS1, 0, none⟩)) rfl (Pu.move rfl) ?_
 refine JL_call1 1 rfl Try.call6 rfl rfl (fun hin => drawn_ct _ _ _ _ _ _ (hr1 _ (hin 4 _ rfl)) (by omega) (by omega) _ _ (by omega) (by omega) (by omega) (by omega) (by omega)) rfl ?_
 rintro _ _ ⟨t6, cs6, k6, a6, s6, rfl, rfl, hO6, hg6, ha6⟩
 refine JL_pure (v := .tuple ⟨[.agg ⟨cs6⟩, .bool (true)]⟩) rfl (Pu.move rfl) ?_
 refine JL_pure (v := .agg ⟨cs6⟩) rfl (Pu.extract rfl rfl) ?_
 refine JL_pure (v := .bool (true)) rfl (Pu.extract rfl rfl) ?_
 refine JL_run rfl (Runs_alloc (l := pkT (0) (0) (zS) (.slice none 0 0) (.slice none 0 0)) Try.zeroValue30 rfl fun b7 => ?_)
 refine JL_run rfl (Runs_storeB 0 (vs := cs6) (l := cs6) ty30 rfl rfl rfl rfl hO6.len hO6.ok (spl_a (n := 36) rfl hO6.len) ?_)
 refine JL_pure (v := .bool (true)) rfl (Pu.assign rfl) ?_
 refine JL_nil ?_
 refine J_seq ?_
 refine J_cut (fun ρ M => ρ 2 = .bool (false) ∧ ρ 4 = .pointer (some ⟨b3, 0, none⟩) ∧ ρ 6 = .pointer (some ⟨b5, 0, none⟩) ∧ ρ 8 = .pointer (some ⟨b7, 0, none⟩) ∧ ρ 48 = .bool (false) ∧ M = [[(b7, .cells ⟨cs6⟩ 30 (0, 0))], [(bS1, .cells ⟨[u1, .int .i64 (a6), .int .u64 (s6)]⟩ 45 (0, 0))], k6, [(b5, .cells ⟨cs4⟩ 30 (0, 0))], k4, [(b3, .cells ⟨cs2⟩ 30 (0, 0))], k2, k1]) ?_ ?_
 ·refine J_region ?_
  refine JL_pure (v := .bool (true)) rfl (Pu.move rfl) ?_
  refine JL_pure (v := .bool (false)) rfl (show Pu _ _ _ (.bool (!true)) from Pu.not rfl) ?_
  refine JL_pure (v := .bool (false)) rfl (Pu.move rfl) ?_
  refine JL_pure (v := .bool (true)) rfl (Pu.move rfl) ?_
  refine JL_pure (v := .bool (false)) rfl (show Pu _ _ _ (.bool (!true)) from Pu.not rfl) ?_
  refine JL_pure (v := .bool (false)) rfl (Pu.pickF rfl rfl) ?_
  refine JL_pure (v := .bool (false)) rfl (Pu.move rfl) ?_
  refine JL_pure (v := .bool (true)) rfl (Pu.move rfl) ?_
  refine JL_pure (v := .bool (false)) rfl (show Pu _ _ _ (.bool (!true)) from Pu.not rfl) ?_
  refine JL_pure (v := .bool (false)) rfl (Pu.pickF rfl rfl) ?_
  refine JL_nil ?_
  first | exact ⟨rfl, rfl, rfl, rfl, rfl, rfl⟩ | (exfalso; omega)
 ·rintro ρ8 _ ⟨e9, e10, e11, e12, e13, rfl⟩
  obtain ⟨ρ14, rfl⟩ := reopen_ex (uc e9 (uc e10 (uc e11 (uc e12 (uc e13 un)))))
  clear e9 e10 e11 e12 e13
  refine J_cond (b := false) rfl (fun h => absurd h (by simp)) (fun _ => ?_)
  refine J_skip ?_
  refine J_seq ?_
  refine J_region ?_
  refine JL_run rfl (Pu_load ty30 rfl (At.bx 3 rfl) (sub_a hO4.len) ?_)
  refine JL_call rfl Try.call7 rfl (fun hin => ble_at (d := (shT (1) (0) t4)) (e := 0) (shiftP_ct _ _ _ _ _ (hO4.rd (hin 4 _ rfl))) (shiftP_up hg4 (by omega) (by omega) (by omega) (by omega) (by omega))) rfl ?_
  rintro _ _ ⟨cs15, k15, rfl, rfl, hO15⟩
  refine JL_pure (v := .tuple ⟨[.agg ⟨cs15⟩, .int .i64 (0)]⟩) rfl (Pu.move rfl) ?_
  refine JL_pure (v := .agg ⟨cs15⟩) rfl (Pu.extract rfl rfl) ?_
  refine JL_pure (v := .int .i64 (0)) rfl (Pu.extract rfl rfl) ?_
  refine JL_run rfl (Runs_alloc (l := pkT (0) (0) (zS) (.slice none 0 0) (.slice none 0 0)) Try.zeroValue30 rfl fun b16 => ?_)
  refine JL_run rfl (Runs_storeB 0 (vs := cs15) (l := cs15) ty30 rfl rfl rfl rfl hO15.len hO15.ok (spl_a (n := 36) rfl hO15.len) ?_)
  refine JL_pure (v := .int .i64 (0)) rfl (Pu.assign rfl) ?_
  refine JL_nil ?_
  refine J_seq ?_
  cases h17 : (longB (sbT 0 (shT (1) (0) t4) t2)) with
  | true =>
   refine J_region ?_
   refine JL_run rfl (Pu_load ty30 rfl (At.bx 7 rfl) (sub_a hO2.len) ?_)
   refine JL_run rfl (Pu_load ty30 rfl (At.bx 0 rfl) (sub_a hO15.len) ?_)
   refine JL_call rfl Try.call8 rfl (fun hin => ble_at (d := zT) (e := 11) (substP_ct _ _ _ _ _ _ (hO2.rd (hin 8 _ rfl)) (hO15.rd (hin 1 _ rfl))) (tw_aL hg2 hg4 h17)) rfl ?_
   rintro _ _ ⟨cs18, k18, rfl, rfl, hO18⟩
   refine JL_pure (v := .tuple ⟨[.agg ⟨cs18⟩, .int .i64 (11)]⟩) rfl (Pu.move rfl) ?_
   refine JL_pure (v := .agg ⟨cs18⟩) rfl (Pu.extract rfl rfl) ?_
   refine JL_pure (v := .int .i64 (11)) rfl (Pu.extract rfl rfl) ?_
   refine JL_run rfl (Runs_alloc (l := pkT (0) (0) (zS) (.slice none 0 0) (.slice none 0 0)) Try.zeroValue30 rfl fun b19 => ?_)
   refine JL_run rfl (Runs_storeB 0 (vs := cs18) (l := cs18) ty30 rfl rfl rfl rfl hO18.len hO18.ok (spl_a (n := 36) rfl hO18.len) ?_)
   refine JL_pure (v := .int .i64 (11)) rfl (Pu.assign rfl) ?_
   refine JL_nil ?_
   refine J_seq ?_
   refine J_region ?_
   refine JL_run rfl (Pu_load ty30 rfl (At.bx 0 rfl) (sub_a hO18.len) ?_)
   refine JL_run rfl (Pu_load ty30 rfl (At.bx 4 rfl) (sub_a hO6.len) ?_)
   refine JL_call rfl Try.call8 rfl (fun hin => ble_at (d := zT) (e := 3) (substP_ct _ _ _ _ _ _ (hO18.rd (hin 1 _ rfl)) (hO6.rd (hin 6 _ rfl))) (substP_zero)) rfl ?_
   rintro _ _ ⟨cs20, k20, rfl, rfl, hO20⟩
   refine JL_pure (v := .tuple ⟨[.agg ⟨cs20⟩, .int .i64 (3)]⟩) rfl (Pu.move rfl) ?_
   refine JL_pure (v := .agg ⟨cs20⟩) rfl (Pu.extract rfl rfl) ?_
   refine JL_pure (v := .int .i64 (3)) rfl (Pu.extract rfl rfl) ?_
   refine JL_run rfl (Runs_alloc (l := pkT (0) (0) (zS) (.slice none 0 0) (.slice none 0 0)) Try.zeroValue30 rfl fun b21 => ?_)
   refine JL_run rfl (Runs_storeB 0 (vs := cs20) (l := cs20) ty30 rfl rfl rfl rfl hO20.len hO20.ok (spl_a (n := 36) rfl hO20.len) ?_)
   refine JL_pure (v := .int .i64 (3)) rfl (Pu.assign rfl) ?_
   refine JL_nil ?_
   refine J_seq ?_
   refine J_region ?_
   refine JL_run rfl (Pu_load ty30 rfl (At.bx 6 rfl) (sub_a hO6.len) ?_)
   refine JL_call rfl Try.call7 rfl (fun hin => ble_at (d := (shT (1) (0) t6)) (e := 0) (shiftP_ct _ _ _ _ _ (hO6.rd (hin 8 _ rfl))) (shiftP_up hg6 (by omega) (by omega) (by omega) (by omega) (by omega))) rfl ?_
   rintro _ _ ⟨cs22, k22, rfl, rfl, hO22⟩
   refine JL_pure (v := .tuple ⟨[.agg ⟨cs22⟩, .int .i64 (0)]⟩) rfl (Pu.move rfl) ?_
   refine JL_pure (v := .agg ⟨cs22⟩) rfl (Pu.extract rfl rfl) ?_
   refine JL_pure (v := .int .i64 (0)) rfl (Pu.extract rfl rfl) ?_
   refine JL_run rfl (Runs_alloc (l := pkT (0) (0) (zS) (.slice none 0 0) (.slice none 0 0)) Try.zeroValue30 rfl fun b23 => ?_)
   refine JL_run rfl (Runs_storeB 0 (vs := cs22) (l := cs22) ty30 rfl rfl rfl rfl hO22.len hO22.ok (spl_a (n := 36) rfl hO22.len) ?_)
   refine JL_pure (v := .int .i64 (0)) rfl (Pu.assign rfl) ?_
   refine JL_nil ?_
   refine J_seq ?_
   cases h24 : (longB (sbT 1 (shT (1) (0) t6) t2)) with
   | true =>
    refine J_region ?_
    refine JL_run rfl (Pu_load ty30 rfl (At.bx 13 rfl) (sub_a hO2.len) ?_)
    refine JL_run rfl (Pu_load ty30 rfl (At.bx 0 rfl) (sub_a hO22.len) ?_)
    refine JL_call rfl Try.call8 rfl (fun hin => ble_at (d := zT) (e := 11) (substP_ct _ _ _ _ _ _ (hO2.rd (hin 14 _ rfl)) (hO22.rd (hin 1 _ rfl))) (tw_cL hg2 hg6 h24)) rfl ?_
    rintro _ _ ⟨cs25, k25, rfl, rfl, hO25⟩
    refine JL_pure (v := .tuple ⟨[.agg ⟨cs25⟩, .int .i64 (11)]⟩) rfl (Pu.move rfl) ?_
    refine JL_pure (v := .agg ⟨cs25⟩) rfl (Pu.extract rfl rfl) ?_
    refine JL_pure (v := .int .i64 (11)) rfl (Pu.extract rfl rfl) ?_
    refine JL_run rfl (Runs_alloc (l := pkT (0) (0) (zS) (.slice none 0 0) (.slice none 0 0)) Try.zeroValue30 rfl fun b26 => ?_)
    refine JL_run rfl (Runs_storeB 0 (vs := cs25) (l := cs25) ty30 rfl rfl rfl rfl hO25.len hO25.ok (spl_a (n := 36) rfl hO25.len) ?_)
    refine JL_pure (v := .int .i64 (11)) rfl (Pu.assign rfl) ?_
    refine JL_nil ?_
    refine J_seq ?_
    refine J_cut (fun ρ M => ρ 2 = .bool (false) ∧ ρ 6 = .pointer (some ⟨b5, 0, none⟩) ∧ ρ 13 = .int .i64 (11) ∧ ρ 14 = .pointer (some ⟨b21, 0, none⟩) ∧ ρ 15 = .int .i64 (3) ∧ ρ 18 = .pointer (some ⟨b26, 0, none⟩) ∧ ρ 19 = .int .i64 (11) ∧ ρ 100 = .bool (false) ∧ M = [[(b26, .cells ⟨cs25⟩ 30 (0, 0))], k25, [(b23, .cells ⟨cs22⟩ 30 (0, 0))], k22, [(b21, .cells ⟨cs20⟩ 30 (0, 0))], k20, [(b19, .cells ⟨cs18⟩ 30 (0, 0))], k18, [(b16, .cells ⟨cs15⟩ 30 (0, 0))], k15, [(b7, .cells ⟨cs6⟩ 30 (0, 0))], [(bS1, .cells ⟨[u1, .int .i64 (a6), .int .u64 (s6)]⟩ 45 (0, 0))], k6, [(b5, .cells ⟨cs4⟩ 30 (0, 0))], k4, [(b3, .cells ⟨cs2⟩ 30 (0, 0))], k2, k1]) ?_ ?_
    ·refine J_region ?_
     refine JL_pure (v := .int .i64 (0)) rfl (Pu.move rfl) ?_
     refine JL_pure (v := .bool (false)) rfl (show Pu _ _ _ (.bool (!decide ((0 : Int) = 0))) from Pu.neq rfl rfl) ?_
     refine JL_pure (v := .bool (false)) rfl (Pu.move rfl) ?_
     refine JL_pure (v := .int .i64 (0)) rfl (Pu.move rfl) ?_
     refine JL_pure (v := .bool (false)) rfl (show Pu _ _ _ (.bool (!decide ((0 : Int) = 0))) from Pu.neq rfl rfl) ?_
     refine JL_pure (v := .bool (false)) rfl (Pu.pickF rfl rfl) ?_
     refine JL_pure (v := .bool (false)) rfl (Pu.move rfl) ?_
     refine JL_pure (v := .int .i64 (11)) rfl (Pu.move rfl) ?_
     refine JL_pure (v := .bool (true)) rfl (show Pu _ _ _ (.bool (!decide ((11 : Int) = 0))) from Pu.neq rfl rfl) ?_
     refine JL_pure (v := .bool (true)) rfl (Pu.move rfl) ?_
     refine JL_pure (v := .int .i64 (11)) rfl (Pu.move rfl) ?_
     refine JL_call rfl Try.call11 rfl (fun hin => bool_r (r := true) (big_ct _ _) (by decide)) rfl ?_
     rintro _ _ ⟨rfl, rfl⟩
     refine JL_pure (v := .bool (false)) rfl (show Pu _ _ _ (.bool (!true)) from Pu.not rfl) ?_
     refine JL_pure (v := .bool (false)) rfl (Pu.pickT rfl rfl) ?_
     refine JL_pure (v := .bool (false)) rfl (Pu.pickF rfl rfl) ?_
     refine JL_pure (v := .bool (false)) rfl (Pu.move rfl) ?_
     refine JL_pure (v := .int .i64 (11)) rfl (Pu.move rfl) ?_
     refine JL_pure (v := .bool (true)) rfl (show Pu _ _ _ (.bool (!decide ((11 : Int) = 0))) from Pu.neq rfl rfl) ?_
     refine JL_pure (v := .bool (true)) rfl (Pu.move rfl) ?_
     refine JL_pure (v := .int .i64 (11)) rfl (Pu.move rfl) ?_
     refine JL_call rfl Try.call11 rfl (fun hin => bool_r (r := true) (big_ct _ _) (by decide)) rfl ?_
     rintro _ _ ⟨rfl, rfl⟩
     refine JL_pure (v := .bool (false)) rfl (show Pu _ _ _ (.bool (!true)) from Pu.not rfl) ?_
     refine JL_pure (v := .bool (false)) rfl (Pu.pickT rfl rfl) ?_
     refine JL_pure (v := .bool (false)) rfl (Pu.pickF rfl rfl) ?_
     refine JL_nil ?_
     first | exact ⟨rfl, rfl, rfl, rfl, rfl, rfl, rfl, rfl, rfl⟩ | (exfalso; omega)
    ·rintro ρ27 _ ⟨e28, e29, e30, e31, e32, e33, e34, e35, rfl⟩
     obtain ⟨ρ36, rfl⟩ := reopen_ex (uc e28 (uc e29 (uc e30 (uc e31 (uc e32 (uc e33 (uc e34 (uc e35 un))))))))
     clear e28 e29 e30 e31 e32 e33 e34 e35
     refine J_cond (b := false) rfl (fun h => absurd h (by simp)) (fun _ => ?_)
     refine J_skip ?_
     refine J_seq ?_
     refine J_cut (fun ρ M => ρ 2 = .bool (false) ∧ ρ 6 = .pointer (some ⟨b5, 0, none⟩) ∧ ρ 13 = .int .i64 (11) ∧ ρ 14 = .pointer (some ⟨b21, 0, none⟩) ∧ ρ 15 = .int .i64 (3) ∧ ρ 18 = .pointer (some ⟨b26, 0, none⟩) ∧ ρ 110 = .bool (true) ∧ M = [[(b26, .cells ⟨cs25⟩ 30 (0, 0))], k25, [(b23, .cells ⟨cs22⟩ 30 (0, 0))], k22, [(b21, .cells ⟨cs20⟩ 30 (0, 0))], k20, [(b19, .cells ⟨cs18⟩ 30 (0, 0))], k18, [(b16, .cells ⟨cs15⟩ 30 (0, 0))], k15, [(b7, .cells ⟨cs6⟩ 30 (0, 0))], [(bS1, .cells ⟨[u1, .int .i64 (a6), .int .u64 (s6)]⟩ 45 (0, 0))], k6, [(b5, .cells ⟨cs4⟩ 30 (0, 0))], k4, [(b3, .cells ⟨cs2⟩ 30 (0, 0))], k2, k1]) ?_ ?_
     ·refine J_region ?_
      refine JL_pure (v := .int .i64 (11)) rfl (Pu.move rfl) ?_
      refine JL_pure (v := .bool (true)) rfl (show Pu _ _ _ (.bool (!decide ((11 : Int) = 0))) from Pu.neq rfl rfl) ?_
      refine JL_pure (v := .bool (true)) rfl (Pu.move rfl) ?_
      refine JL_skip rfl ?_
      refine JL_skip rfl ?_
      refine JL_pure (v := .bool (true)) rfl (Pu.pickT rfl rfl) ?_
      refine JL_pure (v := .bool (true)) rfl (Pu.move rfl) ?_
      refine JL_skip rfl ?_
      refine JL_skip rfl ?_
      refine JL_pure (v := .bool (true)) rfl (Pu.pickT rfl rfl) ?_
      refine JL_nil ?_
      first | exact ⟨rfl, rfl, rfl, rfl, rfl, rfl, rfl, rfl⟩ | (exfalso; omega)
     ·rintro ρ37 _ ⟨e38, e39, e40, e41, e42, e43, e44, rfl⟩
      obtain ⟨ρ45, rfl⟩ := reopen_ex (uc e38 (uc e39 (uc e40 (uc e41 (uc e42 (uc e43 (uc e44 un)))))))
      clear e38 e39 e40 e41 e42 e43 e44
      refine J_cond (b := true) rfl (fun _ => ?_) (fun h => absurd h (by simp))
      refine J_cut (fun ρ M => ρ 2 = .bool (true) ∧ ρ 6 = .pointer (some ⟨b5, 0, none⟩) ∧ ρ 14 = .pointer (some ⟨b21, 0, none⟩) ∧ ρ 18 = .pointer (some ⟨b26, 0, none⟩) ∧ M = [[(b26, .cells ⟨cs25⟩ 30 (0, 0))], k25, [(b23, .cells ⟨cs22⟩ 30 (0, 0))], k22, [(b21, .cells ⟨cs20⟩ 30 (0, 0))], k20, [(b19, .cells ⟨cs18⟩ 30 (0, 0))], k18, [(b16, .cells ⟨cs15⟩ 30 (0, 0))], k15, [(b7, .cells ⟨cs6⟩ 30 (0, 0))], [(bS1, .cells ⟨[u1, .int .i64 (a6), .int .u64 (s6)]⟩ 45 (0, 0))], k6, [(b5, .cells ⟨cs4⟩ 30 (0, 0))], k4, [(b3, .cells ⟨cs2⟩ 30 (0, 0))], k2, k1]) ?_ ?_
      ·refine J_region ?_
       refine JL_pure (v := .int .i64 (3)) rfl (Pu.move rfl) ?_
       refine JL_pure (v := .bool (false)) rfl (show Pu _ _ _ (.bool (decide ((3 : Int) = 0))) from Pu.eql rfl rfl) ?_
       refine JL_pure (v := .bool (false)) rfl (Pu.move rfl) ?_
       refine JL_pure (v := .int .i64 (3)) rfl (Pu.move rfl) ?_
       refine JL_call rfl Try.call11 rfl (fun hin => bool_r (r := false) (big_ct _ _) (by decide)) rfl ?_
       rintro _ _ ⟨rfl, rfl⟩
       refine JL_pure (v := .bool (false)) rfl (Pu.pickF rfl rfl) ?_
       refine JL_pure (v := .bool (false)) rfl (Pu.move rfl) ?_
       refine JL_pure (v := .int .i64 (11)) rfl (Pu.move rfl) ?_
       refine JL_pure (v := .bool (true)) rfl (show Pu _ _ _ (.bool (!decide ((11 : Int) = 0))) from Pu.neq rfl rfl) ?_
       refine JL_pure (v := .bool (true)) rfl (Pu.pickF rfl rfl) ?_
       refine JL_pure (v := .bool (true)) rfl (Pu.move rfl) ?_
       refine JL_call rfl Try.call10 rfl (fun hin => awake_ct _) rfl ?_
       rintro _ _ ⟨rfl, rfl⟩
       refine JL_pure (v := .bool (true)) rfl (Pu.pickT rfl rfl) ?_
       refine JL_pure (v := .bool (true)) rfl (Pu.assign rfl) ?_
       refine JL_nil ?_
       first | exact ⟨rfl, rfl, rfl, rfl, rfl⟩ | (exfalso; omega)
      ·rintro ρ46 _ ⟨e47, e48, e49, e50, rfl⟩
       obtain ⟨ρ51, rfl⟩ := reopen_ex (uc e47 (uc e48 (uc e49 (uc e50 un))))
       clear e47 e48 e49 e50
       refine J_ret ?_
       refine ⟨.bool (true), [], Ret.one rfl (RV.tmp rfl), Sub.nil, ?_⟩
       exact ⟨rfl, rfl⟩
   | false =>
    refine J_region ?_
    refine JL_run rfl (Pu_load ty30 rfl (At.bx 13 rfl) (sub_a hO2.len) ?_)
    refine JL_run rfl (Pu_load ty30 rfl (At.bx 0 rfl) (sub_a hO22.len) ?_)
    refine JL_call rfl Try.call8 rfl (fun hin => ble_at (d := (sbT 1 (shT (1) (0) t6) t2)) (e := 0) (substP_ct _ _ _ _ _ _ (hO2.rd (hin 14 _ rfl)) (hO22.rd (hin 1 _ rfl))) (tw_c hg2 hg6 h24)) rfl ?_
    rintro _ _ ⟨cs52, k52, rfl, rfl, hO52⟩
    refine JL_pure (v := .tuple ⟨[.agg ⟨cs52⟩, .int .i64 (0)]⟩) rfl (Pu.move rfl) ?_
    refine JL_pure (v := .agg ⟨cs52⟩) rfl (Pu.extract rfl rfl) ?_
    refine JL_pure (v := .int .i64 (0)) rfl (Pu.extract rfl rfl) ?_
    refine JL_run rfl (Runs_alloc (l := pkT (0) (0) (zS) (.slice none 0 0) (.slice none 0 0)) Try.zeroValue30 rfl fun b53 => ?_)
    refine JL_run rfl (Runs_storeB 0 (vs := cs52) (l := cs52) ty30 rfl rfl rfl rfl hO52.len hO52.ok (spl_a (n := 36) rfl hO52.len) ?_)
    refine JL_pure (v := .int .i64 (0)) rfl (Pu.assign rfl) ?_
    refine JL_nil ?_
    refine J_seq ?_
    refine J_cut (fun ρ M => ρ 2 = .bool (false) ∧ ρ 6 = .pointer (some ⟨b5, 0, none⟩) ∧ ρ 13 = .int .i64 (11) ∧ ρ 14 = .pointer (some ⟨b21, 0, none⟩) ∧ ρ 15 = .int .i64 (3) ∧ ρ 18 = .pointer (some ⟨b53, 0, none⟩) ∧ ρ 19 = .int .i64 (0) ∧ ρ 100 = .bool (false) ∧ M = [[(b53, .cells ⟨cs52⟩ 30 (0, 0))], k52, [(b23, .cells ⟨cs22⟩ 30 (0, 0))], k22, [(b21, .cells ⟨cs20⟩ 30 (0, 0))], k20, [(b19, .cells ⟨cs18⟩ 30 (0, 0))], k18, [(b16, .cells ⟨cs15⟩ 30 (0, 0))], k15, [(b7, .cells ⟨cs6⟩ 30 (0, 0))], [(bS1, .cells ⟨[u1, .int .i64 (a6), .int .u64 (s6)]⟩ 45 (0, 0))], k6, [(b5, .cells ⟨cs4⟩ 30 (0, 0))], k4, [(b3, .cells ⟨cs2⟩ 30 (0, 0))], k2, k1]) ?_ ?_
    ·refine J_region ?_
     refine JL_pure (v := .int .i64 (0)) rfl (Pu.move rfl) ?_
     refine JL_pure (v := .bool (false)) rfl (show Pu _ _ _ (.bool (!decide ((0 : Int) = 0))) from Pu.neq rfl rfl) ?_
     refine JL_pure (v := .bool (false)) rfl (Pu.move rfl) ?_
     refine JL_pure (v := .int .i64 (0)) rfl (Pu.move rfl) ?_
     refine JL_pure (v := .bool (false)) rfl (show Pu _ _ _ (.bool (!decide ((0 : Int) = 0))) from Pu.neq rfl rfl) ?_
     refine JL_pure (v := .bool (false)) rfl (Pu.pickF rfl rfl) ?_
     refine JL_pure (v := .bool (false)) rfl (Pu.move rfl) ?_
     refine JL_pure (v := .int .i64 (11)) rfl (Pu.move rfl) ?_
     refine JL_pure (v := .bool (true)) rfl (show Pu _ _ _ (.bool (!decide ((11 : Int) = 0))) from Pu.neq rfl rfl) ?_
     refine JL_pure (v := .bool (true)) rfl (Pu.move rfl) ?_
     refine JL_pure (v := .int .i64 (11)) rfl (Pu.move rfl) ?_
     refine JL_call rfl Try.call11 rfl (fun hin => bool_r (r := true) (big_ct _ _) (by decide)) rfl ?_
     rintro _ _ ⟨rfl, rfl⟩
     refine JL_pure (v := .bool (false)) rfl (show Pu _ _ _ (.bool (!true)) from Pu.not rfl) ?_
     refine JL_pure (v := .bool (false)) rfl (Pu.pickT rfl rfl) ?_
     refine JL_pure (v := .bool (false)) rfl (Pu.pickF rfl rfl) ?_
     refine JL_pure (v := .bool (false)) rfl (Pu.move rfl) ?_
     refine JL_pure (v := .int .i64 (0)) rfl (Pu.move rfl) ?_
     refine JL_pure (v := .bool (false)) rfl (show Pu _ _ _ (.bool (!decide ((0 : Int) = 0))) from Pu.neq rfl rfl) ?_
     refine JL_pure (v := .bool (false)) rfl (Pu.move rfl) ?_
     refine JL_skip rfl ?_
     refine JL_skip rfl ?_
     refine JL_skip rfl ?_
     refine JL_pure (v := .bool (false)) rfl (Pu.pickF rfl rfl) ?_
     refine JL_pure (v := .bool (false)) rfl (Pu.pickF rfl rfl) ?_
     refine JL_nil ?_
     first | exact ⟨rfl, rfl, rfl, rfl, rfl, rfl, rfl, rfl, rfl⟩ | (exfalso; omega)
    ·rintro ρ54 _ ⟨e55, e56, e57, e58, e59, e60, e61, e62, rfl⟩
     obtain ⟨ρ63, rfl⟩ := reopen_ex (uc e55 (uc e56 (uc e57 (uc e58 (uc e59 (uc e60 (uc e61 (uc e62 un))))))))
     clear e55 e56 e57 e58 e59 e60 e61 e62
     refine J_cond (b := false) rfl (fun h => absurd h (by simp)) (fun _ => ?_)
     refine J_skip ?_
     refine J_seq ?_
     refine J_cut (fun ρ M => ρ 2 = .bool (false) ∧ ρ 6 = .pointer (some ⟨b5, 0, none⟩) ∧ ρ 13 = .int .i64 (11) ∧ ρ 14 = .pointer (some ⟨b21, 0, none⟩) ∧ ρ 15 = .int .i64 (3) ∧ ρ 18 = .pointer (some ⟨b53, 0, none⟩) ∧ ρ 110 = .bool (true) ∧ M = [[(b53, .cells ⟨cs52⟩ 30 (0, 0))], k52, [(b23, .cells ⟨cs22⟩ 30 (0, 0))], k22, [(b21, .cells ⟨cs20⟩ 30 (0, 0))], k20, [(b19, .cells ⟨cs18⟩ 30 (0, 0))], k18, [(b16, .cells ⟨cs15⟩ 30 (0, 0))], k15, [(b7, .cells ⟨cs6⟩ 30 (0, 0))], [(bS1, .cells ⟨[u1, .int .i64 (a6), .int .u64 (s6)]⟩ 45 (0, 0))], k6, [(b5, .cells ⟨cs4⟩ 30 (0, 0))], k4, [(b3, .cells ⟨cs2⟩ 30 (0, 0))], k2, k1]) ?_ ?_
     ·refine J_region ?_
      refine JL_pure (v := .int .i64 (11)) rfl (Pu.move rfl) ?_
      refine JL_pure (v := .bool (true)) rfl (show Pu _ _ _ (.bool (!decide ((11 : Int) = 0))) from Pu.neq rfl rfl) ?_
      refine JL_pure (v := .bool (true)) rfl (Pu.move rfl) ?_
      refine JL_skip rfl ?_
      refine JL_skip rfl ?_
      refine JL_pure (v := .bool (true)) rfl (Pu.pickT rfl rfl) ?_
      refine JL_pure (v := .bool (true)) rfl (Pu.move rfl) ?_
      refine JL_skip rfl ?_
      refine JL_skip rfl ?_
      refine JL_pure (v := .bool (true)) rfl (Pu.pickT rfl rfl) ?_
      refine JL_nil ?_
      first | exact ⟨rfl, rfl, rfl, rfl, rfl, rfl, rfl, rfl⟩ | (exfalso; omega)
     ·rintro ρ64 _ ⟨e65, e66, e67, e68, e69, e70, e71, rfl⟩
      obtain ⟨ρ72, rfl⟩ := reopen_ex (uc e65 (uc e66 (uc e67 (uc e68 (uc e69 (uc e70 (uc e71 un)))))))
      clear e65 e66 e67 e68 e69 e70 e71
      refine J_cond (b := true) rfl (fun _ => ?_) (fun h => absurd h (by simp))
      refine J_cut (fun ρ M => ρ 2 = .bool (true) ∧ ρ 6 = .pointer (some ⟨b5, 0, none⟩) ∧ ρ 14 = .pointer (some ⟨b21, 0, none⟩) ∧ ρ 18 = .pointer (some ⟨b53, 0, none⟩) ∧ M = [[(b53, .cells ⟨cs52⟩ 30 (0, 0))], k52, [(b23, .cells ⟨cs22⟩ 30 (0, 0))], k22, [(b21, .cells ⟨cs20⟩ 30 (0, 0))], k20, [(b19, .cells ⟨cs18⟩ 30 (0, 0))], k18, [(b16, .cells ⟨cs15⟩ 30 (0, 0))], k15, [(b7, .cells ⟨cs6⟩ 30 (0, 0))], [(bS1, .cells ⟨[u1, .int .i64 (a6), .int .u64 (s6)]⟩ 45 (0, 0))], k6, [(b5, .cells ⟨cs4⟩ 30 (0, 0))], k4, [(b3, .cells ⟨cs2⟩ 30 (0, 0))], k2, k1]) ?_ ?_
      ·refine J_region ?_
       refine JL_pure (v := .int .i64 (3)) rfl (Pu.move rfl) ?_
       refine JL_pure (v := .bool (false)) rfl (show Pu _ _ _ (.bool (decide ((3 : Int) = 0))) from Pu.eql rfl rfl) ?_
       refine JL_pure (v := .bool (false)) rfl (Pu.move rfl) ?_
       refine JL_pure (v := .int .i64 (3)) rfl (Pu.move rfl) ?_
       refine JL_call rfl Try.call11 rfl (fun hin => bool_r (r := false) (big_ct _ _) (by decide)) rfl ?_
       rintro _ _ ⟨rfl, rfl⟩
       refine JL_pure (v := .bool (false)) rfl (Pu.pickF rfl rfl) ?_
       refine JL_pure (v := .bool (false)) rfl (Pu.move rfl) ?_
       refine JL_pure (v := .int .i64 (11)) rfl (Pu.move rfl) ?_
       refine JL_pure (v := .bool (true)) rfl (show Pu _ _ _ (.bool (!decide ((11 : Int) = 0))) from Pu.neq rfl rfl) ?_
       refine JL_pure (v := .bool (true)) rfl (Pu.pickF rfl rfl) ?_
       refine JL_pure (v := .bool (true)) rfl (Pu.move rfl) ?_
       refine JL_call rfl Try.call10 rfl (fun hin => awake_ct _) rfl ?_
       rintro _ _ ⟨rfl, rfl⟩
       refine JL_pure (v := .bool (true)) rfl (Pu.pickT rfl rfl) ?_
       refine JL_pure (v := .bool (true)) rfl (Pu.assign rfl) ?_
       refine JL_nil ?_
       first | exact ⟨rfl, rfl, rfl, rfl, rfl⟩ | (exfalso; omega)
      ·rintro ρ73 _ ⟨e74, e75, e76, e77, rfl⟩
       obtain ⟨ρ78, rfl⟩ := reopen_ex (uc e74 (uc e75 (uc e76 (uc e77 un))))
       clear e74 e75 e76 e77
       refine J_ret ?_
       refine ⟨.bool (true), [], Ret.one rfl (RV.tmp rfl), Sub.nil, ?_⟩
       exact ⟨rfl, rfl⟩
  | false =>
   refine J_region ?_
   refine JL_run rfl (Pu_load ty30 rfl (At.bx 7 rfl) (sub_a hO2.len) ?_)
   refine JL_run rfl (Pu_load ty30 rfl (At.bx 0 rfl) (sub_a hO15.len) ?_)
   refine JL_call rfl Try.call8 rfl (fun hin => ble_at (d := (sbT 0 (shT (1) (0) t4) t2)) (e := 0) (substP_ct _ _ _ _ _ _ (hO2.rd (hin 8 _ rfl)) (hO15.rd (hin 1 _ rfl))) (tw_a hg2 hg4 h17)) rfl ?_
   rintro _ _ ⟨cs79, k79, rfl, rfl, hO79⟩
   refine JL_pure (v := .tuple ⟨[.agg ⟨cs79⟩, .int .i64 (0)]⟩) rfl (Pu.move rfl) ?_
   refine JL_pure (v := .agg ⟨cs79⟩) rfl (Pu.extract rfl rfl) ?_
   refine JL_pure (v := .int .i64 (0)) rfl (Pu.extract rfl rfl) ?_
   refine JL_run rfl (Runs_alloc (l := pkT (0) (0) (zS) (.slice none 0 0) (.slice none 0 0)) Try.zeroValue30 rfl fun b80 => ?_)
   refine JL_run rfl (Runs_storeB 0 (vs := cs79) (l := cs79) ty30 rfl rfl rfl rfl hO79.len hO79.ok (spl_a (n := 36) rfl hO79.len) ?_)
   refine JL_pure (v := .int .i64 (0)) rfl (Pu.assign rfl) ?_
   refine JL_nil ?_
   refine J_seq ?_
   cases h81 : (longB (sbT 0 t6 (sbT 0 (shT (1) (0) t4) t2))) with
   | true =>
    refine J_region ?_
    refine JL_run rfl (Pu_load ty30 rfl (At.bx 0 rfl) (sub_a hO79.len) ?_)
    refine JL_run rfl (Pu_load ty30 rfl (At.bx 4 rfl) (sub_a hO6.len) ?_)
    refine JL_call rfl Try.call8 rfl (fun hin => ble_at (d := zT) (e := 11) (substP_ct _ _ _ _ _ _ (hO79.rd (hin 1 _ rfl)) (hO6.rd (hin 6 _ rfl))) (tw_bL hg2 hg4 hg6 h17 h81)) rfl ?_
    rintro _ _ ⟨cs82, k82, rfl, rfl, hO82⟩
    refine JL_pure (v := .tuple ⟨[.agg ⟨cs82⟩, .int .i64 (11)]⟩) rfl (Pu.move rfl) ?_
    refine JL_pure (v := .agg ⟨cs82⟩) rfl (Pu.extract rfl rfl) ?_
    refine JL_pure (v := .int .i64 (11)) rfl (Pu.extract rfl rfl) ?_
    refine JL_run rfl (Runs_alloc (l := pkT (0) (0) (zS) (.slice none 0 0) (.slice none 0 0)) Try.zeroValue30 rfl fun b83 => ?_)
    refine JL_run rfl (Runs_storeB 0 (vs := cs82) (l := cs82) ty30 rfl rfl rfl rfl hO82.len hO82.ok (spl_a (n := 36) rfl hO82.len) ?_)
    refine JL_pure (v := .int .i64 (11)) rfl (Pu.assign rfl) ?_
    refine JL_nil ?_
    refine J_seq ?_
    refine J_region ?_
    refine JL_run rfl (Pu_load ty30 rfl (At.bx 6 rfl) (sub_a hO6.len) ?_)
    refine JL_call rfl Try.call7 rfl (fun hin => ble_at (d := (shT (1) (0) t6)) (e := 0) (shiftP_ct _ _ _ _ _ (hO6.rd (hin 8 _ rfl))) (shiftP_up hg6 (by omega) (by omega) (by omega) (by omega) (by omega))) rfl ?_
    rintro _ _ ⟨cs84, k84, rfl, rfl, hO84⟩
    refine JL_pure (v := .tuple ⟨[.agg ⟨cs84⟩, .int .i64 (0)]⟩) rfl (Pu.move rfl) ?_
    refine JL_pure (v := .agg ⟨cs84⟩) rfl (Pu.extract rfl rfl) ?_
    refine JL_pure (v := .int .i64 (0)) rfl (Pu.extract rfl rfl) ?_
    refine JL_run rfl (Runs_alloc (l := pkT (0) (0) (zS) (.slice none 0 0) (.slice none 0 0)) Try.zeroValue30 rfl fun b85 => ?_)
    refine JL_run rfl (Runs_storeB 0 (vs := cs84) (l := cs84) ty30 rfl rfl rfl rfl hO84.len hO84.ok (spl_a (n := 36) rfl hO84.len) ?_)
    refine JL_pure (v := .int .i64 (0)) rfl (Pu.assign rfl) ?_
    refine JL_nil ?_
    refine J_seq ?_
    cases h86 : (longB (sbT 1 (shT (1) (0) t6) t2)) with
    | true =>
     refine J_region ?_
     refine JL_run rfl (Pu_load ty30 rfl (At.bx 13 rfl) (sub_a hO2.len) ?_)
     refine JL_run rfl (Pu_load ty30 rfl (At.bx 0 rfl) (sub_a hO84.len) ?_)
     refine JL_call rfl Try.call8 rfl (fun hin => ble_at (d := zT) (e := 11) (substP_ct _ _ _ _ _ _ (hO2.rd (hin 14 _ rfl)) (hO84.rd (hin 1 _ rfl))) (tw_cL hg2 hg6 h86)) rfl ?_
     rintro _ _ ⟨cs87, k87, rfl, rfl, hO87⟩
     refine JL_pure (v := .tuple ⟨[.agg ⟨cs87⟩, .int .i64 (11)]⟩) rfl (Pu.move rfl) ?_
     refine JL_pure (v := .agg ⟨cs87⟩) rfl (Pu.extract rfl rfl) ?_
     refine JL_pure (v := .int .i64 (11)) rfl (Pu.extract rfl rfl) ?_
     refine JL_run rfl (Runs_alloc (l := pkT (0) (0) (zS) (.slice none 0 0) (.slice none 0 0)) Try.zeroValue30 rfl fun b88 => ?_)
     refine JL_run rfl (Runs_storeB 0 (vs := cs87) (l := cs87) ty30 rfl rfl rfl rfl hO87.len hO87.ok (spl_a (n := 36) rfl hO87.len) ?_)
     refine JL_pure (v := .int .i64 (11)) rfl (Pu.assign rfl) ?_
     refine JL_nil ?_
     refine J_seq ?_
     refine J_cut (fun ρ M => ρ 2 = .bool (false) ∧ ρ 6 = .pointer (some ⟨b5, 0, none⟩) ∧ ρ 13 = .int .i64 (0) ∧ ρ 14 = .pointer (some ⟨b83, 0, none⟩) ∧ ρ 15 = .int .i64 (11) ∧ ρ 18 = .pointer (some ⟨b88, 0, none⟩) ∧ ρ 19 = .int .i64 (11) ∧ ρ 100 = .bool (false) ∧ M = [[(b88, .cells ⟨cs87⟩ 30 (0, 0))], k87, [(b85, .cells ⟨cs84⟩ 30 (0, 0))], k84, [(b83, .cells ⟨cs82⟩ 30 (0, 0))], k82, [(b80, .cells ⟨cs79⟩ 30 (0, 0))], k79, [(b16, .cells ⟨cs15⟩ 30 (0, 0))], k15, [(b7, .cells ⟨cs6⟩ 30 (0, 0))], [(bS1, .cells ⟨[u1, .int .i64 (a6), .int .u64 (s6)]⟩ 45 (0, 0))], k6, [(b5, .cells ⟨cs4⟩ 30 (0, 0))], k4, [(b3, .cells ⟨cs2⟩ 30 (0, 0))], k2, k1]) ?_ ?_
     ·refine J_region ?_
      refine JL_pure (v := .int .i64 (0)) rfl (Pu.move rfl) ?_
      refine JL_pure (v := .bool (false)) rfl (show Pu _ _ _ (.bool (!decide ((0 : Int) = 0))) from Pu.neq rfl rfl) ?_
      refine JL_pure (v := .bool (false)) rfl (Pu.move rfl) ?_
      refine JL_pure (v := .int .i64 (0)) rfl (Pu.move rfl) ?_
      refine JL_pure (v := .bool (false)) rfl (show Pu _ _ _ (.bool (!decide ((0 : Int) = 0))) from Pu.neq rfl rfl) ?_
      refine JL_pure (v := .bool (false)) rfl (Pu.pickF rfl rfl) ?_
      refine JL_pure (v := .bool (false)) rfl (Pu.move rfl) ?_
      refine JL_pure (v := .int .i64 (0)) rfl (Pu.move rfl) ?_
      refine JL_pure (v := .bool (false)) rfl (show Pu _ _ _ (.bool (!decide ((0 : Int) = 0))) from Pu.neq rfl rfl) ?_
      refine JL_pure (v := .bool (false)) rfl (Pu.move rfl) ?_
      refine JL_skip rfl ?_
      refine JL_skip rfl ?_
      refine JL_skip rfl ?_
      refine JL_pure (v := .bool (false)) rfl (Pu.pickF rfl rfl) ?_
      refine JL_pure (v := .bool (false)) rfl (Pu.pickF rfl rfl) ?_
      refine JL_pure (v := .bool (false)) rfl (Pu.move rfl) ?_
      refine JL_pure (v := .int .i64 (11)) rfl (Pu.move rfl) ?_
      refine JL_pure (v := .bool (true)) rfl (show Pu _ _ _ (.bool (!decide ((11 : Int) = 0))) from Pu.neq rfl rfl) ?_
      refine JL_pure (v := .bool (true)) rfl (Pu.move rfl) ?_
      refine JL_pure (v := .int .i64 (11)) rfl (Pu.move rfl) ?_
      refine JL_call rfl Try.call11 rfl (fun hin => bool_r (r := true) (big_ct _ _) (by decide)) rfl ?_
      rintro _ _ ⟨rfl, rfl⟩
      refine JL_pure (v := .bool (false)) rfl (show Pu _ _ _ (.bool (!true)) from Pu.not rfl) ?_
      refine JL_pure (v := .bool (false)) rfl (Pu.pickT rfl rfl) ?_
      refine JL_pure (v := .bool (false)) rfl (Pu.pickF rfl rfl) ?_
      refine JL_nil ?_
      first | exact ⟨rfl, rfl, rfl, rfl, rfl, rfl, rfl, rfl, rfl⟩ | (exfalso; omega)
     ·rintro ρ89 _ ⟨e90, e91, e92, e93, e94, e95, e96, e97, rfl⟩
      obtain ⟨ρ98, rfl⟩ := reopen_ex (uc e90 (uc e91 (uc e92 (uc e93 (uc e94 (uc e95 (uc e96 (uc e97 un))))))))
      clear e90 e91 e92 e93 e94 e95 e96 e97
      refine J_cond (b := false) rfl (fun h => absurd h (by simp)) (fun _ => ?_)
      refine J_skip ?_
      refine J_seq ?_
      refine J_cut (fun ρ M => ρ 2 = .bool (false) ∧ ρ 6 = .pointer (some ⟨b5, 0, none⟩) ∧ ρ 13 = .int .i64 (0) ∧ ρ 14 = .pointer (some ⟨b83, 0, none⟩) ∧ ρ 15 = .int .i64 (11) ∧ ρ 18 = .pointer (some ⟨b88, 0, none⟩) ∧ ρ 110 = .bool (true) ∧ M = [[(b88, .cells ⟨cs87⟩ 30 (0, 0))], k87, [(b85, .cells ⟨cs84⟩ 30 (0, 0))], k84, [(b83, .cells ⟨cs82⟩ 30 (0, 0))], k82, [(b80, .cells ⟨cs79⟩ 30 (0, 0))], k79, [(b16, .cells ⟨cs15⟩ 30 (0, 0))], k15, [(b7, .cells ⟨cs6⟩ 30 (0, 0))], [(bS1, .cells ⟨[u1, .int .i64 (a6), .int .u64 (s6)]⟩ 45 (0, 0))], k6, [(b5, .cells ⟨cs4⟩ 30 (0, 0))], k4, [(b3, .cells ⟨cs2⟩ 30 (0, 0))], k2, k1]) ?_ ?_
      ·refine J_region ?_
       refine JL_pure (v := .int .i64 (0)) rfl (Pu.move rfl) ?_
       refine JL_pure (v := .bool (false)) rfl (show Pu _ _ _ (.bool (!decide ((0 : Int) = 0))) from Pu.neq rfl rfl) ?_
       refine JL_pure (v := .bool (false)) rfl (Pu.move rfl) ?_
       refine JL_pure (v := .int .i64 (11)) rfl (Pu.move rfl) ?_
       refine JL_pure (v := .bool (true)) rfl (show Pu _ _ _ (.bool (!decide ((11 : Int) = 0))) from Pu.neq rfl rfl) ?_
       refine JL_pure (v := .bool (true)) rfl (Pu.pickF rfl rfl) ?_
       refine JL_pure (v := .bool (true)) rfl (Pu.move rfl) ?_
       refine JL_skip rfl ?_
       refine JL_skip rfl ?_
       refine JL_pure (v := .bool (true)) rfl (Pu.pickT rfl rfl) ?_
       refine JL_nil ?_
       first | exact ⟨rfl, rfl, rfl, rfl, rfl, rfl, rfl, rfl⟩ | (exfalso; omega)
      ·rintro ρ99 _ ⟨e100, e101, e102, e103, e104, e105, e106, rfl⟩
       obtain ⟨ρ107, rfl⟩ := reopen_ex (uc e100 (uc e101 (uc e102 (uc e103 (uc e104 (uc e105 (uc e106 un)))))))
       clear e100 e101 e102 e103 e104 e105 e106
       refine J_cond (b := true) rfl (fun _ => ?_) (fun h => absurd h (by simp))
       refine J_cut (fun ρ M => ρ 2 = .bool (true) ∧ ρ 6 = .pointer (some ⟨b5, 0, none⟩) ∧ ρ 14 = .pointer (some ⟨b83, 0, none⟩) ∧ ρ 18 = .pointer (some ⟨b88, 0, none⟩) ∧ M = [[(b88, .cells ⟨cs87⟩ 30 (0, 0))], k87, [(b85, .cells ⟨cs84⟩ 30 (0, 0))], k84, [(b83, .cells ⟨cs82⟩ 30 (0, 0))], k82, [(b80, .cells ⟨cs79⟩ 30 (0, 0))], k79, [(b16, .cells ⟨cs15⟩ 30 (0, 0))], k15, [(b7, .cells ⟨cs6⟩ 30 (0, 0))], [(bS1, .cells ⟨[u1, .int .i64 (a6), .int .u64 (s6)]⟩ 45 (0, 0))], k6, [(b5, .cells ⟨cs4⟩ 30 (0, 0))], k4, [(b3, .cells ⟨cs2⟩ 30 (0, 0))], k2, k1]) ?_ ?_
       ·refine J_region ?_
        refine JL_pure (v := .int .i64 (11)) rfl (Pu.move rfl) ?_
        refine JL_pure (v := .bool (false)) rfl (show Pu _ _ _ (.bool (decide ((11 : Int) = 0))) from Pu.eql rfl rfl) ?_
        refine JL_pure (v := .bool (false)) rfl (Pu.move rfl) ?_
        refine JL_pure (v := .int .i64 (11)) rfl (Pu.move rfl) ?_
        refine JL_call rfl Try.call11 rfl (fun hin => bool_r (r := true) (big_ct _ _) (by decide)) rfl ?_
        rintro _ _ ⟨rfl, rfl⟩
        refine JL_pure (v := .bool (true)) rfl (Pu.pickF rfl rfl) ?_
        refine JL_pure (v := .bool (true)) rfl (Pu.move rfl) ?_
        refine JL_skip rfl ?_
        refine JL_skip rfl ?_
        refine JL_pure (v := .bool (true)) rfl (Pu.pickT rfl rfl) ?_
        refine JL_pure (v := .bool (true)) rfl (Pu.move rfl) ?_
        refine JL_call rfl Try.call10 rfl (fun hin => awake_ct _) rfl ?_
        rintro _ _ ⟨rfl, rfl⟩
        refine JL_pure (v := .bool (true)) rfl (Pu.pickT rfl rfl) ?_
        refine JL_pure (v := .bool (true)) rfl (Pu.assign rfl) ?_
        refine JL_nil ?_
        first | exact ⟨rfl, rfl, rfl, rfl, rfl⟩ | (exfalso; omega)
       ·rintro ρ108 _ ⟨e109, e110, e111, e112, rfl⟩
        obtain ⟨ρ113, rfl⟩ := reopen_ex (uc e109 (uc e110 (uc e111 (uc e112 un))))
        clear e109 e110 e111 e112
        refine J_ret ?_
        refine ⟨.bool (true), [], Ret.one rfl (RV.tmp rfl), Sub.nil, ?_⟩
        exact ⟨rfl, rfl⟩
    | false =>
     refine J_region ?_
     refine JL_run rfl (Pu_load ty30 rfl (At.bx 13 rfl) (sub_a hO2.len) ?_)
     refine JL_run rfl (Pu_load ty30 rfl (At.bx 0 rfl) (sub_a hO84.len) ?_)
     refine JL_call rfl Try.call8 rfl (fun hin => ble_at (d := (sbT 1 (shT (1) (0) t6) t2)) (e := 0) (substP_ct _ _ _ _ _ _ (hO2.rd (hin 14 _ rfl)) (hO84.rd (hin 1 _ rfl))) (tw_c hg2 hg6 h86)) rfl ?_
     rintro _ _ ⟨cs114, k114, rfl, rfl, hO114⟩
     refine JL_pure (v := .tuple ⟨[.agg ⟨cs114⟩, .int .i64 (0)]⟩) rfl (Pu.move rfl) ?_
     refine JL_pure (v := .agg ⟨cs114⟩) rfl (Pu.extract rfl rfl) ?_
     refine JL_pure (v := .int .i64 (0)) rfl (Pu.extract rfl rfl) ?_
     refine JL_run rfl (Runs_alloc (l := pkT (0) (0) (zS) (.slice none 0 0) (.slice none 0 0)) Try.zeroValue30 rfl fun b115 => ?_)
     refine JL_run rfl (Runs_storeB 0 (vs := cs114) (l := cs114) ty30 rfl rfl rfl rfl hO114.len hO114.ok (spl_a (n := 36) rfl hO114.len) ?_)
     refine JL_pure (v := .int .i64 (0)) rfl (Pu.assign rfl) ?_
     refine JL_nil ?_
     refine J_seq ?_
     refine J_cut (fun ρ M => ρ 2 = .bool (false) ∧ ρ 6 = .pointer (some ⟨b5, 0, none⟩) ∧ ρ 13 = .int .i64 (0) ∧ ρ 14 = .pointer (some ⟨b83, 0, none⟩) ∧ ρ 15 = .int .i64 (11) ∧ ρ 18 = .pointer (some ⟨b115, 0, none⟩) ∧ ρ 19 = .int .i64 (0) ∧ ρ 100 = .bool (false) ∧ M = [[(b115, .cells ⟨cs114⟩ 30 (0, 0))], k114, [(b85, .cells ⟨cs84⟩ 30 (0, 0))], k84, [(b83, .cells ⟨cs82⟩ 30 (0, 0))], k82, [(b80, .cells ⟨cs79⟩ 30 (0, 0))], k79, [(b16, .cells ⟨cs15⟩ 30 (0, 0))], k15, [(b7, .cells ⟨cs6⟩ 30 (0, 0))], [(bS1, .cells ⟨[u1, .int .i64 (a6), .int .u64 (s6)]⟩ 45 (0, 0))], k6, [(b5, .cells ⟨cs4⟩ 30 (0, 0))], k4, [(b3, .cells ⟨cs2⟩ 30 (0, 0))], k2, k1]) ?_ ?_
     ·refine J_region ?_
      refine JL_pure (v := .int .i64 (0)) rfl (Pu.move rfl) ?_
      refine JL_pure (v := .bool (false)) rfl (show Pu _ _ _ (.bool (!decide ((0 : Int) = 0))) from Pu.neq rfl rfl) ?_
      refine JL_pure (v := .bool (false)) rfl (Pu.move rfl) ?_
      refine JL_pure (v := .int .i64 (0)) rfl (Pu.move rfl) ?_
      refine JL_pure (v := .bool (false)) rfl (show Pu _ _ _ (.bool (!decide ((0 : Int) = 0))) from Pu.neq rfl rfl) ?_
      refine JL_pure (v := .bool (false)) rfl (Pu.pickF rfl rfl) ?_
      refine JL_pure (v := .bool (false)) rfl (Pu.move rfl) ?_
      refine JL_pure (v := .int .i64 (0)) rfl (Pu.move rfl) ?_
      refine JL_pure (v := .bool (false)) rfl (show Pu _ _ _ (.bool (!decide ((0 : Int) = 0))) from Pu.neq rfl rfl) ?_
      refine JL_pure (v := .bool (false)) rfl (Pu.move rfl) ?_
      refine JL_skip rfl ?_
      refine JL_skip rfl ?_
      refine JL_skip rfl ?_
      refine JL_pure (v := .bool (false)) rfl (Pu.pickF rfl rfl) ?_
      refine JL_pure (v := .bool (false)) rfl (Pu.pickF rfl rfl) ?_
      refine JL_pure (v := .bool (false)) rfl (Pu.move rfl) ?_
      refine JL_pure (v := .int .i64 (0)) rfl (Pu.move rfl) ?_
      refine JL_pure (v := .bool (false)) rfl (show Pu _ _ _ (.bool (!decide ((0 : Int) = 0))) from Pu.neq rfl rfl) ?_
      refine JL_pure (v := .bool (false)) rfl (Pu.move rfl) ?_
      refine JL_skip rfl ?_
      refine JL_skip rfl ?_
      refine JL_skip rfl ?_
      refine JL_pure (v := .bool (false)) rfl (Pu.pickF rfl rfl) ?_
      refine JL_pure (v := .bool (false)) rfl (Pu.pickF rfl rfl) ?_
      refine JL_nil ?_
      first | exact ⟨rfl, rfl, rfl, rfl, rfl, rfl, rfl, rfl, rfl⟩ | (exfalso; omega)
     ·rintro ρ116 _ ⟨e117, e118, e119, e120, e121, e122, e123, e124, rfl⟩
      obtain ⟨ρ125, rfl⟩ := reopen_ex (uc e117 (uc e118 (uc e119 (uc e120 (uc e121 (uc e122 (uc e123 (uc e124 un))))))))
      clear e117 e118 e119 e120 e121 e122 e123 e124
      refine J_cond (b := false) rfl (fun h => absurd h (by simp)) (fun _ => ?_)
      refine J_skip ?_
      refine J_seq ?_
      refine J_cut (fun ρ M => ρ 2 = .bool (false) ∧ ρ 6 = .pointer (some ⟨b5, 0, none⟩) ∧ ρ 13 = .int .i64 (0) ∧ ρ 14 = .pointer (some ⟨b83, 0, none⟩) ∧ ρ 15 = .int .i64 (11) ∧ ρ 18 = .pointer (some ⟨b115, 0, none⟩) ∧ ρ 110 = .bool (true) ∧ M = [[(b115, .cells ⟨cs114⟩ 30 (0, 0))], k114, [(b85, .cells ⟨cs84⟩ 30 (0, 0))], k84, [(b83, .cells ⟨cs82⟩ 30 (0, 0))], k82, [(b80, .cells ⟨cs79⟩ 30 (0, 0))], k79, [(b16, .cells ⟨cs15⟩ 30 (0, 0))], k15, [(b7, .cells ⟨cs6⟩ 30 (0, 0))], [(bS1, .cells ⟨[u1, .int .i64 (a6), .int .u64 (s6)]⟩ 45 (0, 0))], k6, [(b5, .cells ⟨cs4⟩ 30 (0, 0))], k4, [(b3, .cells ⟨cs2⟩ 30 (0, 0))], k2, k1]) ?_ ?_
      ·refine J_region ?_
       refine JL_pure (v := .int .i64 (0)) rfl (Pu.move rfl) ?_
       refine JL_pure (v := .bool (false)) rfl (show Pu _ _ _ (.bool (!decide ((0 : Int) = 0))) from Pu.neq rfl rfl) ?_
       refine JL_pure (v := .bool (false)) rfl (Pu.move rfl) ?_
       refine JL_pure (v := .int .i64 (0)) rfl (Pu.move rfl) ?_
       refine JL_pure (v := .bool (false)) rfl (show Pu _ _ _ (.bool (!decide ((0 : Int) = 0))) from Pu.neq rfl rfl) ?_
       refine JL_pure (v := .bool (false)) rfl (Pu.pickF rfl rfl) ?_
       refine JL_pure (v := .bool (false)) rfl (Pu.move rfl) ?_
       refine JL_pure (v := .int .i64 (11)) rfl (Pu.move rfl) ?_
       refine JL_pure (v := .bool (true)) rfl (show Pu _ _ _ (.bool (!decide ((11 : Int) = 0))) from Pu.neq rfl rfl) ?_
       refine JL_pure (v := .bool (true)) rfl (Pu.pickF rfl rfl) ?_
       refine JL_nil ?_
       first | exact ⟨rfl, rfl, rfl, rfl, rfl, rfl, rfl, rfl⟩ | (exfalso; omega)
      ·rintro ρ126 _ ⟨e127, e128, e129, e130, e131, e132, e133, rfl⟩
       obtain ⟨ρ134, rfl⟩ := reopen_ex (uc e127 (uc e128 (uc e129 (uc e130 (uc e131 (uc e132 (uc e133 un)))))))
       clear e127 e128 e129 e130 e131 e132 e133
       refine J_cond (b := true) rfl (fun _ => ?_) (fun h => absurd h (by simp))
       refine J_cut (fun ρ M => ρ 2 = .bool (true) ∧ ρ 6 = .pointer (some ⟨b5, 0, none⟩) ∧ ρ 14 = .pointer (some ⟨b83, 0, none⟩) ∧ ρ 18 = .pointer (some ⟨b115, 0, none⟩) ∧ M = [[(b115, .cells ⟨cs114⟩ 30 (0, 0))], k114, [(b85, .cells ⟨cs84⟩ 30 (0, 0))], k84, [(b83, .cells ⟨cs82⟩ 30 (0, 0))], k82, [(b80, .cells ⟨cs79⟩ 30 (0, 0))], k79, [(b16, .cells ⟨cs15⟩ 30 (0, 0))], k15, [(b7, .cells ⟨cs6⟩ 30 (0, 0))], [(bS1, .cells ⟨[u1, .int .i64 (a6), .int .u64 (s6)]⟩ 45 (0, 0))], k6, [(b5, .cells ⟨cs4⟩ 30 (0, 0))], k4, [(b3, .cells ⟨cs2⟩ 30 (0, 0))], k2, k1]) ?_ ?_
       ·refine J_region ?_
        refine JL_pure (v := .int .i64 (11)) rfl (Pu.move rfl) ?_
        refine JL_pure (v := .bool (false)) rfl (show Pu _ _ _ (.bool (decide ((11 : Int) = 0))) from Pu.eql rfl rfl) ?_
        refine JL_pure (v := .bool (false)) rfl (Pu.move rfl) ?_
        refine JL_pure (v := .int .i64 (11)) rfl (Pu.move rfl) ?_
        refine JL_call rfl Try.call11 rfl (fun hin => bool_r (r := true) (big_ct _ _) (by decide)) rfl ?_
        rintro _ _ ⟨rfl, rfl⟩
        refine JL_pure (v := .bool (true)) rfl (Pu.pickF rfl rfl) ?_
        refine JL_pure (v := .bool (true)) rfl (Pu.move rfl) ?_
        refine JL_skip rfl ?_
        refine JL_skip rfl ?_
        refine JL_pure (v := .bool (true)) rfl (Pu.pickT rfl rfl) ?_
        refine JL_pure (v := .bool (true)) rfl (Pu.move rfl) ?_
        refine JL_call rfl Try.call10 rfl (fun hin => awake_ct _) rfl ?_
        rintro _ _ ⟨rfl, rfl⟩
        refine JL_pure (v := .bool (true)) rfl (Pu.pickT rfl rfl) ?_
        refine JL_pure (v := .bool (true)) rfl (Pu.assign rfl) ?_
        refine JL_nil ?_
        first | exact ⟨rfl, rfl, rfl, rfl, rfl⟩ | (exfalso; omega)
       ·rintro ρ135 _ ⟨e136, e137, e138, e139, rfl⟩
        obtain ⟨ρ140, rfl⟩ := reopen_ex (uc e136 (uc e137 (uc e138 (uc e139 un))))
        clear e136 e137 e138 e139
        refine J_ret ?_
        refine ⟨.bool (true), [], Ret.one rfl (RV.tmp rfl), Sub.nil, ?_⟩
        exact ⟨rfl, rfl⟩
   | false =>
    refine J_region ?_
    refine JL_run rfl (Pu_load ty30 rfl (At.bx 0 rfl) (sub_a hO79.len) ?_)
    refine JL_run rfl (Pu_load ty30 rfl (At.bx 4 rfl) (sub_a hO6.len) ?_)
    refine JL_call rfl Try.call8 rfl (fun hin => ble_at (d := (sbT 0 t6 (sbT 0 (shT (1) (0) t4) t2))) (e := 0) (substP_ct _ _ _ _ _ _ (hO79.rd (hin 1 _ rfl)) (hO6.rd (hin 6 _ rfl))) (tw_b hg2 hg4 hg6 h17 h81)) rfl ?_
    rintro _ _ ⟨cs141, k141, rfl, rfl, hO141⟩
    refine JL_pure (v := .tuple ⟨[.agg ⟨cs141⟩, .int .i64 (0)]⟩) rfl (Pu.move rfl) ?_
    refine JL_pure (v := .agg ⟨cs141⟩) rfl (Pu.extract rfl rfl) ?_
    refine JL_pure (v := .int .i64 (0)) rfl (Pu.extract rfl rfl) ?_
    refine JL_run rfl (Runs_alloc (l := pkT (0) (0) (zS) (.slice none 0 0) (.slice none 0 0)) Try.zeroValue30 rfl fun b142 => ?_)
    refine JL_run rfl (Runs_storeB 0 (vs := cs141) (l := cs141) ty30 rfl rfl rfl rfl hO141.len hO141.ok (spl_a (n := 36) rfl hO141.len) ?_)
    refine JL_pure (v := .int .i64 (0)) rfl (Pu.assign rfl) ?_
    refine JL_nil ?_
    refine J_seq ?_
    refine J_region ?_
    refine JL_run rfl (Pu_load ty30 rfl (At.bx 6 rfl) (sub_a hO6.len) ?_)
    refine JL_call rfl Try.call7 rfl (fun hin => ble_at (d := (shT (1) (0) t6)) (e := 0) (shiftP_ct _ _ _ _ _ (hO6.rd (hin 8 _ rfl))) (shiftP_up hg6 (by omega) (by omega) (by omega) (by omega) (by omega))) rfl ?_
    rintro _ _ ⟨cs143, k143, rfl, rfl, hO143⟩
    refine JL_pure (v := .tuple ⟨[.agg ⟨cs143⟩, .int .i64 (0)]⟩) rfl (Pu.move rfl) ?_
    refine JL_pure (v := .agg ⟨cs143⟩) rfl (Pu.extract rfl rfl) ?_
    refine JL_pure (v := .int .i64 (0)) rfl (Pu.extract rfl rfl) ?_
    refine JL_run rfl (Runs_alloc (l := pkT (0) (0) (zS) (.slice none 0 0) (.slice none 0 0)) Try.zeroValue30 rfl fun b144 => ?_)
    refine JL_run rfl (Runs_storeB 0 (vs := cs143) (l := cs143) ty30 rfl rfl rfl rfl hO143.len hO143.ok (spl_a (n := 36) rfl hO143.len) ?_)
    refine JL_pure (v := .int .i64 (0)) rfl (Pu.assign rfl) ?_
    refine JL_nil ?_
    refine J_seq ?_
    cases h145 : (longB (sbT 1 (shT (1) (0) t6) t2)) with
    | true =>
     refine J_region ?_
     refine JL_run rfl (Pu_load ty30 rfl (At.bx 13 rfl) (sub_a hO2.len) ?_)
     refine JL_run rfl (Pu_load ty30 rfl (At.bx 0 rfl) (sub_a hO143.len) ?_)
     refine JL_call rfl Try.call8 rfl (fun hin => ble_at (d := zT) (e := 11) (substP_ct _ _ _ _ _ _ (hO2.rd (hin 14 _ rfl)) (hO143.rd (hin 1 _ rfl))) (tw_cL hg2 hg6 h145)) rfl ?_
     rintro _ _ ⟨cs146, k146, rfl, rfl, hO146⟩
     refine JL_pure (v := .tuple ⟨[.agg ⟨cs146⟩, .int .i64 (11)]⟩) rfl (Pu.move rfl) ?_
     refine JL_pure (v := .agg ⟨cs146⟩) rfl (Pu.extract rfl rfl) ?_
     refine JL_pure (v := .int .i64 (11)) rfl (Pu.extract rfl rfl) ?_
     refine JL_run rfl (Runs_alloc (l := pkT (0) (0) (zS) (.slice none 0 0) (.slice none 0 0)) Try.zeroValue30 rfl fun b147 => ?_)
     refine JL_run rfl (Runs_storeB 0 (vs := cs146) (l := cs146) ty30 rfl rfl rfl rfl hO146.len hO146.ok (spl_a (n := 36) rfl hO146.len) ?_)
     refine JL_pure (v := .int .i64 (11)) rfl (Pu.assign rfl) ?_
     refine JL_nil ?_
     refine J_seq ?_
     refine J_cut (fun ρ M => ρ 2 = .bool (false) ∧ ρ 6 = .pointer (some ⟨b5, 0, none⟩) ∧ ρ 13 = .int .i64 (0) ∧ ρ 14 = .pointer (some ⟨b142, 0, none⟩) ∧ ρ 15 = .int .i64 (0) ∧ ρ 18 = .pointer (some ⟨b147, 0, none⟩) ∧ ρ 19 = .int .i64 (11) ∧ ρ 100 = .bool (false) ∧ M = [[(b147, .cells ⟨cs146⟩ 30 (0, 0))], k146, [(b144, .cells ⟨cs143⟩ 30 (0, 0))], k143, [(b142, .cells ⟨cs141⟩ 30 (0, 0))], k141, [(b80, .cells ⟨cs79⟩ 30 (0, 0))], k79, [(b16, .cells ⟨cs15⟩ 30 (0, 0))], k15, [(b7, .cells ⟨cs6⟩ 30 (0, 0))], [(bS1, .cells ⟨[u1, .int .i64 (a6), .int .u64 (s6)]⟩ 45 (0, 0))], k6, [(b5, .cells ⟨cs4⟩ 30 (0, 0))], k4, [(b3, .cells ⟨cs2⟩ 30 (0, 0))], k2, k1]) ?_ ?_
     ·refine J_region ?_
      refine JL_pure (v := .int .i64 (0)) rfl (Pu.move rfl) ?_
      refine JL_pure (v := .bool (false)) rfl (show Pu _ _ _ (.bool (!decide ((0 : Int) = 0))) from Pu.neq rfl rfl) ?_
      refine JL_pure (v := .bool (false)) rfl (Pu.move rfl) ?_
      refine JL_pure (v := .int .i64 (0)) rfl (Pu.move rfl) ?_
      refine JL_pure (v := .bool (false)) rfl (show Pu _ _ _ (.bool (!decide ((0 : Int) = 0))) from Pu.neq rfl rfl) ?_
      refine JL_pure (v := .bool (false)) rfl (Pu.pickF rfl rfl) ?_
      refine JL_pure (v := .bool (false)) rfl (Pu.move rfl) ?_
      refine JL_pure (v := .int .i64 (0)) rfl (Pu.move rfl) ?_
      refine JL_pure (v := .bool (false)) rfl (show Pu _ _ _ (.bool (!decide ((0 : Int) = 0))) from Pu.neq rfl rfl) ?_
      refine JL_pure (v := .bool (false)) rfl (Pu.move rfl) ?_
      refine JL_skip rfl ?_
      refine JL_skip rfl ?_
      refine JL_skip rfl ?_
      refine JL_pure (v := .bool (false)) rfl (Pu.pickF rfl rfl) ?_
      refine JL_pure (v := .bool (false)) rfl (Pu.pickF rfl rfl) ?_
      refine JL_pure (v := .bool (false)) rfl (Pu.move rfl) ?_
      refine JL_pure (v := .int .i64 (11)) rfl (Pu.move rfl) ?_
      refine JL_pure (v := .bool (true)) rfl (show Pu _ _ _ (.bool (!decide ((11 : Int) = 0))) from Pu.neq rfl rfl) ?_
      refine JL_pure (v := .bool (true)) rfl (Pu.move rfl) ?_
      refine JL_pure (v := .int .i64 (11)) rfl (Pu.move rfl) ?_
      refine JL_call rfl Try.call11 rfl (fun hin => bool_r (r := true) (big_ct _ _) (by decide)) rfl ?_
      rintro _ _ ⟨rfl, rfl⟩
      refine JL_pure (v := .bool (false)) rfl (show Pu _ _ _ (.bool (!true)) from Pu.not rfl) ?_
      refine JL_pure (v := .bool (false)) rfl (Pu.pickT rfl rfl) ?_
      refine JL_pure (v := .bool (false)) rfl (Pu.pickF rfl rfl) ?_
      refine JL_nil ?_
      first | exact ⟨rfl, rfl, rfl, rfl, rfl, rfl, rfl, rfl, rfl⟩ | (exfalso; omega)
     ·rintro ρ148 _ ⟨e149, e150, e151, e152, e153, e154, e155, e156, rfl⟩
      obtain ⟨ρ157, rfl⟩ := reopen_ex (uc e149 (uc e150 (uc e151 (uc e152 (uc e153 (uc e154 (uc e155 (uc e156 un))))))))
      clear e149 e150 e151 e152 e153 e154 e155 e156
      refine J_cond (b := false) rfl (fun h => absurd h (by simp)) (fun _ => ?_)
      refine J_skip ?_
      refine J_seq ?_
      refine J_cut (fun ρ M => ρ 2 = .bool (false) ∧ ρ 6 = .pointer (some ⟨b5, 0, none⟩) ∧ ρ 13 = .int .i64 (0) ∧ ρ 14 = .pointer (some ⟨b142, 0, none⟩) ∧ ρ 15 = .int .i64 (0) ∧ ρ 18 = .pointer (some ⟨b147, 0, none⟩) ∧ ρ 110 = .bool (true) ∧ M = [[(b147, .cells ⟨cs146⟩ 30 (0, 0))], k146, [(b144, .cells ⟨cs143⟩ 30 (0, 0))], k143, [(b142, .cells ⟨cs141⟩ 30 (0, 0))], k141, [(b80, .cells ⟨cs79⟩ 30 (0, 0))], k79, [(b16, .cells ⟨cs15⟩ 30 (0, 0))], k15, [(b7, .cells ⟨cs6⟩ 30 (0, 0))], [(bS1, .cells ⟨[u1, .int .i64 (a6), .int .u64 (s6)]⟩ 45 (0, 0))], k6, [(b5, .cells ⟨cs4⟩ 30 (0, 0))], k4, [(b3, .cells ⟨cs2⟩ 30 (0, 0))], k2, k1]) ?_ ?_
      ·refine J_region ?_
       refine JL_pure (v := .int .i64 (0)) rfl (Pu.move rfl) ?_
       refine JL_pure (v := .bool (false)) rfl (show Pu _ _ _ (.bool (!decide ((0 : Int) = 0))) from Pu.neq rfl rfl) ?_
       refine JL_pure (v := .bool (false)) rfl (Pu.move rfl) ?_
       refine JL_pure (v := .int .i64 (11)) rfl (Pu.move rfl) ?_
       refine JL_pure (v := .bool (true)) rfl (show Pu _ _ _ (.bool (!decide ((11 : Int) = 0))) from Pu.neq rfl rfl) ?_
       refine JL_pure (v := .bool (true)) rfl (Pu.pickF rfl rfl) ?_
       refine JL_pure (v := .bool (true)) rfl (Pu.move rfl) ?_
       refine JL_skip rfl ?_
       refine JL_skip rfl ?_
       refine JL_pure (v := .bool (true)) rfl (Pu.pickT rfl rfl) ?_
       refine JL_nil ?_
       first | exact ⟨rfl, rfl, rfl, rfl, rfl, rfl, rfl, rfl⟩ | (exfalso; omega)
      ·rintro ρ158 _ ⟨e159, e160, e161, e162, e163, e164, e165, rfl⟩
       obtain ⟨ρ166, rfl⟩ := reopen_ex (uc e159 (uc e160 (uc e161 (uc e162 (uc e163 (uc e164 (uc e165 un)))))))
       clear e159 e160 e161 e162 e163 e164 e165
       refine J_cond (b := true) rfl (fun _ => ?_) (fun h => absurd h (by simp))
       refine J_cut (fun ρ M => ρ 2 = .bool (true) ∧ ρ 6 = .pointer (some ⟨b5, 0, none⟩) ∧ ρ 14 = .pointer (some ⟨b142, 0, none⟩) ∧ ρ 18 = .pointer (some ⟨b147, 0, none⟩) ∧ M = [[(b147, .cells ⟨cs146⟩ 30 (0, 0))], k146, [(b144, .cells ⟨cs143⟩ 30 (0, 0))], k143, [(b142, .cells ⟨cs141⟩ 30 (0, 0))], k141, [(b80, .cells ⟨cs79⟩ 30 (0, 0))], k79, [(b16, .cells ⟨cs15⟩ 30 (0, 0))], k15, [(b7, .cells ⟨cs6⟩ 30 (0, 0))], [(bS1, .cells ⟨[u1, .int .i64 (a6), .int .u64 (s6)]⟩ 45 (0, 0))], k6, [(b5, .cells ⟨cs4⟩ 30 (0, 0))], k4, [(b3, .cells ⟨cs2⟩ 30 (0, 0))], k2, k1]) ?_ ?_
       ·refine J_region ?_
        refine JL_pure (v := .int .i64 (0)) rfl (Pu.move rfl) ?_
        refine JL_pure (v := .bool (true)) rfl (show Pu _ _ _ (.bool (decide ((0 : Int) = 0))) from Pu.eql rfl rfl) ?_
        refine JL_pure (v := .bool (true)) rfl (Pu.move rfl) ?_
        refine JL_skip rfl ?_
        refine JL_skip rfl ?_
        refine JL_pure (v := .bool (true)) rfl (Pu.pickT rfl rfl) ?_
        refine JL_pure (v := .bool (true)) rfl (Pu.move rfl) ?_
        refine JL_skip rfl ?_
        refine JL_skip rfl ?_
        refine JL_pure (v := .bool (true)) rfl (Pu.pickT rfl rfl) ?_
        refine JL_pure (v := .bool (true)) rfl (Pu.move rfl) ?_
        refine JL_call rfl Try.call10 rfl (fun hin => awake_ct _) rfl ?_
        rintro _ _ ⟨rfl, rfl⟩
        refine JL_pure (v := .bool (true)) rfl (Pu.pickT rfl rfl) ?_
        refine JL_pure (v := .bool (true)) rfl (Pu.assign rfl) ?_
        refine JL_nil ?_
        first | exact ⟨rfl, rfl, rfl, rfl, rfl⟩ | (exfalso; omega)
       ·rintro ρ167 _ ⟨e168, e169, e170, e171, rfl⟩
        obtain ⟨ρ172, rfl⟩ := reopen_ex (uc e168 (uc e169 (uc e170 (uc e171 un))))
        clear e168 e169 e170 e171
        refine J_ret ?_
        refine ⟨.bool (true), [], Ret.one rfl (RV.tmp rfl), Sub.nil, ?_⟩
        exact ⟨rfl, rfl⟩
    | false =>
     refine J_region ?_
     refine JL_run rfl (Pu_load ty30 rfl (At.bx 13 rfl) (sub_a hO2.len) ?_)
     refine JL_run rfl (Pu_load ty30 rfl (At.bx 0 rfl) (sub_a hO143.len) ?_)
     refine JL_call rfl Try.call8 rfl (fun hin => ble_at (d := (sbT 1 (shT (1) (0) t6) t2)) (e := 0) (substP_ct _ _ _ _ _ _ (hO2.rd (hin 14 _ rfl)) (hO143.rd (hin 1 _ rfl))) (tw_c hg2 hg6 h145)) rfl ?_
     rintro _ _ ⟨cs173, k173, rfl, rfl, hO173⟩
     refine JL_pure (v := .tuple ⟨[.agg ⟨cs173⟩, .int .i64 (0)]⟩) rfl (Pu.move rfl) ?_
     refine JL_pure (v := .agg ⟨cs173⟩) rfl (Pu.extract rfl rfl) ?_
     refine JL_pure (v := .int .i64 (0)) rfl (Pu.extract rfl rfl) ?_
     refine JL_run rfl (Runs_alloc (l := pkT (0) (0) (zS) (.slice none 0 0) (.slice none 0 0)) Try.zeroValue30 rfl fun b174 => ?_)
     refine JL_run rfl (Runs_storeB 0 (vs := cs173) (l := cs173) ty30 rfl rfl rfl rfl hO173.len hO173.ok (spl_a (n := 36) rfl hO173.len) ?_)
     refine JL_pure (v := .int .i64 (0)) rfl (Pu.assign rfl) ?_
     refine JL_nil ?_
     refine J_seq ?_
     refine J_cut (fun ρ M => ρ 2 = .bool (false) ∧ ρ 6 = .pointer (some ⟨b5, 0, none⟩) ∧ ρ 13 = .int .i64 (0) ∧ ρ 14 = .pointer (some ⟨b142, 0, none⟩) ∧ ρ 15 = .int .i64 (0) ∧ ρ 18 = .pointer (some ⟨b174, 0, none⟩) ∧ ρ 19 = .int .i64 (0) ∧ ρ 100 = .bool (false) ∧ M = [[(b174, .cells ⟨cs173⟩ 30 (0, 0))], k173, [(b144, .cells ⟨cs143⟩ 30 (0, 0))], k143, [(b142, .cells ⟨cs141⟩ 30 (0, 0))], k141, [(b80, .cells ⟨cs79⟩ 30 (0, 0))], k79, [(b16, .cells ⟨cs15⟩ 30 (0, 0))], k15, [(b7, .cells ⟨cs6⟩ 30 (0, 0))], [(bS1, .cells ⟨[u1, .int .i64 (a6), .int .u64 (s6)]⟩ 45 (0, 0))], k6, [(b5, .cells ⟨cs4⟩ 30 (0, 0))], k4, [(b3, .cells ⟨cs2⟩ 30 (0, 0))], k2, k1]) ?_ ?_
     ·refine J_region ?_
      refine JL_pure (v := .int .i64 (0)) rfl (Pu.move rfl) ?_
      refine JL_pure (v := .bool (false)) rfl (show Pu _ _ _ (.bool (!decide ((0 : Int) = 0))) from Pu.neq rfl rfl) ?_
      refine JL_pure (v := .bool (false)) rfl (Pu.move rfl) ?_
      refine JL_pure (v := .int .i64 (0)) rfl (Pu.move rfl) ?_
      refine JL_pure (v := .bool (false)) rfl (show Pu _ _ _ (.bool (!decide ((0 : Int) = 0))) from Pu.neq rfl rfl) ?_
      refine JL_pure (v := .bool (false)) rfl (Pu.pickF rfl rfl) ?_
      refine JL_pure (v := .bool (false)) rfl (Pu.move rfl) ?_
      refine JL_pure (v := .int .i64 (0)) rfl (Pu.move rfl) ?_
      refine JL_pure (v := .bool (false)) rfl (show Pu _ _ _ (.bool (!decide ((0 : Int) = 0))) from Pu.neq rfl rfl) ?_
      refine JL_pure (v := .bool (false)) rfl (Pu.move rfl) ?_
      refine JL_skip rfl ?_
      refine JL_skip rfl ?_
      refine JL_skip rfl ?_
      refine JL_pure (v := .bool (false)) rfl (Pu.pickF rfl rfl) ?_
      refine JL_pure (v := .bool (false)) rfl (Pu.pickF rfl rfl) ?_
      refine JL_pure (v := .bool (false)) rfl (Pu.move rfl) ?_
      refine JL_pure (v := .int .i64 (0)) rfl (Pu.move rfl) ?_
      refine JL_pure (v := .bool (false)) rfl (show Pu _ _ _ (.bool (!decide ((0 : Int) = 0))) from Pu.neq rfl rfl) ?_
      refine JL_pure (v := .bool (false)) rfl (Pu.move rfl) ?_
      refine JL_skip rfl ?_
      refine JL_skip rfl ?_
      refine JL_skip rfl ?_
      refine JL_pure (v := .bool (false)) rfl (Pu.pickF rfl rfl) ?_
      refine JL_pure (v := .bool (false)) rfl (Pu.pickF rfl rfl) ?_
      refine JL_nil ?_
      first | exact ⟨rfl, rfl, rfl, rfl, rfl, rfl, rfl, rfl, rfl⟩ | (exfalso; omega)
     ·rintro ρ175 _ ⟨e176, e177, e178, e179, e180, e181, e182, e183, rfl⟩
      obtain ⟨ρ184, rfl⟩ := reopen_ex (uc e176 (uc e177 (uc e178 (uc e179 (uc e180 (uc e181 (uc e182 (uc e183 un))))))))
      clear e176 e177 e178 e179 e180 e181 e182 e183
      refine J_cond (b := false) rfl (fun h => absurd h (by simp)) (fun _ => ?_)
      refine J_skip ?_
      refine J_seq ?_
      refine J_cut (fun ρ M => ρ 2 = .bool (false) ∧ ρ 6 = .pointer (some ⟨b5, 0, none⟩) ∧ ρ 13 = .int .i64 (0) ∧ ρ 14 = .pointer (some ⟨b142, 0, none⟩) ∧ ρ 15 = .int .i64 (0) ∧ ρ 18 = .pointer (some ⟨b174, 0, none⟩) ∧ ρ 110 = .bool (false) ∧ M = [[(b174, .cells ⟨cs173⟩ 30 (0, 0))], k173, [(b144, .cells ⟨cs143⟩ 30 (0, 0))], k143, [(b142, .cells ⟨cs141⟩ 30 (0, 0))], k141, [(b80, .cells ⟨cs79⟩ 30 (0, 0))], k79, [(b16, .cells ⟨cs15⟩ 30 (0, 0))], k15, [(b7, .cells ⟨cs6⟩ 30 (0, 0))], [(bS1, .cells ⟨[u1, .int .i64 (a6), .int .u64 (s6)]⟩ 45 (0, 0))], k6, [(b5, .cells ⟨cs4⟩ 30 (0, 0))], k4, [(b3, .cells ⟨cs2⟩ 30 (0, 0))], k2, k1]) ?_ ?_
      ·refine J_region ?_
       refine JL_pure (v := .int .i64 (0)) rfl (Pu.move rfl) ?_
       refine JL_pure (v := .bool (false)) rfl (show Pu _ _ _ (.bool (!decide ((0 : Int) = 0))) from Pu.neq rfl rfl) ?_
       refine JL_pure (v := .bool (false)) rfl (Pu.move rfl) ?_
       refine JL_pure (v := .int .i64 (0)) rfl (Pu.move rfl) ?_
       refine JL_pure (v := .bool (false)) rfl (show Pu _ _ _ (.bool (!decide ((0 : Int) = 0))) from Pu.neq rfl rfl) ?_
       refine JL_pure (v := .bool (false)) rfl (Pu.pickF rfl rfl) ?_
       refine JL_pure (v := .bool (false)) rfl (Pu.move rfl) ?_
       refine JL_pure (v := .int .i64 (0)) rfl (Pu.move rfl) ?_
       refine JL_pure (v := .bool (false)) rfl (show Pu _ _ _ (.bool (!decide ((0 : Int) = 0))) from Pu.neq rfl rfl) ?_
       refine JL_pure (v := .bool (false)) rfl (Pu.pickF rfl rfl) ?_
       refine JL_nil ?_
       first | exact ⟨rfl, rfl, rfl, rfl, rfl, rfl, rfl, rfl⟩ | (exfalso; omega)
      ·rintro ρ185 _ ⟨e186, e187, e188, e189, e190, e191, e192, rfl⟩
       obtain ⟨ρ193, rfl⟩ := reopen_ex (uc e186 (uc e187 (uc e188 (uc e189 (uc e190 (uc e191 (uc e192 un)))))))
       clear e186 e187 e188 e189 e190 e191 e192
       refine J_cond (b := false) rfl (fun h => absurd h (by simp)) (fun _ => ?_)
       refine J_skip ?_
       refine J_seq ?_
       refine J_region ?_
       refine JL_run rfl (Pu_load ty30 rfl (At.bx 0 rfl) (sub_a hO173.len) ?_)
       refine JL_run rfl (Pu_load ty30 rfl (At.bx 13 rfl) (sub_a hO4.len) ?_)
       refine JL_call rfl Try.call8 rfl (fun hin => ble_at (d := (sbT 0 t4 (sbT 1 (shT (1) (0) t6) t2))) (e := 0) (substP_ct _ _ _ _ _ _ (hO173.rd (hin 1 _ rfl)) (hO4.rd (hin 14 _ rfl))) (tw_d hg2 hg4 hg6 h145 h81)) rfl ?_
       rintro _ _ ⟨cs194, k194, rfl, rfl, hO194⟩
       refine JL_pure (v := .tuple ⟨[.agg ⟨cs194⟩, .int .i64 (0)]⟩) rfl (Pu.move rfl) ?_
       refine JL_pure (v := .agg ⟨cs194⟩) rfl (Pu.extract rfl rfl) ?_
       refine JL_pure (v := .int .i64 (0)) rfl (Pu.extract rfl rfl) ?_
       refine JL_run rfl (Runs_alloc (l := pkT (0) (0) (zS) (.slice none 0 0) (.slice none 0 0)) Try.zeroValue30 rfl fun b195 => ?_)
       refine JL_run rfl (Runs_storeB 0 (vs := cs194) (l := cs194) ty30 rfl rfl rfl rfl hO194.len hO194.ok (spl_a (n := 36) rfl hO194.len) ?_)
       refine JL_pure (v := .int .i64 (0)) rfl (Pu.assign rfl) ?_
       refine JL_nil ?_
       refine J_cut (fun ρ M => ρ 2 = .bool (true) ∧ M = [[(b195, .cells ⟨cs194⟩ 30 (0, 0))], k194, [(b174, .cells ⟨cs173⟩ 30 (0, 0))], k173, [(b144, .cells ⟨cs143⟩ 30 (0, 0))], k143, [(b142, .cells ⟨cs141⟩ 30 (0, 0))], k141, [(b80, .cells ⟨cs79⟩ 30 (0, 0))], k79, [(b16, .cells ⟨cs15⟩ 30 (0, 0))], k15, [(b7, .cells ⟨cs6⟩ 30 (0, 0))], [(bS1, .cells ⟨[u1, .int .i64 (a6), .int .u64 (s6)]⟩ 45 (0, 0))], k6, [(b5, .cells ⟨cs4⟩ 30 (0, 0))], k4, [(b3, .cells ⟨cs2⟩ 30 (0, 0))], k2, k1]) ?_ ?_
       ·refine J_region ?_
        refine JL_pure (v := .int .i64 (0)) rfl (Pu.move rfl) ?_
        refine JL_pure (v := .bool (true)) rfl (show Pu _ _ _ (.bool (decide ((0 : Int) = 0))) from Pu.eql rfl rfl) ?_
        refine JL_pure (v := .bool (true)) rfl (Pu.move rfl) ?_
        refine JL_run rfl (Pu_load ty30 rfl (At.bx 6 rfl) (sub_a hO141.len) ?_)
        refine JL_run rfl (Pu_load ty30 rfl (At.bx 0 rfl) (sub_a hO194.len) ?_)
        refine JL_call rfl Try.call9 rfl (fun hin => bool_r (r := true) (sameTerm_ct _ _ _ _ _ (hO141.rd (hin 7 _ rfl)) (hO194.rd (hin 1 _ rfl))) (decide_eq_true (sb_twice t4 t6 t2))) rfl ?_
        rintro _ _ ⟨rfl, rfl⟩
        refine JL_pure (v := .bool (true)) rfl (Pu.pickT rfl rfl) ?_
        refine JL_pure (v := .bool (true)) rfl (Pu.move rfl) ?_
        refine JL_call rfl Try.call10 rfl (fun hin => awake_ct _) rfl ?_
        rintro _ _ ⟨rfl, rfl⟩
        refine JL_pure (v := .bool (true)) rfl (Pu.pickT rfl rfl) ?_
        refine JL_pure (v := .bool (true)) rfl (Pu.assign rfl) ?_
        refine JL_nil ?_
        first | exact ⟨rfl, rfl⟩ | (exfalso; omega)
       ·rintro ρ196 _ ⟨e197, rfl⟩
        obtain ⟨ρ198, rfl⟩ := reopen_ex (uc e197 un)
        clear e197
        refine J_ret ?_
        refine ⟨.bool (true), [], Ret.one rfl (RV.tmp rfl), Sub.nil, ?_⟩
        exact ⟨rfl, rfl⟩
end Go.Proofs.Ytmdifonjepggcaa.Hs
