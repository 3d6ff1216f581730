import Derived.Test.YtbfjkdhfelmioaaGreatMovesj
/-! Walks, printed by a program of this session's own (gen.py). -/
namespace Go.Proofs.YtbfjkdhfelmioaaGreat.Hs
open Go Go.Proofs
set_option maxRecDepth 100000
set_option linter.unusedVariables false
set_option linter.unusedSimpArgs false
attribute [local irreducible] JL J CT wlo
theorem shiftedV_ct (n b dy fr : Int) (H : Heap) (bF bD : Nat) (hF : H bF = some (.cells ⟨[.int .i64 fr]⟩ 3 (0, 0))) (hD : H bD = some (.cells ⟨[.int .i64 dy]⟩ 3 (0, 0))) (hn0 : 0 ≤ n) (hn1 : n ≤ 2000000) (hb0 : 0 ≤ b) (hb1 : b ≤ 2000000) (hd0 : -2000000 ≤ dy) (hd1 : dy ≤ 2000000) : CT Tryz.prog 87 ⟨[.int .i64 (n), .int .i64 (b), .pointer (some ⟨bF, 0, none⟩), .pointer (some ⟨bD, 0, none⟩)]⟩ [] H (fun v N => ∃ cs k, v = .agg ⟨cs⟩ ∧ N = [k] ∧ OT (shv dy fr n b) cs k) := by
 refine CT_enter Tryz.func87 rfl rfl ?_
 refine J_seq ?_
 refine J_region ?_
 refine JL_run rfl (Runs_alloc (l := pkT (0) (0) (zS) (.slice none 0 0) (.slice none 0 0)) Tryz.zeroValue27 rfl fun b1 => ?_)
 refine JL_nil ?_
 refine J_seq ?_
 refine J_seq ?_
 refine J_region ?_
 refine JL_pure (v := .int .i64 (n)) rfl (Pu.move rfl) ?_
 refine JL_run rfl (Pu_load1 ty3 rfl (At.im hF) rfl ?_)
 refine JL_pure (v := .bool (decide (fr ≤ n))) rfl (Pu.geq rfl rfl) ?_
 refine JL_nil ?_
 refine J_cond (b := decide (fr ≤ n)) rfl (fun h2 => ?_) (fun h2 => ?_)
 ·skip
  replace h2 := dt h2
  refine J_region ?_
  refine JL_pure (v := .int .i64 (n)) rfl (Pu.move rfl) ?_
  refine JL_run rfl (Pu_load1 ty3 rfl (At.im hD) rfl ?_)
  refine JL_pure (v := .int .i64 (n + dy)) rfl (Pu.add64 rfl rfl (by first | omega | (constructor <;> omega))) ?_
  refine JL_pure (v := .int .i64 (n + dy)) rfl (Pu.assign rfl) ?_
  refine JL_nil ?_
  refine J_seq ?_
  refine J_region ?_
  refine JL_pure (v := .int .i64 (n + dy)) rfl (Pu.move rfl) ?_
  refine JL_pure (v := .int .i64 (b)) rfl (Pu.move rfl) ?_
  refine JL_call rfl Tryz.call56 rfl (fun hin => stay_ct _ _ _ (by unfold inI; omega)) rfl ?_
  rintro _ _ ⟨cs3, k3, rfl, rfl, hO3⟩
  refine JL_run rfl (Runs_storeB 1 (vs := cs3) (l := cs3) ty27 rfl rfl rfl rfl hO3.len hO3.ok (spl_a (n := 36) rfl hO3.len) ?_)
  refine JL_nil ?_
  refine J_ret ?_
  refine ⟨.agg ⟨cs3⟩, [k3], Ret.one rfl (RV.cell ty27 rfl (At.bx 1 rfl) (sub_a hO3.len)), (Sub.cons 0 rfl Sub.nil), ?_⟩
  have hx : shv dy fr n b = .mk 1 (n + dy + b) zS [] [] := by first | rfl | (simp only [shv]; (repeat' split) <;> first | rfl | (exfalso; omega))
  exact ⟨_, _, rfl, rfl, by rw [hx]; exact hO3⟩
 ·skip
  replace h2 := df h2
  refine J_skip ?_
  refine J_seq ?_
  refine J_region ?_
  refine JL_pure (v := .int .i64 (n)) rfl (Pu.move rfl) ?_
  refine JL_pure (v := .int .i64 (b)) rfl (Pu.move rfl) ?_
  refine JL_call rfl Tryz.call56 rfl (fun hin => stay_ct _ _ _ (by unfold inI; omega)) rfl ?_
  rintro _ _ ⟨cs4, k4, rfl, rfl, hO4⟩
  refine JL_run rfl (Runs_storeB 1 (vs := cs4) (l := cs4) ty27 rfl rfl rfl rfl hO4.len hO4.ok (spl_a (n := 36) rfl hO4.len) ?_)
  refine JL_nil ?_
  refine J_ret ?_
  refine ⟨.agg ⟨cs4⟩, [k4], Ret.one rfl (RV.cell ty27 rfl (At.bx 1 rfl) (sub_a hO4.len)), (Sub.cons 0 rfl Sub.nil), ?_⟩
  have hx : shv dy fr n b = .mk 1 (n + b) zS [] [] := by first | rfl | (simp only [shv]; (repeat' split) <;> first | rfl | (exfalso; omega))
  exact ⟨_, _, rfl, rfl, by rw [hx]; exact hO4⟩
theorem shifted_ct (t : Tm) (dy fr : Int) (cs : List Value) (H : Heap) (ht : RT H cs t) (hz : sizeT t ≤ 900000) (hv : vOK t) (hd0 : -2000000 ≤ dy) (hd1 : dy ≤ 2000000) : CT Tryz.prog 53 ⟨[.agg ⟨cs⟩, .int .i64 (dy), .int .i64 (fr)]⟩ [] H (fun v N => ∃ cs k, v = .agg ⟨cs⟩ ∧ N = [k] ∧ OT (shT dy fr t) cs k) := by
 refine CT_enter Tryz.func53 rfl rfl ?_
 refine J_seq ?_
 refine J_region ?_
 refine JL_run rfl (Runs_box (l := cs) rfl rfl fun b1 => ?_)
 refine JL_run rfl (Runs_box (l := [.int .i64 (dy)]) rfl rfl fun b2 => ?_)
 refine JL_run rfl (Runs_box (l := [.int .i64 (fr)]) rfl rfl fun b3 => ?_)
 refine JL_run rfl (Runs_alloc (l := pkT (0) (0) (zS) (.slice none 0 0) (.slice none 0 0)) Tryz.zeroValue27 rfl fun b4 => ?_)
 refine JL_nil ?_
 refine J_seq ?_
 refine J_region ?_
 refine JL_pure (v := .func (.func 87) ⟨[]⟩ ⟨[.pointer (some ⟨b3, 0, none⟩), .pointer (some ⟨b2, 0, none⟩)]⟩) rfl (Pu.makeFunc rfl rfl) ?_
 refine JL_pure (v := .agg ⟨[.func (.func 87) ⟨[]⟩ ⟨[.pointer (some ⟨b3, 0, none⟩), .pointer (some ⟨b2, 0, none⟩)]⟩, .func (.func 57) ⟨[]⟩ ⟨[]⟩]⟩) rfl (Pu.build (pv := [(0, .func (.func 87) ⟨[]⟩ ⟨[.pointer (some ⟨b3, 0, none⟩), .pointer (some ⟨b2, 0, none⟩)]⟩), (1, .func (.func 57) ⟨[]⟩ ⟨[]⟩)]) (l := [.func (.func 87) ⟨[]⟩ ⟨[.pointer (some ⟨b3, 0, none⟩), .pointer (some ⟨b2, 0, none⟩)]⟩, .func (.func 57) ⟨[]⟩ ⟨[]⟩]) rfl (bld89_0_1 _ _ _ _ _ _)) ?_
 refine JL_run rfl (Pu_load ty27 rfl (At.bx 3 rfl) (sub_a (RT_len ht)) ?_)
 refine JL_call rfl Tryz.call58 rfl (fun hin => mapTermP_ct 57 [] [] Tryz.call57 (fun s => s) 87 [] [.pointer (some ⟨b3, 0, none⟩), .pointer (some ⟨b2, 0, none⟩)] Tryz.call87 (shv dy fr) _ _ _ _ (RT.mono (Hle.hu _ _) ht) (by omega) hv (by decide) (by omega) (fun s h hh => same_ct s h) (fun n b h hh h1 h2 h3 h4 => shiftedV_ct n b dy fr h b3 b2 (hh _ _ (hin 1 _ rfl _ _ List.mem_cons_self)) (hh _ _ (hin 2 _ rfl _ _ List.mem_cons_self)) h1 h2 h3 h4 hd0 hd1)) rfl ?_
 rintro _ _ ⟨cs5, k5, rfl, rfl, hO5⟩
 refine JL_run rfl (Runs_storeB 1 (vs := cs5) (l := cs5) ty27 rfl rfl rfl rfl hO5.len hO5.ok (spl_a (n := 36) rfl hO5.len) ?_)
 refine JL_nil ?_
 refine J_ret ?_
 refine ⟨.agg ⟨cs5⟩, [k5], Ret.one rfl (RV.cell ty27 rfl (At.bx 1 rfl) (sub_a hO5.len)), (Sub.cons 0 rfl Sub.nil), ?_⟩
 have hx : shT dy fr t = mapQ (fun s => s) (shv dy fr) (0) (t) := by first | rfl | (simp only [shT]; (repeat' split) <;> first | rfl | (exfalso; omega))
 exact ⟨_, _, rfl, rfl, by rw [hx]; exact hO5⟩
theorem substV_ct (n b m : Int) (u : Tm) (us : List Value) (H : Heap) (bN bU : Nat) (hN : H bN = some (.cells ⟨[.int .i64 m]⟩ 3 (0, 0))) (hU : H bU = some (.cells ⟨us⟩ 27 (0, 0))) (hu1 : RT H us u) (hzu : sizeT u ≤ 900000) (hvu : vOK u) (hn0 : 0 ≤ n) (hn1 : n ≤ 2000000) (hb0 : 0 ≤ b) (hb1 : b ≤ 2000000) : CT Tryz.prog 55 ⟨[.int .i64 (n), .int .i64 (b), .pointer (some ⟨bN, 0, none⟩), .pointer (some ⟨bU, 0, none⟩)]⟩ [] H (fun v N => ∃ cs k, v = .agg ⟨cs⟩ ∧ N = [k] ∧ OT (sbv m u n b) cs k) := by
 refine CT_enter Tryz.func55 rfl rfl ?_
 refine J_seq ?_
 refine J_region ?_
 refine JL_run rfl (Runs_alloc (l := pkT (0) (0) (zS) (.slice none 0 0) (.slice none 0 0)) Tryz.zeroValue27 rfl fun b1 => ?_)
 refine JL_nil ?_
 refine J_seq ?_
 refine J_block ?_
 refine J_seq ?_
 refine J_region ?_
 refine JL_pure (v := .int .i64 (n)) rfl (Pu.move rfl) ?_
 refine JL_run rfl (Pu_load1 ty3 rfl (At.im hN) rfl ?_)
 refine JL_pure (v := .bool (decide (n = m))) rfl (Pu.eql rfl rfl) ?_
 refine JL_pure (v := .bool (decide (n = m))) rfl (Pu.assign rfl) ?_
 refine JL_nil ?_
 refine J_cond (b := decide (n = m)) rfl (fun h2 => ?_) (fun h2 => ?_)
 ·skip
  replace h2 := dt h2
  refine J_seq ?_
  refine J_region ?_
  refine JL_run rfl (Pu_load ty27 rfl (At.im hU) (sub_a (RT_len hu1)) ?_)
  refine JL_pure (v := .int .i64 (b)) rfl (Pu.move rfl) ?_
  refine JL_call rfl Tryz.call53 rfl (fun hin => shifted_ct _ _ _ _ _ (RT.mono (Hle.hu _ _) hu1) hzu hvu (by omega) (by omega)) rfl ?_
  rintro _ _ ⟨cs3, k3, rfl, rfl, hO3⟩
  refine JL_run rfl (Runs_storeB 1 (vs := cs3) (l := cs3) ty27 rfl rfl rfl rfl hO3.len hO3.ok (spl_a (n := 36) rfl hO3.len) ?_)
  refine JL_nil ?_
  refine J_ret ?_
  refine ⟨.agg ⟨cs3⟩, [k3], Ret.one rfl (RV.cell ty27 rfl (At.bx 1 rfl) (sub_a hO3.len)), (Sub.cons 0 rfl Sub.nil), ?_⟩
  have hx : sbv m u n b = shT (b) (0) (u) := by first | rfl | (simp only [sbv]; (repeat' split) <;> first | rfl | (exfalso; omega))
  exact ⟨_, _, rfl, rfl, by rw [hx]; exact hO3⟩
 ·skip
  replace h2 := df h2
  refine J_seq ?_
  refine J_region ?_
  refine JL_pure (v := .int .i64 (n)) rfl (Pu.move rfl) ?_
  refine JL_run rfl (Pu_load1 ty3 rfl (At.im hN) rfl ?_)
  refine JL_pure (v := .bool (decide (m < n))) rfl (Pu.gtr rfl rfl) ?_
  refine JL_pure (v := .bool (decide (m < n))) rfl (Pu.assign rfl) ?_
  refine JL_nil ?_
  refine J_cond (b := decide (m < n)) rfl (fun h4 => ?_) (fun h4 => ?_)
  ·skip
   replace h4 := dt h4
   refine J_region ?_
   refine JL_pure (v := .int .i64 (n)) rfl (Pu.move rfl) ?_
   refine JL_pure (v := .int .i64 (n - 1)) rfl (Pu.sub64 rfl rfl (by first | omega | (constructor <;> omega))) ?_
   refine JL_pure (v := .int .i64 (n - 1)) rfl (Pu.assign rfl) ?_
   refine JL_nil ?_
   refine J_seq ?_
   refine J_region ?_
   refine JL_pure (v := .int .i64 (n - 1)) rfl (Pu.move rfl) ?_
   refine JL_pure (v := .int .i64 (b)) rfl (Pu.move rfl) ?_
   refine JL_call rfl Tryz.call56 rfl (fun hin => stay_ct _ _ _ (by unfold inI; omega)) rfl ?_
   rintro _ _ ⟨cs5, k5, rfl, rfl, hO5⟩
   refine JL_run rfl (Runs_storeB 1 (vs := cs5) (l := cs5) ty27 rfl rfl rfl rfl hO5.len hO5.ok (spl_a (n := 36) rfl hO5.len) ?_)
   refine JL_nil ?_
   refine J_ret ?_
   refine ⟨.agg ⟨cs5⟩, [k5], Ret.one rfl (RV.cell ty27 rfl (At.bx 1 rfl) (sub_a hO5.len)), (Sub.cons 0 rfl Sub.nil), ?_⟩
   have hx : sbv m u n b = .mk 1 (n - 1 + b) zS [] [] := by first | rfl | (simp only [sbv]; (repeat' split) <;> first | rfl | (exfalso; omega))
   exact ⟨_, _, rfl, rfl, by rw [hx]; exact hO5⟩
  ·skip
   replace h4 := df h4
   refine J_skip ?_
   refine J_seq ?_
   refine J_region ?_
   refine JL_pure (v := .int .i64 (n)) rfl (Pu.move rfl) ?_
   refine JL_pure (v := .int .i64 (b)) rfl (Pu.move rfl) ?_
   refine JL_call rfl Tryz.call56 rfl (fun hin => stay_ct _ _ _ (by unfold inI; omega)) rfl ?_
   rintro _ _ ⟨cs6, k6, rfl, rfl, hO6⟩
   refine JL_run rfl (Runs_storeB 1 (vs := cs6) (l := cs6) ty27 rfl rfl rfl rfl hO6.len hO6.ok (spl_a (n := 36) rfl hO6.len) ?_)
   refine JL_nil ?_
   refine J_ret ?_
   refine ⟨.agg ⟨cs6⟩, [k6], Ret.one rfl (RV.cell ty27 rfl (At.bx 1 rfl) (sub_a hO6.len)), (Sub.cons 0 rfl Sub.nil), ?_⟩
   have hx : sbv m u n b = .mk 1 (n + b) zS [] [] := by first | rfl | (simp only [sbv]; (repeat' split) <;> first | rfl | (exfalso; omega))
   exact ⟨_, _, rfl, rfl, by rw [hx]; exact hO6⟩
theorem short_ct (t : Tm) (cs : List Value) (H : Heap) (ht : RT H cs t) : CT Tryz.prog 54 ⟨[.agg ⟨cs⟩]⟩ [] H (fun v N => v = .tuple ⟨[.agg ⟨if longB t = true then pkT 0 0 zS (.slice none 0 0) (.slice none 0 0) else cs⟩, .int .i64 (if longB t = true then 11 else 0)]⟩ ∧ N = []) := by
 refine CT_enter Tryz.func54 rfl rfl ?_
 refine J_seq ?_
 refine J_region ?_
 refine JL_run rfl (Runs_box (l := cs) rfl rfl fun b1 => ?_)
 refine JL_run rfl (Runs_alloc (l := pkT (0) (0) (zS) (.slice none 0 0) (.slice none 0 0)) Tryz.zeroValue27 rfl fun b2 => ?_)
 refine JL_pure (v := .int .i64 (0)) rfl (Pu.assign rfl) ?_
 refine JL_nil ?_
 refine J_seq ?_
 refine J_seq ?_
 refine J_region ?_
 refine JL_pure (v := .agg ⟨[.int .i64 (0)]⟩) rfl (Pu.build (pv := []) (l := [.int .i64 (0)]) rfl bld101_) ?_
 refine JL_run rfl (Runs_box (l := [.int .i64 (0)]) rfl rfl fun b3 => ?_)
 refine JL_run rfl (Pu_load ty27 rfl (At.bx 2 rfl) (sub_a (RT_len ht)) ?_)
 refine JL_call1 0 rfl Tryz.call66 rfl rfl (fun hin => longT_ct _ _ _ _ _ _ (RT.mono (Hle.hu _ _) ht) (by omega) (by omega) (by omega) (by omega)) rfl ?_
 rintro _ _ ⟨rfl, rfl⟩
 refine JL_nil ?_
 refine J_cond (b := (cnT stL (1) (t) (0)).1) rfl (fun h5 => ?_) (fun h5 => ?_)
 ·skip
  refine J_seq ?_
  refine J_region ?_
  refine JL_pure (v := .agg ⟨pkT (0) (0) (zS) (.slice none 0 0) (.slice none 0 0)⟩) rfl (Pu.build (pv := []) (l := pkT (0) (0) (zS) (.slice none 0 0) (.slice none 0 0)) rfl (bld27_ )) ?_
  refine JL_run rfl (Runs_storeB 1 (vs := pkT (0) (0) (zS) (.slice none 0 0) (.slice none 0 0)) (l := pkT (0) (0) (zS) (.slice none 0 0) (.slice none 0 0)) ty27 rfl rfl rfl rfl rfl (pkT_ok rfl rfl) (pkT_s ..) ?_)
  refine JL_pure (v := .int .i64 (11)) rfl (Pu.assign rfl) ?_
  refine JL_nil ?_
  refine J_ret ?_
  refine ⟨.tuple ⟨[.agg ⟨pkT (0) (0) (zS) (.slice none 0 0) (.slice none 0 0)⟩, .int .i64 (11)]⟩, [], Ret.two rfl (RV.cell ty27 rfl (At.bx 1 rfl) (pkT_a ..)) (RV.tmp rfl), Sub.nil, ?_⟩
  rw [long_eq] at h5
  exact ⟨by simp [h5], rfl⟩
 ·skip
  refine J_skip ?_
  refine J_seq ?_
  refine J_region ?_
  refine JL_run rfl (Pu_load ty27 rfl (At.bx 2 rfl) (sub_a (RT_len ht)) ?_)
  refine JL_run rfl (Runs_storeB 1 (vs := cs) (l := cs) ty27 rfl rfl rfl rfl (RT_len ht) (RT_ok ht) (spl_a (n := 36) rfl (RT_len ht)) ?_)
  refine JL_pure (v := .int .i64 (0)) rfl (Pu.assign rfl) ?_
  refine JL_nil ?_
  refine J_ret ?_
  refine ⟨.tuple ⟨[.agg ⟨cs⟩, .int .i64 (0)]⟩, [], Ret.two rfl (RV.cell ty27 rfl (At.bx 1 rfl) (sub_a (RT_len ht))) (RV.tmp rfl), Sub.nil, ?_⟩
  rw [long_eq] at h5
  exact ⟨by simp [h5], rfl⟩
end Go.Proofs.YtbfjkdhfelmioaaGreat.Hs
/-! Walks, printed by a program of this session's own (gen.py). -/
namespace Go.Proofs.YtbfjkdhfelmioaaGreat.Hs
open Go Go.Proofs
set_option maxRecDepth 100000
set_option linter.unusedVariables false
set_option linter.unusedSimpArgs false
attribute [local irreducible] JL J CT wlo
theorem known_ct (n b d : Int) (H : Heap) (bD : Nat) (hD : H bD = some (.cells ⟨[.int .i64 d]⟩ 3 (0, 0))) (hb0 : 0 ≤ b) (hb1 : b ≤ 1000000) (hn1 : -9223372036854775808 ≤ n) (hn2 : n ≤ 9223372036854775807) : CT Tryz.prog 68 ⟨[.int .i64 (n), .int .i64 (b), .pointer (some ⟨bD, 0, none⟩)]⟩ [] H (fun v N => v = .bool (knownB d n b) ∧ N = []) := by
 refine CT_enter Tryz.func68 rfl rfl ?_
 refine J_seq ?_
 refine J_region ?_
 refine JL_pure (v := .bool (false)) rfl (Pu.assign rfl) ?_
 refine JL_nil ?_
 refine J_cut (fun ρ M => ρ 5 = .bool ((decide (0 ≤ n)) && ((decide (n < b)) || (decide (n - b < d)))) ∧ M = []) ?_ ?_
 ·refine J_region ?_
  refine JL_pure (v := .int .i64 (n)) rfl (Pu.move rfl) ?_
  refine JL_pure (v := .bool (decide (0 ≤ n))) rfl (Pu.geq rfl rfl) ?_
  refine JL_pure (v := .bool (decide (0 ≤ n))) rfl (Pu.move rfl) ?_
  cases h1 : (decide (0 ≤ n)) with
  | true =>
   replace h1 := dt h1
   refine JL_pure (v := .int .i64 (n)) rfl (Pu.move rfl) ?_
   refine JL_pure (v := .int .i64 (b)) rfl (Pu.move rfl) ?_
   refine JL_pure (v := .bool (decide (n < b))) rfl (Pu.lss rfl rfl) ?_
   refine JL_pure (v := .bool (decide (n < b))) rfl (Pu.move rfl) ?_
   cases h2 : (decide (n < b)) with
   | true =>
    replace h2 := dt h2
    refine JL_skip rfl ?_
    refine JL_skip rfl ?_
    refine JL_skip rfl ?_
    refine JL_skip rfl ?_
    refine JL_skip rfl ?_
    refine JL_pure (v := .bool (true)) rfl (Pu.pickT rfl rfl) ?_
    refine JL_pure (v := .bool (true)) rfl (Pu.pickT rfl rfl) ?_
    refine JL_pure (v := .bool (true)) rfl (Pu.assign rfl) ?_
    refine JL_nil ?_
    first | exact ⟨rfl, rfl⟩ | (exfalso; omega)
   | false =>
    replace h2 := df h2
    refine JL_pure (v := .int .i64 (n)) rfl (Pu.move rfl) ?_
    refine JL_pure (v := .int .i64 (b)) rfl (Pu.move rfl) ?_
    refine JL_pure (v := .int .i64 (n - b)) rfl (Pu.sub64 rfl rfl (by first | omega | (constructor <;> omega))) ?_
    refine JL_run rfl (Pu_load1 ty3 rfl (At.im hD) rfl ?_)
    refine JL_pure (v := .bool (decide (n - b < d))) rfl (Pu.lss rfl rfl) ?_
    refine JL_pure (v := .bool (decide (n - b < d))) rfl (Pu.pickF rfl rfl) ?_
    refine JL_pure (v := .bool (decide (n - b < d))) rfl (Pu.pickT rfl rfl) ?_
    refine JL_pure (v := .bool (decide (n - b < d))) rfl (Pu.assign rfl) ?_
    refine JL_nil ?_
    first | exact ⟨rfl, rfl⟩ | (exfalso; omega)
  | false =>
   replace h1 := df h1
   refine JL_skip rfl ?_
   refine JL_skip rfl ?_
   refine JL_skip rfl ?_
   refine JL_skip rfl ?_
   refine JL_skip rfl ?_
   refine JL_skip rfl ?_
   refine JL_skip rfl ?_
   refine JL_skip rfl ?_
   refine JL_skip rfl ?_
   refine JL_skip rfl ?_
   refine JL_pure (v := .bool (false)) rfl (Pu.pickF rfl rfl) ?_
   refine JL_pure (v := .bool (false)) rfl (Pu.assign rfl) ?_
   refine JL_nil ?_
   first | exact ⟨rfl, rfl⟩ | (exfalso; omega)
 ·rintro ρ3 _ ⟨e4, rfl⟩
  obtain ⟨ρ5, rfl⟩ := reopen_ex (uc e4 un)
  clear e4
  refine J_ret ?_
  refine ⟨.bool ((decide (0 ≤ n)) && ((decide (n < b)) || (decide (n - b < d)))), [], Ret.one rfl (RV.tmp rfl), Sub.nil, ?_⟩
  exact ⟨rfl, rfl⟩
set_option maxHeartbeats 2000000 in
theorem chkTerm_ct (kind num : Int) (ref : Sm) (ks cv : Value) (kids : List Tm) (cases : List (Pt × Tm)) (d m b : Int) (H : Heap) (bD : Nat) (hks : rdS RT 36 H ks kids) (hcv : rdS RC 71 H cv cases) (hD : H bD = some (.cells ⟨[.int .i64 d]⟩ 3 (0, 0))) (hb0 : 0 ≤ b) (hb1 : b ≤ 1000000) (hn1 : -9223372036854775808 ≤ num) (hn2 : num ≤ 9223372036854775807) : CT Tryz.prog 93 ⟨[.agg ⟨[.int .i64 (m), .func (.func 68) ⟨[]⟩ ⟨[.pointer (some ⟨bD, 0, none⟩)]⟩]⟩, .agg ⟨pkT (kind) (num) (ref) (ks) (cv)⟩, .int .i64 (b)]⟩ [] H (fun v N => v = .int .i64 (tHead d m b kind num ref kids.length cases.length) ∧ N = []) := by
 refine CT_enter Tryz.func93 rfl rfl ?_
 refine J_seq ?_
 refine J_region ?_
 refine JL_run rfl (Runs_box (l := [.int .i64 (m), .func (.func 68) ⟨[]⟩ ⟨[.pointer (some ⟨bD, 0, none⟩)]⟩]) rfl rfl fun b1 => ?_)
 refine JL_run rfl (Runs_box (l := pkT (kind) (num) (ref) (ks) (cv)) rfl rfl fun b2 => ?_)
 refine JL_pure (v := .int .i64 (0)) rfl (Pu.assign rfl) ?_
 refine JL_nil ?_
 refine J_seq ?_
 refine J_block ?_
 refine J_seq ?_
 refine J_region ?_
 refine JL_pure (v := .pointer (some ⟨b2, 0, none⟩)) rfl (fa27_0 rfl rfl) ?_
 refine JL_run rfl (Pu_load1 ty3 rfl (At.bx 0 rfl) (pkT_0 ..) ?_)
 refine JL_call rfl Tryz.call49 rfl (fun hin => off_ct _ _ _ _) rfl ?_
 rintro _ _ ⟨rfl, rfl⟩
 refine JL_pure (v := .bool (decide (kind < 1 ∨ 12 < kind))) rfl (Pu.assign rfl) ?_
 refine JL_nil ?_
 refine J_cond (b := decide (kind < 1 ∨ 12 < kind)) rfl (fun h3 => ?_) (fun h3 => ?_)
 ·skip
  replace h3 := dt h3
  refine J_seq ?_
  refine J_region ?_
  refine JL_pure (v := .int .i64 (3)) rfl (Pu.assign rfl) ?_
  refine JL_nil ?_
  refine J_ret ?_
  refine ⟨.int .i64 (3), [], Ret.one rfl (RV.tmp rfl), Sub.nil, ?_⟩
  exact ⟨by refine congrArg (Value.int .i64) ?_; simp only [tHead]; (repeat' split) <;> first | rfl | omega | (exfalso; simp_all; done) | (exfalso; simp_all; omega) | grind, rfl⟩
 ·skip
  replace h3 := df h3
  refine J_seq ?_
  obtain ⟨a5, cap5, hv5⟩ := hcv.sl
  have hle5 := hcv.le
  refine J_draw mixed #[0, 1, 3, 0, 8, 0, 32, 0, 128, 384, 1023, 2047] 10 10 2 rfl (by kernel_rfl) (fun i r4 N4 => match i with | 0 => (r4 0) = .pointer (some ⟨b2, 0, none⟩) | 1 => (r4 1) = .int .i64 (kind) | 2 => (r4 2) = .agg ⟨[.bool (fN (kind)), .bool (fR (kind)), .bool (fC (kind))]⟩ | 3 => (r4 3) = .pointer (some ⟨b2, 1, none⟩) | 4 => (r4 4) = .int .i64 (num) | 5 => (r4 5) = .pointer (some ⟨b2, 2, none⟩) | 6 => (r4 6) = .agg ⟨sC (ref)⟩ | 7 => (r4 7) = .pointer (some ⟨b2, 35, none⟩) | 8 => (r4 8) = cv | 9 => (r4 9) = .int .i64 (((cases).length : Int)) | _ => True) ⟨?_, ?_, ?_, ?_, ?_, ?_, ?_, ?_, ?_, ?_, trivial⟩ ?_
  ·intro ρ r4 N4 B hB hBa hp hr hr0
   have q4 : ρ 4 = .pointer (some ⟨b2, 0, none⟩) := hr0 4 (by kernel_rfl)
   obtain ⟨ρ6, rfl⟩ := reopen_ex (uc q4 un)
   clear q4
   refine JL_pure (v := .pointer (some ⟨b2, 0, none⟩)) rfl (fa27_0 rfl rfl) ?_
   refine JL_nil ?_
   exact ⟨.pointer (some ⟨b2, 0, none⟩), [], rfl, (Sub.emp Sub.refl), rfl⟩
  ·intro ρ r4 N4 B hB hBa hp hr hr0
   have q13 : ρ 13 = .pointer (some ⟨b2, 0, none⟩) := (hr 0 _ _ (by decide) rfl rfl rfl).trans (hp 0 (by decide) rfl)
   obtain ⟨ρ7, rfl⟩ := reopen_ex (uc q13 un)
   clear q13
   refine JL_run rfl (Pu_load1 ty3 rfl (At.bx 10 (made_old ((hB 0 (by decide)).trans rfl))) (pkT_0 ..) ?_)
   refine JL_nil ?_
   exact ⟨.int .i64 (kind), [], rfl, (Sub.emp Sub.refl), rfl⟩
  ·intro ρ r4 N4 B hB hBa hp hr hr0
   have q14 : ρ 14 = .int .i64 (kind) := (hr 1 _ _ (by decide) rfl rfl rfl).trans (hp 1 (by decide) rfl)
   obtain ⟨ρ8, rfl⟩ := reopen_ex (uc q14 un)
   clear q14
   refine JL_call rfl Tryz.call105 rfl (fun hin => fields_ct _ _) rfl ?_
   rintro _ _ ⟨rfl, rfl⟩
   refine JL_nil ?_
   exact ⟨.agg ⟨[.bool (fN (kind)), .bool (fR (kind)), .bool (fC (kind))]⟩, [], rfl, (Sub.emp Sub.refl), rfl⟩
  ·intro ρ r4 N4 B hB hBa hp hr hr0
   have q4 : ρ 4 = .pointer (some ⟨b2, 0, none⟩) := hr0 4 (by kernel_rfl)
   obtain ⟨ρ9, rfl⟩ := reopen_ex (uc q4 un)
   clear q4
   refine JL_pure (v := .pointer (some ⟨b2, 1, none⟩)) rfl (fa27_1 rfl rfl) ?_
   refine JL_nil ?_
   exact ⟨.pointer (some ⟨b2, 1, none⟩), [], rfl, (Sub.emp Sub.refl), rfl⟩
  ·intro ρ r4 N4 B hB hBa hp hr hr0
   have q16 : ρ 16 = .pointer (some ⟨b2, 1, none⟩) := (hr 3 _ _ (by decide) rfl rfl rfl).trans (hp 3 (by decide) rfl)
   obtain ⟨ρ10, rfl⟩ := reopen_ex (uc q16 un)
   clear q16
   refine JL_run rfl (Pu_load1 ty3 rfl (At.bx 10 (made_old ((hB 0 (by decide)).trans rfl))) (pkT_1 ..) ?_)
   refine JL_nil ?_
   exact ⟨.int .i64 (num), [], rfl, (Sub.emp Sub.refl), rfl⟩
  ·intro ρ r4 N4 B hB hBa hp hr hr0
   have q4 : ρ 4 = .pointer (some ⟨b2, 0, none⟩) := hr0 4 (by kernel_rfl)
   obtain ⟨ρ11, rfl⟩ := reopen_ex (uc q4 un)
   clear q4
   refine JL_pure (v := .pointer (some ⟨b2, 2, none⟩)) rfl (fa27_2 rfl rfl) ?_
   refine JL_nil ?_
   exact ⟨.pointer (some ⟨b2, 2, none⟩), [], rfl, (Sub.emp Sub.refl), rfl⟩
  ·intro ρ r4 N4 B hB hBa hp hr hr0
   have q18 : ρ 18 = .pointer (some ⟨b2, 2, none⟩) := (hr 5 _ _ (by decide) rfl rfl rfl).trans (hp 5 (by decide) rfl)
   obtain ⟨ρ12, rfl⟩ := reopen_ex (uc q18 un)
   clear q18
   refine JL_run rfl (Pu_load ty23 rfl (At.bx 10 (made_old ((hB 0 (by decide)).trans rfl))) (pkT_2 ..) ?_)
   refine JL_nil ?_
   exact ⟨.agg ⟨sC (ref)⟩, [], rfl, (Sub.emp Sub.refl), rfl⟩
  ·intro ρ r4 N4 B hB hBa hp hr hr0
   have q4 : ρ 4 = .pointer (some ⟨b2, 0, none⟩) := hr0 4 (by kernel_rfl)
   obtain ⟨ρ13, rfl⟩ := reopen_ex (uc q4 un)
   clear q4
   refine JL_pure (v := .pointer (some ⟨b2, 35, none⟩)) rfl (fa27_4 rfl rfl) ?_
   refine JL_nil ?_
   exact ⟨.pointer (some ⟨b2, 35, none⟩), [], rfl, (Sub.emp Sub.refl), rfl⟩
  ·intro ρ r4 N4 B hB hBa hp hr hr0
   have q20 : ρ 20 = .pointer (some ⟨b2, 35, none⟩) := (hr 7 _ _ (by decide) rfl rfl rfl).trans (hp 7 (by decide) rfl)
   obtain ⟨ρ14, rfl⟩ := reopen_ex (uc q20 un)
   clear q20
   refine JL_run rfl (Pu_load1 ty25 rfl (At.bx 10 (made_old ((hB 0 (by decide)).trans rfl))) (pkT_35 ..) ?_)
   refine JL_nil ?_
   exact ⟨cv, [], rfl, (Sub.emp Sub.refl), rfl⟩
  ·intro ρ r4 N4 B hB hBa hp hr hr0
   have q21 : ρ 21 = cv := (hr 8 _ _ (by decide) rfl rfl rfl).trans (hp 8 (by decide) rfl)
   obtain ⟨ρ15, rfl⟩ := reopen_ex (uc q21 un)
   clear q21
   refine JL_pure (v := .int .i64 (((cases).length : Int))) rfl (Pu.lenSl Tryz.runUnderlying25 hv5) ?_
   refine JL_nil ?_
   exact ⟨.int .i64 (((cases).length : Int)), [], rfl, (Sub.emp Sub.refl), rfl⟩
  ·intro ρ r4 N4 hp hr hr0
   have q2 : ρ 2 = .int .i64 (b) := hr0 2 (by kernel_rfl)
   have q3 : ρ 3 = .pointer (some ⟨b1, 0, none⟩) := hr0 3 (by kernel_rfl)
   have q4 : ρ 4 = .pointer (some ⟨b2, 0, none⟩) := hr0 4 (by kernel_rfl)
   have q6 : ρ 6 = .int .i64 (0) := hr0 6 (by kernel_rfl)
   have q15 : ρ 15 = .agg ⟨[.bool (fN (kind)), .bool (fR (kind)), .bool (fC (kind))]⟩ := (hr 2 _ _ (by decide) rfl rfl).trans (hp 2 (by decide))
   have q17 : ρ 17 = .int .i64 (num) := (hr 4 _ _ (by decide) rfl rfl).trans (hp 4 (by decide))
   have q19 : ρ 19 = .agg ⟨sC (ref)⟩ := (hr 6 _ _ (by decide) rfl rfl).trans (hp 6 (by decide))
   have q22 : ρ 22 = .int .i64 (((cases).length : Int)) := (hr 9 _ _ (by decide) rfl rfl).trans (hp 9 (by decide))
   obtain ⟨ρ16, rfl⟩ := reopen_ex (uc q2 (uc q3 (uc q4 (uc q6 (uc q15 (uc q17 (uc q19 (uc q22 un))))))))
   clear q2 q3 q4 q6 q15 q17 q19 q22
   clear hp hr hr0 
   refine JL_sub (M' := [(N4 0), (N4 1), (N4 2), (N4 3), (N4 4), (N4 5), (N4 6), (N4 7), (N4 8), (N4 9), [(b2, .cells ⟨pkT (kind) (num) (ref) (ks) (cv)⟩ 27 (0, 0))], [(b1, .cells ⟨[.int .i64 (m), .func (.func 68) ⟨[]⟩ ⟨[.pointer (some ⟨bD, 0, none⟩)]⟩]⟩ 105 (0, 0))]]) Sub.refl ?_
   refine JL_sub (M' := [[(b2, .cells ⟨pkT (kind) (num) (ref) (ks) (cv)⟩ 27 (0, 0))], [(b1, .cells ⟨[.int .i64 (m), .func (.func 68) ⟨[]⟩ ⟨[.pointer (some ⟨bD, 0, none⟩)]⟩]⟩ 105 (0, 0))]]) (Sub.cons 10 rfl (Sub.cons 10 rfl Sub.nil)) ?_
   show JL _ _ _ [_, _] _ _ _
   refine JL_call rfl Tryz.call104 rfl (fun hin => clash_ct _ _ _ _ _ _ _) rfl ?_
   rintro _ _ ⟨rfl, rfl⟩
   refine JL_pure (v := .bool (clashB (fN (kind)) (fR (kind)) (fC (kind)) (num) (ref) (((cases).length : Int)))) rfl (Pu.assign rfl) ?_
   refine JL_nil ?_
   refine J_cond (b := clashB (fN (kind)) (fR (kind)) (fC (kind)) (num) (ref) (((cases).length : Int))) rfl (fun h17 => ?_) (fun h17 => ?_)
   ·skip
    refine J_seq ?_
    refine J_region ?_
    refine JL_pure (v := .int .i64 (7)) rfl (Pu.assign rfl) ?_
    refine JL_nil ?_
    refine J_ret ?_
    refine ⟨.int .i64 (7), [], Ret.one rfl (RV.tmp rfl), Sub.nil, ?_⟩
    exact ⟨by refine congrArg (Value.int .i64) ?_; simp only [tHead]; (repeat' split) <;> first | rfl | omega | (exfalso; simp_all; done) | (exfalso; simp_all; omega) | grind, rfl⟩
   ·skip
    refine J_cut (fun ρ M => ρ 2 = .int .i64 (b) ∧ ρ 3 = .pointer (some ⟨b1, 0, none⟩) ∧ ρ 4 = .pointer (some ⟨b2, 0, none⟩) ∧ ρ 6 = .int .i64 (0) ∧ ρ 24 = .bool ((!(kidsB (kind) (((kids).length : Int)))) || (decide (8 < ((cases).length : Int)))) ∧ M = [[(b2, .cells ⟨pkT (kind) (num) (ref) (ks) (cv)⟩ 27 (0, 0))], [(b1, .cells ⟨[.int .i64 (m), .func (.func 68) ⟨[]⟩ ⟨[.pointer (some ⟨bD, 0, none⟩)]⟩]⟩ 105 (0, 0))]]) ?_ ?_
    ·refine J_region ?_
     refine JL_pure (v := .pointer (some ⟨b2, 0, none⟩)) rfl (fa27_0 rfl rfl) ?_
     refine JL_run rfl (Pu_load1 ty3 rfl (At.bx 0 rfl) (pkT_0 ..) ?_)
     refine JL_pure (v := .pointer (some ⟨b2, 34, none⟩)) rfl (fa27_3 rfl rfl) ?_
     refine JL_run rfl (Pu_load1 ty24 rfl (At.bx 0 rfl) (pkT_34 ..) ?_)
     obtain ⟨a18, cap18, hv18⟩ := hks.sl
     have hle18 := hks.le
     refine JL_pure (v := .int .i64 (((kids).length : Int))) rfl (Pu.lenSl Tryz.runUnderlying24 hv18) ?_
     refine JL_call rfl Tryz.call106 rfl (fun hin => kidsT_ct _ _ _) rfl ?_
     rintro _ _ ⟨rfl, rfl⟩
     refine JL_pure (v := .bool (!(kidsB (kind) (((kids).length : Int))))) rfl (Pu.not rfl) ?_
     refine JL_pure (v := .bool (!(kidsB (kind) (((kids).length : Int))))) rfl (Pu.move rfl) ?_
     cases h19 : (!(kidsB (kind) (((kids).length : Int)))) with
     | true =>
      replace h19 := nt h19
      refine JL_skip rfl ?_
      refine JL_skip rfl ?_
      refine JL_skip rfl ?_
      refine JL_skip rfl ?_
      refine JL_pure (v := .bool (true)) rfl (Pu.pickT rfl rfl) ?_
      refine JL_pure (v := .bool (true)) rfl (Pu.assign rfl) ?_
      refine JL_nil ?_
      first | exact ⟨rfl, rfl, rfl, rfl, rfl, rfl⟩ | (exfalso; omega)
     | false =>
      replace h19 := nf h19
      refine JL_pure (v := .pointer (some ⟨b2, 35, none⟩)) rfl (fa27_4 rfl rfl) ?_
      refine JL_run rfl (Pu_load1 ty25 rfl (At.bx 0 rfl) (pkT_35 ..) ?_)
      obtain ⟨a20, cap20, hv20⟩ := hcv.sl
      have hle20 := hcv.le
      refine JL_pure (v := .int .i64 (((cases).length : Int))) rfl (Pu.lenSl Tryz.runUnderlying25 hv20) ?_
      refine JL_pure (v := .bool (decide (8 < ((cases).length : Int)))) rfl (Pu.gtr rfl rfl) ?_
      refine JL_pure (v := .bool (decide (8 < ((cases).length : Int)))) rfl (Pu.pickF rfl rfl) ?_
      refine JL_pure (v := .bool (decide (8 < ((cases).length : Int)))) rfl (Pu.assign rfl) ?_
      refine JL_nil ?_
      first | exact ⟨rfl, rfl, rfl, rfl, rfl, rfl⟩ | (exfalso; omega)
    ·rintro ρ21 _ ⟨e22, e23, e24, e25, e26, rfl⟩
     obtain ⟨ρ27, rfl⟩ := reopen_ex (uc e22 (uc e23 (uc e24 (uc e25 (uc e26 un)))))
     clear e22 e23 e24 e25 e26
     refine J_cond (b := (!(kidsB (kind) (((kids).length : Int)))) || (decide (8 < ((cases).length : Int)))) rfl (fun h28 => ?_) (fun h28 => ?_)
     ·skip
      refine J_seq ?_
      refine J_region ?_
      refine JL_pure (v := .int .i64 (2)) rfl (Pu.assign rfl) ?_
      refine JL_nil ?_
      refine J_ret ?_
      refine ⟨.int .i64 (2), [], Ret.one rfl (RV.tmp rfl), Sub.nil, ?_⟩
      exact ⟨by refine congrArg (Value.int .i64) ?_; simp only [tHead]; (repeat' split) <;> first | rfl | omega | (exfalso; simp_all; done) | (exfalso; simp_all; omega) | grind, rfl⟩
     ·skip
      obtain ⟨h28a, h28b⟩ := orF h28
      replace h28a := nf h28a
      replace h28b := df h28b
      refine J_skip ?_
      refine J_seq ?_
      refine J_region ?_
      refine JL_pure (v := .int .i64 (1073741824)) rfl (Pu.assign rfl) ?_
      refine JL_nil ?_
      refine J_seq ?_
      refine J_seq ?_
      refine J_region ?_
      refine JL_pure (v := .pointer (some ⟨b2, 0, none⟩)) rfl (fa27_0 rfl rfl) ?_
      refine JL_run rfl (Pu_load1 ty3 rfl (At.bx 0 rfl) (pkT_0 ..) ?_)
      refine JL_nil ?_
      refine J_block ?_
      refine J_seq ?_
      refine J_region ?_
      refine JL_pure (v := .bool (decide (kind = 10))) rfl (Pu.eql rfl rfl) ?_
      refine JL_pure (v := .bool (decide (kind = 10))) rfl (Pu.assign rfl) ?_
      refine JL_nil ?_
      refine J_cond (b := decide (kind = 10)) rfl (fun h29 => ?_) (fun h29 => ?_)
      ·skip
       replace h29 := dt h29
       refine J_seq ?_
       refine J_region ?_
       refine JL_pure (v := .pointer (some ⟨b2, 1, none⟩)) rfl (fa27_1 rfl rfl) ?_
       refine JL_run rfl (Pu_load1 ty3 rfl (At.bx 0 rfl) (pkT_1 ..) ?_)
       refine JL_call rfl Tryz.call49 rfl (fun hin => off_ct _ _ _ _) rfl ?_
       rintro _ _ ⟨rfl, rfl⟩
       refine JL_nil ?_
       refine J_cond (b := decide (num < 1 ∨ 5 < num)) rfl (fun h30 => ?_) (fun h30 => ?_)
       ·skip
        replace h30 := dt h30
        refine J_seq ?_
        refine J_region ?_
        refine JL_pure (v := .int .i64 (3)) rfl (Pu.assign rfl) ?_
        refine JL_nil ?_
        refine J_ret ?_
        refine ⟨.int .i64 (3), [], Ret.one rfl (RV.tmp rfl), Sub.nil, ?_⟩
        exact ⟨by refine congrArg (Value.int .i64) ?_; simp only [tHead]; (repeat' split) <;> first | rfl | omega | (exfalso; simp_all; done) | (exfalso; simp_all; omega) | grind, rfl⟩
       ·skip
        replace h30 := df h30
        refine J_skip ?_
        refine J_seq ?_
        refine J_cut (fun ρ M => ρ 6 = .int .i64 (0) ∧ ρ 87 = .bool ((((decide (kind = 2)) || (decide (kind = 8))) || (decide (kind = 11))) && (decide (num < 0 ∨ 1073741824 < num))) ∧ M = [[(b2, .cells ⟨pkT (kind) (num) (ref) (ks) (cv)⟩ 27 (0, 0))], [(b1, .cells ⟨[.int .i64 (m), .func (.func 68) ⟨[]⟩ ⟨[.pointer (some ⟨bD, 0, none⟩)]⟩]⟩ 105 (0, 0))]]) ?_ ?_
        ·refine J_region ?_
         refine JL_pure (v := .pointer (some ⟨b2, 0, none⟩)) rfl (fa27_0 rfl rfl) ?_
         refine JL_run rfl (Pu_load1 ty3 rfl (At.bx 0 rfl) (pkT_0 ..) ?_)
         refine JL_pure (v := .bool (decide (kind = 2))) rfl (Pu.eql rfl rfl) ?_
         refine JL_pure (v := .bool (decide (kind = 2))) rfl (Pu.move rfl) ?_
         cases h31 : (decide (kind = 2)) with
         | true =>
          replace h31 := dt h31
          refine JL_skip rfl ?_
          refine JL_skip rfl ?_
          refine JL_skip rfl ?_
          refine JL_pure (v := .bool (true)) rfl (Pu.pickT rfl rfl) ?_
          refine JL_pure (v := .bool (true)) rfl (Pu.move rfl) ?_
          refine JL_skip rfl ?_
          refine JL_skip rfl ?_
          refine JL_skip rfl ?_
          refine JL_pure (v := .bool (true)) rfl (Pu.pickT rfl rfl) ?_
          refine JL_pure (v := .bool (true)) rfl (Pu.move rfl) ?_
          refine JL_pure (v := .pointer (some ⟨b2, 1, none⟩)) rfl (fa27_1 rfl rfl) ?_
          refine JL_run rfl (Pu_load1 ty3 rfl (At.bx 0 rfl) (pkT_1 ..) ?_)
          refine JL_pure (v := .int .i64 (1073741824)) rfl (Pu.move rfl) ?_
          refine JL_call rfl Tryz.call49 rfl (fun hin => off_ct _ _ _ _) rfl ?_
          rintro _ _ ⟨rfl, rfl⟩
          refine JL_pure (v := .bool (decide (num < 0 ∨ 1073741824 < num))) rfl (Pu.pickT rfl rfl) ?_
          refine JL_nil ?_
          first | exact ⟨rfl, rfl, rfl⟩ | (exfalso; omega)
         | false =>
          replace h31 := df h31
          refine JL_pure (v := .pointer (some ⟨b2, 0, none⟩)) rfl (fa27_0 rfl rfl) ?_
          refine JL_run rfl (Pu_load1 ty3 rfl (At.bx 0 rfl) (pkT_0 ..) ?_)
          refine JL_pure (v := .bool (decide (kind = 8))) rfl (Pu.eql rfl rfl) ?_
          refine JL_pure (v := .bool (decide (kind = 8))) rfl (Pu.pickF rfl rfl) ?_
          refine JL_pure (v := .bool (decide (kind = 8))) rfl (Pu.move rfl) ?_
          cases h32 : (decide (kind = 8)) with
          | true =>
           replace h32 := dt h32
           refine JL_skip rfl ?_
           refine JL_skip rfl ?_
           refine JL_skip rfl ?_
           refine JL_pure (v := .bool (true)) rfl (Pu.pickT rfl rfl) ?_
           refine JL_pure (v := .bool (true)) rfl (Pu.move rfl) ?_
           refine JL_pure (v := .pointer (some ⟨b2, 1, none⟩)) rfl (fa27_1 rfl rfl) ?_
           refine JL_run rfl (Pu_load1 ty3 rfl (At.bx 0 rfl) (pkT_1 ..) ?_)
           refine JL_pure (v := .int .i64 (1073741824)) rfl (Pu.move rfl) ?_
           refine JL_call rfl Tryz.call49 rfl (fun hin => off_ct _ _ _ _) rfl ?_
           rintro _ _ ⟨rfl, rfl⟩
           refine JL_pure (v := .bool (decide (num < 0 ∨ 1073741824 < num))) rfl (Pu.pickT rfl rfl) ?_
           refine JL_nil ?_
           first | exact ⟨rfl, rfl, rfl⟩ | (exfalso; omega)
          | false =>
           replace h32 := df h32
           refine JL_pure (v := .pointer (some ⟨b2, 0, none⟩)) rfl (fa27_0 rfl rfl) ?_
           refine JL_run rfl (Pu_load1 ty3 rfl (At.bx 0 rfl) (pkT_0 ..) ?_)
           refine JL_pure (v := .bool (decide (kind = 11))) rfl (Pu.eql rfl rfl) ?_
           refine JL_pure (v := .bool (decide (kind = 11))) rfl (Pu.pickF rfl rfl) ?_
           refine JL_pure (v := .bool (decide (kind = 11))) rfl (Pu.move rfl) ?_
           cases h33 : (decide (kind = 11)) with
           | true =>
            replace h33 := dt h33
            refine JL_pure (v := .pointer (some ⟨b2, 1, none⟩)) rfl (fa27_1 rfl rfl) ?_
            refine JL_run rfl (Pu_load1 ty3 rfl (At.bx 0 rfl) (pkT_1 ..) ?_)
            refine JL_pure (v := .int .i64 (1073741824)) rfl (Pu.move rfl) ?_
            refine JL_call rfl Tryz.call49 rfl (fun hin => off_ct _ _ _ _) rfl ?_
            rintro _ _ ⟨rfl, rfl⟩
            refine JL_pure (v := .bool (decide (num < 0 ∨ 1073741824 < num))) rfl (Pu.pickT rfl rfl) ?_
            refine JL_nil ?_
            first | exact ⟨rfl, rfl, rfl⟩ | (exfalso; omega)
           | false =>
            replace h33 := df h33
            refine JL_skip rfl ?_
            refine JL_skip rfl ?_
            refine JL_skip rfl ?_
            refine JL_skip rfl ?_
            refine JL_pure (v := .bool (false)) rfl (Pu.pickF rfl rfl) ?_
            refine JL_nil ?_
            first | exact ⟨rfl, rfl, rfl⟩ | (exfalso; omega)
        ·rintro ρ34 _ ⟨e35, e36, rfl⟩
         obtain ⟨ρ37, rfl⟩ := reopen_ex (uc e35 (uc e36 un))
         clear e35 e36
         refine J_cond (b := (((decide (kind = 2)) || (decide (kind = 8))) || (decide (kind = 11))) && (decide (num < 0 ∨ 1073741824 < num))) rfl (fun h38 => ?_) (fun h38 => ?_)
         ·skip
          obtain ⟨h38a, h38b⟩ := andT h38
          replace h38b := dt h38b
          refine J_seq ?_
          refine J_region ?_
          refine JL_pure (v := .int .i64 (3)) rfl (Pu.assign rfl) ?_
          refine JL_nil ?_
          refine J_ret ?_
          refine ⟨.int .i64 (3), [], Ret.one rfl (RV.tmp rfl), Sub.nil, ?_⟩
          exact ⟨by refine congrArg (Value.int .i64) ?_; simp only [tHead]; (repeat' split) <;> first | rfl | omega | (exfalso; simp_all; done) | (exfalso; simp_all; omega) | grind, rfl⟩
         ·skip
          refine J_skip ?_
          refine J_seq ?_
          refine J_region ?_
          refine JL_pure (v := .int .i64 (0)) rfl (Pu.assign rfl) ?_
          refine JL_nil ?_
          refine J_ret ?_
          refine ⟨.int .i64 (0), [], Ret.one rfl (RV.tmp rfl), Sub.nil, ?_⟩
          exact ⟨by refine congrArg (Value.int .i64) ?_; simp only [tHead]; (repeat' split) <;> first | rfl | omega | (exfalso; simp_all; done) | (exfalso; simp_all; omega) | grind, rfl⟩
      ·skip
       replace h29 := df h29
       refine J_seq ?_
       refine J_seq ?_
       refine J_region ?_
       refine JL_pure (v := .bool (decide (kind = 8))) rfl (Pu.eql rfl rfl) ?_
       refine JL_pure (v := .bool (decide (kind = 8))) rfl (Pu.assign rfl) ?_
       refine JL_nil ?_
       refine J_cond (b := decide (kind = 8)) rfl (fun h39 => ?_) (fun h39 => ?_)
       ·skip
        replace h39 := dt h39
        refine J_skip ?_
        refine J_cond (b := decide (kind = 8)) rfl (fun _ => ?_) (fun h40 => absurd h39 (df h40))
        refine J_region ?_
        refine JL_pure (v := .int .i64 (7)) rfl (Pu.assign rfl) ?_
        refine JL_nil ?_
        refine J_seq ?_
        refine J_cut (fun ρ M => ρ 6 = .int .i64 (0) ∧ ρ 87 = .bool ((((decide (kind = 2)) || (decide (kind = 8))) || (decide (kind = 11))) && (decide (num < 0 ∨ 7 < num))) ∧ M = [[(b2, .cells ⟨pkT (kind) (num) (ref) (ks) (cv)⟩ 27 (0, 0))], [(b1, .cells ⟨[.int .i64 (m), .func (.func 68) ⟨[]⟩ ⟨[.pointer (some ⟨bD, 0, none⟩)]⟩]⟩ 105 (0, 0))]]) ?_ ?_
        ·refine J_region ?_
         refine JL_pure (v := .pointer (some ⟨b2, 0, none⟩)) rfl (fa27_0 rfl rfl) ?_
         refine JL_run rfl (Pu_load1 ty3 rfl (At.bx 0 rfl) (pkT_0 ..) ?_)
         refine JL_pure (v := .bool (decide (kind = 2))) rfl (Pu.eql rfl rfl) ?_
         refine JL_pure (v := .bool (decide (kind = 2))) rfl (Pu.move rfl) ?_
         cases h41 : (decide (kind = 2)) with
         | true =>
          replace h41 := dt h41
          refine JL_skip rfl ?_
          refine JL_skip rfl ?_
          refine JL_skip rfl ?_
          refine JL_pure (v := .bool (true)) rfl (Pu.pickT rfl rfl) ?_
          refine JL_pure (v := .bool (true)) rfl (Pu.move rfl) ?_
          refine JL_skip rfl ?_
          refine JL_skip rfl ?_
          refine JL_skip rfl ?_
          refine JL_pure (v := .bool (true)) rfl (Pu.pickT rfl rfl) ?_
          refine JL_pure (v := .bool (true)) rfl (Pu.move rfl) ?_
          refine JL_pure (v := .pointer (some ⟨b2, 1, none⟩)) rfl (fa27_1 rfl rfl) ?_
          refine JL_run rfl (Pu_load1 ty3 rfl (At.bx 0 rfl) (pkT_1 ..) ?_)
          refine JL_pure (v := .int .i64 (7)) rfl (Pu.move rfl) ?_
          refine JL_call rfl Tryz.call49 rfl (fun hin => off_ct _ _ _ _) rfl ?_
          rintro _ _ ⟨rfl, rfl⟩
          refine JL_pure (v := .bool (decide (num < 0 ∨ 7 < num))) rfl (Pu.pickT rfl rfl) ?_
          refine JL_nil ?_
          first | exact ⟨rfl, rfl, rfl⟩ | (exfalso; omega)
         | false =>
          replace h41 := df h41
          refine JL_pure (v := .pointer (some ⟨b2, 0, none⟩)) rfl (fa27_0 rfl rfl) ?_
          refine JL_run rfl (Pu_load1 ty3 rfl (At.bx 0 rfl) (pkT_0 ..) ?_)
          refine JL_pure (v := .bool (decide (kind = 8))) rfl (Pu.eql rfl rfl) ?_
          refine JL_pure (v := .bool (decide (kind = 8))) rfl (Pu.pickF rfl rfl) ?_
          refine JL_pure (v := .bool (decide (kind = 8))) rfl (Pu.move rfl) ?_
          cases h42 : (decide (kind = 8)) with
          | true =>
           replace h42 := dt h42
           refine JL_skip rfl ?_
           refine JL_skip rfl ?_
           refine JL_skip rfl ?_
           refine JL_pure (v := .bool (true)) rfl (Pu.pickT rfl rfl) ?_
           refine JL_pure (v := .bool (true)) rfl (Pu.move rfl) ?_
           refine JL_pure (v := .pointer (some ⟨b2, 1, none⟩)) rfl (fa27_1 rfl rfl) ?_
           refine JL_run rfl (Pu_load1 ty3 rfl (At.bx 0 rfl) (pkT_1 ..) ?_)
           refine JL_pure (v := .int .i64 (7)) rfl (Pu.move rfl) ?_
           refine JL_call rfl Tryz.call49 rfl (fun hin => off_ct _ _ _ _) rfl ?_
           rintro _ _ ⟨rfl, rfl⟩
           refine JL_pure (v := .bool (decide (num < 0 ∨ 7 < num))) rfl (Pu.pickT rfl rfl) ?_
           refine JL_nil ?_
           first | exact ⟨rfl, rfl, rfl⟩ | (exfalso; omega)
          | false =>
           replace h42 := df h42
           refine JL_pure (v := .pointer (some ⟨b2, 0, none⟩)) rfl (fa27_0 rfl rfl) ?_
           refine JL_run rfl (Pu_load1 ty3 rfl (At.bx 0 rfl) (pkT_0 ..) ?_)
           refine JL_pure (v := .bool (decide (kind = 11))) rfl (Pu.eql rfl rfl) ?_
           refine JL_pure (v := .bool (decide (kind = 11))) rfl (Pu.pickF rfl rfl) ?_
           refine JL_pure (v := .bool (decide (kind = 11))) rfl (Pu.move rfl) ?_
           cases h43 : (decide (kind = 11)) with
           | true =>
            replace h43 := dt h43
            refine JL_pure (v := .pointer (some ⟨b2, 1, none⟩)) rfl (fa27_1 rfl rfl) ?_
            refine JL_run rfl (Pu_load1 ty3 rfl (At.bx 0 rfl) (pkT_1 ..) ?_)
            refine JL_pure (v := .int .i64 (7)) rfl (Pu.move rfl) ?_
            refine JL_call rfl Tryz.call49 rfl (fun hin => off_ct _ _ _ _) rfl ?_
            rintro _ _ ⟨rfl, rfl⟩
            refine JL_pure (v := .bool (decide (num < 0 ∨ 7 < num))) rfl (Pu.pickT rfl rfl) ?_
            refine JL_nil ?_
            first | exact ⟨rfl, rfl, rfl⟩ | (exfalso; omega)
           | false =>
            replace h43 := df h43
            refine JL_skip rfl ?_
            refine JL_skip rfl ?_
            refine JL_skip rfl ?_
            refine JL_skip rfl ?_
            refine JL_pure (v := .bool (false)) rfl (Pu.pickF rfl rfl) ?_
            refine JL_nil ?_
            first | exact ⟨rfl, rfl, rfl⟩ | (exfalso; omega)
        ·rintro ρ44 _ ⟨e45, e46, rfl⟩
         obtain ⟨ρ47, rfl⟩ := reopen_ex (uc e45 (uc e46 un))
         clear e45 e46
         refine J_cond (b := (((decide (kind = 2)) || (decide (kind = 8))) || (decide (kind = 11))) && (decide (num < 0 ∨ 7 < num))) rfl (fun h48 => ?_) (fun h48 => ?_)
         ·skip
          obtain ⟨h48a, h48b⟩ := andT h48
          replace h48b := dt h48b
          refine J_seq ?_
          refine J_region ?_
          refine JL_pure (v := .int .i64 (3)) rfl (Pu.assign rfl) ?_
          refine JL_nil ?_
          refine J_ret ?_
          refine ⟨.int .i64 (3), [], Ret.one rfl (RV.tmp rfl), Sub.nil, ?_⟩
          exact ⟨by refine congrArg (Value.int .i64) ?_; simp only [tHead]; (repeat' split) <;> first | rfl | omega | (exfalso; simp_all; done) | (exfalso; simp_all; omega) | grind, rfl⟩
         ·skip
          refine J_skip ?_
          refine J_seq ?_
          refine J_region ?_
          refine JL_pure (v := .int .i64 (0)) rfl (Pu.assign rfl) ?_
          refine JL_nil ?_
          refine J_ret ?_
          refine ⟨.int .i64 (0), [], Ret.one rfl (RV.tmp rfl), Sub.nil, ?_⟩
          exact ⟨by refine congrArg (Value.int .i64) ?_; simp only [tHead]; (repeat' split) <;> first | rfl | omega | (exfalso; simp_all; done) | (exfalso; simp_all; omega) | grind, rfl⟩
       ·skip
        replace h39 := df h39
        refine J_region ?_
        refine JL_pure (v := .bool (decide (kind = 11))) rfl (Pu.eql rfl rfl) ?_
        refine JL_pure (v := .bool (decide (kind = 11))) rfl (Pu.assign rfl) ?_
        refine JL_nil ?_
        refine J_cond (b := decide (kind = 11)) rfl (fun h49 => ?_) (fun h49 => ?_)
        ·skip
         replace h49 := dt h49
         refine J_region ?_
         refine JL_pure (v := .int .i64 (7)) rfl (Pu.assign rfl) ?_
         refine JL_nil ?_
         refine J_seq ?_
         refine J_cut (fun ρ M => ρ 6 = .int .i64 (0) ∧ ρ 87 = .bool ((((decide (kind = 2)) || (decide (kind = 8))) || (decide (kind = 11))) && (decide (num < 0 ∨ 7 < num))) ∧ M = [[(b2, .cells ⟨pkT (kind) (num) (ref) (ks) (cv)⟩ 27 (0, 0))], [(b1, .cells ⟨[.int .i64 (m), .func (.func 68) ⟨[]⟩ ⟨[.pointer (some ⟨bD, 0, none⟩)]⟩]⟩ 105 (0, 0))]]) ?_ ?_
         ·refine J_region ?_
          refine JL_pure (v := .pointer (some ⟨b2, 0, none⟩)) rfl (fa27_0 rfl rfl) ?_
          refine JL_run rfl (Pu_load1 ty3 rfl (At.bx 0 rfl) (pkT_0 ..) ?_)
          refine JL_pure (v := .bool (decide (kind = 2))) rfl (Pu.eql rfl rfl) ?_
          refine JL_pure (v := .bool (decide (kind = 2))) rfl (Pu.move rfl) ?_
          cases h50 : (decide (kind = 2)) with
          | true =>
           replace h50 := dt h50
           refine JL_skip rfl ?_
           refine JL_skip rfl ?_
           refine JL_skip rfl ?_
           refine JL_pure (v := .bool (true)) rfl (Pu.pickT rfl rfl) ?_
           refine JL_pure (v := .bool (true)) rfl (Pu.move rfl) ?_
           refine JL_skip rfl ?_
           refine JL_skip rfl ?_
           refine JL_skip rfl ?_
           refine JL_pure (v := .bool (true)) rfl (Pu.pickT rfl rfl) ?_
           refine JL_pure (v := .bool (true)) rfl (Pu.move rfl) ?_
           refine JL_pure (v := .pointer (some ⟨b2, 1, none⟩)) rfl (fa27_1 rfl rfl) ?_
           refine JL_run rfl (Pu_load1 ty3 rfl (At.bx 0 rfl) (pkT_1 ..) ?_)
           refine JL_pure (v := .int .i64 (7)) rfl (Pu.move rfl) ?_
           refine JL_call rfl Tryz.call49 rfl (fun hin => off_ct _ _ _ _) rfl ?_
           rintro _ _ ⟨rfl, rfl⟩
           refine JL_pure (v := .bool (decide (num < 0 ∨ 7 < num))) rfl (Pu.pickT rfl rfl) ?_
           refine JL_nil ?_
           first | exact ⟨rfl, rfl, rfl⟩ | (exfalso; omega)
          | false =>
           replace h50 := df h50
           refine JL_pure (v := .pointer (some ⟨b2, 0, none⟩)) rfl (fa27_0 rfl rfl) ?_
           refine JL_run rfl (Pu_load1 ty3 rfl (At.bx 0 rfl) (pkT_0 ..) ?_)
           refine JL_pure (v := .bool (decide (kind = 8))) rfl (Pu.eql rfl rfl) ?_
           refine JL_pure (v := .bool (decide (kind = 8))) rfl (Pu.pickF rfl rfl) ?_
           refine JL_pure (v := .bool (decide (kind = 8))) rfl (Pu.move rfl) ?_
           cases h51 : (decide (kind = 8)) with
           | true =>
            replace h51 := dt h51
            refine JL_skip rfl ?_
            refine JL_skip rfl ?_
            refine JL_skip rfl ?_
            refine JL_pure (v := .bool (true)) rfl (Pu.pickT rfl rfl) ?_
            refine JL_pure (v := .bool (true)) rfl (Pu.move rfl) ?_
            refine JL_pure (v := .pointer (some ⟨b2, 1, none⟩)) rfl (fa27_1 rfl rfl) ?_
            refine JL_run rfl (Pu_load1 ty3 rfl (At.bx 0 rfl) (pkT_1 ..) ?_)
            refine JL_pure (v := .int .i64 (7)) rfl (Pu.move rfl) ?_
            refine JL_call rfl Tryz.call49 rfl (fun hin => off_ct _ _ _ _) rfl ?_
            rintro _ _ ⟨rfl, rfl⟩
            refine JL_pure (v := .bool (decide (num < 0 ∨ 7 < num))) rfl (Pu.pickT rfl rfl) ?_
            refine JL_nil ?_
            first | exact ⟨rfl, rfl, rfl⟩ | (exfalso; omega)
           | false =>
            replace h51 := df h51
            refine JL_pure (v := .pointer (some ⟨b2, 0, none⟩)) rfl (fa27_0 rfl rfl) ?_
            refine JL_run rfl (Pu_load1 ty3 rfl (At.bx 0 rfl) (pkT_0 ..) ?_)
            refine JL_pure (v := .bool (decide (kind = 11))) rfl (Pu.eql rfl rfl) ?_
            refine JL_pure (v := .bool (decide (kind = 11))) rfl (Pu.pickF rfl rfl) ?_
            refine JL_pure (v := .bool (decide (kind = 11))) rfl (Pu.move rfl) ?_
            cases h52 : (decide (kind = 11)) with
            | true =>
             replace h52 := dt h52
             refine JL_pure (v := .pointer (some ⟨b2, 1, none⟩)) rfl (fa27_1 rfl rfl) ?_
             refine JL_run rfl (Pu_load1 ty3 rfl (At.bx 0 rfl) (pkT_1 ..) ?_)
             refine JL_pure (v := .int .i64 (7)) rfl (Pu.move rfl) ?_
             refine JL_call rfl Tryz.call49 rfl (fun hin => off_ct _ _ _ _) rfl ?_
             rintro _ _ ⟨rfl, rfl⟩
             refine JL_pure (v := .bool (decide (num < 0 ∨ 7 < num))) rfl (Pu.pickT rfl rfl) ?_
             refine JL_nil ?_
             first | exact ⟨rfl, rfl, rfl⟩ | (exfalso; omega)
            | false =>
             replace h52 := df h52
             refine JL_skip rfl ?_
             refine JL_skip rfl ?_
             refine JL_skip rfl ?_
             refine JL_skip rfl ?_
             refine JL_pure (v := .bool (false)) rfl (Pu.pickF rfl rfl) ?_
             refine JL_nil ?_
             first | exact ⟨rfl, rfl, rfl⟩ | (exfalso; omega)
         ·rintro ρ53 _ ⟨e54, e55, rfl⟩
          obtain ⟨ρ56, rfl⟩ := reopen_ex (uc e54 (uc e55 un))
          clear e54 e55
          refine J_cond (b := (((decide (kind = 2)) || (decide (kind = 8))) || (decide (kind = 11))) && (decide (num < 0 ∨ 7 < num))) rfl (fun h57 => ?_) (fun h57 => ?_)
          ·skip
           obtain ⟨h57a, h57b⟩ := andT h57
           replace h57b := dt h57b
           refine J_seq ?_
           refine J_region ?_
           refine JL_pure (v := .int .i64 (3)) rfl (Pu.assign rfl) ?_
           refine JL_nil ?_
           refine J_ret ?_
           refine ⟨.int .i64 (3), [], Ret.one rfl (RV.tmp rfl), Sub.nil, ?_⟩
           exact ⟨by refine congrArg (Value.int .i64) ?_; simp only [tHead]; (repeat' split) <;> first | rfl | omega | (exfalso; simp_all; done) | (exfalso; simp_all; omega) | grind, rfl⟩
          ·skip
           refine J_skip ?_
           refine J_seq ?_
           refine J_region ?_
           refine JL_pure (v := .int .i64 (0)) rfl (Pu.assign rfl) ?_
           refine JL_nil ?_
           refine J_ret ?_
           refine ⟨.int .i64 (0), [], Ret.one rfl (RV.tmp rfl), Sub.nil, ?_⟩
           exact ⟨by refine congrArg (Value.int .i64) ?_; simp only [tHead]; (repeat' split) <;> first | rfl | omega | (exfalso; simp_all; done) | (exfalso; simp_all; omega) | grind, rfl⟩
        ·skip
         replace h49 := df h49
         refine J_seq ?_
         refine J_region ?_
         refine JL_pure (v := .bool (decide (kind = 1))) rfl (Pu.eql rfl rfl) ?_
         refine JL_pure (v := .bool (decide (kind = 1))) rfl (Pu.assign rfl) ?_
         refine JL_nil ?_
         refine J_cond (b := decide (kind = 1)) rfl (fun h58 => ?_) (fun h58 => ?_)
         ·skip
          replace h58 := dt h58
          refine J_seq ?_
          refine J_region ?_
          refine JL_pure (v := .pointer (some ⟨b1, 1, none⟩)) rfl (fa105_1 rfl rfl) ?_
          refine JL_run rfl (Pu_load1 ty103 rfl (At.bx 1 rfl) rfl ?_)
          refine JL_pure (v := .pointer (some ⟨b2, 1, none⟩)) rfl (fa27_1 rfl rfl) ?_
          refine JL_run rfl (Pu_load1 ty3 rfl (At.bx 0 rfl) (pkT_1 ..) ?_)
          refine JL_pure (v := .int .i64 (b)) rfl (Pu.move rfl) ?_
          refine JL_call rfl Tryz.call68 rfl (fun hin => known_ct _ _ _ _ bD (Hle.hu _ _ _ _ hD) hb0 hb1 hn1 hn2) rfl ?_
          rintro _ _ ⟨rfl, rfl⟩
          refine JL_pure (v := .bool (!(knownB d (num) (b)))) rfl (Pu.not rfl) ?_
          refine JL_nil ?_
          refine J_cond (b := !(knownB d (num) (b))) rfl (fun h59 => ?_) (fun h59 => ?_)
          ·skip
           replace h59 := nt h59
           refine J_seq ?_
           refine J_region ?_
           refine JL_pure (v := .int .i64 (1)) rfl (Pu.assign rfl) ?_
           refine JL_nil ?_
           refine J_ret ?_
           refine ⟨.int .i64 (1), [], Ret.one rfl (RV.tmp rfl), Sub.nil, ?_⟩
           exact ⟨by refine congrArg (Value.int .i64) ?_; simp only [tHead]; (repeat' split) <;> first | rfl | omega | (exfalso; simp_all; done) | (exfalso; simp_all; omega) | grind, rfl⟩
          ·skip
           replace h59 := nf h59
           refine J_skip ?_
           refine J_seq ?_
           refine J_cut (fun ρ M => ρ 6 = .int .i64 (0) ∧ ρ 87 = .bool ((((decide (kind = 2)) || (decide (kind = 8))) || (decide (kind = 11))) && (decide (num < 0 ∨ 1073741824 < num))) ∧ M = [[(b2, .cells ⟨pkT (kind) (num) (ref) (ks) (cv)⟩ 27 (0, 0))], [(b1, .cells ⟨[.int .i64 (m), .func (.func 68) ⟨[]⟩ ⟨[.pointer (some ⟨bD, 0, none⟩)]⟩]⟩ 105 (0, 0))]]) ?_ ?_
           ·refine J_region ?_
            refine JL_pure (v := .pointer (some ⟨b2, 0, none⟩)) rfl (fa27_0 rfl rfl) ?_
            refine JL_run rfl (Pu_load1 ty3 rfl (At.bx 0 rfl) (pkT_0 ..) ?_)
            refine JL_pure (v := .bool (decide (kind = 2))) rfl (Pu.eql rfl rfl) ?_
            refine JL_pure (v := .bool (decide (kind = 2))) rfl (Pu.move rfl) ?_
            cases h60 : (decide (kind = 2)) with
            | true =>
             replace h60 := dt h60
             refine JL_skip rfl ?_
             refine JL_skip rfl ?_
             refine JL_skip rfl ?_
             refine JL_pure (v := .bool (true)) rfl (Pu.pickT rfl rfl) ?_
             refine JL_pure (v := .bool (true)) rfl (Pu.move rfl) ?_
             refine JL_skip rfl ?_
             refine JL_skip rfl ?_
             refine JL_skip rfl ?_
             refine JL_pure (v := .bool (true)) rfl (Pu.pickT rfl rfl) ?_
             refine JL_pure (v := .bool (true)) rfl (Pu.move rfl) ?_
             refine JL_pure (v := .pointer (some ⟨b2, 1, none⟩)) rfl (fa27_1 rfl rfl) ?_
             refine JL_run rfl (Pu_load1 ty3 rfl (At.bx 0 rfl) (pkT_1 ..) ?_)
             refine JL_pure (v := .int .i64 (1073741824)) rfl (Pu.move rfl) ?_
             refine JL_call rfl Tryz.call49 rfl (fun hin => off_ct _ _ _ _) rfl ?_
             rintro _ _ ⟨rfl, rfl⟩
             refine JL_pure (v := .bool (decide (num < 0 ∨ 1073741824 < num))) rfl (Pu.pickT rfl rfl) ?_
             refine JL_nil ?_
             first | exact ⟨rfl, rfl, rfl⟩ | (exfalso; omega)
            | false =>
             replace h60 := df h60
             refine JL_pure (v := .pointer (some ⟨b2, 0, none⟩)) rfl (fa27_0 rfl rfl) ?_
             refine JL_run rfl (Pu_load1 ty3 rfl (At.bx 0 rfl) (pkT_0 ..) ?_)
             refine JL_pure (v := .bool (decide (kind = 8))) rfl (Pu.eql rfl rfl) ?_
             refine JL_pure (v := .bool (decide (kind = 8))) rfl (Pu.pickF rfl rfl) ?_
             refine JL_pure (v := .bool (decide (kind = 8))) rfl (Pu.move rfl) ?_
             cases h61 : (decide (kind = 8)) with
             | true =>
              replace h61 := dt h61
              refine JL_skip rfl ?_
              refine JL_skip rfl ?_
              refine JL_skip rfl ?_
              refine JL_pure (v := .bool (true)) rfl (Pu.pickT rfl rfl) ?_
              refine JL_pure (v := .bool (true)) rfl (Pu.move rfl) ?_
              refine JL_pure (v := .pointer (some ⟨b2, 1, none⟩)) rfl (fa27_1 rfl rfl) ?_
              refine JL_run rfl (Pu_load1 ty3 rfl (At.bx 0 rfl) (pkT_1 ..) ?_)
              refine JL_pure (v := .int .i64 (1073741824)) rfl (Pu.move rfl) ?_
              refine JL_call rfl Tryz.call49 rfl (fun hin => off_ct _ _ _ _) rfl ?_
              rintro _ _ ⟨rfl, rfl⟩
              refine JL_pure (v := .bool (decide (num < 0 ∨ 1073741824 < num))) rfl (Pu.pickT rfl rfl) ?_
              refine JL_nil ?_
              first | exact ⟨rfl, rfl, rfl⟩ | (exfalso; omega)
             | false =>
              replace h61 := df h61
              refine JL_pure (v := .pointer (some ⟨b2, 0, none⟩)) rfl (fa27_0 rfl rfl) ?_
              refine JL_run rfl (Pu_load1 ty3 rfl (At.bx 0 rfl) (pkT_0 ..) ?_)
              refine JL_pure (v := .bool (decide (kind = 11))) rfl (Pu.eql rfl rfl) ?_
              refine JL_pure (v := .bool (decide (kind = 11))) rfl (Pu.pickF rfl rfl) ?_
              refine JL_pure (v := .bool (decide (kind = 11))) rfl (Pu.move rfl) ?_
              cases h62 : (decide (kind = 11)) with
              | true =>
               replace h62 := dt h62
               refine JL_pure (v := .pointer (some ⟨b2, 1, none⟩)) rfl (fa27_1 rfl rfl) ?_
               refine JL_run rfl (Pu_load1 ty3 rfl (At.bx 0 rfl) (pkT_1 ..) ?_)
               refine JL_pure (v := .int .i64 (1073741824)) rfl (Pu.move rfl) ?_
               refine JL_call rfl Tryz.call49 rfl (fun hin => off_ct _ _ _ _) rfl ?_
               rintro _ _ ⟨rfl, rfl⟩
               refine JL_pure (v := .bool (decide (num < 0 ∨ 1073741824 < num))) rfl (Pu.pickT rfl rfl) ?_
               refine JL_nil ?_
               first | exact ⟨rfl, rfl, rfl⟩ | (exfalso; omega)
              | false =>
               replace h62 := df h62
               refine JL_skip rfl ?_
               refine JL_skip rfl ?_
               refine JL_skip rfl ?_
               refine JL_skip rfl ?_
               refine JL_pure (v := .bool (false)) rfl (Pu.pickF rfl rfl) ?_
               refine JL_nil ?_
               first | exact ⟨rfl, rfl, rfl⟩ | (exfalso; omega)
           ·rintro ρ63 _ ⟨e64, e65, rfl⟩
            obtain ⟨ρ66, rfl⟩ := reopen_ex (uc e64 (uc e65 un))
            clear e64 e65
            refine J_cond (b := (((decide (kind = 2)) || (decide (kind = 8))) || (decide (kind = 11))) && (decide (num < 0 ∨ 1073741824 < num))) rfl (fun h67 => ?_) (fun h67 => ?_)
            ·skip
             obtain ⟨h67a, h67b⟩ := andT h67
             replace h67b := dt h67b
             refine J_seq ?_
             refine J_region ?_
             refine JL_pure (v := .int .i64 (3)) rfl (Pu.assign rfl) ?_
             refine JL_nil ?_
             refine J_ret ?_
             refine ⟨.int .i64 (3), [], Ret.one rfl (RV.tmp rfl), Sub.nil, ?_⟩
             exact ⟨by refine congrArg (Value.int .i64) ?_; simp only [tHead]; (repeat' split) <;> first | rfl | omega | (exfalso; simp_all; done) | (exfalso; simp_all; omega) | grind, rfl⟩
            ·skip
             refine J_skip ?_
             refine J_seq ?_
             refine J_region ?_
             refine JL_pure (v := .int .i64 (0)) rfl (Pu.assign rfl) ?_
             refine JL_nil ?_
             refine J_ret ?_
             refine ⟨.int .i64 (0), [], Ret.one rfl (RV.tmp rfl), Sub.nil, ?_⟩
             exact ⟨by refine congrArg (Value.int .i64) ?_; simp only [tHead]; (repeat' split) <;> first | rfl | omega | (exfalso; simp_all; done) | (exfalso; simp_all; omega) | grind, rfl⟩
         ·skip
          replace h58 := df h58
          refine J_seq ?_
          refine J_region ?_
          refine JL_pure (v := .bool (decide (kind = 7))) rfl (Pu.eql rfl rfl) ?_
          refine JL_pure (v := .bool (decide (kind = 7))) rfl (Pu.assign rfl) ?_
          refine JL_nil ?_
          refine J_cond (b := decide (kind = 7)) rfl (fun h68 => ?_) (fun h68 => ?_)
          ·skip
           replace h68 := dt h68
           refine J_cut (fun ρ M => ρ 4 = .pointer (some ⟨b2, 0, none⟩) ∧ ρ 6 = .int .i64 (0) ∧ ρ 7 = .int .i64 (1073741824) ∧ ρ 68 = .bool ((decide (num < 0)) || (decide (m ≤ num))) ∧ M = [[(b2, .cells ⟨pkT (kind) (num) (ref) (ks) (cv)⟩ 27 (0, 0))], [(b1, .cells ⟨[.int .i64 (m), .func (.func 68) ⟨[]⟩ ⟨[.pointer (some ⟨bD, 0, none⟩)]⟩]⟩ 105 (0, 0))]]) ?_ ?_
           ·refine J_region ?_
            refine JL_pure (v := .pointer (some ⟨b2, 1, none⟩)) rfl (fa27_1 rfl rfl) ?_
            refine JL_run rfl (Pu_load1 ty3 rfl (At.bx 0 rfl) (pkT_1 ..) ?_)
            refine JL_pure (v := .bool (decide (num < 0))) rfl (Pu.lss rfl rfl) ?_
            refine JL_pure (v := .bool (decide (num < 0))) rfl (Pu.move rfl) ?_
            cases h69 : (decide (num < 0)) with
            | true =>
             replace h69 := dt h69
             refine JL_skip rfl ?_
             refine JL_skip rfl ?_
             refine JL_skip rfl ?_
             refine JL_skip rfl ?_
             refine JL_skip rfl ?_
             refine JL_pure (v := .bool (true)) rfl (Pu.pickT rfl rfl) ?_
             refine JL_nil ?_
             first | exact ⟨rfl, rfl, rfl, rfl, rfl⟩ | (exfalso; omega)
            | false =>
             replace h69 := df h69
             refine JL_pure (v := .pointer (some ⟨b2, 1, none⟩)) rfl (fa27_1 rfl rfl) ?_
             refine JL_run rfl (Pu_load1 ty3 rfl (At.bx 0 rfl) (pkT_1 ..) ?_)
             refine JL_pure (v := .pointer (some ⟨b1, 0, none⟩)) rfl (fa105_0 rfl rfl) ?_
             refine JL_run rfl (Pu_load1 ty3 rfl (At.bx 1 rfl) rfl ?_)
             refine JL_pure (v := .bool (decide (m ≤ num))) rfl (Pu.geq rfl rfl) ?_
             refine JL_pure (v := .bool (decide (m ≤ num))) rfl (Pu.pickF rfl rfl) ?_
             refine JL_nil ?_
             first | exact ⟨rfl, rfl, rfl, rfl, rfl⟩ | (exfalso; omega)
           ·rintro ρ70 _ ⟨e71, e72, e73, e74, rfl⟩
            obtain ⟨ρ75, rfl⟩ := reopen_ex (uc e71 (uc e72 (uc e73 (uc e74 un))))
            clear e71 e72 e73 e74
            refine J_cond (b := (decide (num < 0)) || (decide (m ≤ num))) rfl (fun h76 => ?_) (fun h76 => ?_)
            ·skip
             refine J_seq ?_
             refine J_region ?_
             refine JL_pure (v := .int .i64 (1)) rfl (Pu.assign rfl) ?_
             refine JL_nil ?_
             refine J_ret ?_
             refine ⟨.int .i64 (1), [], Ret.one rfl (RV.tmp rfl), Sub.nil, ?_⟩
             exact ⟨by refine congrArg (Value.int .i64) ?_; simp only [tHead]; (repeat' split) <;> first | rfl | omega | (exfalso; simp_all; done) | (exfalso; simp_all; omega) | grind, rfl⟩
            ·skip
             obtain ⟨h76a, h76b⟩ := orF h76
             replace h76a := df h76a
             replace h76b := df h76b
             refine J_skip ?_
             refine J_seq ?_
             refine J_cut (fun ρ M => ρ 6 = .int .i64 (0) ∧ ρ 87 = .bool ((((decide (kind = 2)) || (decide (kind = 8))) || (decide (kind = 11))) && (decide (num < 0 ∨ 1073741824 < num))) ∧ M = [[(b2, .cells ⟨pkT (kind) (num) (ref) (ks) (cv)⟩ 27 (0, 0))], [(b1, .cells ⟨[.int .i64 (m), .func (.func 68) ⟨[]⟩ ⟨[.pointer (some ⟨bD, 0, none⟩)]⟩]⟩ 105 (0, 0))]]) ?_ ?_
             ·refine J_region ?_
              refine JL_pure (v := .pointer (some ⟨b2, 0, none⟩)) rfl (fa27_0 rfl rfl) ?_
              refine JL_run rfl (Pu_load1 ty3 rfl (At.bx 0 rfl) (pkT_0 ..) ?_)
              refine JL_pure (v := .bool (decide (kind = 2))) rfl (Pu.eql rfl rfl) ?_
              refine JL_pure (v := .bool (decide (kind = 2))) rfl (Pu.move rfl) ?_
              cases h77 : (decide (kind = 2)) with
              | true =>
               replace h77 := dt h77
               refine JL_skip rfl ?_
               refine JL_skip rfl ?_
               refine JL_skip rfl ?_
               refine JL_pure (v := .bool (true)) rfl (Pu.pickT rfl rfl) ?_
               refine JL_pure (v := .bool (true)) rfl (Pu.move rfl) ?_
               refine JL_skip rfl ?_
               refine JL_skip rfl ?_
               refine JL_skip rfl ?_
               refine JL_pure (v := .bool (true)) rfl (Pu.pickT rfl rfl) ?_
               refine JL_pure (v := .bool (true)) rfl (Pu.move rfl) ?_
               refine JL_pure (v := .pointer (some ⟨b2, 1, none⟩)) rfl (fa27_1 rfl rfl) ?_
               refine JL_run rfl (Pu_load1 ty3 rfl (At.bx 0 rfl) (pkT_1 ..) ?_)
               refine JL_pure (v := .int .i64 (1073741824)) rfl (Pu.move rfl) ?_
               refine JL_call rfl Tryz.call49 rfl (fun hin => off_ct _ _ _ _) rfl ?_
               rintro _ _ ⟨rfl, rfl⟩
               refine JL_pure (v := .bool (decide (num < 0 ∨ 1073741824 < num))) rfl (Pu.pickT rfl rfl) ?_
               refine JL_nil ?_
               first | exact ⟨rfl, rfl, rfl⟩ | (exfalso; omega)
              | false =>
               replace h77 := df h77
               refine JL_pure (v := .pointer (some ⟨b2, 0, none⟩)) rfl (fa27_0 rfl rfl) ?_
               refine JL_run rfl (Pu_load1 ty3 rfl (At.bx 0 rfl) (pkT_0 ..) ?_)
               refine JL_pure (v := .bool (decide (kind = 8))) rfl (Pu.eql rfl rfl) ?_
               refine JL_pure (v := .bool (decide (kind = 8))) rfl (Pu.pickF rfl rfl) ?_
               refine JL_pure (v := .bool (decide (kind = 8))) rfl (Pu.move rfl) ?_
               cases h78 : (decide (kind = 8)) with
               | true =>
                replace h78 := dt h78
                refine JL_skip rfl ?_
                refine JL_skip rfl ?_
                refine JL_skip rfl ?_
                refine JL_pure (v := .bool (true)) rfl (Pu.pickT rfl rfl) ?_
                refine JL_pure (v := .bool (true)) rfl (Pu.move rfl) ?_
                refine JL_pure (v := .pointer (some ⟨b2, 1, none⟩)) rfl (fa27_1 rfl rfl) ?_
                refine JL_run rfl (Pu_load1 ty3 rfl (At.bx 0 rfl) (pkT_1 ..) ?_)
                refine JL_pure (v := .int .i64 (1073741824)) rfl (Pu.move rfl) ?_
                refine JL_call rfl Tryz.call49 rfl (fun hin => off_ct _ _ _ _) rfl ?_
                rintro _ _ ⟨rfl, rfl⟩
                refine JL_pure (v := .bool (decide (num < 0 ∨ 1073741824 < num))) rfl (Pu.pickT rfl rfl) ?_
                refine JL_nil ?_
                first | exact ⟨rfl, rfl, rfl⟩ | (exfalso; omega)
               | false =>
                replace h78 := df h78
                refine JL_pure (v := .pointer (some ⟨b2, 0, none⟩)) rfl (fa27_0 rfl rfl) ?_
                refine JL_run rfl (Pu_load1 ty3 rfl (At.bx 0 rfl) (pkT_0 ..) ?_)
                refine JL_pure (v := .bool (decide (kind = 11))) rfl (Pu.eql rfl rfl) ?_
                refine JL_pure (v := .bool (decide (kind = 11))) rfl (Pu.pickF rfl rfl) ?_
                refine JL_pure (v := .bool (decide (kind = 11))) rfl (Pu.move rfl) ?_
                cases h79 : (decide (kind = 11)) with
                | true =>
                 replace h79 := dt h79
                 refine JL_pure (v := .pointer (some ⟨b2, 1, none⟩)) rfl (fa27_1 rfl rfl) ?_
                 refine JL_run rfl (Pu_load1 ty3 rfl (At.bx 0 rfl) (pkT_1 ..) ?_)
                 refine JL_pure (v := .int .i64 (1073741824)) rfl (Pu.move rfl) ?_
                 refine JL_call rfl Tryz.call49 rfl (fun hin => off_ct _ _ _ _) rfl ?_
                 rintro _ _ ⟨rfl, rfl⟩
                 refine JL_pure (v := .bool (decide (num < 0 ∨ 1073741824 < num))) rfl (Pu.pickT rfl rfl) ?_
                 refine JL_nil ?_
                 first | exact ⟨rfl, rfl, rfl⟩ | (exfalso; omega)
                | false =>
                 replace h79 := df h79
                 refine JL_skip rfl ?_
                 refine JL_skip rfl ?_
                 refine JL_skip rfl ?_
                 refine JL_skip rfl ?_
                 refine JL_pure (v := .bool (false)) rfl (Pu.pickF rfl rfl) ?_
                 refine JL_nil ?_
                 first | exact ⟨rfl, rfl, rfl⟩ | (exfalso; omega)
             ·rintro ρ80 _ ⟨e81, e82, rfl⟩
              obtain ⟨ρ83, rfl⟩ := reopen_ex (uc e81 (uc e82 un))
              clear e81 e82
              refine J_cond (b := (((decide (kind = 2)) || (decide (kind = 8))) || (decide (kind = 11))) && (decide (num < 0 ∨ 1073741824 < num))) rfl (fun h84 => ?_) (fun h84 => ?_)
              ·skip
               obtain ⟨h84a, h84b⟩ := andT h84
               replace h84b := dt h84b
               refine J_seq ?_
               refine J_region ?_
               refine JL_pure (v := .int .i64 (3)) rfl (Pu.assign rfl) ?_
               refine JL_nil ?_
               refine J_ret ?_
               refine ⟨.int .i64 (3), [], Ret.one rfl (RV.tmp rfl), Sub.nil, ?_⟩
               exact ⟨by refine congrArg (Value.int .i64) ?_; simp only [tHead]; (repeat' split) <;> first | rfl | omega | (exfalso; simp_all; done) | (exfalso; simp_all; omega) | grind, rfl⟩
              ·skip
               refine J_skip ?_
               refine J_seq ?_
               refine J_region ?_
               refine JL_pure (v := .int .i64 (0)) rfl (Pu.assign rfl) ?_
               refine JL_nil ?_
               refine J_ret ?_
               refine ⟨.int .i64 (0), [], Ret.one rfl (RV.tmp rfl), Sub.nil, ?_⟩
               exact ⟨by refine congrArg (Value.int .i64) ?_; simp only [tHead]; (repeat' split) <;> first | rfl | omega | (exfalso; simp_all; done) | (exfalso; simp_all; omega) | grind, rfl⟩
          ·skip
           replace h68 := df h68
           refine J_skip ?_
           refine J_seq ?_
           refine J_cut (fun ρ M => ρ 6 = .int .i64 (0) ∧ ρ 87 = .bool ((((decide (kind = 2)) || (decide (kind = 8))) || (decide (kind = 11))) && (decide (num < 0 ∨ 1073741824 < num))) ∧ M = [[(b2, .cells ⟨pkT (kind) (num) (ref) (ks) (cv)⟩ 27 (0, 0))], [(b1, .cells ⟨[.int .i64 (m), .func (.func 68) ⟨[]⟩ ⟨[.pointer (some ⟨bD, 0, none⟩)]⟩]⟩ 105 (0, 0))]]) ?_ ?_
           ·refine J_region ?_
            refine JL_pure (v := .pointer (some ⟨b2, 0, none⟩)) rfl (fa27_0 rfl rfl) ?_
            refine JL_run rfl (Pu_load1 ty3 rfl (At.bx 0 rfl) (pkT_0 ..) ?_)
            refine JL_pure (v := .bool (decide (kind = 2))) rfl (Pu.eql rfl rfl) ?_
            refine JL_pure (v := .bool (decide (kind = 2))) rfl (Pu.move rfl) ?_
            cases h85 : (decide (kind = 2)) with
            | true =>
             replace h85 := dt h85
             refine JL_skip rfl ?_
             refine JL_skip rfl ?_
             refine JL_skip rfl ?_
             refine JL_pure (v := .bool (true)) rfl (Pu.pickT rfl rfl) ?_
             refine JL_pure (v := .bool (true)) rfl (Pu.move rfl) ?_
             refine JL_skip rfl ?_
             refine JL_skip rfl ?_
             refine JL_skip rfl ?_
             refine JL_pure (v := .bool (true)) rfl (Pu.pickT rfl rfl) ?_
             refine JL_pure (v := .bool (true)) rfl (Pu.move rfl) ?_
             refine JL_pure (v := .pointer (some ⟨b2, 1, none⟩)) rfl (fa27_1 rfl rfl) ?_
             refine JL_run rfl (Pu_load1 ty3 rfl (At.bx 0 rfl) (pkT_1 ..) ?_)
             refine JL_pure (v := .int .i64 (1073741824)) rfl (Pu.move rfl) ?_
             refine JL_call rfl Tryz.call49 rfl (fun hin => off_ct _ _ _ _) rfl ?_
             rintro _ _ ⟨rfl, rfl⟩
             refine JL_pure (v := .bool (decide (num < 0 ∨ 1073741824 < num))) rfl (Pu.pickT rfl rfl) ?_
             refine JL_nil ?_
             first | exact ⟨rfl, rfl, rfl⟩ | (exfalso; omega)
            | false =>
             replace h85 := df h85
             refine JL_pure (v := .pointer (some ⟨b2, 0, none⟩)) rfl (fa27_0 rfl rfl) ?_
             refine JL_run rfl (Pu_load1 ty3 rfl (At.bx 0 rfl) (pkT_0 ..) ?_)
             refine JL_pure (v := .bool (decide (kind = 8))) rfl (Pu.eql rfl rfl) ?_
             refine JL_pure (v := .bool (decide (kind = 8))) rfl (Pu.pickF rfl rfl) ?_
             refine JL_pure (v := .bool (decide (kind = 8))) rfl (Pu.move rfl) ?_
             cases h86 : (decide (kind = 8)) with
             | true =>
              replace h86 := dt h86
              refine JL_skip rfl ?_
              refine JL_skip rfl ?_
              refine JL_skip rfl ?_
              refine JL_pure (v := .bool (true)) rfl (Pu.pickT rfl rfl) ?_
              refine JL_pure (v := .bool (true)) rfl (Pu.move rfl) ?_
              refine JL_pure (v := .pointer (some ⟨b2, 1, none⟩)) rfl (fa27_1 rfl rfl) ?_
              refine JL_run rfl (Pu_load1 ty3 rfl (At.bx 0 rfl) (pkT_1 ..) ?_)
              refine JL_pure (v := .int .i64 (1073741824)) rfl (Pu.move rfl) ?_
              refine JL_call rfl Tryz.call49 rfl (fun hin => off_ct _ _ _ _) rfl ?_
              rintro _ _ ⟨rfl, rfl⟩
              refine JL_pure (v := .bool (decide (num < 0 ∨ 1073741824 < num))) rfl (Pu.pickT rfl rfl) ?_
              refine JL_nil ?_
              first | exact ⟨rfl, rfl, rfl⟩ | (exfalso; omega)
             | false =>
              replace h86 := df h86
              refine JL_pure (v := .pointer (some ⟨b2, 0, none⟩)) rfl (fa27_0 rfl rfl) ?_
              refine JL_run rfl (Pu_load1 ty3 rfl (At.bx 0 rfl) (pkT_0 ..) ?_)
              refine JL_pure (v := .bool (decide (kind = 11))) rfl (Pu.eql rfl rfl) ?_
              refine JL_pure (v := .bool (decide (kind = 11))) rfl (Pu.pickF rfl rfl) ?_
              refine JL_pure (v := .bool (decide (kind = 11))) rfl (Pu.move rfl) ?_
              cases h87 : (decide (kind = 11)) with
              | true =>
               replace h87 := dt h87
               refine JL_pure (v := .pointer (some ⟨b2, 1, none⟩)) rfl (fa27_1 rfl rfl) ?_
               refine JL_run rfl (Pu_load1 ty3 rfl (At.bx 0 rfl) (pkT_1 ..) ?_)
               refine JL_pure (v := .int .i64 (1073741824)) rfl (Pu.move rfl) ?_
               refine JL_call rfl Tryz.call49 rfl (fun hin => off_ct _ _ _ _) rfl ?_
               rintro _ _ ⟨rfl, rfl⟩
               refine JL_pure (v := .bool (decide (num < 0 ∨ 1073741824 < num))) rfl (Pu.pickT rfl rfl) ?_
               refine JL_nil ?_
               first | exact ⟨rfl, rfl, rfl⟩ | (exfalso; omega)
              | false =>
               replace h87 := df h87
               refine JL_skip rfl ?_
               refine JL_skip rfl ?_
               refine JL_skip rfl ?_
               refine JL_skip rfl ?_
               refine JL_pure (v := .bool (false)) rfl (Pu.pickF rfl rfl) ?_
               refine JL_nil ?_
               first | exact ⟨rfl, rfl, rfl⟩ | (exfalso; omega)
           ·rintro ρ88 _ ⟨e89, e90, rfl⟩
            obtain ⟨ρ91, rfl⟩ := reopen_ex (uc e89 (uc e90 un))
            clear e89 e90
            refine J_cond (b := (((decide (kind = 2)) || (decide (kind = 8))) || (decide (kind = 11))) && (decide (num < 0 ∨ 1073741824 < num))) rfl (fun h92 => ?_) (fun h92 => ?_)
            ·skip
             obtain ⟨h92a, h92b⟩ := andT h92
             replace h92b := dt h92b
             refine J_seq ?_
             refine J_region ?_
             refine JL_pure (v := .int .i64 (3)) rfl (Pu.assign rfl) ?_
             refine JL_nil ?_
             refine J_ret ?_
             refine ⟨.int .i64 (3), [], Ret.one rfl (RV.tmp rfl), Sub.nil, ?_⟩
             exact ⟨by refine congrArg (Value.int .i64) ?_; simp only [tHead]; (repeat' split) <;> first | rfl | omega | (exfalso; simp_all; done) | (exfalso; simp_all; omega) | grind, rfl⟩
            ·skip
             refine J_skip ?_
             refine J_seq ?_
             refine J_region ?_
             refine JL_pure (v := .int .i64 (0)) rfl (Pu.assign rfl) ?_
             refine JL_nil ?_
             refine J_ret ?_
             refine ⟨.int .i64 (0), [], Ret.one rfl (RV.tmp rfl), Sub.nil, ?_⟩
             exact ⟨by refine congrArg (Value.int .i64) ?_; simp only [tHead]; (repeat' split) <;> first | rfl | omega | (exfalso; simp_all; done) | (exfalso; simp_all; omega) | grind, rfl⟩
end Go.Proofs.YtbfjkdhfelmioaaGreat.Hs
/-! Walks, printed by a program of this session's own (gen.py). -/
namespace Go.Proofs.YtbfjkdhfelmioaaGreat.Hs
open Go Go.Proofs
set_option maxRecDepth 100000
set_option linter.unusedVariables false
set_option linter.unusedSimpArgs false
attribute [local irreducible] JL J CT wlo
theorem parts_ct (cs : List Value) (H : Heap) (hl : cs.length = 36) : CT Tryz.prog 95 ⟨[.agg ⟨cs⟩]⟩ [] H (fun v N => ∃ b, v = .func (.func 108) ⟨[]⟩ ⟨[.pointer (some ⟨b, 0, none⟩)]⟩ ∧ N = [[(b, .cells ⟨cs⟩ 27 (0, 0))]]) := by
 refine CT_enter Tryz.func95 rfl rfl ?_
 refine J_seq ?_
 refine J_region ?_
 refine JL_run rfl (Runs_box (l := cs) rfl rfl fun b1 => ?_)
 refine JL_pure (v := .nilFunc) rfl (Pu.assign rfl) ?_
 refine JL_nil ?_
 refine J_seq ?_
 refine J_region ?_
 refine JL_pure (v := .func (.func 108) ⟨[]⟩ ⟨[.pointer (some ⟨b1, 0, none⟩)]⟩) rfl (Pu.makeFunc rfl rfl) ?_
 refine JL_pure (v := .func (.func 108) ⟨[]⟩ ⟨[.pointer (some ⟨b1, 0, none⟩)]⟩) rfl (Pu.assign rfl) ?_
 refine JL_nil ?_
 refine J_ret ?_
 refine ⟨.func (.func 108) ⟨[]⟩ ⟨[.pointer (some ⟨b1, 0, none⟩)]⟩, [[(b1, .cells ⟨cs⟩ 27 (0, 0))]], Ret.one rfl (RV.tmp rfl), (Sub.cons 0 rfl Sub.nil), ?_⟩
 exact ⟨_, rfl, rfl⟩
theorem parts1_ct (kind num : Int) (ref : Sm) (ks cv : Value) (kids : List Tm) (cases : List (Pt × Tm)) (H : Heap) (bT : Nat) (hks : rdS RT 36 H ks kids) (hcv : rdS RC 71 H cv cases) (hT : H bT = some (.cells ⟨pkT kind num ref ks cv⟩ 27 (0, 0))) (hsz : ∀ c ∈ cases, binds c.1 ≤ 1000000) (hkl : kids.length ≤ 1000000) (hcl : cases.length ≤ 1000000) (l : Nat) {σ : Type} (yc : σ → Chunk) (Inv : σ → Prop) (step : Tm → Int → σ → Bool × σ) (s0 : σ) (h0 : Inv s0) (It : Tm → Int → Prop) (hIK : ∀ (j : Nat) (hj : j < kids.length), It kids[j] (more kind j)) (hIC : ∀ (j : Nat) (hj : j < cases.length), It cases[j].2 (binds cases[j].1 : Int)) (hI : ∀ x mo s, Inv s → (step x mo s).1 = true → Inv (step x mo s).2) (hy : ∀ x mo, It x mo → ∀ s (i : Int) a h, Inv s → Hle H h → RT h a x → YT Tryz.prog l ⟨[.int .i64 i, .agg ⟨a ++ [.int .i64 mo]⟩]⟩ [yc s] h (fun v N => v = .bool (step x mo s).1 ∧ N = [yc (step x mo s).2])) : CT Tryz.prog 108 ⟨[.func (.yield l) ⟨[]⟩ ⟨[]⟩, .pointer (some ⟨bT, 0, none⟩)]⟩ [yc s0] H (fun _ N => N = [yc (yP step kind kids cases s0)]) := by
 refine CT_enter Tryz.func108 rfl rfl ?_
 refine J_seq ?_
 refine J_seq ?_
 refine J_region ?_
 refine JL_pure (v := .pointer (some ⟨bT, 34, none⟩)) rfl (fa27_3 rfl rfl) ?_
 refine JL_run rfl (Pu_load1 ty24 rfl (At.im hT) (pkT_34 ..) ?_)
 obtain ⟨a1, cap1, hv1⟩ := hks.sl
 have hle1 := hks.le
 refine JL_pure (v := .int .i64 (((kids).length : Int))) rfl (Pu.lenSl Tryz.runUnderlying24 hv1) ?_
 refine JL_pure (v := .int .i64 (0)) rfl (Pu.move rfl) ?_
 refine JL_nil ?_
 refine J_block ?_
 refine J_loop (fun k ρ M => ∃ (j : Nat) (s : σ), ρ 0 = .func (.yield l) ⟨[]⟩ ⟨[]⟩ ∧ ρ 1 = .pointer (some ⟨bT, 0, none⟩) ∧ ρ 8 = ks ∧ ρ 9 = .int .i64 (((kids).length : Int)) ∧ ρ 10 = .int .i64 ((j : Int)) ∧ Sub [yc s] M ∧ j ≤ (kids).length ∧ Inv s ∧ yK step kind j (kids.drop j) s = yK step kind 0 kids s0 ∧ k = (kids).length - j) _ ⟨0, s0, rfl, rfl, rfl, rfl, rfl, (Sub.cons 0 rfl Sub.nil), Nat.zero_le _, h0, rfl, rfl⟩ ?_
 rintro _ ρ2 _ ⟨j, s, e3, e4, e5, e6, e7, hm8, hj, hs, hinv, rfl⟩
 obtain ⟨ρ9, rfl⟩ := reopen_ex (uc e3 (uc e4 (uc e5 (uc e6 (uc e7 un)))))
 clear e3 e4 e5 e6 e7
 refine J_sub hm8 ?_
 have hlen := hks.le
 refine J_seq ?_
 refine J_region ?_
 refine JL_pure (v := .bool (decide ((j : Int) < ((kids).length : Int)))) rfl (Pu.lss rfl rfl) ?_
 refine JL_nil ?_
 refine J_seq ?_
 refine J_cond (b := decide ((j : Int) < ((kids).length : Int))) rfl (fun h10 => ?_) (fun h10 => ?_)
 ·skip
  replace h10 := dt h10
  have h10n : j < (kids).length := by omega
  refine J_skip ?_
  refine J_seq ?_
  refine J_block ?_
  refine J_seq ?_
  refine J_region ?_
  refine JL_pure (v := .int .i64 ((j : Int))) rfl (Pu.move rfl) ?_
  obtain ⟨b11, o11, cap11, row11, T11, fr11, cs11, hv11, hb11, hs11, hE11⟩ := hks.get j (by first | assumption | omega | decide | simp)
  refine JL_pure (v := .pointer (some ⟨b11, o11 + j * 36, none⟩)) rfl (Pu.idx j Tryz.runUnderlying24 ty27 hv11 rfl rfl (by first | assumption | omega | decide | simp)) ?_
  refine JL_run rfl (Pu_load ty27 rfl (At.im hb11) hs11 ?_)
  refine JL_run rfl (Runs_alloc (l := pkT (0) (0) (zS) (.slice none 0 0) (.slice none 0 0)) Tryz.zeroValue27 rfl fun b12 => ?_)
  refine JL_pure (v := .int .i64 ((j : Int))) rfl (Pu.assign rfl) ?_
  refine JL_run rfl (Runs_storeB 0 (vs := cs11) (l := cs11) ty27 rfl rfl rfl rfl (RT_len hE11) (RT_ok hE11) (spl_a (n := 36) rfl (RT_len hE11)) ?_)
  refine JL_nil ?_
  refine J_seq ?_
  refine J_draw mixed #[0, 0, 0, 0, 8, 0, 56, 124, 255, 511] 8 8 2 rfl (by kernel_rfl) (fun i r13 N13 => match i with | 0 => (r13 0) = .func (.yield l) ⟨[]⟩ ⟨[]⟩ | 1 => (r13 1) = .int .i64 ((j : Int)) | 2 => (r13 2) = .agg ⟨cs11⟩ | 3 => (r13 3) = .pointer (some ⟨bT, 0, none⟩) | 4 => (r13 4) = .int .i64 (kind) | 5 => (r13 5) = .int .i64 ((j : Int)) | 6 => (r13 6) = .int .i64 (more (kind) ((j : Int))) | 7 => (r13 7) = .agg ⟨(cs11) ++ ([.int .i64 (more (kind) ((j : Int)))] : List Value)⟩ | _ => True) ⟨?_, ?_, ?_, ?_, ?_, ?_, ?_, ?_, trivial⟩ ?_
  ·intro ρ r13 N13 B hB hBa hp hr hr0
   have q0 : ρ 0 = .func (.yield l) ⟨[]⟩ ⟨[]⟩ := hr0 0 (by kernel_rfl)
   obtain ⟨ρ14, rfl⟩ := reopen_ex (uc q0 un)
   clear q0
   refine JL_pure (v := .func (.yield l) ⟨[]⟩ ⟨[]⟩) rfl (Pu.move rfl) ?_
   refine JL_nil ?_
   exact ⟨.func (.yield l) ⟨[]⟩ ⟨[]⟩, [], rfl, (Sub.emp Sub.refl), rfl⟩
  ·intro ρ r13 N13 B hB hBa hp hr hr0
   have q3 : ρ 3 = .int .i64 ((j : Int)) := hr0 3 (by kernel_rfl)
   obtain ⟨ρ15, rfl⟩ := reopen_ex (uc q3 un)
   clear q3
   refine JL_pure (v := .int .i64 ((j : Int))) rfl (Pu.move rfl) ?_
   refine JL_nil ?_
   exact ⟨.int .i64 ((j : Int)), [], rfl, (Sub.emp Sub.refl), rfl⟩
  ·intro ρ r13 N13 B hB hBa hp hr hr0
   have q4 : ρ 4 = .pointer (some ⟨b12, 0, none⟩) := hr0 4 (by kernel_rfl)
   obtain ⟨ρ16, rfl⟩ := reopen_ex (uc q4 un)
   clear q4
   refine JL_run rfl (Pu_load ty27 rfl (At.bx 8 (made_old ((hB 0 (by decide)).trans rfl))) (sub_a (RT_len hE11)) ?_)
   refine JL_nil ?_
   exact ⟨.agg ⟨cs11⟩, [], rfl, (Sub.emp Sub.refl), rfl⟩
  ·intro ρ r13 N13 B hB hBa hp hr hr0
   have q1 : ρ 1 = .pointer (some ⟨bT, 0, none⟩) := hr0 1 (by kernel_rfl)
   obtain ⟨ρ17, rfl⟩ := reopen_ex (uc q1 un)
   clear q1
   refine JL_pure (v := .pointer (some ⟨bT, 0, none⟩)) rfl (fa27_0 rfl rfl) ?_
   refine JL_nil ?_
   exact ⟨.pointer (some ⟨bT, 0, none⟩), [], rfl, (Sub.emp Sub.refl), rfl⟩
  ·intro ρ r13 N13 B hB hBa hp hr hr0
   have q18 : ρ 18 = .pointer (some ⟨bT, 0, none⟩) := (hr 3 _ _ (by decide) rfl rfl rfl).trans (hp 3 (by decide) rfl)
   obtain ⟨ρ18, rfl⟩ := reopen_ex (uc q18 un)
   clear q18
   refine JL_run rfl (Pu_load1 ty3 rfl (At.im hT) (pkT_0 ..) ?_)
   refine JL_nil ?_
   exact ⟨.int .i64 (kind), [], rfl, (Sub.emp Sub.refl), rfl⟩
  ·intro ρ r13 N13 B hB hBa hp hr hr0
   have q3 : ρ 3 = .int .i64 ((j : Int)) := hr0 3 (by kernel_rfl)
   obtain ⟨ρ19, rfl⟩ := reopen_ex (uc q3 un)
   clear q3
   refine JL_pure (v := .int .i64 ((j : Int))) rfl (Pu.move rfl) ?_
   refine JL_nil ?_
   exact ⟨.int .i64 ((j : Int)), [], rfl, (Sub.emp Sub.refl), rfl⟩
  ·intro ρ r13 N13 B hB hBa hp hr hr0
   have q19 : ρ 19 = .int .i64 (kind) := (hr 4 _ _ (by decide) rfl rfl rfl).trans (hp 4 (by decide) rfl)
   have q20 : ρ 20 = .int .i64 ((j : Int)) := (hr 5 _ _ (by decide) rfl rfl rfl).trans (hp 5 (by decide) rfl)
   obtain ⟨ρ20, rfl⟩ := reopen_ex (uc q19 (uc q20 un))
   clear q19 q20
   refine JL_call rfl Tryz.call88 rfl (fun hin => more_ct _ _ _) rfl ?_
   rintro _ _ ⟨rfl, rfl⟩
   refine JL_nil ?_
   exact ⟨.int .i64 (more (kind) ((j : Int))), [], rfl, (Sub.emp Sub.refl), rfl⟩
  ·intro ρ r13 N13 B hB hBa hp hr hr0
   have q17 : ρ 17 = .agg ⟨cs11⟩ := (hr 2 _ _ (by decide) rfl rfl rfl).trans (hp 2 (by decide) rfl)
   have q21 : ρ 21 = .int .i64 (more (kind) ((j : Int))) := (hr 6 _ _ (by decide) rfl rfl rfl).trans (hp 6 (by decide) rfl)
   obtain ⟨ρ21, rfl⟩ := reopen_ex (uc q17 (uc q21 un))
   clear q17 q21
   refine JL_pure (v := .agg ⟨(cs11) ++ ([.int .i64 (more (kind) ((j : Int)))] : List Value)⟩) rfl (Pu.build (pv := [(0, .agg ⟨cs11⟩), (1, .int .i64 (more (kind) ((j : Int))))]) (l := (cs11) ++ ([.int .i64 (more (kind) ((j : Int)))] : List Value)) rfl (bld124_0_1 (RT_len hE11))) ?_
   refine JL_nil ?_
   exact ⟨.agg ⟨(cs11) ++ ([.int .i64 (more (kind) ((j : Int)))] : List Value)⟩, [], rfl, (Sub.emp Sub.refl), rfl⟩
  ·intro ρ r13 N13 hp hr hr0
   have q0 : ρ 0 = .func (.yield l) ⟨[]⟩ ⟨[]⟩ := hr0 0 (by kernel_rfl)
   have q1 : ρ 1 = .pointer (some ⟨bT, 0, none⟩) := hr0 1 (by kernel_rfl)
   have q8 : ρ 8 = ks := hr0 8 (by kernel_rfl)
   have q9 : ρ 9 = .int .i64 (((kids).length : Int)) := hr0 9 (by kernel_rfl)
   have q10 : ρ 10 = .int .i64 ((j : Int)) := hr0 10 (by kernel_rfl)
   have q15 : ρ 15 = .func (.yield l) ⟨[]⟩ ⟨[]⟩ := (hr 0 _ _ (by decide) rfl rfl).trans (hp 0 (by decide))
   have q16 : ρ 16 = .int .i64 ((j : Int)) := (hr 1 _ _ (by decide) rfl rfl).trans (hp 1 (by decide))
   have q22 : ρ 22 = .agg ⟨(cs11) ++ ([.int .i64 (more (kind) ((j : Int)))] : List Value)⟩ := (hr 7 _ _ (by decide) rfl rfl).trans (hp 7 (by decide))
   obtain ⟨ρ22, rfl⟩ := reopen_ex (uc q0 (uc q1 (uc q8 (uc q9 (uc q10 (uc q15 (uc q16 (uc q22 un))))))))
   clear q0 q1 q8 q9 q10 q15 q16 q22
   clear hp hr hr0 
   refine JL_sub (M' := [(N13 0), (N13 1), (N13 2), (N13 3), (N13 4), (N13 5), (N13 6), (N13 7), [(b12, .cells ⟨cs11⟩ 27 (0, 0))], yc s]) Sub.refl ?_
   refine JL_sub (M' := [[(b12, .cells ⟨cs11⟩ 27 (0, 0))], yc s]) (Sub.cons 8 rfl (Sub.cons 8 rfl Sub.nil)) ?_
   show JL _ _ _ [_, _] _ _ _
   refine JL_yield1 1 rfl rfl rfl (fun hin => hy _ _ (hIK j h10n) _ _ _ _ hs (Hle.hu _ _) (RT.mono (Hle.hu _ _) hE11)) rfl ?_
   rintro _ _ ⟨rfl, rfl⟩
   refine JL_pure (v := .bool (!((step ((kids)[j]) (more (kind) ((j : Int))) (s)).1))) rfl (Pu.not rfl) ?_
   refine JL_nil ?_
   refine J_cond (b := !((step ((kids)[j]) (more (kind) ((j : Int))) (s)).1)) rfl (fun h23 => ?_) (fun h23 => ?_)
   ·skip
    replace h23 := nt h23
    refine J_ret ?_
    refine ⟨.tuple ⟨[]⟩, [yc (step ((kids)[j]) (more (kind) ((j : Int))) (s)).2], Ret.none rfl, (Sub.cons 0 rfl Sub.nil), ?_⟩
    rw [dropc h10n, yK, if_neg (by simp [h23])] at hinv
    show _ = _; rw [yP, ← hinv]; rfl
   ·skip
    replace h23 := nf h23
    refine J_skip ?_
    refine J_region ?_
    refine JL_pure (v := .int .i64 (((j + 1 : Nat) : Int))) rfl (Pu.inc rfl rfl (by omega)) ?_
    refine JL_pure (v := .int .i64 (((j + 1 : Nat) : Int))) rfl (Pu.move rfl) ?_
    refine JL_nil ?_
    refine ⟨_, ?_, (j + 1), ((step ((kids)[j]) (more (kind) ((j : Int))) (s)).2), rfl, rfl, rfl, rfl, rfl, (Sub.cons 0 rfl Sub.nil), ?_, ?_, ?_, rfl⟩
    ·omega
    ·omega
    ·exact hI _ _ s hs h23
    ·rw [dropc h10n, yK, if_pos h23] at hinv; exact hinv
 ·skip
  replace h10 := df h10
  have h10n : (kids).length ≤ j := by omega
  refine J_exit _ rfl ?_
  refine J_seq ?_
  refine J_region ?_
  refine JL_pure (v := .pointer (some ⟨bT, 35, none⟩)) rfl (fa27_4 rfl rfl) ?_
  refine JL_run rfl (Pu_load1 ty25 rfl (At.im hT) (pkT_35 ..) ?_)
  obtain ⟨a24, cap24, hv24⟩ := hcv.sl
  have hle24 := hcv.le
  refine JL_pure (v := .int .i64 (((cases).length : Int))) rfl (Pu.lenSl Tryz.runUnderlying25 hv24) ?_
  refine JL_pure (v := .int .i64 (0)) rfl (Pu.move rfl) ?_
  refine JL_nil ?_
  refine J_block ?_
  have hk1 : yK step kind 0 kids s0 = (true, s) := by rw [← hinv, dropn h10n]; rfl
  refine J_loop (fun k ρ M => ∃ (j : Nat) (s2 : σ), ρ 0 = .func (.yield l) ⟨[]⟩ ⟨[]⟩ ∧ ρ 1 = .pointer (some ⟨bT, 0, none⟩) ∧ ρ 27 = cv ∧ ρ 28 = .int .i64 (((cases).length : Int)) ∧ ρ 29 = .int .i64 ((j : Int)) ∧ Sub [yc s2] M ∧ j ≤ (cases).length ∧ Inv s2 ∧ yC step (cases.drop j) s2 = yC step cases s ∧ k = (cases).length - j) _ ⟨0, s, rfl, rfl, rfl, rfl, rfl, (Sub.cons 0 rfl Sub.nil), Nat.zero_le _, hs, rfl, rfl⟩ ?_
  rintro _ ρ25 _ ⟨j, s2, e26, e27, e28, e29, e30, hm31, hj, hs, hinv, rfl⟩
  obtain ⟨ρ32, rfl⟩ := reopen_ex (uc e26 (uc e27 (uc e28 (uc e29 (uc e30 un)))))
  clear e26 e27 e28 e29 e30
  refine J_sub hm31 ?_
  have hlen := hcv.le
  refine J_seq ?_
  refine J_region ?_
  refine JL_pure (v := .bool (decide ((j : Int) < ((cases).length : Int)))) rfl (Pu.lss rfl rfl) ?_
  refine JL_nil ?_
  refine J_seq ?_
  refine J_cond (b := decide ((j : Int) < ((cases).length : Int))) rfl (fun h33 => ?_) (fun h33 => ?_)
  ·skip
   replace h33 := dt h33
   have h33n : j < (cases).length := by omega
   have hbm := hsz _ (List.getElem_mem h33n)
   have hlenk := hks.le
   refine J_skip ?_
   refine J_seq ?_
   refine J_block ?_
   refine J_seq ?_
   refine J_region ?_
   refine JL_pure (v := .int .i64 ((j : Int))) rfl (Pu.move rfl) ?_
   obtain ⟨b34, o34, cap34, row34, T34, fr34, cs34, hv34, hb34, hs34, hE34⟩ := hcv.get j (by first | assumption | omega | decide | simp)
   obtain ⟨ca34, cb34, rfl, hA34, hB34⟩ := hE34
   refine JL_pure (v := .pointer (some ⟨b34, o34 + j * 71, none⟩)) rfl (Pu.idx j Tryz.runUnderlying25 ty46 hv34 rfl rfl (by first | assumption | omega | decide | simp)) ?_
   refine JL_run rfl (Pu_load ty46 rfl (At.im hb34) hs34 ?_)
   refine JL_run rfl (Runs_alloc (l := (pkP (0) (0) (zS) (.slice none 0 0)) ++ (pkT (0) (0) (zS) (.slice none 0 0) (.slice none 0 0))) Tryz.zeroValue46 rfl fun b35 => ?_)
   refine JL_pure (v := .int .i64 ((j : Int))) rfl (Pu.assign rfl) ?_
   refine JL_run rfl (Runs_storeB 0 (vs := (ca34) ++ (cb34)) (l := (ca34) ++ (cb34)) ty46 rfl rfl rfl rfl (len_app (RP_len hA34) (RT_len hB34)) (okc_app (RP_ok hA34) (RT_ok hB34)) (spl_a (n := 71) rfl (len_app (RP_len hA34) (RT_len hB34))) ?_)
   refine JL_nil ?_
   refine J_seq ?_
   obtain ⟨a37, cap37, hv37⟩ := hks.sl
   have hle37 := hks.le
   refine J_draw mixed #[0, 0, 2, 6, 0, 30, 0, 64, 0, 256, 768, 1984, 4095, 8191] 12 12 2 rfl (by kernel_rfl) (fun i r36 N36 => match i with | 0 => (r36 0) = .func (.yield l) ⟨[]⟩ ⟨[]⟩ | 1 => (r36 1) = .pointer (some ⟨bT, 34, none⟩) | 2 => (r36 2) = ks | 3 => (r36 3) = .int .i64 (((kids).length : Int)) | 4 => (r36 4) = .int .i64 ((j : Int)) | 5 => (r36 5) = .int .i64 (((kids).length : Int) + ((j : Int))) | 6 => (r36 6) = .pointer (some ⟨b35, 35, none⟩) | 7 => (r36 7) = .agg ⟨cb34⟩ | 8 => (r36 8) = .pointer (some ⟨b35, 0, none⟩) | 9 => (r36 9) = .agg ⟨ca34⟩ | 10 => (r36 10) = .int .i64 ((binds ((cases)[j].1) : Int)) | 11 => (r36 11) = .agg ⟨(cb34) ++ ([.int .i64 ((binds ((cases)[j].1) : Int))] : List Value)⟩ | _ => True) ⟨?_, ?_, ?_, ?_, ?_, ?_, ?_, ?_, ?_, ?_, ?_, ?_, trivial⟩ ?_
   ·intro ρ r36 N36 B hB hBa hp hr hr0
    have q0 : ρ 0 = .func (.yield l) ⟨[]⟩ ⟨[]⟩ := hr0 0 (by kernel_rfl)
    obtain ⟨ρ38, rfl⟩ := reopen_ex (uc q0 un)
    clear q0
    refine JL_pure (v := .func (.yield l) ⟨[]⟩ ⟨[]⟩) rfl (Pu.move rfl) ?_
    refine JL_nil ?_
    exact ⟨.func (.yield l) ⟨[]⟩ ⟨[]⟩, [], rfl, (Sub.emp Sub.refl), rfl⟩
   ·intro ρ r36 N36 B hB hBa hp hr hr0
    have q1 : ρ 1 = .pointer (some ⟨bT, 0, none⟩) := hr0 1 (by kernel_rfl)
    obtain ⟨ρ39, rfl⟩ := reopen_ex (uc q1 un)
    clear q1
    refine JL_pure (v := .pointer (some ⟨bT, 34, none⟩)) rfl (fa27_3 rfl rfl) ?_
    refine JL_nil ?_
    exact ⟨.pointer (some ⟨bT, 34, none⟩), [], rfl, (Sub.emp Sub.refl), rfl⟩
   ·intro ρ r36 N36 B hB hBa hp hr hr0
    have q35 : ρ 35 = .pointer (some ⟨bT, 34, none⟩) := (hr 1 _ _ (by decide) rfl rfl rfl).trans (hp 1 (by decide) rfl)
    obtain ⟨ρ40, rfl⟩ := reopen_ex (uc q35 un)
    clear q35
    refine JL_run rfl (Pu_load1 ty24 rfl (At.im hT) (pkT_34 ..) ?_)
    refine JL_nil ?_
    exact ⟨ks, [], rfl, (Sub.emp Sub.refl), rfl⟩
   ·intro ρ r36 N36 B hB hBa hp hr hr0
    have q36 : ρ 36 = ks := (hr 2 _ _ (by decide) rfl rfl rfl).trans (hp 2 (by decide) rfl)
    obtain ⟨ρ41, rfl⟩ := reopen_ex (uc q36 un)
    clear q36
    refine JL_pure (v := .int .i64 (((kids).length : Int))) rfl (Pu.lenSl Tryz.runUnderlying24 hv37) ?_
    refine JL_nil ?_
    exact ⟨.int .i64 (((kids).length : Int)), [], rfl, (Sub.emp Sub.refl), rfl⟩
   ·intro ρ r36 N36 B hB hBa hp hr hr0
    have q5 : ρ 5 = .int .i64 ((j : Int)) := hr0 5 (by kernel_rfl)
    obtain ⟨ρ42, rfl⟩ := reopen_ex (uc q5 un)
    clear q5
    refine JL_pure (v := .int .i64 ((j : Int))) rfl (Pu.move rfl) ?_
    refine JL_nil ?_
    exact ⟨.int .i64 ((j : Int)), [], rfl, (Sub.emp Sub.refl), rfl⟩
   ·intro ρ r36 N36 B hB hBa hp hr hr0
    have q37 : ρ 37 = .int .i64 (((kids).length : Int)) := (hr 3 _ _ (by decide) rfl rfl rfl).trans (hp 3 (by decide) rfl)
    have q38 : ρ 38 = .int .i64 ((j : Int)) := (hr 4 _ _ (by decide) rfl rfl rfl).trans (hp 4 (by decide) rfl)
    obtain ⟨ρ43, rfl⟩ := reopen_ex (uc q37 (uc q38 un))
    clear q37 q38
    refine JL_pure (v := .int .i64 (((kids).length : Int) + ((j : Int)))) rfl (Pu.add64 rfl rfl (by first | omega | (constructor <;> omega))) ?_
    refine JL_nil ?_
    exact ⟨.int .i64 (((kids).length : Int) + ((j : Int))), [], rfl, (Sub.emp Sub.refl), rfl⟩
   ·intro ρ r36 N36 B hB hBa hp hr hr0
    have q6 : ρ 6 = .pointer (some ⟨b35, 0, none⟩) := hr0 6 (by kernel_rfl)
    obtain ⟨ρ44, rfl⟩ := reopen_ex (uc q6 un)
    clear q6
    refine JL_pure (v := .pointer (some ⟨b35, 35, none⟩)) rfl (fa46_1 rfl rfl) ?_
    refine JL_nil ?_
    exact ⟨.pointer (some ⟨b35, 35, none⟩), [], rfl, (Sub.emp Sub.refl), rfl⟩
   ·intro ρ r36 N36 B hB hBa hp hr hr0
    have q40 : ρ 40 = .pointer (some ⟨b35, 35, none⟩) := (hr 6 _ _ (by decide) rfl rfl rfl).trans (hp 6 (by decide) rfl)
    obtain ⟨ρ45, rfl⟩ := reopen_ex (uc q40 un)
    clear q40
    refine JL_run rfl (Pu_load ty27 rfl (At.bx 12 (made_old ((hB 0 (by decide)).trans rfl))) (sub_r (RP_len hA34) (RT_len hB34)) ?_)
    refine JL_nil ?_
    exact ⟨.agg ⟨cb34⟩, [], rfl, (Sub.emp Sub.refl), rfl⟩
   ·intro ρ r36 N36 B hB hBa hp hr hr0
    have q6 : ρ 6 = .pointer (some ⟨b35, 0, none⟩) := hr0 6 (by kernel_rfl)
    obtain ⟨ρ46, rfl⟩ := reopen_ex (uc q6 un)
    clear q6
    refine JL_pure (v := .pointer (some ⟨b35, 0, none⟩)) rfl (fa46_0 rfl rfl) ?_
    refine JL_nil ?_
    exact ⟨.pointer (some ⟨b35, 0, none⟩), [], rfl, (Sub.emp Sub.refl), rfl⟩
   ·intro ρ r36 N36 B hB hBa hp hr hr0
    have q42 : ρ 42 = .pointer (some ⟨b35, 0, none⟩) := (hr 8 _ _ (by decide) rfl rfl rfl).trans (hp 8 (by decide) rfl)
    obtain ⟨ρ47, rfl⟩ := reopen_ex (uc q42 un)
    clear q42
    refine JL_run rfl (Pu_load ty42 rfl (At.bx 12 (made_old ((hB 0 (by decide)).trans rfl))) (sub_l (RP_len hA34)) ?_)
    refine JL_nil ?_
    exact ⟨.agg ⟨ca34⟩, [], rfl, (Sub.emp Sub.refl), rfl⟩
   ·intro ρ r36 N36 B hB hBa hp hr hr0
    have q43 : ρ 43 = .agg ⟨ca34⟩ := (hr 9 _ _ (by decide) rfl rfl rfl).trans (hp 9 (by decide) rfl)
    obtain ⟨ρ48, rfl⟩ := reopen_ex (uc q43 un)
    clear q43
    refine JL_call rfl Tryz.call67 rfl (fun hin => binds_ct _ _ _ (RP.mono (Hle.hu _ _) hA34) (by omega)) rfl ?_
    rintro _ _ ⟨rfl, rfl⟩
    refine JL_nil ?_
    exact ⟨.int .i64 ((binds ((cases)[j].1) : Int)), [], rfl, (Sub.emp Sub.refl), rfl⟩
   ·intro ρ r36 N36 B hB hBa hp hr hr0
    have q41 : ρ 41 = .agg ⟨cb34⟩ := (hr 7 _ _ (by decide) rfl rfl rfl).trans (hp 7 (by decide) rfl)
    have q44 : ρ 44 = .int .i64 ((binds ((cases)[j].1) : Int)) := (hr 10 _ _ (by decide) rfl rfl rfl).trans (hp 10 (by decide) rfl)
    obtain ⟨ρ49, rfl⟩ := reopen_ex (uc q41 (uc q44 un))
    clear q41 q44
    refine JL_pure (v := .agg ⟨(cb34) ++ ([.int .i64 ((binds ((cases)[j].1) : Int))] : List Value)⟩) rfl (Pu.build (pv := [(0, .agg ⟨cb34⟩), (1, .int .i64 ((binds ((cases)[j].1) : Int)))]) (l := (cb34) ++ ([.int .i64 ((binds ((cases)[j].1) : Int))] : List Value)) rfl (bld124_0_1 (RT_len hB34))) ?_
    refine JL_nil ?_
    exact ⟨.agg ⟨(cb34) ++ ([.int .i64 ((binds ((cases)[j].1) : Int))] : List Value)⟩, [], rfl, (Sub.emp Sub.refl), rfl⟩
   ·intro ρ r36 N36 hp hr hr0
    have q0 : ρ 0 = .func (.yield l) ⟨[]⟩ ⟨[]⟩ := hr0 0 (by kernel_rfl)
    have q1 : ρ 1 = .pointer (some ⟨bT, 0, none⟩) := hr0 1 (by kernel_rfl)
    have q27 : ρ 27 = cv := hr0 27 (by kernel_rfl)
    have q28 : ρ 28 = .int .i64 (((cases).length : Int)) := hr0 28 (by kernel_rfl)
    have q29 : ρ 29 = .int .i64 ((j : Int)) := hr0 29 (by kernel_rfl)
    have q34 : ρ 34 = .func (.yield l) ⟨[]⟩ ⟨[]⟩ := (hr 0 _ _ (by decide) rfl rfl).trans (hp 0 (by decide))
    have q39 : ρ 39 = .int .i64 (((kids).length : Int) + ((j : Int))) := (hr 5 _ _ (by decide) rfl rfl).trans (hp 5 (by decide))
    have q45 : ρ 45 = .agg ⟨(cb34) ++ ([.int .i64 ((binds ((cases)[j].1) : Int))] : List Value)⟩ := (hr 11 _ _ (by decide) rfl rfl).trans (hp 11 (by decide))
    obtain ⟨ρ50, rfl⟩ := reopen_ex (uc q0 (uc q1 (uc q27 (uc q28 (uc q29 (uc q34 (uc q39 (uc q45 un))))))))
    clear q0 q1 q27 q28 q29 q34 q39 q45
    clear hp hr hr0 
    refine JL_sub (M' := [(N36 0), (N36 1), (N36 2), (N36 3), (N36 4), (N36 5), (N36 6), (N36 7), (N36 8), (N36 9), (N36 10), (N36 11), [(b35, .cells ⟨(ca34) ++ (cb34)⟩ 46 (0, 0))], yc s2]) Sub.refl ?_
    refine JL_sub (M' := [[(b35, .cells ⟨(ca34) ++ (cb34)⟩ 46 (0, 0))], yc s2]) (Sub.cons 12 rfl (Sub.cons 12 rfl Sub.nil)) ?_
    show JL _ _ _ [_, _] _ _ _
    refine JL_yield1 1 rfl rfl rfl (fun hin => hy _ _ (hIC j h33n) _ _ _ _ hs (Hle.hu _ _) (RT.mono (Hle.hu _ _) hB34)) rfl ?_
    rintro _ _ ⟨rfl, rfl⟩
    refine JL_pure (v := .bool (!((step ((cases)[j].2) ((binds ((cases)[j].1) : Int)) (s2)).1))) rfl (Pu.not rfl) ?_
    refine JL_nil ?_
    refine J_cond (b := !((step ((cases)[j].2) ((binds ((cases)[j].1) : Int)) (s2)).1)) rfl (fun h51 => ?_) (fun h51 => ?_)
    ·skip
     replace h51 := nt h51
     refine J_ret ?_
     refine ⟨.tuple ⟨[]⟩, [yc (step ((cases)[j].2) ((binds ((cases)[j].1) : Int)) (s2)).2], Ret.none rfl, (Sub.cons 0 rfl Sub.nil), ?_⟩
     rw [dropc h33n, yC, if_neg (by simp [h51])] at hinv
     show _ = _; rw [yP, hk1, if_pos rfl, ← hinv]
    ·skip
     replace h51 := nf h51
     refine J_skip ?_
     refine J_region ?_
     refine JL_pure (v := .int .i64 (((j + 1 : Nat) : Int))) rfl (Pu.inc rfl rfl (by omega)) ?_
     refine JL_pure (v := .int .i64 (((j + 1 : Nat) : Int))) rfl (Pu.move rfl) ?_
     refine JL_nil ?_
     refine ⟨_, ?_, (j + 1), ((step ((cases)[j].2) ((binds ((cases)[j].1) : Int)) (s2)).2), rfl, rfl, rfl, rfl, rfl, (Sub.cons 0 rfl Sub.nil), ?_, ?_, ?_, rfl⟩
     ·omega
     ·omega
     ·exact hI _ _ s2 hs h51
     ·rw [dropc h33n, yC, if_pos h51] at hinv; exact hinv
  ·skip
   replace h33 := df h33
   have h33n : (cases).length ≤ j := by omega
   refine J_exit _ rfl ?_
   refine ⟨.tuple ⟨[]⟩, [yc s2], Ret.none rfl, (Sub.cons 0 rfl Sub.nil), ?_⟩
   show _ = _; rw [yP, hk1, if_pos rfl, ← hinv, dropn h33n]; rfl
end Go.Proofs.YtbfjkdhfelmioaaGreat.Hs
/-! Walks, printed by a program of this session's own (gen.py). -/
namespace Go.Proofs.YtbfjkdhfelmioaaGreat.Hs
open Go Go.Proofs
set_option maxRecDepth 100000
set_option linter.unusedVariables false
set_option linter.unusedSimpArgs false
attribute [local irreducible] JL J CT wlo
theorem all_ct : ∀ (t : Tm) (d m b : Int) (cs : List Value) (H : Heap) (bD : Nat), RT H cs t → H bD = some (.cells ⟨[.int .i64 d]⟩ 3 (0, 0)) → 0 ≤ b → b + 2 * sizeT t ≤ 1000000 → CT Tryz.prog 69 ⟨[.agg ⟨[.int .i64 (m), .func (.func 68) ⟨[]⟩ ⟨[.pointer (some ⟨bD, 0, none⟩)]⟩]⟩, .agg ⟨cs⟩, .int .i64 b]⟩ [] H (fun v N => v = .int .i64 (tErr d m b t) ∧ N = []) := by
 intro t
 induction t using Tm.ind with
 | h kind num ref kids cases ih ih' =>
 intro d m b cs H bD ht hD hb0 hb
 obtain ⟨ks, cv, rfl, hk, hn, hks, hcv⟩ := RT_mk.1 ht
 rw [sizeT] at hb
 have hn1 : -9223372036854775808 ≤ num := hn.1
 have hn2 : num ≤ 9223372036854775807 := hn.2
 have ihx : ∀ x mo, (fun x mo => ((∃ (j : Nat) (hj : j < kids.length), x = kids[j]) ∨ ∃ (j : Nat) (hj : j < cases.length), x = cases[j].2) ∧ 0 ≤ mo ∧ mo + 2 * (sizeT x : Int) ≤ 2 * ((1 + sizeTs kids + sizeCs cases : Nat) : Int)) x mo → ∀ (d m b : Int) (cs : List Value) (H : Heap) (bD : Nat), RT H cs x → H bD = some (.cells ⟨[.int .i64 d]⟩ 3 (0, 0)) → 0 ≤ b → b + 2 * sizeT x ≤ 1000000 → CT Tryz.prog 69 ⟨[.agg ⟨[.int .i64 (m), .func (.func 68) ⟨[]⟩ ⟨[.pointer (some ⟨bD, 0, none⟩)]⟩]⟩, .agg ⟨cs⟩, .int .i64 b]⟩ [] H (fun v N => v = .int .i64 (tErr d m b x) ∧ N = []) := by
  rintro x mo ⟨⟨j, hj, rfl⟩ | ⟨j, hj, rfl⟩, _, _⟩
  ·exact ih _ (List.getElem_mem hj)
  ·exact ih' _ (List.getElem_mem hj)
 refine CT_enter Tryz.func69 rfl rfl ?_
 refine J_seq ?_
 refine J_region ?_
 refine JL_run rfl (Runs_box (l := [.int .i64 (m), .func (.func 68) ⟨[]⟩ ⟨[.pointer (some ⟨bD, 0, none⟩)]⟩]) rfl rfl fun b1 => ?_)
 refine JL_run rfl (Runs_box (l := pkT (kind) (num) (ref) (ks) (cv)) rfl rfl fun b2 => ?_)
 refine JL_run rfl (Runs_box (l := [.int .i64 (b)]) rfl rfl fun b3 => ?_)
 refine JL_run rfl (Runs_alloc (l := [.int .i64 (0)]) Tryz.zeroValue31 rfl fun b4 => ?_)
 refine JL_nil ?_
 refine J_seq ?_
 refine J_seq ?_
 refine J_region ?_
 refine JL_run rfl (Pu_load ty105 rfl (At.bx 3 rfl) rfl ?_)
 refine JL_run rfl (Pu_load ty27 rfl (At.bx 2 rfl) (pkT_a ..) ?_)
 refine JL_run rfl (Pu_load1 ty3 rfl (At.bx 1 rfl) rfl ?_)
 refine JL_call rfl Tryz.call93 rfl (fun hin => chkTerm_ct _ _ _ _ _ _ _ _ _ _ _ bD (RTs.mono (Hle.hu _ _) hks) (RCs.mono (Hle.hu _ _) hcv) (Hle.hu _ _ _ _ hD) hb0 (by omega) hn1 hn2) rfl ?_
 rintro _ _ ⟨rfl, rfl⟩
 refine JL_pure (v := .int .i64 (tHead d m b kind num ref (kids).length (cases).length)) rfl (Pu.assign rfl) ?_
 refine JL_nil ?_
 refine J_seq ?_
 refine J_region ?_
 refine JL_pure (v := .int .i64 (tHead d m b kind num ref (kids).length (cases).length)) rfl (Pu.move rfl) ?_
 refine JL_pure (v := .bool (!decide (tHead d m b kind num ref (kids).length (cases).length = 0))) rfl (Pu.neq rfl rfl) ?_
 refine JL_nil ?_
 refine J_cond (b := !decide (tHead d m b kind num ref (kids).length (cases).length = 0)) rfl (fun h5 => ?_) (fun h5 => ?_)
 ·skip
  replace h5 := nt h5
  replace h5 := df h5
  refine J_seq ?_
  refine J_region ?_
  refine JL_pure (v := .int .i64 (tHead d m b kind num ref (kids).length (cases).length)) rfl (Pu.move rfl) ?_
  refine JL_run rfl (Runs_storeB 0 (vs := [.int .i64 (tHead d m b kind num ref (kids).length (cases).length)]) (l := [.int .i64 (tHead d m b kind num ref (kids).length (cases).length)]) ty31 rfl rfl rfl rfl rfl (okc_cons rfl okc_nil) rfl ?_)
  refine JL_nil ?_
  refine J_ret ?_
  refine ⟨.int .i64 (tHead d m b kind num ref (kids).length (cases).length), [], Ret.one rfl (RV.cell1 ty31 rfl (At.bx 0 rfl) rfl), Sub.nil, ?_⟩
  exact ⟨by rw [tErr, if_neg h5], rfl⟩
 ·skip
  replace h5 := nf h5
  replace h5 := dt h5
  refine J_skip ?_
  refine J_seq ?_
  refine J_seq ?_
  refine J_region ?_
  refine JL_pure (v := .pointer (some ⟨b2, 35, none⟩)) rfl (fa27_4 rfl rfl) ?_
  refine JL_run rfl (Pu_load1 ty25 rfl (At.bx 2 rfl) (pkT_35 ..) ?_)
  obtain ⟨a6, cap6, hv6⟩ := hcv.sl
  have hle6 := hcv.le
  refine JL_pure (v := .int .i64 (((cases).length : Int))) rfl (Pu.lenSl Tryz.runUnderlying25 hv6) ?_
  refine JL_pure (v := .int .i64 (0)) rfl (Pu.move rfl) ?_
  refine JL_nil ?_
  refine J_block ?_
  have hh0 : tHead d m b kind num ref kids.length cases.length = 0 := h5
  refine J_loop (fun k ρ M => ∃ (j : Nat), ρ 3 = .pointer (some ⟨b1, 0, none⟩) ∧ ρ 4 = .pointer (some ⟨b2, 0, none⟩) ∧ ρ 5 = .pointer (some ⟨b3, 0, none⟩) ∧ ρ 6 = .pointer (some ⟨b4, 0, none⟩) ∧ ρ 22 = cv ∧ ρ 23 = .int .i64 (((cases).length : Int)) ∧ ρ 24 = .int .i64 ((j : Int)) ∧ Sub [[(b4, .cells ⟨[.int .i64 (0)]⟩ 31 (0, 0))], [(b3, .cells ⟨[.int .i64 (b)]⟩ 3 (0, 0))], [(b2, .cells ⟨pkT (kind) (num) (ref) (ks) (cv)⟩ 27 (0, 0))], [(b1, .cells ⟨[.int .i64 (m), .func (.func 68) ⟨[]⟩ ⟨[.pointer (some ⟨bD, 0, none⟩)]⟩]⟩ 105 (0, 0))]] M ∧ j ≤ (cases).length ∧ pErrsC (cases.drop j) = pErrsC cases ∧ k = (cases).length - j) _ ⟨0, rfl, rfl, rfl, rfl, rfl, rfl, rfl, (Sub.cons 0 rfl (Sub.cons 0 rfl (Sub.cons 0 rfl (Sub.cons 0 rfl Sub.nil)))), Nat.zero_le _, rfl, rfl⟩ ?_
  rintro _ ρ7 _ ⟨j, e8, e9, e10, e11, e12, e13, e14, hm15, hj, hinv, rfl⟩
  obtain ⟨ρ16, rfl⟩ := reopen_ex (uc e8 (uc e9 (uc e10 (uc e11 (uc e12 (uc e13 (uc e14 un)))))))
  clear e8 e9 e10 e11 e12 e13 e14
  refine J_sub hm15 ?_
  have hlen := hcv.le
  refine J_seq ?_
  refine J_region ?_
  refine JL_pure (v := .bool (decide ((j : Int) < ((cases).length : Int)))) rfl (Pu.lss rfl rfl) ?_
  refine JL_nil ?_
  refine J_seq ?_
  refine J_cond (b := decide ((j : Int) < ((cases).length : Int))) rfl (fun h17 => ?_) (fun h17 => ?_)
  ·skip
   replace h17 := dt h17
   have h17n : j < (cases).length := by omega
   refine J_skip ?_
   refine J_seq ?_
   refine J_block ?_
   refine J_seq ?_
   refine J_region ?_
   obtain ⟨b18, o18, cap18, row18, T18, fr18, cs18, hv18, hb18, hs18, hE18⟩ := hcv.get j (by first | assumption | omega | decide | simp)
   obtain ⟨ca18, cb18, rfl, hA18, hB18⟩ := hE18
   refine JL_pure (v := .pointer (some ⟨b18, o18 + j * 71, none⟩)) rfl (Pu.idx j Tryz.runUnderlying25 ty46 hv18 rfl rfl (by first | assumption | omega | decide | simp)) ?_
   refine JL_run rfl (Pu_load ty46 rfl (At.im hb18) hs18 ?_)
   refine JL_run rfl (Runs_alloc (l := (pkP (0) (0) (zS) (.slice none 0 0)) ++ (pkT (0) (0) (zS) (.slice none 0 0) (.slice none 0 0))) Tryz.zeroValue46 rfl fun b19 => ?_)
   refine JL_run rfl (Runs_storeB 0 (vs := (ca18) ++ (cb18)) (l := (ca18) ++ (cb18)) ty46 rfl rfl rfl rfl (len_app (RP_len hA18) (RT_len hB18)) (okc_app (RP_ok hA18) (RT_ok hB18)) (spl_a (n := 71) rfl (len_app (RP_len hA18) (RT_len hB18))) ?_)
   refine JL_nil ?_
   refine J_seq ?_
   refine J_region ?_
   refine JL_pure (v := .pointer (some ⟨b19, 0, none⟩)) rfl (fa46_0 rfl rfl) ?_
   refine JL_run rfl (Pu_load ty42 rfl (At.bx 0 rfl) (sub_l (RP_len hA18)) ?_)
   refine JL_call rfl Tryz.call94 rfl (fun hin => patternsError_ct _ _ _ (RP.mono (Hle.hu _ _) hA18)) rfl ?_
   rintro _ _ ⟨rfl, rfl⟩
   refine JL_pure (v := .int .i64 (pErrs ((cases)[j].1))) rfl (Pu.assign rfl) ?_
   refine JL_nil ?_
   refine J_seq ?_
   refine J_region ?_
   refine JL_pure (v := .int .i64 (pErrs ((cases)[j].1))) rfl (Pu.move rfl) ?_
   refine JL_pure (v := .bool (!decide (pErrs ((cases)[j].1) = 0))) rfl (Pu.neq rfl rfl) ?_
   refine JL_nil ?_
   refine J_cond (b := !decide (pErrs ((cases)[j].1) = 0)) rfl (fun h20 => ?_) (fun h20 => ?_)
   ·skip
    replace h20 := nt h20
    replace h20 := df h20
    refine J_seq ?_
    refine J_region ?_
    refine JL_pure (v := .int .i64 (pErrs ((cases)[j].1))) rfl (Pu.move rfl) ?_
    refine JL_run rfl (Runs_storeB 1 (vs := [.int .i64 (pErrs ((cases)[j].1))]) (l := [.int .i64 (pErrs ((cases)[j].1))]) ty31 rfl rfl rfl rfl rfl (okc_cons rfl okc_nil) rfl ?_)
    refine JL_nil ?_
    refine J_ret ?_
    refine ⟨.int .i64 (pErrs ((cases)[j].1)), [], Ret.one rfl (RV.cell1 ty31 rfl (At.bx 1 rfl) rfl), Sub.nil, ?_⟩
    exact ⟨by rw [tErr, if_pos hh0, ← hinv, dropc h17n, pErrsC, if_neg h20, if_neg h20], rfl⟩
   ·skip
    replace h20 := nf h20
    replace h20 := dt h20
    refine J_skip ?_
    refine J_region ?_
    refine JL_pure (v := .int .i64 (((j + 1 : Nat) : Int))) rfl (Pu.inc rfl rfl (by omega)) ?_
    refine JL_pure (v := .int .i64 (((j + 1 : Nat) : Int))) rfl (Pu.move rfl) ?_
    refine JL_nil ?_
    refine ⟨_, ?_, (j + 1), rfl, rfl, rfl, rfl, rfl, rfl, rfl, (Sub.cons 1 rfl (Sub.cons 1 rfl (Sub.cons 1 rfl (Sub.cons 1 rfl Sub.nil)))), ?_, ?_, rfl⟩
    ·omega
    ·omega
    ·rw [dropc h17n, pErrsC, if_pos h20] at hinv; exact hinv
  ·skip
   replace h17 := df h17
   have h17n : (cases).length ≤ j := by omega
   refine J_exit _ rfl ?_
   refine J_seq ?_
   refine J_seq ?_
   refine J_region ?_
   refine JL_run rfl (Pu_load ty27 rfl (At.bx 2 rfl) (pkT_a ..) ?_)
   refine JL_call rfl Tryz.call95 rfl (fun hin => parts_ct _ _ rfl) rfl ?_
   rintro _ _ ⟨bT21, rfl, rfl⟩
   refine JL_nil ?_
   refine J_block ?_
   have h1 : pErrsC cases = 0 := by rw [← hinv, dropn h17n]; rfl
   refine J_range (L := [[(bT21, .cells ⟨pkT (kind) (num) (ref) (ks) (cv)⟩ 27 (0, 0))], [(b3, .cells ⟨[.int .i64 (b)]⟩ 3 (0, 0))], [(b2, .cells ⟨pkT (kind) (num) (ref) (ks) (cv)⟩ 27 (0, 0))], [(b1, .cells ⟨[.int .i64 (m), .func (.func 68) ⟨[]⟩ ⟨[.pointer (some ⟨bD, 0, none⟩)]⟩]⟩ 105 (0, 0))]]) (fun e : Int => [[(b4, .cells ⟨[.int .i64 (e)]⟩ 31 (0, 0))]]) (fun e => !decide (e = 0)) 0 (fun e => e = yP (fun x mo _ => (decide (tErr d m (b + mo) x = 0), tErr d m (b + mo) x)) kind kids cases 0) rfl rfl Tryz.call108 (flatten_pick (i := 1) rfl) ?_ ?_ ?_
   ·intro l yc hY hin
    refine CT.mono (parts1_ct kind num ref ks cv kids cases _ bT21 (RTs.mono (Hle.hu _ _) hks) (RCs.mono (Hle.hu _ _) hcv) (hin 0 _ rfl _ _ List.mem_cons_self) (fun c hc => by have := sizeCs_mem c hc; have := binds_le c.1; omega) (by have := len_sizeTs kids; omega) (by have := len_sizeCs cases; omega) l yc (fun e => e = 0) (fun x mo _ => (decide (tErr d m (b + mo) x = 0), tErr d m (b + mo) x)) 0 rfl (fun x mo => ((∃ (j : Nat) (hj : j < kids.length), x = kids[j]) ∨ ∃ (j : Nat) (hj : j < cases.length), x = cases[j].2) ∧ 0 ≤ mo ∧ mo + 2 * (sizeT x : Int) ≤ 2 * ((1 + sizeTs kids + sizeCs cases : Nat) : Int)) ?_ ?_ (fun x mo s _ h => of_decide_eq_true h) ?_) (fun v N hN => ⟨_, hN, rfl⟩)
    ·intro j hj; have hs1 := sizeTs_mem _ (List.getElem_mem hj); have hm1 := more_le kind j; exact ⟨.inl ⟨j, hj, rfl⟩, by omega, by omega⟩
    ·intro j hj; have hs1 := sizeCs_mem _ (List.getElem_mem hj); have hm1 := binds_le (cases[j]).1; have hp1 := sizeT_pos (cases[j]).2; exact ⟨.inr ⟨j, hj, rfl⟩, by omega, by omega⟩
    intro x mo hit e i a h he hh ra
    subst he
    have hb0x : 0 ≤ b + mo := by have := hit.2.1; omega
    have hb1x : b + mo + 2 * (sizeT x : Int) ≤ 1000000 := by have := hit.2.2; omega
    have hp1 := sizeT_pos x
    refine YT.mono (hY 0 [_, _] h (fun e' => e' = tErr d m (b + mo) x) rfl rfl (RoundOk.mk ?_)) ?_
    ·show J _ _ _ _ [[(b4, .cells ⟨[.int .i64 (0)]⟩ 31 (0, 0))]] _
     refine J_region ?_
     refine JL_run rfl (Runs_alloc (l := (pkT (0) (0) (zS) (.slice none 0 0) (.slice none 0 0)) ++ ([.int .i64 (0)] : List Value)) Tryz.zeroValue124 rfl fun b22 => ?_)
     refine JL_run rfl (Runs_storeB 0 (vs := (a) ++ ([.int .i64 (mo)] : List Value)) (l := (a) ++ ([.int .i64 (mo)] : List Value)) ty124 rfl rfl rfl rfl (len_app (RT_len ra) rfl) (okc_app (RT_ok ra) (okc_cons rfl okc_nil)) (spl_a (n := 37) rfl (len_app (RT_len ra) rfl)) ?_)
     refine JL_nil ?_
     refine J_block ?_
     refine J_seq ?_
     refine J_region ?_
     refine JL_run rfl (Pu_load ty105 rfl (At.im (hh _ _ (hin 3 _ rfl _ _ List.mem_cons_self))) rfl ?_)
     refine JL_pure (v := .pointer (some ⟨b22, 0, none⟩)) rfl (fa124_0 rfl rfl) ?_
     refine JL_run rfl (Pu_load ty27 rfl (At.bx 0 rfl) (sub_l (RT_len ra)) ?_)
     refine JL_run rfl (Pu_load1 ty3 rfl (At.im (hh _ _ (hin 1 _ rfl _ _ List.mem_cons_self))) rfl ?_)
     refine JL_pure (v := .pointer (some ⟨b22, 36, none⟩)) rfl (fa124_1 rfl rfl) ?_
     refine JL_run rfl (Pu_load1 ty3 rfl (At.bx 0 rfl) (get_r (n := 36) (i := 0) (RT_len ra) rfl) ?_)
     refine JL_pure (v := .int .i64 (b + mo)) rfl (Pu.add64 rfl rfl (by first | omega | (constructor <;> omega))) ?_
     refine JL_call rfl Tryz.call69 rfl (fun hin => ihx x mo hit d m _ _ _ bD (RT.mono (Hle.hu _ _) ra) (Hle.hu _ _ _ _ (hh _ _ (Hle.hu _ _ _ _ hD))) hb0x hb1x) rfl ?_
     rintro _ _ ⟨rfl, rfl⟩
     refine JL_pure (v := .int .i64 (tErr d m (b + mo) (x))) rfl (Pu.assign rfl) ?_
     refine JL_nil ?_
     refine J_seq ?_
     refine J_region ?_
     refine JL_pure (v := .int .i64 (tErr d m (b + mo) (x))) rfl (Pu.move rfl) ?_
     refine JL_pure (v := .bool (!decide (tErr d m (b + mo) (x) = 0))) rfl (Pu.neq rfl rfl) ?_
     refine JL_nil ?_
     refine J_cond (b := !decide (tErr d m (b + mo) (x) = 0)) rfl (fun h23 => ?_) (fun h23 => ?_)
     ·skip
      replace h23 := nt h23
      replace h23 := df h23
      refine J_seq ?_
      refine J_region ?_
      refine JL_pure (v := .int .i64 (tErr d m (b + mo) (x))) rfl (Pu.move rfl) ?_
      refine JL_run rfl (Runs_storeB 1 (vs := [.int .i64 (tErr d m (b + mo) (x))]) (l := [.int .i64 (tErr d m (b + mo) (x))]) ty31 rfl rfl rfl rfl rfl (okc_cons rfl okc_nil) rfl ?_)
      refine JL_nil ?_
      refine J_ret ?_
      exact ⟨tErr d m (b + mo) (x), by simp [h23], (Sub.cons 1 rfl Sub.nil), rfl⟩
     ·skip
      replace h23 := nf h23
      replace h23 := dt h23
      refine J_skip ?_
      exact ⟨0, rfl, (Sub.cons 1 rfl Sub.nil), h23.symm⟩
    ·rintro v N ⟨e', rfl, rfl, rfl⟩; exact ⟨by simp, rfl⟩
   ·rintro ef hef hp
    refine J_seq ?_
    refine J_region ?_
    refine JL_run rfl (Runs_storeB 0 (vs := [.int .i64 (0)]) (l := [.int .i64 (0)]) ty31 rfl rfl rfl rfl rfl (okc_cons rfl okc_nil) rfl ?_)
    refine JL_nil ?_
    refine J_ret ?_
    refine ⟨.int .i64 (0), [], Ret.one rfl (RV.cell1 ty31 rfl (At.bx 0 rfl) rfl), Sub.nil, ?_⟩
    rw [yP_err] at hef
    have hp0 : ef = 0 := by simpa using hp
    exact ⟨by rw [tErr, if_pos hh0, if_pos h1, ← hef, hp0], rfl⟩
   ·rintro ef hef hp
    refine ⟨.int .i64 (ef), [], Ret.one rfl (RV.cell1 ty31 rfl (At.bx 0 rfl) rfl), Sub.nil, ?_⟩
    rw [yP_err] at hef
    have hp0 : ¬ ef = 0 := by simpa using hp
    exact ⟨by rw [tErr, if_pos hh0, if_pos h1, ← hef], rfl⟩
end Go.Proofs.YtbfjkdhfelmioaaGreat.Hs
/-! Walks, printed by a program of this session's own (gen.py). -/
namespace Go.Proofs.YtbfjkdhfelmioaaGreat.Hs
open Go Go.Proofs
set_option maxRecDepth 100000
set_option linter.unusedVariables false
set_option linter.unusedSimpArgs false
attribute [local irreducible] JL J CT wlo
theorem check_ct (t : Tm) (d m : Int) (cs : List Value) (H : Heap) (ht : RT H cs t) : CT Tryz.prog 25 ⟨[.agg ⟨cs⟩, .int .i64 (d), .int .i64 (m)]⟩ [] H (fun v N => v = .int .i64 (checkT d m t) ∧ N = []) := by
 refine CT_enter Tryz.func25 rfl rfl ?_
 refine J_seq ?_
 refine J_region ?_
 refine JL_run rfl (Runs_box (l := cs) rfl rfl fun b1 => ?_)
 refine JL_run rfl (Runs_box (l := [.int .i64 (d)]) rfl rfl fun b2 => ?_)
 refine JL_pure (v := .int .i64 (0)) rfl (Pu.assign rfl) ?_
 refine JL_nil ?_
 refine J_seq ?_
 refine J_seq ?_
 refine J_region ?_
 refine JL_pure (v := .agg ⟨[.int .i64 (0)]⟩) rfl (Pu.build (pv := []) (l := [.int .i64 (0)]) rfl bld101_) ?_
 refine JL_run rfl (Runs_box (l := [.int .i64 (0)]) rfl rfl fun b3 => ?_)
 refine JL_run rfl (Pu_load ty27 rfl (At.bx 2 rfl) (sub_a (RT_len ht)) ?_)
 refine JL_call1 0 rfl Tryz.call66 rfl rfl (fun hin => longT_ct _ _ _ _ _ _ (RT.mono (Hle.hu _ _) ht) (by omega) (by omega) (by omega) (by omega)) rfl ?_
 rintro _ _ ⟨rfl, rfl⟩
 refine JL_nil ?_
 refine J_cond (b := (cnT stL (1) (t) (0)).1) rfl (fun h5 => ?_) (fun h5 => ?_)
 ·skip
  refine J_seq ?_
  refine J_region ?_
  refine JL_pure (v := .int .i64 (11)) rfl (Pu.assign rfl) ?_
  refine JL_nil ?_
  refine J_ret ?_
  refine ⟨.int .i64 (11), [], Ret.one rfl (RV.tmp rfl), Sub.nil, ?_⟩
  exact ⟨by rw [checkT, if_pos (by simp [h5])], rfl⟩
 ·skip
  refine J_skip ?_
  refine J_seq ?_
  refine J_region ?_
  refine JL_pure (v := .int .i64 (m)) rfl (Pu.move rfl) ?_
  refine JL_pure (v := .func (.func 68) ⟨[]⟩ ⟨[.pointer (some ⟨b2, 0, none⟩)]⟩) rfl (Pu.makeFunc rfl rfl) ?_
  refine JL_pure (v := .agg ⟨[.int .i64 (m), .func (.func 68) ⟨[]⟩ ⟨[.pointer (some ⟨b2, 0, none⟩)]⟩]⟩) rfl (Pu.build (pv := [(0, .int .i64 (m)), (1, .func (.func 68) ⟨[]⟩ ⟨[.pointer (some ⟨b2, 0, none⟩)]⟩)]) (l := [.int .i64 (m), .func (.func 68) ⟨[]⟩ ⟨[.pointer (some ⟨b2, 0, none⟩)]⟩]) rfl (bld105_0_1 _ _ _ _)) ?_
  refine JL_run rfl (Runs_alloc (l := [.int .i64 (0), .nilFunc]) Tryz.zeroValue105 rfl fun b6 => ?_)
  refine JL_run rfl (Runs_storeB 0 (vs := [.int .i64 (m), .func (.func 68) ⟨[]⟩ ⟨[.pointer (some ⟨b2, 0, none⟩)]⟩]) (l := [.int .i64 (m), .func (.func 68) ⟨[]⟩ ⟨[.pointer (some ⟨b2, 0, none⟩)]⟩]) ty105 rfl rfl rfl rfl rfl (okc_cons rfl (okc_cons rfl okc_nil)) rfl ?_)
  refine JL_nil ?_
  refine J_seq ?_
  refine J_region ?_
  refine JL_run rfl (Pu_load ty105 rfl (At.bx 0 rfl) rfl ?_)
  refine JL_run rfl (Pu_load ty27 rfl (At.bx 3 rfl) (sub_a (RT_len ht)) ?_)
  refine JL_call rfl Tryz.call69 rfl (fun hin => all_ct _ _ _ _ _ _ _ (RT.mono (Hle.hu _ _) ht) (hin 2 _ rfl _ _ List.mem_cons_self) (by decide) (by have e1 := cnT_size t 1 0 h5; have e2 := cnT_le stL_le t 1 0 h5; omega)) rfl ?_
  rintro _ _ ⟨rfl, rfl⟩
  refine JL_pure (v := .int .i64 (tErr d m (0) (t))) rfl (Pu.assign rfl) ?_
  refine JL_nil ?_
  refine J_ret ?_
  refine ⟨.int .i64 (tErr d m (0) (t)), [], Ret.one rfl (RV.tmp rfl), Sub.nil, ?_⟩
  exact ⟨by rw [checkT, if_neg (by simp [h5])], rfl⟩
theorem right_ct (l : List Tm) (v : Value) (H : Heap) (hl : rdS RT 36 H v l) : CT Tryz.prog 48 ⟨[v]⟩ [] H (fun v N => v = .int .i64 (rightT l) ∧ N = []) := by
 refine CT_enter Tryz.func48 rfl rfl ?_
 refine J_seq ?_
 refine J_region ?_
 refine JL_pure (v := .int .i64 (0)) rfl (Pu.assign rfl) ?_
 refine JL_nil ?_
 refine J_seq ?_
 refine J_seq ?_
 refine J_region ?_
 refine JL_pure (v := v) rfl (Pu.move rfl) ?_
 obtain ⟨a1, cap1, hv1⟩ := hl.sl
 have hle1 := hl.le
 refine JL_pure (v := .int .i64 (((l).length : Int))) rfl (Pu.lenSl Tryz.runUnderlying24 hv1) ?_
 refine JL_pure (v := .int .i64 (0)) rfl (Pu.move rfl) ?_
 refine JL_nil ?_
 refine J_block ?_
 refine J_loop (fun k ρ M => ∃ (j : Nat), ρ 2 = .int .i64 (0) ∧ ρ 6 = v ∧ ρ 7 = .int .i64 (((l).length : Int)) ∧ ρ 8 = .int .i64 ((j : Int)) ∧ Sub [] M ∧ j ≤ (l).length ∧ rightT (l.drop j) = rightT l ∧ k = (l).length - j) _ ⟨0, rfl, rfl, rfl, rfl, Sub.nil, Nat.zero_le _, rfl, rfl⟩ ?_
 rintro _ ρ2 _ ⟨j, e3, e4, e5, e6, hm7, hj, hinv, rfl⟩
 obtain ⟨ρ8, rfl⟩ := reopen_ex (uc e3 (uc e4 (uc e5 (uc e6 un))))
 clear e3 e4 e5 e6
 refine J_sub hm7 ?_
 refine J_seq ?_
 refine J_region ?_
 refine JL_pure (v := .bool (decide ((j : Int) < ((l).length : Int)))) rfl (Pu.lss rfl rfl) ?_
 refine JL_nil ?_
 refine J_seq ?_
 refine J_cond (b := decide ((j : Int) < ((l).length : Int))) rfl (fun h9 => ?_) (fun h9 => ?_)
 ·skip
  replace h9 := dt h9
  have h9n : j < (l).length := by omega
  have hlenl := hl.le
  refine J_skip ?_
  refine J_seq ?_
  refine J_block ?_
  refine J_seq ?_
  refine J_region ?_
  obtain ⟨b10, o10, cap10, row10, T10, fr10, cs10, hv10, hb10, hs10, hE10⟩ := hl.get j (by first | assumption | omega | decide | simp)
  refine JL_pure (v := .pointer (some ⟨b10, o10 + j * 36, none⟩)) rfl (Pu.idx j Tryz.runUnderlying24 ty27 hv10 rfl rfl (by first | assumption | omega | decide | simp)) ?_
  refine JL_run rfl (Pu_load ty27 rfl (At.im hb10) hs10 ?_)
  refine JL_run rfl (Runs_alloc (l := pkT (0) (0) (zS) (.slice none 0 0) (.slice none 0 0)) Tryz.zeroValue27 rfl fun b11 => ?_)
  refine JL_run rfl (Runs_storeB 0 (vs := cs10) (l := cs10) ty27 rfl rfl rfl rfl (RT_len hE10) (RT_ok hE10) (spl_a (n := 36) rfl (RT_len hE10)) ?_)
  refine JL_nil ?_
  refine J_seq ?_
  refine J_region ?_
  refine JL_run rfl (Pu_load ty27 rfl (At.bx 0 rfl) (sub_a (RT_len hE10)) ?_)
  refine JL_call rfl Tryz.call25 rfl (fun hin => check_ct _ _ _ _ _ (RT.mono (Hle.hu _ _) hE10)) rfl ?_
  rintro _ _ ⟨rfl, rfl⟩
  refine JL_pure (v := .int .i64 (checkT (60) (8) ((l)[j]))) rfl (Pu.assign rfl) ?_
  refine JL_nil ?_
  refine J_seq ?_
  refine J_region ?_
  refine JL_pure (v := .int .i64 (checkT (60) (8) ((l)[j]))) rfl (Pu.move rfl) ?_
  refine JL_pure (v := .bool (!decide (checkT (60) (8) ((l)[j]) = 0))) rfl (Pu.neq rfl rfl) ?_
  refine JL_nil ?_
  refine J_cond (b := !decide (checkT (60) (8) ((l)[j]) = 0)) rfl (fun h12 => ?_) (fun h12 => ?_)
  ·skip
   replace h12 := nt h12
   replace h12 := df h12
   refine J_seq ?_
   refine J_region ?_
   refine JL_pure (v := .int .i64 (checkT (60) (8) ((l)[j]))) rfl (Pu.move rfl) ?_
   refine JL_pure (v := .int .i64 (checkT (60) (8) ((l)[j]))) rfl (Pu.assign rfl) ?_
   refine JL_nil ?_
   refine J_ret ?_
   refine ⟨.int .i64 (checkT (60) (8) ((l)[j])), [], Ret.one rfl (RV.tmp rfl), Sub.nil, ?_⟩
   exact ⟨by rw [← hinv, dropc h9n, rightT, if_neg h12], rfl⟩
  ·skip
   replace h12 := nf h12
   replace h12 := dt h12
   refine J_skip ?_
   refine J_region ?_
   refine JL_pure (v := .int .i64 (((j + 1 : Nat) : Int))) rfl (Pu.inc rfl rfl (by omega)) ?_
   refine JL_pure (v := .int .i64 (((j + 1 : Nat) : Int))) rfl (Pu.move rfl) ?_
   refine JL_nil ?_
   refine ⟨_, ?_, (j + 1), rfl, rfl, rfl, rfl, Sub.nil, ?_, ?_, rfl⟩
   ·omega
   ·omega
   ·rw [dropc h9n, rightT, if_pos h12] at hinv; exact hinv
 ·skip
  replace h9 := df h9
  have h9n : (l).length ≤ j := by omega
  refine J_exit _ rfl ?_
  refine J_seq ?_
  refine J_region ?_
  refine JL_pure (v := .int .i64 (0)) rfl (Pu.assign rfl) ?_
  refine JL_nil ?_
  refine J_ret ?_
  refine ⟨.int .i64 (0), [], Ret.one rfl (RV.tmp rfl), Sub.nil, ?_⟩
  exact ⟨by rw [← hinv, dropn h9n]; rfl, rfl⟩
end Go.Proofs.YtbfjkdhfelmioaaGreat.Hs
/-! Walks, printed by a program of this session's own (gen.py). -/
namespace Go.Proofs.YtbfjkdhfelmioaaGreat.Hs
open Go Go.Proofs
set_option maxRecDepth 100000
set_option linter.unusedVariables false
set_option linter.unusedSimpArgs false
attribute [local irreducible] JL J CT wlo
theorem shiftP_ct (t : Tm) (dy fr : Int) (cs : List Value) (H : Heap) (ht : RT H cs t) : CT Tryz.prog 11 ⟨[.agg ⟨cs⟩, .int .i64 (dy), .int .i64 (fr)]⟩ [] H (fun v N => ∃ cs k, v = .tuple ⟨[.agg ⟨cs⟩, .int .i64 (shiftP t dy fr).2]⟩ ∧ N = [k] ∧ OT (shiftP t dy fr).1 cs k) := by
 refine CT_enter Tryz.func11 rfl rfl ?_
 refine J_seq ?_
 refine J_region ?_
 refine JL_run rfl (Runs_box (l := cs) rfl rfl fun b1 => ?_)
 refine JL_run rfl (Runs_box (l := [.int .i64 (dy)]) rfl rfl fun b2 => ?_)
 refine JL_run rfl (Runs_box (l := [.int .i64 (fr)]) rfl rfl fun b3 => ?_)
 refine JL_run rfl (Runs_alloc (l := pkT (0) (0) (zS) (.slice none 0 0) (.slice none 0 0)) Tryz.zeroValue27 rfl fun b4 => ?_)
 refine JL_pure (v := .int .i64 (0)) rfl (Pu.assign rfl) ?_
 refine JL_nil ?_
 refine J_seq ?_
 refine J_seq ?_
 refine J_region ?_
 refine JL_run rfl (Pu_load ty27 rfl (At.bx 3 rfl) (sub_a (RT_len ht)) ?_)
 refine JL_run rfl (Runs_buildSlice (vs := [.agg ⟨cs⟩]) [cs] Tryz.runUnderlying24 el27 rfl rfl (by intro e he; simp only [List.mem_cons, List.not_mem_nil, or_false] at he; subst he; exact (RT_len ht)) rfl (by decide) fun b5 k5 ho5 hk5 => ?_)
 refine JL_call rfl Tryz.call48 rfl (fun hin => right_ct _ _ _ (Own.rd1 ho5 (hin 0 _ rfl) (RT.mono (Hle.hu _ _) ht))) rfl ?_
 rintro _ _ ⟨rfl, rfl⟩
 refine JL_pure (v := .int .i64 (rightT [t])) rfl (Pu.assign rfl) ?_
 refine JL_nil ?_
 refine J_seq ?_
 refine J_region ?_
 refine JL_pure (v := .int .i64 (rightT [t])) rfl (Pu.move rfl) ?_
 refine JL_pure (v := .bool (!decide (rightT [t] = 0))) rfl (Pu.neq rfl rfl) ?_
 refine JL_nil ?_
 refine J_cond (b := !decide (rightT [t] = 0)) rfl (fun h6 => ?_) (fun h6 => ?_)
 ·skip
  replace h6 := nt h6
  replace h6 := df h6
  refine J_seq ?_
  refine J_region ?_
  refine JL_pure (v := .agg ⟨pkT (0) (0) (zS) (.slice none 0 0) (.slice none 0 0)⟩) rfl (Pu.build (pv := []) (l := pkT (0) (0) (zS) (.slice none 0 0) (.slice none 0 0)) rfl (bld27_ )) ?_
  refine JL_pure (v := .int .i64 (rightT [t])) rfl (Pu.move rfl) ?_
  refine JL_run rfl (Runs_storeB 1 (vs := pkT (0) (0) (zS) (.slice none 0 0) (.slice none 0 0)) (l := pkT (0) (0) (zS) (.slice none 0 0) (.slice none 0 0)) ty27 rfl rfl rfl rfl rfl (pkT_ok rfl rfl) (pkT_s ..) ?_)
  refine JL_pure (v := .int .i64 (rightT [t])) rfl (Pu.assign rfl) ?_
  refine JL_nil ?_
  refine J_ret ?_
  refine ⟨.tuple ⟨[.agg ⟨pkT (0) (0) (zS) (.slice none 0 0) (.slice none 0 0)⟩, .int .i64 (rightT [t])]⟩, [[]], Ret.two rfl (RV.cell ty27 rfl (At.bx 1 rfl) (pkT_a ..)) (RV.tmp rfl), (Sub.emp Sub.nil), ?_⟩
  have hx : shiftP t dy fr = (zT, rightT [t]) := by simp only [shiftP]; (repeat' split) <;> first | rfl | (exfalso; simp_all; done) | (exfalso; simp_all; omega)
  exact ⟨_, _, by rw [hx], rfl, by rw [hx]; exact OT_zero⟩
 ·skip
  replace h6 := nf h6
  replace h6 := dt h6
  refine J_skip ?_
  refine J_seq ?_
  refine J_cut (fun ρ M => ρ 3 = .pointer (some ⟨b1, 0, none⟩) ∧ ρ 4 = .pointer (some ⟨b2, 0, none⟩) ∧ ρ 5 = .pointer (some ⟨b3, 0, none⟩) ∧ ρ 6 = .pointer (some ⟨b4, 0, none⟩) ∧ ρ 7 = .int .i64 (0) ∧ ρ 21 = .bool ((decide (dy < -60 ∨ 60 < dy)) || (decide (fr < 0 ∨ 60 < fr))) ∧ M = [k5, [(b4, .cells ⟨pkT (0) (0) (zS) (.slice none 0 0) (.slice none 0 0)⟩ 27 (0, 0))], [(b3, .cells ⟨[.int .i64 (fr)]⟩ 3 (0, 0))], [(b2, .cells ⟨[.int .i64 (dy)]⟩ 3 (0, 0))], [(b1, .cells ⟨cs⟩ 27 (0, 0))]]) ?_ ?_
  ·refine J_region ?_
   refine JL_run rfl (Pu_load1 ty3 rfl (At.bx 3 rfl) rfl ?_)
   refine JL_call rfl Tryz.call49 rfl (fun hin => off_ct _ _ _ _) rfl ?_
   rintro _ _ ⟨rfl, rfl⟩
   refine JL_pure (v := .bool (decide (dy < -60 ∨ 60 < dy))) rfl (Pu.move rfl) ?_
   cases h7 : (decide (dy < -60 ∨ 60 < dy)) with
   | true =>
    replace h7 := dt h7
    refine JL_skip rfl ?_
    refine JL_skip rfl ?_
    refine JL_pure (v := .bool (true)) rfl (Pu.pickT rfl rfl) ?_
    refine JL_nil ?_
    first | exact ⟨rfl, rfl, rfl, rfl, rfl, rfl, rfl⟩ | (exfalso; omega)
   | false =>
    replace h7 := df h7
    refine JL_run rfl (Pu_load1 ty3 rfl (At.bx 2 rfl) rfl ?_)
    refine JL_call rfl Tryz.call49 rfl (fun hin => off_ct _ _ _ _) rfl ?_
    rintro _ _ ⟨rfl, rfl⟩
    refine JL_pure (v := .bool (decide (fr < 0 ∨ 60 < fr))) rfl (Pu.pickF rfl rfl) ?_
    refine JL_nil ?_
    first | exact ⟨rfl, rfl, rfl, rfl, rfl, rfl, rfl⟩ | (exfalso; omega)
  ·rintro ρ8 _ ⟨e9, e10, e11, e12, e13, e14, rfl⟩
   obtain ⟨ρ15, rfl⟩ := reopen_ex (uc e9 (uc e10 (uc e11 (uc e12 (uc e13 (uc e14 un))))))
   clear e9 e10 e11 e12 e13 e14
   refine J_cond (b := (decide (dy < -60 ∨ 60 < dy)) || (decide (fr < 0 ∨ 60 < fr))) rfl (fun h16 => ?_) (fun h16 => ?_)
   ·skip
    refine J_seq ?_
    refine J_region ?_
    refine JL_pure (v := .agg ⟨pkT (0) (0) (zS) (.slice none 0 0) (.slice none 0 0)⟩) rfl (Pu.build (pv := []) (l := pkT (0) (0) (zS) (.slice none 0 0) (.slice none 0 0)) rfl (bld27_ )) ?_
    refine JL_run rfl (Runs_storeB 1 (vs := pkT (0) (0) (zS) (.slice none 0 0) (.slice none 0 0)) (l := pkT (0) (0) (zS) (.slice none 0 0) (.slice none 0 0)) ty27 rfl rfl rfl rfl rfl (pkT_ok rfl rfl) (pkT_s ..) ?_)
    refine JL_pure (v := .int .i64 (3)) rfl (Pu.assign rfl) ?_
    refine JL_nil ?_
    refine J_ret ?_
    refine ⟨.tuple ⟨[.agg ⟨pkT (0) (0) (zS) (.slice none 0 0) (.slice none 0 0)⟩, .int .i64 (3)]⟩, [[]], Ret.two rfl (RV.cell ty27 rfl (At.bx 1 rfl) (pkT_a ..)) (RV.tmp rfl), (Sub.emp Sub.nil), ?_⟩
    have hx : shiftP t dy fr = (zT, 3) := by simp only [shiftP]; (repeat' split) <;> first | rfl | (exfalso; simp_all; done) | (exfalso; simp_all; omega)
    exact ⟨_, _, by rw [hx], rfl, by rw [hx]; exact OT_zero⟩
   ·skip
    obtain ⟨h16a, h16b⟩ := orF h16
    replace h16a := df h16a
    replace h16b := df h16b
    refine J_skip ?_
    refine J_seq ?_
    refine J_seq ?_
    refine J_region ?_
    refine JL_run rfl (Pu_load ty27 rfl (At.bx 4 rfl) (sub_a (RT_len ht)) ?_)
    refine JL_call rfl Tryz.call51 rfl (fun hin => freeP_ct _ _ _ (RT.mono (Hle.hu _ _) ht) (by have := (checkT_ok (rightT1 ‹rightT [t] = 0›)).1; omega) (checkT_ok (rightT1 ‹rightT [t] = 0›)).2.1) rfl ?_
    rintro u17 _ ⟨_, k17, hu17, rfl, ho17⟩; subst hu17
    refine JL_pure (v := .func (.func 52) ⟨[]⟩ ⟨[.pointer (some ⟨b3, 0, none⟩), .pointer (some ⟨b2, 0, none⟩)]⟩) rfl (Pu.makeFunc rfl rfl) ?_
    refine JL_call rfl Tryz.call50 rfl (fun hin => every_ct 52 [] [.pointer (some ⟨b3, 0, none⟩), .pointer (some ⟨b2, 0, none⟩)] Tryz.call52 (mvOk dy fr) _ _ _ (own_ints ho17 (by have := freeP_len t; omega) (hin 0 _ rfl)) (fun x hx h hh => shiftO_ct x dy fr h b3 b2 (hh _ _ (hin 3 _ rfl _ _ List.mem_cons_self)) (hh _ _ (hin 4 _ rfl _ _ List.mem_cons_self)) (freeP_bound t x hx).1 (by have := (freeP_bound t x hx).2; omega) (by omega) (by omega))) rfl ?_
    rintro _ _ ⟨rfl, rfl⟩
    refine JL_pure (v := .bool (!((freeP (t)).all (mvOk dy fr)))) rfl (Pu.not rfl) ?_
    refine JL_nil ?_
    refine J_cond (b := !((freeP (t)).all (mvOk dy fr))) rfl (fun h18 => ?_) (fun h18 => ?_)
    ·skip
     replace h18 := nt h18
     refine J_seq ?_
     refine J_region ?_
     refine JL_pure (v := .agg ⟨pkT (0) (0) (zS) (.slice none 0 0) (.slice none 0 0)⟩) rfl (Pu.build (pv := []) (l := pkT (0) (0) (zS) (.slice none 0 0) (.slice none 0 0)) rfl (bld27_ )) ?_
     refine JL_run rfl (Runs_storeB 2 (vs := pkT (0) (0) (zS) (.slice none 0 0) (.slice none 0 0)) (l := pkT (0) (0) (zS) (.slice none 0 0) (.slice none 0 0)) ty27 rfl rfl rfl rfl rfl (pkT_ok rfl rfl) (pkT_s ..) ?_)
     refine JL_pure (v := .int .i64 (1)) rfl (Pu.assign rfl) ?_
     refine JL_nil ?_
     refine J_ret ?_
     refine ⟨.tuple ⟨[.agg ⟨pkT (0) (0) (zS) (.slice none 0 0) (.slice none 0 0)⟩, .int .i64 (1)]⟩, [[]], Ret.two rfl (RV.cell ty27 rfl (At.bx 2 rfl) (pkT_a ..)) (RV.tmp rfl), (Sub.emp Sub.nil), ?_⟩
     have hx : shiftP t dy fr = (zT, 1) := by simp only [shiftP]; (repeat' split) <;> first | rfl | (exfalso; simp_all; done) | (exfalso; simp_all; omega)
     exact ⟨_, _, by rw [hx], rfl, by rw [hx]; exact OT_zero⟩
    ·skip
     replace h18 := nf h18
     refine J_skip ?_
     refine J_seq ?_
     refine J_region ?_
     refine JL_run rfl (Pu_load ty27 rfl (At.bx 5 rfl) (sub_a (RT_len ht)) ?_)
     refine JL_run rfl (Pu_load1 ty3 rfl (At.bx 4 rfl) rfl ?_)
     refine JL_run rfl (Pu_load1 ty3 rfl (At.bx 3 rfl) rfl ?_)
     refine JL_call rfl Tryz.call53 rfl (fun hin => shifted_ct _ _ _ _ _ (RT.mono (Hle.hu _ _) ht) (by have := (checkT_ok (rightT1 ‹rightT [t] = 0›)).1; omega) (checkT_ok (rightT1 ‹rightT [t] = 0›)).2.1 (by omega) (by omega)) rfl ?_
     rintro _ _ ⟨cs19, k19, rfl, rfl, hO19⟩
     refine JL_run rfl (Runs_storeB 3 (vs := cs19) (l := cs19) ty27 rfl rfl rfl rfl hO19.len hO19.ok (spl_a (n := 36) rfl hO19.len) ?_)
     refine JL_pure (v := .int .i64 (0)) rfl (Pu.assign rfl) ?_
     refine JL_nil ?_
     refine J_ret ?_
     refine ⟨.tuple ⟨[.agg ⟨cs19⟩, .int .i64 (0)]⟩, [k19], Ret.two rfl (RV.cell ty27 rfl (At.bx 3 rfl) (sub_a hO19.len)) (RV.tmp rfl), (Sub.cons 0 rfl Sub.nil), ?_⟩
     have hx : shiftP t dy fr = (shT (dy) (fr) (t), 0) := by simp only [shiftP]; (repeat' split) <;> first | rfl | (exfalso; simp_all; done) | (exfalso; simp_all; omega)
     exact ⟨_, _, by rw [hx], rfl, by rw [hx]; exact hO19⟩
theorem freeE_ct (t : Tm) (cs : List Value) (H : Heap) (ht : RT H cs t) : CT Tryz.prog 23 ⟨[.agg ⟨cs⟩]⟩ [] H (fun v N => ∃ u e k, v = .tuple ⟨[u, .int .i64 e]⟩ ∧ N = [k] ∧ Own 3 1 u (ints (freeE t).1) k ∧ e = (freeE t).2) := by
 refine CT_enter Tryz.func23 rfl rfl ?_
 refine J_seq ?_
 refine J_region ?_
 refine JL_run rfl (Runs_box (l := cs) rfl rfl fun b1 => ?_)
 refine JL_pure (v := .slice none 0 0) rfl (Pu.assign rfl) ?_
 refine JL_pure (v := .int .i64 (0)) rfl (Pu.assign rfl) ?_
 refine JL_nil ?_
 refine J_seq ?_
 refine J_seq ?_
 refine J_region ?_
 refine JL_run rfl (Pu_load ty27 rfl (At.bx 0 rfl) (sub_a (RT_len ht)) ?_)
 refine JL_run rfl (Runs_buildSlice (vs := [.agg ⟨cs⟩]) [cs] Tryz.runUnderlying24 el27 rfl rfl (by intro e he; simp only [List.mem_cons, List.not_mem_nil, or_false] at he; subst he; exact (RT_len ht)) rfl (by decide) fun b2 k2 ho2 hk2 => ?_)
 refine JL_call rfl Tryz.call48 rfl (fun hin => right_ct _ _ _ (Own.rd1 ho2 (hin 0 _ rfl) (RT.mono (Hle.hu _ _) ht))) rfl ?_
 rintro _ _ ⟨rfl, rfl⟩
 refine JL_pure (v := .int .i64 (rightT [t])) rfl (Pu.assign rfl) ?_
 refine JL_nil ?_
 refine J_seq ?_
 refine J_region ?_
 refine JL_pure (v := .int .i64 (rightT [t])) rfl (Pu.move rfl) ?_
 refine JL_pure (v := .bool (!decide (rightT [t] = 0))) rfl (Pu.neq rfl rfl) ?_
 refine JL_nil ?_
 refine J_cond (b := !decide (rightT [t] = 0)) rfl (fun h3 => ?_) (fun h3 => ?_)
 ·skip
  replace h3 := nt h3
  replace h3 := df h3
  refine J_seq ?_
  refine J_region ?_
  refine JL_pure (v := .int .i64 (rightT [t])) rfl (Pu.move rfl) ?_
  refine JL_pure (v := .slice none 0 0) rfl (Pu.assign rfl) ?_
  refine JL_pure (v := .int .i64 (rightT [t])) rfl (Pu.assign rfl) ?_
  refine JL_nil ?_
  refine J_ret ?_
  refine ⟨.tuple ⟨[.slice none 0 0, .int .i64 (rightT [t])]⟩, [[]], Ret.two rfl (RV.tmp rfl) (RV.tmp rfl), (Sub.emp Sub.nil), ?_⟩
  have hx : freeE t = ([], rightT [t]) := by rw [freeE, if_neg (by assumption)]
  exact ⟨_, _, _, rfl, rfl, by rw [hx]; exact Own.nil, by rw [hx]⟩
 ·skip
  replace h3 := nf h3
  replace h3 := dt h3
  refine J_skip ?_
  refine J_seq ?_
  refine J_region ?_
  refine JL_run rfl (Pu_load ty27 rfl (At.bx 1 rfl) (sub_a (RT_len ht)) ?_)
  refine JL_call rfl Tryz.call51 rfl (fun hin => freeP_ct _ _ _ (RT.mono (Hle.hu _ _) ht) (by have := (checkT_ok (rightT1 ‹rightT [t] = 0›)).1; omega) (checkT_ok (rightT1 ‹rightT [t] = 0›)).2.1) rfl ?_
  rintro u4 _ ⟨_, k4, hu4, rfl, ho4⟩; subst hu4
  refine JL_pure (v := u4) rfl (Pu.assign rfl) ?_
  refine JL_pure (v := .int .i64 (0)) rfl (Pu.assign rfl) ?_
  refine JL_nil ?_
  refine J_ret ?_
  refine ⟨.tuple ⟨[u4, .int .i64 (0)]⟩, [k4], Ret.two rfl (RV.tmp rfl) (RV.tmp rfl), (Sub.cons 0 rfl Sub.nil), ?_⟩
  have hx : freeE t = (freeP t, 0) := by rw [freeE, if_pos (by assumption)]
  exact ⟨_, _, _, rfl, rfl, by rw [hx]; exact ho4, by rw [hx]⟩
theorem substP_ct (t : Tm) (m : Int) (u : Tm) (cs us : List Value) (H : Heap) (ht : RT H cs t) (hu1 : RT H us u) : CT Tryz.prog 12 ⟨[.agg ⟨cs⟩, .int .i64 (m), .agg ⟨us⟩]⟩ [] H (fun v N => ∃ cs k, v = .tuple ⟨[.agg ⟨cs⟩, .int .i64 (substP t m u).2]⟩ ∧ N = [k] ∧ OT (substP t m u).1 cs k) := by
 refine CT_enter Tryz.func12 rfl rfl ?_
 refine J_seq ?_
 refine J_region ?_
 refine JL_run rfl (Runs_box (l := cs) rfl rfl fun b1 => ?_)
 refine JL_run rfl (Runs_box (l := [.int .i64 (m)]) rfl rfl fun b2 => ?_)
 refine JL_run rfl (Runs_box (l := us) rfl rfl fun b3 => ?_)
 refine JL_run rfl (Runs_alloc (l := pkT (0) (0) (zS) (.slice none 0 0) (.slice none 0 0)) Tryz.zeroValue27 rfl fun b4 => ?_)
 refine JL_pure (v := .int .i64 (0)) rfl (Pu.assign rfl) ?_
 refine JL_nil ?_
 refine J_seq ?_
 refine J_seq ?_
 refine J_region ?_
 refine JL_run rfl (Pu_load ty27 rfl (At.bx 3 rfl) (sub_a (RT_len ht)) ?_)
 refine JL_run rfl (Pu_load ty27 rfl (At.bx 1 rfl) (sub_a (RT_len hu1)) ?_)
 refine JL_run rfl (Runs_buildSlice (vs := [.agg ⟨cs⟩, .agg ⟨us⟩]) [cs, us] Tryz.runUnderlying24 el27 rfl rfl (by intro e he; simp only [List.mem_cons, List.not_mem_nil, or_false] at he; rcases he with rfl | rfl <;> first | exact (RT_len ht) | exact (RT_len hu1)) rfl (by decide) fun b5 k5 ho5 hk5 => ?_)
 refine JL_call rfl Tryz.call48 rfl (fun hin => right_ct _ _ _ (Own.rd2 ho5 (hin 0 _ rfl) (RT.mono (Hle.hu _ _) ht) (RT.mono (Hle.hu _ _) hu1))) rfl ?_
 rintro _ _ ⟨rfl, rfl⟩
 refine JL_pure (v := .int .i64 (rightT [t, u])) rfl (Pu.assign rfl) ?_
 refine JL_nil ?_
 refine J_seq ?_
 refine J_region ?_
 refine JL_pure (v := .int .i64 (rightT [t, u])) rfl (Pu.move rfl) ?_
 refine JL_pure (v := .bool (!decide (rightT [t, u] = 0))) rfl (Pu.neq rfl rfl) ?_
 refine JL_nil ?_
 refine J_cond (b := !decide (rightT [t, u] = 0)) rfl (fun h6 => ?_) (fun h6 => ?_)
 ·skip
  replace h6 := nt h6
  replace h6 := df h6
  refine J_seq ?_
  refine J_region ?_
  refine JL_pure (v := .agg ⟨pkT (0) (0) (zS) (.slice none 0 0) (.slice none 0 0)⟩) rfl (Pu.build (pv := []) (l := pkT (0) (0) (zS) (.slice none 0 0) (.slice none 0 0)) rfl (bld27_ )) ?_
  refine JL_pure (v := .int .i64 (rightT [t, u])) rfl (Pu.move rfl) ?_
  refine JL_run rfl (Runs_storeB 1 (vs := pkT (0) (0) (zS) (.slice none 0 0) (.slice none 0 0)) (l := pkT (0) (0) (zS) (.slice none 0 0) (.slice none 0 0)) ty27 rfl rfl rfl rfl rfl (pkT_ok rfl rfl) (pkT_s ..) ?_)
  refine JL_pure (v := .int .i64 (rightT [t, u])) rfl (Pu.assign rfl) ?_
  refine JL_nil ?_
  refine J_ret ?_
  refine ⟨.tuple ⟨[.agg ⟨pkT (0) (0) (zS) (.slice none 0 0) (.slice none 0 0)⟩, .int .i64 (rightT [t, u])]⟩, [[]], Ret.two rfl (RV.cell ty27 rfl (At.bx 1 rfl) (pkT_a ..)) (RV.tmp rfl), (Sub.emp Sub.nil), ?_⟩
  have hx : substP t m u = (zT, rightT [t, u]) := by simp only [substP]; (repeat' split) <;> first | rfl | (exfalso; simp_all; done) | (exfalso; simp_all; omega)
  exact ⟨_, _, by rw [hx], rfl, by rw [hx]; exact OT_zero⟩
 ·skip
  replace h6 := nf h6
  replace h6 := dt h6
  refine J_skip ?_
  refine J_seq ?_
  refine J_seq ?_
  refine J_region ?_
  refine JL_run rfl (Pu_load1 ty3 rfl (At.bx 3 rfl) rfl ?_)
  refine JL_call rfl Tryz.call49 rfl (fun hin => off_ct _ _ _ _) rfl ?_
  rintro _ _ ⟨rfl, rfl⟩
  refine JL_nil ?_
  refine J_cond (b := decide (m < 0 ∨ 59 < m)) rfl (fun h7 => ?_) (fun h7 => ?_)
  ·skip
   replace h7 := dt h7
   refine J_seq ?_
   refine J_region ?_
   refine JL_pure (v := .agg ⟨pkT (0) (0) (zS) (.slice none 0 0) (.slice none 0 0)⟩) rfl (Pu.build (pv := []) (l := pkT (0) (0) (zS) (.slice none 0 0) (.slice none 0 0)) rfl (bld27_ )) ?_
   refine JL_run rfl (Runs_storeB 1 (vs := pkT (0) (0) (zS) (.slice none 0 0) (.slice none 0 0)) (l := pkT (0) (0) (zS) (.slice none 0 0) (.slice none 0 0)) ty27 rfl rfl rfl rfl rfl (pkT_ok rfl rfl) (pkT_s ..) ?_)
   refine JL_pure (v := .int .i64 (3)) rfl (Pu.assign rfl) ?_
   refine JL_nil ?_
   refine J_ret ?_
   refine ⟨.tuple ⟨[.agg ⟨pkT (0) (0) (zS) (.slice none 0 0) (.slice none 0 0)⟩, .int .i64 (3)]⟩, [[]], Ret.two rfl (RV.cell ty27 rfl (At.bx 1 rfl) (pkT_a ..)) (RV.tmp rfl), (Sub.emp Sub.nil), ?_⟩
   have hx : substP t m u = (zT, 3) := by simp only [substP]; (repeat' split) <;> first | rfl | (exfalso; simp_all; done) | (exfalso; simp_all; omega)
   exact ⟨_, _, by rw [hx], rfl, by rw [hx]; exact OT_zero⟩
  ·skip
   replace h7 := df h7
   refine J_skip ?_
   refine J_seq ?_
   refine J_region ?_
   refine JL_pure (v := .func (.func 55) ⟨[]⟩ ⟨[.pointer (some ⟨b2, 0, none⟩), .pointer (some ⟨b3, 0, none⟩)]⟩) rfl (Pu.makeFunc rfl rfl) ?_
   refine JL_pure (v := .agg ⟨[.func (.func 55) ⟨[]⟩ ⟨[.pointer (some ⟨b2, 0, none⟩), .pointer (some ⟨b3, 0, none⟩)]⟩, .func (.func 57) ⟨[]⟩ ⟨[]⟩]⟩) rfl (Pu.build (pv := [(0, .func (.func 55) ⟨[]⟩ ⟨[.pointer (some ⟨b2, 0, none⟩), .pointer (some ⟨b3, 0, none⟩)]⟩), (1, .func (.func 57) ⟨[]⟩ ⟨[]⟩)]) (l := [.func (.func 55) ⟨[]⟩ ⟨[.pointer (some ⟨b2, 0, none⟩), .pointer (some ⟨b3, 0, none⟩)]⟩, .func (.func 57) ⟨[]⟩ ⟨[]⟩]) rfl (bld89_0_1 _ _ _ _ _ _)) ?_
   refine JL_run rfl (Pu_load ty27 rfl (At.bx 4 rfl) (sub_a (RT_len ht)) ?_)
   refine JL_call rfl Tryz.call58 rfl (fun hin => mapTermP_ct 57 [] [] Tryz.call57 (fun s => s) 55 [] [.pointer (some ⟨b2, 0, none⟩), .pointer (some ⟨b3, 0, none⟩)] Tryz.call55 (sbv m u) _ _ _ _ (RT.mono (Hle.hu _ _) ht) (by have := (checkT_ok (rightT2 ‹rightT [t, u] = 0›).1).1; omega) (checkT_ok (rightT2 ‹rightT [t, u] = 0›).1).2.1 (by decide) (by have := (checkT_ok (rightT2 ‹rightT [t, u] = 0›).1).1; omega) (fun s h hh => same_ct s h) (fun n b h hh h1 h2 h3 h4 => substV_ct n b m u _ h b2 b3 (hh _ _ (hin 3 _ rfl _ _ List.mem_cons_self)) (hh _ _ (hin 2 _ rfl _ _ List.mem_cons_self)) (RT.mono (Hle.trans (Hle.hu _ _) hh) hu1) (by have := (checkT_ok (rightT2 ‹rightT [t, u] = 0›).2).1; omega) (checkT_ok (rightT2 ‹rightT [t, u] = 0›).2).2.1 h1 h2 h3 h4)) rfl ?_
   rintro _ _ ⟨cs8, k8, rfl, rfl, hO8⟩
   refine JL_call rfl Tryz.call54 rfl (fun hin => short_ct _ _ _ (hO8.rd (hin 0 _ rfl))) rfl ?_
   rintro _ _ ⟨rfl, rfl⟩
   refine JL_pure (v := .agg ⟨(if longB (mapQ (fun s => s) (sbv m u) (0) (t)) = true then pkT 0 0 zS (.slice none 0 0) (.slice none 0 0) else cs8)⟩) rfl (Pu.extract rfl rfl) ?_
   refine JL_pure (v := .int .i64 ((if longB (mapQ (fun s => s) (sbv m u) (0) (t)) = true then 11 else 0))) rfl (Pu.extract rfl rfl) ?_
   refine JL_run rfl (Runs_storeB 2 (vs := (if longB (mapQ (fun s => s) (sbv m u) (0) (t)) = true then pkT 0 0 zS (.slice none 0 0) (.slice none 0 0) else cs8)) (l := (if longB (mapQ (fun s => s) (sbv m u) (0) (t)) = true then pkT 0 0 zS (.slice none 0 0) (.slice none 0 0) else cs8)) ty27 rfl rfl rfl rfl (len_ite (n := 36) rfl hO8.len) (okc_ite (pkT_ok rfl rfl) hO8.ok) (spl_a (n := 36) rfl (len_ite (n := 36) rfl hO8.len)) ?_)
   refine JL_pure (v := .int .i64 ((if longB (mapQ (fun s => s) (sbv m u) (0) (t)) = true then 11 else 0))) rfl (Pu.assign rfl) ?_
   refine JL_nil ?_
   refine J_ret ?_
   by_cases hL : longB (mapQ (fun s => s) (sbv m u) (0) (t)) = true
   ·refine ⟨.tuple ⟨[.agg ⟨(if longB (mapQ (fun s => s) (sbv m u) (0) (t)) = true then pkT 0 0 zS (.slice none 0 0) (.slice none 0 0) else cs8)⟩, .int .i64 ((if longB (mapQ (fun s => s) (sbv m u) (0) (t)) = true then 11 else 0))]⟩, [[]], Ret.two rfl (RV.cell ty27 rfl (At.bx 2 rfl) (sub_a (len_ite (n := 36) rfl hO8.len))) (RV.tmp rfl), (Sub.emp Sub.nil), ?_⟩
    have hx : substP t m u = (zT, 11) := by rw [substP, if_pos (by assumption), if_neg (by omega), if_pos (show longB (sbT m u t) = true from hL)]
    exact ⟨_, _, by rw [if_pos hL, if_pos hL, hx], rfl, by rw [hx]; exact OT_zero⟩
   ·refine ⟨.tuple ⟨[.agg ⟨(if longB (mapQ (fun s => s) (sbv m u) (0) (t)) = true then pkT 0 0 zS (.slice none 0 0) (.slice none 0 0) else cs8)⟩, .int .i64 ((if longB (mapQ (fun s => s) (sbv m u) (0) (t)) = true then 11 else 0))]⟩, [k8], Ret.two rfl (RV.cell ty27 rfl (At.bx 2 rfl) (sub_a (len_ite (n := 36) rfl hO8.len))) (RV.tmp rfl), (Sub.cons 0 rfl Sub.nil), ?_⟩
    have hx : substP t m u = (mapQ (fun s => s) (sbv m u) (0) (t), 0) := by rw [substP, if_pos (by assumption), if_neg (by omega), if_neg (show ¬ longB (sbT m u t) = true from hL)]; rfl
    exact ⟨_, _, by rw [if_neg hL, if_neg hL, hx], rfl, by rw [hx]; exact hO8⟩
end Go.Proofs.YtbfjkdhfelmioaaGreat.Hs
/-! Walks, printed by a program of this session's own (gen.py). -/
namespace Go.Proofs.YtbfjkdhfelmioaaGreat.Hs
open Go Go.Proofs
set_option maxRecDepth 100000
set_option linter.unusedVariables false
set_option linter.unusedSimpArgs false
attribute [local irreducible] JL J CT wlo
theorem spoil_ct : ∀ (t : Tm) (cs : List Value) (k : Chunk) (H : Heap), OT t cs k → CT Tryz.prog 59 ⟨[.agg ⟨cs⟩]⟩ [k] H (fun v N => v = .tuple ⟨[]⟩ ∧ N = []) := by
 intro t
 induction t using Tm.ind with
 | h kind num ref kids cases ih ih' =>
 intro cs k H hO
 obtain ⟨ks, cv, es, es', k1, k2, k3, k4, rfl, hk, hn, ho1, ho2, ho3, ho4, rfl, hlK, hlC⟩ := OT_mk.1 hO
 refine CT_enter Tryz.func59 rfl rfl ?_
 refine J_sub (M' := [k1, k2, k3, k4]) (Sub.flat Sub.refl (by simp)) ?_
 refine J_seq ?_
 refine J_region ?_
 refine JL_run rfl (Runs_box (l := pkT (kind) (num) (ref) (ks) (cv)) rfl rfl fun b1 => ?_)
 refine JL_nil ?_
 refine J_seq ?_
 refine J_seq ?_
 refine J_region ?_
 refine JL_pure (v := .pointer (some ⟨b1, 34, none⟩)) rfl (fa27_3 rfl rfl) ?_
 refine JL_run rfl (Pu_load1 ty24 rfl (At.bx 0 rfl) (pkT_34 ..) ?_)
 obtain ⟨a2, cap2, hv2⟩ := ho1.sl
 rw [(OTs_len ho2)] at hv2
 refine JL_pure (v := .int .i64 (((kids).length : Int))) rfl (Pu.lenSl Tryz.runUnderlying24 hv2) ?_
 refine JL_pure (v := .int .i64 (0)) rfl (Pu.move rfl) ?_
 refine JL_nil ?_
 refine J_block ?_
 refine J_loop (fun k ρ M => ∃ (j : Nat) (es5 : List (List Value)) (k5 c0 : Chunk), ρ 1 = .pointer (some ⟨b1, 0, none⟩) ∧ ρ 7 = .int .i64 (((kids).length : Int)) ∧ ρ 8 = .int .i64 ((j : Int)) ∧ Sub [[(b1, .cells ⟨pkT (kind) (num) (ref) (ks) (cv)⟩ 27 (0, 0))], k5, c0, k3, k4] M ∧ j ≤ (kids).length ∧ Own 27 36 ks es5 k5 ∧ es5.length = (kids).length ∧ OTs ((kids).drop j) (es5.drop j) c0 ∧ k = (kids).length - j) _ ⟨0, es, k1, k2, rfl, rfl, rfl, (Sub.cons 0 rfl (Sub.cons 0 rfl (Sub.cons 0 rfl (Sub.cons 0 rfl (Sub.cons 0 rfl Sub.nil))))), Nat.zero_le _, ho1, OTs_len ho2, by simpa using ho2, rfl⟩ ?_
 rintro _ ρ3 _ ⟨j, es5, k5, c0, e4, e5, e6, hm7, hj, ho5, hl5, hr5, rfl⟩
 obtain ⟨ρ8, rfl⟩ := reopen_ex (uc e4 (uc e5 (uc e6 un)))
 clear e4 e5 e6
 refine J_sub hm7 ?_
 refine J_seq ?_
 refine J_region ?_
 refine JL_pure (v := .bool (decide ((j : Int) < ((kids).length : Int)))) rfl (Pu.lss rfl rfl) ?_
 refine JL_nil ?_
 refine J_seq ?_
 refine J_cond (b := decide ((j : Int) < ((kids).length : Int))) rfl (fun h9 => ?_) (fun h9 => ?_)
 ·skip
  replace h9 := dt h9
  have h9n : j < (kids).length := by omega
  obtain ⟨e5, kc5, c5, hE, hO5, rfl, hR5⟩ := OTs.take hr5 h9n
  refine J_sub (M' := [[(b1, .cells ⟨pkT (kind) (num) (ref) (ks) (cv)⟩ 27 (0, 0))], k5, kc5, c5, k3, k4]) (Sub.flat Sub.refl (by simp)) ?_
  refine J_skip ?_
  refine J_seq ?_
  refine J_block ?_
  refine J_seq ?_
  refine J_region ?_
  refine JL_pure (v := .int .i64 ((j : Int))) rfl (Pu.move rfl) ?_
  refine JL_pure (v := .int .i64 ((j : Int))) rfl (Pu.assign rfl) ?_
  refine JL_nil ?_
  refine J_seq ?_
  refine J_region ?_
  refine JL_pure (v := .pointer (some ⟨b1, 34, none⟩)) rfl (fa27_3 rfl rfl) ?_
  refine JL_run rfl (Pu_load1 ty24 rfl (At.bx 0 rfl) (pkT_34 ..) ?_)
  refine JL_pure (v := .int .i64 ((j : Int))) rfl (Pu.move rfl) ?_
  obtain ⟨b10, cap10, row10, hv10, hm10, hs10⟩ := ho5.at' hE
  refine JL_pure (v := .pointer (some ⟨b10, 0 + j * 36, none⟩)) rfl (Pu.idx j Tryz.runUnderlying24 ty27 hv10 rfl rfl (by rw [hl5]; exact h9n)) ?_
  refine JL_run rfl (Pu_load ty27 rfl (At.k 1 rfl hm10) hs10 ?_)
  refine JL_call1 2 rfl Tryz.call59 rfl rfl (fun hin => ih _ (List.getElem_mem h9n) _ _ _ hO5) rfl ?_
  rintro _ _ ⟨rfl, rfl⟩
  refine JL_nil ?_
  refine J_region ?_
  refine JL_pure (v := .pointer (some ⟨b1, 34, none⟩)) rfl (fa27_3 rfl rfl) ?_
  refine JL_run rfl (Pu_load1 ty24 rfl (At.bx 0 rfl) (pkT_34 ..) ?_)
  refine JL_pure (v := .int .i64 ((j : Int))) rfl (Pu.move rfl) ?_
  refine JL_pure (v := .agg ⟨pkT (98) (0) (zS) (.slice none 0 0) (.slice none 0 0)⟩) rfl (Pu.build (pv := [(0, .int .i64 (98))]) (l := pkT (98) (0) (zS) (.slice none 0 0) (.slice none 0 0)) rfl (bld27_0 _)) ?_
  obtain ⟨b11, cap11, row11, hv11, hm11, hs11⟩ := ho5.at' hE
  refine JL_pure (v := .pointer (some ⟨b11, 0 + j * 36, none⟩)) rfl (Pu.idx j Tryz.runUnderlying24 ty27 hv11 rfl rfl (by rw [hl5]; exact h9n)) ?_
  refine JL_run rfl (Runs_storeOwn (i := 1) (j := j) (b := b11) ty27 rfl ho5 ⟨_, _, hv11⟩ rfl (by rw [hl5]; exact h9n) rfl rfl rfl (pkT_ok rfl rfl) fun k12 ho12 => ?_)
  refine JL_nil ?_
  refine J_region ?_
  refine JL_pure (v := .int .i64 (((j + 1 : Nat) : Int))) rfl (Pu.inc rfl rfl (by omega)) ?_
  refine JL_pure (v := .int .i64 (((j + 1 : Nat) : Int))) rfl (Pu.move rfl) ?_
  refine JL_nil ?_
  refine ⟨_, ?_, (j + 1), (es5.set j (pkT (98) (0) (zS) (.slice none 0 0) (.slice none 0 0))), (k12), c5, rfl, rfl, rfl, (Sub.cons 0 rfl (Sub.cons 0 rfl (Sub.cons 0 rfl (Sub.cons 0 rfl (Sub.cons 0 rfl Sub.nil))))), ?_, ?_, ?_, ?_, rfl⟩
  ·omega
  ·omega
  ·exact ho12
  ·rw [List.length_set]; exact hl5
  ·exact hR5 _
 ·skip
  replace h9 := df h9
  have h9n : (kids).length ≤ j := by omega
  refine J_exit _ rfl ?_
  refine J_seq ?_
  refine J_region ?_
  refine JL_pure (v := .pointer (some ⟨b1, 35, none⟩)) rfl (fa27_4 rfl rfl) ?_
  refine JL_run rfl (Pu_load1 ty25 rfl (At.bx 0 rfl) (pkT_35 ..) ?_)
  obtain ⟨a13, cap13, hv13⟩ := ho3.sl
  rw [(OCs_len ho4)] at hv13
  refine JL_pure (v := .int .i64 (((cases).length : Int))) rfl (Pu.lenSl Tryz.runUnderlying25 hv13) ?_
  refine JL_pure (v := .int .i64 (0)) rfl (Pu.move rfl) ?_
  refine JL_nil ?_
  refine J_block ?_
  refine J_loop (fun k ρ M => ∃ (j : Nat) (es7 : List (List Value)) (k7 c1 : Chunk), ρ 1 = .pointer (some ⟨b1, 0, none⟩) ∧ ρ 25 = .int .i64 (((cases).length : Int)) ∧ ρ 26 = .int .i64 ((j : Int)) ∧ Sub [[(b1, .cells ⟨pkT (kind) (num) (ref) (ks) (cv)⟩ 27 (0, 0))], k7, c1] M ∧ j ≤ (cases).length ∧ Own 46 71 cv es7 k7 ∧ es7.length = (cases).length ∧ OCs ((cases).drop j) (es7.drop j) c1 ∧ k = (cases).length - j) _ ⟨0, es', k3, k4, rfl, rfl, rfl, (Sub.cons 0 rfl (Sub.cons 2 rfl (Sub.cons 2 rfl Sub.nil))), Nat.zero_le _, ho3, OCs_len ho4, by simpa using ho4, rfl⟩ ?_
  rintro _ ρ14 _ ⟨j, es7, k7, c1, e15, e16, e17, hm18, hj, ho7, hl7, hr6, rfl⟩
  obtain ⟨ρ19, rfl⟩ := reopen_ex (uc e15 (uc e16 (uc e17 un)))
  clear e15 e16 e17
  refine J_sub hm18 ?_
  refine J_seq ?_
  refine J_region ?_
  refine JL_pure (v := .bool (decide ((j : Int) < ((cases).length : Int)))) rfl (Pu.lss rfl rfl) ?_
  refine JL_nil ?_
  refine J_seq ?_
  refine J_cond (b := decide ((j : Int) < ((cases).length : Int))) rfl (fun h20 => ?_) (fun h20 => ?_)
  ·skip
   replace h20 := dt h20
   have h20n : j < (cases).length := by omega
   obtain ⟨kk6, n6, r6, ks6, e6, esp6, q6, kp6, kq6, kc6, c6, hE, hOp, hq6, hq66, hO6, rfl, hR6⟩ := OCs.take hr6 h20n
   refine J_sub (M' := [[(b1, .cells ⟨pkT (kind) (num) (ref) (ks) (cv)⟩ 27 (0, 0))], k7, kp6, kq6, kc6, c6]) (Sub.flat Sub.refl (by simp)) ?_
   refine J_skip ?_
   refine J_seq ?_
   refine J_block ?_
   refine J_seq ?_
   refine J_region ?_
   refine JL_pure (v := .int .i64 ((j : Int))) rfl (Pu.move rfl) ?_
   refine JL_pure (v := .int .i64 ((j : Int))) rfl (Pu.assign rfl) ?_
   refine JL_nil ?_
   refine J_seq ?_
   refine J_region ?_
   refine JL_pure (v := .pointer (some ⟨b1, 35, none⟩)) rfl (fa27_4 rfl rfl) ?_
   refine JL_run rfl (Pu_load1 ty25 rfl (At.bx 0 rfl) (pkT_35 ..) ?_)
   refine JL_pure (v := .int .i64 ((j : Int))) rfl (Pu.move rfl) ?_
   obtain ⟨b21, cap21, row21, hv21, hm21, hs21⟩ := ho7.at' hE
   refine JL_pure (v := .pointer (some ⟨b21, 0 + j * 71, none⟩)) rfl (Pu.idx j Tryz.runUnderlying25 ty46 hv21 rfl rfl (by rw [hl7]; exact h20n)) ?_
   refine JL_pure (v := .pointer (some ⟨b21, 0 + j * 71 + 35, none⟩)) rfl (fa46_1 rfl rfl) ?_
   refine JL_run rfl (Pu_load ty27 rfl (At.k 1 rfl hm21) (sub_sub hs21 (sub_r rfl hO6.len)) ?_)
   refine JL_call1 4 rfl Tryz.call59 rfl rfl (fun hin => ih' _ (List.getElem_mem h20n) _ _ _ hO6) rfl ?_
   rintro _ _ ⟨rfl, rfl⟩
   refine JL_nil ?_
   refine J_seq ?_
   refine J_seq ?_
   refine J_region ?_
   refine JL_pure (v := .pointer (some ⟨b1, 35, none⟩)) rfl (fa27_4 rfl rfl) ?_
   refine JL_run rfl (Pu_load1 ty25 rfl (At.bx 0 rfl) (pkT_35 ..) ?_)
   refine JL_pure (v := .int .i64 ((j : Int))) rfl (Pu.move rfl) ?_
   obtain ⟨b22, cap22, row22, hv22, hm22, hs22⟩ := ho7.at' hE
   refine JL_pure (v := .pointer (some ⟨b22, 0 + j * 71, none⟩)) rfl (Pu.idx j Tryz.runUnderlying25 ty46 hv22 rfl rfl (by rw [hl7]; exact h20n)) ?_
   refine JL_pure (v := .pointer (some ⟨b22, 0 + j * 71, none⟩)) rfl (fa46_0 rfl rfl) ?_
   refine JL_pure (v := .pointer (some ⟨b22, 0 + j * 71 + 34, none⟩)) rfl (fa42_3 rfl rfl) ?_
   refine JL_run rfl (Pu_load1 ty40 rfl (At.k 1 rfl hm22) (sub_get hs22 (get_l (pkP_34 ..))) ?_)
   obtain ⟨a23, cap23, hv23⟩ := hOp.sl
   rw [hq6] at hv23
   refine JL_pure (v := .int .i64 ((q6 : Int))) rfl (Pu.lenSl Tryz.runUnderlying40 hv23) ?_
   refine JL_pure (v := .int .i64 (0)) rfl (Pu.move rfl) ?_
   refine JL_nil ?_
   refine J_block ?_
   refine J_loop (fun k ρ M => ∃ (i : Nat) (es8 : List (List Value)) (k8 : Chunk), ρ 1 = .pointer (some ⟨b1, 0, none⟩) ∧ ρ 3 = .int .i64 ((j : Int)) ∧ ρ 25 = .int .i64 (((cases).length : Int)) ∧ ρ 26 = .int .i64 ((j : Int)) ∧ ρ 43 = .int .i64 ((q6 : Int)) ∧ ρ 44 = .int .i64 ((i : Int)) ∧ Sub [k8, [(b1, .cells ⟨pkT (kind) (num) (ref) (ks) (cv)⟩ 27 (0, 0))], k7, kq6, c6] M ∧ i ≤ q6 ∧ Own 42 35 ks6 es8 k8 ∧ es8.length = q6 ∧ k = q6 - i) _ ⟨0, esp6, kp6, rfl, rfl, rfl, rfl, rfl, rfl, (Sub.cons 2 rfl (Sub.cons 0 rfl (Sub.cons 0 rfl (Sub.cons 0 rfl (Sub.cons 0 rfl Sub.nil))))), Nat.zero_le _, hOp, hq6, rfl⟩ ?_
   rintro _ ρ24 _ ⟨i, es8, k8, e25, e26, e27, e28, e29, e30, hm31, hi, ho8, hl8, rfl⟩
   obtain ⟨ρ32, rfl⟩ := reopen_ex (uc e25 (uc e26 (uc e27 (uc e28 (uc e29 (uc e30 un))))))
   clear e25 e26 e27 e28 e29 e30
   refine J_sub hm31 ?_
   refine J_seq ?_
   refine J_region ?_
   refine JL_pure (v := .bool (decide ((i : Int) < (q6 : Int)))) rfl (Pu.lss rfl rfl) ?_
   refine JL_nil ?_
   refine J_seq ?_
   refine J_cond (b := decide ((i : Int) < (q6 : Int))) rfl (fun h33 => ?_) (fun h33 => ?_)
   ·skip
    replace h33 := dt h33
    have h33n : i < q6 := by omega
    refine J_skip ?_
    refine J_seq ?_
    refine J_block ?_
    refine J_seq ?_
    refine J_region ?_
    refine JL_pure (v := .int .i64 ((i : Int))) rfl (Pu.move rfl) ?_
    refine JL_pure (v := .int .i64 ((i : Int))) rfl (Pu.assign rfl) ?_
    refine JL_nil ?_
    refine J_region ?_
    refine JL_pure (v := .pointer (some ⟨b1, 35, none⟩)) rfl (fa27_4 rfl rfl) ?_
    refine JL_run rfl (Pu_load1 ty25 rfl (At.bx 1 rfl) (pkT_35 ..) ?_)
    refine JL_pure (v := .int .i64 ((j : Int))) rfl (Pu.move rfl) ?_
    obtain ⟨b34, cap34, row34, hv34, hm34, hs34⟩ := ho7.at' hE
    refine JL_pure (v := .pointer (some ⟨b34, 0 + j * 71, none⟩)) rfl (Pu.idx j Tryz.runUnderlying25 ty46 hv34 rfl rfl (by rw [hl7]; exact h20n)) ?_
    refine JL_pure (v := .pointer (some ⟨b34, 0 + j * 71, none⟩)) rfl (fa46_0 rfl rfl) ?_
    refine JL_pure (v := .pointer (some ⟨b34, 0 + j * 71 + 34, none⟩)) rfl (fa42_3 rfl rfl) ?_
    refine JL_run rfl (Pu_load1 ty40 rfl (At.k 2 rfl hm34) (sub_get hs34 (get_l (pkP_34 ..))) ?_)
    refine JL_pure (v := .int .i64 ((i : Int))) rfl (Pu.move rfl) ?_
    refine JL_pure (v := .agg ⟨pkP (98) (0) (zS) (.slice none 0 0)⟩) rfl (Pu.build (pv := [(0, .int .i64 (98))]) (l := pkP (98) (0) (zS) (.slice none 0 0)) rfl (bld42_0 _)) ?_
    obtain ⟨b35, cap35, row35, hv35, hm35, hs35⟩ := ho8.at (j := i) (by rw [hl8]; exact h33n)
    refine JL_pure (v := .pointer (some ⟨b35, 0 + i * 35, none⟩)) rfl (Pu.idx i Tryz.runUnderlying40 ty42 hv35 rfl rfl (by rw [hl8]; exact h33n)) ?_
    refine JL_run rfl (Runs_storeOwn (i := 0) (j := i) (b := b35) ty42 rfl ho8 ⟨_, _, hv35⟩ rfl (by rw [hl8]; exact h33n) rfl rfl rfl (pkP_ok rfl) fun k36 ho36 => ?_)
    refine JL_nil ?_
    refine J_region ?_
    refine JL_pure (v := .int .i64 (((i + 1 : Nat) : Int))) rfl (Pu.inc rfl rfl (by omega)) ?_
    refine JL_pure (v := .int .i64 (((i + 1 : Nat) : Int))) rfl (Pu.move rfl) ?_
    refine JL_nil ?_
    refine ⟨_, ?_, (i + 1), (es8.set i (pkP (98) (0) (zS) (.slice none 0 0))), (k36), rfl, rfl, rfl, rfl, rfl, rfl, (Sub.cons 0 rfl (Sub.cons 0 rfl (Sub.cons 0 rfl (Sub.cons 0 rfl (Sub.cons 0 rfl Sub.nil))))), ?_, ?_, ?_, rfl⟩
    ·omega
    ·omega
    ·exact ho36
    ·rw [List.length_set]; exact hl8
   ·skip
    replace h33 := df h33
    have h33n : q6 ≤ i := by omega
    refine J_exit _ rfl ?_
    refine J_region ?_
    refine JL_pure (v := .pointer (some ⟨b1, 35, none⟩)) rfl (fa27_4 rfl rfl) ?_
    refine JL_run rfl (Pu_load1 ty25 rfl (At.bx 1 rfl) (pkT_35 ..) ?_)
    refine JL_pure (v := .int .i64 ((j : Int))) rfl (Pu.move rfl) ?_
    refine JL_pure (v := .agg ⟨(pkP (0) (0) (zS) (.slice none 0 0)) ++ (pkT (0) (0) (zS) (.slice none 0 0) (.slice none 0 0))⟩) rfl (Pu.build (pv := []) (l := (pkP (0) (0) (zS) (.slice none 0 0)) ++ (pkT (0) (0) (zS) (.slice none 0 0) (.slice none 0 0))) rfl bld46_) ?_
    obtain ⟨b37, cap37, row37, hv37, hm37, hs37⟩ := ho7.at' hE
    refine JL_pure (v := .pointer (some ⟨b37, 0 + j * 71, none⟩)) rfl (Pu.idx j Tryz.runUnderlying25 ty46 hv37 rfl rfl (by rw [hl7]; exact h20n)) ?_
    refine JL_run rfl (Runs_storeOwn (i := 2) (j := j) (b := b37) ty46 rfl ho7 ⟨_, _, hv37⟩ rfl (by rw [hl7]; exact h20n) rfl rfl rfl (okc_app (pkP_ok rfl) (pkT_ok rfl rfl)) fun k38 ho38 => ?_)
    refine JL_nil ?_
    refine J_region ?_
    refine JL_pure (v := .int .i64 (((j + 1 : Nat) : Int))) rfl (Pu.inc rfl rfl (by omega)) ?_
    refine JL_pure (v := .int .i64 (((j + 1 : Nat) : Int))) rfl (Pu.move rfl) ?_
    refine JL_nil ?_
    refine ⟨_, ?_, (j + 1), (es7.set j ((pkP (0) (0) (zS) (.slice none 0 0)) ++ (pkT (0) (0) (zS) (.slice none 0 0) (.slice none 0 0)))), (k38), c6, rfl, rfl, rfl, (Sub.cons 1 rfl (Sub.cons 1 rfl (Sub.cons 2 rfl Sub.nil))), ?_, ?_, ?_, ?_, rfl⟩
    ·omega
    ·omega
    ·exact ho38
    ·rw [List.length_set]; exact hl7
    ·exact hR6 _
  ·skip
   replace h20 := df h20
   have h20n : (cases).length ≤ j := by omega
   refine J_exit _ rfl ?_
   refine ⟨.tuple ⟨[]⟩, [], Ret.none rfl, Sub.nil, ?_⟩
   exact ⟨rfl, rfl⟩
end Go.Proofs.YtbfjkdhfelmioaaGreat.Hs
/-! Walks, printed by a program of this session's own (gen.py). -/
namespace Go.Proofs.YtbfjkdhfelmioaaGreat.Hs
open Go Go.Proofs
set_option maxRecDepth 100000
set_option linter.unusedVariables false
set_option linter.unusedSimpArgs false
attribute [local irreducible] JL J CT wlo
theorem ownTerm_ct : ∀ (t : Tm) (cs : List Value) (H : Heap), RT H cs t → sizeT t ≤ 1000000 → CT Tryz.prog 7 ⟨[.agg ⟨cs⟩]⟩ [] H (fun v N => ∃ cs k, v = .agg ⟨cs⟩ ∧ N = [k] ∧ OT (t) cs k) := by
 intro t
 induction t using Tm.ind with
 | h kind num ref kids cases ih ih' =>
 intro cs H ht hz
 rw [sizeT] at hz
 have hlk := len_sizeTs kids
 have hlc := len_sizeCs cases
 obtain ⟨ks, cv, rfl, hk, hn, hks, hcv⟩ := RT_mk.1 ht
 refine CT_enter Tryz.func7 rfl rfl ?_
 refine J_seq ?_
 refine J_region ?_
 refine JL_run rfl (Runs_box (l := pkT (kind) (num) (ref) (ks) (cv)) rfl rfl fun b1 => ?_)
 refine JL_run rfl (Runs_alloc (l := pkT (0) (0) (zS) (.slice none 0 0) (.slice none 0 0)) Tryz.zeroValue27 rfl fun b2 => ?_)
 refine JL_nil ?_
 refine J_seq ?_
 refine J_draw mixed #[0, 1, 0, 4, 3, 31] 5 5 2 rfl (by kernel_rfl) (fun i r3 N3 => match i with | 0 => (r3 0) = .pointer (some ⟨b1, 34, none⟩) | 1 => (r3 1) = ks | 2 => (r3 2) = .pointer (some ⟨b1, 35, none⟩) | 3 => (r3 3) = cv | 4 => (r3 4) = ks | _ => True) ⟨?_, ?_, ?_, ?_, ?_, trivial⟩ ?_
 ·intro ρ r3 N3 B hB hBa hp hr hr0
  have q1 : ρ 1 = .pointer (some ⟨b1, 0, none⟩) := hr0 1 (by kernel_rfl)
  obtain ⟨ρ4, rfl⟩ := reopen_ex (uc q1 un)
  clear q1
  refine JL_pure (v := .pointer (some ⟨b1, 34, none⟩)) rfl (fa27_3 rfl rfl) ?_
  refine JL_nil ?_
  exact ⟨.pointer (some ⟨b1, 34, none⟩), [], rfl, (Sub.emp Sub.refl), rfl⟩
 ·intro ρ r3 N3 B hB hBa hp hr hr0
  have q9 : ρ 9 = .pointer (some ⟨b1, 34, none⟩) := (hr 0 _ _ (by decide) rfl rfl rfl).trans (hp 0 (by decide) rfl)
  obtain ⟨ρ5, rfl⟩ := reopen_ex (uc q9 un)
  clear q9
  refine JL_run rfl (Pu_load1 ty24 rfl (At.bx 6 (made_old ((hB 1 (by decide)).trans rfl))) (pkT_34 ..) ?_)
  refine JL_nil ?_
  exact ⟨ks, [], rfl, (Sub.emp Sub.refl), rfl⟩
 ·intro ρ r3 N3 B hB hBa hp hr hr0
  have q1 : ρ 1 = .pointer (some ⟨b1, 0, none⟩) := hr0 1 (by kernel_rfl)
  obtain ⟨ρ6, rfl⟩ := reopen_ex (uc q1 un)
  clear q1
  refine JL_pure (v := .pointer (some ⟨b1, 35, none⟩)) rfl (fa27_4 rfl rfl) ?_
  refine JL_nil ?_
  exact ⟨.pointer (some ⟨b1, 35, none⟩), [], rfl, (Sub.emp Sub.refl), rfl⟩
 ·intro ρ r3 N3 B hB hBa hp hr hr0
  have q11 : ρ 11 = .pointer (some ⟨b1, 35, none⟩) := (hr 2 _ _ (by decide) rfl rfl rfl).trans (hp 2 (by decide) rfl)
  obtain ⟨ρ7, rfl⟩ := reopen_ex (uc q11 un)
  clear q11
  refine JL_run rfl (Pu_load1 ty25 rfl (At.bx 6 (made_old ((hB 1 (by decide)).trans rfl))) (pkT_35 ..) ?_)
  refine JL_nil ?_
  exact ⟨cv, [], rfl, (Sub.emp Sub.refl), rfl⟩
 ·intro ρ r3 N3 B hB hBa hp hr hr0
  have q10 : ρ 10 = ks := (hr 1 _ _ (by decide) rfl rfl rfl).trans (hp 1 (by decide) rfl)
  obtain ⟨ρ8, rfl⟩ := reopen_ex (uc q10 un)
  clear q10
  refine JL_pure (v := ks) rfl (Pu.assign rfl) ?_
  refine JL_nil ?_
  exact ⟨ks, [], rfl, (Sub.emp Sub.refl), rfl⟩
 ·intro ρ r3 N3 hp hr hr0
  have q1 : ρ 1 = .pointer (some ⟨b1, 0, none⟩) := hr0 1 (by kernel_rfl)
  have q2 : ρ 2 = .pointer (some ⟨b2, 0, none⟩) := hr0 2 (by kernel_rfl)
  have q3 : ρ 3 = ks := (hr 4 _ _ (by decide) rfl rfl).trans (hp 4 (by decide))
  have q12 : ρ 12 = cv := (hr 3 _ _ (by decide) rfl rfl).trans (hp 3 (by decide))
  obtain ⟨ρ9, rfl⟩ := reopen_ex (uc q1 (uc q2 (uc q3 (uc q12 un))))
  clear q1 q2 q3 q12
  clear hp hr hr0 
  refine JL_sub (M' := [(N3 0), (N3 1), (N3 2), (N3 3), (N3 4), [(b2, .cells ⟨pkT (0) (0) (zS) (.slice none 0 0) (.slice none 0 0)⟩ 27 (0, 0))], [(b1, .cells ⟨pkT (kind) (num) (ref) (ks) (cv)⟩ 27 (0, 0))]]) Sub.refl ?_
  refine JL_sub (M' := [[(b2, .cells ⟨pkT (0) (0) (zS) (.slice none 0 0) (.slice none 0 0)⟩ 27 (0, 0))], [(b1, .cells ⟨pkT (kind) (num) (ref) (ks) (cv)⟩ 27 (0, 0))]]) (Sub.cons 5 rfl (Sub.cons 5 rfl Sub.nil)) ?_
  show JL _ _ _ [_] _ _ _
  refine JL_pure (v := cv) rfl (Pu.assign rfl) ?_
  refine JL_nil ?_
  refine J_seq ?_
  refine J_region ?_
  refine JL_pure (v := .pointer (some ⟨b1, 34, none⟩)) rfl (fa27_3 rfl rfl) ?_
  refine JL_run rfl (Runs_storeB 1 (vs := [.slice none 0 0]) (l := pkT (kind) (num) (ref) (.slice none 0 0) (cv)) ty24 rfl rfl rfl rfl rfl (okc_cons rfl okc_nil) (pkT_s34 ..) ?_)
  refine JL_pure (v := .pointer (some ⟨b1, 35, none⟩)) rfl (fa27_4 rfl rfl) ?_
  refine JL_run rfl (Runs_storeB 1 (vs := [.slice none 0 0]) (l := pkT (kind) (num) (ref) (.slice none 0 0) (.slice none 0 0)) ty25 rfl rfl rfl rfl rfl (okc_cons rfl okc_nil) (pkT_s35 ..) ?_)
  refine JL_nil ?_
  refine J_seq ?_
  refine J_seq ?_
  refine J_region ?_
  refine JL_pure (v := ks) rfl (Pu.move rfl) ?_
  obtain ⟨a10, cap10, hv10⟩ := hks.sl
  have hle10 := hks.le
  refine JL_pure (v := .int .i64 (((kids).length : Int))) rfl (Pu.lenSl Tryz.runUnderlying24 hv10) ?_
  refine JL_pure (v := .int .i64 (0)) rfl (Pu.move rfl) ?_
  refine JL_nil ?_
  refine J_block ?_
  refine J_loop (fun k ρ M => ∃ (j : Nat) (v : Value) (es : List (List Value)) (k1 k2 : Chunk), ρ 1 = .pointer (some ⟨b1, 0, none⟩) ∧ ρ 2 = .pointer (some ⟨b2, 0, none⟩) ∧ ρ 4 = cv ∧ ρ 15 = ks ∧ ρ 16 = .int .i64 (((kids).length : Int)) ∧ ρ 17 = .int .i64 ((j : Int)) ∧ Sub [[(b1, .cells ⟨pkT (kind) (num) (ref) (v) (.slice none 0 0)⟩ 27 (0, 0))], k1, k2, [(b2, .cells ⟨pkT (0) (0) (zS) (.slice none 0 0) (.slice none 0 0)⟩ 27 (0, 0))]] M ∧ j ≤ (kids).length ∧ Own 27 36 v es k1 ∧ OTs ((kids.take j)) es k2 ∧ k = (kids).length - j) _ ⟨0, (.slice none 0 0), [], [], [], rfl, rfl, rfl, rfl, rfl, rfl, (Sub.cons 1 rfl (Sub.emp (Sub.emp (Sub.cons 0 rfl Sub.nil)))), Nat.zero_le _, Own.nil, OTs.nil, rfl⟩ ?_
  rintro _ ρ11 _ ⟨j, v, es, k1, k2, e12, e13, e14, e15, e16, e17, hm18, hj, hov, hopv, rfl⟩
  obtain ⟨ρ19, rfl⟩ := reopen_ex (uc e12 (uc e13 (uc e14 (uc e15 (uc e16 (uc e17 un))))))
  clear e12 e13 e14 e15 e16 e17
  refine J_sub hm18 ?_
  have hlen := hks.le
  refine J_seq ?_
  refine J_region ?_
  refine JL_pure (v := .bool (decide ((j : Int) < ((kids).length : Int)))) rfl (Pu.lss rfl rfl) ?_
  refine JL_nil ?_
  refine J_seq ?_
  refine J_cond (b := decide ((j : Int) < ((kids).length : Int))) rfl (fun h20 => ?_) (fun h20 => ?_)
  ·skip
   replace h20 := dt h20
   have h20n : j < (kids).length := by omega
   have helv := OTs_len hopv
   rw [List.length_take] at helv
   have hs1 := sizeTs_mem _ (List.getElem_mem h20n)
   refine J_skip ?_
   refine J_seq ?_
   refine J_block ?_
   refine J_seq ?_
   refine J_region ?_
   obtain ⟨b21, o21, cap21, row21, T21, fr21, cs21, hv21, hb21, hs21, hE21⟩ := hks.get j (by first | assumption | omega | decide | simp)
   refine JL_pure (v := .pointer (some ⟨b21, o21 + j * 36, none⟩)) rfl (Pu.idx j Tryz.runUnderlying24 ty27 hv21 rfl rfl (by first | assumption | omega | decide | simp)) ?_
   refine JL_run rfl (Pu_load ty27 rfl (At.im hb21) hs21 ?_)
   refine JL_run rfl (Runs_alloc (l := pkT (0) (0) (zS) (.slice none 0 0) (.slice none 0 0)) Tryz.zeroValue27 rfl fun b22 => ?_)
   refine JL_run rfl (Runs_storeB 0 (vs := cs21) (l := cs21) ty27 rfl rfl rfl rfl (RT_len hE21) (RT_ok hE21) (spl_a (n := 36) rfl (RT_len hE21)) ?_)
   refine JL_nil ?_
   refine J_draw mixed #[0, 1, 0, 4, 12, 31, 63, 127] 5 5 5 rfl (by kernel_rfl) (fun i r23 N23 => match i with | 0 => (r23 0) = .pointer (some ⟨b1, 34, none⟩) | 1 => (r23 1) = v | 2 => (r23 2) = .agg ⟨cs21⟩ | 3 => (r23 3) = .agg ⟨(cel (r23 3))⟩ ∧ OT ((kids)[j]) (cel (r23 3)) (N23 3) | 4 => (r23 4) = .slice (some ⟨(sblk (r23 4)), 0, none⟩) 1 1 ∧ (N23 4) = [(sblk (r23 4), .cells ⟨List.flatten [(cel (r23 3))]⟩ 27 (0, 0))] ∧ Own 27 36 (.slice (some ⟨(sblk (r23 4)), 0, none⟩) 1 1) [(cel (r23 3))] (N23 4) | _ => True) ⟨?_, ?_, ?_, ?_, ?_, trivial⟩ ?_
   ·intro ρ r23 N23 B hB hBa hp hr hr0
    have q1 : ρ 1 = .pointer (some ⟨b1, 0, none⟩) := hr0 1 (by kernel_rfl)
    obtain ⟨ρ24, rfl⟩ := reopen_ex (uc q1 un)
    clear q1
    refine JL_pure (v := .pointer (some ⟨b1, 34, none⟩)) rfl (fa27_3 rfl rfl) ?_
    refine JL_nil ?_
    exact ⟨.pointer (some ⟨b1, 34, none⟩), [], rfl, (Sub.emp Sub.refl), rfl⟩
   ·intro ρ r23 N23 B hB hBa hp hr hr0
    have q21 : ρ 21 = .pointer (some ⟨b1, 34, none⟩) := (hr 0 _ _ (by decide) rfl rfl rfl).trans (hp 0 (by decide) rfl)
    obtain ⟨ρ25, rfl⟩ := reopen_ex (uc q21 un)
    clear q21
    refine JL_run rfl (Pu_load1 ty24 rfl (At.bx 6 (made_old ((hB 1 (by decide)).trans rfl))) (pkT_34 ..) ?_)
    refine JL_nil ?_
    exact ⟨v, [], rfl, (Sub.emp Sub.refl), rfl⟩
   ·intro ρ r23 N23 B hB hBa hp hr hr0
    have q6 : ρ 6 = .pointer (some ⟨b22, 0, none⟩) := hr0 6 (by kernel_rfl)
    obtain ⟨ρ26, rfl⟩ := reopen_ex (uc q6 un)
    clear q6
    refine JL_run rfl (Pu_load ty27 rfl (At.bx 5 (made_old ((hB 0 (by decide)).trans rfl))) (sub_a (RT_len hE21)) ?_)
    refine JL_nil ?_
    exact ⟨.agg ⟨cs21⟩, [], rfl, (Sub.emp Sub.refl), rfl⟩
   ·intro ρ r23 N23 B hB hBa hp hr hr0
    have q23 : ρ 23 = .agg ⟨cs21⟩ := (hr 2 _ _ (by decide) rfl rfl rfl).trans (hp 2 (by decide) rfl)
    obtain ⟨ρ27, rfl⟩ := reopen_ex (uc q23 un)
    clear q23
    refine JL_call rfl Tryz.call7 rfl (fun hin => ih _ (List.getElem_mem h20n) _ _ (RT.mono (Hle.hu _ _) hE21) (by omega)) rfl ?_
    rintro _ _ ⟨cs28, k28, rfl, rfl, hO28⟩
    refine JL_nil ?_
    exact ⟨.agg ⟨cs28⟩, k28, rfl, Sub.refl, ⟨rfl, hO28⟩⟩
   ·intro ρ r23 N23 B hB hBa hp hr hr0
    have p3 : (r23 3) = .agg ⟨(cel (r23 3))⟩ ∧ OT ((kids)[j]) (cel (r23 3)) (N23 3) := hp 3 (by decide) rfl
    have q24 : ρ 24 = .agg ⟨(cel (r23 3))⟩ := (hr 3 _ _ (by decide) rfl rfl rfl).trans p3.1
    obtain ⟨ρ29, rfl⟩ := reopen_ex (uc q24 un)
    clear q24
    refine JL_run rfl (Runs_buildSlice (vs := [.agg ⟨(cel (r23 3))⟩]) [(cel (r23 3))] Tryz.runUnderlying24 el27 rfl rfl (by intro e he; simp only [List.mem_cons, List.not_mem_nil, or_false] at he; subst he; exact p3.2.len) rfl (by decide) fun b30 k30 ho30 hk30 => ?_)
    refine JL_nil ?_
    exact ⟨.slice (some ⟨b30, 0, none⟩) 1 1, k30, rfl, Sub.refl, ⟨rfl, hk30, ho30⟩⟩
   ·intro ρ r23 N23 hp hr hr0
    have p3 : (r23 3) = .agg ⟨(cel (r23 3))⟩ ∧ OT ((kids)[j]) (cel (r23 3)) (N23 3) := hp 3 (by decide)
    have p4 : (r23 4) = .slice (some ⟨(sblk (r23 4)), 0, none⟩) 1 1 ∧ (N23 4) = [(sblk (r23 4), .cells ⟨List.flatten [(cel (r23 3))]⟩ 27 (0, 0))] ∧ Own 27 36 (.slice (some ⟨(sblk (r23 4)), 0, none⟩) 1 1) [(cel (r23 3))] (N23 4) := hp 4 (by decide)
    have q1 : ρ 1 = .pointer (some ⟨b1, 0, none⟩) := hr0 1 (by kernel_rfl)
    have q2 : ρ 2 = .pointer (some ⟨b2, 0, none⟩) := hr0 2 (by kernel_rfl)
    have q4 : ρ 4 = cv := hr0 4 (by kernel_rfl)
    have q15 : ρ 15 = ks := hr0 15 (by kernel_rfl)
    have q16 : ρ 16 = .int .i64 (((kids).length : Int)) := hr0 16 (by kernel_rfl)
    have q17 : ρ 17 = .int .i64 ((j : Int)) := hr0 17 (by kernel_rfl)
    have q22 : ρ 22 = v := (hr 1 _ _ (by decide) rfl rfl).trans (hp 1 (by decide))
    have q25 : ρ 25 = .slice (some ⟨(sblk (r23 4)), 0, none⟩) 1 1 := (hr 4 _ _ (by decide) rfl rfl).trans p4.1
    obtain ⟨ρ31, rfl⟩ := reopen_ex (uc q1 (uc q2 (uc q4 (uc q15 (uc q16 (uc q17 (uc q22 (uc q25 un))))))))
    clear q1 q2 q4 q15 q16 q17 q22 q25
    have p23_3 := p3; have p23_4 := p4
    clear hp hr hr0 p3 p4
    refine JL_sub (M' := [(N23 0), (N23 1), (N23 2), (N23 3), (N23 4), [(b22, .cells ⟨cs21⟩ 27 (0, 0))], [(b1, .cells ⟨pkT (kind) (num) (ref) (v) (.slice none 0 0)⟩ 27 (0, 0))], k1, k2, [(b2, .cells ⟨pkT (0) (0) (zS) (.slice none 0 0) (.slice none 0 0)⟩ 27 (0, 0))]]) Sub.refl ?_
    refine JL_sub (M' := [(N23 3), (N23 4), [(b22, .cells ⟨cs21⟩ 27 (0, 0))], [(b1, .cells ⟨pkT (kind) (num) (ref) (v) (.slice none 0 0)⟩ 27 (0, 0))], k1, k2, [(b2, .cells ⟨pkT (0) (0) (zS) (.slice none 0 0) (.slice none 0 0)⟩ 27 (0, 0))]]) (Sub.cons 3 rfl (Sub.cons 3 rfl (Sub.cons 3 rfl (Sub.cons 3 rfl (Sub.cons 3 rfl (Sub.cons 3 rfl (Sub.cons 3 rfl Sub.nil))))))) ?_
    show JL _ _ _ [_, _, _] _ _ _
    have hlens32 : ∀ e ∈ ([(cel (r23 3))] : List (List Value)), List.length e = 36 := by
     intro e he; simp only [List.mem_cons, List.not_mem_nil, or_false] at he
     rcases he with rfl
     ·exact p23_3.2.len
    have hoks32 : ∀ e ∈ ([(cel (r23 3))] : List (List Value)), okc e := by
     intro e he; simp only [List.mem_cons, List.not_mem_nil, or_false] at he
     rcases he with rfl
     ·exact p23_3.2.ok
    refine JL_run rfl (Runs_append (i := 4) (n := 1) (es' := [(cel (r23 3))]) Tryz.runUnderlying24 Tryz.runUnderlying24 (Or.inl rfl) el27 rfl rfl rfl hov (fun F w m => Src.row (((At.k 1 rfl (by rw [p23_4.2.1]; exact List.mem_cons_self))).heap m) (sub_a (flatten_len hlens32))) rfl hlens32 hoks32 (by decide) (by omega) fun v32 k32 ho32 => ?_)
    refine JL_pure (v := .pointer (some ⟨b1, 34, none⟩)) rfl (fa27_3 rfl rfl) ?_
    refine JL_run rfl (Runs_storeB 3 (vs := [v32]) (l := pkT (kind) (num) (ref) (v32) (.slice none 0 0)) ty24 rfl rfl rfl (cells_one ho32.one) rfl (okc_cons ho32.one okc_nil) (pkT_s34 ..) ?_)
    refine JL_nil ?_
    refine J_region ?_
    refine JL_pure (v := .int .i64 (((j + 1 : Nat) : Int))) rfl (Pu.inc rfl rfl (by omega)) ?_
    refine JL_pure (v := .int .i64 (((j + 1 : Nat) : Int))) rfl (Pu.move rfl) ?_
    refine JL_nil ?_
    refine ⟨_, ?_, (j + 1), (v32), (es ++ [(cel (r23 3))]), (k32), ((k2) ++ ((N23 3))), rfl, rfl, rfl, rfl, rfl, rfl, (Sub.cons 3 rfl (Sub.cons 3 rfl (Sub.join (Sub.cons 3 rfl (Sub.cons 0 rfl (Sub.cons 2 rfl Sub.nil)))))), ?_, ?_, ?_, rfl⟩
    ·omega
    ·omega
    ·assumption
    ·rw [List.take_succ_eq_append_getElem h20n]; exact OTs.snoc p23_3.2 hopv
  ·skip
   replace h20 := df h20
   have h20n : (kids).length ≤ j := by omega
   refine J_exit _ rfl ?_
   refine J_seq ?_
   refine J_seq ?_
   refine J_region ?_
   refine JL_pure (v := cv) rfl (Pu.move rfl) ?_
   obtain ⟨a33, cap33, hv33⟩ := hcv.sl
   have hle33 := hcv.le
   refine JL_pure (v := .int .i64 (((cases).length : Int))) rfl (Pu.lenSl Tryz.runUnderlying25 hv33) ?_
   refine JL_pure (v := .int .i64 (0)) rfl (Pu.move rfl) ?_
   refine JL_nil ?_
   refine J_block ?_
   rw [List.take_of_length_le h20n] at hopv
   refine J_loop (fun k ρ M => ∃ (j : Nat) (w : Value) (es2 : List (List Value)) (k3 k4 : Chunk), ρ 1 = .pointer (some ⟨b1, 0, none⟩) ∧ ρ 2 = .pointer (some ⟨b2, 0, none⟩) ∧ ρ 29 = cv ∧ ρ 30 = .int .i64 (((cases).length : Int)) ∧ ρ 31 = .int .i64 ((j : Int)) ∧ Sub [[(b1, .cells ⟨pkT (kind) (num) (ref) (v) (w)⟩ 27 (0, 0))], k3, k4, k1, k2, [(b2, .cells ⟨pkT (0) (0) (zS) (.slice none 0 0) (.slice none 0 0)⟩ 27 (0, 0))]] M ∧ j ≤ (cases).length ∧ Own 46 71 w es2 k3 ∧ OCs ((cases.take j)) es2 k4 ∧ k = (cases).length - j) _ ⟨0, (.slice none 0 0), [], [], [], rfl, rfl, rfl, rfl, rfl, (Sub.cons 0 rfl (Sub.emp (Sub.emp (Sub.cons 0 rfl (Sub.cons 0 rfl (Sub.cons 0 rfl Sub.nil)))))), Nat.zero_le _, Own.nil, OCs.nil, rfl⟩ ?_
   rintro _ ρ34 _ ⟨j, w, es2, k3, k4, e35, e36, e37, e38, e39, hm40, hj, how, hopw, rfl⟩
   obtain ⟨ρ41, rfl⟩ := reopen_ex (uc e35 (uc e36 (uc e37 (uc e38 (uc e39 un)))))
   clear e35 e36 e37 e38 e39
   refine J_sub hm40 ?_
   have hlen := hcv.le
   refine J_seq ?_
   refine J_region ?_
   refine JL_pure (v := .bool (decide ((j : Int) < ((cases).length : Int)))) rfl (Pu.lss rfl rfl) ?_
   refine JL_nil ?_
   refine J_seq ?_
   refine J_cond (b := decide ((j : Int) < ((cases).length : Int))) rfl (fun h42 => ?_) (fun h42 => ?_)
   ·skip
    replace h42 := dt h42
    have h42n : j < (cases).length := by omega
    have helw := OCs_len hopw
    rw [List.length_take] at helw
    have hs1 := sizeCs_mem _ (List.getElem_mem h42n)
    refine J_skip ?_
    refine J_seq ?_
    refine J_block ?_
    refine J_seq ?_
    refine J_region ?_
    obtain ⟨b43, o43, cap43, row43, T43, fr43, cs43, hv43, hb43, hs43, hE43⟩ := hcv.get j (by first | assumption | omega | decide | simp)
    obtain ⟨ca43, cb43, rfl, hA43, hB43⟩ := hE43
    refine JL_pure (v := .pointer (some ⟨b43, o43 + j * 71, none⟩)) rfl (Pu.idx j Tryz.runUnderlying25 ty46 hv43 rfl rfl (by first | assumption | omega | decide | simp)) ?_
    refine JL_run rfl (Pu_load ty46 rfl (At.im hb43) hs43 ?_)
    refine JL_run rfl (Runs_alloc (l := (pkP (0) (0) (zS) (.slice none 0 0)) ++ (pkT (0) (0) (zS) (.slice none 0 0) (.slice none 0 0))) Tryz.zeroValue46 rfl fun b44 => ?_)
    refine JL_run rfl (Runs_storeB 0 (vs := (ca43) ++ (cb43)) (l := (ca43) ++ (cb43)) ty46 rfl rfl rfl rfl (len_app (RP_len hA43) (RT_len hB43)) (okc_app (RP_ok hA43) (RT_ok hB43)) (spl_a (n := 71) rfl (len_app (RP_len hA43) (RT_len hB43))) ?_)
    refine JL_nil ?_
    refine J_draw mixed #[0, 1, 0, 4, 12, 0, 32, 124, 252, 508, 1023, 2047, 4095] 10 10 7 rfl (by kernel_rfl) (fun i r45 N45 => match i with | 0 => (r45 0) = .pointer (some ⟨b1, 35, none⟩) | 1 => (r45 1) = w | 2 => (r45 2) = .pointer (some ⟨b44, 0, none⟩) | 3 => (r45 3) = .agg ⟨ca43⟩ | 4 => (r45 4) = .agg ⟨(cel (r45 4))⟩ ∧ OP ((cases)[j].1) (cel (r45 4)) (N45 4) | 5 => (r45 5) = .pointer (some ⟨b44, 35, none⟩) | 6 => (r45 6) = .agg ⟨cb43⟩ | 7 => (r45 7) = .agg ⟨(cel (r45 7))⟩ ∧ OT ((cases)[j].2) (cel (r45 7)) (N45 7) | 8 => (r45 8) = .agg ⟨((cel (r45 4))) ++ ((cel (r45 7)))⟩ | 9 => (r45 9) = .slice (some ⟨(sblk (r45 9)), 0, none⟩) 1 1 ∧ (N45 9) = [(sblk (r45 9), .cells ⟨List.flatten [((cel (r45 4))) ++ ((cel (r45 7)))]⟩ 46 (0, 0))] ∧ Own 46 71 (.slice (some ⟨(sblk (r45 9)), 0, none⟩) 1 1) [((cel (r45 4))) ++ ((cel (r45 7)))] (N45 9) | _ => True) ⟨?_, ?_, ?_, ?_, ?_, ?_, ?_, ?_, ?_, ?_, trivial⟩ ?_
    ·intro ρ r45 N45 B hB hBa hp hr hr0
     have q1 : ρ 1 = .pointer (some ⟨b1, 0, none⟩) := hr0 1 (by kernel_rfl)
     obtain ⟨ρ46, rfl⟩ := reopen_ex (uc q1 un)
     clear q1
     refine JL_pure (v := .pointer (some ⟨b1, 35, none⟩)) rfl (fa27_4 rfl rfl) ?_
     refine JL_nil ?_
     exact ⟨.pointer (some ⟨b1, 35, none⟩), [], rfl, (Sub.emp Sub.refl), rfl⟩
    ·intro ρ r45 N45 B hB hBa hp hr hr0
     have q35 : ρ 35 = .pointer (some ⟨b1, 35, none⟩) := (hr 0 _ _ (by decide) rfl rfl rfl).trans (hp 0 (by decide) rfl)
     obtain ⟨ρ47, rfl⟩ := reopen_ex (uc q35 un)
     clear q35
     refine JL_run rfl (Pu_load1 ty25 rfl (At.bx 11 (made_old ((hB 1 (by decide)).trans rfl))) (pkT_35 ..) ?_)
     refine JL_nil ?_
     exact ⟨w, [], rfl, (Sub.emp Sub.refl), rfl⟩
    ·intro ρ r45 N45 B hB hBa hp hr hr0
     have q8 : ρ 8 = .pointer (some ⟨b44, 0, none⟩) := hr0 8 (by kernel_rfl)
     obtain ⟨ρ48, rfl⟩ := reopen_ex (uc q8 un)
     clear q8
     refine JL_pure (v := .pointer (some ⟨b44, 0, none⟩)) rfl (fa46_0 rfl rfl) ?_
     refine JL_nil ?_
     exact ⟨.pointer (some ⟨b44, 0, none⟩), [], rfl, (Sub.emp Sub.refl), rfl⟩
    ·intro ρ r45 N45 B hB hBa hp hr hr0
     have q37 : ρ 37 = .pointer (some ⟨b44, 0, none⟩) := (hr 2 _ _ (by decide) rfl rfl rfl).trans (hp 2 (by decide) rfl)
     obtain ⟨ρ49, rfl⟩ := reopen_ex (uc q37 un)
     clear q37
     refine JL_run rfl (Pu_load ty42 rfl (At.bx 10 (made_old ((hB 0 (by decide)).trans rfl))) (sub_l (RP_len hA43)) ?_)
     refine JL_nil ?_
     exact ⟨.agg ⟨ca43⟩, [], rfl, (Sub.emp Sub.refl), rfl⟩
    ·intro ρ r45 N45 B hB hBa hp hr hr0
     have q38 : ρ 38 = .agg ⟨ca43⟩ := (hr 3 _ _ (by decide) rfl rfl rfl).trans (hp 3 (by decide) rfl)
     obtain ⟨ρ50, rfl⟩ := reopen_ex (uc q38 un)
     clear q38
     refine JL_call rfl Tryz.call18 rfl (fun hin => ownPattern_ct _ _ _ (RP.mono (Hle.hu _ _) hA43) (by omega)) rfl ?_
     rintro _ _ ⟨cs51, k51, rfl, rfl, hO51⟩
     refine JL_nil ?_
     exact ⟨.agg ⟨cs51⟩, k51, rfl, Sub.refl, ⟨rfl, hO51⟩⟩
    ·intro ρ r45 N45 B hB hBa hp hr hr0
     have q8 : ρ 8 = .pointer (some ⟨b44, 0, none⟩) := hr0 8 (by kernel_rfl)
     obtain ⟨ρ52, rfl⟩ := reopen_ex (uc q8 un)
     clear q8
     refine JL_pure (v := .pointer (some ⟨b44, 35, none⟩)) rfl (fa46_1 rfl rfl) ?_
     refine JL_nil ?_
     exact ⟨.pointer (some ⟨b44, 35, none⟩), [], rfl, (Sub.emp Sub.refl), rfl⟩
    ·intro ρ r45 N45 B hB hBa hp hr hr0
     have q40 : ρ 40 = .pointer (some ⟨b44, 35, none⟩) := (hr 5 _ _ (by decide) rfl rfl rfl).trans (hp 5 (by decide) rfl)
     obtain ⟨ρ53, rfl⟩ := reopen_ex (uc q40 un)
     clear q40
     refine JL_run rfl (Pu_load ty27 rfl (At.bx 10 (made_old ((hB 0 (by decide)).trans rfl))) (sub_r (RP_len hA43) (RT_len hB43)) ?_)
     refine JL_nil ?_
     exact ⟨.agg ⟨cb43⟩, [], rfl, (Sub.emp Sub.refl), rfl⟩
    ·intro ρ r45 N45 B hB hBa hp hr hr0
     have q41 : ρ 41 = .agg ⟨cb43⟩ := (hr 6 _ _ (by decide) rfl rfl rfl).trans (hp 6 (by decide) rfl)
     obtain ⟨ρ54, rfl⟩ := reopen_ex (uc q41 un)
     clear q41
     refine JL_call rfl Tryz.call7 rfl (fun hin => ih' _ (List.getElem_mem h42n) _ _ (RT.mono (Hle.hu _ _) hB43) (by omega)) rfl ?_
     rintro _ _ ⟨cs55, k55, rfl, rfl, hO55⟩
     refine JL_nil ?_
     exact ⟨.agg ⟨cs55⟩, k55, rfl, Sub.refl, ⟨rfl, hO55⟩⟩
    ·intro ρ r45 N45 B hB hBa hp hr hr0
     have p4 : (r45 4) = .agg ⟨(cel (r45 4))⟩ ∧ OP ((cases)[j].1) (cel (r45 4)) (N45 4) := hp 4 (by decide) rfl
     have p7 : (r45 7) = .agg ⟨(cel (r45 7))⟩ ∧ OT ((cases)[j].2) (cel (r45 7)) (N45 7) := hp 7 (by decide) rfl
     have q39 : ρ 39 = .agg ⟨(cel (r45 4))⟩ := (hr 4 _ _ (by decide) rfl rfl rfl).trans p4.1
     have q42 : ρ 42 = .agg ⟨(cel (r45 7))⟩ := (hr 7 _ _ (by decide) rfl rfl rfl).trans p7.1
     obtain ⟨ρ56, rfl⟩ := reopen_ex (uc q39 (uc q42 un))
     clear q39 q42
     refine JL_pure (v := .agg ⟨((cel (r45 4))) ++ ((cel (r45 7)))⟩) rfl (Pu.build (pv := [(0, .agg ⟨(cel (r45 4))⟩), (1, .agg ⟨(cel (r45 7))⟩)]) (l := ((cel (r45 4))) ++ ((cel (r45 7)))) rfl (bld46_0_1 p4.2.len p7.2.len)) ?_
     refine JL_nil ?_
     exact ⟨.agg ⟨((cel (r45 4))) ++ ((cel (r45 7)))⟩, [], rfl, (Sub.emp Sub.refl), rfl⟩
    ·intro ρ r45 N45 B hB hBa hp hr hr0
     have p4 : (r45 4) = .agg ⟨(cel (r45 4))⟩ ∧ OP ((cases)[j].1) (cel (r45 4)) (N45 4) := hp 4 (by decide) rfl
     have p7 : (r45 7) = .agg ⟨(cel (r45 7))⟩ ∧ OT ((cases)[j].2) (cel (r45 7)) (N45 7) := hp 7 (by decide) rfl
     have q43 : ρ 43 = .agg ⟨((cel (r45 4))) ++ ((cel (r45 7)))⟩ := (hr 8 _ _ (by decide) rfl rfl rfl).trans (hp 8 (by decide) rfl)
     obtain ⟨ρ57, rfl⟩ := reopen_ex (uc q43 un)
     clear q43
     refine JL_run rfl (Runs_buildSlice (vs := [.agg ⟨((cel (r45 4))) ++ ((cel (r45 7)))⟩]) [((cel (r45 4))) ++ ((cel (r45 7)))] Tryz.runUnderlying25 el46 rfl rfl (by intro e he; simp only [List.mem_cons, List.not_mem_nil, or_false] at he; subst he; exact (len_app p4.2.len p7.2.len)) rfl (by decide) fun b58 k58 ho58 hk58 => ?_)
     refine JL_nil ?_
     exact ⟨.slice (some ⟨b58, 0, none⟩) 1 1, k58, rfl, Sub.refl, ⟨rfl, hk58, ho58⟩⟩
    ·intro ρ r45 N45 hp hr hr0
     have p4 : (r45 4) = .agg ⟨(cel (r45 4))⟩ ∧ OP ((cases)[j].1) (cel (r45 4)) (N45 4) := hp 4 (by decide)
     have p7 : (r45 7) = .agg ⟨(cel (r45 7))⟩ ∧ OT ((cases)[j].2) (cel (r45 7)) (N45 7) := hp 7 (by decide)
     have p9 : (r45 9) = .slice (some ⟨(sblk (r45 9)), 0, none⟩) 1 1 ∧ (N45 9) = [(sblk (r45 9), .cells ⟨List.flatten [((cel (r45 4))) ++ ((cel (r45 7)))]⟩ 46 (0, 0))] ∧ Own 46 71 (.slice (some ⟨(sblk (r45 9)), 0, none⟩) 1 1) [((cel (r45 4))) ++ ((cel (r45 7)))] (N45 9) := hp 9 (by decide)
     have q1 : ρ 1 = .pointer (some ⟨b1, 0, none⟩) := hr0 1 (by kernel_rfl)
     have q2 : ρ 2 = .pointer (some ⟨b2, 0, none⟩) := hr0 2 (by kernel_rfl)
     have q29 : ρ 29 = cv := hr0 29 (by kernel_rfl)
     have q30 : ρ 30 = .int .i64 (((cases).length : Int)) := hr0 30 (by kernel_rfl)
     have q31 : ρ 31 = .int .i64 ((j : Int)) := hr0 31 (by kernel_rfl)
     have q36 : ρ 36 = w := (hr 1 _ _ (by decide) rfl rfl).trans (hp 1 (by decide))
     have q44 : ρ 44 = .slice (some ⟨(sblk (r45 9)), 0, none⟩) 1 1 := (hr 9 _ _ (by decide) rfl rfl).trans p9.1
     obtain ⟨ρ59, rfl⟩ := reopen_ex (uc q1 (uc q2 (uc q29 (uc q30 (uc q31 (uc q36 (uc q44 un)))))))
     clear q1 q2 q29 q30 q31 q36 q44
     have p45_4 := p4; have p45_7 := p7; have p45_9 := p9
     clear hp hr hr0 p4 p7 p9
     refine JL_sub (M' := [(N45 0), (N45 1), (N45 2), (N45 3), (N45 4), (N45 5), (N45 6), (N45 7), (N45 8), (N45 9), [(b44, .cells ⟨(ca43) ++ (cb43)⟩ 46 (0, 0))], [(b1, .cells ⟨pkT (kind) (num) (ref) (v) (w)⟩ 27 (0, 0))], k3, k4, k1, k2, [(b2, .cells ⟨pkT (0) (0) (zS) (.slice none 0 0) (.slice none 0 0)⟩ 27 (0, 0))]]) Sub.refl ?_
     refine JL_sub (M' := [(N45 4), (N45 7), (N45 9), [(b44, .cells ⟨(ca43) ++ (cb43)⟩ 46 (0, 0))], [(b1, .cells ⟨pkT (kind) (num) (ref) (v) (w)⟩ 27 (0, 0))], k3, k4, k1, k2, [(b2, .cells ⟨pkT (0) (0) (zS) (.slice none 0 0) (.slice none 0 0)⟩ 27 (0, 0))]]) (Sub.cons 4 rfl (Sub.cons 6 rfl (Sub.cons 7 rfl (Sub.cons 7 rfl (Sub.cons 7 rfl (Sub.cons 7 rfl (Sub.cons 7 rfl (Sub.cons 7 rfl (Sub.cons 7 rfl (Sub.cons 7 rfl Sub.nil)))))))))) ?_
     show JL _ _ _ [_, _, _] _ _ _
     have hlens60 : ∀ e ∈ ([((cel (r45 4))) ++ ((cel (r45 7)))] : List (List Value)), List.length e = 71 := by
      intro e he; simp only [List.mem_cons, List.not_mem_nil, or_false] at he
      rcases he with rfl
      ·exact (len_app p45_4.2.len p45_7.2.len)
     have hoks60 : ∀ e ∈ ([((cel (r45 4))) ++ ((cel (r45 7)))] : List (List Value)), okc e := by
      intro e he; simp only [List.mem_cons, List.not_mem_nil, or_false] at he
      rcases he with rfl
      ·exact (okc_app p45_4.2.ok p45_7.2.ok)
     refine JL_run rfl (Runs_append (i := 5) (n := 1) (es' := [((cel (r45 4))) ++ ((cel (r45 7)))]) Tryz.runUnderlying25 Tryz.runUnderlying25 (Or.inl rfl) el46 rfl rfl rfl how (fun F w m => Src.row (((At.k 2 rfl (by rw [p45_9.2.1]; exact List.mem_cons_self))).heap m) (sub_a (flatten_len hlens60))) rfl hlens60 hoks60 (by decide) (by omega) fun v60 k60 ho60 => ?_)
     refine JL_pure (v := .pointer (some ⟨b1, 35, none⟩)) rfl (fa27_4 rfl rfl) ?_
     refine JL_run rfl (Runs_storeB 4 (vs := [v60]) (l := pkT (kind) (num) (ref) (v) (v60)) ty25 rfl rfl rfl (cells_one ho60.one) rfl (okc_cons ho60.one okc_nil) (pkT_s35 ..) ?_)
     refine JL_nil ?_
     refine J_region ?_
     refine JL_pure (v := .int .i64 (((j + 1 : Nat) : Int))) rfl (Pu.inc rfl rfl (by omega)) ?_
     refine JL_pure (v := .int .i64 (((j + 1 : Nat) : Int))) rfl (Pu.move rfl) ?_
     refine JL_nil ?_
     refine ⟨_, ?_, (j + 1), (v60), (es2 ++ [((cel (r45 4))) ++ ((cel (r45 7)))]), (k60), ((k4) ++ (((N45 4)) ++ ((N45 7)))), rfl, rfl, rfl, rfl, rfl, (Sub.cons 4 rfl (Sub.cons 4 rfl (Sub.join3 (Sub.cons 4 rfl (Sub.cons 0 rfl (Sub.cons 0 rfl (Sub.cons 2 rfl (Sub.cons 2 rfl (Sub.cons 2 rfl Sub.nil))))))))), ?_, ?_, ?_, rfl⟩
     ·omega
     ·omega
     ·assumption
     ·rw [List.take_succ_eq_append_getElem h42n]; exact OCs.snoc p45_4.2 p45_7.2 hopw
   ·skip
    replace h42 := df h42
    have h42n : (cases).length ≤ j := by omega
    refine J_exit _ rfl ?_
    refine J_seq ?_
    refine J_region ?_
    refine JL_run rfl (Pu_load ty27 rfl (At.bx 0 rfl) (pkT_a ..) ?_)
    refine JL_run rfl (Runs_storeB 5 (vs := pkT (kind) (num) (ref) (v) (w)) (l := pkT (kind) (num) (ref) (v) (w)) ty27 rfl rfl rfl rfl rfl (pkT_ok hov.one how.one) (pkT_s ..) ?_)
    refine JL_nil ?_
    refine J_ret ?_
    refine ⟨.agg ⟨pkT (kind) (num) (ref) (v) (w)⟩, [k1 ++ (k2 ++ (k3 ++ k4))], Ret.one rfl (RV.cell ty27 rfl (At.bx 5 rfl) (pkT_a ..)), (Sub.join4 (Sub.cons 3 rfl (Sub.cons 3 rfl (Sub.cons 1 rfl (Sub.cons 1 rfl Sub.nil))))), ?_⟩
    rw [List.take_of_length_le h42n] at hopw
    exact ⟨_, _, rfl, rfl, OT_mk.2 ⟨v, w, es, es2, k1, k2, k3, k4, rfl, hk, hn, hov, hopv, how, hopw, rfl, hks.le, hcv.le⟩⟩
end Go.Proofs.YtbfjkdhfelmioaaGreat.Hs
/-! Walks, printed by a program of this session's own (gen.py). -/
namespace Go.Proofs.YtbfjkdhfelmioaaGreat.Hs
open Go Go.Proofs
set_option maxRecDepth 100000
set_option linter.unusedVariables false
set_option linter.unusedSimpArgs false
attribute [local irreducible] JL J CT wlo
theorem moved_ct : ∀ (t : Tm) (b dy fr : Int) (cs : List Value) (H : Heap), RT H cs t → sizeT t ≤ 1000000 → vOK t → 0 ≤ b → b + 2 * sizeT t ≤ 3000000 → -2000000 ≤ dy → dy ≤ 2000000 → CT Tryz.prog 45 ⟨[.agg ⟨cs⟩, .int .i64 b, .int .i64 dy, .int .i64 fr]⟩ [] H (fun v N => ∃ cs k, v = .agg ⟨cs⟩ ∧ N = [k] ∧ OT (mvT dy fr b t) cs k) := by
 intro t
 induction t using Tm.ind with
 | h kind num ref kids cases ih ih' =>
 intro b dy fr cs H ht hz hv hb0 hb hdy1 hdy2
 rw [sizeT] at hz hb
 rw [vOK] at hv
 have hv1 : ¬ kind = 1 ∨ (0 ≤ num ∧ num ≤ 2000000) := by by_cases h : kind = 1; exact .inr (hv.1 h); exact .inl h
 have hlk := len_sizeTs kids
 have hlc := len_sizeCs cases
 obtain ⟨ks, cv, rfl, hk, hn, hks, hcv⟩ := RT_mk.1 ht
 have hn1 : -9223372036854775808 ≤ num := hn.1
 have hn2 : num ≤ 9223372036854775807 := hn.2
 refine CT_enter Tryz.func45 rfl rfl ?_
 refine J_seq ?_
 refine J_region ?_
 refine JL_run rfl (Runs_box (l := pkT (kind) (num) (ref) (ks) (cv)) rfl rfl fun b1 => ?_)
 refine JL_run rfl (Runs_alloc (l := pkT (0) (0) (zS) (.slice none 0 0) (.slice none 0 0)) Tryz.zeroValue27 rfl fun b2 => ?_)
 refine JL_nil ?_
 refine J_seq ?_
 refine J_region ?_
 refine JL_pure (v := .pointer (some ⟨b1, 0, none⟩)) rfl (fa27_0 rfl rfl) ?_
 refine JL_run rfl (Pu_load1 ty3 rfl (At.bx 1 rfl) (pkT_0 ..) ?_)
 refine JL_pure (v := .pointer (some ⟨b1, 1, none⟩)) rfl (fa27_1 rfl rfl) ?_
 refine JL_run rfl (Pu_load1 ty3 rfl (At.bx 1 rfl) (pkT_1 ..) ?_)
 refine JL_pure (v := .pointer (some ⟨b1, 2, none⟩)) rfl (fa27_2 rfl rfl) ?_
 refine JL_run rfl (Pu_load ty23 rfl (At.bx 1 rfl) (pkT_2 ..) ?_)
 refine JL_pure (v := .agg ⟨pkT (kind) (num) (ref) (.slice none 0 0) (.slice none 0 0)⟩) rfl (Pu.build (pv := [(0, .int .i64 (kind)), (1, .int .i64 (num)), (2, .agg ⟨sC (ref)⟩)]) (l := pkT (kind) (num) (ref) (.slice none 0 0) (.slice none 0 0)) rfl (bld27_0_1_2 _ _ _)) ?_
 refine JL_run rfl (Runs_alloc (l := pkT (0) (0) (zS) (.slice none 0 0) (.slice none 0 0)) Tryz.zeroValue27 rfl fun b3 => ?_)
 refine JL_run rfl (Runs_storeB 0 (vs := pkT (kind) (num) (ref) (.slice none 0 0) (.slice none 0 0)) (l := pkT (kind) (num) (ref) (.slice none 0 0) (.slice none 0 0)) ty27 rfl rfl rfl rfl rfl (pkT_ok rfl rfl) (pkT_s ..) ?_)
 refine JL_nil ?_
 refine J_seq ?_
 refine J_cut (fun ρ M => ρ 1 = .int .i64 (b) ∧ ρ 2 = .int .i64 (dy) ∧ ρ 3 = .int .i64 (fr) ∧ ρ 4 = .pointer (some ⟨b1, 0, none⟩) ∧ ρ 8 = .pointer (some ⟨b2, 0, none⟩) ∧ ρ 9 = .pointer (some ⟨b3, 0, none⟩) ∧ ρ 29 = .bool ((decide (kind = 1)) && (decide (fr ≤ num - b))) ∧ M = [[(b3, .cells ⟨pkT (kind) (num) (ref) (.slice none 0 0) (.slice none 0 0)⟩ 27 (0, 0))], [(b2, .cells ⟨pkT (0) (0) (zS) (.slice none 0 0) (.slice none 0 0)⟩ 27 (0, 0))], [(b1, .cells ⟨pkT (kind) (num) (ref) (ks) (cv)⟩ 27 (0, 0))]]) ?_ ?_
 ·refine J_region ?_
  refine JL_pure (v := .pointer (some ⟨b1, 0, none⟩)) rfl (fa27_0 rfl rfl) ?_
  refine JL_run rfl (Pu_load1 ty3 rfl (At.bx 2 rfl) (pkT_0 ..) ?_)
  refine JL_pure (v := .bool (decide (kind = 1))) rfl (Pu.eql rfl rfl) ?_
  refine JL_pure (v := .bool (decide (kind = 1))) rfl (Pu.move rfl) ?_
  cases h4 : (decide (kind = 1)) with
  | true =>
   replace h4 := dt h4
   refine JL_pure (v := .pointer (some ⟨b1, 1, none⟩)) rfl (fa27_1 rfl rfl) ?_
   refine JL_run rfl (Pu_load1 ty3 rfl (At.bx 2 rfl) (pkT_1 ..) ?_)
   refine JL_pure (v := .int .i64 (b)) rfl (Pu.move rfl) ?_
   refine JL_pure (v := .int .i64 (num - b)) rfl (Pu.sub64 rfl rfl (by first | omega | (constructor <;> omega))) ?_
   refine JL_pure (v := .int .i64 (fr)) rfl (Pu.move rfl) ?_
   refine JL_pure (v := .bool (decide (fr ≤ num - b))) rfl (Pu.geq rfl rfl) ?_
   refine JL_pure (v := .bool (decide (fr ≤ num - b))) rfl (Pu.pickT rfl rfl) ?_
   refine JL_nil ?_
   first | exact ⟨rfl, rfl, rfl, rfl, rfl, rfl, rfl, rfl⟩ | (exfalso; omega)
  | false =>
   replace h4 := df h4
   refine JL_skip rfl ?_
   refine JL_skip rfl ?_
   refine JL_skip rfl ?_
   refine JL_skip rfl ?_
   refine JL_skip rfl ?_
   refine JL_skip rfl ?_
   refine JL_pure (v := .bool (false)) rfl (Pu.pickF rfl rfl) ?_
   refine JL_nil ?_
   first | exact ⟨rfl, rfl, rfl, rfl, rfl, rfl, rfl, rfl⟩ | (exfalso; omega)
 ·rintro ρ5 _ ⟨e6, e7, e8, e9, e10, e11, e12, rfl⟩
  obtain ⟨ρ13, rfl⟩ := reopen_ex (uc e6 (uc e7 (uc e8 (uc e9 (uc e10 (uc e11 (uc e12 un)))))))
  clear e6 e7 e8 e9 e10 e11 e12
  refine J_weak (N := fun ρ M => ρ 1 = .int .i64 (b) ∧ ρ 2 = .int .i64 (dy) ∧ ρ 3 = .int .i64 (fr) ∧ ρ 4 = .pointer (some ⟨b1, 0, none⟩) ∧ ρ 8 = .pointer (some ⟨b2, 0, none⟩) ∧ ρ 9 = .pointer (some ⟨b3, 0, none⟩) ∧ M = [[(b3, .cells ⟨pkT (kind) ((if kind = 1 ∧ fr ≤ num - b then num + dy else num)) (ref) (.slice none 0 0) (.slice none 0 0)⟩ 27 (0, 0))], [(b2, .cells ⟨pkT (0) (0) (zS) (.slice none 0 0) (.slice none 0 0)⟩ 27 (0, 0))], [(b1, .cells ⟨pkT (kind) (num) (ref) (ks) (cv)⟩ 27 (0, 0))]]) ?_ ?_
  ·skip
   refine J_cond (b := (decide (kind = 1)) && (decide (fr ≤ num - b))) rfl (fun h14 => ?_) (fun h14 => ?_)
   ·skip
    obtain ⟨h14a, h14b⟩ := andT h14
    replace h14a := dt h14a
    replace h14b := dt h14b
    refine J_region ?_
    refine JL_pure (v := .pointer (some ⟨b1, 1, none⟩)) rfl (fa27_1 rfl rfl) ?_
    refine JL_run rfl (Pu_load1 ty3 rfl (At.bx 2 rfl) (pkT_1 ..) ?_)
    refine JL_pure (v := .int .i64 (dy)) rfl (Pu.move rfl) ?_
    refine JL_pure (v := .int .i64 (num + dy)) rfl (Pu.add64 rfl rfl (by first | omega | (constructor <;> omega))) ?_
    refine JL_pure (v := .pointer (some ⟨b3, 1, none⟩)) rfl (fa27_1 rfl rfl) ?_
    refine JL_run rfl (Runs_storeB 0 (vs := [.int .i64 (num + dy)]) (l := pkT (kind) (num + dy) (ref) (.slice none 0 0) (.slice none 0 0)) ty3 rfl rfl rfl rfl rfl (okc_cons rfl okc_nil) (pkT_s1 ..) ?_)
    refine JL_nil ?_
    have hC : (kind = 1 ∧ fr ≤ num - b) := by exact ⟨h14a, h14b⟩
    rw [if_pos hC]
    exact ⟨rfl, rfl, rfl, rfl, rfl, rfl, rfl⟩
   ·skip
    refine J_skip ?_
    have hC : ¬ (kind = 1 ∧ fr ≤ num - b) := by intro hh; simp_all
    rw [if_neg hC]
    exact ⟨rfl, rfl, rfl, rfl, rfl, rfl, rfl⟩
  ·rintro ρ15 _ ⟨e16, e17, e18, e19, e20, e21, rfl⟩
   obtain ⟨ρ22, rfl⟩ := reopen_ex (uc e16 (uc e17 (uc e18 (uc e19 (uc e20 (uc e21 un))))))
   clear e16 e17 e18 e19 e20 e21
   refine J_seq ?_
   refine J_seq ?_
   refine J_region ?_
   refine JL_pure (v := .int .i64 (0)) rfl (Pu.assign rfl) ?_
   refine JL_nil ?_
   refine J_block ?_
   refine J_loop (fun k ρ M => ∃ (j : Nat) (v : Value) (es : List (List Value)) (k1 k2 : Chunk), ρ 1 = .int .i64 (b) ∧ ρ 2 = .int .i64 (dy) ∧ ρ 3 = .int .i64 (fr) ∧ ρ 4 = .pointer (some ⟨b1, 0, none⟩) ∧ ρ 8 = .pointer (some ⟨b2, 0, none⟩) ∧ ρ 9 = .pointer (some ⟨b3, 0, none⟩) ∧ ρ 10 = .int .i64 ((j : Int)) ∧ Sub [[(b3, .cells ⟨pkT (kind) ((if kind = 1 ∧ fr ≤ num - b then num + dy else num)) (ref) (v) (.slice none 0 0)⟩ 27 (0, 0))], k1, k2, [(b2, .cells ⟨pkT (0) (0) (zS) (.slice none 0 0) (.slice none 0 0)⟩ 27 (0, 0))], [(b1, .cells ⟨pkT (kind) (num) (ref) (ks) (cv)⟩ 27 (0, 0))]] M ∧ j ≤ (kids).length ∧ Own 27 36 v es k1 ∧ OTs (mvTs dy fr b kind 0 (kids.take j)) es k2 ∧ k = (kids).length - j) _ ⟨0, (.slice none 0 0), [], [], [], rfl, rfl, rfl, rfl, rfl, rfl, rfl, (Sub.cons 0 rfl (Sub.emp (Sub.emp (Sub.cons 0 rfl (Sub.cons 0 rfl Sub.nil))))), Nat.zero_le _, Own.nil, OTs.nil, rfl⟩ ?_
   rintro _ ρ23 _ ⟨j, v, es, k1, k2, e24, e25, e26, e27, e28, e29, e30, hm31, hj, hov, hopv, rfl⟩
   obtain ⟨ρ32, rfl⟩ := reopen_ex (uc e24 (uc e25 (uc e26 (uc e27 (uc e28 (uc e29 (uc e30 un)))))))
   clear e24 e25 e26 e27 e28 e29 e30
   refine J_sub hm31 ?_
   have hlen := hks.le
   refine J_seq ?_
   refine J_seq ?_
   refine J_region ?_
   refine JL_pure (v := .int .i64 ((j : Int))) rfl (Pu.move rfl) ?_
   refine JL_pure (v := .pointer (some ⟨b1, 34, none⟩)) rfl (fa27_3 rfl rfl) ?_
   refine JL_run rfl (Pu_load1 ty24 rfl (At.bx 4 rfl) (pkT_34 ..) ?_)
   obtain ⟨a33, cap33, hv33⟩ := hks.sl
   have hle33 := hks.le
   refine JL_pure (v := .int .i64 (((kids).length : Int))) rfl (Pu.lenSl Tryz.runUnderlying24 hv33) ?_
   refine JL_pure (v := .bool (decide ((j : Int) < ((kids).length : Int)))) rfl (Pu.lss rfl rfl) ?_
   refine JL_nil ?_
   refine J_cond (b := decide ((j : Int) < ((kids).length : Int))) rfl (fun h34 => ?_) (fun h34 => ?_)
   ·skip
    replace h34 := dt h34
    have h34n : j < (kids).length := by omega
    have helv := OTs_len hopv
    rw [mvTs_len, List.length_take] at helv
    have hs1 := sizeTs_mem _ (List.getElem_mem h34n)
    have hm1 := more_le kind j
    refine J_skip ?_
    refine J_seq ?_
    refine J_block ?_
    obtain ⟨b36, o36, cap36, row36, T36, fr36, cs36, hv36, hb36, hs36, hE36⟩ := hks.get j (by first | assumption | omega | decide | simp)
    refine J_draw mixed #[0, 1, 0, 4, 0, 28, 60, 0, 0, 256, 0, 1792, 3968, 0, 0, 32764, 65532, 131071, 262143, 524287] 17 17 5 rfl (by kernel_rfl) (fun i r35 N35 => match i with | 0 => (r35 0) = .pointer (some ⟨b3, 34, none⟩) | 1 => (r35 1) = v | 2 => (r35 2) = .pointer (some ⟨b1, 34, none⟩) | 3 => (r35 3) = ks | 4 => (r35 4) = .int .i64 ((j : Int)) | 5 => (r35 5) = .pointer (some ⟨b36, o36 + j * 36, none⟩) | 6 => (r35 6) = .agg ⟨cs36⟩ | 7 => (r35 7) = .int .i64 (b) | 8 => (r35 8) = .pointer (some ⟨b1, 0, none⟩) | 9 => (r35 9) = .int .i64 (kind) | 10 => (r35 10) = .int .i64 ((j : Int)) | 11 => (r35 11) = .int .i64 (more (kind) ((j : Int))) | 12 => (r35 12) = .int .i64 (b + (more (kind) ((j : Int)))) | 13 => (r35 13) = .int .i64 (dy) | 14 => (r35 14) = .int .i64 (fr) | 15 => (r35 15) = .agg ⟨(cel (r35 15))⟩ ∧ OT (mvT (dy) (fr) (b + (more (kind) ((j : Int)))) ((kids)[j])) (cel (r35 15)) (N35 15) | 16 => (r35 16) = .slice (some ⟨(sblk (r35 16)), 0, none⟩) 1 1 ∧ (N35 16) = [(sblk (r35 16), .cells ⟨List.flatten [(cel (r35 15))]⟩ 27 (0, 0))] ∧ Own 27 36 (.slice (some ⟨(sblk (r35 16)), 0, none⟩) 1 1) [(cel (r35 15))] (N35 16) | _ => True) ⟨?_, ?_, ?_, ?_, ?_, ?_, ?_, ?_, ?_, ?_, ?_, ?_, ?_, ?_, ?_, ?_, ?_, trivial⟩ ?_
    ·intro ρ r35 N35 B hB hBa hp hr hr0
     have q9 : ρ 9 = .pointer (some ⟨b3, 0, none⟩) := hr0 9 (by kernel_rfl)
     obtain ⟨ρ37, rfl⟩ := reopen_ex (uc q9 un)
     clear q9
     refine JL_pure (v := .pointer (some ⟨b3, 34, none⟩)) rfl (fa27_3 rfl rfl) ?_
     refine JL_nil ?_
     exact ⟨.pointer (some ⟨b3, 34, none⟩), [], rfl, (Sub.emp Sub.refl), rfl⟩
    ·intro ρ r35 N35 B hB hBa hp hr hr0
     have q42 : ρ 42 = .pointer (some ⟨b3, 34, none⟩) := (hr 0 _ _ (by decide) rfl rfl rfl).trans (hp 0 (by decide) rfl)
     obtain ⟨ρ38, rfl⟩ := reopen_ex (uc q42 un)
     clear q42
     refine JL_run rfl (Pu_load1 ty24 rfl (At.bx 17 (made_old ((hB 0 (by decide)).trans rfl))) (pkT_34 ..) ?_)
     refine JL_nil ?_
     exact ⟨v, [], rfl, (Sub.emp Sub.refl), rfl⟩
    ·intro ρ r35 N35 B hB hBa hp hr hr0
     have q4 : ρ 4 = .pointer (some ⟨b1, 0, none⟩) := hr0 4 (by kernel_rfl)
     obtain ⟨ρ39, rfl⟩ := reopen_ex (uc q4 un)
     clear q4
     refine JL_pure (v := .pointer (some ⟨b1, 34, none⟩)) rfl (fa27_3 rfl rfl) ?_
     refine JL_nil ?_
     exact ⟨.pointer (some ⟨b1, 34, none⟩), [], rfl, (Sub.emp Sub.refl), rfl⟩
    ·intro ρ r35 N35 B hB hBa hp hr hr0
     have q44 : ρ 44 = .pointer (some ⟨b1, 34, none⟩) := (hr 2 _ _ (by decide) rfl rfl rfl).trans (hp 2 (by decide) rfl)
     obtain ⟨ρ40, rfl⟩ := reopen_ex (uc q44 un)
     clear q44
     refine JL_run rfl (Pu_load1 ty24 rfl (At.bx 21 (made_old ((hB 4 (by decide)).trans rfl))) (pkT_34 ..) ?_)
     refine JL_nil ?_
     exact ⟨ks, [], rfl, (Sub.emp Sub.refl), rfl⟩
    ·intro ρ r35 N35 B hB hBa hp hr hr0
     have q10 : ρ 10 = .int .i64 ((j : Int)) := hr0 10 (by kernel_rfl)
     obtain ⟨ρ41, rfl⟩ := reopen_ex (uc q10 un)
     clear q10
     refine JL_pure (v := .int .i64 ((j : Int))) rfl (Pu.move rfl) ?_
     refine JL_nil ?_
     exact ⟨.int .i64 ((j : Int)), [], rfl, (Sub.emp Sub.refl), rfl⟩
    ·intro ρ r35 N35 B hB hBa hp hr hr0
     have q45 : ρ 45 = ks := (hr 3 _ _ (by decide) rfl rfl rfl).trans (hp 3 (by decide) rfl)
     have q46 : ρ 46 = .int .i64 ((j : Int)) := (hr 4 _ _ (by decide) rfl rfl rfl).trans (hp 4 (by decide) rfl)
     obtain ⟨ρ42, rfl⟩ := reopen_ex (uc q45 (uc q46 un))
     clear q45 q46
     refine JL_pure (v := .pointer (some ⟨b36, o36 + j * 36, none⟩)) rfl (Pu.idx j Tryz.runUnderlying24 ty27 hv36 rfl rfl (by first | assumption | omega | decide | simp)) ?_
     refine JL_nil ?_
     exact ⟨.pointer (some ⟨b36, o36 + j * 36, none⟩), [], rfl, (Sub.emp Sub.refl), rfl⟩
    ·intro ρ r35 N35 B hB hBa hp hr hr0
     have q47 : ρ 47 = .pointer (some ⟨b36, o36 + j * 36, none⟩) := (hr 5 _ _ (by decide) rfl rfl rfl).trans (hp 5 (by decide) rfl)
     obtain ⟨ρ43, rfl⟩ := reopen_ex (uc q47 un)
     clear q47
     refine JL_run rfl (Pu_load ty27 rfl (At.im hb36) hs36 ?_)
     refine JL_nil ?_
     exact ⟨.agg ⟨cs36⟩, [], rfl, (Sub.emp Sub.refl), rfl⟩
    ·intro ρ r35 N35 B hB hBa hp hr hr0
     have q1 : ρ 1 = .int .i64 (b) := hr0 1 (by kernel_rfl)
     obtain ⟨ρ44, rfl⟩ := reopen_ex (uc q1 un)
     clear q1
     refine JL_pure (v := .int .i64 (b)) rfl (Pu.move rfl) ?_
     refine JL_nil ?_
     exact ⟨.int .i64 (b), [], rfl, (Sub.emp Sub.refl), rfl⟩
    ·intro ρ r35 N35 B hB hBa hp hr hr0
     have q4 : ρ 4 = .pointer (some ⟨b1, 0, none⟩) := hr0 4 (by kernel_rfl)
     obtain ⟨ρ45, rfl⟩ := reopen_ex (uc q4 un)
     clear q4
     refine JL_pure (v := .pointer (some ⟨b1, 0, none⟩)) rfl (fa27_0 rfl rfl) ?_
     refine JL_nil ?_
     exact ⟨.pointer (some ⟨b1, 0, none⟩), [], rfl, (Sub.emp Sub.refl), rfl⟩
    ·intro ρ r35 N35 B hB hBa hp hr hr0
     have q50 : ρ 50 = .pointer (some ⟨b1, 0, none⟩) := (hr 8 _ _ (by decide) rfl rfl rfl).trans (hp 8 (by decide) rfl)
     obtain ⟨ρ46, rfl⟩ := reopen_ex (uc q50 un)
     clear q50
     refine JL_run rfl (Pu_load1 ty3 rfl (At.bx 21 (made_old ((hB 4 (by decide)).trans rfl))) (pkT_0 ..) ?_)
     refine JL_nil ?_
     exact ⟨.int .i64 (kind), [], rfl, (Sub.emp Sub.refl), rfl⟩
    ·intro ρ r35 N35 B hB hBa hp hr hr0
     have q10 : ρ 10 = .int .i64 ((j : Int)) := hr0 10 (by kernel_rfl)
     obtain ⟨ρ47, rfl⟩ := reopen_ex (uc q10 un)
     clear q10
     refine JL_pure (v := .int .i64 ((j : Int))) rfl (Pu.move rfl) ?_
     refine JL_nil ?_
     exact ⟨.int .i64 ((j : Int)), [], rfl, (Sub.emp Sub.refl), rfl⟩
    ·intro ρ r35 N35 B hB hBa hp hr hr0
     have q51 : ρ 51 = .int .i64 (kind) := (hr 9 _ _ (by decide) rfl rfl rfl).trans (hp 9 (by decide) rfl)
     have q52 : ρ 52 = .int .i64 ((j : Int)) := (hr 10 _ _ (by decide) rfl rfl rfl).trans (hp 10 (by decide) rfl)
     obtain ⟨ρ48, rfl⟩ := reopen_ex (uc q51 (uc q52 un))
     clear q51 q52
     refine JL_call rfl Tryz.call82 rfl (fun hin => moreR_ct _ _ _) rfl ?_
     rintro _ _ ⟨rfl, rfl⟩
     refine JL_nil ?_
     exact ⟨.int .i64 (more (kind) ((j : Int))), [], rfl, (Sub.emp Sub.refl), rfl⟩
    ·intro ρ r35 N35 B hB hBa hp hr hr0
     have q49 : ρ 49 = .int .i64 (b) := (hr 7 _ _ (by decide) rfl rfl rfl).trans (hp 7 (by decide) rfl)
     have q53 : ρ 53 = .int .i64 (more (kind) ((j : Int))) := (hr 11 _ _ (by decide) rfl rfl rfl).trans (hp 11 (by decide) rfl)
     obtain ⟨ρ49, rfl⟩ := reopen_ex (uc q49 (uc q53 un))
     clear q49 q53
     refine JL_pure (v := .int .i64 (b + (more (kind) ((j : Int))))) rfl (Pu.add64 rfl rfl (by first | omega | (constructor <;> omega))) ?_
     refine JL_nil ?_
     exact ⟨.int .i64 (b + (more (kind) ((j : Int)))), [], rfl, (Sub.emp Sub.refl), rfl⟩
    ·intro ρ r35 N35 B hB hBa hp hr hr0
     have q2 : ρ 2 = .int .i64 (dy) := hr0 2 (by kernel_rfl)
     obtain ⟨ρ50, rfl⟩ := reopen_ex (uc q2 un)
     clear q2
     refine JL_pure (v := .int .i64 (dy)) rfl (Pu.move rfl) ?_
     refine JL_nil ?_
     exact ⟨.int .i64 (dy), [], rfl, (Sub.emp Sub.refl), rfl⟩
    ·intro ρ r35 N35 B hB hBa hp hr hr0
     have q3 : ρ 3 = .int .i64 (fr) := hr0 3 (by kernel_rfl)
     obtain ⟨ρ51, rfl⟩ := reopen_ex (uc q3 un)
     clear q3
     refine JL_pure (v := .int .i64 (fr)) rfl (Pu.move rfl) ?_
     refine JL_nil ?_
     exact ⟨.int .i64 (fr), [], rfl, (Sub.emp Sub.refl), rfl⟩
    ·intro ρ r35 N35 B hB hBa hp hr hr0
     have q48 : ρ 48 = .agg ⟨cs36⟩ := (hr 6 _ _ (by decide) rfl rfl rfl).trans (hp 6 (by decide) rfl)
     have q54 : ρ 54 = .int .i64 (b + (more (kind) ((j : Int)))) := (hr 12 _ _ (by decide) rfl rfl rfl).trans (hp 12 (by decide) rfl)
     have q55 : ρ 55 = .int .i64 (dy) := (hr 13 _ _ (by decide) rfl rfl rfl).trans (hp 13 (by decide) rfl)
     have q56 : ρ 56 = .int .i64 (fr) := (hr 14 _ _ (by decide) rfl rfl rfl).trans (hp 14 (by decide) rfl)
     obtain ⟨ρ52, rfl⟩ := reopen_ex (uc q48 (uc q54 (uc q55 (uc q56 un))))
     clear q48 q54 q55 q56
     refine JL_call rfl Tryz.call45 rfl (fun hin => ih _ (List.getElem_mem h34n) _ _ _ _ _ (RT.mono (Hle.hu _ _) hE36) (by omega) (vOKs_mem hv.2.1 _ (List.getElem_mem h34n)) (by omega) (by omega) hdy1 hdy2) rfl ?_
     rintro _ _ ⟨cs53, k53, rfl, rfl, hO53⟩
     refine JL_nil ?_
     exact ⟨.agg ⟨cs53⟩, k53, rfl, Sub.refl, ⟨rfl, hO53⟩⟩
    ·intro ρ r35 N35 B hB hBa hp hr hr0
     have p15 : (r35 15) = .agg ⟨(cel (r35 15))⟩ ∧ OT (mvT (dy) (fr) (b + (more (kind) ((j : Int)))) ((kids)[j])) (cel (r35 15)) (N35 15) := hp 15 (by decide) rfl
     have q57 : ρ 57 = .agg ⟨(cel (r35 15))⟩ := (hr 15 _ _ (by decide) rfl rfl rfl).trans p15.1
     obtain ⟨ρ54, rfl⟩ := reopen_ex (uc q57 un)
     clear q57
     refine JL_run rfl (Runs_buildSlice (vs := [.agg ⟨(cel (r35 15))⟩]) [(cel (r35 15))] Tryz.runUnderlying24 el27 rfl rfl (by intro e he; simp only [List.mem_cons, List.not_mem_nil, or_false] at he; subst he; exact p15.2.len) rfl (by decide) fun b55 k55 ho55 hk55 => ?_)
     refine JL_nil ?_
     exact ⟨.slice (some ⟨b55, 0, none⟩) 1 1, k55, rfl, Sub.refl, ⟨rfl, hk55, ho55⟩⟩
    ·intro ρ r35 N35 hp hr hr0
     have p15 : (r35 15) = .agg ⟨(cel (r35 15))⟩ ∧ OT (mvT (dy) (fr) (b + (more (kind) ((j : Int)))) ((kids)[j])) (cel (r35 15)) (N35 15) := hp 15 (by decide)
     have p16 : (r35 16) = .slice (some ⟨(sblk (r35 16)), 0, none⟩) 1 1 ∧ (N35 16) = [(sblk (r35 16), .cells ⟨List.flatten [(cel (r35 15))]⟩ 27 (0, 0))] ∧ Own 27 36 (.slice (some ⟨(sblk (r35 16)), 0, none⟩) 1 1) [(cel (r35 15))] (N35 16) := hp 16 (by decide)
     have q1 : ρ 1 = .int .i64 (b) := hr0 1 (by kernel_rfl)
     have q2 : ρ 2 = .int .i64 (dy) := hr0 2 (by kernel_rfl)
     have q3 : ρ 3 = .int .i64 (fr) := hr0 3 (by kernel_rfl)
     have q4 : ρ 4 = .pointer (some ⟨b1, 0, none⟩) := hr0 4 (by kernel_rfl)
     have q8 : ρ 8 = .pointer (some ⟨b2, 0, none⟩) := hr0 8 (by kernel_rfl)
     have q9 : ρ 9 = .pointer (some ⟨b3, 0, none⟩) := hr0 9 (by kernel_rfl)
     have q10 : ρ 10 = .int .i64 ((j : Int)) := hr0 10 (by kernel_rfl)
     have q43 : ρ 43 = v := (hr 1 _ _ (by decide) rfl rfl).trans (hp 1 (by decide))
     have q58 : ρ 58 = .slice (some ⟨(sblk (r35 16)), 0, none⟩) 1 1 := (hr 16 _ _ (by decide) rfl rfl).trans p16.1
     obtain ⟨ρ56, rfl⟩ := reopen_ex (uc q1 (uc q2 (uc q3 (uc q4 (uc q8 (uc q9 (uc q10 (uc q43 (uc q58 un)))))))))
     clear q1 q2 q3 q4 q8 q9 q10 q43 q58
     have p35_15 := p15; have p35_16 := p16
     clear hp hr hr0 p15 p16
     refine JL_sub (M' := [(N35 0), (N35 1), (N35 2), (N35 3), (N35 4), (N35 5), (N35 6), (N35 7), (N35 8), (N35 9), (N35 10), (N35 11), (N35 12), (N35 13), (N35 14), (N35 15), (N35 16), [(b3, .cells ⟨pkT (kind) ((if kind = 1 ∧ fr ≤ num - b then num + dy else num)) (ref) (v) (.slice none 0 0)⟩ 27 (0, 0))], k1, k2, [(b2, .cells ⟨pkT (0) (0) (zS) (.slice none 0 0) (.slice none 0 0)⟩ 27 (0, 0))], [(b1, .cells ⟨pkT (kind) (num) (ref) (ks) (cv)⟩ 27 (0, 0))]]) Sub.refl ?_
     refine JL_sub (M' := [(N35 15), (N35 16), [(b3, .cells ⟨pkT (kind) ((if kind = 1 ∧ fr ≤ num - b then num + dy else num)) (ref) (v) (.slice none 0 0)⟩ 27 (0, 0))], k1, k2, [(b2, .cells ⟨pkT (0) (0) (zS) (.slice none 0 0) (.slice none 0 0)⟩ 27 (0, 0))], [(b1, .cells ⟨pkT (kind) (num) (ref) (ks) (cv)⟩ 27 (0, 0))]]) (Sub.cons 15 rfl (Sub.cons 15 rfl (Sub.cons 15 rfl (Sub.cons 15 rfl (Sub.cons 15 rfl (Sub.cons 15 rfl (Sub.cons 15 rfl Sub.nil))))))) ?_
     show JL _ _ _ [_, _, _] _ _ _
     have hlens57 : ∀ e ∈ ([(cel (r35 15))] : List (List Value)), List.length e = 36 := by
      intro e he; simp only [List.mem_cons, List.not_mem_nil, or_false] at he
      rcases he with rfl
      ·exact p35_15.2.len
     have hoks57 : ∀ e ∈ ([(cel (r35 15))] : List (List Value)), okc e := by
      intro e he; simp only [List.mem_cons, List.not_mem_nil, or_false] at he
      rcases he with rfl
      ·exact p35_15.2.ok
     refine JL_run rfl (Runs_append (i := 3) (n := 1) (es' := [(cel (r35 15))]) Tryz.runUnderlying24 Tryz.runUnderlying24 (Or.inl rfl) el27 rfl rfl rfl hov (fun F w m => Src.row (((At.k 1 rfl (by rw [p35_16.2.1]; exact List.mem_cons_self))).heap m) (sub_a (flatten_len hlens57))) rfl hlens57 hoks57 (by decide) (by omega) fun v57 k57 ho57 => ?_)
     refine JL_pure (v := .pointer (some ⟨b3, 34, none⟩)) rfl (fa27_3 rfl rfl) ?_
     refine JL_run rfl (Runs_storeB 2 (vs := [v57]) (l := pkT (kind) ((if kind = 1 ∧ fr ≤ num - b then num + dy else num)) (ref) (v57) (.slice none 0 0)) ty24 rfl rfl rfl (cells_one ho57.one) rfl (okc_cons ho57.one okc_nil) (pkT_s34 ..) ?_)
     refine JL_nil ?_
     refine J_region ?_
     refine JL_pure (v := .int .i64 ((j : Int))) rfl (Pu.move rfl) ?_
     refine JL_pure (v := .int .i64 (((j + 1 : Nat) : Int))) rfl (Pu.inc rfl rfl (by omega)) ?_
     refine JL_pure (v := .int .i64 (((j + 1 : Nat) : Int))) rfl (Pu.assign rfl) ?_
     refine JL_nil ?_
     refine ⟨_, ?_, (j + 1), (v57), (es ++ [(cel (r35 15))]), (k57), ((k2) ++ ((N35 15))), rfl, rfl, rfl, rfl, rfl, rfl, rfl, (Sub.cons 2 rfl (Sub.cons 2 rfl (Sub.join (Sub.cons 2 rfl (Sub.cons 0 rfl (Sub.cons 1 rfl (Sub.cons 1 rfl Sub.nil))))))), ?_, ?_, ?_, rfl⟩
     ·omega
     ·omega
     ·assumption
     ·rw [mvTs_take0 dy fr b kind kids j h34n]; exact OTs.snoc p35_15.2 hopv
   ·skip
    replace h34 := df h34
    have h34n : (kids).length ≤ j := by omega
    refine J_exit _ rfl ?_
    refine J_seq ?_
    refine J_seq ?_
    refine J_region ?_
    refine JL_pure (v := .int .i64 (0)) rfl (Pu.assign rfl) ?_
    refine JL_nil ?_
    refine J_block ?_
    rw [List.take_of_length_le h34n] at hopv
    refine J_loop (fun k ρ M => ∃ (j : Nat) (w : Value) (es2 : List (List Value)) (k3 k4 : Chunk), ρ 1 = .int .i64 (b) ∧ ρ 2 = .int .i64 (dy) ∧ ρ 3 = .int .i64 (fr) ∧ ρ 4 = .pointer (some ⟨b1, 0, none⟩) ∧ ρ 8 = .pointer (some ⟨b2, 0, none⟩) ∧ ρ 9 = .pointer (some ⟨b3, 0, none⟩) ∧ ρ 11 = .int .i64 ((j : Int)) ∧ Sub [[(b3, .cells ⟨pkT (kind) ((if kind = 1 ∧ fr ≤ num - b then num + dy else num)) (ref) (v) (w)⟩ 27 (0, 0))], k3, k4, k1, k2, [(b2, .cells ⟨pkT (0) (0) (zS) (.slice none 0 0) (.slice none 0 0)⟩ 27 (0, 0))], [(b1, .cells ⟨pkT (kind) (num) (ref) (ks) (cv)⟩ 27 (0, 0))]] M ∧ j ≤ (cases).length ∧ Own 46 71 w es2 k3 ∧ OCs (mvCs dy fr b (cases.take j)) es2 k4 ∧ k = (cases).length - j) _ ⟨0, (.slice none 0 0), [], [], [], rfl, rfl, rfl, rfl, rfl, rfl, rfl, (Sub.cons 0 rfl (Sub.emp (Sub.emp (Sub.cons 0 rfl (Sub.cons 0 rfl (Sub.cons 0 rfl (Sub.cons 0 rfl Sub.nil))))))), Nat.zero_le _, Own.nil, OCs.nil, rfl⟩ ?_
    rintro _ ρ58 _ ⟨j, w, es2, k3, k4, e59, e60, e61, e62, e63, e64, e65, hm66, hj, how, hopw, rfl⟩
    obtain ⟨ρ67, rfl⟩ := reopen_ex (uc e59 (uc e60 (uc e61 (uc e62 (uc e63 (uc e64 (uc e65 un)))))))
    clear e59 e60 e61 e62 e63 e64 e65
    refine J_sub hm66 ?_
    have hlen := hcv.le
    refine J_seq ?_
    refine J_seq ?_
    refine J_region ?_
    refine JL_pure (v := .int .i64 ((j : Int))) rfl (Pu.move rfl) ?_
    refine JL_pure (v := .pointer (some ⟨b1, 35, none⟩)) rfl (fa27_4 rfl rfl) ?_
    refine JL_run rfl (Pu_load1 ty25 rfl (At.bx 6 rfl) (pkT_35 ..) ?_)
    obtain ⟨a68, cap68, hv68⟩ := hcv.sl
    have hle68 := hcv.le
    refine JL_pure (v := .int .i64 (((cases).length : Int))) rfl (Pu.lenSl Tryz.runUnderlying25 hv68) ?_
    refine JL_pure (v := .bool (decide ((j : Int) < ((cases).length : Int)))) rfl (Pu.lss rfl rfl) ?_
    refine JL_nil ?_
    refine J_cond (b := decide ((j : Int) < ((cases).length : Int))) rfl (fun h69 => ?_) (fun h69 => ?_)
    ·skip
     replace h69 := dt h69
     have h69n : j < (cases).length := by omega
     have helw := OCs_len hopw
     rw [mvCs_len, List.length_take] at helw
     have hs1 := sizeCs_mem _ (List.getElem_mem h69n)
     have hm1 := binds_le (cases[j]).1
     refine J_skip ?_
     refine J_seq ?_
     refine J_block ?_
     obtain ⟨b71, o71, cap71, row71, T71, fr71, cs71, hv71, hb71, hs71, hE71⟩ := hcv.get j (by first | assumption | omega | decide | simp)
     obtain ⟨ca71, cb71, rfl, hA71, hB71⟩ := hE71
     refine J_draw mixed #[0, 1, 0, 4, 0, 28, 60, 124, 252, 0, 512, 0, 3584, 7680, 15872, 0, 0, 65536, 0, 458752, 983040, 2031616, 4129276, 8356348, 0, 0, 67108860, 134217724, 268435452, 536870911, 1073741823, 2147483647] 29 29 7 rfl (by kernel_rfl) (fun i r70 N70 => match i with | 0 => (r70 0) = .pointer (some ⟨b3, 35, none⟩) | 1 => (r70 1) = w | 2 => (r70 2) = .pointer (some ⟨b1, 35, none⟩) | 3 => (r70 3) = cv | 4 => (r70 4) = .int .i64 ((j : Int)) | 5 => (r70 5) = .pointer (some ⟨b71, o71 + j * 71, none⟩) | 6 => (r70 6) = .pointer (some ⟨b71, o71 + j * 71, none⟩) | 7 => (r70 7) = .agg ⟨ca71⟩ | 8 => (r70 8) = .agg ⟨(cel (r70 8))⟩ ∧ OP ((cases)[j].1) (cel (r70 8)) (N70 8) | 9 => (r70 9) = .pointer (some ⟨b1, 35, none⟩) | 10 => (r70 10) = cv | 11 => (r70 11) = .int .i64 ((j : Int)) | 12 => (r70 12) = .pointer (some ⟨b71, o71 + j * 71, none⟩) | 13 => (r70 13) = .pointer (some ⟨b71, o71 + j * 71 + 35, none⟩) | 14 => (r70 14) = .agg ⟨cb71⟩ | 15 => (r70 15) = .int .i64 (b) | 16 => (r70 16) = .pointer (some ⟨b1, 35, none⟩) | 17 => (r70 17) = cv | 18 => (r70 18) = .int .i64 ((j : Int)) | 19 => (r70 19) = .pointer (some ⟨b71, o71 + j * 71, none⟩) | 20 => (r70 20) = .pointer (some ⟨b71, o71 + j * 71, none⟩) | 21 => (r70 21) = .agg ⟨ca71⟩ | 22 => (r70 22) = .int .i64 ((binds ((cases)[j].1) : Int)) | 23 => (r70 23) = .int .i64 (b + ((binds ((cases)[j].1) : Int))) | 24 => (r70 24) = .int .i64 (dy) | 25 => (r70 25) = .int .i64 (fr) | 26 => (r70 26) = .agg ⟨(cel (r70 26))⟩ ∧ OT (mvT (dy) (fr) (b + ((binds ((cases)[j].1) : Int))) ((cases)[j].2)) (cel (r70 26)) (N70 26) | 27 => (r70 27) = .agg ⟨((cel (r70 8))) ++ ((cel (r70 26)))⟩ | 28 => (r70 28) = .slice (some ⟨(sblk (r70 28)), 0, none⟩) 1 1 ∧ (N70 28) = [(sblk (r70 28), .cells ⟨List.flatten [((cel (r70 8))) ++ ((cel (r70 26)))]⟩ 46 (0, 0))] ∧ Own 46 71 (.slice (some ⟨(sblk (r70 28)), 0, none⟩) 1 1) [((cel (r70 8))) ++ ((cel (r70 26)))] (N70 28) | _ => True) ⟨?_, ?_, ?_, ?_, ?_, ?_, ?_, ?_, ?_, ?_, ?_, ?_, ?_, ?_, ?_, ?_, ?_, ?_, ?_, ?_, ?_, ?_, ?_, ?_, ?_, ?_, ?_, ?_, ?_, trivial⟩ ?_
     ·intro ρ r70 N70 B hB hBa hp hr hr0
      have q9 : ρ 9 = .pointer (some ⟨b3, 0, none⟩) := hr0 9 (by kernel_rfl)
      obtain ⟨ρ72, rfl⟩ := reopen_ex (uc q9 un)
      clear q9
      refine JL_pure (v := .pointer (some ⟨b3, 35, none⟩)) rfl (fa27_4 rfl rfl) ?_
      refine JL_nil ?_
      exact ⟨.pointer (some ⟨b3, 35, none⟩), [], rfl, (Sub.emp Sub.refl), rfl⟩
     ·intro ρ r70 N70 B hB hBa hp hr hr0
      have q68 : ρ 68 = .pointer (some ⟨b3, 35, none⟩) := (hr 0 _ _ (by decide) rfl rfl rfl).trans (hp 0 (by decide) rfl)
      obtain ⟨ρ73, rfl⟩ := reopen_ex (uc q68 un)
      clear q68
      refine JL_run rfl (Pu_load1 ty25 rfl (At.bx 29 (made_old ((hB 0 (by decide)).trans rfl))) (pkT_35 ..) ?_)
      refine JL_nil ?_
      exact ⟨w, [], rfl, (Sub.emp Sub.refl), rfl⟩
     ·intro ρ r70 N70 B hB hBa hp hr hr0
      have q4 : ρ 4 = .pointer (some ⟨b1, 0, none⟩) := hr0 4 (by kernel_rfl)
      obtain ⟨ρ74, rfl⟩ := reopen_ex (uc q4 un)
      clear q4
      refine JL_pure (v := .pointer (some ⟨b1, 35, none⟩)) rfl (fa27_4 rfl rfl) ?_
      refine JL_nil ?_
      exact ⟨.pointer (some ⟨b1, 35, none⟩), [], rfl, (Sub.emp Sub.refl), rfl⟩
     ·intro ρ r70 N70 B hB hBa hp hr hr0
      have q70 : ρ 70 = .pointer (some ⟨b1, 35, none⟩) := (hr 2 _ _ (by decide) rfl rfl rfl).trans (hp 2 (by decide) rfl)
      obtain ⟨ρ75, rfl⟩ := reopen_ex (uc q70 un)
      clear q70
      refine JL_run rfl (Pu_load1 ty25 rfl (At.bx 35 (made_old ((hB 6 (by decide)).trans rfl))) (pkT_35 ..) ?_)
      refine JL_nil ?_
      exact ⟨cv, [], rfl, (Sub.emp Sub.refl), rfl⟩
     ·intro ρ r70 N70 B hB hBa hp hr hr0
      have q11 : ρ 11 = .int .i64 ((j : Int)) := hr0 11 (by kernel_rfl)
      obtain ⟨ρ76, rfl⟩ := reopen_ex (uc q11 un)
      clear q11
      refine JL_pure (v := .int .i64 ((j : Int))) rfl (Pu.move rfl) ?_
      refine JL_nil ?_
      exact ⟨.int .i64 ((j : Int)), [], rfl, (Sub.emp Sub.refl), rfl⟩
     ·intro ρ r70 N70 B hB hBa hp hr hr0
      have q71 : ρ 71 = cv := (hr 3 _ _ (by decide) rfl rfl rfl).trans (hp 3 (by decide) rfl)
      have q72 : ρ 72 = .int .i64 ((j : Int)) := (hr 4 _ _ (by decide) rfl rfl rfl).trans (hp 4 (by decide) rfl)
      obtain ⟨ρ77, rfl⟩ := reopen_ex (uc q71 (uc q72 un))
      clear q71 q72
      refine JL_pure (v := .pointer (some ⟨b71, o71 + j * 71, none⟩)) rfl (Pu.idx j Tryz.runUnderlying25 ty46 hv71 rfl rfl (by first | assumption | omega | decide | simp)) ?_
      refine JL_nil ?_
      exact ⟨.pointer (some ⟨b71, o71 + j * 71, none⟩), [], rfl, (Sub.emp Sub.refl), rfl⟩
     ·intro ρ r70 N70 B hB hBa hp hr hr0
      have q73 : ρ 73 = .pointer (some ⟨b71, o71 + j * 71, none⟩) := (hr 5 _ _ (by decide) rfl rfl rfl).trans (hp 5 (by decide) rfl)
      obtain ⟨ρ78, rfl⟩ := reopen_ex (uc q73 un)
      clear q73
      refine JL_pure (v := .pointer (some ⟨b71, o71 + j * 71, none⟩)) rfl (fa46_0 rfl rfl) ?_
      refine JL_nil ?_
      exact ⟨.pointer (some ⟨b71, o71 + j * 71, none⟩), [], rfl, (Sub.emp Sub.refl), rfl⟩
     ·intro ρ r70 N70 B hB hBa hp hr hr0
      have q74 : ρ 74 = .pointer (some ⟨b71, o71 + j * 71, none⟩) := (hr 6 _ _ (by decide) rfl rfl rfl).trans (hp 6 (by decide) rfl)
      obtain ⟨ρ79, rfl⟩ := reopen_ex (uc q74 un)
      clear q74
      refine JL_run rfl (Pu_load ty42 rfl (At.im hb71) (sub_sub0 hs71 (sub_l (RP_len hA71))) ?_)
      refine JL_nil ?_
      exact ⟨.agg ⟨ca71⟩, [], rfl, (Sub.emp Sub.refl), rfl⟩
     ·intro ρ r70 N70 B hB hBa hp hr hr0
      have q75 : ρ 75 = .agg ⟨ca71⟩ := (hr 7 _ _ (by decide) rfl rfl rfl).trans (hp 7 (by decide) rfl)
      obtain ⟨ρ80, rfl⟩ := reopen_ex (uc q75 un)
      clear q75
      refine JL_call rfl Tryz.call83 rfl (fun hin => ownPatternR_ct _ _ _ (RP.mono (Hle.hu _ _) hA71) (by omega)) rfl ?_
      rintro _ _ ⟨cs81, k81, rfl, rfl, hO81⟩
      refine JL_nil ?_
      exact ⟨.agg ⟨cs81⟩, k81, rfl, Sub.refl, ⟨rfl, hO81⟩⟩
     ·intro ρ r70 N70 B hB hBa hp hr hr0
      have q4 : ρ 4 = .pointer (some ⟨b1, 0, none⟩) := hr0 4 (by kernel_rfl)
      obtain ⟨ρ82, rfl⟩ := reopen_ex (uc q4 un)
      clear q4
      refine JL_pure (v := .pointer (some ⟨b1, 35, none⟩)) rfl (fa27_4 rfl rfl) ?_
      refine JL_nil ?_
      exact ⟨.pointer (some ⟨b1, 35, none⟩), [], rfl, (Sub.emp Sub.refl), rfl⟩
     ·intro ρ r70 N70 B hB hBa hp hr hr0
      have q77 : ρ 77 = .pointer (some ⟨b1, 35, none⟩) := (hr 9 _ _ (by decide) rfl rfl rfl).trans (hp 9 (by decide) rfl)
      obtain ⟨ρ83, rfl⟩ := reopen_ex (uc q77 un)
      clear q77
      refine JL_run rfl (Pu_load1 ty25 rfl (At.bx 35 (made_old ((hB 6 (by decide)).trans rfl))) (pkT_35 ..) ?_)
      refine JL_nil ?_
      exact ⟨cv, [], rfl, (Sub.emp Sub.refl), rfl⟩
     ·intro ρ r70 N70 B hB hBa hp hr hr0
      have q11 : ρ 11 = .int .i64 ((j : Int)) := hr0 11 (by kernel_rfl)
      obtain ⟨ρ84, rfl⟩ := reopen_ex (uc q11 un)
      clear q11
      refine JL_pure (v := .int .i64 ((j : Int))) rfl (Pu.move rfl) ?_
      refine JL_nil ?_
      exact ⟨.int .i64 ((j : Int)), [], rfl, (Sub.emp Sub.refl), rfl⟩
     ·intro ρ r70 N70 B hB hBa hp hr hr0
      have q78 : ρ 78 = cv := (hr 10 _ _ (by decide) rfl rfl rfl).trans (hp 10 (by decide) rfl)
      have q79 : ρ 79 = .int .i64 ((j : Int)) := (hr 11 _ _ (by decide) rfl rfl rfl).trans (hp 11 (by decide) rfl)
      obtain ⟨ρ85, rfl⟩ := reopen_ex (uc q78 (uc q79 un))
      clear q78 q79
      refine JL_pure (v := .pointer (some ⟨b71, o71 + j * 71, none⟩)) rfl (Pu.idx j Tryz.runUnderlying25 ty46 hv71 rfl rfl (by first | assumption | omega | decide | simp)) ?_
      refine JL_nil ?_
      exact ⟨.pointer (some ⟨b71, o71 + j * 71, none⟩), [], rfl, (Sub.emp Sub.refl), rfl⟩
     ·intro ρ r70 N70 B hB hBa hp hr hr0
      have q80 : ρ 80 = .pointer (some ⟨b71, o71 + j * 71, none⟩) := (hr 12 _ _ (by decide) rfl rfl rfl).trans (hp 12 (by decide) rfl)
      obtain ⟨ρ86, rfl⟩ := reopen_ex (uc q80 un)
      clear q80
      refine JL_pure (v := .pointer (some ⟨b71, o71 + j * 71 + 35, none⟩)) rfl (fa46_1 rfl rfl) ?_
      refine JL_nil ?_
      exact ⟨.pointer (some ⟨b71, o71 + j * 71 + 35, none⟩), [], rfl, (Sub.emp Sub.refl), rfl⟩
     ·intro ρ r70 N70 B hB hBa hp hr hr0
      have q81 : ρ 81 = .pointer (some ⟨b71, o71 + j * 71 + 35, none⟩) := (hr 13 _ _ (by decide) rfl rfl rfl).trans (hp 13 (by decide) rfl)
      obtain ⟨ρ87, rfl⟩ := reopen_ex (uc q81 un)
      clear q81
      refine JL_run rfl (Pu_load ty27 rfl (At.im hb71) (sub_sub hs71 (sub_r (RP_len hA71) (RT_len hB71))) ?_)
      refine JL_nil ?_
      exact ⟨.agg ⟨cb71⟩, [], rfl, (Sub.emp Sub.refl), rfl⟩
     ·intro ρ r70 N70 B hB hBa hp hr hr0
      have q1 : ρ 1 = .int .i64 (b) := hr0 1 (by kernel_rfl)
      obtain ⟨ρ88, rfl⟩ := reopen_ex (uc q1 un)
      clear q1
      refine JL_pure (v := .int .i64 (b)) rfl (Pu.move rfl) ?_
      refine JL_nil ?_
      exact ⟨.int .i64 (b), [], rfl, (Sub.emp Sub.refl), rfl⟩
     ·intro ρ r70 N70 B hB hBa hp hr hr0
      have q4 : ρ 4 = .pointer (some ⟨b1, 0, none⟩) := hr0 4 (by kernel_rfl)
      obtain ⟨ρ89, rfl⟩ := reopen_ex (uc q4 un)
      clear q4
      refine JL_pure (v := .pointer (some ⟨b1, 35, none⟩)) rfl (fa27_4 rfl rfl) ?_
      refine JL_nil ?_
      exact ⟨.pointer (some ⟨b1, 35, none⟩), [], rfl, (Sub.emp Sub.refl), rfl⟩
     ·intro ρ r70 N70 B hB hBa hp hr hr0
      have q84 : ρ 84 = .pointer (some ⟨b1, 35, none⟩) := (hr 16 _ _ (by decide) rfl rfl rfl).trans (hp 16 (by decide) rfl)
      obtain ⟨ρ90, rfl⟩ := reopen_ex (uc q84 un)
      clear q84
      refine JL_run rfl (Pu_load1 ty25 rfl (At.bx 35 (made_old ((hB 6 (by decide)).trans rfl))) (pkT_35 ..) ?_)
      refine JL_nil ?_
      exact ⟨cv, [], rfl, (Sub.emp Sub.refl), rfl⟩
     ·intro ρ r70 N70 B hB hBa hp hr hr0
      have q11 : ρ 11 = .int .i64 ((j : Int)) := hr0 11 (by kernel_rfl)
      obtain ⟨ρ91, rfl⟩ := reopen_ex (uc q11 un)
      clear q11
      refine JL_pure (v := .int .i64 ((j : Int))) rfl (Pu.move rfl) ?_
      refine JL_nil ?_
      exact ⟨.int .i64 ((j : Int)), [], rfl, (Sub.emp Sub.refl), rfl⟩
     ·intro ρ r70 N70 B hB hBa hp hr hr0
      have q85 : ρ 85 = cv := (hr 17 _ _ (by decide) rfl rfl rfl).trans (hp 17 (by decide) rfl)
      have q86 : ρ 86 = .int .i64 ((j : Int)) := (hr 18 _ _ (by decide) rfl rfl rfl).trans (hp 18 (by decide) rfl)
      obtain ⟨ρ92, rfl⟩ := reopen_ex (uc q85 (uc q86 un))
      clear q85 q86
      refine JL_pure (v := .pointer (some ⟨b71, o71 + j * 71, none⟩)) rfl (Pu.idx j Tryz.runUnderlying25 ty46 hv71 rfl rfl (by first | assumption | omega | decide | simp)) ?_
      refine JL_nil ?_
      exact ⟨.pointer (some ⟨b71, o71 + j * 71, none⟩), [], rfl, (Sub.emp Sub.refl), rfl⟩
     ·intro ρ r70 N70 B hB hBa hp hr hr0
      have q87 : ρ 87 = .pointer (some ⟨b71, o71 + j * 71, none⟩) := (hr 19 _ _ (by decide) rfl rfl rfl).trans (hp 19 (by decide) rfl)
      obtain ⟨ρ93, rfl⟩ := reopen_ex (uc q87 un)
      clear q87
      refine JL_pure (v := .pointer (some ⟨b71, o71 + j * 71, none⟩)) rfl (fa46_0 rfl rfl) ?_
      refine JL_nil ?_
      exact ⟨.pointer (some ⟨b71, o71 + j * 71, none⟩), [], rfl, (Sub.emp Sub.refl), rfl⟩
     ·intro ρ r70 N70 B hB hBa hp hr hr0
      have q88 : ρ 88 = .pointer (some ⟨b71, o71 + j * 71, none⟩) := (hr 20 _ _ (by decide) rfl rfl rfl).trans (hp 20 (by decide) rfl)
      obtain ⟨ρ94, rfl⟩ := reopen_ex (uc q88 un)
      clear q88
      refine JL_run rfl (Pu_load ty42 rfl (At.im hb71) (sub_sub0 hs71 (sub_l (RP_len hA71))) ?_)
      refine JL_nil ?_
      exact ⟨.agg ⟨ca71⟩, [], rfl, (Sub.emp Sub.refl), rfl⟩
     ·intro ρ r70 N70 B hB hBa hp hr hr0
      have q89 : ρ 89 = .agg ⟨ca71⟩ := (hr 21 _ _ (by decide) rfl rfl rfl).trans (hp 21 (by decide) rfl)
      obtain ⟨ρ95, rfl⟩ := reopen_ex (uc q89 un)
      clear q89
      refine JL_call rfl Tryz.call65 rfl (fun hin => bindsR_ct _ _ _ (RP.mono (Hle.hu _ _) hA71) (by omega)) rfl ?_
      rintro _ _ ⟨rfl, rfl⟩
      refine JL_nil ?_
      exact ⟨.int .i64 ((binds ((cases)[j].1) : Int)), [], rfl, (Sub.emp Sub.refl), rfl⟩
     ·intro ρ r70 N70 B hB hBa hp hr hr0
      have q83 : ρ 83 = .int .i64 (b) := (hr 15 _ _ (by decide) rfl rfl rfl).trans (hp 15 (by decide) rfl)
      have q90 : ρ 90 = .int .i64 ((binds ((cases)[j].1) : Int)) := (hr 22 _ _ (by decide) rfl rfl rfl).trans (hp 22 (by decide) rfl)
      obtain ⟨ρ96, rfl⟩ := reopen_ex (uc q83 (uc q90 un))
      clear q83 q90
      refine JL_pure (v := .int .i64 (b + ((binds ((cases)[j].1) : Int)))) rfl (Pu.add64 rfl rfl (by first | omega | (constructor <;> omega))) ?_
      refine JL_nil ?_
      exact ⟨.int .i64 (b + ((binds ((cases)[j].1) : Int))), [], rfl, (Sub.emp Sub.refl), rfl⟩
     ·intro ρ r70 N70 B hB hBa hp hr hr0
      have q2 : ρ 2 = .int .i64 (dy) := hr0 2 (by kernel_rfl)
      obtain ⟨ρ97, rfl⟩ := reopen_ex (uc q2 un)
      clear q2
      refine JL_pure (v := .int .i64 (dy)) rfl (Pu.move rfl) ?_
      refine JL_nil ?_
      exact ⟨.int .i64 (dy), [], rfl, (Sub.emp Sub.refl), rfl⟩
     ·intro ρ r70 N70 B hB hBa hp hr hr0
      have q3 : ρ 3 = .int .i64 (fr) := hr0 3 (by kernel_rfl)
      obtain ⟨ρ98, rfl⟩ := reopen_ex (uc q3 un)
      clear q3
      refine JL_pure (v := .int .i64 (fr)) rfl (Pu.move rfl) ?_
      refine JL_nil ?_
      exact ⟨.int .i64 (fr), [], rfl, (Sub.emp Sub.refl), rfl⟩
     ·intro ρ r70 N70 B hB hBa hp hr hr0
      have q82 : ρ 82 = .agg ⟨cb71⟩ := (hr 14 _ _ (by decide) rfl rfl rfl).trans (hp 14 (by decide) rfl)
      have q91 : ρ 91 = .int .i64 (b + ((binds ((cases)[j].1) : Int))) := (hr 23 _ _ (by decide) rfl rfl rfl).trans (hp 23 (by decide) rfl)
      have q92 : ρ 92 = .int .i64 (dy) := (hr 24 _ _ (by decide) rfl rfl rfl).trans (hp 24 (by decide) rfl)
      have q93 : ρ 93 = .int .i64 (fr) := (hr 25 _ _ (by decide) rfl rfl rfl).trans (hp 25 (by decide) rfl)
      obtain ⟨ρ99, rfl⟩ := reopen_ex (uc q82 (uc q91 (uc q92 (uc q93 un))))
      clear q82 q91 q92 q93
      refine JL_call rfl Tryz.call45 rfl (fun hin => ih' _ (List.getElem_mem h69n) _ _ _ _ _ (RT.mono (Hle.hu _ _) hB71) (by omega) (vOKc_mem hv.2.2 _ (List.getElem_mem h69n)) (by omega) (by omega) hdy1 hdy2) rfl ?_
      rintro _ _ ⟨cs100, k100, rfl, rfl, hO100⟩
      refine JL_nil ?_
      exact ⟨.agg ⟨cs100⟩, k100, rfl, Sub.refl, ⟨rfl, hO100⟩⟩
     ·intro ρ r70 N70 B hB hBa hp hr hr0
      have p8 : (r70 8) = .agg ⟨(cel (r70 8))⟩ ∧ OP ((cases)[j].1) (cel (r70 8)) (N70 8) := hp 8 (by decide) rfl
      have p26 : (r70 26) = .agg ⟨(cel (r70 26))⟩ ∧ OT (mvT (dy) (fr) (b + ((binds ((cases)[j].1) : Int))) ((cases)[j].2)) (cel (r70 26)) (N70 26) := hp 26 (by decide) rfl
      have q76 : ρ 76 = .agg ⟨(cel (r70 8))⟩ := (hr 8 _ _ (by decide) rfl rfl rfl).trans p8.1
      have q94 : ρ 94 = .agg ⟨(cel (r70 26))⟩ := (hr 26 _ _ (by decide) rfl rfl rfl).trans p26.1
      obtain ⟨ρ101, rfl⟩ := reopen_ex (uc q76 (uc q94 un))
      clear q76 q94
      refine JL_pure (v := .agg ⟨((cel (r70 8))) ++ ((cel (r70 26)))⟩) rfl (Pu.build (pv := [(0, .agg ⟨(cel (r70 8))⟩), (1, .agg ⟨(cel (r70 26))⟩)]) (l := ((cel (r70 8))) ++ ((cel (r70 26)))) rfl (bld46_0_1 p8.2.len p26.2.len)) ?_
      refine JL_nil ?_
      exact ⟨.agg ⟨((cel (r70 8))) ++ ((cel (r70 26)))⟩, [], rfl, (Sub.emp Sub.refl), rfl⟩
     ·intro ρ r70 N70 B hB hBa hp hr hr0
      have p8 : (r70 8) = .agg ⟨(cel (r70 8))⟩ ∧ OP ((cases)[j].1) (cel (r70 8)) (N70 8) := hp 8 (by decide) rfl
      have p26 : (r70 26) = .agg ⟨(cel (r70 26))⟩ ∧ OT (mvT (dy) (fr) (b + ((binds ((cases)[j].1) : Int))) ((cases)[j].2)) (cel (r70 26)) (N70 26) := hp 26 (by decide) rfl
      have q95 : ρ 95 = .agg ⟨((cel (r70 8))) ++ ((cel (r70 26)))⟩ := (hr 27 _ _ (by decide) rfl rfl rfl).trans (hp 27 (by decide) rfl)
      obtain ⟨ρ102, rfl⟩ := reopen_ex (uc q95 un)
      clear q95
      refine JL_run rfl (Runs_buildSlice (vs := [.agg ⟨((cel (r70 8))) ++ ((cel (r70 26)))⟩]) [((cel (r70 8))) ++ ((cel (r70 26)))] Tryz.runUnderlying25 el46 rfl rfl (by intro e he; simp only [List.mem_cons, List.not_mem_nil, or_false] at he; subst he; exact (len_app p8.2.len p26.2.len)) rfl (by decide) fun b103 k103 ho103 hk103 => ?_)
      refine JL_nil ?_
      exact ⟨.slice (some ⟨b103, 0, none⟩) 1 1, k103, rfl, Sub.refl, ⟨rfl, hk103, ho103⟩⟩
     ·intro ρ r70 N70 hp hr hr0
      have p8 : (r70 8) = .agg ⟨(cel (r70 8))⟩ ∧ OP ((cases)[j].1) (cel (r70 8)) (N70 8) := hp 8 (by decide)
      have p26 : (r70 26) = .agg ⟨(cel (r70 26))⟩ ∧ OT (mvT (dy) (fr) (b + ((binds ((cases)[j].1) : Int))) ((cases)[j].2)) (cel (r70 26)) (N70 26) := hp 26 (by decide)
      have p28 : (r70 28) = .slice (some ⟨(sblk (r70 28)), 0, none⟩) 1 1 ∧ (N70 28) = [(sblk (r70 28), .cells ⟨List.flatten [((cel (r70 8))) ++ ((cel (r70 26)))]⟩ 46 (0, 0))] ∧ Own 46 71 (.slice (some ⟨(sblk (r70 28)), 0, none⟩) 1 1) [((cel (r70 8))) ++ ((cel (r70 26)))] (N70 28) := hp 28 (by decide)
      have q1 : ρ 1 = .int .i64 (b) := hr0 1 (by kernel_rfl)
      have q2 : ρ 2 = .int .i64 (dy) := hr0 2 (by kernel_rfl)
      have q3 : ρ 3 = .int .i64 (fr) := hr0 3 (by kernel_rfl)
      have q4 : ρ 4 = .pointer (some ⟨b1, 0, none⟩) := hr0 4 (by kernel_rfl)
      have q8 : ρ 8 = .pointer (some ⟨b2, 0, none⟩) := hr0 8 (by kernel_rfl)
      have q9 : ρ 9 = .pointer (some ⟨b3, 0, none⟩) := hr0 9 (by kernel_rfl)
      have q11 : ρ 11 = .int .i64 ((j : Int)) := hr0 11 (by kernel_rfl)
      have q69 : ρ 69 = w := (hr 1 _ _ (by decide) rfl rfl).trans (hp 1 (by decide))
      have q96 : ρ 96 = .slice (some ⟨(sblk (r70 28)), 0, none⟩) 1 1 := (hr 28 _ _ (by decide) rfl rfl).trans p28.1
      obtain ⟨ρ104, rfl⟩ := reopen_ex (uc q1 (uc q2 (uc q3 (uc q4 (uc q8 (uc q9 (uc q11 (uc q69 (uc q96 un)))))))))
      clear q1 q2 q3 q4 q8 q9 q11 q69 q96
      have p70_8 := p8; have p70_26 := p26; have p70_28 := p28
      clear hp hr hr0 p8 p26 p28
      refine JL_sub (M' := [(N70 0), (N70 1), (N70 2), (N70 3), (N70 4), (N70 5), (N70 6), (N70 7), (N70 8), (N70 9), (N70 10), (N70 11), (N70 12), (N70 13), (N70 14), (N70 15), (N70 16), (N70 17), (N70 18), (N70 19), (N70 20), (N70 21), (N70 22), (N70 23), (N70 24), (N70 25), (N70 26), (N70 27), (N70 28), [(b3, .cells ⟨pkT (kind) ((if kind = 1 ∧ fr ≤ num - b then num + dy else num)) (ref) (v) (w)⟩ 27 (0, 0))], k3, k4, k1, k2, [(b2, .cells ⟨pkT (0) (0) (zS) (.slice none 0 0) (.slice none 0 0)⟩ 27 (0, 0))], [(b1, .cells ⟨pkT (kind) (num) (ref) (ks) (cv)⟩ 27 (0, 0))]]) Sub.refl ?_
      refine JL_sub (M' := [(N70 8), (N70 26), (N70 28), [(b3, .cells ⟨pkT (kind) ((if kind = 1 ∧ fr ≤ num - b then num + dy else num)) (ref) (v) (w)⟩ 27 (0, 0))], k3, k4, k1, k2, [(b2, .cells ⟨pkT (0) (0) (zS) (.slice none 0 0) (.slice none 0 0)⟩ 27 (0, 0))], [(b1, .cells ⟨pkT (kind) (num) (ref) (ks) (cv)⟩ 27 (0, 0))]]) (Sub.cons 8 rfl (Sub.cons 25 rfl (Sub.cons 26 rfl (Sub.cons 26 rfl (Sub.cons 26 rfl (Sub.cons 26 rfl (Sub.cons 26 rfl (Sub.cons 26 rfl (Sub.cons 26 rfl (Sub.cons 26 rfl Sub.nil)))))))))) ?_
      show JL _ _ _ [_, _, _] _ _ _
      have hlens105 : ∀ e ∈ ([((cel (r70 8))) ++ ((cel (r70 26)))] : List (List Value)), List.length e = 71 := by
       intro e he; simp only [List.mem_cons, List.not_mem_nil, or_false] at he
       rcases he with rfl
       ·exact (len_app p70_8.2.len p70_26.2.len)
      have hoks105 : ∀ e ∈ ([((cel (r70 8))) ++ ((cel (r70 26)))] : List (List Value)), okc e := by
       intro e he; simp only [List.mem_cons, List.not_mem_nil, or_false] at he
       rcases he with rfl
       ·exact (okc_app p70_8.2.ok p70_26.2.ok)
      refine JL_run rfl (Runs_append (i := 4) (n := 1) (es' := [((cel (r70 8))) ++ ((cel (r70 26)))]) Tryz.runUnderlying25 Tryz.runUnderlying25 (Or.inl rfl) el46 rfl rfl rfl how (fun F w m => Src.row (((At.k 2 rfl (by rw [p70_28.2.1]; exact List.mem_cons_self))).heap m) (sub_a (flatten_len hlens105))) rfl hlens105 hoks105 (by decide) (by omega) fun v105 k105 ho105 => ?_)
      refine JL_pure (v := .pointer (some ⟨b3, 35, none⟩)) rfl (fa27_4 rfl rfl) ?_
      refine JL_run rfl (Runs_storeB 3 (vs := [v105]) (l := pkT (kind) ((if kind = 1 ∧ fr ≤ num - b then num + dy else num)) (ref) (v) (v105)) ty25 rfl rfl rfl (cells_one ho105.one) rfl (okc_cons ho105.one okc_nil) (pkT_s35 ..) ?_)
      refine JL_nil ?_
      refine J_region ?_
      refine JL_pure (v := .int .i64 ((j : Int))) rfl (Pu.move rfl) ?_
      refine JL_pure (v := .int .i64 (((j + 1 : Nat) : Int))) rfl (Pu.inc rfl rfl (by omega)) ?_
      refine JL_pure (v := .int .i64 (((j + 1 : Nat) : Int))) rfl (Pu.assign rfl) ?_
      refine JL_nil ?_
      refine ⟨_, ?_, (j + 1), (v105), (es2 ++ [((cel (r70 8))) ++ ((cel (r70 26)))]), (k105), ((k4) ++ (((N70 8)) ++ ((N70 26)))), rfl, rfl, rfl, rfl, rfl, rfl, rfl, (Sub.cons 3 rfl (Sub.cons 3 rfl (Sub.join3 (Sub.cons 3 rfl (Sub.cons 0 rfl (Sub.cons 0 rfl (Sub.cons 1 rfl (Sub.cons 1 rfl (Sub.cons 1 rfl (Sub.cons 1 rfl Sub.nil)))))))))), ?_, ?_, ?_, rfl⟩
      ·omega
      ·omega
      ·assumption
      ·rw [mvCs_take dy fr b cases j h69n]; exact OCs.snoc p70_8.2 p70_26.2 hopw
    ·skip
     replace h69 := df h69
     have h69n : (cases).length ≤ j := by omega
     refine J_exit _ rfl ?_
     refine J_seq ?_
     refine J_region ?_
     refine JL_run rfl (Pu_load ty27 rfl (At.bx 0 rfl) (pkT_a ..) ?_)
     refine JL_run rfl (Runs_storeB 5 (vs := pkT (kind) ((if kind = 1 ∧ fr ≤ num - b then num + dy else num)) (ref) (v) (w)) (l := pkT (kind) ((if kind = 1 ∧ fr ≤ num - b then num + dy else num)) (ref) (v) (w)) ty27 rfl rfl rfl rfl rfl (pkT_ok hov.one how.one) (pkT_s ..) ?_)
     refine JL_nil ?_
     refine J_ret ?_
     refine ⟨.agg ⟨pkT (kind) ((if kind = 1 ∧ fr ≤ num - b then num + dy else num)) (ref) (v) (w)⟩, [k1 ++ (k2 ++ (k3 ++ k4))], Ret.one rfl (RV.cell ty27 rfl (At.bx 5 rfl) (pkT_a ..)), (Sub.join4 (Sub.cons 3 rfl (Sub.cons 3 rfl (Sub.cons 1 rfl (Sub.cons 1 rfl Sub.nil))))), ?_⟩
     rw [mvT]
     rw [List.take_of_length_le h69n] at hopw
     exact ⟨_, _, rfl, rfl, OT_mk.2 ⟨v, w, es, es2, k1, k2, k3, k4, rfl, hk, (by unfold inI; split <;> omega), hov, hopv, how, hopw, rfl, (by rw [mvTs_len]; exact hks.le), (by rw [mvCs_len]; exact hcv.le)⟩⟩
end Go.Proofs.YtbfjkdhfelmioaaGreat.Hs
/-! Walks, printed by a program of this session's own (gen.py). -/
namespace Go.Proofs.YtbfjkdhfelmioaaGreat.Hs
open Go Go.Proofs
set_option maxRecDepth 100000
set_option linter.unusedVariables false
set_option linter.unusedSimpArgs false
attribute [local irreducible] JL J CT wlo
theorem occurs_ct : ∀ (t : Tm) (b : Int) (l : List Bool) (bF : Nat) (cs : List Value) (H : Heap), RT H cs t → 0 ≤ b → b + 2 * sizeT t ≤ 1000000 → l.length = 60 → CT Tryz.prog 64 ⟨[.agg ⟨cs⟩, .int .i64 b, .slice (some ⟨bF, 0, none⟩) 60 60]⟩ [[(bF, .cells ⟨bls (l)⟩ 4 (0, 0))]] H (fun _ N => N = [[(bF, .cells ⟨bls (occT b t l)⟩ 4 (0, 0))]]) := by
 intro t
 induction t using Tm.ind with
 | h kind num ref kids cases ih ih' =>
 intro b l bF cs H ht hb0 hb hl
 rw [sizeT] at hb
 obtain ⟨ks, cv, rfl, hk, hn, hks, hcv⟩ := RT_mk.1 ht
 have hn1 : -9223372036854775808 ≤ num := hn.1
 have hn2 : num ≤ 9223372036854775807 := hn.2
 refine CT_enter Tryz.func64 rfl rfl ?_
 refine J_seq ?_
 refine J_region ?_
 refine JL_run rfl (Runs_box (l := pkT (kind) (num) (ref) (ks) (cv)) rfl rfl fun b1 => ?_)
 refine JL_nil ?_
 refine J_seq ?_
 refine J_cut (fun ρ M => ρ 1 = .int .i64 (b) ∧ ρ 2 = .slice (some ⟨bF, 0, none⟩) 60 60 ∧ ρ 3 = .pointer (some ⟨b1, 0, none⟩) ∧ ρ 25 = .bool (((decide (kind = 1)) && (decide (b ≤ num))) && (decide (num - b < 60))) ∧ M = [[(b1, .cells ⟨pkT (kind) (num) (ref) (ks) (cv)⟩ 27 (0, 0))], [(bF, .cells ⟨bls (l)⟩ 4 (0, 0))]]) ?_ ?_
 ·refine J_region ?_
  refine JL_pure (v := .pointer (some ⟨b1, 0, none⟩)) rfl (fa27_0 rfl rfl) ?_
  refine JL_run rfl (Pu_load1 ty3 rfl (At.bx 0 rfl) (pkT_0 ..) ?_)
  refine JL_pure (v := .bool (decide (kind = 1))) rfl (Pu.eql rfl rfl) ?_
  refine JL_pure (v := .bool (decide (kind = 1))) rfl (Pu.move rfl) ?_
  cases h2 : (decide (kind = 1)) with
  | true =>
   replace h2 := dt h2
   refine JL_pure (v := .pointer (some ⟨b1, 1, none⟩)) rfl (fa27_1 rfl rfl) ?_
   refine JL_run rfl (Pu_load1 ty3 rfl (At.bx 0 rfl) (pkT_1 ..) ?_)
   refine JL_pure (v := .int .i64 (b)) rfl (Pu.move rfl) ?_
   refine JL_pure (v := .bool (decide (b ≤ num))) rfl (Pu.geq rfl rfl) ?_
   refine JL_pure (v := .bool (decide (b ≤ num))) rfl (Pu.pickT rfl rfl) ?_
   refine JL_pure (v := .bool (decide (b ≤ num))) rfl (Pu.move rfl) ?_
   cases h3 : (decide (b ≤ num)) with
   | true =>
    replace h3 := dt h3
    refine JL_pure (v := .pointer (some ⟨b1, 1, none⟩)) rfl (fa27_1 rfl rfl) ?_
    refine JL_run rfl (Pu_load1 ty3 rfl (At.bx 0 rfl) (pkT_1 ..) ?_)
    refine JL_pure (v := .int .i64 (b)) rfl (Pu.move rfl) ?_
    refine JL_pure (v := .int .i64 (num - b)) rfl (Pu.sub64 rfl rfl (by first | omega | (constructor <;> omega))) ?_
    refine JL_pure (v := .slice (some ⟨bF, 0, none⟩) 60 60) rfl (Pu.move rfl) ?_
    refine JL_pure (v := .int .i64 (60)) rfl (Pu.lenSl Tryz.runUnderlying96 rfl) ?_
    refine JL_pure (v := .bool (decide (num - b < 60))) rfl (Pu.lss rfl rfl) ?_
    refine JL_pure (v := .bool (decide (num - b < 60))) rfl (Pu.pickT rfl rfl) ?_
    refine JL_nil ?_
    first | exact ⟨rfl, rfl, rfl, rfl, rfl⟩ | (exfalso; omega)
   | false =>
    replace h3 := df h3
    refine JL_skip rfl ?_
    refine JL_skip rfl ?_
    refine JL_skip rfl ?_
    refine JL_skip rfl ?_
    refine JL_skip rfl ?_
    refine JL_skip rfl ?_
    refine JL_skip rfl ?_
    refine JL_pure (v := .bool (false)) rfl (Pu.pickF rfl rfl) ?_
    refine JL_nil ?_
    first | exact ⟨rfl, rfl, rfl, rfl, rfl⟩ | (exfalso; omega)
  | false =>
   replace h2 := df h2
   refine JL_skip rfl ?_
   refine JL_skip rfl ?_
   refine JL_skip rfl ?_
   refine JL_skip rfl ?_
   refine JL_pure (v := .bool (false)) rfl (Pu.pickF rfl rfl) ?_
   refine JL_pure (v := .bool (false)) rfl (Pu.move rfl) ?_
   refine JL_skip rfl ?_
   refine JL_skip rfl ?_
   refine JL_skip rfl ?_
   refine JL_skip rfl ?_
   refine JL_skip rfl ?_
   refine JL_skip rfl ?_
   refine JL_skip rfl ?_
   refine JL_pure (v := .bool (false)) rfl (Pu.pickF rfl rfl) ?_
   refine JL_nil ?_
   first | exact ⟨rfl, rfl, rfl, rfl, rfl⟩ | (exfalso; omega)
 ·rintro ρ4 _ ⟨e5, e6, e7, e8, rfl⟩
  obtain ⟨ρ9, rfl⟩ := reopen_ex (uc e5 (uc e6 (uc e7 (uc e8 un))))
  clear e5 e6 e7 e8
  refine J_weak (N := fun ρ M => ρ 1 = .int .i64 (b) ∧ ρ 2 = .slice (some ⟨bF, 0, none⟩) 60 60 ∧ ρ 3 = .pointer (some ⟨b1, 0, none⟩) ∧ M = [[(b1, .cells ⟨pkT (kind) (num) (ref) (ks) (cv)⟩ 27 (0, 0))], [(bF, .cells ⟨bls (mark1 kind num b l)⟩ 4 (0, 0))]]) ?_ ?_
  ·skip
   refine J_cond (b := ((decide (kind = 1)) && (decide (b ≤ num))) && (decide (num - b < 60))) rfl (fun h10 => ?_) (fun h10 => ?_)
   ·skip
    obtain ⟨h10a, h10b⟩ := andT h10
    obtain ⟨h10aa, h10ab⟩ := andT h10a
    replace h10aa := dt h10aa
    replace h10ab := dt h10ab
    replace h10b := dt h10b
    refine J_region ?_
    refine JL_pure (v := .slice (some ⟨bF, 0, none⟩) 60 60) rfl (Pu.move rfl) ?_
    refine JL_pure (v := .pointer (some ⟨b1, 1, none⟩)) rfl (fa27_1 rfl rfl) ?_
    refine JL_run rfl (Pu_load1 ty3 rfl (At.bx 0 rfl) (pkT_1 ..) ?_)
    refine JL_pure (v := .int .i64 (b)) rfl (Pu.move rfl) ?_
    refine JL_pure (v := .int .i64 (num - b)) rfl (Pu.sub64 rfl rfl (by first | omega | (constructor <;> omega))) ?_
    refine JL_pure (v := .pointer (some ⟨bF, 0 + (num - b).toNat * 1, none⟩)) rfl (Pu.idx (num - b).toNat Tryz.runUnderlying96 ty4 rfl rfl (by omega) (by omega)) ?_
    refine JL_run rfl (Runs_storeB 1 (vs := [.bool (true)]) (l := bls ((l).set (num - b).toNat true)) ty4 rfl rfl rfl rfl rfl (okc_cons rfl okc_nil) (bls_set1 (by have hbl : List.length (l) = 60 := hl; omega)) ?_)
    refine JL_nil ?_
    have hmk : mark1 kind num b l = (l).set (num - b).toNat true := by unfold mark1; (repeat' split) <;> first | rfl | omega | (exfalso; simp_all; done) | (exfalso; simp_all; omega)
    rw [hmk]
    exact ⟨rfl, rfl, rfl, rfl⟩
   ·skip
    refine J_skip ?_
    have hmk : mark1 kind num b l = l := by unfold mark1; (repeat' split) <;> first | rfl | omega | (exfalso; simp_all; done) | (exfalso; simp_all; omega)
    rw [hmk]
    exact ⟨rfl, rfl, rfl, rfl⟩
  ·rintro ρ11 _ ⟨e12, e13, e14, rfl⟩
   obtain ⟨ρ15, rfl⟩ := reopen_ex (uc e12 (uc e13 (uc e14 un)))
   clear e12 e13 e14
   refine J_seq ?_
   refine J_seq ?_
   refine J_region ?_
   refine JL_pure (v := .int .i64 (0)) rfl (Pu.assign rfl) ?_
   refine JL_nil ?_
   refine J_block ?_
   have hmk : mark1 kind num b l = mark1 kind num b l := rfl
   refine J_loop (fun k ρ M => ∃ (j : Nat) (l1 : List Bool), ρ 1 = .int .i64 (b) ∧ ρ 2 = .slice (some ⟨bF, 0, none⟩) 60 60 ∧ ρ 3 = .pointer (some ⟨b1, 0, none⟩) ∧ ρ 6 = .int .i64 ((j : Int)) ∧ Sub [[(bF, .cells ⟨bls (l1)⟩ 4 (0, 0))], [(b1, .cells ⟨pkT (kind) (num) (ref) (ks) (cv)⟩ 27 (0, 0))]] M ∧ j ≤ (kids).length ∧ l1.length = 60 ∧ occTs b kind j (kids.drop j) l1 = occTs b kind 0 kids (mark1 kind num b l) ∧ k = (kids).length - j) _ ⟨0, (mark1 kind num b l), rfl, rfl, rfl, rfl, (Sub.cons 1 rfl (Sub.cons 0 rfl Sub.nil)), Nat.zero_le _, ((mark1_len ..).trans hl), (by rw [hmk]; rfl), rfl⟩ ?_
   rintro _ ρ16 _ ⟨j, l1, e17, e18, e19, e20, hm21, hj, hll1, hinv, rfl⟩
   obtain ⟨ρ22, rfl⟩ := reopen_ex (uc e17 (uc e18 (uc e19 (uc e20 un))))
   clear e17 e18 e19 e20
   refine J_sub hm21 ?_
   have hlen := hks.le
   refine J_seq ?_
   refine J_seq ?_
   refine J_region ?_
   refine JL_pure (v := .int .i64 ((j : Int))) rfl (Pu.move rfl) ?_
   refine JL_pure (v := .pointer (some ⟨b1, 34, none⟩)) rfl (fa27_3 rfl rfl) ?_
   refine JL_run rfl (Pu_load1 ty24 rfl (At.bx 1 rfl) (pkT_34 ..) ?_)
   obtain ⟨a23, cap23, hv23⟩ := hks.sl
   have hle23 := hks.le
   refine JL_pure (v := .int .i64 (((kids).length : Int))) rfl (Pu.lenSl Tryz.runUnderlying24 hv23) ?_
   refine JL_pure (v := .bool (decide ((j : Int) < ((kids).length : Int)))) rfl (Pu.lss rfl rfl) ?_
   refine JL_nil ?_
   refine J_cond (b := decide ((j : Int) < ((kids).length : Int))) rfl (fun h24 => ?_) (fun h24 => ?_)
   ·skip
    replace h24 := dt h24
    have h24n : j < (kids).length := by omega
    have hs1 := sizeTs_mem _ (List.getElem_mem h24n)
    have hm1 := more_le kind j
    refine J_skip ?_
    refine J_seq ?_
    refine J_block ?_
    obtain ⟨b26, o26, cap26, row26, T26, fr26, cs26, hv26, hb26, hs26, hE26⟩ := hks.get j (by first | assumption | omega | decide | simp)
    refine J_draw mixed #[0, 1, 0, 7, 15, 0, 0, 64, 0, 448, 992, 0, 4095] 12 12 2 rfl (by kernel_rfl) (fun i r25 N25 => match i with | 0 => (r25 0) = .pointer (some ⟨b1, 34, none⟩) | 1 => (r25 1) = ks | 2 => (r25 2) = .int .i64 ((j : Int)) | 3 => (r25 3) = .pointer (some ⟨b26, o26 + j * 36, none⟩) | 4 => (r25 4) = .agg ⟨cs26⟩ | 5 => (r25 5) = .int .i64 (b) | 6 => (r25 6) = .pointer (some ⟨b1, 0, none⟩) | 7 => (r25 7) = .int .i64 (kind) | 8 => (r25 8) = .int .i64 ((j : Int)) | 9 => (r25 9) = .int .i64 (more (kind) ((j : Int))) | 10 => (r25 10) = .int .i64 (b + (more (kind) ((j : Int)))) | 11 => (r25 11) = .slice (some ⟨bF, 0, none⟩) 60 60 | _ => True) ⟨?_, ?_, ?_, ?_, ?_, ?_, ?_, ?_, ?_, ?_, ?_, ?_, trivial⟩ ?_
    ·intro ρ r25 N25 B hB hBa hp hr hr0
     have q3 : ρ 3 = .pointer (some ⟨b1, 0, none⟩) := hr0 3 (by kernel_rfl)
     obtain ⟨ρ27, rfl⟩ := reopen_ex (uc q3 un)
     clear q3
     refine JL_pure (v := .pointer (some ⟨b1, 34, none⟩)) rfl (fa27_3 rfl rfl) ?_
     refine JL_nil ?_
     exact ⟨.pointer (some ⟨b1, 34, none⟩), [], rfl, (Sub.emp Sub.refl), rfl⟩
    ·intro ρ r25 N25 B hB hBa hp hr hr0
     have q39 : ρ 39 = .pointer (some ⟨b1, 34, none⟩) := (hr 0 _ _ (by decide) rfl rfl rfl).trans (hp 0 (by decide) rfl)
     obtain ⟨ρ28, rfl⟩ := reopen_ex (uc q39 un)
     clear q39
     refine JL_run rfl (Pu_load1 ty24 rfl (At.bx 13 (made_old ((hB 1 (by decide)).trans rfl))) (pkT_34 ..) ?_)
     refine JL_nil ?_
     exact ⟨ks, [], rfl, (Sub.emp Sub.refl), rfl⟩
    ·intro ρ r25 N25 B hB hBa hp hr hr0
     have q6 : ρ 6 = .int .i64 ((j : Int)) := hr0 6 (by kernel_rfl)
     obtain ⟨ρ29, rfl⟩ := reopen_ex (uc q6 un)
     clear q6
     refine JL_pure (v := .int .i64 ((j : Int))) rfl (Pu.move rfl) ?_
     refine JL_nil ?_
     exact ⟨.int .i64 ((j : Int)), [], rfl, (Sub.emp Sub.refl), rfl⟩
    ·intro ρ r25 N25 B hB hBa hp hr hr0
     have q40 : ρ 40 = ks := (hr 1 _ _ (by decide) rfl rfl rfl).trans (hp 1 (by decide) rfl)
     have q41 : ρ 41 = .int .i64 ((j : Int)) := (hr 2 _ _ (by decide) rfl rfl rfl).trans (hp 2 (by decide) rfl)
     obtain ⟨ρ30, rfl⟩ := reopen_ex (uc q40 (uc q41 un))
     clear q40 q41
     refine JL_pure (v := .pointer (some ⟨b26, o26 + j * 36, none⟩)) rfl (Pu.idx j Tryz.runUnderlying24 ty27 hv26 rfl rfl (by first | assumption | omega | decide | simp)) ?_
     refine JL_nil ?_
     exact ⟨.pointer (some ⟨b26, o26 + j * 36, none⟩), [], rfl, (Sub.emp Sub.refl), rfl⟩
    ·intro ρ r25 N25 B hB hBa hp hr hr0
     have q42 : ρ 42 = .pointer (some ⟨b26, o26 + j * 36, none⟩) := (hr 3 _ _ (by decide) rfl rfl rfl).trans (hp 3 (by decide) rfl)
     obtain ⟨ρ31, rfl⟩ := reopen_ex (uc q42 un)
     clear q42
     refine JL_run rfl (Pu_load ty27 rfl (At.im hb26) hs26 ?_)
     refine JL_nil ?_
     exact ⟨.agg ⟨cs26⟩, [], rfl, (Sub.emp Sub.refl), rfl⟩
    ·intro ρ r25 N25 B hB hBa hp hr hr0
     have q1 : ρ 1 = .int .i64 (b) := hr0 1 (by kernel_rfl)
     obtain ⟨ρ32, rfl⟩ := reopen_ex (uc q1 un)
     clear q1
     refine JL_pure (v := .int .i64 (b)) rfl (Pu.move rfl) ?_
     refine JL_nil ?_
     exact ⟨.int .i64 (b), [], rfl, (Sub.emp Sub.refl), rfl⟩
    ·intro ρ r25 N25 B hB hBa hp hr hr0
     have q3 : ρ 3 = .pointer (some ⟨b1, 0, none⟩) := hr0 3 (by kernel_rfl)
     obtain ⟨ρ33, rfl⟩ := reopen_ex (uc q3 un)
     clear q3
     refine JL_pure (v := .pointer (some ⟨b1, 0, none⟩)) rfl (fa27_0 rfl rfl) ?_
     refine JL_nil ?_
     exact ⟨.pointer (some ⟨b1, 0, none⟩), [], rfl, (Sub.emp Sub.refl), rfl⟩
    ·intro ρ r25 N25 B hB hBa hp hr hr0
     have q45 : ρ 45 = .pointer (some ⟨b1, 0, none⟩) := (hr 6 _ _ (by decide) rfl rfl rfl).trans (hp 6 (by decide) rfl)
     obtain ⟨ρ34, rfl⟩ := reopen_ex (uc q45 un)
     clear q45
     refine JL_run rfl (Pu_load1 ty3 rfl (At.bx 13 (made_old ((hB 1 (by decide)).trans rfl))) (pkT_0 ..) ?_)
     refine JL_nil ?_
     exact ⟨.int .i64 (kind), [], rfl, (Sub.emp Sub.refl), rfl⟩
    ·intro ρ r25 N25 B hB hBa hp hr hr0
     have q6 : ρ 6 = .int .i64 ((j : Int)) := hr0 6 (by kernel_rfl)
     obtain ⟨ρ35, rfl⟩ := reopen_ex (uc q6 un)
     clear q6
     refine JL_pure (v := .int .i64 ((j : Int))) rfl (Pu.move rfl) ?_
     refine JL_nil ?_
     exact ⟨.int .i64 ((j : Int)), [], rfl, (Sub.emp Sub.refl), rfl⟩
    ·intro ρ r25 N25 B hB hBa hp hr hr0
     have q46 : ρ 46 = .int .i64 (kind) := (hr 7 _ _ (by decide) rfl rfl rfl).trans (hp 7 (by decide) rfl)
     have q47 : ρ 47 = .int .i64 ((j : Int)) := (hr 8 _ _ (by decide) rfl rfl rfl).trans (hp 8 (by decide) rfl)
     obtain ⟨ρ36, rfl⟩ := reopen_ex (uc q46 (uc q47 un))
     clear q46 q47
     refine JL_call rfl Tryz.call82 rfl (fun hin => moreR_ct _ _ _) rfl ?_
     rintro _ _ ⟨rfl, rfl⟩
     refine JL_nil ?_
     exact ⟨.int .i64 (more (kind) ((j : Int))), [], rfl, (Sub.emp Sub.refl), rfl⟩
    ·intro ρ r25 N25 B hB hBa hp hr hr0
     have q44 : ρ 44 = .int .i64 (b) := (hr 5 _ _ (by decide) rfl rfl rfl).trans (hp 5 (by decide) rfl)
     have q48 : ρ 48 = .int .i64 (more (kind) ((j : Int))) := (hr 9 _ _ (by decide) rfl rfl rfl).trans (hp 9 (by decide) rfl)
     obtain ⟨ρ37, rfl⟩ := reopen_ex (uc q44 (uc q48 un))
     clear q44 q48
     refine JL_pure (v := .int .i64 (b + (more (kind) ((j : Int))))) rfl (Pu.add64 rfl rfl (by first | omega | (constructor <;> omega))) ?_
     refine JL_nil ?_
     exact ⟨.int .i64 (b + (more (kind) ((j : Int)))), [], rfl, (Sub.emp Sub.refl), rfl⟩
    ·intro ρ r25 N25 B hB hBa hp hr hr0
     have q2 : ρ 2 = .slice (some ⟨bF, 0, none⟩) 60 60 := hr0 2 (by kernel_rfl)
     obtain ⟨ρ38, rfl⟩ := reopen_ex (uc q2 un)
     clear q2
     refine JL_pure (v := .slice (some ⟨bF, 0, none⟩) 60 60) rfl (Pu.move rfl) ?_
     refine JL_nil ?_
     exact ⟨.slice (some ⟨bF, 0, none⟩) 60 60, [], rfl, (Sub.emp Sub.refl), rfl⟩
    ·intro ρ r25 N25 hp hr hr0
     have q1 : ρ 1 = .int .i64 (b) := hr0 1 (by kernel_rfl)
     have q2 : ρ 2 = .slice (some ⟨bF, 0, none⟩) 60 60 := hr0 2 (by kernel_rfl)
     have q3 : ρ 3 = .pointer (some ⟨b1, 0, none⟩) := hr0 3 (by kernel_rfl)
     have q6 : ρ 6 = .int .i64 ((j : Int)) := hr0 6 (by kernel_rfl)
     have q43 : ρ 43 = .agg ⟨cs26⟩ := (hr 4 _ _ (by decide) rfl rfl).trans (hp 4 (by decide))
     have q49 : ρ 49 = .int .i64 (b + (more (kind) ((j : Int)))) := (hr 10 _ _ (by decide) rfl rfl).trans (hp 10 (by decide))
     have q50 : ρ 50 = .slice (some ⟨bF, 0, none⟩) 60 60 := (hr 11 _ _ (by decide) rfl rfl).trans (hp 11 (by decide))
     obtain ⟨ρ39, rfl⟩ := reopen_ex (uc q1 (uc q2 (uc q3 (uc q6 (uc q43 (uc q49 (uc q50 un)))))))
     clear q1 q2 q3 q6 q43 q49 q50
     clear hp hr hr0 
     refine JL_sub (M' := [(N25 0), (N25 1), (N25 2), (N25 3), (N25 4), (N25 5), (N25 6), (N25 7), (N25 8), (N25 9), (N25 10), (N25 11), [(bF, .cells ⟨bls (l1)⟩ 4 (0, 0))], [(b1, .cells ⟨pkT (kind) (num) (ref) (ks) (cv)⟩ 27 (0, 0))]]) Sub.refl ?_
     refine JL_sub (M' := [[(bF, .cells ⟨bls (l1)⟩ 4 (0, 0))], [(b1, .cells ⟨pkT (kind) (num) (ref) (ks) (cv)⟩ 27 (0, 0))]]) (Sub.cons 12 rfl (Sub.cons 12 rfl Sub.nil)) ?_
     show JL _ _ _ [_] _ _ _
     refine JL_call1 0 rfl Tryz.call64 rfl rfl (fun hin => ih _ (List.getElem_mem h24n) _ _ _ _ _ (RT.mono (Hle.hu _ _) hE26) (by omega) (by omega) hll1) rfl ?_
     rintro _ _ ⟨rfl, rfl⟩
     refine JL_nil ?_
     refine J_region ?_
     refine JL_pure (v := .int .i64 ((j : Int))) rfl (Pu.move rfl) ?_
     refine JL_pure (v := .int .i64 (((j + 1 : Nat) : Int))) rfl (Pu.inc rfl rfl (by omega)) ?_
     refine JL_pure (v := .int .i64 (((j + 1 : Nat) : Int))) rfl (Pu.assign rfl) ?_
     refine JL_nil ?_
     refine ⟨_, ?_, (j + 1), (occT (b + (more (kind) ((j : Int)))) ((kids)[j]) (l1)), rfl, rfl, rfl, rfl, (Sub.cons 0 rfl (Sub.cons 0 rfl Sub.nil)), ?_, ?_, ?_, rfl⟩
     ·omega
     ·omega
     ·exact ((occT_len _ _ _).trans hll1)
     ·rw [dropc h24n, occTs] at hinv; exact hinv
   ·skip
    replace h24 := df h24
    have h24n : (kids).length ≤ j := by omega
    refine J_exit _ rfl ?_
    refine J_seq ?_
    refine J_region ?_
    refine JL_pure (v := .int .i64 (0)) rfl (Pu.assign rfl) ?_
    refine JL_nil ?_
    refine J_block ?_
    have hk1 : l1 = occTs b kind 0 kids (mark1 kind num b l) := by rw [← hinv, dropn h24n]; rfl
    refine J_loop (fun k ρ M => ∃ (j : Nat) (l2 : List Bool), ρ 1 = .int .i64 (b) ∧ ρ 2 = .slice (some ⟨bF, 0, none⟩) 60 60 ∧ ρ 3 = .pointer (some ⟨b1, 0, none⟩) ∧ ρ 7 = .int .i64 ((j : Int)) ∧ Sub [[(bF, .cells ⟨bls (l2)⟩ 4 (0, 0))], [(b1, .cells ⟨pkT (kind) (num) (ref) (ks) (cv)⟩ 27 (0, 0))]] M ∧ j ≤ (cases).length ∧ l2.length = 60 ∧ occCs b (cases.drop j) l2 = occCs b cases l1 ∧ k = (cases).length - j) _ ⟨0, (l1), rfl, rfl, rfl, rfl, (Sub.cons 0 rfl (Sub.cons 0 rfl Sub.nil)), Nat.zero_le _, hll1, rfl, rfl⟩ ?_
    rintro _ ρ40 _ ⟨j, l2, e41, e42, e43, e44, hm45, hj, hll2, hinv, rfl⟩
    obtain ⟨ρ46, rfl⟩ := reopen_ex (uc e41 (uc e42 (uc e43 (uc e44 un))))
    clear e41 e42 e43 e44
    refine J_sub hm45 ?_
    have hlen := hcv.le
    refine J_seq ?_
    refine J_seq ?_
    refine J_region ?_
    refine JL_pure (v := .int .i64 ((j : Int))) rfl (Pu.move rfl) ?_
    refine JL_pure (v := .pointer (some ⟨b1, 35, none⟩)) rfl (fa27_4 rfl rfl) ?_
    refine JL_run rfl (Pu_load1 ty25 rfl (At.bx 1 rfl) (pkT_35 ..) ?_)
    obtain ⟨a47, cap47, hv47⟩ := hcv.sl
    have hle47 := hcv.le
    refine JL_pure (v := .int .i64 (((cases).length : Int))) rfl (Pu.lenSl Tryz.runUnderlying25 hv47) ?_
    refine JL_pure (v := .bool (decide ((j : Int) < ((cases).length : Int)))) rfl (Pu.lss rfl rfl) ?_
    refine JL_nil ?_
    refine J_cond (b := decide ((j : Int) < ((cases).length : Int))) rfl (fun h48 => ?_) (fun h48 => ?_)
    ·skip
     replace h48 := dt h48
     have h48n : j < (cases).length := by omega
     have hs1 := sizeCs_mem _ (List.getElem_mem h48n)
     have hm1 := binds_le (cases[j]).1
     refine J_skip ?_
     refine J_seq ?_
     refine J_block ?_
     obtain ⟨b50, o50, cap50, row50, T50, fr50, cs50, hv50, hb50, hs50, hE50⟩ := hcv.get j (by first | assumption | omega | decide | simp)
     obtain ⟨ca50, cb50, rfl, hA50, hB50⟩ := hE50
     refine J_draw mixed #[0, 1, 0, 7, 15, 31, 0, 0, 128, 0, 896, 1920, 3968, 8064, 16320, 0, 65535] 16 16 2 rfl (by kernel_rfl) (fun i r49 N49 => match i with | 0 => (r49 0) = .pointer (some ⟨b1, 35, none⟩) | 1 => (r49 1) = cv | 2 => (r49 2) = .int .i64 ((j : Int)) | 3 => (r49 3) = .pointer (some ⟨b50, o50 + j * 71, none⟩) | 4 => (r49 4) = .pointer (some ⟨b50, o50 + j * 71 + 35, none⟩) | 5 => (r49 5) = .agg ⟨cb50⟩ | 6 => (r49 6) = .int .i64 (b) | 7 => (r49 7) = .pointer (some ⟨b1, 35, none⟩) | 8 => (r49 8) = cv | 9 => (r49 9) = .int .i64 ((j : Int)) | 10 => (r49 10) = .pointer (some ⟨b50, o50 + j * 71, none⟩) | 11 => (r49 11) = .pointer (some ⟨b50, o50 + j * 71, none⟩) | 12 => (r49 12) = .agg ⟨ca50⟩ | 13 => (r49 13) = .int .i64 ((binds ((cases)[j].1) : Int)) | 14 => (r49 14) = .int .i64 (b + ((binds ((cases)[j].1) : Int))) | 15 => (r49 15) = .slice (some ⟨bF, 0, none⟩) 60 60 | _ => True) ⟨?_, ?_, ?_, ?_, ?_, ?_, ?_, ?_, ?_, ?_, ?_, ?_, ?_, ?_, ?_, ?_, trivial⟩ ?_
     ·intro ρ r49 N49 B hB hBa hp hr hr0
      have q3 : ρ 3 = .pointer (some ⟨b1, 0, none⟩) := hr0 3 (by kernel_rfl)
      obtain ⟨ρ51, rfl⟩ := reopen_ex (uc q3 un)
      clear q3
      refine JL_pure (v := .pointer (some ⟨b1, 35, none⟩)) rfl (fa27_4 rfl rfl) ?_
      refine JL_nil ?_
      exact ⟨.pointer (some ⟨b1, 35, none⟩), [], rfl, (Sub.emp Sub.refl), rfl⟩
     ·intro ρ r49 N49 B hB hBa hp hr hr0
      have q59 : ρ 59 = .pointer (some ⟨b1, 35, none⟩) := (hr 0 _ _ (by decide) rfl rfl rfl).trans (hp 0 (by decide) rfl)
      obtain ⟨ρ52, rfl⟩ := reopen_ex (uc q59 un)
      clear q59
      refine JL_run rfl (Pu_load1 ty25 rfl (At.bx 17 (made_old ((hB 1 (by decide)).trans rfl))) (pkT_35 ..) ?_)
      refine JL_nil ?_
      exact ⟨cv, [], rfl, (Sub.emp Sub.refl), rfl⟩
     ·intro ρ r49 N49 B hB hBa hp hr hr0
      have q7 : ρ 7 = .int .i64 ((j : Int)) := hr0 7 (by kernel_rfl)
      obtain ⟨ρ53, rfl⟩ := reopen_ex (uc q7 un)
      clear q7
      refine JL_pure (v := .int .i64 ((j : Int))) rfl (Pu.move rfl) ?_
      refine JL_nil ?_
      exact ⟨.int .i64 ((j : Int)), [], rfl, (Sub.emp Sub.refl), rfl⟩
     ·intro ρ r49 N49 B hB hBa hp hr hr0
      have q60 : ρ 60 = cv := (hr 1 _ _ (by decide) rfl rfl rfl).trans (hp 1 (by decide) rfl)
      have q61 : ρ 61 = .int .i64 ((j : Int)) := (hr 2 _ _ (by decide) rfl rfl rfl).trans (hp 2 (by decide) rfl)
      obtain ⟨ρ54, rfl⟩ := reopen_ex (uc q60 (uc q61 un))
      clear q60 q61
      refine JL_pure (v := .pointer (some ⟨b50, o50 + j * 71, none⟩)) rfl (Pu.idx j Tryz.runUnderlying25 ty46 hv50 rfl rfl (by first | assumption | omega | decide | simp)) ?_
      refine JL_nil ?_
      exact ⟨.pointer (some ⟨b50, o50 + j * 71, none⟩), [], rfl, (Sub.emp Sub.refl), rfl⟩
     ·intro ρ r49 N49 B hB hBa hp hr hr0
      have q62 : ρ 62 = .pointer (some ⟨b50, o50 + j * 71, none⟩) := (hr 3 _ _ (by decide) rfl rfl rfl).trans (hp 3 (by decide) rfl)
      obtain ⟨ρ55, rfl⟩ := reopen_ex (uc q62 un)
      clear q62
      refine JL_pure (v := .pointer (some ⟨b50, o50 + j * 71 + 35, none⟩)) rfl (fa46_1 rfl rfl) ?_
      refine JL_nil ?_
      exact ⟨.pointer (some ⟨b50, o50 + j * 71 + 35, none⟩), [], rfl, (Sub.emp Sub.refl), rfl⟩
     ·intro ρ r49 N49 B hB hBa hp hr hr0
      have q63 : ρ 63 = .pointer (some ⟨b50, o50 + j * 71 + 35, none⟩) := (hr 4 _ _ (by decide) rfl rfl rfl).trans (hp 4 (by decide) rfl)
      obtain ⟨ρ56, rfl⟩ := reopen_ex (uc q63 un)
      clear q63
      refine JL_run rfl (Pu_load ty27 rfl (At.im hb50) (sub_sub hs50 (sub_r (RP_len hA50) (RT_len hB50))) ?_)
      refine JL_nil ?_
      exact ⟨.agg ⟨cb50⟩, [], rfl, (Sub.emp Sub.refl), rfl⟩
     ·intro ρ r49 N49 B hB hBa hp hr hr0
      have q1 : ρ 1 = .int .i64 (b) := hr0 1 (by kernel_rfl)
      obtain ⟨ρ57, rfl⟩ := reopen_ex (uc q1 un)
      clear q1
      refine JL_pure (v := .int .i64 (b)) rfl (Pu.move rfl) ?_
      refine JL_nil ?_
      exact ⟨.int .i64 (b), [], rfl, (Sub.emp Sub.refl), rfl⟩
     ·intro ρ r49 N49 B hB hBa hp hr hr0
      have q3 : ρ 3 = .pointer (some ⟨b1, 0, none⟩) := hr0 3 (by kernel_rfl)
      obtain ⟨ρ58, rfl⟩ := reopen_ex (uc q3 un)
      clear q3
      refine JL_pure (v := .pointer (some ⟨b1, 35, none⟩)) rfl (fa27_4 rfl rfl) ?_
      refine JL_nil ?_
      exact ⟨.pointer (some ⟨b1, 35, none⟩), [], rfl, (Sub.emp Sub.refl), rfl⟩
     ·intro ρ r49 N49 B hB hBa hp hr hr0
      have q66 : ρ 66 = .pointer (some ⟨b1, 35, none⟩) := (hr 7 _ _ (by decide) rfl rfl rfl).trans (hp 7 (by decide) rfl)
      obtain ⟨ρ59, rfl⟩ := reopen_ex (uc q66 un)
      clear q66
      refine JL_run rfl (Pu_load1 ty25 rfl (At.bx 17 (made_old ((hB 1 (by decide)).trans rfl))) (pkT_35 ..) ?_)
      refine JL_nil ?_
      exact ⟨cv, [], rfl, (Sub.emp Sub.refl), rfl⟩
     ·intro ρ r49 N49 B hB hBa hp hr hr0
      have q7 : ρ 7 = .int .i64 ((j : Int)) := hr0 7 (by kernel_rfl)
      obtain ⟨ρ60, rfl⟩ := reopen_ex (uc q7 un)
      clear q7
      refine JL_pure (v := .int .i64 ((j : Int))) rfl (Pu.move rfl) ?_
      refine JL_nil ?_
      exact ⟨.int .i64 ((j : Int)), [], rfl, (Sub.emp Sub.refl), rfl⟩
     ·intro ρ r49 N49 B hB hBa hp hr hr0
      have q67 : ρ 67 = cv := (hr 8 _ _ (by decide) rfl rfl rfl).trans (hp 8 (by decide) rfl)
      have q68 : ρ 68 = .int .i64 ((j : Int)) := (hr 9 _ _ (by decide) rfl rfl rfl).trans (hp 9 (by decide) rfl)
      obtain ⟨ρ61, rfl⟩ := reopen_ex (uc q67 (uc q68 un))
      clear q67 q68
      refine JL_pure (v := .pointer (some ⟨b50, o50 + j * 71, none⟩)) rfl (Pu.idx j Tryz.runUnderlying25 ty46 hv50 rfl rfl (by first | assumption | omega | decide | simp)) ?_
      refine JL_nil ?_
      exact ⟨.pointer (some ⟨b50, o50 + j * 71, none⟩), [], rfl, (Sub.emp Sub.refl), rfl⟩
     ·intro ρ r49 N49 B hB hBa hp hr hr0
      have q69 : ρ 69 = .pointer (some ⟨b50, o50 + j * 71, none⟩) := (hr 10 _ _ (by decide) rfl rfl rfl).trans (hp 10 (by decide) rfl)
      obtain ⟨ρ62, rfl⟩ := reopen_ex (uc q69 un)
      clear q69
      refine JL_pure (v := .pointer (some ⟨b50, o50 + j * 71, none⟩)) rfl (fa46_0 rfl rfl) ?_
      refine JL_nil ?_
      exact ⟨.pointer (some ⟨b50, o50 + j * 71, none⟩), [], rfl, (Sub.emp Sub.refl), rfl⟩
     ·intro ρ r49 N49 B hB hBa hp hr hr0
      have q70 : ρ 70 = .pointer (some ⟨b50, o50 + j * 71, none⟩) := (hr 11 _ _ (by decide) rfl rfl rfl).trans (hp 11 (by decide) rfl)
      obtain ⟨ρ63, rfl⟩ := reopen_ex (uc q70 un)
      clear q70
      refine JL_run rfl (Pu_load ty42 rfl (At.im hb50) (sub_sub0 hs50 (sub_l (RP_len hA50))) ?_)
      refine JL_nil ?_
      exact ⟨.agg ⟨ca50⟩, [], rfl, (Sub.emp Sub.refl), rfl⟩
     ·intro ρ r49 N49 B hB hBa hp hr hr0
      have q71 : ρ 71 = .agg ⟨ca50⟩ := (hr 12 _ _ (by decide) rfl rfl rfl).trans (hp 12 (by decide) rfl)
      obtain ⟨ρ64, rfl⟩ := reopen_ex (uc q71 un)
      clear q71
      refine JL_call rfl Tryz.call65 rfl (fun hin => bindsR_ct _ _ _ (RP.mono (Hle.hu _ _) hA50) (by omega)) rfl ?_
      rintro _ _ ⟨rfl, rfl⟩
      refine JL_nil ?_
      exact ⟨.int .i64 ((binds ((cases)[j].1) : Int)), [], rfl, (Sub.emp Sub.refl), rfl⟩
     ·intro ρ r49 N49 B hB hBa hp hr hr0
      have q65 : ρ 65 = .int .i64 (b) := (hr 6 _ _ (by decide) rfl rfl rfl).trans (hp 6 (by decide) rfl)
      have q72 : ρ 72 = .int .i64 ((binds ((cases)[j].1) : Int)) := (hr 13 _ _ (by decide) rfl rfl rfl).trans (hp 13 (by decide) rfl)
      obtain ⟨ρ65, rfl⟩ := reopen_ex (uc q65 (uc q72 un))
      clear q65 q72
      refine JL_pure (v := .int .i64 (b + ((binds ((cases)[j].1) : Int)))) rfl (Pu.add64 rfl rfl (by first | omega | (constructor <;> omega))) ?_
      refine JL_nil ?_
      exact ⟨.int .i64 (b + ((binds ((cases)[j].1) : Int))), [], rfl, (Sub.emp Sub.refl), rfl⟩
     ·intro ρ r49 N49 B hB hBa hp hr hr0
      have q2 : ρ 2 = .slice (some ⟨bF, 0, none⟩) 60 60 := hr0 2 (by kernel_rfl)
      obtain ⟨ρ66, rfl⟩ := reopen_ex (uc q2 un)
      clear q2
      refine JL_pure (v := .slice (some ⟨bF, 0, none⟩) 60 60) rfl (Pu.move rfl) ?_
      refine JL_nil ?_
      exact ⟨.slice (some ⟨bF, 0, none⟩) 60 60, [], rfl, (Sub.emp Sub.refl), rfl⟩
     ·intro ρ r49 N49 hp hr hr0
      have q1 : ρ 1 = .int .i64 (b) := hr0 1 (by kernel_rfl)
      have q2 : ρ 2 = .slice (some ⟨bF, 0, none⟩) 60 60 := hr0 2 (by kernel_rfl)
      have q3 : ρ 3 = .pointer (some ⟨b1, 0, none⟩) := hr0 3 (by kernel_rfl)
      have q7 : ρ 7 = .int .i64 ((j : Int)) := hr0 7 (by kernel_rfl)
      have q64 : ρ 64 = .agg ⟨cb50⟩ := (hr 5 _ _ (by decide) rfl rfl).trans (hp 5 (by decide))
      have q73 : ρ 73 = .int .i64 (b + ((binds ((cases)[j].1) : Int))) := (hr 14 _ _ (by decide) rfl rfl).trans (hp 14 (by decide))
      have q74 : ρ 74 = .slice (some ⟨bF, 0, none⟩) 60 60 := (hr 15 _ _ (by decide) rfl rfl).trans (hp 15 (by decide))
      obtain ⟨ρ67, rfl⟩ := reopen_ex (uc q1 (uc q2 (uc q3 (uc q7 (uc q64 (uc q73 (uc q74 un)))))))
      clear q1 q2 q3 q7 q64 q73 q74
      clear hp hr hr0 
      refine JL_sub (M' := [(N49 0), (N49 1), (N49 2), (N49 3), (N49 4), (N49 5), (N49 6), (N49 7), (N49 8), (N49 9), (N49 10), (N49 11), (N49 12), (N49 13), (N49 14), (N49 15), [(bF, .cells ⟨bls (l2)⟩ 4 (0, 0))], [(b1, .cells ⟨pkT (kind) (num) (ref) (ks) (cv)⟩ 27 (0, 0))]]) Sub.refl ?_
      refine JL_sub (M' := [[(bF, .cells ⟨bls (l2)⟩ 4 (0, 0))], [(b1, .cells ⟨pkT (kind) (num) (ref) (ks) (cv)⟩ 27 (0, 0))]]) (Sub.cons 16 rfl (Sub.cons 16 rfl Sub.nil)) ?_
      show JL _ _ _ [_] _ _ _
      refine JL_call1 0 rfl Tryz.call64 rfl rfl (fun hin => ih' _ (List.getElem_mem h48n) _ _ _ _ _ (RT.mono (Hle.hu _ _) hB50) (by omega) (by omega) hll2) rfl ?_
      rintro _ _ ⟨rfl, rfl⟩
      refine JL_nil ?_
      refine J_region ?_
      refine JL_pure (v := .int .i64 ((j : Int))) rfl (Pu.move rfl) ?_
      refine JL_pure (v := .int .i64 (((j + 1 : Nat) : Int))) rfl (Pu.inc rfl rfl (by omega)) ?_
      refine JL_pure (v := .int .i64 (((j + 1 : Nat) : Int))) rfl (Pu.assign rfl) ?_
      refine JL_nil ?_
      refine ⟨_, ?_, (j + 1), (occT (b + ((binds ((cases)[j].1) : Int))) ((cases)[j].2) (l2)), rfl, rfl, rfl, rfl, (Sub.cons 0 rfl (Sub.cons 0 rfl Sub.nil)), ?_, ?_, ?_, rfl⟩
      ·omega
      ·omega
      ·exact ((occT_len _ _ _).trans hll2)
      ·rw [dropc h48n, occCs] at hinv; exact hinv
    ·skip
     replace h48 := df h48
     have h48n : (cases).length ≤ j := by omega
     refine J_exit _ rfl ?_
     refine ⟨.tuple ⟨[]⟩, [[(bF, .cells ⟨bls (l2)⟩ 4 (0, 0))]], Ret.none rfl, (Sub.cons 0 rfl Sub.nil), ?_⟩
     show _ = _; rw [occT, ← hk1, ← hinv, dropn h48n]; rfl
end Go.Proofs.YtbfjkdhfelmioaaGreat.Hs
/-! Walks, printed by a program of this session's own (gen.py). -/
namespace Go.Proofs.YtbfjkdhfelmioaaGreat.Hs
open Go Go.Proofs
set_option maxRecDepth 100000
set_option linter.unusedVariables false
set_option linter.unusedSimpArgs false
attribute [local irreducible] JL J CT wlo
theorem freeR_ct (t : Tm) (cs : List Value) (H : Heap) (ht : RT H cs t) (hz : sizeT t ≤ 400000) : CT Tryz.prog 20 ⟨[.agg ⟨cs⟩]⟩ [] H (fun v N => ∃ u k, v = u ∧ N = [k] ∧ Own 3 1 u (ints (freeR t)) k) := by
 refine CT_enter Tryz.func20 rfl rfl ?_
 refine J_seq ?_
 refine J_region ?_
 refine JL_run rfl (Runs_box (l := cs) rfl rfl fun b1 => ?_)
 refine JL_pure (v := .slice none 0 0) rfl (Pu.assign rfl) ?_
 refine JL_nil ?_
 refine J_seq ?_
 refine J_region ?_
 refine JL_run rfl (Runs_make 60 Tryz.runUnderlying96 el4 rfl rfl rfl rfl (by decide) (by decide) fun b2 k2 _ hk2 => ?_)
 obtain rfl : k2 = [(b2, .cells ⟨bls (List.replicate 60 false)⟩ 4 (0, 0))] := hk2
 refine JL_pure (v := .slice (some ⟨b2, 0, none⟩) 60 60) rfl (Pu.assign rfl) ?_
 refine JL_nil ?_
 refine J_seq ?_
 refine J_region ?_
 refine JL_run rfl (Pu_load ty27 rfl (At.bx 1 rfl) (sub_a (RT_len ht)) ?_)
 refine JL_pure (v := .slice (some ⟨b2, 0, none⟩) 60 60) rfl (Pu.move rfl) ?_
 refine JL_call1 0 rfl Tryz.call64 rfl rfl (fun hin => occurs_ct _ _ _ _ _ _ (RT.mono (Hle.hu _ _) ht) (by decide) (by omega) (List.length_replicate ..)) rfl ?_
 rintro _ _ ⟨rfl, rfl⟩
 refine JL_nil ?_
 refine J_seq ?_
 refine J_region ?_
 refine JL_pure (v := .slice none 0 0) rfl (Pu.assign rfl) ?_
 refine JL_nil ?_
 refine J_seq ?_
 refine J_seq ?_
 refine J_region ?_
 refine JL_pure (v := .int .i64 (0)) rfl (Pu.assign rfl) ?_
 refine JL_nil ?_
 refine J_block ?_
 refine J_loop (fun k ρ M => ∃ (j : Nat) (v : Value) (k1 : Chunk), ρ 2 = .slice none 0 0 ∧ ρ 3 = .slice (some ⟨b2, 0, none⟩) 60 60 ∧ ρ 4 = v ∧ ρ 5 = .int .i64 ((j : Int)) ∧ Sub [k1, [(b2, .cells ⟨bls (occT (0) (t) (List.replicate 60 false))⟩ 4 (0, 0))]] M ∧ j ≤ 60 ∧ Own 3 1 v (ints (upTo (occT (0) (t) (List.replicate 60 false)) j)) k1 ∧ k = 60 - j) _ ⟨0, (.slice none 0 0), [], rfl, rfl, rfl, rfl, (Sub.emp (Sub.cons 0 rfl Sub.nil)), Nat.zero_le _, Own.nil, rfl⟩ ?_
 rintro _ ρ3 _ ⟨j, v, k1, e4, e5, e6, e7, hm8, hj, ho, rfl⟩
 obtain ⟨ρ9, rfl⟩ := reopen_ex (uc e4 (uc e5 (uc e6 (uc e7 un))))
 clear e4 e5 e6 e7
 refine J_sub hm8 ?_
 refine J_seq ?_
 refine J_seq ?_
 refine J_region ?_
 refine JL_pure (v := .int .i64 ((j : Int))) rfl (Pu.move rfl) ?_
 refine JL_pure (v := .slice (some ⟨b2, 0, none⟩) 60 60) rfl (Pu.move rfl) ?_
 refine JL_pure (v := .int .i64 (60)) rfl (Pu.lenSl Tryz.runUnderlying96 rfl) ?_
 refine JL_pure (v := .bool (decide ((j : Int) < 60))) rfl (Pu.lss rfl rfl) ?_
 refine JL_nil ?_
 refine J_cond (b := decide ((j : Int) < 60)) rfl (fun h10 => ?_) (fun h10 => ?_)
 ·skip
  replace h10 := dt h10
  have h10n : j < 60 := by omega
  have hul := upTo_len (occT (0) (t) (List.replicate 60 false)) j
  have hil := ints_len (upTo (occT (0) (t) (List.replicate 60 false)) j)
  refine J_skip ?_
  refine J_seq ?_
  refine J_block ?_
  refine J_seq ?_
  refine J_region ?_
  refine JL_pure (v := .slice (some ⟨b2, 0, none⟩) 60 60) rfl (Pu.move rfl) ?_
  refine JL_pure (v := .int .i64 ((j : Int))) rfl (Pu.move rfl) ?_
  refine JL_pure (v := .pointer (some ⟨b2, 0 + j * 1, none⟩)) rfl (Pu.idx j Tryz.runUnderlying96 ty4 rfl rfl (by omega) (by omega)) ?_
  refine JL_run rfl (Pu_load1 ty4 rfl (At.bx 1 rfl) (bls_get1 (by have hbl : List.length (occT (0) (t) (List.replicate 60 false)) = 60 := ((occT_len _ _ _).trans (List.length_replicate ..)); omega)) ?_)
  refine JL_nil ?_
  refine J_cond (b := (occT (0) (t) (List.replicate 60 false)).getD j false) rfl (fun h11 => ?_) (fun h11 => ?_)
  ·skip
   refine J_region ?_
   refine JL_pure (v := v) rfl (Pu.move rfl) ?_
   refine JL_pure (v := .int .i64 ((j : Int))) rfl (Pu.move rfl) ?_
   refine JL_run rfl (Runs_buildSlice (vs := [.int .i64 ((j : Int))]) [[.int .i64 ((j : Int))]] Tryz.runUnderlying49 el3 rfl rfl (by intro e he; simp only [List.mem_cons, List.not_mem_nil, or_false] at he; subst he; exact rfl) rfl (by decide) fun b12 k12 ho12 hk12 => ?_)
   have hlens13 : ∀ e ∈ ([[.int .i64 ((j : Int))]] : List (List Value)), List.length e = 1 := by
    intro e he; simp only [List.mem_cons, List.not_mem_nil, or_false] at he
    rcases he with rfl
    ·exact rfl
   have hoks13 : ∀ e ∈ ([[.int .i64 ((j : Int))]] : List (List Value)), okc e := by
    intro e he; simp only [List.mem_cons, List.not_mem_nil, or_false] at he
    rcases he with rfl
    ·exact (okc_cons rfl okc_nil)
   refine JL_run rfl (Runs_append (i := 1) (n := 1) (es' := [[.int .i64 ((j : Int))]]) Tryz.runUnderlying49 Tryz.runUnderlying49 (Or.inl rfl) el3 rfl rfl rfl ho (fun F w m => Src.row (((At.k 0 rfl (by rw [hk12]; exact List.mem_cons_self))).heap m) (sub_a (flatten_len hlens13))) rfl hlens13 hoks13 (by decide) (by omega) fun v13 k13 ho13 => ?_)
   refine JL_pure (v := v13) rfl (Pu.assign rfl) ?_
   refine JL_nil ?_
   refine J_region ?_
   refine JL_pure (v := .int .i64 ((j : Int))) rfl (Pu.move rfl) ?_
   refine JL_pure (v := .int .i64 (((j + 1 : Nat) : Int))) rfl (Pu.inc rfl rfl (by omega)) ?_
   refine JL_pure (v := .int .i64 (((j + 1 : Nat) : Int))) rfl (Pu.assign rfl) ?_
   refine JL_nil ?_
   refine ⟨_, ?_, (j + 1), (v13), (k13), rfl, rfl, rfl, rfl, (Sub.cons 1 rfl (Sub.cons 1 rfl Sub.nil)), ?_, ?_, rfl⟩
   ·omega
   ·omega
   ·rw [upTo_succ, if_pos h11, ints_snoc]; exact ho13
  ·skip
   refine J_skip ?_
   refine J_region ?_
   refine JL_pure (v := .int .i64 ((j : Int))) rfl (Pu.move rfl) ?_
   refine JL_pure (v := .int .i64 (((j + 1 : Nat) : Int))) rfl (Pu.inc rfl rfl (by omega)) ?_
   refine JL_pure (v := .int .i64 (((j + 1 : Nat) : Int))) rfl (Pu.assign rfl) ?_
   refine JL_nil ?_
   refine ⟨_, ?_, (j + 1), (v), (k1), rfl, rfl, rfl, rfl, (Sub.cons 0 rfl (Sub.cons 0 rfl Sub.nil)), ?_, ?_, rfl⟩
   ·omega
   ·omega
   ·rw [upTo_succ, if_neg (by rw [h11]; decide)]; exact ho
 ·skip
  replace h10 := df h10
  have h10n : 60 ≤ j := by omega
  refine J_exit _ rfl ?_
  refine J_seq ?_
  refine J_region ?_
  refine JL_pure (v := v) rfl (Pu.move rfl) ?_
  refine JL_pure (v := v) rfl (Pu.assign rfl) ?_
  refine JL_nil ?_
  refine J_ret ?_
  refine ⟨v, [k1], Ret.one rfl (RV.tmp rfl), (Sub.cons 0 rfl Sub.nil), ?_⟩
  obtain rfl : j = 60 := by omega
  exact ⟨v, k1, rfl, rfl, ho⟩
end Go.Proofs.YtbfjkdhfelmioaaGreat.Hs
/-! Walks, printed by a program of this session's own (gen.py). -/
namespace Go.Proofs.YtbfjkdhfelmioaaGreat.Hs
open Go Go.Proofs
set_option maxRecDepth 100000
set_option linter.unusedVariables false
set_option linter.unusedSimpArgs false
attribute [local irreducible] JL J CT wlo
theorem shiftR_ct (t : Tm) (dy fr : Int) (cs : List Value) (H : Heap) (ht : RT H cs t) (hz : sizeT t ≤ 400000) (hvt : vOK t) : CT Tryz.prog 9 ⟨[.agg ⟨cs⟩, .int .i64 (dy), .int .i64 (fr)]⟩ [] H (fun v N => ∃ cs k, v = .tuple ⟨[.agg ⟨cs⟩, .int .i64 (shiftR t dy fr).2]⟩ ∧ N = [k] ∧ OT (shiftR t dy fr).1 cs k) := by
 refine CT_enter Tryz.func9 rfl rfl ?_
 refine J_seq ?_
 refine J_region ?_
 refine JL_run rfl (Runs_box (l := cs) rfl rfl fun b1 => ?_)
 refine JL_run rfl (Runs_alloc (l := pkT (0) (0) (zS) (.slice none 0 0) (.slice none 0 0)) Tryz.zeroValue27 rfl fun b2 => ?_)
 refine JL_pure (v := .int .i64 (0)) rfl (Pu.assign rfl) ?_
 refine JL_nil ?_
 refine J_seq ?_
 refine J_cut (fun ρ M => ρ 1 = .int .i64 (dy) ∧ ρ 2 = .int .i64 (fr) ∧ ρ 3 = .pointer (some ⟨b1, 0, none⟩) ∧ ρ 6 = .pointer (some ⟨b2, 0, none⟩) ∧ ρ 7 = .int .i64 (0) ∧ ρ 15 = .bool ((decide (dy < -60 ∨ 60 < dy)) || (decide (fr < 0 ∨ 60 < fr))) ∧ M = [[(b2, .cells ⟨pkT (0) (0) (zS) (.slice none 0 0) (.slice none 0 0)⟩ 27 (0, 0))], [(b1, .cells ⟨cs⟩ 27 (0, 0))]]) ?_ ?_
 ·refine J_region ?_
  refine JL_pure (v := .int .i64 (dy)) rfl (Pu.move rfl) ?_
  refine JL_call rfl Tryz.call44 rfl (fun hin => offR_ct _ _ _ _) rfl ?_
  rintro _ _ ⟨rfl, rfl⟩
  refine JL_pure (v := .bool (decide (dy < -60 ∨ 60 < dy))) rfl (Pu.move rfl) ?_
  cases h3 : (decide (dy < -60 ∨ 60 < dy)) with
  | true =>
   replace h3 := dt h3
   refine JL_skip rfl ?_
   refine JL_skip rfl ?_
   refine JL_pure (v := .bool (true)) rfl (Pu.pickT rfl rfl) ?_
   refine JL_nil ?_
   first | exact ⟨rfl, rfl, rfl, rfl, rfl, rfl, rfl⟩ | (exfalso; omega)
  | false =>
   replace h3 := df h3
   refine JL_pure (v := .int .i64 (fr)) rfl (Pu.move rfl) ?_
   refine JL_call rfl Tryz.call44 rfl (fun hin => offR_ct _ _ _ _) rfl ?_
   rintro _ _ ⟨rfl, rfl⟩
   refine JL_pure (v := .bool (decide (fr < 0 ∨ 60 < fr))) rfl (Pu.pickF rfl rfl) ?_
   refine JL_nil ?_
   first | exact ⟨rfl, rfl, rfl, rfl, rfl, rfl, rfl⟩ | (exfalso; omega)
 ·rintro ρ4 _ ⟨e5, e6, e7, e8, e9, e10, rfl⟩
  obtain ⟨ρ11, rfl⟩ := reopen_ex (uc e5 (uc e6 (uc e7 (uc e8 (uc e9 (uc e10 un))))))
  clear e5 e6 e7 e8 e9 e10
  refine J_cond (b := (decide (dy < -60 ∨ 60 < dy)) || (decide (fr < 0 ∨ 60 < fr))) rfl (fun h12 => ?_) (fun h12 => ?_)
  ·skip
   refine J_seq ?_
   refine J_region ?_
   refine JL_pure (v := .agg ⟨pkT (0) (0) (zS) (.slice none 0 0) (.slice none 0 0)⟩) rfl (Pu.build (pv := []) (l := pkT (0) (0) (zS) (.slice none 0 0) (.slice none 0 0)) rfl (bld27_ )) ?_
   refine JL_run rfl (Runs_storeB 0 (vs := pkT (0) (0) (zS) (.slice none 0 0) (.slice none 0 0)) (l := pkT (0) (0) (zS) (.slice none 0 0) (.slice none 0 0)) ty27 rfl rfl rfl rfl rfl (pkT_ok rfl rfl) (pkT_s ..) ?_)
   refine JL_pure (v := .int .i64 (3)) rfl (Pu.assign rfl) ?_
   refine JL_nil ?_
   refine J_ret ?_
   refine ⟨.tuple ⟨[.agg ⟨pkT (0) (0) (zS) (.slice none 0 0) (.slice none 0 0)⟩, .int .i64 (3)]⟩, [[]], Ret.two rfl (RV.cell ty27 rfl (At.bx 0 rfl) (pkT_a ..)) (RV.tmp rfl), (Sub.emp Sub.nil), ?_⟩
   have hx : shiftR t dy fr = (zT, 3) := by simp only [shiftR]; (repeat' split) <;> first | rfl | (exfalso; simp_all; done) | (exfalso; simp_all; omega)
   exact ⟨_, _, by rw [hx], rfl, by rw [hx]; exact OT_zero⟩
  ·skip
   obtain ⟨h12a, h12b⟩ := orF h12
   replace h12a := df h12a
   replace h12b := df h12b
   refine J_skip ?_
   refine J_seq ?_
   refine J_region ?_
   refine JL_run rfl (Pu_load ty27 rfl (At.bx 1 rfl) (sub_a (RT_len ht)) ?_)
   refine JL_call rfl Tryz.call20 rfl (fun hin => freeR_ct _ _ _ (RT.mono (Hle.hu _ _) ht) (by omega)) rfl ?_
   rintro u13 _ ⟨_, k13, hu13, rfl, ho13⟩; subst hu13
   refine JL_pure (v := u13) rfl (Pu.assign rfl) ?_
   refine JL_nil ?_
   refine J_seq ?_
   refine J_seq ?_
   refine J_region ?_
   refine JL_pure (v := .int .i64 (0)) rfl (Pu.assign rfl) ?_
   refine JL_nil ?_
   refine J_block ?_
   have hoff : ¬ ((dy < -60 ∨ 60 < dy) ∨ (fr < 0 ∨ 60 < fr)) := by intro hh; simp_all; omega
   refine J_loop (fun k ρ M => ∃ (j : Nat), ρ 1 = .int .i64 (dy) ∧ ρ 2 = .int .i64 (fr) ∧ ρ 3 = .pointer (some ⟨b1, 0, none⟩) ∧ ρ 6 = .pointer (some ⟨b2, 0, none⟩) ∧ ρ 7 = .int .i64 (0) ∧ ρ 8 = u13 ∧ ρ 9 = .int .i64 ((j : Int)) ∧ Sub [k13, [(b2, .cells ⟨pkT (0) (0) (zS) (.slice none 0 0) (.slice none 0 0)⟩ 27 (0, 0))], [(b1, .cells ⟨cs⟩ 27 (0, 0))]] M ∧ j ≤ (freeR (t)).length ∧ badMove dy fr ((freeR (t)).drop j) = badMove dy fr (freeR (t)) ∧ k = (freeR (t)).length - j) _ ⟨0, rfl, rfl, rfl, rfl, rfl, rfl, rfl, (Sub.cons 0 rfl (Sub.cons 0 rfl (Sub.cons 0 rfl Sub.nil))), Nat.zero_le _, rfl, rfl⟩ ?_
   rintro _ ρ14 _ ⟨j, e15, e16, e17, e18, e19, e20, e21, hm22, hj, hinv0, rfl⟩
   obtain ⟨ρ23, rfl⟩ := reopen_ex (uc e15 (uc e16 (uc e17 (uc e18 (uc e19 (uc e20 (uc e21 un)))))))
   clear e15 e16 e17 e18 e19 e20 e21
   refine J_sub hm22 ?_
   have hul := upTo_len (occT 0 t (List.replicate 60 false)) 60
   rw [← freeR] at hul
   refine J_seq ?_
   refine J_seq ?_
   refine J_region ?_
   refine JL_pure (v := .int .i64 ((j : Int))) rfl (Pu.move rfl) ?_
   refine JL_pure (v := u13) rfl (Pu.move rfl) ?_
   obtain ⟨a24, cap24, hv24⟩ := ho13.sl
   rw [ints_len] at hv24
   refine JL_pure (v := .int .i64 (((freeR (t)).length : Int))) rfl (Pu.lenSl Tryz.runUnderlying49 hv24) ?_
   refine JL_pure (v := .bool (decide ((j : Int) < ((freeR (t)).length : Int)))) rfl (Pu.lss rfl rfl) ?_
   refine JL_nil ?_
   refine J_cond (b := decide ((j : Int) < ((freeR (t)).length : Int))) rfl (fun h25 => ?_) (fun h25 => ?_)
   ·skip
    replace h25 := dt h25
    have h25n : j < (freeR (t)).length := by omega
    have hbx := freeR_bound t _ (List.getElem_mem h25n)
    refine J_skip ?_
    refine J_seq ?_
    refine J_block ?_
    refine J_cut (fun ρ M => ρ 1 = .int .i64 (dy) ∧ ρ 2 = .int .i64 (fr) ∧ ρ 3 = .pointer (some ⟨b1, 0, none⟩) ∧ ρ 6 = .pointer (some ⟨b2, 0, none⟩) ∧ ρ 7 = .int .i64 (0) ∧ ρ 8 = u13 ∧ ρ 9 = .int .i64 ((j : Int)) ∧ ρ 40 = .bool ((decide (fr ≤ (freeR (t))[j])) && (decide ((freeR (t))[j] + dy < fr ∨ 59 < (freeR (t))[j] + dy))) ∧ M = [k13, [(b2, .cells ⟨pkT (0) (0) (zS) (.slice none 0 0) (.slice none 0 0)⟩ 27 (0, 0))], [(b1, .cells ⟨cs⟩ 27 (0, 0))]]) ?_ ?_
    ·refine J_region ?_
     refine JL_pure (v := u13) rfl (Pu.move rfl) ?_
     refine JL_pure (v := .int .i64 ((j : Int))) rfl (Pu.move rfl) ?_
     obtain ⟨b26, cap26, row26, hv26, hm26, hs26⟩ := ho13.at (j := j) (by rw [ints_len]; first | assumption | omega)
     rw [ints_get _ _ (by first | assumption | omega)] at hs26
     refine JL_pure (v := .pointer (some ⟨b26, 0 + j * 1, none⟩)) rfl (Pu.idx j Tryz.runUnderlying49 ty3 hv26 rfl rfl (by rw [ints_len]; first | assumption | omega)) ?_
     refine JL_run rfl (Pu_load1 ty3 rfl (At.k 0 rfl hm26) (sub_one hs26) ?_)
     refine JL_pure (v := .int .i64 (fr)) rfl (Pu.move rfl) ?_
     refine JL_pure (v := .bool (decide (fr ≤ (freeR (t))[j]))) rfl (Pu.geq rfl rfl) ?_
     refine JL_pure (v := .bool (decide (fr ≤ (freeR (t))[j]))) rfl (Pu.move rfl) ?_
     cases h27 : (decide (fr ≤ (freeR (t))[j])) with
     | true =>
      replace h27 := dt h27
      refine JL_pure (v := u13) rfl (Pu.move rfl) ?_
      refine JL_pure (v := .int .i64 ((j : Int))) rfl (Pu.move rfl) ?_
      obtain ⟨b28, cap28, row28, hv28, hm28, hs28⟩ := ho13.at (j := j) (by rw [ints_len]; first | assumption | omega)
      rw [ints_get _ _ (by first | assumption | omega)] at hs28
      refine JL_pure (v := .pointer (some ⟨b28, 0 + j * 1, none⟩)) rfl (Pu.idx j Tryz.runUnderlying49 ty3 hv28 rfl rfl (by rw [ints_len]; first | assumption | omega)) ?_
      refine JL_run rfl (Pu_load1 ty3 rfl (At.k 0 rfl hm28) (sub_one hs28) ?_)
      refine JL_pure (v := .int .i64 (dy)) rfl (Pu.move rfl) ?_
      refine JL_pure (v := .int .i64 ((freeR (t))[j] + dy)) rfl (Pu.add64 rfl rfl (by first | omega | (constructor <;> omega))) ?_
      refine JL_pure (v := .int .i64 (fr)) rfl (Pu.move rfl) ?_
      refine JL_call rfl Tryz.call44 rfl (fun hin => offR_ct _ _ _ _) rfl ?_
      rintro _ _ ⟨rfl, rfl⟩
      refine JL_pure (v := .bool (decide ((freeR (t))[j] + dy < fr ∨ 59 < (freeR (t))[j] + dy))) rfl (Pu.pickT rfl rfl) ?_
      refine JL_nil ?_
      first | exact ⟨rfl, rfl, rfl, rfl, rfl, rfl, rfl, rfl, rfl⟩ | (exfalso; omega)
     | false =>
      replace h27 := df h27
      refine JL_skip rfl ?_
      refine JL_skip rfl ?_
      refine JL_skip rfl ?_
      refine JL_skip rfl ?_
      refine JL_skip rfl ?_
      refine JL_skip rfl ?_
      refine JL_skip rfl ?_
      refine JL_skip rfl ?_
      refine JL_pure (v := .bool (false)) rfl (Pu.pickF rfl rfl) ?_
      refine JL_nil ?_
      first | exact ⟨rfl, rfl, rfl, rfl, rfl, rfl, rfl, rfl, rfl⟩ | (exfalso; omega)
    ·rintro ρ29 _ ⟨e30, e31, e32, e33, e34, e35, e36, e37, rfl⟩
     obtain ⟨ρ38, rfl⟩ := reopen_ex (uc e30 (uc e31 (uc e32 (uc e33 (uc e34 (uc e35 (uc e36 (uc e37 un))))))))
     clear e30 e31 e32 e33 e34 e35 e36 e37
     refine J_cond (b := (decide (fr ≤ (freeR (t))[j])) && (decide ((freeR (t))[j] + dy < fr ∨ 59 < (freeR (t))[j] + dy))) rfl (fun h39 => ?_) (fun h39 => ?_)
     ·skip
      obtain ⟨h39a, h39b⟩ := andT h39
      replace h39a := dt h39a
      replace h39b := dt h39b
      refine J_seq ?_
      refine J_region ?_
      refine JL_pure (v := .agg ⟨pkT (0) (0) (zS) (.slice none 0 0) (.slice none 0 0)⟩) rfl (Pu.build (pv := []) (l := pkT (0) (0) (zS) (.slice none 0 0) (.slice none 0 0)) rfl (bld27_ )) ?_
      refine JL_run rfl (Runs_storeB 1 (vs := pkT (0) (0) (zS) (.slice none 0 0) (.slice none 0 0)) (l := pkT (0) (0) (zS) (.slice none 0 0) (.slice none 0 0)) ty27 rfl rfl rfl rfl rfl (pkT_ok rfl rfl) (pkT_s ..) ?_)
      refine JL_pure (v := .int .i64 (1)) rfl (Pu.assign rfl) ?_
      refine JL_nil ?_
      refine J_ret ?_
      refine ⟨.tuple ⟨[.agg ⟨pkT (0) (0) (zS) (.slice none 0 0) (.slice none 0 0)⟩, .int .i64 (1)]⟩, [[]], Ret.two rfl (RV.cell ty27 rfl (At.bx 1 rfl) (pkT_a ..)) (RV.tmp rfl), (Sub.emp Sub.nil), ?_⟩
      have hb : badMove dy fr (freeR t) = true := by (rw [badMove, List.any_eq_true]; exact ⟨_, List.getElem_mem h25n, by simp [h39a, h39b]⟩)
      have hy : shiftR t dy fr = (zT, 1) := by rw [shiftR, if_neg hoff, if_pos hb]
      have hx : shiftR t dy fr = (zT, 1) := by rw [hy]
      exact ⟨_, _, by rw [hx], rfl, by rw [hx]; exact OT_zero⟩
     ·skip
      refine J_skip ?_
      refine J_region ?_
      refine JL_pure (v := .int .i64 ((j : Int))) rfl (Pu.move rfl) ?_
      refine JL_pure (v := .int .i64 (((j + 1 : Nat) : Int))) rfl (Pu.inc rfl rfl (by omega)) ?_
      refine JL_pure (v := .int .i64 (((j + 1 : Nat) : Int))) rfl (Pu.assign rfl) ?_
      refine JL_nil ?_
      refine ⟨_, ?_, (j + 1), rfl, rfl, rfl, rfl, rfl, rfl, rfl, (Sub.cons 0 rfl (Sub.cons 0 rfl (Sub.cons 0 rfl Sub.nil))), ?_, ?_, rfl⟩
      ·omega
      ·omega
      ·rw [dropc h25n] at hinv0; rw [← hinv0]; simp only [badMove, List.any_cons]; rw [show (decide (fr ≤ (freeR t)[j]) && decide ((freeR t)[j] + dy < fr ∨ 59 < (freeR t)[j] + dy)) = false from h39, Bool.false_or]
   ·skip
    replace h25 := df h25
    have h25n : (freeR (t)).length ≤ j := by omega
    refine J_exit _ rfl ?_
    refine J_seq ?_
    refine J_region ?_
    refine JL_run rfl (Pu_load ty27 rfl (At.bx 2 rfl) (sub_a (RT_len ht)) ?_)
    refine JL_pure (v := .int .i64 (dy)) rfl (Pu.move rfl) ?_
    refine JL_pure (v := .int .i64 (fr)) rfl (Pu.move rfl) ?_
    refine JL_call rfl Tryz.call45 rfl (fun hin => moved_ct _ _ _ _ _ _ (RT.mono (Hle.hu _ _) ht) (by omega) hvt (by decide) (by omega) (by omega) (by omega)) rfl ?_
    rintro _ _ ⟨cs40, k40, rfl, rfl, hO40⟩
    refine JL_run rfl (Runs_storeB 2 (vs := cs40) (l := cs40) ty27 rfl rfl rfl rfl hO40.len hO40.ok (spl_a (n := 36) rfl hO40.len) ?_)
    refine JL_pure (v := .int .i64 (0)) rfl (Pu.assign rfl) ?_
    refine JL_nil ?_
    refine J_ret ?_
    refine ⟨.tuple ⟨[.agg ⟨cs40⟩, .int .i64 (0)]⟩, [k40], Ret.two rfl (RV.cell ty27 rfl (At.bx 2 rfl) (sub_a hO40.len)) (RV.tmp rfl), (Sub.cons 0 rfl Sub.nil), ?_⟩
    have hb : ¬ badMove dy fr (freeR t) = true := by (rw [← hinv0, dropn h25n]; simp [badMove])
    have hy : shiftR t dy fr = (mvT (dy) (fr) (0) (t), 0) := by rw [shiftR, if_neg hoff, if_neg hb]
    have hx : shiftR t dy fr = (mvT (dy) (fr) (0) (t), 0) := by rw [hy]
    exact ⟨_, _, by rw [hx], rfl, by rw [hx]; exact hO40⟩
end Go.Proofs.YtbfjkdhfelmioaaGreat.Hs
