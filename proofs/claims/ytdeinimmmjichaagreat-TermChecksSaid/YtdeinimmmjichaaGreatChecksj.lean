import Derived.Test.YtdeinimmmjichaaGreatChecksi
/-! Walks, printed by a program of this session's own (gen.py). -/
namespace Go.Proofs.YtdeinimmmjichaaGreat.Hs
open Go Go.Proofs
set_option maxRecDepth 100000
set_option linter.unusedVariables false
set_option linter.unusedSimpArgs false
attribute [local irreducible] JL J CT wlo
theorem eqFuncP_ct (g : Nat) (fs cv : List Value) (hcall : ∀ args w, (callFunc g args).run Tryz.prog w = .ok (.enter g args) w) (l m : List Pt) (v u : Value) (H : Heap) (hl : rdS RP 35 H v l) (hm : rdS RP 35 H u m) (hg : ∀ x ∈ l, ∀ y ∈ m, ∀ a b h, Hle H h → RP h a x → RP h b y → CT Tryz.prog g ⟨fs ++ [.agg ⟨a⟩, .agg ⟨b⟩] ++ cv⟩ [] h (fun v N => v = .bool (decide (x = y)) ∧ N = [])) : CT Tryz.prog 65 ⟨[v, u, .func (.func g) ⟨fs⟩ ⟨cv⟩]⟩ [] H (fun v N => v = .bool (decide (l = m)) ∧ N = []) := by
 refine CT_enter Tryz.func65 rfl rfl ?_
 refine J_seq ?_
 refine J_region ?_
 refine JL_pure (v := .bool (false)) rfl (Pu.assign rfl) ?_
 refine JL_nil ?_
 refine J_seq ?_
 refine J_seq ?_
 refine J_region ?_
 refine JL_pure (v := v) rfl (Pu.move rfl) ?_
 obtain ⟨a1, cap1, hv1⟩ := hl.sl
 have hle1 := hl.le
 refine JL_pure (v := .int .i64 (((l).length : Int))) rfl (Pu.lenSl Tryz.runUnderlying28 hv1) ?_
 refine JL_pure (v := u) rfl (Pu.move rfl) ?_
 obtain ⟨a2, cap2, hv2⟩ := hm.sl
 have hle2 := hm.le
 refine JL_pure (v := .int .i64 (((m).length : Int))) rfl (Pu.lenSl Tryz.runUnderlying28 hv2) ?_
 refine JL_pure (v := .bool (!decide (((l).length : Int) = ((m).length : Int)))) rfl (Pu.neq rfl rfl) ?_
 refine JL_nil ?_
 refine J_cond (b := !decide (((l).length : Int) = ((m).length : Int))) rfl (fun h3 => ?_) (fun h3 => ?_)
 ·skip
  replace h3 := nt h3
  replace h3 := df h3
  refine J_seq ?_
  refine J_region ?_
  refine JL_pure (v := .bool (false)) rfl (Pu.assign rfl) ?_
  refine JL_nil ?_
  refine J_ret ?_
  refine ⟨.bool (false), [], Ret.one rfl (RV.tmp rfl), Sub.nil, ?_⟩
  exact ⟨by rw [decide_eq_false]; intro e; subst e; exact h3 rfl, rfl⟩
 ·skip
  replace h3 := nf h3
  replace h3 := dt h3
  refine J_skip ?_
  refine J_seq ?_
  refine J_seq ?_
  refine J_region ?_
  refine JL_pure (v := v) rfl (Pu.move rfl) ?_
  obtain ⟨a4, cap4, hv4⟩ := hl.sl
  have hle4 := hl.le
  refine JL_pure (v := .int .i64 (((l).length : Int))) rfl (Pu.lenSl Tryz.runUnderlying28 hv4) ?_
  refine JL_pure (v := .int .i64 (0)) rfl (Pu.move rfl) ?_
  refine JL_nil ?_
  refine J_block ?_
  refine J_loop (fun k ρ M => ∃ (j : Nat), ρ 1 = u ∧ ρ 2 = .func (.func g) ⟨fs⟩ ⟨cv⟩ ∧ ρ 6 = .bool (false) ∧ ρ 15 = v ∧ ρ 16 = .int .i64 (((l).length : Int)) ∧ ρ 17 = .int .i64 ((j : Int)) ∧ Sub [] M ∧ j ≤ (l).length ∧ l.length = m.length ∧ l.take j = m.take j ∧ k = (l).length - j) _ ⟨0, rfl, rfl, rfl, rfl, rfl, rfl, Sub.nil, Nat.zero_le _, (by omega), rfl, rfl⟩ ?_
  rintro _ ρ5 _ ⟨j, e6, e7, e8, e9, e10, e11, hm12, hj, hlen, htake, rfl⟩
  obtain ⟨ρ13, rfl⟩ := reopen_ex (uc e6 (uc e7 (uc e8 (uc e9 (uc e10 (uc e11 un))))))
  clear e6 e7 e8 e9 e10 e11
  refine J_sub hm12 ?_
  refine J_seq ?_
  refine J_region ?_
  refine JL_pure (v := .bool (decide ((j : Int) < ((l).length : Int)))) rfl (Pu.lss rfl rfl) ?_
  refine JL_nil ?_
  refine J_seq ?_
  refine J_cond (b := decide ((j : Int) < ((l).length : Int))) rfl (fun h14 => ?_) (fun h14 => ?_)
  ·skip
   replace h14 := dt h14
   have h14n : j < (l).length := by omega
   have hlenl := hl.le
   have hltm : j < m.length := by omega
   refine J_skip ?_
   refine J_seq ?_
   refine J_block ?_
   refine J_seq ?_
   refine J_region ?_
   refine JL_pure (v := .int .i64 ((j : Int))) rfl (Pu.move rfl) ?_
   obtain ⟨b15, o15, cap15, row15, T15, fr15, cs15, hv15, hb15, hs15, hE15⟩ := hl.get j (by first | assumption | omega | decide | simp)
   refine JL_pure (v := .pointer (some ⟨b15, o15 + j * 35, none⟩)) rfl (Pu.idx j Tryz.runUnderlying28 ty30 hv15 rfl rfl (by first | assumption | omega | decide | simp)) ?_
   refine JL_run rfl (Pu_load ty30 rfl (At.im hb15) hs15 ?_)
   refine JL_run rfl (Runs_alloc (l := pkP (0) (0) (zS) (.slice none 0 0)) Tryz.zeroValue30 rfl fun b16 => ?_)
   refine JL_pure (v := .int .i64 ((j : Int))) rfl (Pu.assign rfl) ?_
   refine JL_run rfl (Runs_storeB 0 (vs := cs15) (l := cs15) ty30 rfl rfl rfl rfl (RP_len hE15) (RP_ok hE15) (spl_a (n := 35) rfl (RP_len hE15)) ?_)
   refine JL_nil ?_
   refine J_seq ?_
   refine J_region ?_
   refine JL_pure (v := u) rfl (Pu.move rfl) ?_
   refine JL_pure (v := .int .i64 ((j : Int))) rfl (Pu.move rfl) ?_
   obtain ⟨b17, o17, cap17, row17, T17, fr17, cs17, hv17, hb17, hs17, hE17⟩ := hm.get j (by first | assumption | omega | decide | simp)
   refine JL_pure (v := .pointer (some ⟨b17, o17 + j * 35, none⟩)) rfl (Pu.idx j Tryz.runUnderlying28 ty30 hv17 rfl rfl (by first | assumption | omega | decide | simp)) ?_
   refine JL_run rfl (Pu_load ty30 rfl (At.im hb17) hs17 ?_)
   refine JL_run rfl (Runs_alloc (l := pkP (0) (0) (zS) (.slice none 0 0)) Tryz.zeroValue30 rfl fun b18 => ?_)
   refine JL_run rfl (Runs_storeB 0 (vs := cs17) (l := cs17) ty30 rfl rfl rfl rfl (RP_len hE17) (RP_ok hE17) (spl_a (n := 35) rfl (RP_len hE17)) ?_)
   refine JL_nil ?_
   refine J_seq ?_
   refine J_region ?_
   refine JL_pure (v := .func (.func g) ⟨fs⟩ ⟨cv⟩) rfl (Pu.move rfl) ?_
   refine JL_run rfl (Pu_load ty30 rfl (At.bx 1 rfl) (sub_a (RP_len hE15)) ?_)
   refine JL_run rfl (Pu_load ty30 rfl (At.bx 0 rfl) (sub_a (RP_len hE17)) ?_)
   refine JL_call rfl hcall rfl (fun hin => hg _ (List.getElem_mem h14n) _ (List.getElem_mem (by omega)) _ _ _ (Hle.hu _ _) (RP.mono (Hle.hu _ _) hE15) (RP.mono (Hle.hu _ _) hE17)) rfl ?_
   rintro _ _ ⟨rfl, rfl⟩
   refine JL_pure (v := .bool (!(decide (((l)[j]) = ((m)[j]))))) rfl (Pu.not rfl) ?_
   refine JL_nil ?_
   refine J_cond (b := !(decide (((l)[j]) = ((m)[j])))) rfl (fun h19 => ?_) (fun h19 => ?_)
   ·skip
    replace h19 := nt h19
    replace h19 := df h19
    refine J_seq ?_
    refine J_region ?_
    refine JL_pure (v := .bool (false)) rfl (Pu.assign rfl) ?_
    refine JL_nil ?_
    refine J_ret ?_
    refine ⟨.bool (false), [], Ret.one rfl (RV.tmp rfl), Sub.nil, ?_⟩
    exact ⟨by rw [decide_eq_false]; intro e; subst e; exact h19 rfl, rfl⟩
   ·skip
    replace h19 := nf h19
    replace h19 := dt h19
    refine J_skip ?_
    refine J_region ?_
    refine JL_pure (v := .int .i64 (((j + 1 : Nat) : Int))) rfl (Pu.inc rfl rfl (by omega)) ?_
    refine JL_pure (v := .int .i64 (((j + 1 : Nat) : Int))) rfl (Pu.move rfl) ?_
    refine JL_nil ?_
    refine ⟨_, ?_, (j + 1), rfl, rfl, rfl, rfl, rfl, rfl, Sub.nil, ?_, ?_, ?_, rfl⟩
    ·omega
    ·omega
    ·assumption
    ·rw [List.take_succ_eq_append_getElem h14n, List.take_succ_eq_append_getElem (by omega), htake, h19]
  ·skip
   replace h14 := df h14
   have h14n : (l).length ≤ j := by omega
   refine J_exit _ rfl ?_
   refine J_seq ?_
   refine J_region ?_
   refine JL_pure (v := .bool (true)) rfl (Pu.assign rfl) ?_
   refine JL_nil ?_
   refine J_ret ?_
   refine ⟨.bool (true), [], Ret.one rfl (RV.tmp rfl), Sub.nil, ?_⟩
   exact ⟨by rw [decide_eq_true]; have e := htake; rw [List.take_of_length_le h14n, List.take_of_length_le (by omega)] at e; exact e, rfl⟩
theorem eqFuncT_ct (g : Nat) (fs cv : List Value) (hcall : ∀ args w, (callFunc g args).run Tryz.prog w = .ok (.enter g args) w) (l m : List Tm) (v u : Value) (H : Heap) (hl : rdS RT 36 H v l) (hm : rdS RT 36 H u m) (hg : ∀ x ∈ l, ∀ y ∈ m, ∀ a b h, Hle H h → RT h a x → RT h b y → CT Tryz.prog g ⟨fs ++ [.agg ⟨a⟩, .agg ⟨b⟩] ++ cv⟩ [] h (fun v N => v = .bool (decide (x = y)) ∧ N = [])) : CT Tryz.prog 58 ⟨[v, u, .func (.func g) ⟨fs⟩ ⟨cv⟩]⟩ [] H (fun v N => v = .bool (decide (l = m)) ∧ N = []) := by
 refine CT_enter Tryz.func58 rfl rfl ?_
 refine J_seq ?_
 refine J_region ?_
 refine JL_pure (v := .bool (false)) rfl (Pu.assign rfl) ?_
 refine JL_nil ?_
 refine J_seq ?_
 refine J_seq ?_
 refine J_region ?_
 refine JL_pure (v := v) rfl (Pu.move rfl) ?_
 obtain ⟨a1, cap1, hv1⟩ := hl.sl
 have hle1 := hl.le
 refine JL_pure (v := .int .i64 (((l).length : Int))) rfl (Pu.lenSl Tryz.runUnderlying24 hv1) ?_
 refine JL_pure (v := u) rfl (Pu.move rfl) ?_
 obtain ⟨a2, cap2, hv2⟩ := hm.sl
 have hle2 := hm.le
 refine JL_pure (v := .int .i64 (((m).length : Int))) rfl (Pu.lenSl Tryz.runUnderlying24 hv2) ?_
 refine JL_pure (v := .bool (!decide (((l).length : Int) = ((m).length : Int)))) rfl (Pu.neq rfl rfl) ?_
 refine JL_nil ?_
 refine J_cond (b := !decide (((l).length : Int) = ((m).length : Int))) rfl (fun h3 => ?_) (fun h3 => ?_)
 ·skip
  replace h3 := nt h3
  replace h3 := df h3
  refine J_seq ?_
  refine J_region ?_
  refine JL_pure (v := .bool (false)) rfl (Pu.assign rfl) ?_
  refine JL_nil ?_
  refine J_ret ?_
  refine ⟨.bool (false), [], Ret.one rfl (RV.tmp rfl), Sub.nil, ?_⟩
  exact ⟨by rw [decide_eq_false]; intro e; subst e; exact h3 rfl, rfl⟩
 ·skip
  replace h3 := nf h3
  replace h3 := dt h3
  refine J_skip ?_
  refine J_seq ?_
  refine J_seq ?_
  refine J_region ?_
  refine JL_pure (v := v) rfl (Pu.move rfl) ?_
  obtain ⟨a4, cap4, hv4⟩ := hl.sl
  have hle4 := hl.le
  refine JL_pure (v := .int .i64 (((l).length : Int))) rfl (Pu.lenSl Tryz.runUnderlying24 hv4) ?_
  refine JL_pure (v := .int .i64 (0)) rfl (Pu.move rfl) ?_
  refine JL_nil ?_
  refine J_block ?_
  refine J_loop (fun k ρ M => ∃ (j : Nat), ρ 1 = u ∧ ρ 2 = .func (.func g) ⟨fs⟩ ⟨cv⟩ ∧ ρ 6 = .bool (false) ∧ ρ 15 = v ∧ ρ 16 = .int .i64 (((l).length : Int)) ∧ ρ 17 = .int .i64 ((j : Int)) ∧ Sub [] M ∧ j ≤ (l).length ∧ l.length = m.length ∧ l.take j = m.take j ∧ k = (l).length - j) _ ⟨0, rfl, rfl, rfl, rfl, rfl, rfl, Sub.nil, Nat.zero_le _, (by omega), rfl, rfl⟩ ?_
  rintro _ ρ5 _ ⟨j, e6, e7, e8, e9, e10, e11, hm12, hj, hlen, htake, rfl⟩
  obtain ⟨ρ13, rfl⟩ := reopen_ex (uc e6 (uc e7 (uc e8 (uc e9 (uc e10 (uc e11 un))))))
  clear e6 e7 e8 e9 e10 e11
  refine J_sub hm12 ?_
  refine J_seq ?_
  refine J_region ?_
  refine JL_pure (v := .bool (decide ((j : Int) < ((l).length : Int)))) rfl (Pu.lss rfl rfl) ?_
  refine JL_nil ?_
  refine J_seq ?_
  refine J_cond (b := decide ((j : Int) < ((l).length : Int))) rfl (fun h14 => ?_) (fun h14 => ?_)
  ·skip
   replace h14 := dt h14
   have h14n : j < (l).length := by omega
   have hlenl := hl.le
   have hltm : j < m.length := by omega
   refine J_skip ?_
   refine J_seq ?_
   refine J_block ?_
   refine J_seq ?_
   refine J_region ?_
   refine JL_pure (v := .int .i64 ((j : Int))) rfl (Pu.move rfl) ?_
   obtain ⟨b15, o15, cap15, row15, T15, fr15, cs15, hv15, hb15, hs15, hE15⟩ := hl.get j (by first | assumption | omega | decide | simp)
   refine JL_pure (v := .pointer (some ⟨b15, o15 + j * 36, none⟩)) rfl (Pu.idx j Tryz.runUnderlying24 ty27 hv15 rfl rfl (by first | assumption | omega | decide | simp)) ?_
   refine JL_run rfl (Pu_load ty27 rfl (At.im hb15) hs15 ?_)
   refine JL_run rfl (Runs_alloc (l := pkT (0) (0) (zS) (.slice none 0 0) (.slice none 0 0)) Tryz.zeroValue27 rfl fun b16 => ?_)
   refine JL_pure (v := .int .i64 ((j : Int))) rfl (Pu.assign rfl) ?_
   refine JL_run rfl (Runs_storeB 0 (vs := cs15) (l := cs15) ty27 rfl rfl rfl rfl (RT_len hE15) (RT_ok hE15) (spl_a (n := 36) rfl (RT_len hE15)) ?_)
   refine JL_nil ?_
   refine J_seq ?_
   refine J_region ?_
   refine JL_pure (v := u) rfl (Pu.move rfl) ?_
   refine JL_pure (v := .int .i64 ((j : Int))) rfl (Pu.move rfl) ?_
   obtain ⟨b17, o17, cap17, row17, T17, fr17, cs17, hv17, hb17, hs17, hE17⟩ := hm.get j (by first | assumption | omega | decide | simp)
   refine JL_pure (v := .pointer (some ⟨b17, o17 + j * 36, none⟩)) rfl (Pu.idx j Tryz.runUnderlying24 ty27 hv17 rfl rfl (by first | assumption | omega | decide | simp)) ?_
   refine JL_run rfl (Pu_load ty27 rfl (At.im hb17) hs17 ?_)
   refine JL_run rfl (Runs_alloc (l := pkT (0) (0) (zS) (.slice none 0 0) (.slice none 0 0)) Tryz.zeroValue27 rfl fun b18 => ?_)
   refine JL_run rfl (Runs_storeB 0 (vs := cs17) (l := cs17) ty27 rfl rfl rfl rfl (RT_len hE17) (RT_ok hE17) (spl_a (n := 36) rfl (RT_len hE17)) ?_)
   refine JL_nil ?_
   refine J_seq ?_
   refine J_region ?_
   refine JL_pure (v := .func (.func g) ⟨fs⟩ ⟨cv⟩) rfl (Pu.move rfl) ?_
   refine JL_run rfl (Pu_load ty27 rfl (At.bx 1 rfl) (sub_a (RT_len hE15)) ?_)
   refine JL_run rfl (Pu_load ty27 rfl (At.bx 0 rfl) (sub_a (RT_len hE17)) ?_)
   refine JL_call rfl hcall rfl (fun hin => hg _ (List.getElem_mem h14n) _ (List.getElem_mem (by omega)) _ _ _ (Hle.hu _ _) (RT.mono (Hle.hu _ _) hE15) (RT.mono (Hle.hu _ _) hE17)) rfl ?_
   rintro _ _ ⟨rfl, rfl⟩
   refine JL_pure (v := .bool (!(decide (((l)[j]) = ((m)[j]))))) rfl (Pu.not rfl) ?_
   refine JL_nil ?_
   refine J_cond (b := !(decide (((l)[j]) = ((m)[j])))) rfl (fun h19 => ?_) (fun h19 => ?_)
   ·skip
    replace h19 := nt h19
    replace h19 := df h19
    refine J_seq ?_
    refine J_region ?_
    refine JL_pure (v := .bool (false)) rfl (Pu.assign rfl) ?_
    refine JL_nil ?_
    refine J_ret ?_
    refine ⟨.bool (false), [], Ret.one rfl (RV.tmp rfl), Sub.nil, ?_⟩
    exact ⟨by rw [decide_eq_false]; intro e; subst e; exact h19 rfl, rfl⟩
   ·skip
    replace h19 := nf h19
    replace h19 := dt h19
    refine J_skip ?_
    refine J_region ?_
    refine JL_pure (v := .int .i64 (((j + 1 : Nat) : Int))) rfl (Pu.inc rfl rfl (by omega)) ?_
    refine JL_pure (v := .int .i64 (((j + 1 : Nat) : Int))) rfl (Pu.move rfl) ?_
    refine JL_nil ?_
    refine ⟨_, ?_, (j + 1), rfl, rfl, rfl, rfl, rfl, rfl, Sub.nil, ?_, ?_, ?_, rfl⟩
    ·omega
    ·omega
    ·assumption
    ·rw [List.take_succ_eq_append_getElem h14n, List.take_succ_eq_append_getElem (by omega), htake, h19]
  ·skip
   replace h14 := df h14
   have h14n : (l).length ≤ j := by omega
   refine J_exit _ rfl ?_
   refine J_seq ?_
   refine J_region ?_
   refine JL_pure (v := .bool (true)) rfl (Pu.assign rfl) ?_
   refine JL_nil ?_
   refine J_ret ?_
   refine ⟨.bool (true), [], Ret.one rfl (RV.tmp rfl), Sub.nil, ?_⟩
   exact ⟨by rw [decide_eq_true]; have e := htake; rw [List.take_of_length_le h14n, List.take_of_length_le (by omega)] at e; exact e, rfl⟩
theorem eqFuncC_ct (g : Nat) (fs cv : List Value) (hcall : ∀ args w, (callFunc g args).run Tryz.prog w = .ok (.enter g args) w) (l m : List (Pt × Tm)) (v u : Value) (H : Heap) (hl : rdS RC 71 H v l) (hm : rdS RC 71 H u m) (hg : ∀ x ∈ l, ∀ y ∈ m, ∀ a b h, Hle H h → RC h a x → RC h b y → CT Tryz.prog g ⟨fs ++ [.agg ⟨a⟩, .agg ⟨b⟩] ++ cv⟩ [] h (fun v N => v = .bool (decide (x = y)) ∧ N = [])) : CT Tryz.prog 59 ⟨[v, u, .func (.func g) ⟨fs⟩ ⟨cv⟩]⟩ [] H (fun v N => v = .bool (decide (l = m)) ∧ N = []) := by
 refine CT_enter Tryz.func59 rfl rfl ?_
 refine J_seq ?_
 refine J_region ?_
 refine JL_pure (v := .bool (false)) rfl (Pu.assign rfl) ?_
 refine JL_nil ?_
 refine J_seq ?_
 refine J_seq ?_
 refine J_region ?_
 refine JL_pure (v := v) rfl (Pu.move rfl) ?_
 obtain ⟨a1, cap1, hv1⟩ := hl.sl
 have hle1 := hl.le
 refine JL_pure (v := .int .i64 (((l).length : Int))) rfl (Pu.lenSl Tryz.runUnderlying25 hv1) ?_
 refine JL_pure (v := u) rfl (Pu.move rfl) ?_
 obtain ⟨a2, cap2, hv2⟩ := hm.sl
 have hle2 := hm.le
 refine JL_pure (v := .int .i64 (((m).length : Int))) rfl (Pu.lenSl Tryz.runUnderlying25 hv2) ?_
 refine JL_pure (v := .bool (!decide (((l).length : Int) = ((m).length : Int)))) rfl (Pu.neq rfl rfl) ?_
 refine JL_nil ?_
 refine J_cond (b := !decide (((l).length : Int) = ((m).length : Int))) rfl (fun h3 => ?_) (fun h3 => ?_)
 ·skip
  replace h3 := nt h3
  replace h3 := df h3
  refine J_seq ?_
  refine J_region ?_
  refine JL_pure (v := .bool (false)) rfl (Pu.assign rfl) ?_
  refine JL_nil ?_
  refine J_ret ?_
  refine ⟨.bool (false), [], Ret.one rfl (RV.tmp rfl), Sub.nil, ?_⟩
  exact ⟨by rw [decide_eq_false]; intro e; subst e; exact h3 rfl, rfl⟩
 ·skip
  replace h3 := nf h3
  replace h3 := dt h3
  refine J_skip ?_
  refine J_seq ?_
  refine J_seq ?_
  refine J_region ?_
  refine JL_pure (v := v) rfl (Pu.move rfl) ?_
  obtain ⟨a4, cap4, hv4⟩ := hl.sl
  have hle4 := hl.le
  refine JL_pure (v := .int .i64 (((l).length : Int))) rfl (Pu.lenSl Tryz.runUnderlying25 hv4) ?_
  refine JL_pure (v := .int .i64 (0)) rfl (Pu.move rfl) ?_
  refine JL_nil ?_
  refine J_block ?_
  refine J_loop (fun k ρ M => ∃ (j : Nat), ρ 1 = u ∧ ρ 2 = .func (.func g) ⟨fs⟩ ⟨cv⟩ ∧ ρ 6 = .bool (false) ∧ ρ 15 = v ∧ ρ 16 = .int .i64 (((l).length : Int)) ∧ ρ 17 = .int .i64 ((j : Int)) ∧ Sub [] M ∧ j ≤ (l).length ∧ l.length = m.length ∧ l.take j = m.take j ∧ k = (l).length - j) _ ⟨0, rfl, rfl, rfl, rfl, rfl, rfl, Sub.nil, Nat.zero_le _, (by omega), rfl, rfl⟩ ?_
  rintro _ ρ5 _ ⟨j, e6, e7, e8, e9, e10, e11, hm12, hj, hlen, htake, rfl⟩
  obtain ⟨ρ13, rfl⟩ := reopen_ex (uc e6 (uc e7 (uc e8 (uc e9 (uc e10 (uc e11 un))))))
  clear e6 e7 e8 e9 e10 e11
  refine J_sub hm12 ?_
  refine J_seq ?_
  refine J_region ?_
  refine JL_pure (v := .bool (decide ((j : Int) < ((l).length : Int)))) rfl (Pu.lss rfl rfl) ?_
  refine JL_nil ?_
  refine J_seq ?_
  refine J_cond (b := decide ((j : Int) < ((l).length : Int))) rfl (fun h14 => ?_) (fun h14 => ?_)
  ·skip
   replace h14 := dt h14
   have h14n : j < (l).length := by omega
   have hlenl := hl.le
   have hltm : j < m.length := by omega
   refine J_skip ?_
   refine J_seq ?_
   refine J_block ?_
   refine J_seq ?_
   refine J_region ?_
   refine JL_pure (v := .int .i64 ((j : Int))) rfl (Pu.move rfl) ?_
   obtain ⟨b15, o15, cap15, row15, T15, fr15, cs15, hv15, hb15, hs15, hE15⟩ := hl.get j (by first | assumption | omega | decide | simp)
   obtain ⟨ca15, cb15, rfl, hA15, hB15⟩ := hE15
   refine JL_pure (v := .pointer (some ⟨b15, o15 + j * 71, none⟩)) rfl (Pu.idx j Tryz.runUnderlying25 ty34 hv15 rfl rfl (by first | assumption | omega | decide | simp)) ?_
   refine JL_run rfl (Pu_load ty34 rfl (At.im hb15) hs15 ?_)
   refine JL_run rfl (Runs_alloc (l := (pkP (0) (0) (zS) (.slice none 0 0)) ++ (pkT (0) (0) (zS) (.slice none 0 0) (.slice none 0 0))) Tryz.zeroValue34 rfl fun b16 => ?_)
   refine JL_pure (v := .int .i64 ((j : Int))) rfl (Pu.assign rfl) ?_
   refine JL_run rfl (Runs_storeB 0 (vs := (ca15) ++ (cb15)) (l := (ca15) ++ (cb15)) ty34 rfl rfl rfl rfl (len_app (RP_len hA15) (RT_len hB15)) (okc_app (RP_ok hA15) (RT_ok hB15)) (spl_a (n := 71) rfl (len_app (RP_len hA15) (RT_len hB15))) ?_)
   refine JL_nil ?_
   refine J_seq ?_
   refine J_region ?_
   refine JL_pure (v := u) rfl (Pu.move rfl) ?_
   refine JL_pure (v := .int .i64 ((j : Int))) rfl (Pu.move rfl) ?_
   obtain ⟨b17, o17, cap17, row17, T17, fr17, cs17, hv17, hb17, hs17, hE17⟩ := hm.get j (by first | assumption | omega | decide | simp)
   obtain ⟨ca17, cb17, rfl, hA17, hB17⟩ := hE17
   refine JL_pure (v := .pointer (some ⟨b17, o17 + j * 71, none⟩)) rfl (Pu.idx j Tryz.runUnderlying25 ty34 hv17 rfl rfl (by first | assumption | omega | decide | simp)) ?_
   refine JL_run rfl (Pu_load ty34 rfl (At.im hb17) hs17 ?_)
   refine JL_run rfl (Runs_alloc (l := (pkP (0) (0) (zS) (.slice none 0 0)) ++ (pkT (0) (0) (zS) (.slice none 0 0) (.slice none 0 0))) Tryz.zeroValue34 rfl fun b18 => ?_)
   refine JL_run rfl (Runs_storeB 0 (vs := (ca17) ++ (cb17)) (l := (ca17) ++ (cb17)) ty34 rfl rfl rfl rfl (len_app (RP_len hA17) (RT_len hB17)) (okc_app (RP_ok hA17) (RT_ok hB17)) (spl_a (n := 71) rfl (len_app (RP_len hA17) (RT_len hB17))) ?_)
   refine JL_nil ?_
   refine J_seq ?_
   refine J_region ?_
   refine JL_pure (v := .func (.func g) ⟨fs⟩ ⟨cv⟩) rfl (Pu.move rfl) ?_
   refine JL_run rfl (Pu_load ty34 rfl (At.bx 1 rfl) (sub_a (len_app (RP_len hA15) (RT_len hB15))) ?_)
   refine JL_run rfl (Pu_load ty34 rfl (At.bx 0 rfl) (sub_a (len_app (RP_len hA17) (RT_len hB17))) ?_)
   refine JL_call rfl hcall rfl (fun hin => hg _ (List.getElem_mem h14n) _ (List.getElem_mem (by omega)) _ _ _ (Hle.hu _ _) (RC.mono (Hle.hu _ _) (RC_mk hA15 hB15)) (RC.mono (Hle.hu _ _) (RC_mk hA17 hB17))) rfl ?_
   rintro _ _ ⟨rfl, rfl⟩
   refine JL_pure (v := .bool (!(decide (((l)[j]) = ((m)[j]))))) rfl (Pu.not rfl) ?_
   refine JL_nil ?_
   refine J_cond (b := !(decide (((l)[j]) = ((m)[j])))) rfl (fun h19 => ?_) (fun h19 => ?_)
   ·skip
    replace h19 := nt h19
    replace h19 := df h19
    refine J_seq ?_
    refine J_region ?_
    refine JL_pure (v := .bool (false)) rfl (Pu.assign rfl) ?_
    refine JL_nil ?_
    refine J_ret ?_
    refine ⟨.bool (false), [], Ret.one rfl (RV.tmp rfl), Sub.nil, ?_⟩
    exact ⟨by rw [decide_eq_false]; intro e; subst e; exact h19 rfl, rfl⟩
   ·skip
    replace h19 := nf h19
    replace h19 := dt h19
    refine J_skip ?_
    refine J_region ?_
    refine JL_pure (v := .int .i64 (((j + 1 : Nat) : Int))) rfl (Pu.inc rfl rfl (by omega)) ?_
    refine JL_pure (v := .int .i64 (((j + 1 : Nat) : Int))) rfl (Pu.move rfl) ?_
    refine JL_nil ?_
    refine ⟨_, ?_, (j + 1), rfl, rfl, rfl, rfl, rfl, rfl, Sub.nil, ?_, ?_, ?_, rfl⟩
    ·omega
    ·omega
    ·assumption
    ·rw [List.take_succ_eq_append_getElem h14n, List.take_succ_eq_append_getElem (by omega), htake, h19]
  ·skip
   replace h14 := df h14
   have h14n : (l).length ≤ j := by omega
   refine J_exit _ rfl ?_
   refine J_seq ?_
   refine J_region ?_
   refine JL_pure (v := .bool (true)) rfl (Pu.assign rfl) ?_
   refine JL_nil ?_
   refine J_ret ?_
   refine ⟨.bool (true), [], Ret.one rfl (RV.tmp rfl), Sub.nil, ?_⟩
   exact ⟨by rw [decide_eq_true]; have e := htake; rw [List.take_of_length_le h14n, List.take_of_length_le (by omega)] at e; exact e, rfl⟩
theorem samePattern_ct : ∀ (p q : Pt) (cs ds : List Value) (H : Heap), RP H cs p → RP H ds q → CT Tryz.prog 25 ⟨[.agg ⟨cs⟩, .agg ⟨ds⟩]⟩ [] H (fun v N => v = .bool (decide (p = q)) ∧ N = []) := by
 intro p
 induction p using Pt.ind with
 | h kind num ref kids ih =>
 intro q cs ds H hp hq
 obtain ⟨ks, rfl, hk, hn, hks⟩ := RP_mk.1 hp
 obtain ⟨ksq, rfl, hkq, hnq, hksq⟩ := RP_open hq
 refine CT_enter Tryz.func25 rfl rfl ?_
 refine J_seq ?_
 refine J_region ?_
 refine JL_run rfl (Runs_box (l := pkP (kind) (num) (ref) (ks)) rfl rfl fun b1 => ?_)
 refine JL_run rfl (Runs_box (l := pkP (q.kind) (q.num) (q.ref) (ksq)) rfl rfl fun b2 => ?_)
 refine JL_pure (v := .bool (false)) rfl (Pu.assign rfl) ?_
 refine JL_nil ?_
 refine J_cut (fun ρ M => ρ 4 = .bool ((((decide (kind = q.kind)) && (decide (num = q.num))) && (decide (ref = q.ref))) && (decide ((kids) = (q.kids)))) ∧ M = [[(b2, .cells ⟨pkP (q.kind) (q.num) (q.ref) (ksq)⟩ 30 (0, 0))], [(b1, .cells ⟨pkP (kind) (num) (ref) (ks)⟩ 30 (0, 0))]]) ?_ ?_
 ·refine J_region ?_
  refine JL_pure (v := .pointer (some ⟨b1, 0, none⟩)) rfl (fa30_0 rfl rfl) ?_
  refine JL_run rfl (Pu_load1 ty3 rfl (At.bx 1 rfl) (pkP_0 ..) ?_)
  refine JL_pure (v := .pointer (some ⟨b2, 0, none⟩)) rfl (fa30_0 rfl rfl) ?_
  refine JL_run rfl (Pu_load1 ty3 rfl (At.bx 0 rfl) (pkP_0 ..) ?_)
  refine JL_pure (v := .bool (decide (kind = q.kind))) rfl (Pu.eql rfl rfl) ?_
  refine JL_pure (v := .bool (decide (kind = q.kind))) rfl (Pu.move rfl) ?_
  cases h3 : (decide (kind = q.kind)) with
  | true =>
   replace h3 := dt h3
   refine JL_pure (v := .pointer (some ⟨b1, 1, none⟩)) rfl (fa30_1 rfl rfl) ?_
   refine JL_run rfl (Pu_load1 ty3 rfl (At.bx 1 rfl) (pkP_1 ..) ?_)
   refine JL_pure (v := .pointer (some ⟨b2, 1, none⟩)) rfl (fa30_1 rfl rfl) ?_
   refine JL_run rfl (Pu_load1 ty3 rfl (At.bx 0 rfl) (pkP_1 ..) ?_)
   refine JL_pure (v := .bool (decide (num = q.num))) rfl (Pu.eql rfl rfl) ?_
   refine JL_pure (v := .bool (decide (num = q.num))) rfl (Pu.pickT rfl rfl) ?_
   refine JL_pure (v := .bool (decide (num = q.num))) rfl (Pu.move rfl) ?_
   cases h4 : (decide (num = q.num)) with
   | true =>
    replace h4 := dt h4
    refine JL_pure (v := .pointer (some ⟨b1, 2, none⟩)) rfl (fa30_2 rfl rfl) ?_
    refine JL_run rfl (Pu_load ty23 rfl (At.bx 1 rfl) (pkP_2 ..) ?_)
    refine JL_pure (v := .pointer (some ⟨b2, 2, none⟩)) rfl (fa30_2 rfl rfl) ?_
    refine JL_run rfl (Pu_load ty23 rfl (At.bx 0 rfl) (pkP_2 ..) ?_)
    refine JL_pure (v := .bool (decide (ref = q.ref))) rfl (eqS rfl rfl) ?_
    refine JL_pure (v := .bool (decide (ref = q.ref))) rfl (Pu.pickT rfl rfl) ?_
    refine JL_pure (v := .bool (decide (ref = q.ref))) rfl (Pu.move rfl) ?_
    cases h5 : (decide (ref = q.ref)) with
    | true =>
     replace h5 := dt h5
     refine JL_pure (v := .pointer (some ⟨b1, 34, none⟩)) rfl (fa30_3 rfl rfl) ?_
     refine JL_run rfl (Pu_load1 ty28 rfl (At.bx 1 rfl) (pkP_34 ..) ?_)
     refine JL_pure (v := .pointer (some ⟨b2, 34, none⟩)) rfl (fa30_3 rfl rfl) ?_
     refine JL_run rfl (Pu_load1 ty28 rfl (At.bx 0 rfl) (pkP_34 ..) ?_)
     refine JL_call rfl Tryz.call65 rfl (fun hin => eqFuncP_ct 25 [] [] (fun _ _ => rfl) _ _ _ _ _ (RPs.mono (Hle.hu _ _) hks) (RPs.mono (Hle.hu _ _) hksq) (fun x hx y hy a b h hh ra rb => ih x hx y a b h ra rb)) rfl ?_
     rintro _ _ ⟨rfl, rfl⟩
     refine JL_pure (v := .bool (decide ((kids) = (q.kids)))) rfl (Pu.pickT rfl rfl) ?_
     refine JL_pure (v := .bool (decide ((kids) = (q.kids)))) rfl (Pu.assign rfl) ?_
     refine JL_nil ?_
     first | exact ⟨rfl, rfl⟩ | (exfalso; omega)
    | false =>
     replace h5 := df h5
     refine JL_skip rfl ?_
     refine JL_skip rfl ?_
     refine JL_skip rfl ?_
     refine JL_skip rfl ?_
     refine JL_skip rfl ?_
     refine JL_pure (v := .bool (false)) rfl (Pu.pickF rfl rfl) ?_
     refine JL_pure (v := .bool (false)) rfl (Pu.assign rfl) ?_
     refine JL_nil ?_
     first | exact ⟨rfl, rfl⟩ | (exfalso; omega)
   | false =>
    replace h4 := df h4
    refine JL_skip rfl ?_
    refine JL_skip rfl ?_
    refine JL_skip rfl ?_
    refine JL_skip rfl ?_
    refine JL_skip rfl ?_
    refine JL_pure (v := .bool (false)) rfl (Pu.pickF rfl rfl) ?_
    refine JL_pure (v := .bool (false)) rfl (Pu.move rfl) ?_
    refine JL_skip rfl ?_
    refine JL_skip rfl ?_
    refine JL_skip rfl ?_
    refine JL_skip rfl ?_
    refine JL_skip rfl ?_
    refine JL_pure (v := .bool (false)) rfl (Pu.pickF rfl rfl) ?_
    refine JL_pure (v := .bool (false)) rfl (Pu.assign rfl) ?_
    refine JL_nil ?_
    first | exact ⟨rfl, rfl⟩ | (exfalso; omega)
  | false =>
   replace h3 := df h3
   refine JL_skip rfl ?_
   refine JL_skip rfl ?_
   refine JL_skip rfl ?_
   refine JL_skip rfl ?_
   refine JL_skip rfl ?_
   refine JL_pure (v := .bool (false)) rfl (Pu.pickF rfl rfl) ?_
   refine JL_pure (v := .bool (false)) rfl (Pu.move rfl) ?_
   refine JL_skip rfl ?_
   refine JL_skip rfl ?_
   refine JL_skip rfl ?_
   refine JL_skip rfl ?_
   refine JL_skip rfl ?_
   refine JL_pure (v := .bool (false)) rfl (Pu.pickF rfl rfl) ?_
   refine JL_pure (v := .bool (false)) rfl (Pu.move rfl) ?_
   refine JL_skip rfl ?_
   refine JL_skip rfl ?_
   refine JL_skip rfl ?_
   refine JL_skip rfl ?_
   refine JL_skip rfl ?_
   refine JL_pure (v := .bool (false)) rfl (Pu.pickF rfl rfl) ?_
   refine JL_pure (v := .bool (false)) rfl (Pu.assign rfl) ?_
   refine JL_nil ?_
   first | exact ⟨rfl, rfl⟩ | (exfalso; omega)
 ·rintro ρ6 _ ⟨e7, rfl⟩
  obtain ⟨ρ8, rfl⟩ := reopen_ex (uc e7 un)
  clear e7
  refine J_ret ?_
  refine ⟨.bool ((((decide (kind = q.kind)) && (decide (num = q.num))) && (decide (ref = q.ref))) && (decide ((kids) = (q.kids)))), [], Ret.one rfl (RV.tmp rfl), Sub.nil, ?_⟩
  exact ⟨congrArg Value.bool (eqPd ..), rfl⟩
theorem sameCase_ct : ∀ (c d : Pt × Tm) (a b : List Value) (H : Heap), RC H a c → RC H b d → (∀ h a b, Hle H h → RT h a c.2 → RT h b d.2 → CT Tryz.prog 24 ⟨[.agg ⟨a⟩, .agg ⟨b⟩]⟩ [] h (fun v N => v = .bool (decide (c.2 = d.2)) ∧ N = [])) → CT Tryz.prog 64 ⟨[.agg ⟨a⟩, .agg ⟨b⟩]⟩ [] H (fun v N => v = .bool (decide (c = d)) ∧ N = []) := by
 intro c d a b H ⟨ca, cb, e1, ra1, ra2⟩ ⟨da, db, e2, rb1, rb2⟩ hg
 subst e1 e2
 refine CT_enter Tryz.func64 rfl rfl ?_
 refine J_seq ?_
 refine J_region ?_
 refine JL_run rfl (Runs_box (l := (ca) ++ (cb)) rfl rfl fun b1 => ?_)
 refine JL_run rfl (Runs_box (l := (da) ++ (db)) rfl rfl fun b2 => ?_)
 refine JL_pure (v := .bool (false)) rfl (Pu.assign rfl) ?_
 refine JL_nil ?_
 refine J_cut (fun ρ M => ρ 4 = .bool ((decide ((c.1) = (d.1))) && (decide ((c.2) = (d.2)))) ∧ M = [[(b2, .cells ⟨(da) ++ (db)⟩ 34 (0, 0))], [(b1, .cells ⟨(ca) ++ (cb)⟩ 34 (0, 0))]]) ?_ ?_
 ·refine J_region ?_
  refine JL_pure (v := .pointer (some ⟨b1, 0, none⟩)) rfl (fa34_0 rfl rfl) ?_
  refine JL_run rfl (Pu_load ty30 rfl (At.bx 1 rfl) (sub_l (RP_len ra1)) ?_)
  refine JL_pure (v := .pointer (some ⟨b2, 0, none⟩)) rfl (fa34_0 rfl rfl) ?_
  refine JL_run rfl (Pu_load ty30 rfl (At.bx 0 rfl) (sub_l (RP_len rb1)) ?_)
  refine JL_call rfl Tryz.call25 rfl (fun hin => samePattern_ct _ _ _ _ _ (RP.mono (Hle.hu _ _) ra1) (RP.mono (Hle.hu _ _) rb1)) rfl ?_
  rintro _ _ ⟨rfl, rfl⟩
  refine JL_pure (v := .bool (decide ((c.1) = (d.1)))) rfl (Pu.move rfl) ?_
  cases h3 : (decide ((c.1) = (d.1))) with
  | true =>
   replace h3 := dt h3
   refine JL_pure (v := .pointer (some ⟨b1, 35, none⟩)) rfl (fa34_1 rfl rfl) ?_
   refine JL_run rfl (Pu_load ty27 rfl (At.bx 1 rfl) (sub_r (RP_len ra1) (RT_len ra2)) ?_)
   refine JL_pure (v := .pointer (some ⟨b2, 35, none⟩)) rfl (fa34_1 rfl rfl) ?_
   refine JL_run rfl (Pu_load ty27 rfl (At.bx 0 rfl) (sub_r (RP_len rb1) (RT_len rb2)) ?_)
   refine JL_call rfl Tryz.call24 rfl (fun hin => hg _ _ _ (Hle.hu _ _) (RT.mono (Hle.hu _ _) ra2) (RT.mono (Hle.hu _ _) rb2)) rfl ?_
   rintro _ _ ⟨rfl, rfl⟩
   refine JL_pure (v := .bool (decide ((c.2) = (d.2)))) rfl (Pu.pickT rfl rfl) ?_
   refine JL_pure (v := .bool (decide ((c.2) = (d.2)))) rfl (Pu.assign rfl) ?_
   refine JL_nil ?_
   first | exact ⟨rfl, rfl⟩ | (exfalso; omega)
  | false =>
   replace h3 := df h3
   refine JL_skip rfl ?_
   refine JL_skip rfl ?_
   refine JL_skip rfl ?_
   refine JL_skip rfl ?_
   refine JL_skip rfl ?_
   refine JL_pure (v := .bool (false)) rfl (Pu.pickF rfl rfl) ?_
   refine JL_pure (v := .bool (false)) rfl (Pu.assign rfl) ?_
   refine JL_nil ?_
   first | exact ⟨rfl, rfl⟩ | (exfalso; omega)
 ·rintro ρ4 _ ⟨e5, rfl⟩
  obtain ⟨ρ6, rfl⟩ := reopen_ex (uc e5 un)
  clear e5
  refine J_ret ?_
  refine ⟨.bool ((decide ((c.1) = (d.1))) && (decide ((c.2) = (d.2)))), [], Ret.one rfl (RV.tmp rfl), Sub.nil, ?_⟩
  exact ⟨by obtain ⟨c1, c2⟩ := c; obtain ⟨d1, d2⟩ := d; refine congrArg Value.bool ?_; rw [Bool.eq_iff_iff]; simp, rfl⟩
theorem sameTerms_ct : ∀ (l m : List Tm) (v u : Value) (H : Heap) (_ : rdS RT 36 H v l) (_ : rdS RT 36 H u m) (_ : ∀ x ∈ l, ∀ y a b h, Hle H h → RT h a x → RT h b y → CT Tryz.prog 24 ⟨[.agg ⟨a⟩, .agg ⟨b⟩]⟩ [] h (fun v N => v = .bool (decide (x = y)) ∧ N = [])), CT Tryz.prog 63 ⟨[v, u]⟩ [] H (fun v N => v = .bool (decide (l = m)) ∧ N = []) := by
 intro l m v u H hl hm hg
 refine CT_enter Tryz.func63 rfl rfl ?_
 refine J_seq ?_
 refine J_region ?_
 refine JL_pure (v := .bool (false)) rfl (Pu.assign rfl) ?_
 refine JL_nil ?_
 refine J_seq ?_
 refine J_region ?_
 refine JL_pure (v := v) rfl (Pu.move rfl) ?_
 refine JL_pure (v := u) rfl (Pu.move rfl) ?_
 refine JL_call rfl Tryz.call58 rfl (fun hin => eqFuncT_ct 24 [] [] (fun _ _ => rfl) _ _ _ _ _ (RTs.mono (Hle.hu _ _) hl) (RTs.mono (Hle.hu _ _) hm) (fun x hx y hy a b h hh ra rb => hg x hx y a b h (Hle.trans (Hle.hu _ _) hh) ra rb)) rfl ?_
 rintro _ _ ⟨rfl, rfl⟩
 refine JL_pure (v := .bool (decide ((l) = (m)))) rfl (Pu.assign rfl) ?_
 refine JL_nil ?_
 refine J_ret ?_
 refine ⟨.bool (decide ((l) = (m))), [], Ret.one rfl (RV.tmp rfl), Sub.nil, ?_⟩
 exact ⟨rfl, rfl⟩
theorem sameTerm_ct : ∀ (t u : Tm) (cs ds : List Value) (H : Heap), RT H cs t → RT H ds u → CT Tryz.prog 24 ⟨[.agg ⟨cs⟩, .agg ⟨ds⟩]⟩ [] H (fun v N => v = .bool (decide (t = u)) ∧ N = []) := by
 intro t
 induction t using Tm.ind with
 | h kind num ref kids cases ih ih' =>
 intro u cs ds H ht hu
 obtain ⟨ks, cv, rfl, hk, hn, hks, hcv⟩ := RT_mk.1 ht
 obtain ⟨ksu, cvu, rfl, hku, hnu, hksu, hcvu⟩ := RT_open hu
 refine CT_enter Tryz.func24 rfl rfl ?_
 refine J_seq ?_
 refine J_region ?_
 refine JL_run rfl (Runs_box (l := pkT (kind) (num) (ref) (ks) (cv)) rfl rfl fun b1 => ?_)
 refine JL_run rfl (Runs_box (l := pkT (u.kind) (u.num) (u.ref) (ksu) (cvu)) rfl rfl fun b2 => ?_)
 refine JL_pure (v := .bool (false)) rfl (Pu.assign rfl) ?_
 refine JL_nil ?_
 refine J_cut (fun ρ M => ρ 4 = .bool (((((decide (kind = u.kind)) && (decide (num = u.num))) && (decide (ref = u.ref))) && (decide ((kids) = (u.kids)))) && (decide ((cases) = (u.cases)))) ∧ M = [[(b2, .cells ⟨pkT (u.kind) (u.num) (u.ref) (ksu) (cvu)⟩ 27 (0, 0))], [(b1, .cells ⟨pkT (kind) (num) (ref) (ks) (cv)⟩ 27 (0, 0))]]) ?_ ?_
 ·refine J_region ?_
  refine JL_pure (v := .pointer (some ⟨b1, 0, none⟩)) rfl (fa27_0 rfl rfl) ?_
  refine JL_run rfl (Pu_load1 ty3 rfl (At.bx 1 rfl) (pkT_0 ..) ?_)
  refine JL_pure (v := .pointer (some ⟨b2, 0, none⟩)) rfl (fa27_0 rfl rfl) ?_
  refine JL_run rfl (Pu_load1 ty3 rfl (At.bx 0 rfl) (pkT_0 ..) ?_)
  refine JL_pure (v := .bool (decide (kind = u.kind))) rfl (Pu.eql rfl rfl) ?_
  refine JL_pure (v := .bool (decide (kind = u.kind))) rfl (Pu.move rfl) ?_
  cases h3 : (decide (kind = u.kind)) with
  | true =>
   replace h3 := dt h3
   refine JL_pure (v := .pointer (some ⟨b1, 1, none⟩)) rfl (fa27_1 rfl rfl) ?_
   refine JL_run rfl (Pu_load1 ty3 rfl (At.bx 1 rfl) (pkT_1 ..) ?_)
   refine JL_pure (v := .pointer (some ⟨b2, 1, none⟩)) rfl (fa27_1 rfl rfl) ?_
   refine JL_run rfl (Pu_load1 ty3 rfl (At.bx 0 rfl) (pkT_1 ..) ?_)
   refine JL_pure (v := .bool (decide (num = u.num))) rfl (Pu.eql rfl rfl) ?_
   refine JL_pure (v := .bool (decide (num = u.num))) rfl (Pu.pickT rfl rfl) ?_
   refine JL_pure (v := .bool (decide (num = u.num))) rfl (Pu.move rfl) ?_
   cases h4 : (decide (num = u.num)) with
   | true =>
    replace h4 := dt h4
    refine JL_pure (v := .pointer (some ⟨b1, 2, none⟩)) rfl (fa27_2 rfl rfl) ?_
    refine JL_run rfl (Pu_load ty23 rfl (At.bx 1 rfl) (pkT_2 ..) ?_)
    refine JL_pure (v := .pointer (some ⟨b2, 2, none⟩)) rfl (fa27_2 rfl rfl) ?_
    refine JL_run rfl (Pu_load ty23 rfl (At.bx 0 rfl) (pkT_2 ..) ?_)
    refine JL_pure (v := .bool (decide (ref = u.ref))) rfl (eqS rfl rfl) ?_
    refine JL_pure (v := .bool (decide (ref = u.ref))) rfl (Pu.pickT rfl rfl) ?_
    refine JL_pure (v := .bool (decide (ref = u.ref))) rfl (Pu.move rfl) ?_
    cases h5 : (decide (ref = u.ref)) with
    | true =>
     replace h5 := dt h5
     refine JL_pure (v := .pointer (some ⟨b1, 34, none⟩)) rfl (fa27_3 rfl rfl) ?_
     refine JL_run rfl (Pu_load1 ty24 rfl (At.bx 1 rfl) (pkT_34 ..) ?_)
     refine JL_pure (v := .pointer (some ⟨b2, 34, none⟩)) rfl (fa27_3 rfl rfl) ?_
     refine JL_run rfl (Pu_load1 ty24 rfl (At.bx 0 rfl) (pkT_34 ..) ?_)
     refine JL_call rfl Tryz.call63 rfl (fun hin => sameTerms_ct _ _ _ _ _ (RTs.mono (Hle.hu _ _) hks) (RTs.mono (Hle.hu _ _) hksu) (fun x hx y a b h _ ra rb => ih x hx y a b h ra rb)) rfl ?_
     rintro _ _ ⟨rfl, rfl⟩
     refine JL_pure (v := .bool (decide ((kids) = (u.kids)))) rfl (Pu.pickT rfl rfl) ?_
     refine JL_pure (v := .bool (decide ((kids) = (u.kids)))) rfl (Pu.move rfl) ?_
     cases h6 : (decide ((kids) = (u.kids))) with
     | true =>
      replace h6 := dt h6
      refine JL_pure (v := .pointer (some ⟨b1, 35, none⟩)) rfl (fa27_4 rfl rfl) ?_
      refine JL_run rfl (Pu_load1 ty25 rfl (At.bx 1 rfl) (pkT_35 ..) ?_)
      refine JL_pure (v := .pointer (some ⟨b2, 35, none⟩)) rfl (fa27_4 rfl rfl) ?_
      refine JL_run rfl (Pu_load1 ty25 rfl (At.bx 0 rfl) (pkT_35 ..) ?_)
      refine JL_call rfl Tryz.call59 rfl (fun hin => eqFuncC_ct 64 [] [] (fun _ _ => rfl) _ _ _ _ _ (RCs.mono (Hle.hu _ _) hcv) (RCs.mono (Hle.hu _ _) hcvu) (fun x hx y hy a b h hh ra rb => sameCase_ct x y a b h ra rb (fun h' a' b' _ r1 r2 => ih' x hx y.2 a' b' h' r1 r2))) rfl ?_
      rintro _ _ ⟨rfl, rfl⟩
      refine JL_pure (v := .bool (decide ((cases) = (u.cases)))) rfl (Pu.pickT rfl rfl) ?_
      refine JL_pure (v := .bool (decide ((cases) = (u.cases)))) rfl (Pu.assign rfl) ?_
      refine JL_nil ?_
      first | exact ⟨rfl, rfl⟩ | (exfalso; omega)
     | false =>
      replace h6 := df h6
      refine JL_skip rfl ?_
      refine JL_skip rfl ?_
      refine JL_skip rfl ?_
      refine JL_skip rfl ?_
      refine JL_skip rfl ?_
      refine JL_pure (v := .bool (false)) rfl (Pu.pickF rfl rfl) ?_
      refine JL_pure (v := .bool (false)) rfl (Pu.assign rfl) ?_
      refine JL_nil ?_
      first | exact ⟨rfl, rfl⟩ | (exfalso; omega)
    | false =>
     replace h5 := df h5
     refine JL_skip rfl ?_
     refine JL_skip rfl ?_
     refine JL_skip rfl ?_
     refine JL_skip rfl ?_
     refine JL_skip rfl ?_
     refine JL_pure (v := .bool (false)) rfl (Pu.pickF rfl rfl) ?_
     refine JL_pure (v := .bool (false)) rfl (Pu.move rfl) ?_
     refine JL_skip rfl ?_
     refine JL_skip rfl ?_
     refine JL_skip rfl ?_
     refine JL_skip rfl ?_
     refine JL_skip rfl ?_
     refine JL_pure (v := .bool (false)) rfl (Pu.pickF rfl rfl) ?_
     refine JL_pure (v := .bool (false)) rfl (Pu.assign rfl) ?_
     refine JL_nil ?_
     first | exact ⟨rfl, rfl⟩ | (exfalso; omega)
   | false =>
    replace h4 := df h4
    refine JL_skip rfl ?_
    refine JL_skip rfl ?_
    refine JL_skip rfl ?_
    refine JL_skip rfl ?_
    refine JL_skip rfl ?_
    refine JL_pure (v := .bool (false)) rfl (Pu.pickF rfl rfl) ?_
    refine JL_pure (v := .bool (false)) rfl (Pu.move rfl) ?_
    refine JL_skip rfl ?_
    refine JL_skip rfl ?_
    refine JL_skip rfl ?_
    refine JL_skip rfl ?_
    refine JL_skip rfl ?_
    refine JL_pure (v := .bool (false)) rfl (Pu.pickF rfl rfl) ?_
    refine JL_pure (v := .bool (false)) rfl (Pu.move rfl) ?_
    refine JL_skip rfl ?_
    refine JL_skip rfl ?_
    refine JL_skip rfl ?_
    refine JL_skip rfl ?_
    refine JL_skip rfl ?_
    refine JL_pure (v := .bool (false)) rfl (Pu.pickF rfl rfl) ?_
    refine JL_pure (v := .bool (false)) rfl (Pu.assign rfl) ?_
    refine JL_nil ?_
    first | exact ⟨rfl, rfl⟩ | (exfalso; omega)
  | false =>
   replace h3 := df h3
   refine JL_skip rfl ?_
   refine JL_skip rfl ?_
   refine JL_skip rfl ?_
   refine JL_skip rfl ?_
   refine JL_skip rfl ?_
   refine JL_pure (v := .bool (false)) rfl (Pu.pickF rfl rfl) ?_
   refine JL_pure (v := .bool (false)) rfl (Pu.move rfl) ?_
   refine JL_skip rfl ?_
   refine JL_skip rfl ?_
   refine JL_skip rfl ?_
   refine JL_skip rfl ?_
   refine JL_skip rfl ?_
   refine JL_pure (v := .bool (false)) rfl (Pu.pickF rfl rfl) ?_
   refine JL_pure (v := .bool (false)) rfl (Pu.move rfl) ?_
   refine JL_skip rfl ?_
   refine JL_skip rfl ?_
   refine JL_skip rfl ?_
   refine JL_skip rfl ?_
   refine JL_skip rfl ?_
   refine JL_pure (v := .bool (false)) rfl (Pu.pickF rfl rfl) ?_
   refine JL_pure (v := .bool (false)) rfl (Pu.move rfl) ?_
   refine JL_skip rfl ?_
   refine JL_skip rfl ?_
   refine JL_skip rfl ?_
   refine JL_skip rfl ?_
   refine JL_skip rfl ?_
   refine JL_pure (v := .bool (false)) rfl (Pu.pickF rfl rfl) ?_
   refine JL_pure (v := .bool (false)) rfl (Pu.assign rfl) ?_
   refine JL_nil ?_
   first | exact ⟨rfl, rfl⟩ | (exfalso; omega)
 ·rintro ρ7 _ ⟨e8, rfl⟩
  obtain ⟨ρ9, rfl⟩ := reopen_ex (uc e8 un)
  clear e8
  refine J_ret ?_
  refine ⟨.bool (((((decide (kind = u.kind)) && (decide (num = u.num))) && (decide (ref = u.ref))) && (decide ((kids) = (u.kids)))) && (decide ((cases) = (u.cases)))), [], Ret.one rfl (RV.tmp rfl), Sub.nil, ?_⟩
  exact ⟨congrArg Value.bool (eqTd ..), rfl⟩
end Go.Proofs.YtdeinimmmjichaaGreat.Hs
/-! Walks, printed by a program of this session's own (gen.py). -/
namespace Go.Proofs.YtdeinimmmjichaaGreat.Hs
open Go Go.Proofs
set_option maxRecDepth 100000
set_option linter.unusedVariables false
set_option linter.unusedSimpArgs false
attribute [local irreducible] JL J CT wlo
theorem idxP_ct (g : Nat) (fs cv : List Value) (hcall : ∀ args w, (callFunc g args).run Tryz.prog w = .ok (.enter g args) w) {σ : Type} (Sc : σ → Chunk) (Inv : σ → Prop) (step : Pt → σ → Bool × σ) (l : List Pt) (v : Value) (H : Heap) (hl : rdS RP 35 H v l) (s0 : σ) (h0 : Inv s0) (hI : ∀ x ∈ l, ∀ s, Inv s → (step x s).1 = false → Inv (step x s).2) (hg : ∀ x ∈ l, ∀ s, Inv s → ∀ a h, Hle H h → RP h a x → CT Tryz.prog g ⟨fs ++ [.agg ⟨a⟩] ++ cv⟩ [Sc s] h (fun v N => v = .bool (step x s).1 ∧ N = [Sc (step x s).2])) : CT Tryz.prog 73 ⟨[v, .func (.func g) ⟨fs⟩ ⟨cv⟩]⟩ [Sc s0] H (fun v N => v = .int .i64 (idxS step l 0 s0).1 ∧ N = [Sc (idxS step l 0 s0).2]) := by
 refine CT_enter Tryz.func73 rfl rfl ?_
 refine J_seq ?_
 refine J_region ?_
 refine JL_pure (v := .int .i64 (0)) rfl (Pu.assign rfl) ?_
 refine JL_nil ?_
 refine J_seq ?_
 refine J_seq ?_
 refine J_region ?_
 refine JL_pure (v := v) rfl (Pu.move rfl) ?_
 obtain ⟨a1, cap1, hv1⟩ := hl.sl
 have hle1 := hl.le
 refine JL_pure (v := .int .i64 (((l).length : Int))) rfl (Pu.lenSl Tryz.runUnderlying28 hv1) ?_
 refine JL_pure (v := .int .i64 (0)) rfl (Pu.move rfl) ?_
 refine JL_nil ?_
 refine J_block ?_
 refine J_loop (fun k ρ M => ∃ (j : Nat) (s : σ), ρ 0 = v ∧ ρ 1 = .func (.func g) ⟨fs⟩ ⟨cv⟩ ∧ ρ 4 = .int .i64 (0) ∧ ρ 7 = .int .i64 (((l).length : Int)) ∧ ρ 8 = .int .i64 ((j : Int)) ∧ Sub [Sc s] M ∧ j ≤ (l).length ∧ Inv s ∧ idxS step (l.drop j) j s = idxS step l 0 s0 ∧ k = (l).length - j) _ ⟨0, s0, rfl, rfl, rfl, rfl, rfl, (Sk Sub.nil), Nat.zero_le _, h0, rfl, rfl⟩ ?_
 rintro _ ρ2 _ ⟨j, s, e3, e4, e5, e6, e7, hm8, hj, hs, hinv, rfl⟩
 obtain ⟨ρ9, rfl⟩ := reopen_ex (uc e3 (uc e4 (uc e5 (uc e6 (uc e7 un)))))
 clear e3 e4 e5 e6 e7
 refine J_sub hm8 ?_
 refine J_seq ?_
 refine J_region ?_
 refine JL_pure (v := .bool (decide ((j : Int) < ((l).length : Int)))) rfl (Pu.lss rfl rfl) ?_
 refine JL_nil ?_
 refine J_seq ?_
 refine J_cond (b := decide ((j : Int) < ((l).length : Int))) rfl (fun h10 => ?_) (fun h10 => ?_)
 ·skip
  replace h10 := dt h10
  have h10n : j < (l).length := by omega
  have hlenl := hl.le
  refine J_skip ?_
  refine J_seq ?_
  refine J_block ?_
  refine J_seq ?_
  refine J_region ?_
  refine JL_pure (v := .int .i64 ((j : Int))) rfl (Pu.move rfl) ?_
  refine JL_pure (v := .int .i64 ((j : Int))) rfl (Pu.assign rfl) ?_
  refine JL_nil ?_
  refine J_seq ?_
  refine J_region ?_
  refine JL_pure (v := .func (.func g) ⟨fs⟩ ⟨cv⟩) rfl (Pu.move rfl) ?_
  refine JL_pure (v := v) rfl (Pu.move rfl) ?_
  refine JL_pure (v := .int .i64 ((j : Int))) rfl (Pu.move rfl) ?_
  obtain ⟨b11, o11, cap11, row11, T11, fr11, cs11, hv11, hb11, hs11, hE11⟩ := hl.get j (by first | assumption | omega | decide | simp)
  refine JL_pure (v := .pointer (some ⟨b11, o11 + j * 35, none⟩)) rfl (Pu.idx j Tryz.runUnderlying28 ty30 hv11 rfl rfl (by first | assumption | omega | decide | simp)) ?_
  refine JL_run rfl (Pu_load ty30 rfl (At.im hb11) hs11 ?_)
  refine JL_call1 0 rfl hcall rfl rfl (fun hin => hg _ (List.getElem_mem h10n) _ hs _ _ (Hle.hu _ _) (RP.mono (Hle.hu _ _) hE11)) rfl ?_
  rintro _ _ ⟨rfl, rfl⟩
  refine JL_nil ?_
  refine J_cond (b := (step ((l)[j]) s).1) rfl (fun h12 => ?_) (fun h12 => ?_)
  ·skip
   refine J_seq ?_
   refine J_region ?_
   refine JL_pure (v := .int .i64 ((j : Int))) rfl (Pu.move rfl) ?_
   refine JL_pure (v := .int .i64 ((j : Int))) rfl (Pu.assign rfl) ?_
   refine JL_nil ?_
   refine J_ret ?_
   refine ⟨.int .i64 ((j : Int)), [Sc (step ((l)[j]) s).2], Ret.one rfl (RV.tmp rfl), (Sk Sub.nil), ?_⟩
   refine ⟨?_, ?_⟩ <;> rw [← hinv, dropc h10n, idxS, if_pos h12]
  ·skip
   refine J_skip ?_
   refine J_region ?_
   refine JL_pure (v := .int .i64 (((j + 1 : Nat) : Int))) rfl (Pu.inc rfl rfl (by omega)) ?_
   refine JL_pure (v := .int .i64 (((j + 1 : Nat) : Int))) rfl (Pu.move rfl) ?_
   refine JL_nil ?_
   refine ⟨_, ?_, (j + 1), ((step ((l)[j]) s).2), rfl, rfl, rfl, rfl, rfl, (Sk Sub.nil), ?_, ?_, ?_, rfl⟩
   ·omega
   ·omega
   ·exact hI _ (List.getElem_mem h10n) s hs h12
   ·rw [dropc h10n, idxS, if_neg (by simp [h12])] at hinv; exact hinv
 ·skip
  replace h10 := df h10
  have h10n : (l).length ≤ j := by omega
  refine J_exit _ rfl ?_
  refine J_seq ?_
  refine J_region ?_
  refine JL_pure (v := .int .i64 (-1)) rfl (Pu.assign rfl) ?_
  refine JL_nil ?_
  refine J_ret ?_
  refine ⟨.int .i64 (-1), [Sc s], Ret.one rfl (RV.tmp rfl), (Sk Sub.nil), ?_⟩
  refine ⟨?_, ?_⟩ <;> rw [← hinv, dropn h10n] <;> rfl
theorem idxT_ct (g : Nat) (fs cv : List Value) (hcall : ∀ args w, (callFunc g args).run Tryz.prog w = .ok (.enter g args) w) {σ : Type} (Sc : σ → Chunk) (Inv : σ → Prop) (step : Tm → σ → Bool × σ) (l : List Tm) (v : Value) (H : Heap) (hl : rdS RT 36 H v l) (s0 : σ) (h0 : Inv s0) (hI : ∀ x ∈ l, ∀ s, Inv s → (step x s).1 = false → Inv (step x s).2) (hg : ∀ x ∈ l, ∀ s, Inv s → ∀ a h, Hle H h → RT h a x → CT Tryz.prog g ⟨fs ++ [.agg ⟨a⟩] ++ cv⟩ [Sc s] h (fun v N => v = .bool (step x s).1 ∧ N = [Sc (step x s).2])) : CT Tryz.prog 74 ⟨[v, .func (.func g) ⟨fs⟩ ⟨cv⟩]⟩ [Sc s0] H (fun v N => v = .int .i64 (idxS step l 0 s0).1 ∧ N = [Sc (idxS step l 0 s0).2]) := by
 refine CT_enter Tryz.func74 rfl rfl ?_
 refine J_seq ?_
 refine J_region ?_
 refine JL_pure (v := .int .i64 (0)) rfl (Pu.assign rfl) ?_
 refine JL_nil ?_
 refine J_seq ?_
 refine J_seq ?_
 refine J_region ?_
 refine JL_pure (v := v) rfl (Pu.move rfl) ?_
 obtain ⟨a1, cap1, hv1⟩ := hl.sl
 have hle1 := hl.le
 refine JL_pure (v := .int .i64 (((l).length : Int))) rfl (Pu.lenSl Tryz.runUnderlying24 hv1) ?_
 refine JL_pure (v := .int .i64 (0)) rfl (Pu.move rfl) ?_
 refine JL_nil ?_
 refine J_block ?_
 refine J_loop (fun k ρ M => ∃ (j : Nat) (s : σ), ρ 0 = v ∧ ρ 1 = .func (.func g) ⟨fs⟩ ⟨cv⟩ ∧ ρ 4 = .int .i64 (0) ∧ ρ 7 = .int .i64 (((l).length : Int)) ∧ ρ 8 = .int .i64 ((j : Int)) ∧ Sub [Sc s] M ∧ j ≤ (l).length ∧ Inv s ∧ idxS step (l.drop j) j s = idxS step l 0 s0 ∧ k = (l).length - j) _ ⟨0, s0, rfl, rfl, rfl, rfl, rfl, (Sk Sub.nil), Nat.zero_le _, h0, rfl, rfl⟩ ?_
 rintro _ ρ2 _ ⟨j, s, e3, e4, e5, e6, e7, hm8, hj, hs, hinv, rfl⟩
 obtain ⟨ρ9, rfl⟩ := reopen_ex (uc e3 (uc e4 (uc e5 (uc e6 (uc e7 un)))))
 clear e3 e4 e5 e6 e7
 refine J_sub hm8 ?_
 refine J_seq ?_
 refine J_region ?_
 refine JL_pure (v := .bool (decide ((j : Int) < ((l).length : Int)))) rfl (Pu.lss rfl rfl) ?_
 refine JL_nil ?_
 refine J_seq ?_
 refine J_cond (b := decide ((j : Int) < ((l).length : Int))) rfl (fun h10 => ?_) (fun h10 => ?_)
 ·skip
  replace h10 := dt h10
  have h10n : j < (l).length := by omega
  have hlenl := hl.le
  refine J_skip ?_
  refine J_seq ?_
  refine J_block ?_
  refine J_seq ?_
  refine J_region ?_
  refine JL_pure (v := .int .i64 ((j : Int))) rfl (Pu.move rfl) ?_
  refine JL_pure (v := .int .i64 ((j : Int))) rfl (Pu.assign rfl) ?_
  refine JL_nil ?_
  refine J_seq ?_
  refine J_region ?_
  refine JL_pure (v := .func (.func g) ⟨fs⟩ ⟨cv⟩) rfl (Pu.move rfl) ?_
  refine JL_pure (v := v) rfl (Pu.move rfl) ?_
  refine JL_pure (v := .int .i64 ((j : Int))) rfl (Pu.move rfl) ?_
  obtain ⟨b11, o11, cap11, row11, T11, fr11, cs11, hv11, hb11, hs11, hE11⟩ := hl.get j (by first | assumption | omega | decide | simp)
  refine JL_pure (v := .pointer (some ⟨b11, o11 + j * 36, none⟩)) rfl (Pu.idx j Tryz.runUnderlying24 ty27 hv11 rfl rfl (by first | assumption | omega | decide | simp)) ?_
  refine JL_run rfl (Pu_load ty27 rfl (At.im hb11) hs11 ?_)
  refine JL_call1 0 rfl hcall rfl rfl (fun hin => hg _ (List.getElem_mem h10n) _ hs _ _ (Hle.hu _ _) (RT.mono (Hle.hu _ _) hE11)) rfl ?_
  rintro _ _ ⟨rfl, rfl⟩
  refine JL_nil ?_
  refine J_cond (b := (step ((l)[j]) s).1) rfl (fun h12 => ?_) (fun h12 => ?_)
  ·skip
   refine J_seq ?_
   refine J_region ?_
   refine JL_pure (v := .int .i64 ((j : Int))) rfl (Pu.move rfl) ?_
   refine JL_pure (v := .int .i64 ((j : Int))) rfl (Pu.assign rfl) ?_
   refine JL_nil ?_
   refine J_ret ?_
   refine ⟨.int .i64 ((j : Int)), [Sc (step ((l)[j]) s).2], Ret.one rfl (RV.tmp rfl), (Sk Sub.nil), ?_⟩
   refine ⟨?_, ?_⟩ <;> rw [← hinv, dropc h10n, idxS, if_pos h12]
  ·skip
   refine J_skip ?_
   refine J_region ?_
   refine JL_pure (v := .int .i64 (((j + 1 : Nat) : Int))) rfl (Pu.inc rfl rfl (by omega)) ?_
   refine JL_pure (v := .int .i64 (((j + 1 : Nat) : Int))) rfl (Pu.move rfl) ?_
   refine JL_nil ?_
   refine ⟨_, ?_, (j + 1), ((step ((l)[j]) s).2), rfl, rfl, rfl, rfl, rfl, (Sk Sub.nil), ?_, ?_, ?_, rfl⟩
   ·omega
   ·omega
   ·exact hI _ (List.getElem_mem h10n) s hs h12
   ·rw [dropc h10n, idxS, if_neg (by simp [h12])] at hinv; exact hinv
 ·skip
  replace h10 := df h10
  have h10n : (l).length ≤ j := by omega
  refine J_exit _ rfl ?_
  refine J_seq ?_
  refine J_region ?_
  refine JL_pure (v := .int .i64 (-1)) rfl (Pu.assign rfl) ?_
  refine JL_nil ?_
  refine J_ret ?_
  refine ⟨.int .i64 (-1), [Sc s], Ret.one rfl (RV.tmp rfl), (Sk Sub.nil), ?_⟩
  refine ⟨?_, ?_⟩ <;> rw [← hinv, dropn h10n] <;> rfl
theorem idxC_ct (g : Nat) (fs cv : List Value) (hcall : ∀ args w, (callFunc g args).run Tryz.prog w = .ok (.enter g args) w) {σ : Type} (Sc : σ → Chunk) (Inv : σ → Prop) (step : (Pt × Tm) → σ → Bool × σ) (l : List (Pt × Tm)) (v : Value) (H : Heap) (hl : rdS RC 71 H v l) (s0 : σ) (h0 : Inv s0) (hI : ∀ x ∈ l, ∀ s, Inv s → (step x s).1 = false → Inv (step x s).2) (hg : ∀ x ∈ l, ∀ s, Inv s → ∀ a h, Hle H h → RC h a x → CT Tryz.prog g ⟨fs ++ [.agg ⟨a⟩] ++ cv⟩ [Sc s] h (fun v N => v = .bool (step x s).1 ∧ N = [Sc (step x s).2])) : CT Tryz.prog 75 ⟨[v, .func (.func g) ⟨fs⟩ ⟨cv⟩]⟩ [Sc s0] H (fun v N => v = .int .i64 (idxS step l 0 s0).1 ∧ N = [Sc (idxS step l 0 s0).2]) := by
 refine CT_enter Tryz.func75 rfl rfl ?_
 refine J_seq ?_
 refine J_region ?_
 refine JL_pure (v := .int .i64 (0)) rfl (Pu.assign rfl) ?_
 refine JL_nil ?_
 refine J_seq ?_
 refine J_seq ?_
 refine J_region ?_
 refine JL_pure (v := v) rfl (Pu.move rfl) ?_
 obtain ⟨a1, cap1, hv1⟩ := hl.sl
 have hle1 := hl.le
 refine JL_pure (v := .int .i64 (((l).length : Int))) rfl (Pu.lenSl Tryz.runUnderlying25 hv1) ?_
 refine JL_pure (v := .int .i64 (0)) rfl (Pu.move rfl) ?_
 refine JL_nil ?_
 refine J_block ?_
 refine J_loop (fun k ρ M => ∃ (j : Nat) (s : σ), ρ 0 = v ∧ ρ 1 = .func (.func g) ⟨fs⟩ ⟨cv⟩ ∧ ρ 4 = .int .i64 (0) ∧ ρ 7 = .int .i64 (((l).length : Int)) ∧ ρ 8 = .int .i64 ((j : Int)) ∧ Sub [Sc s] M ∧ j ≤ (l).length ∧ Inv s ∧ idxS step (l.drop j) j s = idxS step l 0 s0 ∧ k = (l).length - j) _ ⟨0, s0, rfl, rfl, rfl, rfl, rfl, (Sk Sub.nil), Nat.zero_le _, h0, rfl, rfl⟩ ?_
 rintro _ ρ2 _ ⟨j, s, e3, e4, e5, e6, e7, hm8, hj, hs, hinv, rfl⟩
 obtain ⟨ρ9, rfl⟩ := reopen_ex (uc e3 (uc e4 (uc e5 (uc e6 (uc e7 un)))))
 clear e3 e4 e5 e6 e7
 refine J_sub hm8 ?_
 refine J_seq ?_
 refine J_region ?_
 refine JL_pure (v := .bool (decide ((j : Int) < ((l).length : Int)))) rfl (Pu.lss rfl rfl) ?_
 refine JL_nil ?_
 refine J_seq ?_
 refine J_cond (b := decide ((j : Int) < ((l).length : Int))) rfl (fun h10 => ?_) (fun h10 => ?_)
 ·skip
  replace h10 := dt h10
  have h10n : j < (l).length := by omega
  have hlenl := hl.le
  refine J_skip ?_
  refine J_seq ?_
  refine J_block ?_
  refine J_seq ?_
  refine J_region ?_
  refine JL_pure (v := .int .i64 ((j : Int))) rfl (Pu.move rfl) ?_
  refine JL_pure (v := .int .i64 ((j : Int))) rfl (Pu.assign rfl) ?_
  refine JL_nil ?_
  refine J_seq ?_
  refine J_region ?_
  refine JL_pure (v := .func (.func g) ⟨fs⟩ ⟨cv⟩) rfl (Pu.move rfl) ?_
  refine JL_pure (v := v) rfl (Pu.move rfl) ?_
  refine JL_pure (v := .int .i64 ((j : Int))) rfl (Pu.move rfl) ?_
  obtain ⟨b11, o11, cap11, row11, T11, fr11, cs11, hv11, hb11, hs11, hE11⟩ := hl.get j (by first | assumption | omega | decide | simp)
  obtain ⟨ca11, cb11, rfl, hA11, hB11⟩ := hE11
  refine JL_pure (v := .pointer (some ⟨b11, o11 + j * 71, none⟩)) rfl (Pu.idx j Tryz.runUnderlying25 ty34 hv11 rfl rfl (by first | assumption | omega | decide | simp)) ?_
  refine JL_run rfl (Pu_load ty34 rfl (At.im hb11) hs11 ?_)
  refine JL_call1 0 rfl hcall rfl rfl (fun hin => hg _ (List.getElem_mem h10n) _ hs _ _ (Hle.hu _ _) (RC.mono (Hle.hu _ _) (RC_mk hA11 hB11))) rfl ?_
  rintro _ _ ⟨rfl, rfl⟩
  refine JL_nil ?_
  refine J_cond (b := (step ((l)[j]) s).1) rfl (fun h12 => ?_) (fun h12 => ?_)
  ·skip
   refine J_seq ?_
   refine J_region ?_
   refine JL_pure (v := .int .i64 ((j : Int))) rfl (Pu.move rfl) ?_
   refine JL_pure (v := .int .i64 ((j : Int))) rfl (Pu.assign rfl) ?_
   refine JL_nil ?_
   refine J_ret ?_
   refine ⟨.int .i64 ((j : Int)), [Sc (step ((l)[j]) s).2], Ret.one rfl (RV.tmp rfl), (Sk Sub.nil), ?_⟩
   refine ⟨?_, ?_⟩ <;> rw [← hinv, dropc h10n, idxS, if_pos h12]
  ·skip
   refine J_skip ?_
   refine J_region ?_
   refine JL_pure (v := .int .i64 (((j + 1 : Nat) : Int))) rfl (Pu.inc rfl rfl (by omega)) ?_
   refine JL_pure (v := .int .i64 (((j + 1 : Nat) : Int))) rfl (Pu.move rfl) ?_
   refine JL_nil ?_
   refine ⟨_, ?_, (j + 1), ((step ((l)[j]) s).2), rfl, rfl, rfl, rfl, rfl, (Sk Sub.nil), ?_, ?_, ?_, rfl⟩
   ·omega
   ·omega
   ·exact hI _ (List.getElem_mem h10n) s hs h12
   ·rw [dropc h10n, idxS, if_neg (by simp [h12])] at hinv; exact hinv
 ·skip
  replace h10 := df h10
  have h10n : (l).length ≤ j := by omega
  refine J_exit _ rfl ?_
  refine J_seq ?_
  refine J_region ?_
  refine JL_pure (v := .int .i64 (-1)) rfl (Pu.assign rfl) ?_
  refine JL_nil ?_
  refine J_ret ?_
  refine ⟨.int .i64 (-1), [Sc s], Ret.one rfl (RV.tmp rfl), (Sk Sub.nil), ?_⟩
  refine ⟨?_, ?_⟩ <;> rw [← hinv, dropn h10n] <;> rfl
theorem containsP_ct (g : Nat) (fs cv : List Value) (hcall : ∀ args w, (callFunc g args).run Tryz.prog w = .ok (.enter g args) w) {σ : Type} (Sc : σ → Chunk) (Inv : σ → Prop) (step : Pt → σ → Bool × σ) (l : List Pt) (v : Value) (H : Heap) (hl : rdS RP 35 H v l) (s0 : σ) (h0 : Inv s0) (hI : ∀ x ∈ l, ∀ s, Inv s → (step x s).1 = false → Inv (step x s).2) (hg : ∀ x ∈ l, ∀ s, Inv s → ∀ a h, Hle H h → RP h a x → CT Tryz.prog g ⟨fs ++ [.agg ⟨a⟩] ++ cv⟩ [Sc s] h (fun v N => v = .bool (step x s).1 ∧ N = [Sc (step x s).2])) : CT Tryz.prog 33 ⟨[v, .func (.func g) ⟨fs⟩ ⟨cv⟩]⟩ [Sc s0] H (fun v N => v = .bool (anyS step l s0).1 ∧ N = [Sc (anyS step l s0).2]) := by
 refine CT_enter Tryz.func33 rfl rfl ?_
 refine J_seq ?_
 refine J_region ?_
 refine JL_pure (v := .bool (false)) rfl (Pu.assign rfl) ?_
 refine JL_nil ?_
 refine J_seq ?_
 refine J_region ?_
 refine JL_pure (v := v) rfl (Pu.move rfl) ?_
 refine JL_pure (v := .func (.func g) ⟨fs⟩ ⟨cv⟩) rfl (Pu.move rfl) ?_
 refine JL_call1 0 rfl Tryz.call73 rfl rfl (fun hin => idxP_ct g fs cv hcall Sc Inv step _ _ _ (RPs.mono (Hle.hu _ _) hl) s0 h0 hI (fun x hx s hs a h hh ra => hg x hx s hs a h (Hle.trans (Hle.hu _ _) hh) ra)) rfl ?_
 rintro _ _ ⟨rfl, rfl⟩
 refine JL_pure (v := .bool (decide (0 ≤ (idxS step l 0 s0).1))) rfl (Pu.geq rfl rfl) ?_
 refine JL_pure (v := .bool (decide (0 ≤ (idxS step l 0 s0).1))) rfl (Pu.assign rfl) ?_
 refine JL_nil ?_
 refine J_ret ?_
 refine ⟨.bool (decide (0 ≤ (idxS step l 0 s0).1)), [Sc (idxS step l 0 s0).2], Ret.one rfl (RV.tmp rfl), (Sk Sub.nil), ?_⟩
 exact ⟨by rw [(idxS_any step l 0 s0).1], by rw [(idxS_any step l 0 s0).2]⟩
theorem containsT_ct (g : Nat) (fs cv : List Value) (hcall : ∀ args w, (callFunc g args).run Tryz.prog w = .ok (.enter g args) w) {σ : Type} (Sc : σ → Chunk) (Inv : σ → Prop) (step : Tm → σ → Bool × σ) (l : List Tm) (v : Value) (H : Heap) (hl : rdS RT 36 H v l) (s0 : σ) (h0 : Inv s0) (hI : ∀ x ∈ l, ∀ s, Inv s → (step x s).1 = false → Inv (step x s).2) (hg : ∀ x ∈ l, ∀ s, Inv s → ∀ a h, Hle H h → RT h a x → CT Tryz.prog g ⟨fs ++ [.agg ⟨a⟩] ++ cv⟩ [Sc s] h (fun v N => v = .bool (step x s).1 ∧ N = [Sc (step x s).2])) : CT Tryz.prog 35 ⟨[v, .func (.func g) ⟨fs⟩ ⟨cv⟩]⟩ [Sc s0] H (fun v N => v = .bool (anyS step l s0).1 ∧ N = [Sc (anyS step l s0).2]) := by
 refine CT_enter Tryz.func35 rfl rfl ?_
 refine J_seq ?_
 refine J_region ?_
 refine JL_pure (v := .bool (false)) rfl (Pu.assign rfl) ?_
 refine JL_nil ?_
 refine J_seq ?_
 refine J_region ?_
 refine JL_pure (v := v) rfl (Pu.move rfl) ?_
 refine JL_pure (v := .func (.func g) ⟨fs⟩ ⟨cv⟩) rfl (Pu.move rfl) ?_
 refine JL_call1 0 rfl Tryz.call74 rfl rfl (fun hin => idxT_ct g fs cv hcall Sc Inv step _ _ _ (RTs.mono (Hle.hu _ _) hl) s0 h0 hI (fun x hx s hs a h hh ra => hg x hx s hs a h (Hle.trans (Hle.hu _ _) hh) ra)) rfl ?_
 rintro _ _ ⟨rfl, rfl⟩
 refine JL_pure (v := .bool (decide (0 ≤ (idxS step l 0 s0).1))) rfl (Pu.geq rfl rfl) ?_
 refine JL_pure (v := .bool (decide (0 ≤ (idxS step l 0 s0).1))) rfl (Pu.assign rfl) ?_
 refine JL_nil ?_
 refine J_ret ?_
 refine ⟨.bool (decide (0 ≤ (idxS step l 0 s0).1)), [Sc (idxS step l 0 s0).2], Ret.one rfl (RV.tmp rfl), (Sk Sub.nil), ?_⟩
 exact ⟨by rw [(idxS_any step l 0 s0).1], by rw [(idxS_any step l 0 s0).2]⟩
theorem containsC_ct (g : Nat) (fs cv : List Value) (hcall : ∀ args w, (callFunc g args).run Tryz.prog w = .ok (.enter g args) w) {σ : Type} (Sc : σ → Chunk) (Inv : σ → Prop) (step : (Pt × Tm) → σ → Bool × σ) (l : List (Pt × Tm)) (v : Value) (H : Heap) (hl : rdS RC 71 H v l) (s0 : σ) (h0 : Inv s0) (hI : ∀ x ∈ l, ∀ s, Inv s → (step x s).1 = false → Inv (step x s).2) (hg : ∀ x ∈ l, ∀ s, Inv s → ∀ a h, Hle H h → RC h a x → CT Tryz.prog g ⟨fs ++ [.agg ⟨a⟩] ++ cv⟩ [Sc s] h (fun v N => v = .bool (step x s).1 ∧ N = [Sc (step x s).2])) : CT Tryz.prog 36 ⟨[v, .func (.func g) ⟨fs⟩ ⟨cv⟩]⟩ [Sc s0] H (fun v N => v = .bool (anyS step l s0).1 ∧ N = [Sc (anyS step l s0).2]) := by
 refine CT_enter Tryz.func36 rfl rfl ?_
 refine J_seq ?_
 refine J_region ?_
 refine JL_pure (v := .bool (false)) rfl (Pu.assign rfl) ?_
 refine JL_nil ?_
 refine J_seq ?_
 refine J_region ?_
 refine JL_pure (v := v) rfl (Pu.move rfl) ?_
 refine JL_pure (v := .func (.func g) ⟨fs⟩ ⟨cv⟩) rfl (Pu.move rfl) ?_
 refine JL_call1 0 rfl Tryz.call75 rfl rfl (fun hin => idxC_ct g fs cv hcall Sc Inv step _ _ _ (RCs.mono (Hle.hu _ _) hl) s0 h0 hI (fun x hx s hs a h hh ra => hg x hx s hs a h (Hle.trans (Hle.hu _ _) hh) ra)) rfl ?_
 rintro _ _ ⟨rfl, rfl⟩
 refine JL_pure (v := .bool (decide (0 ≤ (idxS step l 0 s0).1))) rfl (Pu.geq rfl rfl) ?_
 refine JL_pure (v := .bool (decide (0 ≤ (idxS step l 0 s0).1))) rfl (Pu.assign rfl) ?_
 refine JL_nil ?_
 refine J_ret ?_
 refine ⟨.bool (decide (0 ≤ (idxS step l 0 s0).1)), [Sc (idxS step l 0 s0).2], Ret.one rfl (RV.tmp rfl), (Sk Sub.nil), ?_⟩
 exact ⟨by rw [(idxS_any step l 0 s0).1], by rw [(idxS_any step l 0 s0).2]⟩
end Go.Proofs.YtdeinimmmjichaaGreat.Hs
/-! Walks, printed by a program of this session's own (gen.py). -/
namespace Go.Proofs.YtdeinimmmjichaaGreat.Hs
open Go Go.Proofs
set_option maxRecDepth 100000
set_option linter.unusedVariables false
set_option linter.unusedSimpArgs false
attribute [local irreducible] JL J CT wlo
theorem greatP_ct : ∀ (p : Pt) (d n : Int) (cs : List Value) (H : Heap) (bN bP : Nat), RP H cs p → 0 ≤ n → n ≤ 400 → H bP = some (.cells ⟨[.func (.func 32) ⟨[]⟩ ⟨[.pointer (some ⟨bN, 0, none⟩), .pointer (some ⟨bP, 0, none⟩)]⟩]⟩ 63 (0, 0)) → CT Tryz.prog 32 ⟨[.agg ⟨cs⟩, .pointer (some ⟨bN, 0, none⟩), .pointer (some ⟨bP, 0, none⟩)]⟩ [[(bN, .cells ⟨[.int .i64 (n)]⟩ 3 (0, 0))]] H (fun v N => v = .bool (cnP stG d p n).1 ∧ N = [[(bN, .cells ⟨[.int .i64 ((cnP stG d p n).2)]⟩ 3 (0, 0))]]) := by
 intro p
 induction p using Pt.ind with
 | h kind num ref kids ih =>
 intro d n cs H bN bP hp hn0 hn1 hP
 obtain ⟨ks, rfl, hk, hn, hks⟩ := RP_mk.1 hp
 refine CT_enter Tryz.func32 rfl rfl ?_
 refine J_seq ?_
 refine J_region ?_
 refine JL_run rfl (Runs_box (l := pkP (kind) (num) (ref) (ks)) rfl rfl fun b1 => ?_)
 refine JL_pure (v := .bool (false)) rfl (Pu.assign rfl) ?_
 refine JL_nil ?_
 refine J_seq ?_
 refine J_region ?_
 refine JL_run rfl (Pu_load1 ty3 rfl (At.bx 1 rfl) rfl ?_)
 refine JL_pure (v := .int .i64 (n + 1)) rfl (Pu.add64 rfl rfl (by first | omega | (constructor <;> omega))) ?_
 refine JL_run rfl (Runs_storeB 1 (vs := [.int .i64 (n + 1)]) (l := [.int .i64 (n + 1)]) ty3 rfl rfl rfl rfl rfl (okc_cons rfl okc_nil) rfl ?_)
 refine JL_nil ?_
 refine J_seq ?_
 refine J_region ?_
 refine JL_run rfl (Pu_load1 ty3 rfl (At.bx 1 rfl) rfl ?_)
 refine JL_pure (v := .bool (decide (400 < n + 1))) rfl (Pu.gtr rfl rfl) ?_
 refine JL_pure (v := .bool (decide (400 < n + 1))) rfl (Pu.move rfl) ?_
 cases h2 : (decide (400 < n + 1)) with
 | true =>
  replace h2 := dt h2
  refine JL_skip rfl ?_
  refine JL_skip rfl ?_
  refine JL_skip rfl ?_
  refine JL_skip rfl ?_
  refine JL_pure (v := .bool (true)) rfl (Pu.pickT rfl rfl) ?_
  refine JL_pure (v := .bool (true)) rfl (Pu.assign rfl) ?_
  refine JL_nil ?_
  refine J_ret ?_
  refine ⟨.bool (true), [[(bN, .cells ⟨[.int .i64 (n + 1)]⟩ 3 (0, 0))]], Ret.one rfl (RV.tmp rfl), (Sd (Sk Sub.nil)), ?_⟩
  refine ⟨?_, ?_⟩ <;> rw [cnP, if_pos (by simp [stG]; omega)]
 | false =>
  replace h2 := df h2
  refine JL_pure (v := .pointer (some ⟨b1, 34, none⟩)) rfl (fa30_3 rfl rfl) ?_
  refine JL_run rfl (Pu_load1 ty28 rfl (At.bx 0 rfl) (pkP_34 ..) ?_)
  refine JL_run rfl (Pu_load1 ty63 rfl (At.im hP) rfl ?_)
  refine JL_call1 1 rfl Tryz.call33 rfl rfl (fun hin => containsP_ct 32 [] [.pointer (some ⟨bN, 0, none⟩), .pointer (some ⟨bP, 0, none⟩)] (fun _ _ => rfl) (fun n => [(bN, .cells ⟨[.int .i64 (n)]⟩ 3 (0, 0))]) (fun n => 0 ≤ n ∧ n ≤ 400) (cnP stG (d + 1)) _ _ _ (RPs.mono (Hle.hu _ _) hks) (n + 1) ⟨by omega, by omega⟩ (fun x hx s hs hf => cnP_keep stG_le x _ s hs.1 hf) (fun x hx s hs a h hh ra => ih x hx (d + 1) s a h bN bP ra hs.1 hs.2 (hh _ _ (Hle.hu _ _ _ _ hP)))) rfl ?_
  rintro _ _ ⟨rfl, rfl⟩
  refine JL_pure (v := .bool ((anyS (cnP stG (d + 1)) (kids) (n + 1)).1)) rfl (Pu.pickF rfl rfl) ?_
  refine JL_pure (v := .bool ((anyS (cnP stG (d + 1)) (kids) (n + 1)).1)) rfl (Pu.assign rfl) ?_
  refine JL_nil ?_
  refine J_ret ?_
  refine ⟨.bool ((anyS (cnP stG (d + 1)) (kids) (n + 1)).1), [[(bN, .cells ⟨[.int .i64 ((anyS (cnP stG (d + 1)) (kids) (n + 1)).2)]⟩ 3 (0, 0))]], Ret.one rfl (RV.tmp rfl), (Sk Sub.nil), ?_⟩
  refine ⟨?_, ?_⟩ <;> rw [cnP, if_neg (by simp [stG]; omega), cnPs_any]
theorem greatC_ct : ∀ (c : Pt × Tm) (d n : Int) (a : List Value) (H : Heap) (bN bW bP : Nat), RC H a c → 0 ≤ n → n ≤ 400 → H bW = some (.cells ⟨[.func (.func 34) ⟨[]⟩ ⟨[.pointer (some ⟨bN, 0, none⟩), .pointer (some ⟨bW, 0, none⟩), .pointer (some ⟨bP, 0, none⟩)]⟩]⟩ 36 (0, 0)) → H bP = some (.cells ⟨[.func (.func 32) ⟨[]⟩ ⟨[.pointer (some ⟨bN, 0, none⟩), .pointer (some ⟨bP, 0, none⟩)]⟩]⟩ 63 (0, 0)) → (∀ s a h, Hle H h → RT h a c.2 → 0 ≤ s → s ≤ 400 → CT Tryz.prog 34 ⟨[.agg ⟨a⟩, .pointer (some ⟨bN, 0, none⟩), .pointer (some ⟨bW, 0, none⟩), .pointer (some ⟨bP, 0, none⟩)]⟩ [[(bN, .cells ⟨[.int .i64 (s)]⟩ 3 (0, 0))]] h (fun v N => v = .bool (cnT stG d c.2 s).1 ∧ N = [[(bN, .cells ⟨[.int .i64 ((cnT stG d c.2 s).2)]⟩ 3 (0, 0))]])) → CT Tryz.prog 37 ⟨[.agg ⟨a⟩, .pointer (some ⟨bP, 0, none⟩), .pointer (some ⟨bW, 0, none⟩)]⟩ [[(bN, .cells ⟨[.int .i64 (n)]⟩ 3 (0, 0))]] H (fun v N => v = .bool (cnC stG d c n).1 ∧ N = [[(bN, .cells ⟨[.int .i64 ((cnC stG d c n).2)]⟩ 3 (0, 0))]]) := by
 intro c d n a H bN bW bP ⟨ca, cb, e1, ra1, ra2⟩ hn0 hn1 hW hP hg
 subst e1
 refine CT_enter Tryz.func37 rfl rfl ?_
 refine J_seq ?_
 refine J_region ?_
 refine JL_run rfl (Runs_box (l := (ca) ++ (cb)) rfl rfl fun b1 => ?_)
 refine JL_pure (v := .bool (false)) rfl (Pu.assign rfl) ?_
 refine JL_nil ?_
 refine J_seq ?_
 refine J_region ?_
 refine JL_run rfl (Pu_load1 ty63 rfl (At.im hP) rfl ?_)
 refine JL_pure (v := .pointer (some ⟨b1, 0, none⟩)) rfl (fa34_0 rfl rfl) ?_
 refine JL_run rfl (Pu_load ty30 rfl (At.bx 0 rfl) (sub_l (RP_len ra1)) ?_)
 refine JL_call1 1 rfl Tryz.call32 rfl rfl (fun hin => greatP_ct _ d _ _ _ bN bP (RP.mono (Hle.hu _ _) ra1) hn0 hn1 (Hle.hu _ _ _ _ hP)) rfl ?_
 rintro _ _ ⟨rfl, rfl⟩
 refine JL_pure (v := .bool ((cnP stG (d) (c.1) (n)).1)) rfl (Pu.move rfl) ?_
 cases h3 : ((cnP stG (d) (c.1) (n)).1) with
 | true =>
  refine JL_skip rfl ?_
  refine JL_skip rfl ?_
  refine JL_skip rfl ?_
  refine JL_skip rfl ?_
  refine JL_pure (v := .bool (true)) rfl (Pu.pickT rfl rfl) ?_
  refine JL_pure (v := .bool (true)) rfl (Pu.assign rfl) ?_
  refine JL_nil ?_
  refine J_ret ?_
  refine ⟨.bool (true), [[(bN, .cells ⟨[.int .i64 ((cnP stG (d) (c.1) (n)).2)]⟩ 3 (0, 0))]], Ret.one rfl (RV.tmp rfl), (Sk Sub.nil), ?_⟩
  refine ⟨?_, ?_⟩ <;> rw [cnC, if_pos h3]
 | false =>
  refine JL_run rfl (Pu_load1 ty36 rfl (At.im hW) rfl ?_)
  refine JL_pure (v := .pointer (some ⟨b1, 35, none⟩)) rfl (fa34_1 rfl rfl) ?_
  refine JL_run rfl (Pu_load ty27 rfl (At.bx 1 rfl) (sub_r (RP_len ra1) (RT_len ra2)) ?_)
  refine JL_call1 0 rfl Tryz.call34 rfl rfl (fun hin => hg _ _ _ (Hle.hu _ _) (RT.mono (Hle.hu _ _) ra2) (cnP_keep stG_le _ _ _ hn0 h3).1 (cnP_keep stG_le _ _ _ hn0 h3).2) rfl ?_
  rintro _ _ ⟨rfl, rfl⟩
  refine JL_pure (v := .bool ((cnT stG (d) (c.2) ((cnP stG (d) (c.1) (n)).2)).1)) rfl (Pu.pickF rfl rfl) ?_
  refine JL_pure (v := .bool ((cnT stG (d) (c.2) ((cnP stG (d) (c.1) (n)).2)).1)) rfl (Pu.assign rfl) ?_
  refine JL_nil ?_
  refine J_ret ?_
  refine ⟨.bool ((cnT stG (d) (c.2) ((cnP stG (d) (c.1) (n)).2)).1), [[(bN, .cells ⟨[.int .i64 ((cnT stG (d) (c.2) ((cnP stG (d) (c.1) (n)).2)).2)]⟩ 3 (0, 0))]], Ret.one rfl (RV.tmp rfl), (Sk Sub.nil), ?_⟩
  refine ⟨?_, ?_⟩ <;> rw [cnC, if_neg (by simp [h3])]
theorem greatT_ct : ∀ (t : Tm) (d n : Int) (cs : List Value) (H : Heap) (bN bW bP : Nat), RT H cs t → 0 ≤ n → n ≤ 400 → H bW = some (.cells ⟨[.func (.func 34) ⟨[]⟩ ⟨[.pointer (some ⟨bN, 0, none⟩), .pointer (some ⟨bW, 0, none⟩), .pointer (some ⟨bP, 0, none⟩)]⟩]⟩ 36 (0, 0)) → H bP = some (.cells ⟨[.func (.func 32) ⟨[]⟩ ⟨[.pointer (some ⟨bN, 0, none⟩), .pointer (some ⟨bP, 0, none⟩)]⟩]⟩ 63 (0, 0)) → CT Tryz.prog 34 ⟨[.agg ⟨cs⟩, .pointer (some ⟨bN, 0, none⟩), .pointer (some ⟨bW, 0, none⟩), .pointer (some ⟨bP, 0, none⟩)]⟩ [[(bN, .cells ⟨[.int .i64 (n)]⟩ 3 (0, 0))]] H (fun v N => v = .bool (cnT stG d t n).1 ∧ N = [[(bN, .cells ⟨[.int .i64 ((cnT stG d t n).2)]⟩ 3 (0, 0))]]) := by
 intro t
 induction t using Tm.ind with
 | h kind num ref kids cases ih ih' =>
 intro d n cs H bN bW bP ht hn0 hn1 hW hP
 obtain ⟨ks, cv, rfl, hk, hn, hks, hcv⟩ := RT_mk.1 ht
 refine CT_enter Tryz.func34 rfl rfl ?_
 refine J_seq ?_
 refine J_region ?_
 refine JL_run rfl (Runs_box (l := pkT (kind) (num) (ref) (ks) (cv)) rfl rfl fun b1 => ?_)
 refine JL_pure (v := .bool (false)) rfl (Pu.assign rfl) ?_
 refine JL_nil ?_
 refine J_seq ?_
 refine J_region ?_
 refine JL_run rfl (Pu_load1 ty3 rfl (At.bx 1 rfl) rfl ?_)
 refine JL_pure (v := .int .i64 (n + 1)) rfl (Pu.add64 rfl rfl (by first | omega | (constructor <;> omega))) ?_
 refine JL_run rfl (Runs_storeB 1 (vs := [.int .i64 (n + 1)]) (l := [.int .i64 (n + 1)]) ty3 rfl rfl rfl rfl rfl (okc_cons rfl okc_nil) rfl ?_)
 refine JL_nil ?_
 refine J_seq ?_
 refine J_region ?_
 refine JL_run rfl (Pu_load1 ty3 rfl (At.bx 1 rfl) rfl ?_)
 refine JL_pure (v := .bool (decide (400 < n + 1))) rfl (Pu.gtr rfl rfl) ?_
 refine JL_pure (v := .bool (decide (400 < n + 1))) rfl (Pu.move rfl) ?_
 cases h2 : (decide (400 < n + 1)) with
 | true =>
  replace h2 := dt h2
  refine JL_skip rfl ?_
  refine JL_skip rfl ?_
  refine JL_skip rfl ?_
  refine JL_skip rfl ?_
  refine JL_pure (v := .bool (true)) rfl (Pu.pickT rfl rfl) ?_
  refine JL_pure (v := .bool (true)) rfl (Pu.move rfl) ?_
  refine JL_skip rfl ?_
  refine JL_skip rfl ?_
  refine JL_skip rfl ?_
  refine JL_skip rfl ?_
  refine JL_pure (v := .bool (true)) rfl (Pu.pickT rfl rfl) ?_
  refine JL_pure (v := .bool (true)) rfl (Pu.assign rfl) ?_
  refine JL_nil ?_
  refine J_ret ?_
  refine ⟨.bool (true), [[(bN, .cells ⟨[.int .i64 (n + 1)]⟩ 3 (0, 0))]], Ret.one rfl (RV.tmp rfl), (Sd (Sk Sub.nil)), ?_⟩
  refine ⟨?_, ?_⟩ <;> rw [cnT, if_pos (by simp [stG]; omega)]
 | false =>
  replace h2 := df h2
  refine JL_pure (v := .pointer (some ⟨b1, 34, none⟩)) rfl (fa27_3 rfl rfl) ?_
  refine JL_run rfl (Pu_load1 ty24 rfl (At.bx 0 rfl) (pkT_34 ..) ?_)
  refine JL_run rfl (Pu_load1 ty36 rfl (At.im hW) rfl ?_)
  refine JL_call1 1 rfl Tryz.call35 rfl rfl (fun hin => containsT_ct 34 [] [.pointer (some ⟨bN, 0, none⟩), .pointer (some ⟨bW, 0, none⟩), .pointer (some ⟨bP, 0, none⟩)] (fun _ _ => rfl) (fun n => [(bN, .cells ⟨[.int .i64 (n)]⟩ 3 (0, 0))]) (fun n => 0 ≤ n ∧ n ≤ 400) (cnT stG (d + 1)) _ _ _ (RTs.mono (Hle.hu _ _) hks) (n + 1) ⟨by omega, by omega⟩ (fun x hx s hs hf => cnT_keep stG_le x _ s hs.1 hf) (fun x hx s hs a h hh ra => ih x hx (d + 1) s a h bN bW bP ra hs.1 hs.2 (hh _ _ (Hle.hu _ _ _ _ hW)) (hh _ _ (Hle.hu _ _ _ _ hP)))) rfl ?_
  rintro _ _ ⟨rfl, rfl⟩
  refine JL_pure (v := .bool ((anyS (cnT stG (d + 1)) (kids) (n + 1)).1)) rfl (Pu.pickF rfl rfl) ?_
  refine JL_pure (v := .bool ((anyS (cnT stG (d + 1)) (kids) (n + 1)).1)) rfl (Pu.move rfl) ?_
  cases h4 : ((anyS (cnT stG (d + 1)) (kids) (n + 1)).1) with
  | true =>
   refine JL_skip rfl ?_
   refine JL_skip rfl ?_
   refine JL_skip rfl ?_
   refine JL_skip rfl ?_
   refine JL_pure (v := .bool (true)) rfl (Pu.pickT rfl rfl) ?_
   refine JL_pure (v := .bool (true)) rfl (Pu.assign rfl) ?_
   refine JL_nil ?_
   refine J_ret ?_
   refine ⟨.bool (true), [[(bN, .cells ⟨[.int .i64 ((anyS (cnT stG (d + 1)) (kids) (n + 1)).2)]⟩ 3 (0, 0))]], Ret.one rfl (RV.tmp rfl), (Sk Sub.nil), ?_⟩
   refine ⟨?_, ?_⟩ <;> rw [cnT, if_neg (by simp [stG]; omega), cnTs_any, if_pos h4]
  | false =>
   refine JL_pure (v := .pointer (some ⟨b1, 35, none⟩)) rfl (fa27_4 rfl rfl) ?_
   refine JL_run rfl (Pu_load1 ty25 rfl (At.bx 1 rfl) (pkT_35 ..) ?_)
   refine JL_pure (v := .func (.func 37) ⟨[]⟩ ⟨[.pointer (some ⟨bP, 0, none⟩), .pointer (some ⟨bW, 0, none⟩)]⟩) rfl (Pu.makeFunc rfl rfl) ?_
   refine JL_call1 0 rfl Tryz.call36 rfl rfl (fun hin => containsC_ct 37 [] [.pointer (some ⟨bP, 0, none⟩), .pointer (some ⟨bW, 0, none⟩)] (fun _ _ => rfl) (fun n => [(bN, .cells ⟨[.int .i64 (n)]⟩ 3 (0, 0))]) (fun n => 0 ≤ n ∧ n ≤ 400) (cnC stG (d + 1)) _ _ _ (RCs.mono (Hle.hu _ _) hcv) ((anyS (cnT stG (d + 1)) (kids) (n + 1)).2) (anyT_keep stG_le _ _ _ (by omega) (by omega) h4) (fun x hx s hs hf => cnC_keep stG_le x _ s hs.1 hf) (fun x hx s hs a h hh ra => greatC_ct x (d + 1) s a h bN bW bP ra hs.1 hs.2 (hh _ _ (Hle.hu _ _ _ _ hW)) (hh _ _ (Hle.hu _ _ _ _ hP)) (fun s' a' h' hh' ra' k1 k2 => ih' x hx (d + 1) s' a' h' bN bW bP ra' k1 k2 (hh' _ _ (hh _ _ (Hle.hu _ _ _ _ hW))) (hh' _ _ (hh _ _ (Hle.hu _ _ _ _ hP)))))) rfl ?_
   rintro _ _ ⟨rfl, rfl⟩
   refine JL_pure (v := .bool ((anyS (cnC stG (d + 1)) (cases) ((anyS (cnT stG (d + 1)) (kids) (n + 1)).2)).1)) rfl (Pu.pickF rfl rfl) ?_
   refine JL_pure (v := .bool ((anyS (cnC stG (d + 1)) (cases) ((anyS (cnT stG (d + 1)) (kids) (n + 1)).2)).1)) rfl (Pu.assign rfl) ?_
   refine JL_nil ?_
   refine J_ret ?_
   refine ⟨.bool ((anyS (cnC stG (d + 1)) (cases) ((anyS (cnT stG (d + 1)) (kids) (n + 1)).2)).1), [[(bN, .cells ⟨[.int .i64 ((anyS (cnC stG (d + 1)) (cases) ((anyS (cnT stG (d + 1)) (kids) (n + 1)).2)).2)]⟩ 3 (0, 0))]], Ret.one rfl (RV.tmp rfl), (Sk Sub.nil), ?_⟩
   refine ⟨?_, ?_⟩ <;> rw [cnT, if_neg (by simp [stG]; omega), cnTs_any, if_neg (by simp [h4]), cnCs_any]
theorem great_ct (t : Tm) (cs : List Value) (H : Heap) (ht : RT H cs t) : CT Tryz.prog 8 ⟨[.agg ⟨cs⟩]⟩ [] H (fun v N => v = .bool (cnT stG 0 t 0).1 ∧ N = []) := by
 refine CT_enter Tryz.func8 rfl rfl ?_
 refine J_seq ?_
 refine J_region ?_
 refine JL_run rfl (Runs_box (l := cs) rfl rfl fun b1 => ?_)
 refine JL_pure (v := .bool (false)) rfl (Pu.assign rfl) ?_
 refine JL_nil ?_
 refine J_seq ?_
 refine J_region ?_
 refine JL_run rfl (Runs_alloc (l := [.int .i64 (0)]) Tryz.zeroValue3 rfl fun b2 => ?_)
 refine JL_run rfl (Runs_storeB 0 (vs := [.int .i64 (0)]) (l := [.int .i64 (0)]) ty3 rfl rfl rfl rfl rfl (okc_cons rfl okc_nil) rfl ?_)
 refine JL_nil ?_
 refine J_seq ?_
 refine J_region ?_
 refine JL_run rfl (Runs_alloc (l := [.nilFunc]) Tryz.zeroValue63 rfl fun b3 => ?_)
 refine JL_nil ?_
 refine J_seq ?_
 refine J_region ?_
 refine JL_pure (v := .func (.func 32) ⟨[]⟩ ⟨[.pointer (some ⟨b2, 0, none⟩), .pointer (some ⟨b3, 0, none⟩)]⟩) rfl (Pu.makeFunc rfl rfl) ?_
 refine JL_run rfl (Runs_storeB 0 (vs := [.func (.func 32) ⟨[]⟩ ⟨[.pointer (some ⟨b2, 0, none⟩), .pointer (some ⟨b3, 0, none⟩)]⟩]) (l := [.func (.func 32) ⟨[]⟩ ⟨[.pointer (some ⟨b2, 0, none⟩), .pointer (some ⟨b3, 0, none⟩)]⟩]) ty63 rfl rfl rfl rfl rfl (okc_cons rfl okc_nil) rfl ?_)
 refine JL_nil ?_
 refine J_seq ?_
 refine J_region ?_
 refine JL_run rfl (Runs_alloc (l := [.nilFunc]) Tryz.zeroValue36 rfl fun b4 => ?_)
 refine JL_nil ?_
 refine J_seq ?_
 refine J_region ?_
 refine JL_pure (v := .func (.func 34) ⟨[]⟩ ⟨[.pointer (some ⟨b2, 0, none⟩), .pointer (some ⟨b4, 0, none⟩), .pointer (some ⟨b3, 0, none⟩)]⟩) rfl (Pu.makeFunc rfl rfl) ?_
 refine JL_run rfl (Runs_storeB 0 (vs := [.func (.func 34) ⟨[]⟩ ⟨[.pointer (some ⟨b2, 0, none⟩), .pointer (some ⟨b4, 0, none⟩), .pointer (some ⟨b3, 0, none⟩)]⟩]) (l := [.func (.func 34) ⟨[]⟩ ⟨[.pointer (some ⟨b2, 0, none⟩), .pointer (some ⟨b4, 0, none⟩), .pointer (some ⟨b3, 0, none⟩)]⟩]) ty36 rfl rfl rfl rfl rfl (okc_cons rfl okc_nil) rfl ?_)
 refine JL_nil ?_
 refine J_seq ?_
 refine J_region ?_
 refine JL_run rfl (Pu_load1 ty36 rfl (At.bx 0 rfl) rfl ?_)
 refine JL_run rfl (Pu_load ty27 rfl (At.bx 3 rfl) (sub_a (RT_len ht)) ?_)
 refine JL_call1 2 rfl Tryz.call34 rfl rfl (fun hin => greatT_ct _ 0 _ _ _ _ _ _ (RT.mono (Hle.hu _ _) ht) (by decide) (by decide) (hin 0 _ rfl _ _ List.mem_cons_self) (hin 1 _ rfl _ _ List.mem_cons_self)) rfl ?_
 rintro _ _ ⟨rfl, rfl⟩
 refine JL_pure (v := .bool ((cnT stG 0 (t) 0).1)) rfl (Pu.assign rfl) ?_
 refine JL_nil ?_
 refine J_ret ?_
 refine ⟨.bool ((cnT stG 0 (t) 0).1), [], Ret.one rfl (RV.tmp rfl), Sub.nil, ?_⟩
 exact ⟨rfl, rfl⟩
end Go.Proofs.YtdeinimmmjichaaGreat.Hs
/-! Walks, printed by a program of this session's own (gen.py). -/
namespace Go.Proofs.YtdeinimmmjichaaGreat.Hs
open Go Go.Proofs
set_option maxRecDepth 100000
set_option linter.unusedVariables false
set_option linter.unusedSimpArgs false
attribute [local irreducible] JL J CT wlo
theorem longPK_ct : ∀ (x : Pt) (d s : Int) (a : List Value) (H : Heap) (bL bA bD : Nat), RP H a x → H bA = some (.cells ⟨[.pointer (some ⟨bL, 0, none⟩)]⟩ 86 (0, 0)) → H bD = some (.cells ⟨[.int .i64 d]⟩ 3 (0, 0)) → 0 ≤ d → d ≤ 100 → (∀ h a, Hle H h → RP h a x → CT Tryz.prog 90 ⟨[.pointer (some ⟨bL, 0, none⟩), .agg ⟨a⟩, .int .i64 (d + 1)]⟩ [[(bL, .cells ⟨[.int .i64 (s)]⟩ 88 (0, 0))]] h (fun v N => v = .bool (cnP stL (d + 1) x s).1 ∧ N = [[(bL, .cells ⟨[.int .i64 ((cnP stL (d + 1) x s).2)]⟩ 88 (0, 0))]])) → CT Tryz.prog 108 ⟨[.agg ⟨a⟩, .pointer (some ⟨bA, 0, none⟩), .pointer (some ⟨bD, 0, none⟩)]⟩ [[(bL, .cells ⟨[.int .i64 (s)]⟩ 88 (0, 0))]] H (fun v N => v = .bool (cnP stL (d + 1) x s).1 ∧ N = [[(bL, .cells ⟨[.int .i64 ((cnP stL (d + 1) x s).2)]⟩ 88 (0, 0))]]) := by
 intro x d s a H bL bA bD ra hH1 hH5 hd0 hd1 hg
 refine CT_enter Tryz.func108 rfl rfl ?_
 refine J_seq ?_
 refine J_region ?_
 refine JL_run rfl (Runs_box (l := a) rfl rfl fun b1 => ?_)
 refine JL_pure (v := .bool (false)) rfl (Pu.assign rfl) ?_
 refine JL_nil ?_
 refine J_seq ?_
 refine J_region ?_
 refine JL_run rfl (Pu_load1 ty86 rfl (At.im hH1) rfl ?_)
 refine JL_run rfl (Pu_load ty30 rfl (At.bx 0 rfl) (sub_a (RP_len ra)) ?_)
 refine JL_run rfl (Pu_load1 ty3 rfl (At.im hH5) rfl ?_)
 refine JL_pure (v := .int .i64 (d + 1)) rfl (Pu.add64 rfl rfl (by first | omega | (constructor <;> omega))) ?_
 refine JL_call1 1 rfl Tryz.call90 rfl rfl (fun hin => hg _ _ (Hle.hu _ _) (RP.mono (Hle.hu _ _) ra)) rfl ?_
 rintro _ _ ⟨rfl, rfl⟩
 refine JL_pure (v := .bool ((cnP stL (d + 1) (x) (s)).1)) rfl (Pu.assign rfl) ?_
 refine JL_nil ?_
 refine J_ret ?_
 refine ⟨.bool ((cnP stL (d + 1) (x) (s)).1), [[(bL, .cells ⟨[.int .i64 ((cnP stL (d + 1) (x) (s)).2)]⟩ 88 (0, 0))]], Ret.one rfl (RV.tmp rfl), (Sk Sub.nil), ?_⟩
 exact ⟨rfl, rfl⟩
theorem longTK_ct : ∀ (x : Tm) (d s : Int) (a : List Value) (H : Heap) (bL bA bD : Nat), RT H a x → H bA = some (.cells ⟨[.pointer (some ⟨bL, 0, none⟩)]⟩ 86 (0, 0)) → H bD = some (.cells ⟨[.int .i64 d]⟩ 3 (0, 0)) → 0 ≤ d → d ≤ 100 → (∀ h a, Hle H h → RT h a x → CT Tryz.prog 51 ⟨[.pointer (some ⟨bL, 0, none⟩), .agg ⟨a⟩, .int .i64 (d + 1)]⟩ [[(bL, .cells ⟨[.int .i64 (s)]⟩ 88 (0, 0))]] h (fun v N => v = .bool (cnT stL (d + 1) x s).1 ∧ N = [[(bL, .cells ⟨[.int .i64 ((cnT stL (d + 1) x s).2)]⟩ 88 (0, 0))]])) → CT Tryz.prog 88 ⟨[.agg ⟨a⟩, .pointer (some ⟨bA, 0, none⟩), .pointer (some ⟨bD, 0, none⟩)]⟩ [[(bL, .cells ⟨[.int .i64 (s)]⟩ 88 (0, 0))]] H (fun v N => v = .bool (cnT stL (d + 1) x s).1 ∧ N = [[(bL, .cells ⟨[.int .i64 ((cnT stL (d + 1) x s).2)]⟩ 88 (0, 0))]]) := by
 intro x d s a H bL bA bD ra hH1 hH5 hd0 hd1 hg
 refine CT_enter Tryz.func88 rfl rfl ?_
 refine J_seq ?_
 refine J_region ?_
 refine JL_run rfl (Runs_box (l := a) rfl rfl fun b1 => ?_)
 refine JL_pure (v := .bool (false)) rfl (Pu.assign rfl) ?_
 refine JL_nil ?_
 refine J_seq ?_
 refine J_region ?_
 refine JL_run rfl (Pu_load1 ty86 rfl (At.im hH1) rfl ?_)
 refine JL_run rfl (Pu_load ty27 rfl (At.bx 0 rfl) (sub_a (RT_len ra)) ?_)
 refine JL_run rfl (Pu_load1 ty3 rfl (At.im hH5) rfl ?_)
 refine JL_pure (v := .int .i64 (d + 1)) rfl (Pu.add64 rfl rfl (by first | omega | (constructor <;> omega))) ?_
 refine JL_call1 1 rfl Tryz.call51 rfl rfl (fun hin => hg _ _ (Hle.hu _ _) (RT.mono (Hle.hu _ _) ra)) rfl ?_
 rintro _ _ ⟨rfl, rfl⟩
 refine JL_pure (v := .bool ((cnT stL (d + 1) (x) (s)).1)) rfl (Pu.assign rfl) ?_
 refine JL_nil ?_
 refine J_ret ?_
 refine ⟨.bool ((cnT stL (d + 1) (x) (s)).1), [[(bL, .cells ⟨[.int .i64 ((cnT stL (d + 1) (x) (s)).2)]⟩ 88 (0, 0))]], Ret.one rfl (RV.tmp rfl), (Sk Sub.nil), ?_⟩
 exact ⟨rfl, rfl⟩
theorem longP_ct : ∀ (p : Pt) (d n : Int) (cs : List Value) (H : Heap) (bL : Nat), RP H cs p → 0 ≤ n → n ≤ 300 → 0 ≤ d → d ≤ 61 → CT Tryz.prog 90 ⟨[.pointer (some ⟨bL, 0, none⟩), .agg ⟨cs⟩, .int .i64 d]⟩ [[(bL, .cells ⟨[.int .i64 (n)]⟩ 88 (0, 0))]] H (fun v N => v = .bool (cnP stL d p n).1 ∧ N = [[(bL, .cells ⟨[.int .i64 ((cnP stL d p n).2)]⟩ 88 (0, 0))]]) := by
 intro p
 induction p using Pt.ind with
 | h kind num ref kids ih =>
 intro d n cs H bL hp hn0 hn1 hd0 hd1
 obtain ⟨ks, rfl, hk, hn, hks⟩ := RP_mk.1 hp
 refine CT_enter Tryz.func90 rfl rfl ?_
 refine J_seq ?_
 refine J_region ?_
 refine JL_run rfl (Runs_box (l := [.pointer (some ⟨bL, 0, none⟩)]) rfl rfl fun b1 => ?_)
 refine JL_run rfl (Runs_box (l := pkP (kind) (num) (ref) (ks)) rfl rfl fun b2 => ?_)
 refine JL_run rfl (Runs_box (l := [.int .i64 (d)]) rfl rfl fun b3 => ?_)
 refine JL_pure (v := .bool (false)) rfl (Pu.assign rfl) ?_
 refine JL_nil ?_
 refine J_seq ?_
 refine J_seq ?_
 refine J_region ?_
 refine JL_run rfl (Pu_load1 ty86 rfl (At.bx 2 rfl) rfl ?_)
 refine JL_pure (v := .pointer (some ⟨bL, 0, none⟩)) rfl (Pu.nilCheck rfl) ?_
 refine JL_pure (v := .pointer (some ⟨bL, 0, none⟩)) rfl (fa88_0 rfl rfl) ?_
 refine JL_run rfl (Pu_load1 ty3 rfl (At.bx 3 rfl) rfl ?_)
 refine JL_pure (v := .int .i64 (n + 1)) rfl (Pu.add64 rfl rfl (by first | omega | (constructor <;> omega))) ?_
 refine JL_pure (v := .pointer (some ⟨bL, 0, none⟩)) rfl (Pu.nilCheck rfl) ?_
 refine JL_pure (v := .pointer (some ⟨bL, 0, none⟩)) rfl (fa88_0 rfl rfl) ?_
 refine JL_run rfl (Runs_storeB 3 (vs := [.int .i64 (n + 1)]) (l := [.int .i64 (n + 1)]) ty3 rfl rfl rfl rfl rfl (okc_cons rfl okc_nil) rfl ?_)
 refine JL_nil ?_
 refine J_cut (fun ρ M => ρ 3 = .pointer (some ⟨b1, 0, none⟩) ∧ ρ 4 = .pointer (some ⟨b2, 0, none⟩) ∧ ρ 5 = .pointer (some ⟨b3, 0, none⟩) ∧ ρ 6 = .bool (false) ∧ ρ 22 = .bool ((decide (300 < n + 1)) || (decide (60 < d))) ∧ M = [[(b3, .cells ⟨[.int .i64 (d)]⟩ 3 (0, 0))], [(b2, .cells ⟨pkP (kind) (num) (ref) (ks)⟩ 30 (0, 0))], [(b1, .cells ⟨[.pointer (some ⟨bL, 0, none⟩)]⟩ 86 (0, 0))], [(bL, .cells ⟨[.int .i64 (n + 1)]⟩ 88 (0, 0))]]) ?_ ?_
 ·refine J_region ?_
  refine JL_run rfl (Pu_load1 ty86 rfl (At.bx 2 rfl) rfl ?_)
  refine JL_pure (v := .pointer (some ⟨bL, 0, none⟩)) rfl (Pu.nilCheck rfl) ?_
  refine JL_pure (v := .pointer (some ⟨bL, 0, none⟩)) rfl (fa88_0 rfl rfl) ?_
  refine JL_run rfl (Pu_load1 ty3 rfl (At.bx 3 rfl) rfl ?_)
  refine JL_pure (v := .bool (decide (300 < n + 1))) rfl (Pu.gtr rfl rfl) ?_
  refine JL_pure (v := .bool (decide (300 < n + 1))) rfl (Pu.move rfl) ?_
  cases h4 : (decide (300 < n + 1)) with
  | true =>
   replace h4 := dt h4
   refine JL_skip rfl ?_
   refine JL_skip rfl ?_
   refine JL_pure (v := .bool (true)) rfl (Pu.pickT rfl rfl) ?_
   refine JL_nil ?_
   first | exact ⟨rfl, rfl, rfl, rfl, rfl, rfl⟩ | (exfalso; omega)
  | false =>
   replace h4 := df h4
   refine JL_run rfl (Pu_load1 ty3 rfl (At.bx 0 rfl) rfl ?_)
   refine JL_pure (v := .bool (decide (60 < d))) rfl (Pu.gtr rfl rfl) ?_
   refine JL_pure (v := .bool (decide (60 < d))) rfl (Pu.pickF rfl rfl) ?_
   refine JL_nil ?_
   first | exact ⟨rfl, rfl, rfl, rfl, rfl, rfl⟩ | (exfalso; omega)
 ·rintro ρ5 _ ⟨e6, e7, e8, e9, e10, rfl⟩
  obtain ⟨ρ11, rfl⟩ := reopen_ex (uc e6 (uc e7 (uc e8 (uc e9 (uc e10 un)))))
  clear e6 e7 e8 e9 e10
  refine J_cond (b := (decide (300 < n + 1)) || (decide (60 < d))) rfl (fun h12 => ?_) (fun h12 => ?_)
  ·skip
   refine J_seq ?_
   refine J_region ?_
   refine JL_pure (v := .bool (true)) rfl (Pu.assign rfl) ?_
   refine JL_nil ?_
   refine J_ret ?_
   refine ⟨.bool (true), [[(bL, .cells ⟨[.int .i64 (n + 1)]⟩ 88 (0, 0))]], Ret.one rfl (RV.tmp rfl), (Sd (Sd (Sd (Sk Sub.nil)))), ?_⟩
   refine ⟨?_, ?_⟩ <;> rw [cnP, if_pos (by simpa [stL] using h12)]
  ·skip
   obtain ⟨h12a, h12b⟩ := orF h12
   replace h12a := df h12a
   replace h12b := df h12b
   refine J_skip ?_
   refine J_seq ?_
   refine J_region ?_
   refine JL_pure (v := .pointer (some ⟨b2, 34, none⟩)) rfl (fa30_3 rfl rfl) ?_
   refine JL_run rfl (Pu_load1 ty28 rfl (At.bx 1 rfl) (pkP_34 ..) ?_)
   refine JL_pure (v := .func (.func 108) ⟨[]⟩ ⟨[.pointer (some ⟨b1, 0, none⟩), .pointer (some ⟨b3, 0, none⟩)]⟩) rfl (Pu.makeFunc rfl rfl) ?_
   refine JL_call1 3 rfl Tryz.call33 rfl rfl (fun hin => containsP_ct 108 [] [.pointer (some ⟨b1, 0, none⟩), .pointer (some ⟨b3, 0, none⟩)] (fun _ _ => rfl) (fun n => [(bL, .cells ⟨[.int .i64 (n)]⟩ 88 (0, 0))]) (fun n => 0 ≤ n ∧ n ≤ 300) (cnP stL (d + 1)) _ _ _ (RPs.mono (Hle.hu _ _) hks) (n + 1) ⟨by omega, by omega⟩ (fun x hx s hs hf => cnP_keep stL_le x _ s hs.1 hf) (fun x hx s hs a h hh ra => longPK_ct x d s a h bL b1 b3 ra (hh _ _ (hin 2 _ rfl _ _ List.mem_cons_self)) (hh _ _ (hin 0 _ rfl _ _ List.mem_cons_self)) (by omega) (by omega) (fun h' a' hh' ra' => ih x hx (d + 1) s a' h' bL ra' hs.1 hs.2 (by omega) (by omega)))) rfl ?_
   rintro _ _ ⟨rfl, rfl⟩
   refine JL_pure (v := .bool ((anyS (cnP stL (d + 1)) (kids) (n + 1)).1)) rfl (Pu.assign rfl) ?_
   refine JL_nil ?_
   refine J_ret ?_
   refine ⟨.bool ((anyS (cnP stL (d + 1)) (kids) (n + 1)).1), [[(bL, .cells ⟨[.int .i64 ((anyS (cnP stL (d + 1)) (kids) (n + 1)).2)]⟩ 88 (0, 0))]], Ret.one rfl (RV.tmp rfl), (Sk Sub.nil), ?_⟩
   refine ⟨?_, ?_⟩ <;> rw [cnP, if_neg (by simp [stL]; omega), cnPs_any]
theorem longC_ct : ∀ (c : Pt × Tm) (d n : Int) (a : List Value) (H : Heap) (bL bA bD bK : Nat), RC H a c → 0 ≤ n → n ≤ 300 → 0 ≤ d → d ≤ 60 → H bA = some (.cells ⟨[.pointer (some ⟨bL, 0, none⟩)]⟩ 86 (0, 0)) → H bD = some (.cells ⟨[.int .i64 d]⟩ 3 (0, 0)) → H bK = some (.cells ⟨[.func (.func 88) ⟨[]⟩ ⟨[.pointer (some ⟨bA, 0, none⟩), .pointer (some ⟨bD, 0, none⟩)]⟩]⟩ 36 (0, 0)) → (∀ s a h, Hle H h → RT h a c.2 → 0 ≤ s → s ≤ 300 → CT Tryz.prog 51 ⟨[.pointer (some ⟨bL, 0, none⟩), .agg ⟨a⟩, .int .i64 (d + 1)]⟩ [[(bL, .cells ⟨[.int .i64 (s)]⟩ 88 (0, 0))]] h (fun v N => v = .bool (cnT stL (d + 1) c.2 s).1 ∧ N = [[(bL, .cells ⟨[.int .i64 ((cnT stL (d + 1) c.2 s).2)]⟩ 88 (0, 0))]])) → CT Tryz.prog 89 ⟨[.agg ⟨a⟩, .pointer (some ⟨bA, 0, none⟩), .pointer (some ⟨bD, 0, none⟩), .pointer (some ⟨bK, 0, none⟩)]⟩ [[(bL, .cells ⟨[.int .i64 (n)]⟩ 88 (0, 0))]] H (fun v N => v = .bool (cnC stL (d + 1) c n).1 ∧ N = [[(bL, .cells ⟨[.int .i64 ((cnC stL (d + 1) c n).2)]⟩ 88 (0, 0))]]) := by
 intro c d n a H bL bA bD bK ⟨ca, cb, e1, ra1, ra2⟩ hn0 hn1 hd0 hd1 hH1 hH5 hH7 hg
 subst e1
 refine CT_enter Tryz.func89 rfl rfl ?_
 refine J_seq ?_
 refine J_region ?_
 refine JL_run rfl (Runs_box (l := (ca) ++ (cb)) rfl rfl fun b1 => ?_)
 refine JL_pure (v := .bool (false)) rfl (Pu.assign rfl) ?_
 refine JL_nil ?_
 refine J_seq ?_
 refine J_region ?_
 refine JL_run rfl (Pu_load1 ty86 rfl (At.im hH1) rfl ?_)
 refine JL_pure (v := .pointer (some ⟨b1, 0, none⟩)) rfl (fa34_0 rfl rfl) ?_
 refine JL_run rfl (Pu_load ty30 rfl (At.bx 0 rfl) (sub_l (RP_len ra1)) ?_)
 refine JL_run rfl (Pu_load1 ty3 rfl (At.im hH5) rfl ?_)
 refine JL_pure (v := .int .i64 (d + 1)) rfl (Pu.add64 rfl rfl (by first | omega | (constructor <;> omega))) ?_
 refine JL_call1 1 rfl Tryz.call90 rfl rfl (fun hin => longP_ct _ _ _ _ _ _ (RP.mono (Hle.hu _ _) ra1) (by omega) (by omega) (by omega) (by omega)) rfl ?_
 rintro _ _ ⟨rfl, rfl⟩
 refine JL_pure (v := .bool ((cnP stL (d + 1) (c.1) (n)).1)) rfl (Pu.move rfl) ?_
 cases h3 : ((cnP stL (d + 1) (c.1) (n)).1) with
 | true =>
  refine JL_skip rfl ?_
  refine JL_skip rfl ?_
  refine JL_skip rfl ?_
  refine JL_skip rfl ?_
  refine JL_pure (v := .bool (true)) rfl (Pu.pickT rfl rfl) ?_
  refine JL_pure (v := .bool (true)) rfl (Pu.assign rfl) ?_
  refine JL_nil ?_
  refine J_ret ?_
  refine ⟨.bool (true), [[(bL, .cells ⟨[.int .i64 ((cnP stL (d + 1) (c.1) (n)).2)]⟩ 88 (0, 0))]], Ret.one rfl (RV.tmp rfl), (Sk Sub.nil), ?_⟩
  refine ⟨?_, ?_⟩ <;> rw [cnC, if_pos h3]
 | false =>
  refine JL_run rfl (Pu_load1 ty36 rfl (At.im hH7) rfl ?_)
  refine JL_pure (v := .pointer (some ⟨b1, 35, none⟩)) rfl (fa34_1 rfl rfl) ?_
  refine JL_run rfl (Pu_load ty27 rfl (At.bx 1 rfl) (sub_r (RP_len ra1) (RT_len ra2)) ?_)
  refine JL_call1 0 rfl Tryz.call88 rfl rfl (fun hin => longTK_ct _ d _ _ _ bL bA bD (RT.mono (Hle.hu _ _) ra2) (Hle.hu _ _ _ _ hH1) (Hle.hu _ _ _ _ hH5) (by omega) (by omega) (fun h' a' hh' ra' => hg _ _ _ (Hle.trans (Hle.hu _ _) hh') ra' (cnP_keep stL_le _ _ _ hn0 h3).1 (cnP_keep stL_le _ _ _ hn0 h3).2)) rfl ?_
  rintro _ _ ⟨rfl, rfl⟩
  refine JL_pure (v := .bool ((cnT stL (d + 1) (c.2) ((cnP stL (d + 1) (c.1) (n)).2)).1)) rfl (Pu.pickF rfl rfl) ?_
  refine JL_pure (v := .bool ((cnT stL (d + 1) (c.2) ((cnP stL (d + 1) (c.1) (n)).2)).1)) rfl (Pu.assign rfl) ?_
  refine JL_nil ?_
  refine J_ret ?_
  refine ⟨.bool ((cnT stL (d + 1) (c.2) ((cnP stL (d + 1) (c.1) (n)).2)).1), [[(bL, .cells ⟨[.int .i64 ((cnT stL (d + 1) (c.2) ((cnP stL (d + 1) (c.1) (n)).2)).2)]⟩ 88 (0, 0))]], Ret.one rfl (RV.tmp rfl), (Sk Sub.nil), ?_⟩
  refine ⟨?_, ?_⟩ <;> rw [cnC, if_neg (by simp [h3])]
theorem longT_ct : ∀ (t : Tm) (d n : Int) (cs : List Value) (H : Heap) (bL : Nat), RT H cs t → 0 ≤ n → n ≤ 300 → 0 ≤ d → d ≤ 61 → CT Tryz.prog 51 ⟨[.pointer (some ⟨bL, 0, none⟩), .agg ⟨cs⟩, .int .i64 d]⟩ [[(bL, .cells ⟨[.int .i64 (n)]⟩ 88 (0, 0))]] H (fun v N => v = .bool (cnT stL d t n).1 ∧ N = [[(bL, .cells ⟨[.int .i64 ((cnT stL d t n).2)]⟩ 88 (0, 0))]]) := by
 intro t
 induction t using Tm.ind with
 | h kind num ref kids cases ih ih' =>
 intro d n cs H bL ht hn0 hn1 hd0 hd1
 obtain ⟨ks, cv, rfl, hk, hn, hks, hcv⟩ := RT_mk.1 ht
 refine CT_enter Tryz.func51 rfl rfl ?_
 refine J_seq ?_
 refine J_region ?_
 refine JL_run rfl (Runs_box (l := [.pointer (some ⟨bL, 0, none⟩)]) rfl rfl fun b1 => ?_)
 refine JL_run rfl (Runs_box (l := pkT (kind) (num) (ref) (ks) (cv)) rfl rfl fun b2 => ?_)
 refine JL_run rfl (Runs_box (l := [.int .i64 (d)]) rfl rfl fun b3 => ?_)
 refine JL_pure (v := .bool (false)) rfl (Pu.assign rfl) ?_
 refine JL_nil ?_
 refine J_seq ?_
 refine J_seq ?_
 refine J_region ?_
 refine JL_run rfl (Pu_load1 ty86 rfl (At.bx 2 rfl) rfl ?_)
 refine JL_pure (v := .pointer (some ⟨bL, 0, none⟩)) rfl (Pu.nilCheck rfl) ?_
 refine JL_pure (v := .pointer (some ⟨bL, 0, none⟩)) rfl (fa88_0 rfl rfl) ?_
 refine JL_run rfl (Pu_load1 ty3 rfl (At.bx 3 rfl) rfl ?_)
 refine JL_pure (v := .int .i64 (n + 1)) rfl (Pu.add64 rfl rfl (by first | omega | (constructor <;> omega))) ?_
 refine JL_pure (v := .pointer (some ⟨bL, 0, none⟩)) rfl (Pu.nilCheck rfl) ?_
 refine JL_pure (v := .pointer (some ⟨bL, 0, none⟩)) rfl (fa88_0 rfl rfl) ?_
 refine JL_run rfl (Runs_storeB 3 (vs := [.int .i64 (n + 1)]) (l := [.int .i64 (n + 1)]) ty3 rfl rfl rfl rfl rfl (okc_cons rfl okc_nil) rfl ?_)
 refine JL_nil ?_
 refine J_cut (fun ρ M => ρ 3 = .pointer (some ⟨b1, 0, none⟩) ∧ ρ 4 = .pointer (some ⟨b2, 0, none⟩) ∧ ρ 5 = .pointer (some ⟨b3, 0, none⟩) ∧ ρ 6 = .bool (false) ∧ ρ 23 = .bool ((decide (300 < n + 1)) || (decide (60 < d))) ∧ M = [[(b3, .cells ⟨[.int .i64 (d)]⟩ 3 (0, 0))], [(b2, .cells ⟨pkT (kind) (num) (ref) (ks) (cv)⟩ 27 (0, 0))], [(b1, .cells ⟨[.pointer (some ⟨bL, 0, none⟩)]⟩ 86 (0, 0))], [(bL, .cells ⟨[.int .i64 (n + 1)]⟩ 88 (0, 0))]]) ?_ ?_
 ·refine J_region ?_
  refine JL_run rfl (Pu_load1 ty86 rfl (At.bx 2 rfl) rfl ?_)
  refine JL_pure (v := .pointer (some ⟨bL, 0, none⟩)) rfl (Pu.nilCheck rfl) ?_
  refine JL_pure (v := .pointer (some ⟨bL, 0, none⟩)) rfl (fa88_0 rfl rfl) ?_
  refine JL_run rfl (Pu_load1 ty3 rfl (At.bx 3 rfl) rfl ?_)
  refine JL_pure (v := .bool (decide (300 < n + 1))) rfl (Pu.gtr rfl rfl) ?_
  refine JL_pure (v := .bool (decide (300 < n + 1))) rfl (Pu.move rfl) ?_
  cases h4 : (decide (300 < n + 1)) with
  | true =>
   replace h4 := dt h4
   refine JL_skip rfl ?_
   refine JL_skip rfl ?_
   refine JL_pure (v := .bool (true)) rfl (Pu.pickT rfl rfl) ?_
   refine JL_nil ?_
   first | exact ⟨rfl, rfl, rfl, rfl, rfl, rfl⟩ | (exfalso; omega)
  | false =>
   replace h4 := df h4
   refine JL_run rfl (Pu_load1 ty3 rfl (At.bx 0 rfl) rfl ?_)
   refine JL_pure (v := .bool (decide (60 < d))) rfl (Pu.gtr rfl rfl) ?_
   refine JL_pure (v := .bool (decide (60 < d))) rfl (Pu.pickF rfl rfl) ?_
   refine JL_nil ?_
   first | exact ⟨rfl, rfl, rfl, rfl, rfl, rfl⟩ | (exfalso; omega)
 ·rintro ρ5 _ ⟨e6, e7, e8, e9, e10, rfl⟩
  obtain ⟨ρ11, rfl⟩ := reopen_ex (uc e6 (uc e7 (uc e8 (uc e9 (uc e10 un)))))
  clear e6 e7 e8 e9 e10
  refine J_cond (b := (decide (300 < n + 1)) || (decide (60 < d))) rfl (fun h12 => ?_) (fun h12 => ?_)
  ·skip
   refine J_seq ?_
   refine J_region ?_
   refine JL_pure (v := .bool (true)) rfl (Pu.assign rfl) ?_
   refine JL_nil ?_
   refine J_ret ?_
   refine ⟨.bool (true), [[(bL, .cells ⟨[.int .i64 (n + 1)]⟩ 88 (0, 0))]], Ret.one rfl (RV.tmp rfl), (Sd (Sd (Sd (Sk Sub.nil)))), ?_⟩
   refine ⟨?_, ?_⟩ <;> rw [cnT, if_pos (by simpa [stL] using h12)]
  ·skip
   obtain ⟨h12a, h12b⟩ := orF h12
   replace h12a := df h12a
   replace h12b := df h12b
   refine J_skip ?_
   refine J_seq ?_
   refine J_region ?_
   refine JL_pure (v := .func (.func 88) ⟨[]⟩ ⟨[.pointer (some ⟨b1, 0, none⟩), .pointer (some ⟨b3, 0, none⟩)]⟩) rfl (Pu.makeFunc rfl rfl) ?_
   refine JL_run rfl (Runs_alloc (l := [.nilFunc]) Tryz.zeroValue36 rfl fun b13 => ?_)
   refine JL_run rfl (Runs_storeB 0 (vs := [.func (.func 88) ⟨[]⟩ ⟨[.pointer (some ⟨b1, 0, none⟩), .pointer (some ⟨b3, 0, none⟩)]⟩]) (l := [.func (.func 88) ⟨[]⟩ ⟨[.pointer (some ⟨b1, 0, none⟩), .pointer (some ⟨b3, 0, none⟩)]⟩]) ty36 rfl rfl rfl rfl rfl (okc_cons rfl okc_nil) rfl ?_)
   refine JL_nil ?_
   refine J_seq ?_
   refine J_region ?_
   refine JL_pure (v := .pointer (some ⟨b2, 34, none⟩)) rfl (fa27_3 rfl rfl) ?_
   refine JL_run rfl (Pu_load1 ty24 rfl (At.bx 2 rfl) (pkT_34 ..) ?_)
   refine JL_run rfl (Pu_load1 ty36 rfl (At.bx 0 rfl) rfl ?_)
   refine JL_call1 4 rfl Tryz.call35 rfl rfl (fun hin => containsT_ct 88 [] [.pointer (some ⟨b1, 0, none⟩), .pointer (some ⟨b3, 0, none⟩)] (fun _ _ => rfl) (fun n => [(bL, .cells ⟨[.int .i64 (n)]⟩ 88 (0, 0))]) (fun n => 0 ≤ n ∧ n ≤ 300) (cnT stL (d + 1)) _ _ _ (RTs.mono (Hle.hu _ _) hks) (n + 1) ⟨by omega, by omega⟩ (fun x hx s hs hf => cnT_keep stL_le x _ s hs.1 hf) (fun x hx s hs a h hh ra => longTK_ct x d s a h bL b1 b3 ra (hh _ _ (hin 3 _ rfl _ _ List.mem_cons_self)) (hh _ _ (hin 1 _ rfl _ _ List.mem_cons_self)) (by omega) (by omega) (fun h' a' hh' ra' => ih x hx (d + 1) s a' h' bL ra' hs.1 hs.2 (by omega) (by omega)))) rfl ?_
   rintro _ _ ⟨rfl, rfl⟩
   refine JL_pure (v := .bool ((anyS (cnT stL (d + 1)) (kids) (n + 1)).1)) rfl (Pu.move rfl) ?_
   cases h15 : ((anyS (cnT stL (d + 1)) (kids) (n + 1)).1) with
   | true =>
    refine JL_skip rfl ?_
    refine JL_skip rfl ?_
    refine JL_skip rfl ?_
    refine JL_skip rfl ?_
    refine JL_pure (v := .bool (true)) rfl (Pu.pickT rfl rfl) ?_
    refine JL_pure (v := .bool (true)) rfl (Pu.assign rfl) ?_
    refine JL_nil ?_
    refine J_ret ?_
    refine ⟨.bool (true), [[(bL, .cells ⟨[.int .i64 ((anyS (cnT stL (d + 1)) (kids) (n + 1)).2)]⟩ 88 (0, 0))]], Ret.one rfl (RV.tmp rfl), (Sk Sub.nil), ?_⟩
    refine ⟨?_, ?_⟩ <;> rw [cnT, if_neg (by simp [stL]; omega), cnTs_any, if_pos h15]
   | false =>
    refine JL_pure (v := .pointer (some ⟨b2, 35, none⟩)) rfl (fa27_4 rfl rfl) ?_
    refine JL_run rfl (Pu_load1 ty25 rfl (At.bx 3 rfl) (pkT_35 ..) ?_)
    refine JL_pure (v := .func (.func 89) ⟨[]⟩ ⟨[.pointer (some ⟨b1, 0, none⟩), .pointer (some ⟨b3, 0, none⟩), .pointer (some ⟨b13, 0, none⟩)]⟩) rfl (Pu.makeFunc rfl rfl) ?_
    refine JL_call1 0 rfl Tryz.call36 rfl rfl (fun hin => containsC_ct 89 [] [.pointer (some ⟨b1, 0, none⟩), .pointer (some ⟨b3, 0, none⟩), .pointer (some ⟨b13, 0, none⟩)] (fun _ _ => rfl) (fun n => [(bL, .cells ⟨[.int .i64 (n)]⟩ 88 (0, 0))]) (fun n => 0 ≤ n ∧ n ≤ 300) (cnC stL (d + 1)) _ _ _ (RCs.mono (Hle.hu _ _) hcv) ((anyS (cnT stL (d + 1)) (kids) (n + 1)).2) (anyT_keep stL_le _ _ _ (by omega) (by omega) h15) (fun x hx s hs hf => cnC_keep stL_le x _ s hs.1 hf) (fun x hx s hs a h hh ra => longC_ct x d s a h bL b1 b3 b13 ra hs.1 hs.2 (by omega) (by omega) (hh _ _ (hin 3 _ rfl _ _ List.mem_cons_self)) (hh _ _ (hin 1 _ rfl _ _ List.mem_cons_self)) (hh _ _ (hin 0 _ rfl _ _ List.mem_cons_self)) (fun s' a' h' hh' ra' k1 k2 => ih' x hx (d + 1) s' a' h' bL ra' k1 k2 (by omega) (by omega)))) rfl ?_
    rintro _ _ ⟨rfl, rfl⟩
    refine JL_pure (v := .bool ((anyS (cnC stL (d + 1)) (cases) ((anyS (cnT stL (d + 1)) (kids) (n + 1)).2)).1)) rfl (Pu.pickF rfl rfl) ?_
    refine JL_pure (v := .bool ((anyS (cnC stL (d + 1)) (cases) ((anyS (cnT stL (d + 1)) (kids) (n + 1)).2)).1)) rfl (Pu.assign rfl) ?_
    refine JL_nil ?_
    refine J_ret ?_
    refine ⟨.bool ((anyS (cnC stL (d + 1)) (cases) ((anyS (cnT stL (d + 1)) (kids) (n + 1)).2)).1), [[(bL, .cells ⟨[.int .i64 ((anyS (cnC stL (d + 1)) (cases) ((anyS (cnT stL (d + 1)) (kids) (n + 1)).2)).2)]⟩ 88 (0, 0))]], Ret.one rfl (RV.tmp rfl), (Sk Sub.nil), ?_⟩
    refine ⟨?_, ?_⟩ <;> rw [cnT, if_neg (by simp [stL]; omega), cnTs_any, if_neg (by simp [h15]), cnCs_any]
end Go.Proofs.YtdeinimmmjichaaGreat.Hs
/-! Walks, printed by a program of this session's own (gen.py). -/
namespace Go.Proofs.YtdeinimmmjichaaGreat.Hs
open Go Go.Proofs
set_option maxRecDepth 100000
set_option linter.unusedVariables false
set_option linter.unusedSimpArgs false
attribute [local irreducible] JL J CT wlo
theorem known_ct (n b d : Int) (H : Heap) (bD : Nat) (hD : H bD = some (.cells ⟨[.int .i64 d]⟩ 3 (0, 0))) (hb0 : 0 ≤ b) (hb1 : b ≤ 1000000) (hn1 : -9223372036854775808 ≤ n) (hn2 : n ≤ 9223372036854775807) : CT Tryz.prog 54 ⟨[.int .i64 (n), .int .i64 (b), .pointer (some ⟨bD, 0, none⟩)]⟩ [] H (fun v N => v = .bool (knownB d n b) ∧ N = []) := by
 refine CT_enter Tryz.func54 rfl rfl ?_
 refine J_seq ?_
 refine J_region ?_
 refine JL_pure (v := .bool (false)) rfl (Pu.assign rfl) ?_
 refine JL_nil ?_
 refine J_cut (fun ρ M => ρ 5 = .bool ((decide (0 ≤ n)) && ((decide (n < b)) || (decide (n - b < d)))) ∧ M = []) ?_ ?_
 ·refine J_region ?_
  refine JL_pure (v := .int .i64 (n)) rfl (Pu.move rfl) ?_
  refine JL_pure (v := .bool (decide (0 ≤ n))) rfl (Pu.geq rfl rfl) ?_
  refine JL_pure (v := .bool (decide (0 ≤ n))) rfl (Pu.move rfl) ?_
  cases h1 : (decide (0 ≤ n)) with
  | true =>
   replace h1 := dt h1
   refine JL_pure (v := .int .i64 (n)) rfl (Pu.move rfl) ?_
   refine JL_pure (v := .int .i64 (b)) rfl (Pu.move rfl) ?_
   refine JL_pure (v := .bool (decide (n < b))) rfl (Pu.lss rfl rfl) ?_
   refine JL_pure (v := .bool (decide (n < b))) rfl (Pu.move rfl) ?_
   cases h2 : (decide (n < b)) with
   | true =>
    replace h2 := dt h2
    refine JL_skip rfl ?_
    refine JL_skip rfl ?_
    refine JL_skip rfl ?_
    refine JL_skip rfl ?_
    refine JL_skip rfl ?_
    refine JL_pure (v := .bool (true)) rfl (Pu.pickT rfl rfl) ?_
    refine JL_pure (v := .bool (true)) rfl (Pu.pickT rfl rfl) ?_
    refine JL_pure (v := .bool (true)) rfl (Pu.assign rfl) ?_
    refine JL_nil ?_
    first | exact ⟨rfl, rfl⟩ | (exfalso; omega)
   | false =>
    replace h2 := df h2
    refine JL_pure (v := .int .i64 (n)) rfl (Pu.move rfl) ?_
    refine JL_pure (v := .int .i64 (b)) rfl (Pu.move rfl) ?_
    refine JL_pure (v := .int .i64 (n - b)) rfl (Pu.sub64 rfl rfl (by first | omega | (constructor <;> omega))) ?_
    refine JL_run rfl (Pu_load1 ty3 rfl (At.im hD) rfl ?_)
    refine JL_pure (v := .bool (decide (n - b < d))) rfl (Pu.lss rfl rfl) ?_
    refine JL_pure (v := .bool (decide (n - b < d))) rfl (Pu.pickF rfl rfl) ?_
    refine JL_pure (v := .bool (decide (n - b < d))) rfl (Pu.pickT rfl rfl) ?_
    refine JL_pure (v := .bool (decide (n - b < d))) rfl (Pu.assign rfl) ?_
    refine JL_nil ?_
    first | exact ⟨rfl, rfl⟩ | (exfalso; omega)
  | false =>
   replace h1 := df h1
   refine JL_skip rfl ?_
   refine JL_skip rfl ?_
   refine JL_skip rfl ?_
   refine JL_skip rfl ?_
   refine JL_skip rfl ?_
   refine JL_skip rfl ?_
   refine JL_skip rfl ?_
   refine JL_skip rfl ?_
   refine JL_skip rfl ?_
   refine JL_skip rfl ?_
   refine JL_pure (v := .bool (false)) rfl (Pu.pickF rfl rfl) ?_
   refine JL_pure (v := .bool (false)) rfl (Pu.assign rfl) ?_
   refine JL_nil ?_
   first | exact ⟨rfl, rfl⟩ | (exfalso; omega)
 ·rintro ρ3 _ ⟨e4, rfl⟩
  obtain ⟨ρ5, rfl⟩ := reopen_ex (uc e4 un)
  clear e4
  refine J_ret ?_
  refine ⟨.bool ((decide (0 ≤ n)) && ((decide (n < b)) || (decide (n - b < d)))), [], Ret.one rfl (RV.tmp rfl), Sub.nil, ?_⟩
  exact ⟨rfl, rfl⟩
set_option maxHeartbeats 2000000 in
theorem chkTerm_ct (kind num : Int) (ref : Sm) (ks cv : Value) (kids : List Tm) (cases : List (Pt × Tm)) (d m b : Int) (H : Heap) (bD : Nat) (hks : rdS RT 36 H ks kids) (hcv : rdS RC 71 H cv cases) (hD : H bD = some (.cells ⟨[.int .i64 d]⟩ 3 (0, 0))) (hb0 : 0 ≤ b) (hb1 : b ≤ 1000000) (hn1 : -9223372036854775808 ≤ num) (hn2 : num ≤ 9223372036854775807) : CT Tryz.prog 92 ⟨[.agg ⟨[.int .i64 (m), .func (.func 54) ⟨[]⟩ ⟨[.pointer (some ⟨bD, 0, none⟩)]⟩]⟩, .agg ⟨pkT (kind) (num) (ref) (ks) (cv)⟩, .int .i64 (b)]⟩ [] H (fun v N => v = .int .i64 (tHead d m b kind num ref kids.length cases.length) ∧ N = []) := by
 refine CT_enter Tryz.func92 rfl rfl ?_
 refine J_seq ?_
 refine J_region ?_
 refine JL_run rfl (Runs_box (l := [.int .i64 (m), .func (.func 54) ⟨[]⟩ ⟨[.pointer (some ⟨bD, 0, none⟩)]⟩]) rfl rfl fun b1 => ?_)
 refine JL_run rfl (Runs_box (l := pkT (kind) (num) (ref) (ks) (cv)) rfl rfl fun b2 => ?_)
 refine JL_pure (v := .int .i64 (0)) rfl (Pu.assign rfl) ?_
 refine JL_nil ?_
 refine J_seq ?_
 refine J_block ?_
 refine J_seq ?_
 refine J_region ?_
 refine JL_pure (v := .pointer (some ⟨b2, 0, none⟩)) rfl (fa27_0 rfl rfl) ?_
 refine JL_run rfl (Pu_load1 ty3 rfl (At.bx 0 rfl) (pkT_0 ..) ?_)
 refine JL_call rfl Tryz.call76 rfl (fun hin => off_ct _ _ _ _) rfl ?_
 rintro _ _ ⟨rfl, rfl⟩
 refine JL_pure (v := .bool (decide (kind < 1 ∨ 12 < kind))) rfl (Pu.assign rfl) ?_
 refine JL_nil ?_
 refine J_cond (b := decide (kind < 1 ∨ 12 < kind)) rfl (fun h3 => ?_) (fun h3 => ?_)
 ·skip
  replace h3 := dt h3
  refine J_seq ?_
  refine J_region ?_
  refine JL_pure (v := .int .i64 (3)) rfl (Pu.assign rfl) ?_
  refine JL_nil ?_
  refine J_ret ?_
  refine ⟨.int .i64 (3), [], Ret.one rfl (RV.tmp rfl), Sub.nil, ?_⟩
  exact ⟨by refine congrArg (Value.int .i64) ?_; simp only [tHead]; (repeat' split) <;> first | rfl | omega | (exfalso; simp_all; done) | (exfalso; simp_all; omega) | grind, rfl⟩
 ·skip
  replace h3 := df h3
  refine J_seq ?_
  obtain ⟨a5, cap5, hv5⟩ := hcv.sl
  have hle5 := hcv.le
  refine J_draw mixed #[0, 1, 3, 0, 8, 0, 32, 0, 128, 384, 1023, 2047] 10 10 2 rfl (by kernel_rfl) (fun i r4 N4 => match i with | 0 => (r4 0) = .pointer (some ⟨b2, 0, none⟩) | 1 => (r4 1) = .int .i64 (kind) | 2 => (r4 2) = .agg ⟨[.bool (fN (kind)), .bool (fR (kind)), .bool (fC (kind))]⟩ | 3 => (r4 3) = .pointer (some ⟨b2, 1, none⟩) | 4 => (r4 4) = .int .i64 (num) | 5 => (r4 5) = .pointer (some ⟨b2, 2, none⟩) | 6 => (r4 6) = .agg ⟨sC (ref)⟩ | 7 => (r4 7) = .pointer (some ⟨b2, 35, none⟩) | 8 => (r4 8) = cv | 9 => (r4 9) = .int .i64 (((cases).length : Int)) | _ => True) ⟨?_, ?_, ?_, ?_, ?_, ?_, ?_, ?_, ?_, ?_, trivial⟩ ?_
  ·intro ρ r4 N4 B hB hBa hp hr hr0
   have q4 : ρ 4 = .pointer (some ⟨b2, 0, none⟩) := hr0 4 (by kernel_rfl)
   obtain ⟨ρ6, rfl⟩ := reopen_ex (uc q4 un)
   clear q4
   refine JL_pure (v := .pointer (some ⟨b2, 0, none⟩)) rfl (fa27_0 rfl rfl) ?_
   refine JL_nil ?_
   exact ⟨.pointer (some ⟨b2, 0, none⟩), [], rfl, (Sub.emp Sub.refl), rfl⟩
  ·intro ρ r4 N4 B hB hBa hp hr hr0
   have q13 : ρ 13 = .pointer (some ⟨b2, 0, none⟩) := (hr 0 _ _ (by decide) rfl rfl rfl).trans (hp 0 (by decide) rfl)
   obtain ⟨ρ7, rfl⟩ := reopen_ex (uc q13 un)
   clear q13
   refine JL_run rfl (Pu_load1 ty3 rfl (At.bx 10 (made_old ((hB 0 (by decide)).trans rfl))) (pkT_0 ..) ?_)
   refine JL_nil ?_
   exact ⟨.int .i64 (kind), [], rfl, (Sub.emp Sub.refl), rfl⟩
  ·intro ρ r4 N4 B hB hBa hp hr hr0
   have q14 : ρ 14 = .int .i64 (kind) := (hr 1 _ _ (by decide) rfl rfl rfl).trans (hp 1 (by decide) rfl)
   obtain ⟨ρ8, rfl⟩ := reopen_ex (uc q14 un)
   clear q14
   refine JL_call rfl Tryz.call110 rfl (fun hin => fields_ct _ _) rfl ?_
   rintro _ _ ⟨rfl, rfl⟩
   refine JL_nil ?_
   exact ⟨.agg ⟨[.bool (fN (kind)), .bool (fR (kind)), .bool (fC (kind))]⟩, [], rfl, (Sub.emp Sub.refl), rfl⟩
  ·intro ρ r4 N4 B hB hBa hp hr hr0
   have q4 : ρ 4 = .pointer (some ⟨b2, 0, none⟩) := hr0 4 (by kernel_rfl)
   obtain ⟨ρ9, rfl⟩ := reopen_ex (uc q4 un)
   clear q4
   refine JL_pure (v := .pointer (some ⟨b2, 1, none⟩)) rfl (fa27_1 rfl rfl) ?_
   refine JL_nil ?_
   exact ⟨.pointer (some ⟨b2, 1, none⟩), [], rfl, (Sub.emp Sub.refl), rfl⟩
  ·intro ρ r4 N4 B hB hBa hp hr hr0
   have q16 : ρ 16 = .pointer (some ⟨b2, 1, none⟩) := (hr 3 _ _ (by decide) rfl rfl rfl).trans (hp 3 (by decide) rfl)
   obtain ⟨ρ10, rfl⟩ := reopen_ex (uc q16 un)
   clear q16
   refine JL_run rfl (Pu_load1 ty3 rfl (At.bx 10 (made_old ((hB 0 (by decide)).trans rfl))) (pkT_1 ..) ?_)
   refine JL_nil ?_
   exact ⟨.int .i64 (num), [], rfl, (Sub.emp Sub.refl), rfl⟩
  ·intro ρ r4 N4 B hB hBa hp hr hr0
   have q4 : ρ 4 = .pointer (some ⟨b2, 0, none⟩) := hr0 4 (by kernel_rfl)
   obtain ⟨ρ11, rfl⟩ := reopen_ex (uc q4 un)
   clear q4
   refine JL_pure (v := .pointer (some ⟨b2, 2, none⟩)) rfl (fa27_2 rfl rfl) ?_
   refine JL_nil ?_
   exact ⟨.pointer (some ⟨b2, 2, none⟩), [], rfl, (Sub.emp Sub.refl), rfl⟩
  ·intro ρ r4 N4 B hB hBa hp hr hr0
   have q18 : ρ 18 = .pointer (some ⟨b2, 2, none⟩) := (hr 5 _ _ (by decide) rfl rfl rfl).trans (hp 5 (by decide) rfl)
   obtain ⟨ρ12, rfl⟩ := reopen_ex (uc q18 un)
   clear q18
   refine JL_run rfl (Pu_load ty23 rfl (At.bx 10 (made_old ((hB 0 (by decide)).trans rfl))) (pkT_2 ..) ?_)
   refine JL_nil ?_
   exact ⟨.agg ⟨sC (ref)⟩, [], rfl, (Sub.emp Sub.refl), rfl⟩
  ·intro ρ r4 N4 B hB hBa hp hr hr0
   have q4 : ρ 4 = .pointer (some ⟨b2, 0, none⟩) := hr0 4 (by kernel_rfl)
   obtain ⟨ρ13, rfl⟩ := reopen_ex (uc q4 un)
   clear q4
   refine JL_pure (v := .pointer (some ⟨b2, 35, none⟩)) rfl (fa27_4 rfl rfl) ?_
   refine JL_nil ?_
   exact ⟨.pointer (some ⟨b2, 35, none⟩), [], rfl, (Sub.emp Sub.refl), rfl⟩
  ·intro ρ r4 N4 B hB hBa hp hr hr0
   have q20 : ρ 20 = .pointer (some ⟨b2, 35, none⟩) := (hr 7 _ _ (by decide) rfl rfl rfl).trans (hp 7 (by decide) rfl)
   obtain ⟨ρ14, rfl⟩ := reopen_ex (uc q20 un)
   clear q20
   refine JL_run rfl (Pu_load1 ty25 rfl (At.bx 10 (made_old ((hB 0 (by decide)).trans rfl))) (pkT_35 ..) ?_)
   refine JL_nil ?_
   exact ⟨cv, [], rfl, (Sub.emp Sub.refl), rfl⟩
  ·intro ρ r4 N4 B hB hBa hp hr hr0
   have q21 : ρ 21 = cv := (hr 8 _ _ (by decide) rfl rfl rfl).trans (hp 8 (by decide) rfl)
   obtain ⟨ρ15, rfl⟩ := reopen_ex (uc q21 un)
   clear q21
   refine JL_pure (v := .int .i64 (((cases).length : Int))) rfl (Pu.lenSl Tryz.runUnderlying25 hv5) ?_
   refine JL_nil ?_
   exact ⟨.int .i64 (((cases).length : Int)), [], rfl, (Sub.emp Sub.refl), rfl⟩
  ·intro ρ r4 N4 hp hr hr0
   have q2 : ρ 2 = .int .i64 (b) := hr0 2 (by kernel_rfl)
   have q3 : ρ 3 = .pointer (some ⟨b1, 0, none⟩) := hr0 3 (by kernel_rfl)
   have q4 : ρ 4 = .pointer (some ⟨b2, 0, none⟩) := hr0 4 (by kernel_rfl)
   have q6 : ρ 6 = .int .i64 (0) := hr0 6 (by kernel_rfl)
   have q15 : ρ 15 = .agg ⟨[.bool (fN (kind)), .bool (fR (kind)), .bool (fC (kind))]⟩ := (hr 2 _ _ (by decide) rfl rfl).trans (hp 2 (by decide))
   have q17 : ρ 17 = .int .i64 (num) := (hr 4 _ _ (by decide) rfl rfl).trans (hp 4 (by decide))
   have q19 : ρ 19 = .agg ⟨sC (ref)⟩ := (hr 6 _ _ (by decide) rfl rfl).trans (hp 6 (by decide))
   have q22 : ρ 22 = .int .i64 (((cases).length : Int)) := (hr 9 _ _ (by decide) rfl rfl).trans (hp 9 (by decide))
   obtain ⟨ρ16, rfl⟩ := reopen_ex (uc q2 (uc q3 (uc q4 (uc q6 (uc q15 (uc q17 (uc q19 (uc q22 un))))))))
   clear q2 q3 q4 q6 q15 q17 q19 q22
   clear hp hr hr0 
   refine JL_sub (M' := [(N4 0), (N4 1), (N4 2), (N4 3), (N4 4), (N4 5), (N4 6), (N4 7), (N4 8), (N4 9), [(b2, .cells ⟨pkT (kind) (num) (ref) (ks) (cv)⟩ 27 (0, 0))], [(b1, .cells ⟨[.int .i64 (m), .func (.func 54) ⟨[]⟩ ⟨[.pointer (some ⟨bD, 0, none⟩)]⟩]⟩ 92 (0, 0))]]) Sub.refl ?_
   refine JL_sub (M' := [[(b2, .cells ⟨pkT (kind) (num) (ref) (ks) (cv)⟩ 27 (0, 0))], [(b1, .cells ⟨[.int .i64 (m), .func (.func 54) ⟨[]⟩ ⟨[.pointer (some ⟨bD, 0, none⟩)]⟩]⟩ 92 (0, 0))]]) (Sd (Sd (Sd (Sd (Sd (Sd (Sd (Sd (Sd (Sd (Sk (Sk Sub.nil)))))))))))) ?_
   show JL _ _ _ [_, _] _ _ _
   refine JL_call rfl Tryz.call109 rfl (fun hin => clash_ct _ _ _ _ _ _ _) rfl ?_
   rintro _ _ ⟨rfl, rfl⟩
   refine JL_pure (v := .bool (clashB (fN (kind)) (fR (kind)) (fC (kind)) (num) (ref) (((cases).length : Int)))) rfl (Pu.assign rfl) ?_
   refine JL_nil ?_
   refine J_cond (b := clashB (fN (kind)) (fR (kind)) (fC (kind)) (num) (ref) (((cases).length : Int))) rfl (fun h17 => ?_) (fun h17 => ?_)
   ·skip
    refine J_seq ?_
    refine J_region ?_
    refine JL_pure (v := .int .i64 (7)) rfl (Pu.assign rfl) ?_
    refine JL_nil ?_
    refine J_ret ?_
    refine ⟨.int .i64 (7), [], Ret.one rfl (RV.tmp rfl), Sub.nil, ?_⟩
    exact ⟨by refine congrArg (Value.int .i64) ?_; simp only [tHead]; (repeat' split) <;> first | rfl | omega | (exfalso; simp_all; done) | (exfalso; simp_all; omega) | grind, rfl⟩
   ·skip
    refine J_cut (fun ρ M => ρ 2 = .int .i64 (b) ∧ ρ 3 = .pointer (some ⟨b1, 0, none⟩) ∧ ρ 4 = .pointer (some ⟨b2, 0, none⟩) ∧ ρ 6 = .int .i64 (0) ∧ ρ 24 = .bool ((!(kidsB (kind) (((kids).length : Int)))) || (decide (8 < ((cases).length : Int)))) ∧ M = [[(b2, .cells ⟨pkT (kind) (num) (ref) (ks) (cv)⟩ 27 (0, 0))], [(b1, .cells ⟨[.int .i64 (m), .func (.func 54) ⟨[]⟩ ⟨[.pointer (some ⟨bD, 0, none⟩)]⟩]⟩ 92 (0, 0))]]) ?_ ?_
    ·refine J_region ?_
     refine JL_pure (v := .pointer (some ⟨b2, 0, none⟩)) rfl (fa27_0 rfl rfl) ?_
     refine JL_run rfl (Pu_load1 ty3 rfl (At.bx 0 rfl) (pkT_0 ..) ?_)
     refine JL_pure (v := .pointer (some ⟨b2, 34, none⟩)) rfl (fa27_3 rfl rfl) ?_
     refine JL_run rfl (Pu_load1 ty24 rfl (At.bx 0 rfl) (pkT_34 ..) ?_)
     obtain ⟨a18, cap18, hv18⟩ := hks.sl
     have hle18 := hks.le
     refine JL_pure (v := .int .i64 (((kids).length : Int))) rfl (Pu.lenSl Tryz.runUnderlying24 hv18) ?_
     refine JL_call rfl Tryz.call111 rfl (fun hin => kidsT_ct _ _ _) rfl ?_
     rintro _ _ ⟨rfl, rfl⟩
     refine JL_pure (v := .bool (!(kidsB (kind) (((kids).length : Int))))) rfl (Pu.not rfl) ?_
     refine JL_pure (v := .bool (!(kidsB (kind) (((kids).length : Int))))) rfl (Pu.move rfl) ?_
     cases h19 : (!(kidsB (kind) (((kids).length : Int)))) with
     | true =>
      replace h19 := nt h19
      refine JL_skip rfl ?_
      refine JL_skip rfl ?_
      refine JL_skip rfl ?_
      refine JL_skip rfl ?_
      refine JL_pure (v := .bool (true)) rfl (Pu.pickT rfl rfl) ?_
      refine JL_pure (v := .bool (true)) rfl (Pu.assign rfl) ?_
      refine JL_nil ?_
      first | exact ⟨rfl, rfl, rfl, rfl, rfl, rfl⟩ | (exfalso; omega)
     | false =>
      replace h19 := nf h19
      refine JL_pure (v := .pointer (some ⟨b2, 35, none⟩)) rfl (fa27_4 rfl rfl) ?_
      refine JL_run rfl (Pu_load1 ty25 rfl (At.bx 0 rfl) (pkT_35 ..) ?_)
      obtain ⟨a20, cap20, hv20⟩ := hcv.sl
      have hle20 := hcv.le
      refine JL_pure (v := .int .i64 (((cases).length : Int))) rfl (Pu.lenSl Tryz.runUnderlying25 hv20) ?_
      refine JL_pure (v := .bool (decide (8 < ((cases).length : Int)))) rfl (Pu.gtr rfl rfl) ?_
      refine JL_pure (v := .bool (decide (8 < ((cases).length : Int)))) rfl (Pu.pickF rfl rfl) ?_
      refine JL_pure (v := .bool (decide (8 < ((cases).length : Int)))) rfl (Pu.assign rfl) ?_
      refine JL_nil ?_
      first | exact ⟨rfl, rfl, rfl, rfl, rfl, rfl⟩ | (exfalso; omega)
    ·rintro ρ21 _ ⟨e22, e23, e24, e25, e26, rfl⟩
     obtain ⟨ρ27, rfl⟩ := reopen_ex (uc e22 (uc e23 (uc e24 (uc e25 (uc e26 un)))))
     clear e22 e23 e24 e25 e26
     refine J_cond (b := (!(kidsB (kind) (((kids).length : Int)))) || (decide (8 < ((cases).length : Int)))) rfl (fun h28 => ?_) (fun h28 => ?_)
     ·skip
      refine J_seq ?_
      refine J_region ?_
      refine JL_pure (v := .int .i64 (2)) rfl (Pu.assign rfl) ?_
      refine JL_nil ?_
      refine J_ret ?_
      refine ⟨.int .i64 (2), [], Ret.one rfl (RV.tmp rfl), Sub.nil, ?_⟩
      exact ⟨by refine congrArg (Value.int .i64) ?_; simp only [tHead]; (repeat' split) <;> first | rfl | omega | (exfalso; simp_all; done) | (exfalso; simp_all; omega) | grind, rfl⟩
     ·skip
      obtain ⟨h28a, h28b⟩ := orF h28
      replace h28a := nf h28a
      replace h28b := df h28b
      refine J_skip ?_
      refine J_seq ?_
      refine J_region ?_
      refine JL_pure (v := .int .i64 (1073741824)) rfl (Pu.assign rfl) ?_
      refine JL_nil ?_
      refine J_seq ?_
      refine J_seq ?_
      refine J_region ?_
      refine JL_pure (v := .pointer (some ⟨b2, 0, none⟩)) rfl (fa27_0 rfl rfl) ?_
      refine JL_run rfl (Pu_load1 ty3 rfl (At.bx 0 rfl) (pkT_0 ..) ?_)
      refine JL_nil ?_
      refine J_block ?_
      refine J_seq ?_
      refine J_region ?_
      refine JL_pure (v := .bool (decide (kind = 10))) rfl (Pu.eql rfl rfl) ?_
      refine JL_pure (v := .bool (decide (kind = 10))) rfl (Pu.assign rfl) ?_
      refine JL_nil ?_
      refine J_cond (b := decide (kind = 10)) rfl (fun h29 => ?_) (fun h29 => ?_)
      ·skip
       replace h29 := dt h29
       refine J_seq ?_
       refine J_region ?_
       refine JL_pure (v := .pointer (some ⟨b2, 1, none⟩)) rfl (fa27_1 rfl rfl) ?_
       refine JL_run rfl (Pu_load1 ty3 rfl (At.bx 0 rfl) (pkT_1 ..) ?_)
       refine JL_call rfl Tryz.call76 rfl (fun hin => off_ct _ _ _ _) rfl ?_
       rintro _ _ ⟨rfl, rfl⟩
       refine JL_nil ?_
       refine J_cond (b := decide (num < 1 ∨ 5 < num)) rfl (fun h30 => ?_) (fun h30 => ?_)
       ·skip
        replace h30 := dt h30
        refine J_seq ?_
        refine J_region ?_
        refine JL_pure (v := .int .i64 (3)) rfl (Pu.assign rfl) ?_
        refine JL_nil ?_
        refine J_ret ?_
        refine ⟨.int .i64 (3), [], Ret.one rfl (RV.tmp rfl), Sub.nil, ?_⟩
        exact ⟨by refine congrArg (Value.int .i64) ?_; simp only [tHead]; (repeat' split) <;> first | rfl | omega | (exfalso; simp_all; done) | (exfalso; simp_all; omega) | grind, rfl⟩
       ·skip
        replace h30 := df h30
        refine J_skip ?_
        refine J_seq ?_
        refine J_cut (fun ρ M => ρ 6 = .int .i64 (0) ∧ ρ 87 = .bool ((((decide (kind = 2)) || (decide (kind = 8))) || (decide (kind = 11))) && (decide (num < 0 ∨ 1073741824 < num))) ∧ M = [[(b2, .cells ⟨pkT (kind) (num) (ref) (ks) (cv)⟩ 27 (0, 0))], [(b1, .cells ⟨[.int .i64 (m), .func (.func 54) ⟨[]⟩ ⟨[.pointer (some ⟨bD, 0, none⟩)]⟩]⟩ 92 (0, 0))]]) ?_ ?_
        ·refine J_region ?_
         refine JL_pure (v := .pointer (some ⟨b2, 0, none⟩)) rfl (fa27_0 rfl rfl) ?_
         refine JL_run rfl (Pu_load1 ty3 rfl (At.bx 0 rfl) (pkT_0 ..) ?_)
         refine JL_pure (v := .bool (decide (kind = 2))) rfl (Pu.eql rfl rfl) ?_
         refine JL_pure (v := .bool (decide (kind = 2))) rfl (Pu.move rfl) ?_
         cases h31 : (decide (kind = 2)) with
         | true =>
          replace h31 := dt h31
          refine JL_skip rfl ?_
          refine JL_skip rfl ?_
          refine JL_skip rfl ?_
          refine JL_pure (v := .bool (true)) rfl (Pu.pickT rfl rfl) ?_
          refine JL_pure (v := .bool (true)) rfl (Pu.move rfl) ?_
          refine JL_skip rfl ?_
          refine JL_skip rfl ?_
          refine JL_skip rfl ?_
          refine JL_pure (v := .bool (true)) rfl (Pu.pickT rfl rfl) ?_
          refine JL_pure (v := .bool (true)) rfl (Pu.move rfl) ?_
          refine JL_pure (v := .pointer (some ⟨b2, 1, none⟩)) rfl (fa27_1 rfl rfl) ?_
          refine JL_run rfl (Pu_load1 ty3 rfl (At.bx 0 rfl) (pkT_1 ..) ?_)
          refine JL_pure (v := .int .i64 (1073741824)) rfl (Pu.move rfl) ?_
          refine JL_call rfl Tryz.call76 rfl (fun hin => off_ct _ _ _ _) rfl ?_
          rintro _ _ ⟨rfl, rfl⟩
          refine JL_pure (v := .bool (decide (num < 0 ∨ 1073741824 < num))) rfl (Pu.pickT rfl rfl) ?_
          refine JL_nil ?_
          first | exact ⟨rfl, rfl, rfl⟩ | (exfalso; omega)
         | false =>
          replace h31 := df h31
          refine JL_pure (v := .pointer (some ⟨b2, 0, none⟩)) rfl (fa27_0 rfl rfl) ?_
          refine JL_run rfl (Pu_load1 ty3 rfl (At.bx 0 rfl) (pkT_0 ..) ?_)
          refine JL_pure (v := .bool (decide (kind = 8))) rfl (Pu.eql rfl rfl) ?_
          refine JL_pure (v := .bool (decide (kind = 8))) rfl (Pu.pickF rfl rfl) ?_
          refine JL_pure (v := .bool (decide (kind = 8))) rfl (Pu.move rfl) ?_
          cases h32 : (decide (kind = 8)) with
          | true =>
           replace h32 := dt h32
           refine JL_skip rfl ?_
           refine JL_skip rfl ?_
           refine JL_skip rfl ?_
           refine JL_pure (v := .bool (true)) rfl (Pu.pickT rfl rfl) ?_
           refine JL_pure (v := .bool (true)) rfl (Pu.move rfl) ?_
           refine JL_pure (v := .pointer (some ⟨b2, 1, none⟩)) rfl (fa27_1 rfl rfl) ?_
           refine JL_run rfl (Pu_load1 ty3 rfl (At.bx 0 rfl) (pkT_1 ..) ?_)
           refine JL_pure (v := .int .i64 (1073741824)) rfl (Pu.move rfl) ?_
           refine JL_call rfl Tryz.call76 rfl (fun hin => off_ct _ _ _ _) rfl ?_
           rintro _ _ ⟨rfl, rfl⟩
           refine JL_pure (v := .bool (decide (num < 0 ∨ 1073741824 < num))) rfl (Pu.pickT rfl rfl) ?_
           refine JL_nil ?_
           first | exact ⟨rfl, rfl, rfl⟩ | (exfalso; omega)
          | false =>
           replace h32 := df h32
           refine JL_pure (v := .pointer (some ⟨b2, 0, none⟩)) rfl (fa27_0 rfl rfl) ?_
           refine JL_run rfl (Pu_load1 ty3 rfl (At.bx 0 rfl) (pkT_0 ..) ?_)
           refine JL_pure (v := .bool (decide (kind = 11))) rfl (Pu.eql rfl rfl) ?_
           refine JL_pure (v := .bool (decide (kind = 11))) rfl (Pu.pickF rfl rfl) ?_
           refine JL_pure (v := .bool (decide (kind = 11))) rfl (Pu.move rfl) ?_
           cases h33 : (decide (kind = 11)) with
           | true =>
            replace h33 := dt h33
            refine JL_pure (v := .pointer (some ⟨b2, 1, none⟩)) rfl (fa27_1 rfl rfl) ?_
            refine JL_run rfl (Pu_load1 ty3 rfl (At.bx 0 rfl) (pkT_1 ..) ?_)
            refine JL_pure (v := .int .i64 (1073741824)) rfl (Pu.move rfl) ?_
            refine JL_call rfl Tryz.call76 rfl (fun hin => off_ct _ _ _ _) rfl ?_
            rintro _ _ ⟨rfl, rfl⟩
            refine JL_pure (v := .bool (decide (num < 0 ∨ 1073741824 < num))) rfl (Pu.pickT rfl rfl) ?_
            refine JL_nil ?_
            first | exact ⟨rfl, rfl, rfl⟩ | (exfalso; omega)
           | false =>
            replace h33 := df h33
            refine JL_skip rfl ?_
            refine JL_skip rfl ?_
            refine JL_skip rfl ?_
            refine JL_skip rfl ?_
            refine JL_pure (v := .bool (false)) rfl (Pu.pickF rfl rfl) ?_
            refine JL_nil ?_
            first | exact ⟨rfl, rfl, rfl⟩ | (exfalso; omega)
        ·rintro ρ34 _ ⟨e35, e36, rfl⟩
         obtain ⟨ρ37, rfl⟩ := reopen_ex (uc e35 (uc e36 un))
         clear e35 e36
         refine J_cond (b := (((decide (kind = 2)) || (decide (kind = 8))) || (decide (kind = 11))) && (decide (num < 0 ∨ 1073741824 < num))) rfl (fun h38 => ?_) (fun h38 => ?_)
         ·skip
          obtain ⟨h38a, h38b⟩ := andT h38
          replace h38b := dt h38b
          refine J_seq ?_
          refine J_region ?_
          refine JL_pure (v := .int .i64 (3)) rfl (Pu.assign rfl) ?_
          refine JL_nil ?_
          refine J_ret ?_
          refine ⟨.int .i64 (3), [], Ret.one rfl (RV.tmp rfl), Sub.nil, ?_⟩
          exact ⟨by refine congrArg (Value.int .i64) ?_; simp only [tHead]; (repeat' split) <;> first | rfl | omega | (exfalso; simp_all; done) | (exfalso; simp_all; omega) | grind, rfl⟩
         ·skip
          refine J_skip ?_
          refine J_seq ?_
          refine J_region ?_
          refine JL_pure (v := .int .i64 (0)) rfl (Pu.assign rfl) ?_
          refine JL_nil ?_
          refine J_ret ?_
          refine ⟨.int .i64 (0), [], Ret.one rfl (RV.tmp rfl), Sub.nil, ?_⟩
          exact ⟨by refine congrArg (Value.int .i64) ?_; simp only [tHead]; (repeat' split) <;> first | rfl | omega | (exfalso; simp_all; done) | (exfalso; simp_all; omega) | grind, rfl⟩
      ·skip
       replace h29 := df h29
       refine J_seq ?_
       refine J_seq ?_
       refine J_region ?_
       refine JL_pure (v := .bool (decide (kind = 8))) rfl (Pu.eql rfl rfl) ?_
       refine JL_pure (v := .bool (decide (kind = 8))) rfl (Pu.assign rfl) ?_
       refine JL_nil ?_
       refine J_cond (b := decide (kind = 8)) rfl (fun h39 => ?_) (fun h39 => ?_)
       ·skip
        replace h39 := dt h39
        refine J_skip ?_
        refine J_cond (b := decide (kind = 8)) rfl (fun _ => ?_) (fun h40 => absurd h39 (df h40))
        refine J_region ?_
        refine JL_pure (v := .int .i64 (7)) rfl (Pu.assign rfl) ?_
        refine JL_nil ?_
        refine J_seq ?_
        refine J_cut (fun ρ M => ρ 6 = .int .i64 (0) ∧ ρ 87 = .bool ((((decide (kind = 2)) || (decide (kind = 8))) || (decide (kind = 11))) && (decide (num < 0 ∨ 7 < num))) ∧ M = [[(b2, .cells ⟨pkT (kind) (num) (ref) (ks) (cv)⟩ 27 (0, 0))], [(b1, .cells ⟨[.int .i64 (m), .func (.func 54) ⟨[]⟩ ⟨[.pointer (some ⟨bD, 0, none⟩)]⟩]⟩ 92 (0, 0))]]) ?_ ?_
        ·refine J_region ?_
         refine JL_pure (v := .pointer (some ⟨b2, 0, none⟩)) rfl (fa27_0 rfl rfl) ?_
         refine JL_run rfl (Pu_load1 ty3 rfl (At.bx 0 rfl) (pkT_0 ..) ?_)
         refine JL_pure (v := .bool (decide (kind = 2))) rfl (Pu.eql rfl rfl) ?_
         refine JL_pure (v := .bool (decide (kind = 2))) rfl (Pu.move rfl) ?_
         cases h41 : (decide (kind = 2)) with
         | true =>
          replace h41 := dt h41
          refine JL_skip rfl ?_
          refine JL_skip rfl ?_
          refine JL_skip rfl ?_
          refine JL_pure (v := .bool (true)) rfl (Pu.pickT rfl rfl) ?_
          refine JL_pure (v := .bool (true)) rfl (Pu.move rfl) ?_
          refine JL_skip rfl ?_
          refine JL_skip rfl ?_
          refine JL_skip rfl ?_
          refine JL_pure (v := .bool (true)) rfl (Pu.pickT rfl rfl) ?_
          refine JL_pure (v := .bool (true)) rfl (Pu.move rfl) ?_
          refine JL_pure (v := .pointer (some ⟨b2, 1, none⟩)) rfl (fa27_1 rfl rfl) ?_
          refine JL_run rfl (Pu_load1 ty3 rfl (At.bx 0 rfl) (pkT_1 ..) ?_)
          refine JL_pure (v := .int .i64 (7)) rfl (Pu.move rfl) ?_
          refine JL_call rfl Tryz.call76 rfl (fun hin => off_ct _ _ _ _) rfl ?_
          rintro _ _ ⟨rfl, rfl⟩
          refine JL_pure (v := .bool (decide (num < 0 ∨ 7 < num))) rfl (Pu.pickT rfl rfl) ?_
          refine JL_nil ?_
          first | exact ⟨rfl, rfl, rfl⟩ | (exfalso; omega)
         | false =>
          replace h41 := df h41
          refine JL_pure (v := .pointer (some ⟨b2, 0, none⟩)) rfl (fa27_0 rfl rfl) ?_
          refine JL_run rfl (Pu_load1 ty3 rfl (At.bx 0 rfl) (pkT_0 ..) ?_)
          refine JL_pure (v := .bool (decide (kind = 8))) rfl (Pu.eql rfl rfl) ?_
          refine JL_pure (v := .bool (decide (kind = 8))) rfl (Pu.pickF rfl rfl) ?_
          refine JL_pure (v := .bool (decide (kind = 8))) rfl (Pu.move rfl) ?_
          cases h42 : (decide (kind = 8)) with
          | true =>
           replace h42 := dt h42
           refine JL_skip rfl ?_
           refine JL_skip rfl ?_
           refine JL_skip rfl ?_
           refine JL_pure (v := .bool (true)) rfl (Pu.pickT rfl rfl) ?_
           refine JL_pure (v := .bool (true)) rfl (Pu.move rfl) ?_
           refine JL_pure (v := .pointer (some ⟨b2, 1, none⟩)) rfl (fa27_1 rfl rfl) ?_
           refine JL_run rfl (Pu_load1 ty3 rfl (At.bx 0 rfl) (pkT_1 ..) ?_)
           refine JL_pure (v := .int .i64 (7)) rfl (Pu.move rfl) ?_
           refine JL_call rfl Tryz.call76 rfl (fun hin => off_ct _ _ _ _) rfl ?_
           rintro _ _ ⟨rfl, rfl⟩
           refine JL_pure (v := .bool (decide (num < 0 ∨ 7 < num))) rfl (Pu.pickT rfl rfl) ?_
           refine JL_nil ?_
           first | exact ⟨rfl, rfl, rfl⟩ | (exfalso; omega)
          | false =>
           replace h42 := df h42
           refine JL_pure (v := .pointer (some ⟨b2, 0, none⟩)) rfl (fa27_0 rfl rfl) ?_
           refine JL_run rfl (Pu_load1 ty3 rfl (At.bx 0 rfl) (pkT_0 ..) ?_)
           refine JL_pure (v := .bool (decide (kind = 11))) rfl (Pu.eql rfl rfl) ?_
           refine JL_pure (v := .bool (decide (kind = 11))) rfl (Pu.pickF rfl rfl) ?_
           refine JL_pure (v := .bool (decide (kind = 11))) rfl (Pu.move rfl) ?_
           cases h43 : (decide (kind = 11)) with
           | true =>
            replace h43 := dt h43
            refine JL_pure (v := .pointer (some ⟨b2, 1, none⟩)) rfl (fa27_1 rfl rfl) ?_
            refine JL_run rfl (Pu_load1 ty3 rfl (At.bx 0 rfl) (pkT_1 ..) ?_)
            refine JL_pure (v := .int .i64 (7)) rfl (Pu.move rfl) ?_
            refine JL_call rfl Tryz.call76 rfl (fun hin => off_ct _ _ _ _) rfl ?_
            rintro _ _ ⟨rfl, rfl⟩
            refine JL_pure (v := .bool (decide (num < 0 ∨ 7 < num))) rfl (Pu.pickT rfl rfl) ?_
            refine JL_nil ?_
            first | exact ⟨rfl, rfl, rfl⟩ | (exfalso; omega)
           | false =>
            replace h43 := df h43
            refine JL_skip rfl ?_
            refine JL_skip rfl ?_
            refine JL_skip rfl ?_
            refine JL_skip rfl ?_
            refine JL_pure (v := .bool (false)) rfl (Pu.pickF rfl rfl) ?_
            refine JL_nil ?_
            first | exact ⟨rfl, rfl, rfl⟩ | (exfalso; omega)
        ·rintro ρ44 _ ⟨e45, e46, rfl⟩
         obtain ⟨ρ47, rfl⟩ := reopen_ex (uc e45 (uc e46 un))
         clear e45 e46
         refine J_cond (b := (((decide (kind = 2)) || (decide (kind = 8))) || (decide (kind = 11))) && (decide (num < 0 ∨ 7 < num))) rfl (fun h48 => ?_) (fun h48 => ?_)
         ·skip
          obtain ⟨h48a, h48b⟩ := andT h48
          replace h48b := dt h48b
          refine J_seq ?_
          refine J_region ?_
          refine JL_pure (v := .int .i64 (3)) rfl (Pu.assign rfl) ?_
          refine JL_nil ?_
          refine J_ret ?_
          refine ⟨.int .i64 (3), [], Ret.one rfl (RV.tmp rfl), Sub.nil, ?_⟩
          exact ⟨by refine congrArg (Value.int .i64) ?_; simp only [tHead]; (repeat' split) <;> first | rfl | omega | (exfalso; simp_all; done) | (exfalso; simp_all; omega) | grind, rfl⟩
         ·skip
          refine J_skip ?_
          refine J_seq ?_
          refine J_region ?_
          refine JL_pure (v := .int .i64 (0)) rfl (Pu.assign rfl) ?_
          refine JL_nil ?_
          refine J_ret ?_
          refine ⟨.int .i64 (0), [], Ret.one rfl (RV.tmp rfl), Sub.nil, ?_⟩
          exact ⟨by refine congrArg (Value.int .i64) ?_; simp only [tHead]; (repeat' split) <;> first | rfl | omega | (exfalso; simp_all; done) | (exfalso; simp_all; omega) | grind, rfl⟩
       ·skip
        replace h39 := df h39
        refine J_region ?_
        refine JL_pure (v := .bool (decide (kind = 11))) rfl (Pu.eql rfl rfl) ?_
        refine JL_pure (v := .bool (decide (kind = 11))) rfl (Pu.assign rfl) ?_
        refine JL_nil ?_
        refine J_cond (b := decide (kind = 11)) rfl (fun h49 => ?_) (fun h49 => ?_)
        ·skip
         replace h49 := dt h49
         refine J_region ?_
         refine JL_pure (v := .int .i64 (7)) rfl (Pu.assign rfl) ?_
         refine JL_nil ?_
         refine J_seq ?_
         refine J_cut (fun ρ M => ρ 6 = .int .i64 (0) ∧ ρ 87 = .bool ((((decide (kind = 2)) || (decide (kind = 8))) || (decide (kind = 11))) && (decide (num < 0 ∨ 7 < num))) ∧ M = [[(b2, .cells ⟨pkT (kind) (num) (ref) (ks) (cv)⟩ 27 (0, 0))], [(b1, .cells ⟨[.int .i64 (m), .func (.func 54) ⟨[]⟩ ⟨[.pointer (some ⟨bD, 0, none⟩)]⟩]⟩ 92 (0, 0))]]) ?_ ?_
         ·refine J_region ?_
          refine JL_pure (v := .pointer (some ⟨b2, 0, none⟩)) rfl (fa27_0 rfl rfl) ?_
          refine JL_run rfl (Pu_load1 ty3 rfl (At.bx 0 rfl) (pkT_0 ..) ?_)
          refine JL_pure (v := .bool (decide (kind = 2))) rfl (Pu.eql rfl rfl) ?_
          refine JL_pure (v := .bool (decide (kind = 2))) rfl (Pu.move rfl) ?_
          cases h50 : (decide (kind = 2)) with
          | true =>
           replace h50 := dt h50
           refine JL_skip rfl ?_
           refine JL_skip rfl ?_
           refine JL_skip rfl ?_
           refine JL_pure (v := .bool (true)) rfl (Pu.pickT rfl rfl) ?_
           refine JL_pure (v := .bool (true)) rfl (Pu.move rfl) ?_
           refine JL_skip rfl ?_
           refine JL_skip rfl ?_
           refine JL_skip rfl ?_
           refine JL_pure (v := .bool (true)) rfl (Pu.pickT rfl rfl) ?_
           refine JL_pure (v := .bool (true)) rfl (Pu.move rfl) ?_
           refine JL_pure (v := .pointer (some ⟨b2, 1, none⟩)) rfl (fa27_1 rfl rfl) ?_
           refine JL_run rfl (Pu_load1 ty3 rfl (At.bx 0 rfl) (pkT_1 ..) ?_)
           refine JL_pure (v := .int .i64 (7)) rfl (Pu.move rfl) ?_
           refine JL_call rfl Tryz.call76 rfl (fun hin => off_ct _ _ _ _) rfl ?_
           rintro _ _ ⟨rfl, rfl⟩
           refine JL_pure (v := .bool (decide (num < 0 ∨ 7 < num))) rfl (Pu.pickT rfl rfl) ?_
           refine JL_nil ?_
           first | exact ⟨rfl, rfl, rfl⟩ | (exfalso; omega)
          | false =>
           replace h50 := df h50
           refine JL_pure (v := .pointer (some ⟨b2, 0, none⟩)) rfl (fa27_0 rfl rfl) ?_
           refine JL_run rfl (Pu_load1 ty3 rfl (At.bx 0 rfl) (pkT_0 ..) ?_)
           refine JL_pure (v := .bool (decide (kind = 8))) rfl (Pu.eql rfl rfl) ?_
           refine JL_pure (v := .bool (decide (kind = 8))) rfl (Pu.pickF rfl rfl) ?_
           refine JL_pure (v := .bool (decide (kind = 8))) rfl (Pu.move rfl) ?_
           cases h51 : (decide (kind = 8)) with
           | true =>
            replace h51 := dt h51
            refine JL_skip rfl ?_
            refine JL_skip rfl ?_
            refine JL_skip rfl ?_
            refine JL_pure (v := .bool (true)) rfl (Pu.pickT rfl rfl) ?_
            refine JL_pure (v := .bool (true)) rfl (Pu.move rfl) ?_
            refine JL_pure (v := .pointer (some ⟨b2, 1, none⟩)) rfl (fa27_1 rfl rfl) ?_
            refine JL_run rfl (Pu_load1 ty3 rfl (At.bx 0 rfl) (pkT_1 ..) ?_)
            refine JL_pure (v := .int .i64 (7)) rfl (Pu.move rfl) ?_
            refine JL_call rfl Tryz.call76 rfl (fun hin => off_ct _ _ _ _) rfl ?_
            rintro _ _ ⟨rfl, rfl⟩
            refine JL_pure (v := .bool (decide (num < 0 ∨ 7 < num))) rfl (Pu.pickT rfl rfl) ?_
            refine JL_nil ?_
            first | exact ⟨rfl, rfl, rfl⟩ | (exfalso; omega)
           | false =>
            replace h51 := df h51
            refine JL_pure (v := .pointer (some ⟨b2, 0, none⟩)) rfl (fa27_0 rfl rfl) ?_
            refine JL_run rfl (Pu_load1 ty3 rfl (At.bx 0 rfl) (pkT_0 ..) ?_)
            refine JL_pure (v := .bool (decide (kind = 11))) rfl (Pu.eql rfl rfl) ?_
            refine JL_pure (v := .bool (decide (kind = 11))) rfl (Pu.pickF rfl rfl) ?_
            refine JL_pure (v := .bool (decide (kind = 11))) rfl (Pu.move rfl) ?_
            cases h52 : (decide (kind = 11)) with
            | true =>
             replace h52 := dt h52
             refine JL_pure (v := .pointer (some ⟨b2, 1, none⟩)) rfl (fa27_1 rfl rfl) ?_
             refine JL_run rfl (Pu_load1 ty3 rfl (At.bx 0 rfl) (pkT_1 ..) ?_)
             refine JL_pure (v := .int .i64 (7)) rfl (Pu.move rfl) ?_
             refine JL_call rfl Tryz.call76 rfl (fun hin => off_ct _ _ _ _) rfl ?_
             rintro _ _ ⟨rfl, rfl⟩
             refine JL_pure (v := .bool (decide (num < 0 ∨ 7 < num))) rfl (Pu.pickT rfl rfl) ?_
             refine JL_nil ?_
             first | exact ⟨rfl, rfl, rfl⟩ | (exfalso; omega)
            | false =>
             replace h52 := df h52
             refine JL_skip rfl ?_
             refine JL_skip rfl ?_
             refine JL_skip rfl ?_
             refine JL_skip rfl ?_
             refine JL_pure (v := .bool (false)) rfl (Pu.pickF rfl rfl) ?_
             refine JL_nil ?_
             first | exact ⟨rfl, rfl, rfl⟩ | (exfalso; omega)
         ·rintro ρ53 _ ⟨e54, e55, rfl⟩
          obtain ⟨ρ56, rfl⟩ := reopen_ex (uc e54 (uc e55 un))
          clear e54 e55
          refine J_cond (b := (((decide (kind = 2)) || (decide (kind = 8))) || (decide (kind = 11))) && (decide (num < 0 ∨ 7 < num))) rfl (fun h57 => ?_) (fun h57 => ?_)
          ·skip
           obtain ⟨h57a, h57b⟩ := andT h57
           replace h57b := dt h57b
           refine J_seq ?_
           refine J_region ?_
           refine JL_pure (v := .int .i64 (3)) rfl (Pu.assign rfl) ?_
           refine JL_nil ?_
           refine J_ret ?_
           refine ⟨.int .i64 (3), [], Ret.one rfl (RV.tmp rfl), Sub.nil, ?_⟩
           exact ⟨by refine congrArg (Value.int .i64) ?_; simp only [tHead]; (repeat' split) <;> first | rfl | omega | (exfalso; simp_all; done) | (exfalso; simp_all; omega) | grind, rfl⟩
          ·skip
           refine J_skip ?_
           refine J_seq ?_
           refine J_region ?_
           refine JL_pure (v := .int .i64 (0)) rfl (Pu.assign rfl) ?_
           refine JL_nil ?_
           refine J_ret ?_
           refine ⟨.int .i64 (0), [], Ret.one rfl (RV.tmp rfl), Sub.nil, ?_⟩
           exact ⟨by refine congrArg (Value.int .i64) ?_; simp only [tHead]; (repeat' split) <;> first | rfl | omega | (exfalso; simp_all; done) | (exfalso; simp_all; omega) | grind, rfl⟩
        ·skip
         replace h49 := df h49
         refine J_seq ?_
         refine J_region ?_
         refine JL_pure (v := .bool (decide (kind = 1))) rfl (Pu.eql rfl rfl) ?_
         refine JL_pure (v := .bool (decide (kind = 1))) rfl (Pu.assign rfl) ?_
         refine JL_nil ?_
         refine J_cond (b := decide (kind = 1)) rfl (fun h58 => ?_) (fun h58 => ?_)
         ·skip
          replace h58 := dt h58
          refine J_seq ?_
          refine J_region ?_
          refine JL_pure (v := .pointer (some ⟨b1, 1, none⟩)) rfl (fa92_1 rfl rfl) ?_
          refine JL_run rfl (Pu_load1 ty90 rfl (At.bx 1 rfl) rfl ?_)
          refine JL_pure (v := .pointer (some ⟨b2, 1, none⟩)) rfl (fa27_1 rfl rfl) ?_
          refine JL_run rfl (Pu_load1 ty3 rfl (At.bx 0 rfl) (pkT_1 ..) ?_)
          refine JL_pure (v := .int .i64 (b)) rfl (Pu.move rfl) ?_
          refine JL_call rfl Tryz.call54 rfl (fun hin => known_ct _ _ _ _ bD (Hle.hu _ _ _ _ hD) hb0 hb1 hn1 hn2) rfl ?_
          rintro _ _ ⟨rfl, rfl⟩
          refine JL_pure (v := .bool (!(knownB d (num) (b)))) rfl (Pu.not rfl) ?_
          refine JL_nil ?_
          refine J_cond (b := !(knownB d (num) (b))) rfl (fun h59 => ?_) (fun h59 => ?_)
          ·skip
           replace h59 := nt h59
           refine J_seq ?_
           refine J_region ?_
           refine JL_pure (v := .int .i64 (1)) rfl (Pu.assign rfl) ?_
           refine JL_nil ?_
           refine J_ret ?_
           refine ⟨.int .i64 (1), [], Ret.one rfl (RV.tmp rfl), Sub.nil, ?_⟩
           exact ⟨by refine congrArg (Value.int .i64) ?_; simp only [tHead]; (repeat' split) <;> first | rfl | omega | (exfalso; simp_all; done) | (exfalso; simp_all; omega) | grind, rfl⟩
          ·skip
           replace h59 := nf h59
           refine J_skip ?_
           refine J_seq ?_
           refine J_cut (fun ρ M => ρ 6 = .int .i64 (0) ∧ ρ 87 = .bool ((((decide (kind = 2)) || (decide (kind = 8))) || (decide (kind = 11))) && (decide (num < 0 ∨ 1073741824 < num))) ∧ M = [[(b2, .cells ⟨pkT (kind) (num) (ref) (ks) (cv)⟩ 27 (0, 0))], [(b1, .cells ⟨[.int .i64 (m), .func (.func 54) ⟨[]⟩ ⟨[.pointer (some ⟨bD, 0, none⟩)]⟩]⟩ 92 (0, 0))]]) ?_ ?_
           ·refine J_region ?_
            refine JL_pure (v := .pointer (some ⟨b2, 0, none⟩)) rfl (fa27_0 rfl rfl) ?_
            refine JL_run rfl (Pu_load1 ty3 rfl (At.bx 0 rfl) (pkT_0 ..) ?_)
            refine JL_pure (v := .bool (decide (kind = 2))) rfl (Pu.eql rfl rfl) ?_
            refine JL_pure (v := .bool (decide (kind = 2))) rfl (Pu.move rfl) ?_
            cases h60 : (decide (kind = 2)) with
            | true =>
             replace h60 := dt h60
             refine JL_skip rfl ?_
             refine JL_skip rfl ?_
             refine JL_skip rfl ?_
             refine JL_pure (v := .bool (true)) rfl (Pu.pickT rfl rfl) ?_
             refine JL_pure (v := .bool (true)) rfl (Pu.move rfl) ?_
             refine JL_skip rfl ?_
             refine JL_skip rfl ?_
             refine JL_skip rfl ?_
             refine JL_pure (v := .bool (true)) rfl (Pu.pickT rfl rfl) ?_
             refine JL_pure (v := .bool (true)) rfl (Pu.move rfl) ?_
             refine JL_pure (v := .pointer (some ⟨b2, 1, none⟩)) rfl (fa27_1 rfl rfl) ?_
             refine JL_run rfl (Pu_load1 ty3 rfl (At.bx 0 rfl) (pkT_1 ..) ?_)
             refine JL_pure (v := .int .i64 (1073741824)) rfl (Pu.move rfl) ?_
             refine JL_call rfl Tryz.call76 rfl (fun hin => off_ct _ _ _ _) rfl ?_
             rintro _ _ ⟨rfl, rfl⟩
             refine JL_pure (v := .bool (decide (num < 0 ∨ 1073741824 < num))) rfl (Pu.pickT rfl rfl) ?_
             refine JL_nil ?_
             first | exact ⟨rfl, rfl, rfl⟩ | (exfalso; omega)
            | false =>
             replace h60 := df h60
             refine JL_pure (v := .pointer (some ⟨b2, 0, none⟩)) rfl (fa27_0 rfl rfl) ?_
             refine JL_run rfl (Pu_load1 ty3 rfl (At.bx 0 rfl) (pkT_0 ..) ?_)
             refine JL_pure (v := .bool (decide (kind = 8))) rfl (Pu.eql rfl rfl) ?_
             refine JL_pure (v := .bool (decide (kind = 8))) rfl (Pu.pickF rfl rfl) ?_
             refine JL_pure (v := .bool (decide (kind = 8))) rfl (Pu.move rfl) ?_
             cases h61 : (decide (kind = 8)) with
             | true =>
              replace h61 := dt h61
              refine JL_skip rfl ?_
              refine JL_skip rfl ?_
              refine JL_skip rfl ?_
              refine JL_pure (v := .bool (true)) rfl (Pu.pickT rfl rfl) ?_
              refine JL_pure (v := .bool (true)) rfl (Pu.move rfl) ?_
              refine JL_pure (v := .pointer (some ⟨b2, 1, none⟩)) rfl (fa27_1 rfl rfl) ?_
              refine JL_run rfl (Pu_load1 ty3 rfl (At.bx 0 rfl) (pkT_1 ..) ?_)
              refine JL_pure (v := .int .i64 (1073741824)) rfl (Pu.move rfl) ?_
              refine JL_call rfl Tryz.call76 rfl (fun hin => off_ct _ _ _ _) rfl ?_
              rintro _ _ ⟨rfl, rfl⟩
              refine JL_pure (v := .bool (decide (num < 0 ∨ 1073741824 < num))) rfl (Pu.pickT rfl rfl) ?_
              refine JL_nil ?_
              first | exact ⟨rfl, rfl, rfl⟩ | (exfalso; omega)
             | false =>
              replace h61 := df h61
              refine JL_pure (v := .pointer (some ⟨b2, 0, none⟩)) rfl (fa27_0 rfl rfl) ?_
              refine JL_run rfl (Pu_load1 ty3 rfl (At.bx 0 rfl) (pkT_0 ..) ?_)
              refine JL_pure (v := .bool (decide (kind = 11))) rfl (Pu.eql rfl rfl) ?_
              refine JL_pure (v := .bool (decide (kind = 11))) rfl (Pu.pickF rfl rfl) ?_
              refine JL_pure (v := .bool (decide (kind = 11))) rfl (Pu.move rfl) ?_
              cases h62 : (decide (kind = 11)) with
              | true =>
               replace h62 := dt h62
               refine JL_pure (v := .pointer (some ⟨b2, 1, none⟩)) rfl (fa27_1 rfl rfl) ?_
               refine JL_run rfl (Pu_load1 ty3 rfl (At.bx 0 rfl) (pkT_1 ..) ?_)
               refine JL_pure (v := .int .i64 (1073741824)) rfl (Pu.move rfl) ?_
               refine JL_call rfl Tryz.call76 rfl (fun hin => off_ct _ _ _ _) rfl ?_
               rintro _ _ ⟨rfl, rfl⟩
               refine JL_pure (v := .bool (decide (num < 0 ∨ 1073741824 < num))) rfl (Pu.pickT rfl rfl) ?_
               refine JL_nil ?_
               first | exact ⟨rfl, rfl, rfl⟩ | (exfalso; omega)
              | false =>
               replace h62 := df h62
               refine JL_skip rfl ?_
               refine JL_skip rfl ?_
               refine JL_skip rfl ?_
               refine JL_skip rfl ?_
               refine JL_pure (v := .bool (false)) rfl (Pu.pickF rfl rfl) ?_
               refine JL_nil ?_
               first | exact ⟨rfl, rfl, rfl⟩ | (exfalso; omega)
           ·rintro ρ63 _ ⟨e64, e65, rfl⟩
            obtain ⟨ρ66, rfl⟩ := reopen_ex (uc e64 (uc e65 un))
            clear e64 e65
            refine J_cond (b := (((decide (kind = 2)) || (decide (kind = 8))) || (decide (kind = 11))) && (decide (num < 0 ∨ 1073741824 < num))) rfl (fun h67 => ?_) (fun h67 => ?_)
            ·skip
             obtain ⟨h67a, h67b⟩ := andT h67
             replace h67b := dt h67b
             refine J_seq ?_
             refine J_region ?_
             refine JL_pure (v := .int .i64 (3)) rfl (Pu.assign rfl) ?_
             refine JL_nil ?_
             refine J_ret ?_
             refine ⟨.int .i64 (3), [], Ret.one rfl (RV.tmp rfl), Sub.nil, ?_⟩
             exact ⟨by refine congrArg (Value.int .i64) ?_; simp only [tHead]; (repeat' split) <;> first | rfl | omega | (exfalso; simp_all; done) | (exfalso; simp_all; omega) | grind, rfl⟩
            ·skip
             refine J_skip ?_
             refine J_seq ?_
             refine J_region ?_
             refine JL_pure (v := .int .i64 (0)) rfl (Pu.assign rfl) ?_
             refine JL_nil ?_
             refine J_ret ?_
             refine ⟨.int .i64 (0), [], Ret.one rfl (RV.tmp rfl), Sub.nil, ?_⟩
             exact ⟨by refine congrArg (Value.int .i64) ?_; simp only [tHead]; (repeat' split) <;> first | rfl | omega | (exfalso; simp_all; done) | (exfalso; simp_all; omega) | grind, rfl⟩
         ·skip
          replace h58 := df h58
          refine J_seq ?_
          refine J_region ?_
          refine JL_pure (v := .bool (decide (kind = 7))) rfl (Pu.eql rfl rfl) ?_
          refine JL_pure (v := .bool (decide (kind = 7))) rfl (Pu.assign rfl) ?_
          refine JL_nil ?_
          refine J_cond (b := decide (kind = 7)) rfl (fun h68 => ?_) (fun h68 => ?_)
          ·skip
           replace h68 := dt h68
           refine J_cut (fun ρ M => ρ 4 = .pointer (some ⟨b2, 0, none⟩) ∧ ρ 6 = .int .i64 (0) ∧ ρ 7 = .int .i64 (1073741824) ∧ ρ 68 = .bool ((decide (num < 0)) || (decide (m ≤ num))) ∧ M = [[(b2, .cells ⟨pkT (kind) (num) (ref) (ks) (cv)⟩ 27 (0, 0))], [(b1, .cells ⟨[.int .i64 (m), .func (.func 54) ⟨[]⟩ ⟨[.pointer (some ⟨bD, 0, none⟩)]⟩]⟩ 92 (0, 0))]]) ?_ ?_
           ·refine J_region ?_
            refine JL_pure (v := .pointer (some ⟨b2, 1, none⟩)) rfl (fa27_1 rfl rfl) ?_
            refine JL_run rfl (Pu_load1 ty3 rfl (At.bx 0 rfl) (pkT_1 ..) ?_)
            refine JL_pure (v := .bool (decide (num < 0))) rfl (Pu.lss rfl rfl) ?_
            refine JL_pure (v := .bool (decide (num < 0))) rfl (Pu.move rfl) ?_
            cases h69 : (decide (num < 0)) with
            | true =>
             replace h69 := dt h69
             refine JL_skip rfl ?_
             refine JL_skip rfl ?_
             refine JL_skip rfl ?_
             refine JL_skip rfl ?_
             refine JL_skip rfl ?_
             refine JL_pure (v := .bool (true)) rfl (Pu.pickT rfl rfl) ?_
             refine JL_nil ?_
             first | exact ⟨rfl, rfl, rfl, rfl, rfl⟩ | (exfalso; omega)
            | false =>
             replace h69 := df h69
             refine JL_pure (v := .pointer (some ⟨b2, 1, none⟩)) rfl (fa27_1 rfl rfl) ?_
             refine JL_run rfl (Pu_load1 ty3 rfl (At.bx 0 rfl) (pkT_1 ..) ?_)
             refine JL_pure (v := .pointer (some ⟨b1, 0, none⟩)) rfl (fa92_0 rfl rfl) ?_
             refine JL_run rfl (Pu_load1 ty3 rfl (At.bx 1 rfl) rfl ?_)
             refine JL_pure (v := .bool (decide (m ≤ num))) rfl (Pu.geq rfl rfl) ?_
             refine JL_pure (v := .bool (decide (m ≤ num))) rfl (Pu.pickF rfl rfl) ?_
             refine JL_nil ?_
             first | exact ⟨rfl, rfl, rfl, rfl, rfl⟩ | (exfalso; omega)
           ·rintro ρ70 _ ⟨e71, e72, e73, e74, rfl⟩
            obtain ⟨ρ75, rfl⟩ := reopen_ex (uc e71 (uc e72 (uc e73 (uc e74 un))))
            clear e71 e72 e73 e74
            refine J_cond (b := (decide (num < 0)) || (decide (m ≤ num))) rfl (fun h76 => ?_) (fun h76 => ?_)
            ·skip
             refine J_seq ?_
             refine J_region ?_
             refine JL_pure (v := .int .i64 (1)) rfl (Pu.assign rfl) ?_
             refine JL_nil ?_
             refine J_ret ?_
             refine ⟨.int .i64 (1), [], Ret.one rfl (RV.tmp rfl), Sub.nil, ?_⟩
             exact ⟨by refine congrArg (Value.int .i64) ?_; simp only [tHead]; (repeat' split) <;> first | rfl | omega | (exfalso; simp_all; done) | (exfalso; simp_all; omega) | grind, rfl⟩
            ·skip
             obtain ⟨h76a, h76b⟩ := orF h76
             replace h76a := df h76a
             replace h76b := df h76b
             refine J_skip ?_
             refine J_seq ?_
             refine J_cut (fun ρ M => ρ 6 = .int .i64 (0) ∧ ρ 87 = .bool ((((decide (kind = 2)) || (decide (kind = 8))) || (decide (kind = 11))) && (decide (num < 0 ∨ 1073741824 < num))) ∧ M = [[(b2, .cells ⟨pkT (kind) (num) (ref) (ks) (cv)⟩ 27 (0, 0))], [(b1, .cells ⟨[.int .i64 (m), .func (.func 54) ⟨[]⟩ ⟨[.pointer (some ⟨bD, 0, none⟩)]⟩]⟩ 92 (0, 0))]]) ?_ ?_
             ·refine J_region ?_
              refine JL_pure (v := .pointer (some ⟨b2, 0, none⟩)) rfl (fa27_0 rfl rfl) ?_
              refine JL_run rfl (Pu_load1 ty3 rfl (At.bx 0 rfl) (pkT_0 ..) ?_)
              refine JL_pure (v := .bool (decide (kind = 2))) rfl (Pu.eql rfl rfl) ?_
              refine JL_pure (v := .bool (decide (kind = 2))) rfl (Pu.move rfl) ?_
              cases h77 : (decide (kind = 2)) with
              | true =>
               replace h77 := dt h77
               refine JL_skip rfl ?_
               refine JL_skip rfl ?_
               refine JL_skip rfl ?_
               refine JL_pure (v := .bool (true)) rfl (Pu.pickT rfl rfl) ?_
               refine JL_pure (v := .bool (true)) rfl (Pu.move rfl) ?_
               refine JL_skip rfl ?_
               refine JL_skip rfl ?_
               refine JL_skip rfl ?_
               refine JL_pure (v := .bool (true)) rfl (Pu.pickT rfl rfl) ?_
               refine JL_pure (v := .bool (true)) rfl (Pu.move rfl) ?_
               refine JL_pure (v := .pointer (some ⟨b2, 1, none⟩)) rfl (fa27_1 rfl rfl) ?_
               refine JL_run rfl (Pu_load1 ty3 rfl (At.bx 0 rfl) (pkT_1 ..) ?_)
               refine JL_pure (v := .int .i64 (1073741824)) rfl (Pu.move rfl) ?_
               refine JL_call rfl Tryz.call76 rfl (fun hin => off_ct _ _ _ _) rfl ?_
               rintro _ _ ⟨rfl, rfl⟩
               refine JL_pure (v := .bool (decide (num < 0 ∨ 1073741824 < num))) rfl (Pu.pickT rfl rfl) ?_
               refine JL_nil ?_
               first | exact ⟨rfl, rfl, rfl⟩ | (exfalso; omega)
              | false =>
               replace h77 := df h77
               refine JL_pure (v := .pointer (some ⟨b2, 0, none⟩)) rfl (fa27_0 rfl rfl) ?_
               refine JL_run rfl (Pu_load1 ty3 rfl (At.bx 0 rfl) (pkT_0 ..) ?_)
               refine JL_pure (v := .bool (decide (kind = 8))) rfl (Pu.eql rfl rfl) ?_
               refine JL_pure (v := .bool (decide (kind = 8))) rfl (Pu.pickF rfl rfl) ?_
               refine JL_pure (v := .bool (decide (kind = 8))) rfl (Pu.move rfl) ?_
               cases h78 : (decide (kind = 8)) with
               | true =>
                replace h78 := dt h78
                refine JL_skip rfl ?_
                refine JL_skip rfl ?_
                refine JL_skip rfl ?_
                refine JL_pure (v := .bool (true)) rfl (Pu.pickT rfl rfl) ?_
                refine JL_pure (v := .bool (true)) rfl (Pu.move rfl) ?_
                refine JL_pure (v := .pointer (some ⟨b2, 1, none⟩)) rfl (fa27_1 rfl rfl) ?_
                refine JL_run rfl (Pu_load1 ty3 rfl (At.bx 0 rfl) (pkT_1 ..) ?_)
                refine JL_pure (v := .int .i64 (1073741824)) rfl (Pu.move rfl) ?_
                refine JL_call rfl Tryz.call76 rfl (fun hin => off_ct _ _ _ _) rfl ?_
                rintro _ _ ⟨rfl, rfl⟩
                refine JL_pure (v := .bool (decide (num < 0 ∨ 1073741824 < num))) rfl (Pu.pickT rfl rfl) ?_
                refine JL_nil ?_
                first | exact ⟨rfl, rfl, rfl⟩ | (exfalso; omega)
               | false =>
                replace h78 := df h78
                refine JL_pure (v := .pointer (some ⟨b2, 0, none⟩)) rfl (fa27_0 rfl rfl) ?_
                refine JL_run rfl (Pu_load1 ty3 rfl (At.bx 0 rfl) (pkT_0 ..) ?_)
                refine JL_pure (v := .bool (decide (kind = 11))) rfl (Pu.eql rfl rfl) ?_
                refine JL_pure (v := .bool (decide (kind = 11))) rfl (Pu.pickF rfl rfl) ?_
                refine JL_pure (v := .bool (decide (kind = 11))) rfl (Pu.move rfl) ?_
                cases h79 : (decide (kind = 11)) with
                | true =>
                 replace h79 := dt h79
                 refine JL_pure (v := .pointer (some ⟨b2, 1, none⟩)) rfl (fa27_1 rfl rfl) ?_
                 refine JL_run rfl (Pu_load1 ty3 rfl (At.bx 0 rfl) (pkT_1 ..) ?_)
                 refine JL_pure (v := .int .i64 (1073741824)) rfl (Pu.move rfl) ?_
                 refine JL_call rfl Tryz.call76 rfl (fun hin => off_ct _ _ _ _) rfl ?_
                 rintro _ _ ⟨rfl, rfl⟩
                 refine JL_pure (v := .bool (decide (num < 0 ∨ 1073741824 < num))) rfl (Pu.pickT rfl rfl) ?_
                 refine JL_nil ?_
                 first | exact ⟨rfl, rfl, rfl⟩ | (exfalso; omega)
                | false =>
                 replace h79 := df h79
                 refine JL_skip rfl ?_
                 refine JL_skip rfl ?_
                 refine JL_skip rfl ?_
                 refine JL_skip rfl ?_
                 refine JL_pure (v := .bool (false)) rfl (Pu.pickF rfl rfl) ?_
                 refine JL_nil ?_
                 first | exact ⟨rfl, rfl, rfl⟩ | (exfalso; omega)
             ·rintro ρ80 _ ⟨e81, e82, rfl⟩
              obtain ⟨ρ83, rfl⟩ := reopen_ex (uc e81 (uc e82 un))
              clear e81 e82
              refine J_cond (b := (((decide (kind = 2)) || (decide (kind = 8))) || (decide (kind = 11))) && (decide (num < 0 ∨ 1073741824 < num))) rfl (fun h84 => ?_) (fun h84 => ?_)
              ·skip
               obtain ⟨h84a, h84b⟩ := andT h84
               replace h84b := dt h84b
               refine J_seq ?_
               refine J_region ?_
               refine JL_pure (v := .int .i64 (3)) rfl (Pu.assign rfl) ?_
               refine JL_nil ?_
               refine J_ret ?_
               refine ⟨.int .i64 (3), [], Ret.one rfl (RV.tmp rfl), Sub.nil, ?_⟩
               exact ⟨by refine congrArg (Value.int .i64) ?_; simp only [tHead]; (repeat' split) <;> first | rfl | omega | (exfalso; simp_all; done) | (exfalso; simp_all; omega) | grind, rfl⟩
              ·skip
               refine J_skip ?_
               refine J_seq ?_
               refine J_region ?_
               refine JL_pure (v := .int .i64 (0)) rfl (Pu.assign rfl) ?_
               refine JL_nil ?_
               refine J_ret ?_
               refine ⟨.int .i64 (0), [], Ret.one rfl (RV.tmp rfl), Sub.nil, ?_⟩
               exact ⟨by refine congrArg (Value.int .i64) ?_; simp only [tHead]; (repeat' split) <;> first | rfl | omega | (exfalso; simp_all; done) | (exfalso; simp_all; omega) | grind, rfl⟩
          ·skip
           replace h68 := df h68
           refine J_skip ?_
           refine J_seq ?_
           refine J_cut (fun ρ M => ρ 6 = .int .i64 (0) ∧ ρ 87 = .bool ((((decide (kind = 2)) || (decide (kind = 8))) || (decide (kind = 11))) && (decide (num < 0 ∨ 1073741824 < num))) ∧ M = [[(b2, .cells ⟨pkT (kind) (num) (ref) (ks) (cv)⟩ 27 (0, 0))], [(b1, .cells ⟨[.int .i64 (m), .func (.func 54) ⟨[]⟩ ⟨[.pointer (some ⟨bD, 0, none⟩)]⟩]⟩ 92 (0, 0))]]) ?_ ?_
           ·refine J_region ?_
            refine JL_pure (v := .pointer (some ⟨b2, 0, none⟩)) rfl (fa27_0 rfl rfl) ?_
            refine JL_run rfl (Pu_load1 ty3 rfl (At.bx 0 rfl) (pkT_0 ..) ?_)
            refine JL_pure (v := .bool (decide (kind = 2))) rfl (Pu.eql rfl rfl) ?_
            refine JL_pure (v := .bool (decide (kind = 2))) rfl (Pu.move rfl) ?_
            cases h85 : (decide (kind = 2)) with
            | true =>
             replace h85 := dt h85
             refine JL_skip rfl ?_
             refine JL_skip rfl ?_
             refine JL_skip rfl ?_
             refine JL_pure (v := .bool (true)) rfl (Pu.pickT rfl rfl) ?_
             refine JL_pure (v := .bool (true)) rfl (Pu.move rfl) ?_
             refine JL_skip rfl ?_
             refine JL_skip rfl ?_
             refine JL_skip rfl ?_
             refine JL_pure (v := .bool (true)) rfl (Pu.pickT rfl rfl) ?_
             refine JL_pure (v := .bool (true)) rfl (Pu.move rfl) ?_
             refine JL_pure (v := .pointer (some ⟨b2, 1, none⟩)) rfl (fa27_1 rfl rfl) ?_
             refine JL_run rfl (Pu_load1 ty3 rfl (At.bx 0 rfl) (pkT_1 ..) ?_)
             refine JL_pure (v := .int .i64 (1073741824)) rfl (Pu.move rfl) ?_
             refine JL_call rfl Tryz.call76 rfl (fun hin => off_ct _ _ _ _) rfl ?_
             rintro _ _ ⟨rfl, rfl⟩
             refine JL_pure (v := .bool (decide (num < 0 ∨ 1073741824 < num))) rfl (Pu.pickT rfl rfl) ?_
             refine JL_nil ?_
             first | exact ⟨rfl, rfl, rfl⟩ | (exfalso; omega)
            | false =>
             replace h85 := df h85
             refine JL_pure (v := .pointer (some ⟨b2, 0, none⟩)) rfl (fa27_0 rfl rfl) ?_
             refine JL_run rfl (Pu_load1 ty3 rfl (At.bx 0 rfl) (pkT_0 ..) ?_)
             refine JL_pure (v := .bool (decide (kind = 8))) rfl (Pu.eql rfl rfl) ?_
             refine JL_pure (v := .bool (decide (kind = 8))) rfl (Pu.pickF rfl rfl) ?_
             refine JL_pure (v := .bool (decide (kind = 8))) rfl (Pu.move rfl) ?_
             cases h86 : (decide (kind = 8)) with
             | true =>
              replace h86 := dt h86
              refine JL_skip rfl ?_
              refine JL_skip rfl ?_
              refine JL_skip rfl ?_
              refine JL_pure (v := .bool (true)) rfl (Pu.pickT rfl rfl) ?_
              refine JL_pure (v := .bool (true)) rfl (Pu.move rfl) ?_
              refine JL_pure (v := .pointer (some ⟨b2, 1, none⟩)) rfl (fa27_1 rfl rfl) ?_
              refine JL_run rfl (Pu_load1 ty3 rfl (At.bx 0 rfl) (pkT_1 ..) ?_)
              refine JL_pure (v := .int .i64 (1073741824)) rfl (Pu.move rfl) ?_
              refine JL_call rfl Tryz.call76 rfl (fun hin => off_ct _ _ _ _) rfl ?_
              rintro _ _ ⟨rfl, rfl⟩
              refine JL_pure (v := .bool (decide (num < 0 ∨ 1073741824 < num))) rfl (Pu.pickT rfl rfl) ?_
              refine JL_nil ?_
              first | exact ⟨rfl, rfl, rfl⟩ | (exfalso; omega)
             | false =>
              replace h86 := df h86
              refine JL_pure (v := .pointer (some ⟨b2, 0, none⟩)) rfl (fa27_0 rfl rfl) ?_
              refine JL_run rfl (Pu_load1 ty3 rfl (At.bx 0 rfl) (pkT_0 ..) ?_)
              refine JL_pure (v := .bool (decide (kind = 11))) rfl (Pu.eql rfl rfl) ?_
              refine JL_pure (v := .bool (decide (kind = 11))) rfl (Pu.pickF rfl rfl) ?_
              refine JL_pure (v := .bool (decide (kind = 11))) rfl (Pu.move rfl) ?_
              cases h87 : (decide (kind = 11)) with
              | true =>
               replace h87 := dt h87
               refine JL_pure (v := .pointer (some ⟨b2, 1, none⟩)) rfl (fa27_1 rfl rfl) ?_
               refine JL_run rfl (Pu_load1 ty3 rfl (At.bx 0 rfl) (pkT_1 ..) ?_)
               refine JL_pure (v := .int .i64 (1073741824)) rfl (Pu.move rfl) ?_
               refine JL_call rfl Tryz.call76 rfl (fun hin => off_ct _ _ _ _) rfl ?_
               rintro _ _ ⟨rfl, rfl⟩
               refine JL_pure (v := .bool (decide (num < 0 ∨ 1073741824 < num))) rfl (Pu.pickT rfl rfl) ?_
               refine JL_nil ?_
               first | exact ⟨rfl, rfl, rfl⟩ | (exfalso; omega)
              | false =>
               replace h87 := df h87
               refine JL_skip rfl ?_
               refine JL_skip rfl ?_
               refine JL_skip rfl ?_
               refine JL_skip rfl ?_
               refine JL_pure (v := .bool (false)) rfl (Pu.pickF rfl rfl) ?_
               refine JL_nil ?_
               first | exact ⟨rfl, rfl, rfl⟩ | (exfalso; omega)
           ·rintro ρ88 _ ⟨e89, e90, rfl⟩
            obtain ⟨ρ91, rfl⟩ := reopen_ex (uc e89 (uc e90 un))
            clear e89 e90
            refine J_cond (b := (((decide (kind = 2)) || (decide (kind = 8))) || (decide (kind = 11))) && (decide (num < 0 ∨ 1073741824 < num))) rfl (fun h92 => ?_) (fun h92 => ?_)
            ·skip
             obtain ⟨h92a, h92b⟩ := andT h92
             replace h92b := dt h92b
             refine J_seq ?_
             refine J_region ?_
             refine JL_pure (v := .int .i64 (3)) rfl (Pu.assign rfl) ?_
             refine JL_nil ?_
             refine J_ret ?_
             refine ⟨.int .i64 (3), [], Ret.one rfl (RV.tmp rfl), Sub.nil, ?_⟩
             exact ⟨by refine congrArg (Value.int .i64) ?_; simp only [tHead]; (repeat' split) <;> first | rfl | omega | (exfalso; simp_all; done) | (exfalso; simp_all; omega) | grind, rfl⟩
            ·skip
             refine J_skip ?_
             refine J_seq ?_
             refine J_region ?_
             refine JL_pure (v := .int .i64 (0)) rfl (Pu.assign rfl) ?_
             refine JL_nil ?_
             refine J_ret ?_
             refine ⟨.int .i64 (0), [], Ret.one rfl (RV.tmp rfl), Sub.nil, ?_⟩
             exact ⟨by refine congrArg (Value.int .i64) ?_; simp only [tHead]; (repeat' split) <;> first | rfl | omega | (exfalso; simp_all; done) | (exfalso; simp_all; omega) | grind, rfl⟩
end Go.Proofs.YtdeinimmmjichaaGreat.Hs
/-! Walks, printed by a program of this session's own (gen.py). -/
namespace Go.Proofs.YtdeinimmmjichaaGreat.Hs
open Go Go.Proofs
set_option maxRecDepth 100000
set_option linter.unusedVariables false
set_option linter.unusedSimpArgs false
attribute [local irreducible] JL J CT wlo
theorem parts_ct (cs : List Value) (H : Heap) (hl : cs.length = 36) : CT Tryz.prog 68 ⟨[.agg ⟨cs⟩]⟩ [] H (fun v N => ∃ b, v = .func (.func 100) ⟨[]⟩ ⟨[.pointer (some ⟨b, 0, none⟩)]⟩ ∧ N = [[(b, .cells ⟨cs⟩ 27 (0, 0))]]) := by
 refine CT_enter Tryz.func68 rfl rfl ?_
 refine J_seq ?_
 refine J_region ?_
 refine JL_run rfl (Runs_box (l := cs) rfl rfl fun b1 => ?_)
 refine JL_pure (v := .nilFunc) rfl (Pu.assign rfl) ?_
 refine JL_nil ?_
 refine J_seq ?_
 refine J_region ?_
 refine JL_pure (v := .func (.func 100) ⟨[]⟩ ⟨[.pointer (some ⟨b1, 0, none⟩)]⟩) rfl (Pu.makeFunc rfl rfl) ?_
 refine JL_pure (v := .func (.func 100) ⟨[]⟩ ⟨[.pointer (some ⟨b1, 0, none⟩)]⟩) rfl (Pu.assign rfl) ?_
 refine JL_nil ?_
 refine J_ret ?_
 refine ⟨.func (.func 100) ⟨[]⟩ ⟨[.pointer (some ⟨b1, 0, none⟩)]⟩, [[(b1, .cells ⟨cs⟩ 27 (0, 0))]], Ret.one rfl (RV.tmp rfl), (Sk Sub.nil), ?_⟩
 exact ⟨_, rfl, rfl⟩
theorem parts1_ct (kind num : Int) (ref : Sm) (ks cv : Value) (kids : List Tm) (cases : List (Pt × Tm)) (H : Heap) (bT : Nat) (hks : rdS RT 36 H ks kids) (hcv : rdS RC 71 H cv cases) (hT : H bT = some (.cells ⟨pkT kind num ref ks cv⟩ 27 (0, 0))) (hsz : ∀ c ∈ cases, binds c.1 ≤ 1000000) (hkl : kids.length ≤ 1000000) (hcl : cases.length ≤ 1000000) (l : Nat) {σ : Type} (yc : σ → Chunk) (Inv : σ → Prop) (step : Tm → Int → σ → Bool × σ) (s0 : σ) (h0 : Inv s0) (It : Tm → Int → Prop) (hIK : ∀ (j : Nat) (hj : j < kids.length), It kids[j] (more kind j)) (hIC : ∀ (j : Nat) (hj : j < cases.length), It cases[j].2 (binds cases[j].1 : Int)) (hI : ∀ x mo s, Inv s → (step x mo s).1 = true → Inv (step x mo s).2) (hy : ∀ x mo, It x mo → ∀ s (i : Int) a h, Inv s → Hle H h → RT h a x → YT Tryz.prog l ⟨[.int .i64 i, .agg ⟨a ++ [.int .i64 mo]⟩]⟩ [yc s] h (fun v N => v = .bool (step x mo s).1 ∧ N = [yc (step x mo s).2])) : CT Tryz.prog 100 ⟨[.func (.yield l) ⟨[]⟩ ⟨[]⟩, .pointer (some ⟨bT, 0, none⟩)]⟩ [yc s0] H (fun _ N => N = [yc (yP step kind kids cases s0)]) := by
 refine CT_enter Tryz.func100 rfl rfl ?_
 refine J_seq ?_
 refine J_seq ?_
 refine J_region ?_
 refine JL_pure (v := .pointer (some ⟨bT, 34, none⟩)) rfl (fa27_3 rfl rfl) ?_
 refine JL_run rfl (Pu_load1 ty24 rfl (At.im hT) (pkT_34 ..) ?_)
 obtain ⟨a1, cap1, hv1⟩ := hks.sl
 have hle1 := hks.le
 refine JL_pure (v := .int .i64 (((kids).length : Int))) rfl (Pu.lenSl Tryz.runUnderlying24 hv1) ?_
 refine JL_pure (v := .int .i64 (0)) rfl (Pu.move rfl) ?_
 refine JL_nil ?_
 refine J_block ?_
 refine J_loop (fun k ρ M => ∃ (j : Nat) (s : σ), ρ 0 = .func (.yield l) ⟨[]⟩ ⟨[]⟩ ∧ ρ 1 = .pointer (some ⟨bT, 0, none⟩) ∧ ρ 8 = ks ∧ ρ 9 = .int .i64 (((kids).length : Int)) ∧ ρ 10 = .int .i64 ((j : Int)) ∧ Sub [yc s] M ∧ j ≤ (kids).length ∧ Inv s ∧ yK step kind j (kids.drop j) s = yK step kind 0 kids s0 ∧ k = (kids).length - j) _ ⟨0, s0, rfl, rfl, rfl, rfl, rfl, (Sk Sub.nil), Nat.zero_le _, h0, rfl, rfl⟩ ?_
 rintro _ ρ2 _ ⟨j, s, e3, e4, e5, e6, e7, hm8, hj, hs, hinv, rfl⟩
 obtain ⟨ρ9, rfl⟩ := reopen_ex (uc e3 (uc e4 (uc e5 (uc e6 (uc e7 un)))))
 clear e3 e4 e5 e6 e7
 refine J_sub hm8 ?_
 have hlen := hks.le
 refine J_seq ?_
 refine J_region ?_
 refine JL_pure (v := .bool (decide ((j : Int) < ((kids).length : Int)))) rfl (Pu.lss rfl rfl) ?_
 refine JL_nil ?_
 refine J_seq ?_
 refine J_cond (b := decide ((j : Int) < ((kids).length : Int))) rfl (fun h10 => ?_) (fun h10 => ?_)
 ·skip
  replace h10 := dt h10
  have h10n : j < (kids).length := by omega
  refine J_skip ?_
  refine J_seq ?_
  refine J_block ?_
  refine J_seq ?_
  refine J_region ?_
  refine JL_pure (v := .int .i64 ((j : Int))) rfl (Pu.move rfl) ?_
  obtain ⟨b11, o11, cap11, row11, T11, fr11, cs11, hv11, hb11, hs11, hE11⟩ := hks.get j (by first | assumption | omega | decide | simp)
  refine JL_pure (v := .pointer (some ⟨b11, o11 + j * 36, none⟩)) rfl (Pu.idx j Tryz.runUnderlying24 ty27 hv11 rfl rfl (by first | assumption | omega | decide | simp)) ?_
  refine JL_run rfl (Pu_load ty27 rfl (At.im hb11) hs11 ?_)
  refine JL_run rfl (Runs_alloc (l := pkT (0) (0) (zS) (.slice none 0 0) (.slice none 0 0)) Tryz.zeroValue27 rfl fun b12 => ?_)
  refine JL_pure (v := .int .i64 ((j : Int))) rfl (Pu.assign rfl) ?_
  refine JL_run rfl (Runs_storeB 0 (vs := cs11) (l := cs11) ty27 rfl rfl rfl rfl (RT_len hE11) (RT_ok hE11) (spl_a (n := 36) rfl (RT_len hE11)) ?_)
  refine JL_nil ?_
  refine J_seq ?_
  refine J_draw mixed #[0, 0, 0, 0, 8, 0, 56, 124, 255, 511] 8 8 2 rfl (by kernel_rfl) (fun i r13 N13 => match i with | 0 => (r13 0) = .func (.yield l) ⟨[]⟩ ⟨[]⟩ | 1 => (r13 1) = .int .i64 ((j : Int)) | 2 => (r13 2) = .agg ⟨cs11⟩ | 3 => (r13 3) = .pointer (some ⟨bT, 0, none⟩) | 4 => (r13 4) = .int .i64 (kind) | 5 => (r13 5) = .int .i64 ((j : Int)) | 6 => (r13 6) = .int .i64 (more (kind) ((j : Int))) | 7 => (r13 7) = .agg ⟨(cs11) ++ ([.int .i64 (more (kind) ((j : Int)))] : List Value)⟩ | _ => True) ⟨?_, ?_, ?_, ?_, ?_, ?_, ?_, ?_, trivial⟩ ?_
  ·intro ρ r13 N13 B hB hBa hp hr hr0
   have q0 : ρ 0 = .func (.yield l) ⟨[]⟩ ⟨[]⟩ := hr0 0 (by kernel_rfl)
   obtain ⟨ρ14, rfl⟩ := reopen_ex (uc q0 un)
   clear q0
   refine JL_pure (v := .func (.yield l) ⟨[]⟩ ⟨[]⟩) rfl (Pu.move rfl) ?_
   refine JL_nil ?_
   exact ⟨.func (.yield l) ⟨[]⟩ ⟨[]⟩, [], rfl, (Sub.emp Sub.refl), rfl⟩
  ·intro ρ r13 N13 B hB hBa hp hr hr0
   have q3 : ρ 3 = .int .i64 ((j : Int)) := hr0 3 (by kernel_rfl)
   obtain ⟨ρ15, rfl⟩ := reopen_ex (uc q3 un)
   clear q3
   refine JL_pure (v := .int .i64 ((j : Int))) rfl (Pu.move rfl) ?_
   refine JL_nil ?_
   exact ⟨.int .i64 ((j : Int)), [], rfl, (Sub.emp Sub.refl), rfl⟩
  ·intro ρ r13 N13 B hB hBa hp hr hr0
   have q4 : ρ 4 = .pointer (some ⟨b12, 0, none⟩) := hr0 4 (by kernel_rfl)
   obtain ⟨ρ16, rfl⟩ := reopen_ex (uc q4 un)
   clear q4
   refine JL_run rfl (Pu_load ty27 rfl (At.bx 8 (made_old ((hB 0 (by decide)).trans rfl))) (sub_a (RT_len hE11)) ?_)
   refine JL_nil ?_
   exact ⟨.agg ⟨cs11⟩, [], rfl, (Sub.emp Sub.refl), rfl⟩
  ·intro ρ r13 N13 B hB hBa hp hr hr0
   have q1 : ρ 1 = .pointer (some ⟨bT, 0, none⟩) := hr0 1 (by kernel_rfl)
   obtain ⟨ρ17, rfl⟩ := reopen_ex (uc q1 un)
   clear q1
   refine JL_pure (v := .pointer (some ⟨bT, 0, none⟩)) rfl (fa27_0 rfl rfl) ?_
   refine JL_nil ?_
   exact ⟨.pointer (some ⟨bT, 0, none⟩), [], rfl, (Sub.emp Sub.refl), rfl⟩
  ·intro ρ r13 N13 B hB hBa hp hr hr0
   have q18 : ρ 18 = .pointer (some ⟨bT, 0, none⟩) := (hr 3 _ _ (by decide) rfl rfl rfl).trans (hp 3 (by decide) rfl)
   obtain ⟨ρ18, rfl⟩ := reopen_ex (uc q18 un)
   clear q18
   refine JL_run rfl (Pu_load1 ty3 rfl (At.im hT) (pkT_0 ..) ?_)
   refine JL_nil ?_
   exact ⟨.int .i64 (kind), [], rfl, (Sub.emp Sub.refl), rfl⟩
  ·intro ρ r13 N13 B hB hBa hp hr hr0
   have q3 : ρ 3 = .int .i64 ((j : Int)) := hr0 3 (by kernel_rfl)
   obtain ⟨ρ19, rfl⟩ := reopen_ex (uc q3 un)
   clear q3
   refine JL_pure (v := .int .i64 ((j : Int))) rfl (Pu.move rfl) ?_
   refine JL_nil ?_
   exact ⟨.int .i64 ((j : Int)), [], rfl, (Sub.emp Sub.refl), rfl⟩
  ·intro ρ r13 N13 B hB hBa hp hr hr0
   have q19 : ρ 19 = .int .i64 (kind) := (hr 4 _ _ (by decide) rfl rfl rfl).trans (hp 4 (by decide) rfl)
   have q20 : ρ 20 = .int .i64 ((j : Int)) := (hr 5 _ _ (by decide) rfl rfl rfl).trans (hp 5 (by decide) rfl)
   obtain ⟨ρ20, rfl⟩ := reopen_ex (uc q19 (uc q20 un))
   clear q19 q20
   refine JL_call rfl Tryz.call101 rfl (fun hin => more_ct _ _ _) rfl ?_
   rintro _ _ ⟨rfl, rfl⟩
   refine JL_nil ?_
   exact ⟨.int .i64 (more (kind) ((j : Int))), [], rfl, (Sub.emp Sub.refl), rfl⟩
  ·intro ρ r13 N13 B hB hBa hp hr hr0
   have q17 : ρ 17 = .agg ⟨cs11⟩ := (hr 2 _ _ (by decide) rfl rfl rfl).trans (hp 2 (by decide) rfl)
   have q21 : ρ 21 = .int .i64 (more (kind) ((j : Int))) := (hr 6 _ _ (by decide) rfl rfl rfl).trans (hp 6 (by decide) rfl)
   obtain ⟨ρ21, rfl⟩ := reopen_ex (uc q17 (uc q21 un))
   clear q17 q21
   refine JL_pure (v := .agg ⟨(cs11) ++ ([.int .i64 (more (kind) ((j : Int)))] : List Value)⟩) rfl (Pu.build (pv := [(0, .agg ⟨cs11⟩), (1, .int .i64 (more (kind) ((j : Int))))]) (l := (cs11) ++ ([.int .i64 (more (kind) ((j : Int)))] : List Value)) rfl (bld105_0_1 (RT_len hE11))) ?_
   refine JL_nil ?_
   exact ⟨.agg ⟨(cs11) ++ ([.int .i64 (more (kind) ((j : Int)))] : List Value)⟩, [], rfl, (Sub.emp Sub.refl), rfl⟩
  ·intro ρ r13 N13 hp hr hr0
   have q0 : ρ 0 = .func (.yield l) ⟨[]⟩ ⟨[]⟩ := hr0 0 (by kernel_rfl)
   have q1 : ρ 1 = .pointer (some ⟨bT, 0, none⟩) := hr0 1 (by kernel_rfl)
   have q8 : ρ 8 = ks := hr0 8 (by kernel_rfl)
   have q9 : ρ 9 = .int .i64 (((kids).length : Int)) := hr0 9 (by kernel_rfl)
   have q10 : ρ 10 = .int .i64 ((j : Int)) := hr0 10 (by kernel_rfl)
   have q15 : ρ 15 = .func (.yield l) ⟨[]⟩ ⟨[]⟩ := (hr 0 _ _ (by decide) rfl rfl).trans (hp 0 (by decide))
   have q16 : ρ 16 = .int .i64 ((j : Int)) := (hr 1 _ _ (by decide) rfl rfl).trans (hp 1 (by decide))
   have q22 : ρ 22 = .agg ⟨(cs11) ++ ([.int .i64 (more (kind) ((j : Int)))] : List Value)⟩ := (hr 7 _ _ (by decide) rfl rfl).trans (hp 7 (by decide))
   obtain ⟨ρ22, rfl⟩ := reopen_ex (uc q0 (uc q1 (uc q8 (uc q9 (uc q10 (uc q15 (uc q16 (uc q22 un))))))))
   clear q0 q1 q8 q9 q10 q15 q16 q22
   clear hp hr hr0 
   refine JL_sub (M' := [(N13 0), (N13 1), (N13 2), (N13 3), (N13 4), (N13 5), (N13 6), (N13 7), [(b12, .cells ⟨cs11⟩ 27 (0, 0))], yc s]) Sub.refl ?_
   refine JL_sub (M' := [[(b12, .cells ⟨cs11⟩ 27 (0, 0))], yc s]) (Sd (Sd (Sd (Sd (Sd (Sd (Sd (Sd (Sk (Sk Sub.nil)))))))))) ?_
   show JL _ _ _ [_, _] _ _ _
   refine JL_yield1 1 rfl rfl rfl (fun hin => hy _ _ (hIK j h10n) _ _ _ _ hs (Hle.hu _ _) (RT.mono (Hle.hu _ _) hE11)) rfl ?_
   rintro _ _ ⟨rfl, rfl⟩
   refine JL_pure (v := .bool (!((step ((kids)[j]) (more (kind) ((j : Int))) (s)).1))) rfl (Pu.not rfl) ?_
   refine JL_nil ?_
   refine J_cond (b := !((step ((kids)[j]) (more (kind) ((j : Int))) (s)).1)) rfl (fun h23 => ?_) (fun h23 => ?_)
   ·skip
    replace h23 := nt h23
    refine J_ret ?_
    refine ⟨.tuple ⟨[]⟩, [yc (step ((kids)[j]) (more (kind) ((j : Int))) (s)).2], Ret.none rfl, (Sk Sub.nil), ?_⟩
    rw [dropc h10n, yK, if_neg (by simp [h23])] at hinv
    show _ = _; rw [yP, ← hinv]; rfl
   ·skip
    replace h23 := nf h23
    refine J_skip ?_
    refine J_region ?_
    refine JL_pure (v := .int .i64 (((j + 1 : Nat) : Int))) rfl (Pu.inc rfl rfl (by omega)) ?_
    refine JL_pure (v := .int .i64 (((j + 1 : Nat) : Int))) rfl (Pu.move rfl) ?_
    refine JL_nil ?_
    refine ⟨_, ?_, (j + 1), ((step ((kids)[j]) (more (kind) ((j : Int))) (s)).2), rfl, rfl, rfl, rfl, rfl, (Sk Sub.nil), ?_, ?_, ?_, rfl⟩
    ·omega
    ·omega
    ·exact hI _ _ s hs h23
    ·rw [dropc h10n, yK, if_pos h23] at hinv; exact hinv
 ·skip
  replace h10 := df h10
  have h10n : (kids).length ≤ j := by omega
  refine J_exit _ rfl ?_
  refine J_seq ?_
  refine J_region ?_
  refine JL_pure (v := .pointer (some ⟨bT, 35, none⟩)) rfl (fa27_4 rfl rfl) ?_
  refine JL_run rfl (Pu_load1 ty25 rfl (At.im hT) (pkT_35 ..) ?_)
  obtain ⟨a24, cap24, hv24⟩ := hcv.sl
  have hle24 := hcv.le
  refine JL_pure (v := .int .i64 (((cases).length : Int))) rfl (Pu.lenSl Tryz.runUnderlying25 hv24) ?_
  refine JL_pure (v := .int .i64 (0)) rfl (Pu.move rfl) ?_
  refine JL_nil ?_
  refine J_block ?_
  have hk1 : yK step kind 0 kids s0 = (true, s) := by rw [← hinv, dropn h10n]; rfl
  refine J_loop (fun k ρ M => ∃ (j : Nat) (s2 : σ), ρ 0 = .func (.yield l) ⟨[]⟩ ⟨[]⟩ ∧ ρ 1 = .pointer (some ⟨bT, 0, none⟩) ∧ ρ 27 = cv ∧ ρ 28 = .int .i64 (((cases).length : Int)) ∧ ρ 29 = .int .i64 ((j : Int)) ∧ Sub [yc s2] M ∧ j ≤ (cases).length ∧ Inv s2 ∧ yC step (cases.drop j) s2 = yC step cases s ∧ k = (cases).length - j) _ ⟨0, s, rfl, rfl, rfl, rfl, rfl, (Sk Sub.nil), Nat.zero_le _, hs, rfl, rfl⟩ ?_
  rintro _ ρ25 _ ⟨j, s2, e26, e27, e28, e29, e30, hm31, hj, hs, hinv, rfl⟩
  obtain ⟨ρ32, rfl⟩ := reopen_ex (uc e26 (uc e27 (uc e28 (uc e29 (uc e30 un)))))
  clear e26 e27 e28 e29 e30
  refine J_sub hm31 ?_
  have hlen := hcv.le
  refine J_seq ?_
  refine J_region ?_
  refine JL_pure (v := .bool (decide ((j : Int) < ((cases).length : Int)))) rfl (Pu.lss rfl rfl) ?_
  refine JL_nil ?_
  refine J_seq ?_
  refine J_cond (b := decide ((j : Int) < ((cases).length : Int))) rfl (fun h33 => ?_) (fun h33 => ?_)
  ·skip
   replace h33 := dt h33
   have h33n : j < (cases).length := by omega
   have hbm := hsz _ (List.getElem_mem h33n)
   have hlenk := hks.le
   refine J_skip ?_
   refine J_seq ?_
   refine J_block ?_
   refine J_seq ?_
   refine J_region ?_
   refine JL_pure (v := .int .i64 ((j : Int))) rfl (Pu.move rfl) ?_
   obtain ⟨b34, o34, cap34, row34, T34, fr34, cs34, hv34, hb34, hs34, hE34⟩ := hcv.get j (by first | assumption | omega | decide | simp)
   obtain ⟨ca34, cb34, rfl, hA34, hB34⟩ := hE34
   refine JL_pure (v := .pointer (some ⟨b34, o34 + j * 71, none⟩)) rfl (Pu.idx j Tryz.runUnderlying25 ty34 hv34 rfl rfl (by first | assumption | omega | decide | simp)) ?_
   refine JL_run rfl (Pu_load ty34 rfl (At.im hb34) hs34 ?_)
   refine JL_run rfl (Runs_alloc (l := (pkP (0) (0) (zS) (.slice none 0 0)) ++ (pkT (0) (0) (zS) (.slice none 0 0) (.slice none 0 0))) Tryz.zeroValue34 rfl fun b35 => ?_)
   refine JL_pure (v := .int .i64 ((j : Int))) rfl (Pu.assign rfl) ?_
   refine JL_run rfl (Runs_storeB 0 (vs := (ca34) ++ (cb34)) (l := (ca34) ++ (cb34)) ty34 rfl rfl rfl rfl (len_app (RP_len hA34) (RT_len hB34)) (okc_app (RP_ok hA34) (RT_ok hB34)) (spl_a (n := 71) rfl (len_app (RP_len hA34) (RT_len hB34))) ?_)
   refine JL_nil ?_
   refine J_seq ?_
   obtain ⟨a37, cap37, hv37⟩ := hks.sl
   have hle37 := hks.le
   refine J_draw mixed #[0, 0, 2, 6, 0, 30, 0, 64, 0, 256, 768, 1984, 4095, 8191] 12 12 2 rfl (by kernel_rfl) (fun i r36 N36 => match i with | 0 => (r36 0) = .func (.yield l) ⟨[]⟩ ⟨[]⟩ | 1 => (r36 1) = .pointer (some ⟨bT, 34, none⟩) | 2 => (r36 2) = ks | 3 => (r36 3) = .int .i64 (((kids).length : Int)) | 4 => (r36 4) = .int .i64 ((j : Int)) | 5 => (r36 5) = .int .i64 (((kids).length : Int) + ((j : Int))) | 6 => (r36 6) = .pointer (some ⟨b35, 35, none⟩) | 7 => (r36 7) = .agg ⟨cb34⟩ | 8 => (r36 8) = .pointer (some ⟨b35, 0, none⟩) | 9 => (r36 9) = .agg ⟨ca34⟩ | 10 => (r36 10) = .int .i64 ((binds ((cases)[j].1) : Int)) | 11 => (r36 11) = .agg ⟨(cb34) ++ ([.int .i64 ((binds ((cases)[j].1) : Int))] : List Value)⟩ | _ => True) ⟨?_, ?_, ?_, ?_, ?_, ?_, ?_, ?_, ?_, ?_, ?_, ?_, trivial⟩ ?_
   ·intro ρ r36 N36 B hB hBa hp hr hr0
    have q0 : ρ 0 = .func (.yield l) ⟨[]⟩ ⟨[]⟩ := hr0 0 (by kernel_rfl)
    obtain ⟨ρ38, rfl⟩ := reopen_ex (uc q0 un)
    clear q0
    refine JL_pure (v := .func (.yield l) ⟨[]⟩ ⟨[]⟩) rfl (Pu.move rfl) ?_
    refine JL_nil ?_
    exact ⟨.func (.yield l) ⟨[]⟩ ⟨[]⟩, [], rfl, (Sub.emp Sub.refl), rfl⟩
   ·intro ρ r36 N36 B hB hBa hp hr hr0
    have q1 : ρ 1 = .pointer (some ⟨bT, 0, none⟩) := hr0 1 (by kernel_rfl)
    obtain ⟨ρ39, rfl⟩ := reopen_ex (uc q1 un)
    clear q1
    refine JL_pure (v := .pointer (some ⟨bT, 34, none⟩)) rfl (fa27_3 rfl rfl) ?_
    refine JL_nil ?_
    exact ⟨.pointer (some ⟨bT, 34, none⟩), [], rfl, (Sub.emp Sub.refl), rfl⟩
   ·intro ρ r36 N36 B hB hBa hp hr hr0
    have q35 : ρ 35 = .pointer (some ⟨bT, 34, none⟩) := (hr 1 _ _ (by decide) rfl rfl rfl).trans (hp 1 (by decide) rfl)
    obtain ⟨ρ40, rfl⟩ := reopen_ex (uc q35 un)
    clear q35
    refine JL_run rfl (Pu_load1 ty24 rfl (At.im hT) (pkT_34 ..) ?_)
    refine JL_nil ?_
    exact ⟨ks, [], rfl, (Sub.emp Sub.refl), rfl⟩
   ·intro ρ r36 N36 B hB hBa hp hr hr0
    have q36 : ρ 36 = ks := (hr 2 _ _ (by decide) rfl rfl rfl).trans (hp 2 (by decide) rfl)
    obtain ⟨ρ41, rfl⟩ := reopen_ex (uc q36 un)
    clear q36
    refine JL_pure (v := .int .i64 (((kids).length : Int))) rfl (Pu.lenSl Tryz.runUnderlying24 hv37) ?_
    refine JL_nil ?_
    exact ⟨.int .i64 (((kids).length : Int)), [], rfl, (Sub.emp Sub.refl), rfl⟩
   ·intro ρ r36 N36 B hB hBa hp hr hr0
    have q5 : ρ 5 = .int .i64 ((j : Int)) := hr0 5 (by kernel_rfl)
    obtain ⟨ρ42, rfl⟩ := reopen_ex (uc q5 un)
    clear q5
    refine JL_pure (v := .int .i64 ((j : Int))) rfl (Pu.move rfl) ?_
    refine JL_nil ?_
    exact ⟨.int .i64 ((j : Int)), [], rfl, (Sub.emp Sub.refl), rfl⟩
   ·intro ρ r36 N36 B hB hBa hp hr hr0
    have q37 : ρ 37 = .int .i64 (((kids).length : Int)) := (hr 3 _ _ (by decide) rfl rfl rfl).trans (hp 3 (by decide) rfl)
    have q38 : ρ 38 = .int .i64 ((j : Int)) := (hr 4 _ _ (by decide) rfl rfl rfl).trans (hp 4 (by decide) rfl)
    obtain ⟨ρ43, rfl⟩ := reopen_ex (uc q37 (uc q38 un))
    clear q37 q38
    refine JL_pure (v := .int .i64 (((kids).length : Int) + ((j : Int)))) rfl (Pu.add64 rfl rfl (by first | omega | (constructor <;> omega))) ?_
    refine JL_nil ?_
    exact ⟨.int .i64 (((kids).length : Int) + ((j : Int))), [], rfl, (Sub.emp Sub.refl), rfl⟩
   ·intro ρ r36 N36 B hB hBa hp hr hr0
    have q6 : ρ 6 = .pointer (some ⟨b35, 0, none⟩) := hr0 6 (by kernel_rfl)
    obtain ⟨ρ44, rfl⟩ := reopen_ex (uc q6 un)
    clear q6
    refine JL_pure (v := .pointer (some ⟨b35, 35, none⟩)) rfl (fa34_1 rfl rfl) ?_
    refine JL_nil ?_
    exact ⟨.pointer (some ⟨b35, 35, none⟩), [], rfl, (Sub.emp Sub.refl), rfl⟩
   ·intro ρ r36 N36 B hB hBa hp hr hr0
    have q40 : ρ 40 = .pointer (some ⟨b35, 35, none⟩) := (hr 6 _ _ (by decide) rfl rfl rfl).trans (hp 6 (by decide) rfl)
    obtain ⟨ρ45, rfl⟩ := reopen_ex (uc q40 un)
    clear q40
    refine JL_run rfl (Pu_load ty27 rfl (At.bx 12 (made_old ((hB 0 (by decide)).trans rfl))) (sub_r (RP_len hA34) (RT_len hB34)) ?_)
    refine JL_nil ?_
    exact ⟨.agg ⟨cb34⟩, [], rfl, (Sub.emp Sub.refl), rfl⟩
   ·intro ρ r36 N36 B hB hBa hp hr hr0
    have q6 : ρ 6 = .pointer (some ⟨b35, 0, none⟩) := hr0 6 (by kernel_rfl)
    obtain ⟨ρ46, rfl⟩ := reopen_ex (uc q6 un)
    clear q6
    refine JL_pure (v := .pointer (some ⟨b35, 0, none⟩)) rfl (fa34_0 rfl rfl) ?_
    refine JL_nil ?_
    exact ⟨.pointer (some ⟨b35, 0, none⟩), [], rfl, (Sub.emp Sub.refl), rfl⟩
   ·intro ρ r36 N36 B hB hBa hp hr hr0
    have q42 : ρ 42 = .pointer (some ⟨b35, 0, none⟩) := (hr 8 _ _ (by decide) rfl rfl rfl).trans (hp 8 (by decide) rfl)
    obtain ⟨ρ47, rfl⟩ := reopen_ex (uc q42 un)
    clear q42
    refine JL_run rfl (Pu_load ty30 rfl (At.bx 12 (made_old ((hB 0 (by decide)).trans rfl))) (sub_l (RP_len hA34)) ?_)
    refine JL_nil ?_
    exact ⟨.agg ⟨ca34⟩, [], rfl, (Sub.emp Sub.refl), rfl⟩
   ·intro ρ r36 N36 B hB hBa hp hr hr0
    have q43 : ρ 43 = .agg ⟨ca34⟩ := (hr 9 _ _ (by decide) rfl rfl rfl).trans (hp 9 (by decide) rfl)
    obtain ⟨ρ48, rfl⟩ := reopen_ex (uc q43 un)
    clear q43
    refine JL_call rfl Tryz.call53 rfl (fun hin => binds_ct _ _ _ (RP.mono (Hle.hu _ _) hA34) (by omega)) rfl ?_
    rintro _ _ ⟨rfl, rfl⟩
    refine JL_nil ?_
    exact ⟨.int .i64 ((binds ((cases)[j].1) : Int)), [], rfl, (Sub.emp Sub.refl), rfl⟩
   ·intro ρ r36 N36 B hB hBa hp hr hr0
    have q41 : ρ 41 = .agg ⟨cb34⟩ := (hr 7 _ _ (by decide) rfl rfl rfl).trans (hp 7 (by decide) rfl)
    have q44 : ρ 44 = .int .i64 ((binds ((cases)[j].1) : Int)) := (hr 10 _ _ (by decide) rfl rfl rfl).trans (hp 10 (by decide) rfl)
    obtain ⟨ρ49, rfl⟩ := reopen_ex (uc q41 (uc q44 un))
    clear q41 q44
    refine JL_pure (v := .agg ⟨(cb34) ++ ([.int .i64 ((binds ((cases)[j].1) : Int))] : List Value)⟩) rfl (Pu.build (pv := [(0, .agg ⟨cb34⟩), (1, .int .i64 ((binds ((cases)[j].1) : Int)))]) (l := (cb34) ++ ([.int .i64 ((binds ((cases)[j].1) : Int))] : List Value)) rfl (bld105_0_1 (RT_len hB34))) ?_
    refine JL_nil ?_
    exact ⟨.agg ⟨(cb34) ++ ([.int .i64 ((binds ((cases)[j].1) : Int))] : List Value)⟩, [], rfl, (Sub.emp Sub.refl), rfl⟩
   ·intro ρ r36 N36 hp hr hr0
    have q0 : ρ 0 = .func (.yield l) ⟨[]⟩ ⟨[]⟩ := hr0 0 (by kernel_rfl)
    have q1 : ρ 1 = .pointer (some ⟨bT, 0, none⟩) := hr0 1 (by kernel_rfl)
    have q27 : ρ 27 = cv := hr0 27 (by kernel_rfl)
    have q28 : ρ 28 = .int .i64 (((cases).length : Int)) := hr0 28 (by kernel_rfl)
    have q29 : ρ 29 = .int .i64 ((j : Int)) := hr0 29 (by kernel_rfl)
    have q34 : ρ 34 = .func (.yield l) ⟨[]⟩ ⟨[]⟩ := (hr 0 _ _ (by decide) rfl rfl).trans (hp 0 (by decide))
    have q39 : ρ 39 = .int .i64 (((kids).length : Int) + ((j : Int))) := (hr 5 _ _ (by decide) rfl rfl).trans (hp 5 (by decide))
    have q45 : ρ 45 = .agg ⟨(cb34) ++ ([.int .i64 ((binds ((cases)[j].1) : Int))] : List Value)⟩ := (hr 11 _ _ (by decide) rfl rfl).trans (hp 11 (by decide))
    obtain ⟨ρ50, rfl⟩ := reopen_ex (uc q0 (uc q1 (uc q27 (uc q28 (uc q29 (uc q34 (uc q39 (uc q45 un))))))))
    clear q0 q1 q27 q28 q29 q34 q39 q45
    clear hp hr hr0 
    refine JL_sub (M' := [(N36 0), (N36 1), (N36 2), (N36 3), (N36 4), (N36 5), (N36 6), (N36 7), (N36 8), (N36 9), (N36 10), (N36 11), [(b35, .cells ⟨(ca34) ++ (cb34)⟩ 34 (0, 0))], yc s2]) Sub.refl ?_
    refine JL_sub (M' := [[(b35, .cells ⟨(ca34) ++ (cb34)⟩ 34 (0, 0))], yc s2]) (Sd (Sd (Sd (Sd (Sd (Sd (Sd (Sd (Sd (Sd (Sd (Sd (Sk (Sk Sub.nil)))))))))))))) ?_
    show JL _ _ _ [_, _] _ _ _
    refine JL_yield1 1 rfl rfl rfl (fun hin => hy _ _ (hIC j h33n) _ _ _ _ hs (Hle.hu _ _) (RT.mono (Hle.hu _ _) hB34)) rfl ?_
    rintro _ _ ⟨rfl, rfl⟩
    refine JL_pure (v := .bool (!((step ((cases)[j].2) ((binds ((cases)[j].1) : Int)) (s2)).1))) rfl (Pu.not rfl) ?_
    refine JL_nil ?_
    refine J_cond (b := !((step ((cases)[j].2) ((binds ((cases)[j].1) : Int)) (s2)).1)) rfl (fun h51 => ?_) (fun h51 => ?_)
    ·skip
     replace h51 := nt h51
     refine J_ret ?_
     refine ⟨.tuple ⟨[]⟩, [yc (step ((cases)[j].2) ((binds ((cases)[j].1) : Int)) (s2)).2], Ret.none rfl, (Sk Sub.nil), ?_⟩
     rw [dropc h33n, yC, if_neg (by simp [h51])] at hinv
     show _ = _; rw [yP, hk1, if_pos rfl, ← hinv]
    ·skip
     replace h51 := nf h51
     refine J_skip ?_
     refine J_region ?_
     refine JL_pure (v := .int .i64 (((j + 1 : Nat) : Int))) rfl (Pu.inc rfl rfl (by omega)) ?_
     refine JL_pure (v := .int .i64 (((j + 1 : Nat) : Int))) rfl (Pu.move rfl) ?_
     refine JL_nil ?_
     refine ⟨_, ?_, (j + 1), ((step ((cases)[j].2) ((binds ((cases)[j].1) : Int)) (s2)).2), rfl, rfl, rfl, rfl, rfl, (Sk Sub.nil), ?_, ?_, ?_, rfl⟩
     ·omega
     ·omega
     ·exact hI _ _ s2 hs h51
     ·rw [dropc h33n, yC, if_pos h51] at hinv; exact hinv
  ·skip
   replace h33 := df h33
   have h33n : (cases).length ≤ j := by omega
   refine J_exit _ rfl ?_
   refine ⟨.tuple ⟨[]⟩, [yc s2], Ret.none rfl, (Sk Sub.nil), ?_⟩
   show _ = _; rw [yP, hk1, if_pos rfl, ← hinv, dropn h33n]; rfl
end Go.Proofs.YtdeinimmmjichaaGreat.Hs
/-! Walks, printed by a program of this session's own (gen.py). -/
namespace Go.Proofs.YtdeinimmmjichaaGreat.Hs
open Go Go.Proofs
set_option maxRecDepth 100000
set_option linter.unusedVariables false
set_option linter.unusedSimpArgs false
attribute [local irreducible] JL J CT wlo
theorem all_ct : ∀ (t : Tm) (d m b : Int) (cs : List Value) (H : Heap) (bD : Nat), RT H cs t → H bD = some (.cells ⟨[.int .i64 d]⟩ 3 (0, 0)) → 0 ≤ b → b + 2 * sizeT t ≤ 1000000 → CT Tryz.prog 55 ⟨[.agg ⟨[.int .i64 (m), .func (.func 54) ⟨[]⟩ ⟨[.pointer (some ⟨bD, 0, none⟩)]⟩]⟩, .agg ⟨cs⟩, .int .i64 b]⟩ [] H (fun v N => v = .int .i64 (tErr d m b t) ∧ N = []) := by
 intro t
 induction t using Tm.ind with
 | h kind num ref kids cases ih ih' =>
 intro d m b cs H bD ht hD hb0 hb
 obtain ⟨ks, cv, rfl, hk, hn, hks, hcv⟩ := RT_mk.1 ht
 rw [sizeT] at hb
 have hn1 : -9223372036854775808 ≤ num := hn.1
 have hn2 : num ≤ 9223372036854775807 := hn.2
 have ihx : ∀ x mo, (fun x mo => ((∃ (j : Nat) (hj : j < kids.length), x = kids[j]) ∨ ∃ (j : Nat) (hj : j < cases.length), x = cases[j].2) ∧ 0 ≤ mo ∧ mo + 2 * (sizeT x : Int) ≤ 2 * ((1 + sizeTs kids + sizeCs cases : Nat) : Int)) x mo → ∀ (d m b : Int) (cs : List Value) (H : Heap) (bD : Nat), RT H cs x → H bD = some (.cells ⟨[.int .i64 d]⟩ 3 (0, 0)) → 0 ≤ b → b + 2 * sizeT x ≤ 1000000 → CT Tryz.prog 55 ⟨[.agg ⟨[.int .i64 (m), .func (.func 54) ⟨[]⟩ ⟨[.pointer (some ⟨bD, 0, none⟩)]⟩]⟩, .agg ⟨cs⟩, .int .i64 b]⟩ [] H (fun v N => v = .int .i64 (tErr d m b x) ∧ N = []) := by
  rintro x mo ⟨⟨j, hj, rfl⟩ | ⟨j, hj, rfl⟩, _, _⟩
  ·exact ih _ (List.getElem_mem hj)
  ·exact ih' _ (List.getElem_mem hj)
 refine CT_enter Tryz.func55 rfl rfl ?_
 refine J_seq ?_
 refine J_region ?_
 refine JL_run rfl (Runs_box (l := [.int .i64 (m), .func (.func 54) ⟨[]⟩ ⟨[.pointer (some ⟨bD, 0, none⟩)]⟩]) rfl rfl fun b1 => ?_)
 refine JL_run rfl (Runs_box (l := pkT (kind) (num) (ref) (ks) (cv)) rfl rfl fun b2 => ?_)
 refine JL_run rfl (Runs_box (l := [.int .i64 (b)]) rfl rfl fun b3 => ?_)
 refine JL_run rfl (Runs_alloc (l := [.int .i64 (0)]) Tryz.zeroValue40 rfl fun b4 => ?_)
 refine JL_nil ?_
 refine J_seq ?_
 refine J_seq ?_
 refine J_region ?_
 refine JL_run rfl (Pu_load ty92 rfl (At.bx 3 rfl) rfl ?_)
 refine JL_run rfl (Pu_load ty27 rfl (At.bx 2 rfl) (pkT_a ..) ?_)
 refine JL_run rfl (Pu_load1 ty3 rfl (At.bx 1 rfl) rfl ?_)
 refine JL_call rfl Tryz.call92 rfl (fun hin => chkTerm_ct _ _ _ _ _ _ _ _ _ _ _ bD (RTs.mono (Hle.hu _ _) hks) (RCs.mono (Hle.hu _ _) hcv) (Hle.hu _ _ _ _ hD) hb0 (by omega) hn1 hn2) rfl ?_
 rintro _ _ ⟨rfl, rfl⟩
 refine JL_pure (v := .int .i64 (tHead d m b kind num ref (kids).length (cases).length)) rfl (Pu.assign rfl) ?_
 refine JL_nil ?_
 refine J_seq ?_
 refine J_region ?_
 refine JL_pure (v := .int .i64 (tHead d m b kind num ref (kids).length (cases).length)) rfl (Pu.move rfl) ?_
 refine JL_pure (v := .bool (!decide (tHead d m b kind num ref (kids).length (cases).length = 0))) rfl (Pu.neq rfl rfl) ?_
 refine JL_nil ?_
 refine J_cond (b := !decide (tHead d m b kind num ref (kids).length (cases).length = 0)) rfl (fun h5 => ?_) (fun h5 => ?_)
 ·skip
  replace h5 := nt h5
  replace h5 := df h5
  refine J_seq ?_
  refine J_region ?_
  refine JL_pure (v := .int .i64 (tHead d m b kind num ref (kids).length (cases).length)) rfl (Pu.move rfl) ?_
  refine JL_run rfl (Runs_storeB 0 (vs := [.int .i64 (tHead d m b kind num ref (kids).length (cases).length)]) (l := [.int .i64 (tHead d m b kind num ref (kids).length (cases).length)]) ty40 rfl rfl rfl rfl rfl (okc_cons rfl okc_nil) rfl ?_)
  refine JL_nil ?_
  refine J_ret ?_
  refine ⟨.int .i64 (tHead d m b kind num ref (kids).length (cases).length), [], Ret.one rfl (RV.cell1 ty40 rfl (At.bx 0 rfl) rfl), Sub.nil, ?_⟩
  exact ⟨by rw [tErr, if_neg h5], rfl⟩
 ·skip
  replace h5 := nf h5
  replace h5 := dt h5
  refine J_skip ?_
  refine J_seq ?_
  refine J_seq ?_
  refine J_region ?_
  refine JL_pure (v := .pointer (some ⟨b2, 35, none⟩)) rfl (fa27_4 rfl rfl) ?_
  refine JL_run rfl (Pu_load1 ty25 rfl (At.bx 2 rfl) (pkT_35 ..) ?_)
  obtain ⟨a6, cap6, hv6⟩ := hcv.sl
  have hle6 := hcv.le
  refine JL_pure (v := .int .i64 (((cases).length : Int))) rfl (Pu.lenSl Tryz.runUnderlying25 hv6) ?_
  refine JL_pure (v := .int .i64 (0)) rfl (Pu.move rfl) ?_
  refine JL_nil ?_
  refine J_block ?_
  have hh0 : tHead d m b kind num ref kids.length cases.length = 0 := h5
  refine J_loop (fun k ρ M => ∃ (j : Nat), ρ 3 = .pointer (some ⟨b1, 0, none⟩) ∧ ρ 4 = .pointer (some ⟨b2, 0, none⟩) ∧ ρ 5 = .pointer (some ⟨b3, 0, none⟩) ∧ ρ 6 = .pointer (some ⟨b4, 0, none⟩) ∧ ρ 22 = cv ∧ ρ 23 = .int .i64 (((cases).length : Int)) ∧ ρ 24 = .int .i64 ((j : Int)) ∧ Sub [[(b4, .cells ⟨[.int .i64 (0)]⟩ 40 (0, 0))], [(b3, .cells ⟨[.int .i64 (b)]⟩ 3 (0, 0))], [(b2, .cells ⟨pkT (kind) (num) (ref) (ks) (cv)⟩ 27 (0, 0))], [(b1, .cells ⟨[.int .i64 (m), .func (.func 54) ⟨[]⟩ ⟨[.pointer (some ⟨bD, 0, none⟩)]⟩]⟩ 92 (0, 0))]] M ∧ j ≤ (cases).length ∧ pErrsC (cases.drop j) = pErrsC cases ∧ k = (cases).length - j) _ ⟨0, rfl, rfl, rfl, rfl, rfl, rfl, rfl, (Sk (Sk (Sk (Sk Sub.nil)))), Nat.zero_le _, rfl, rfl⟩ ?_
  rintro _ ρ7 _ ⟨j, e8, e9, e10, e11, e12, e13, e14, hm15, hj, hinv, rfl⟩
  obtain ⟨ρ16, rfl⟩ := reopen_ex (uc e8 (uc e9 (uc e10 (uc e11 (uc e12 (uc e13 (uc e14 un)))))))
  clear e8 e9 e10 e11 e12 e13 e14
  refine J_sub hm15 ?_
  have hlen := hcv.le
  refine J_seq ?_
  refine J_region ?_
  refine JL_pure (v := .bool (decide ((j : Int) < ((cases).length : Int)))) rfl (Pu.lss rfl rfl) ?_
  refine JL_nil ?_
  refine J_seq ?_
  refine J_cond (b := decide ((j : Int) < ((cases).length : Int))) rfl (fun h17 => ?_) (fun h17 => ?_)
  ·skip
   replace h17 := dt h17
   have h17n : j < (cases).length := by omega
   refine J_skip ?_
   refine J_seq ?_
   refine J_block ?_
   refine J_seq ?_
   refine J_region ?_
   obtain ⟨b18, o18, cap18, row18, T18, fr18, cs18, hv18, hb18, hs18, hE18⟩ := hcv.get j (by first | assumption | omega | decide | simp)
   obtain ⟨ca18, cb18, rfl, hA18, hB18⟩ := hE18
   refine JL_pure (v := .pointer (some ⟨b18, o18 + j * 71, none⟩)) rfl (Pu.idx j Tryz.runUnderlying25 ty34 hv18 rfl rfl (by first | assumption | omega | decide | simp)) ?_
   refine JL_run rfl (Pu_load ty34 rfl (At.im hb18) hs18 ?_)
   refine JL_run rfl (Runs_alloc (l := (pkP (0) (0) (zS) (.slice none 0 0)) ++ (pkT (0) (0) (zS) (.slice none 0 0) (.slice none 0 0))) Tryz.zeroValue34 rfl fun b19 => ?_)
   refine JL_run rfl (Runs_storeB 0 (vs := (ca18) ++ (cb18)) (l := (ca18) ++ (cb18)) ty34 rfl rfl rfl rfl (len_app (RP_len hA18) (RT_len hB18)) (okc_app (RP_ok hA18) (RT_ok hB18)) (spl_a (n := 71) rfl (len_app (RP_len hA18) (RT_len hB18))) ?_)
   refine JL_nil ?_
   refine J_seq ?_
   refine J_region ?_
   refine JL_pure (v := .pointer (some ⟨b19, 0, none⟩)) rfl (fa34_0 rfl rfl) ?_
   refine JL_run rfl (Pu_load ty30 rfl (At.bx 0 rfl) (sub_l (RP_len hA18)) ?_)
   refine JL_call rfl Tryz.call93 rfl (fun hin => patternsError_ct _ _ _ (RP.mono (Hle.hu _ _) hA18)) rfl ?_
   rintro _ _ ⟨rfl, rfl⟩
   refine JL_pure (v := .int .i64 (pErrs ((cases)[j].1))) rfl (Pu.assign rfl) ?_
   refine JL_nil ?_
   refine J_seq ?_
   refine J_region ?_
   refine JL_pure (v := .int .i64 (pErrs ((cases)[j].1))) rfl (Pu.move rfl) ?_
   refine JL_pure (v := .bool (!decide (pErrs ((cases)[j].1) = 0))) rfl (Pu.neq rfl rfl) ?_
   refine JL_nil ?_
   refine J_cond (b := !decide (pErrs ((cases)[j].1) = 0)) rfl (fun h20 => ?_) (fun h20 => ?_)
   ·skip
    replace h20 := nt h20
    replace h20 := df h20
    refine J_seq ?_
    refine J_region ?_
    refine JL_pure (v := .int .i64 (pErrs ((cases)[j].1))) rfl (Pu.move rfl) ?_
    refine JL_run rfl (Runs_storeB 1 (vs := [.int .i64 (pErrs ((cases)[j].1))]) (l := [.int .i64 (pErrs ((cases)[j].1))]) ty40 rfl rfl rfl rfl rfl (okc_cons rfl okc_nil) rfl ?_)
    refine JL_nil ?_
    refine J_ret ?_
    refine ⟨.int .i64 (pErrs ((cases)[j].1)), [], Ret.one rfl (RV.cell1 ty40 rfl (At.bx 1 rfl) rfl), Sub.nil, ?_⟩
    exact ⟨by rw [tErr, if_pos hh0, ← hinv, dropc h17n, pErrsC, if_neg h20, if_neg h20], rfl⟩
   ·skip
    replace h20 := nf h20
    replace h20 := dt h20
    refine J_skip ?_
    refine J_region ?_
    refine JL_pure (v := .int .i64 (((j + 1 : Nat) : Int))) rfl (Pu.inc rfl rfl (by omega)) ?_
    refine JL_pure (v := .int .i64 (((j + 1 : Nat) : Int))) rfl (Pu.move rfl) ?_
    refine JL_nil ?_
    refine ⟨_, ?_, (j + 1), rfl, rfl, rfl, rfl, rfl, rfl, rfl, (Sd (Sk (Sk (Sk (Sk Sub.nil))))), ?_, ?_, rfl⟩
    ·omega
    ·omega
    ·rw [dropc h17n, pErrsC, if_pos h20] at hinv; exact hinv
  ·skip
   replace h17 := df h17
   have h17n : (cases).length ≤ j := by omega
   refine J_exit _ rfl ?_
   refine J_seq ?_
   refine J_seq ?_
   refine J_region ?_
   refine JL_run rfl (Pu_load ty27 rfl (At.bx 2 rfl) (pkT_a ..) ?_)
   refine JL_call rfl Tryz.call68 rfl (fun hin => parts_ct _ _ rfl) rfl ?_
   rintro _ _ ⟨bT21, rfl, rfl⟩
   refine JL_nil ?_
   refine J_block ?_
   have h1 : pErrsC cases = 0 := by rw [← hinv, dropn h17n]; rfl
   refine J_range (L := [[(bT21, .cells ⟨pkT (kind) (num) (ref) (ks) (cv)⟩ 27 (0, 0))], [(b3, .cells ⟨[.int .i64 (b)]⟩ 3 (0, 0))], [(b2, .cells ⟨pkT (kind) (num) (ref) (ks) (cv)⟩ 27 (0, 0))], [(b1, .cells ⟨[.int .i64 (m), .func (.func 54) ⟨[]⟩ ⟨[.pointer (some ⟨bD, 0, none⟩)]⟩]⟩ 92 (0, 0))]]) (fun e : Int => [[(b4, .cells ⟨[.int .i64 (e)]⟩ 40 (0, 0))]]) (fun e => !decide (e = 0)) 0 (fun e => e = yP (fun x mo _ => (decide (tErr d m (b + mo) x = 0), tErr d m (b + mo) x)) kind kids cases 0) rfl rfl Tryz.call100 (flatten_pick (i := 1) rfl) ?_ ?_ ?_
   ·intro l yc hY hin
    refine CT.mono (parts1_ct kind num ref ks cv kids cases _ bT21 (RTs.mono (Hle.hu _ _) hks) (RCs.mono (Hle.hu _ _) hcv) (hin 0 _ rfl _ _ List.mem_cons_self) (fun c hc => by have := sizeCs_mem c hc; have := binds_le c.1; omega) (by have := len_sizeTs kids; omega) (by have := len_sizeCs cases; omega) l yc (fun e => e = 0) (fun x mo _ => (decide (tErr d m (b + mo) x = 0), tErr d m (b + mo) x)) 0 rfl (fun x mo => ((∃ (j : Nat) (hj : j < kids.length), x = kids[j]) ∨ ∃ (j : Nat) (hj : j < cases.length), x = cases[j].2) ∧ 0 ≤ mo ∧ mo + 2 * (sizeT x : Int) ≤ 2 * ((1 + sizeTs kids + sizeCs cases : Nat) : Int)) ?_ ?_ (fun x mo s _ h => of_decide_eq_true h) ?_) (fun v N hN => ⟨_, hN, rfl⟩)
    ·intro j hj; have hs1 := sizeTs_mem _ (List.getElem_mem hj); have hm1 := more_le kind j; exact ⟨.inl ⟨j, hj, rfl⟩, by omega, by omega⟩
    ·intro j hj; have hs1 := sizeCs_mem _ (List.getElem_mem hj); have hm1 := binds_le (cases[j]).1; have hp1 := sizeT_pos (cases[j]).2; exact ⟨.inr ⟨j, hj, rfl⟩, by omega, by omega⟩
    intro x mo hit e i a h he hh ra
    subst he
    have hb0x : 0 ≤ b + mo := by have := hit.2.1; omega
    have hb1x : b + mo + 2 * (sizeT x : Int) ≤ 1000000 := by have := hit.2.2; omega
    have hp1 := sizeT_pos x
    refine YT.mono (hY 0 [_, _] h (fun e' => e' = tErr d m (b + mo) x) rfl rfl (RoundOk.mk ?_)) ?_
    ·show J _ _ _ _ [[(b4, .cells ⟨[.int .i64 (0)]⟩ 40 (0, 0))]] _
     refine J_region ?_
     refine JL_run rfl (Runs_alloc (l := (pkT (0) (0) (zS) (.slice none 0 0) (.slice none 0 0)) ++ ([.int .i64 (0)] : List Value)) Tryz.zeroValue105 rfl fun b22 => ?_)
     refine JL_run rfl (Runs_storeB 0 (vs := (a) ++ ([.int .i64 (mo)] : List Value)) (l := (a) ++ ([.int .i64 (mo)] : List Value)) ty105 rfl rfl rfl rfl (len_app (RT_len ra) rfl) (okc_app (RT_ok ra) (okc_cons rfl okc_nil)) (spl_a (n := 37) rfl (len_app (RT_len ra) rfl)) ?_)
     refine JL_nil ?_
     refine J_block ?_
     refine J_seq ?_
     refine J_region ?_
     refine JL_run rfl (Pu_load ty92 rfl (At.im (hh _ _ (hin 3 _ rfl _ _ List.mem_cons_self))) rfl ?_)
     refine JL_pure (v := .pointer (some ⟨b22, 0, none⟩)) rfl (fa105_0 rfl rfl) ?_
     refine JL_run rfl (Pu_load ty27 rfl (At.bx 0 rfl) (sub_l (RT_len ra)) ?_)
     refine JL_run rfl (Pu_load1 ty3 rfl (At.im (hh _ _ (hin 1 _ rfl _ _ List.mem_cons_self))) rfl ?_)
     refine JL_pure (v := .pointer (some ⟨b22, 36, none⟩)) rfl (fa105_1 rfl rfl) ?_
     refine JL_run rfl (Pu_load1 ty3 rfl (At.bx 0 rfl) (get_r (n := 36) (i := 0) (RT_len ra) rfl) ?_)
     refine JL_pure (v := .int .i64 (b + mo)) rfl (Pu.add64 rfl rfl (by first | omega | (constructor <;> omega))) ?_
     refine JL_call rfl Tryz.call55 rfl (fun hin => ihx x mo hit d m _ _ _ bD (RT.mono (Hle.hu _ _) ra) (Hle.hu _ _ _ _ (hh _ _ (Hle.hu _ _ _ _ hD))) hb0x hb1x) rfl ?_
     rintro _ _ ⟨rfl, rfl⟩
     refine JL_pure (v := .int .i64 (tErr d m (b + mo) (x))) rfl (Pu.assign rfl) ?_
     refine JL_nil ?_
     refine J_seq ?_
     refine J_region ?_
     refine JL_pure (v := .int .i64 (tErr d m (b + mo) (x))) rfl (Pu.move rfl) ?_
     refine JL_pure (v := .bool (!decide (tErr d m (b + mo) (x) = 0))) rfl (Pu.neq rfl rfl) ?_
     refine JL_nil ?_
     refine J_cond (b := !decide (tErr d m (b + mo) (x) = 0)) rfl (fun h23 => ?_) (fun h23 => ?_)
     ·skip
      replace h23 := nt h23
      replace h23 := df h23
      refine J_seq ?_
      refine J_region ?_
      refine JL_pure (v := .int .i64 (tErr d m (b + mo) (x))) rfl (Pu.move rfl) ?_
      refine JL_run rfl (Runs_storeB 1 (vs := [.int .i64 (tErr d m (b + mo) (x))]) (l := [.int .i64 (tErr d m (b + mo) (x))]) ty40 rfl rfl rfl rfl rfl (okc_cons rfl okc_nil) rfl ?_)
      refine JL_nil ?_
      refine J_ret ?_
      exact ⟨tErr d m (b + mo) (x), by simp [h23], (Sd (Sk Sub.nil)), rfl⟩
     ·skip
      replace h23 := nf h23
      replace h23 := dt h23
      refine J_skip ?_
      exact ⟨0, rfl, (Sd (Sk Sub.nil)), h23.symm⟩
    ·rintro v N ⟨e', rfl, rfl, rfl⟩; exact ⟨by simp, rfl⟩
   ·rintro ef hef hp
    refine J_seq ?_
    refine J_region ?_
    refine JL_run rfl (Runs_storeB 0 (vs := [.int .i64 (0)]) (l := [.int .i64 (0)]) ty40 rfl rfl rfl rfl rfl (okc_cons rfl okc_nil) rfl ?_)
    refine JL_nil ?_
    refine J_ret ?_
    refine ⟨.int .i64 (0), [], Ret.one rfl (RV.cell1 ty40 rfl (At.bx 0 rfl) rfl), Sub.nil, ?_⟩
    rw [yP_err] at hef
    have hp0 : ef = 0 := by simpa using hp
    exact ⟨by rw [tErr, if_pos hh0, if_pos h1, ← hef, hp0], rfl⟩
   ·rintro ef hef hp
    refine ⟨.int .i64 (ef), [], Ret.one rfl (RV.cell1 ty40 rfl (At.bx 0 rfl) rfl), Sub.nil, ?_⟩
    rw [yP_err] at hef
    have hp0 : ¬ ef = 0 := by simpa using hp
    exact ⟨by rw [tErr, if_pos hh0, if_pos h1, ← hef], rfl⟩
end Go.Proofs.YtdeinimmmjichaaGreat.Hs
/-! Walks, printed by a program of this session's own (gen.py). -/
namespace Go.Proofs.YtdeinimmmjichaaGreat.Hs
open Go Go.Proofs
set_option maxRecDepth 100000
set_option linter.unusedVariables false
set_option linter.unusedSimpArgs false
attribute [local irreducible] JL J CT wlo
theorem check_ct (t : Tm) (d m : Int) (cs : List Value) (H : Heap) (ht : RT H cs t) : CT Tryz.prog 19 ⟨[.agg ⟨cs⟩, .int .i64 (d), .int .i64 (m)]⟩ [] H (fun v N => v = .int .i64 (checkT d m t) ∧ N = []) := by
 refine CT_enter Tryz.func19 rfl rfl ?_
 refine J_seq ?_
 refine J_region ?_
 refine JL_run rfl (Runs_box (l := cs) rfl rfl fun b1 => ?_)
 refine JL_run rfl (Runs_box (l := [.int .i64 (d)]) rfl rfl fun b2 => ?_)
 refine JL_pure (v := .int .i64 (0)) rfl (Pu.assign rfl) ?_
 refine JL_nil ?_
 refine J_seq ?_
 refine J_seq ?_
 refine J_region ?_
 refine JL_pure (v := .agg ⟨[.int .i64 (0)]⟩) rfl (Pu.build (pv := []) (l := [.int .i64 (0)]) rfl bld88_) ?_
 refine JL_run rfl (Runs_box (l := [.int .i64 (0)]) rfl rfl fun b3 => ?_)
 refine JL_run rfl (Pu_load ty27 rfl (At.bx 2 rfl) (sub_a (RT_len ht)) ?_)
 refine JL_call1 0 rfl Tryz.call51 rfl rfl (fun hin => longT_ct _ _ _ _ _ _ (RT.mono (Hle.hu _ _) ht) (by omega) (by omega) (by omega) (by omega)) rfl ?_
 rintro _ _ ⟨rfl, rfl⟩
 refine JL_nil ?_
 refine J_cond (b := (cnT stL (1) (t) (0)).1) rfl (fun h5 => ?_) (fun h5 => ?_)
 ·skip
  refine J_seq ?_
  refine J_region ?_
  refine JL_pure (v := .int .i64 (11)) rfl (Pu.assign rfl) ?_
  refine JL_nil ?_
  refine J_ret ?_
  refine ⟨.int .i64 (11), [], Ret.one rfl (RV.tmp rfl), Sub.nil, ?_⟩
  exact ⟨by rw [checkT, if_pos (by simp [h5])], rfl⟩
 ·skip
  refine J_skip ?_
  refine J_seq ?_
  refine J_region ?_
  refine JL_pure (v := .int .i64 (m)) rfl (Pu.move rfl) ?_
  refine JL_pure (v := .func (.func 54) ⟨[]⟩ ⟨[.pointer (some ⟨b2, 0, none⟩)]⟩) rfl (Pu.makeFunc rfl rfl) ?_
  refine JL_pure (v := .agg ⟨[.int .i64 (m), .func (.func 54) ⟨[]⟩ ⟨[.pointer (some ⟨b2, 0, none⟩)]⟩]⟩) rfl (Pu.build (pv := [(0, .int .i64 (m)), (1, .func (.func 54) ⟨[]⟩ ⟨[.pointer (some ⟨b2, 0, none⟩)]⟩)]) (l := [.int .i64 (m), .func (.func 54) ⟨[]⟩ ⟨[.pointer (some ⟨b2, 0, none⟩)]⟩]) rfl (bld92_0_1 _ _ _ _)) ?_
  refine JL_run rfl (Runs_alloc (l := [.int .i64 (0), .nilFunc]) Tryz.zeroValue92 rfl fun b6 => ?_)
  refine JL_run rfl (Runs_storeB 0 (vs := [.int .i64 (m), .func (.func 54) ⟨[]⟩ ⟨[.pointer (some ⟨b2, 0, none⟩)]⟩]) (l := [.int .i64 (m), .func (.func 54) ⟨[]⟩ ⟨[.pointer (some ⟨b2, 0, none⟩)]⟩]) ty92 rfl rfl rfl rfl rfl (okc_cons rfl (okc_cons rfl okc_nil)) rfl ?_)
  refine JL_nil ?_
  refine J_seq ?_
  refine J_region ?_
  refine JL_run rfl (Pu_load ty92 rfl (At.bx 0 rfl) rfl ?_)
  refine JL_run rfl (Pu_load ty27 rfl (At.bx 3 rfl) (sub_a (RT_len ht)) ?_)
  refine JL_call rfl Tryz.call55 rfl (fun hin => all_ct _ _ _ _ _ _ _ (RT.mono (Hle.hu _ _) ht) (hin 2 _ rfl _ _ List.mem_cons_self) (by decide) (by have e1 := cnT_size t 1 0 h5; have e2 := cnT_le stL_le t 1 0 h5; omega)) rfl ?_
  rintro _ _ ⟨rfl, rfl⟩
  refine JL_pure (v := .int .i64 (tErr d m (0) (t))) rfl (Pu.assign rfl) ?_
  refine JL_nil ?_
  refine J_ret ?_
  refine ⟨.int .i64 (tErr d m (0) (t)), [], Ret.one rfl (RV.tmp rfl), Sub.nil, ?_⟩
  exact ⟨by rw [checkT, if_neg (by simp [h5])], rfl⟩
theorem right_ct (l : List Tm) (v : Value) (H : Heap) (hl : rdS RT 36 H v l) : CT Tryz.prog 50 ⟨[v]⟩ [] H (fun v N => v = .int .i64 (rightT l) ∧ N = []) := by
 refine CT_enter Tryz.func50 rfl rfl ?_
 refine J_seq ?_
 refine J_region ?_
 refine JL_pure (v := .int .i64 (0)) rfl (Pu.assign rfl) ?_
 refine JL_nil ?_
 refine J_seq ?_
 refine J_seq ?_
 refine J_region ?_
 refine JL_pure (v := v) rfl (Pu.move rfl) ?_
 obtain ⟨a1, cap1, hv1⟩ := hl.sl
 have hle1 := hl.le
 refine JL_pure (v := .int .i64 (((l).length : Int))) rfl (Pu.lenSl Tryz.runUnderlying24 hv1) ?_
 refine JL_pure (v := .int .i64 (0)) rfl (Pu.move rfl) ?_
 refine JL_nil ?_
 refine J_block ?_
 refine J_loop (fun k ρ M => ∃ (j : Nat), ρ 2 = .int .i64 (0) ∧ ρ 6 = v ∧ ρ 7 = .int .i64 (((l).length : Int)) ∧ ρ 8 = .int .i64 ((j : Int)) ∧ Sub [] M ∧ j ≤ (l).length ∧ rightT (l.drop j) = rightT l ∧ k = (l).length - j) _ ⟨0, rfl, rfl, rfl, rfl, Sub.nil, Nat.zero_le _, rfl, rfl⟩ ?_
 rintro _ ρ2 _ ⟨j, e3, e4, e5, e6, hm7, hj, hinv, rfl⟩
 obtain ⟨ρ8, rfl⟩ := reopen_ex (uc e3 (uc e4 (uc e5 (uc e6 un))))
 clear e3 e4 e5 e6
 refine J_sub hm7 ?_
 refine J_seq ?_
 refine J_region ?_
 refine JL_pure (v := .bool (decide ((j : Int) < ((l).length : Int)))) rfl (Pu.lss rfl rfl) ?_
 refine JL_nil ?_
 refine J_seq ?_
 refine J_cond (b := decide ((j : Int) < ((l).length : Int))) rfl (fun h9 => ?_) (fun h9 => ?_)
 ·skip
  replace h9 := dt h9
  have h9n : j < (l).length := by omega
  have hlenl := hl.le
  refine J_skip ?_
  refine J_seq ?_
  refine J_block ?_
  refine J_seq ?_
  refine J_region ?_
  obtain ⟨b10, o10, cap10, row10, T10, fr10, cs10, hv10, hb10, hs10, hE10⟩ := hl.get j (by first | assumption | omega | decide | simp)
  refine JL_pure (v := .pointer (some ⟨b10, o10 + j * 36, none⟩)) rfl (Pu.idx j Tryz.runUnderlying24 ty27 hv10 rfl rfl (by first | assumption | omega | decide | simp)) ?_
  refine JL_run rfl (Pu_load ty27 rfl (At.im hb10) hs10 ?_)
  refine JL_run rfl (Runs_alloc (l := pkT (0) (0) (zS) (.slice none 0 0) (.slice none 0 0)) Tryz.zeroValue27 rfl fun b11 => ?_)
  refine JL_run rfl (Runs_storeB 0 (vs := cs10) (l := cs10) ty27 rfl rfl rfl rfl (RT_len hE10) (RT_ok hE10) (spl_a (n := 36) rfl (RT_len hE10)) ?_)
  refine JL_nil ?_
  refine J_seq ?_
  refine J_region ?_
  refine JL_run rfl (Pu_load ty27 rfl (At.bx 0 rfl) (sub_a (RT_len hE10)) ?_)
  refine JL_call rfl Tryz.call19 rfl (fun hin => check_ct _ _ _ _ _ (RT.mono (Hle.hu _ _) hE10)) rfl ?_
  rintro _ _ ⟨rfl, rfl⟩
  refine JL_pure (v := .int .i64 (checkT (60) (8) ((l)[j]))) rfl (Pu.assign rfl) ?_
  refine JL_nil ?_
  refine J_seq ?_
  refine J_region ?_
  refine JL_pure (v := .int .i64 (checkT (60) (8) ((l)[j]))) rfl (Pu.move rfl) ?_
  refine JL_pure (v := .bool (!decide (checkT (60) (8) ((l)[j]) = 0))) rfl (Pu.neq rfl rfl) ?_
  refine JL_nil ?_
  refine J_cond (b := !decide (checkT (60) (8) ((l)[j]) = 0)) rfl (fun h12 => ?_) (fun h12 => ?_)
  ·skip
   replace h12 := nt h12
   replace h12 := df h12
   refine J_seq ?_
   refine J_region ?_
   refine JL_pure (v := .int .i64 (checkT (60) (8) ((l)[j]))) rfl (Pu.move rfl) ?_
   refine JL_pure (v := .int .i64 (checkT (60) (8) ((l)[j]))) rfl (Pu.assign rfl) ?_
   refine JL_nil ?_
   refine J_ret ?_
   refine ⟨.int .i64 (checkT (60) (8) ((l)[j])), [], Ret.one rfl (RV.tmp rfl), Sub.nil, ?_⟩
   exact ⟨by rw [← hinv, dropc h9n, rightT, if_neg h12], rfl⟩
  ·skip
   replace h12 := nf h12
   replace h12 := dt h12
   refine J_skip ?_
   refine J_region ?_
   refine JL_pure (v := .int .i64 (((j + 1 : Nat) : Int))) rfl (Pu.inc rfl rfl (by omega)) ?_
   refine JL_pure (v := .int .i64 (((j + 1 : Nat) : Int))) rfl (Pu.move rfl) ?_
   refine JL_nil ?_
   refine ⟨_, ?_, (j + 1), rfl, rfl, rfl, rfl, Sub.nil, ?_, ?_, rfl⟩
   ·omega
   ·omega
   ·rw [dropc h9n, rightT, if_pos h12] at hinv; exact hinv
 ·skip
  replace h9 := df h9
  have h9n : (l).length ≤ j := by omega
  refine J_exit _ rfl ?_
  refine J_seq ?_
  refine J_region ?_
  refine JL_pure (v := .int .i64 (0)) rfl (Pu.assign rfl) ?_
  refine JL_nil ?_
  refine J_ret ?_
  refine ⟨.int .i64 (0), [], Ret.one rfl (RV.tmp rfl), Sub.nil, ?_⟩
  exact ⟨by rw [← hinv, dropn h9n]; rfl, rfl⟩
end Go.Proofs.YtdeinimmmjichaaGreat.Hs
/-! Walks, printed by a program of this session's own (gen.py). -/
namespace Go.Proofs.YtdeinimmmjichaaGreat.Hs
open Go Go.Proofs
set_option maxRecDepth 100000
set_option linter.unusedVariables false
set_option linter.unusedSimpArgs false
attribute [local irreducible] JL J CT wlo
theorem stay_ct (n b : Int) (H : Heap) (hb : inI (n + b)) : CT Tryz.prog 79 ⟨[.int .i64 (n), .int .i64 (b)]⟩ [] H (fun v N => ∃ cs k, v = .agg ⟨cs⟩ ∧ N = [k] ∧ OT (.mk 1 (n + b) zS [] []) cs k) := by
 have hb1 : -9223372036854775808 ≤ n + b := hb.1
 have hb2 : n + b ≤ 9223372036854775807 := hb.2
 refine CT_enter Tryz.func79 rfl rfl ?_
 refine J_seq ?_
 refine J_region ?_
 refine JL_run rfl (Runs_alloc (l := pkT (0) (0) (zS) (.slice none 0 0) (.slice none 0 0)) Tryz.zeroValue27 rfl fun b1 => ?_)
 refine JL_nil ?_
 refine J_seq ?_
 refine J_region ?_
 refine JL_pure (v := .int .i64 (n)) rfl (Pu.move rfl) ?_
 refine JL_pure (v := .int .i64 (b)) rfl (Pu.move rfl) ?_
 refine JL_pure (v := .int .i64 (n + b)) rfl (Pu.add64 rfl rfl (by first | omega | (constructor <;> omega))) ?_
 refine JL_pure (v := .agg ⟨pkT (1) (n + b) (zS) (.slice none 0 0) (.slice none 0 0)⟩) rfl (Pu.build (pv := [(0, .int .i64 (1)), (1, .int .i64 (n + b))]) (l := pkT (1) (n + b) (zS) (.slice none 0 0) (.slice none 0 0)) rfl (bld27_0_1 _ _)) ?_
 refine JL_run rfl (Runs_storeB 0 (vs := pkT (1) (n + b) (zS) (.slice none 0 0) (.slice none 0 0)) (l := pkT (1) (n + b) (zS) (.slice none 0 0) (.slice none 0 0)) ty27 rfl rfl rfl rfl rfl (pkT_ok rfl rfl) (pkT_s ..) ?_)
 refine JL_nil ?_
 refine J_ret ?_
 refine ⟨.agg ⟨pkT (1) (n + b) (zS) (.slice none 0 0) (.slice none 0 0)⟩, [[]], Ret.one rfl (RV.cell ty27 rfl (At.bx 0 rfl) (pkT_a ..)), (Sub.emp Sub.nil), ?_⟩
 exact ⟨_, _, rfl, rfl, OT_leaf (by unfold inI; omega) hb⟩
theorem same_ct (s : Sm) (H : Heap) : CT Tryz.prog 80 ⟨[.agg ⟨sC (s)⟩]⟩ [] H (fun v N => v = .agg ⟨sC s⟩ ∧ N = []) := by
 refine CT_enter Tryz.func80 rfl rfl ?_
 refine J_seq ?_
 refine J_region ?_
 refine JL_run rfl (Runs_box (l := sC (s)) rfl rfl fun b1 => ?_)
 refine JL_run rfl (Runs_alloc (l := sC (zS)) Tryz.zeroValue23 rfl fun b2 => ?_)
 refine JL_nil ?_
 refine J_seq ?_
 refine J_region ?_
 refine JL_run rfl (Pu_load ty23 rfl (At.bx 1 rfl) (sub_a rfl) ?_)
 refine JL_run rfl (Runs_storeB 0 (vs := sC (s)) (l := sC (s)) ty23 rfl rfl rfl rfl rfl (sC_ok _) (spl_a rfl rfl) ?_)
 refine JL_nil ?_
 refine J_ret ?_
 refine ⟨.agg ⟨sC (s)⟩, [], Ret.one rfl (RV.cell ty23 rfl (At.bx 0 rfl) (sub_a rfl)), Sub.nil, ?_⟩
 exact ⟨rfl, rfl⟩
theorem mapPattern_ct : ∀ (gr : Nat) (frs crs : List Value) (hcallr : ∀ args w, (callFunc gr args).run Tryz.prog w = .ok (.enter gr args) w) (rf : Sm → Sm) (fv : Value) (hfv : fv.oneCell' = true) (p : Pt) (cs : List Value) (H : Heap), RP H cs p → (∀ s h, Hle H h → CT Tryz.prog gr ⟨frs ++ [.agg ⟨sC s⟩] ++ crs⟩ [] h (fun v N => v = .agg ⟨sC (rf s)⟩ ∧ N = [])) → sizeP p ≤ 1000000 → CT Tryz.prog 103 ⟨[.agg ⟨[fv, .func (.func gr) ⟨frs⟩ ⟨crs⟩]⟩, .agg ⟨cs⟩]⟩ [] H (fun v N => ∃ cs k, v = .agg ⟨cs⟩ ∧ N = [k] ∧ OP (mapP rf p) cs k) := by
 intro gr frs crs hcallr rf fv hfv p
 induction p using Pt.ind with
 | h kind num ref kids ih =>
 intro cs H hp hgr hz
 rw [sizeP] at hz
 have hlk := len_sizePs kids
 obtain ⟨ks, rfl, hk, hn, hks⟩ := RP_mk.1 hp
 refine CT_enter Tryz.func103 rfl rfl ?_
 refine J_seq ?_
 refine J_region ?_
 refine JL_run rfl (Runs_box (l := [fv, .func (.func gr) ⟨frs⟩ ⟨crs⟩]) rfl rfl fun b1 => ?_)
 refine JL_run rfl (Runs_box (l := pkP (kind) (num) (ref) (ks)) rfl rfl fun b2 => ?_)
 refine JL_run rfl (Runs_alloc (l := pkP (0) (0) (zS) (.slice none 0 0)) Tryz.zeroValue30 rfl fun b3 => ?_)
 refine JL_nil ?_
 refine J_seq ?_
 refine J_draw mixed #[0, 1, 0, 4, 0, 16, 0, 64, 240, 511, 0, 2047] 11 11 3 rfl (by kernel_rfl) (fun i r4 N4 => match i with | 0 => (r4 0) = .pointer (some ⟨b2, 0, none⟩) | 1 => (r4 1) = .int .i64 (kind) | 2 => (r4 2) = .pointer (some ⟨b2, 1, none⟩) | 3 => (r4 3) = .int .i64 (num) | 4 => (r4 4) = .pointer (some ⟨b1, 1, none⟩) | 5 => (r4 5) = .func (.func gr) ⟨frs⟩ ⟨crs⟩ | 6 => (r4 6) = .pointer (some ⟨b2, 2, none⟩) | 7 => (r4 7) = .agg ⟨sC (ref)⟩ | 8 => (r4 8) = .agg ⟨sC (rf (ref))⟩ | 9 => (r4 9) = .agg ⟨pkP (kind) (num) (rf (ref)) (.slice none 0 0)⟩ | 10 => (r4 10) = .pointer (some ⟨(pblk (r4 10)), 0, none⟩) ∧ (N4 10) = [((pblk (r4 10)), .cells ⟨pkP (0) (0) (zS) (.slice none 0 0)⟩ 30 (0, 0))] | _ => True) ⟨?_, ?_, ?_, ?_, ?_, ?_, ?_, ?_, ?_, ?_, ?_, trivial⟩ ?_
 ·intro ρ r4 N4 B hB hBa hp hr hr0
  have q3 : ρ 3 = .pointer (some ⟨b2, 0, none⟩) := hr0 3 (by kernel_rfl)
  obtain ⟨ρ5, rfl⟩ := reopen_ex (uc q3 un)
  clear q3
  refine JL_pure (v := .pointer (some ⟨b2, 0, none⟩)) rfl (fa30_0 rfl rfl) ?_
  refine JL_nil ?_
  exact ⟨.pointer (some ⟨b2, 0, none⟩), [], rfl, (Sub.emp Sub.refl), rfl⟩
 ·intro ρ r4 N4 B hB hBa hp hr hr0
  have q8 : ρ 8 = .pointer (some ⟨b2, 0, none⟩) := (hr 0 _ _ (by decide) rfl rfl rfl).trans (hp 0 (by decide) rfl)
  obtain ⟨ρ6, rfl⟩ := reopen_ex (uc q8 un)
  clear q8
  refine JL_run rfl (Pu_load1 ty3 rfl (At.bx 12 (made_old ((hB 1 (by decide)).trans rfl))) (pkP_0 ..) ?_)
  refine JL_nil ?_
  exact ⟨.int .i64 (kind), [], rfl, (Sub.emp Sub.refl), rfl⟩
 ·intro ρ r4 N4 B hB hBa hp hr hr0
  have q3 : ρ 3 = .pointer (some ⟨b2, 0, none⟩) := hr0 3 (by kernel_rfl)
  obtain ⟨ρ7, rfl⟩ := reopen_ex (uc q3 un)
  clear q3
  refine JL_pure (v := .pointer (some ⟨b2, 1, none⟩)) rfl (fa30_1 rfl rfl) ?_
  refine JL_nil ?_
  exact ⟨.pointer (some ⟨b2, 1, none⟩), [], rfl, (Sub.emp Sub.refl), rfl⟩
 ·intro ρ r4 N4 B hB hBa hp hr hr0
  have q10 : ρ 10 = .pointer (some ⟨b2, 1, none⟩) := (hr 2 _ _ (by decide) rfl rfl rfl).trans (hp 2 (by decide) rfl)
  obtain ⟨ρ8, rfl⟩ := reopen_ex (uc q10 un)
  clear q10
  refine JL_run rfl (Pu_load1 ty3 rfl (At.bx 12 (made_old ((hB 1 (by decide)).trans rfl))) (pkP_1 ..) ?_)
  refine JL_nil ?_
  exact ⟨.int .i64 (num), [], rfl, (Sub.emp Sub.refl), rfl⟩
 ·intro ρ r4 N4 B hB hBa hp hr hr0
  have q2 : ρ 2 = .pointer (some ⟨b1, 0, none⟩) := hr0 2 (by kernel_rfl)
  obtain ⟨ρ9, rfl⟩ := reopen_ex (uc q2 un)
  clear q2
  refine JL_pure (v := .pointer (some ⟨b1, 1, none⟩)) rfl (fa118_1 rfl rfl) ?_
  refine JL_nil ?_
  exact ⟨.pointer (some ⟨b1, 1, none⟩), [], rfl, (Sub.emp Sub.refl), rfl⟩
 ·intro ρ r4 N4 B hB hBa hp hr hr0
  have q12 : ρ 12 = .pointer (some ⟨b1, 1, none⟩) := (hr 4 _ _ (by decide) rfl rfl rfl).trans (hp 4 (by decide) rfl)
  obtain ⟨ρ10, rfl⟩ := reopen_ex (uc q12 un)
  clear q12
  refine JL_run rfl (Pu_load1 ty116 rfl (At.bx 13 (made_old ((hB 2 (by decide)).trans rfl))) rfl ?_)
  refine JL_nil ?_
  exact ⟨.func (.func gr) ⟨frs⟩ ⟨crs⟩, [], rfl, (Sub.emp Sub.refl), rfl⟩
 ·intro ρ r4 N4 B hB hBa hp hr hr0
  have q3 : ρ 3 = .pointer (some ⟨b2, 0, none⟩) := hr0 3 (by kernel_rfl)
  obtain ⟨ρ11, rfl⟩ := reopen_ex (uc q3 un)
  clear q3
  refine JL_pure (v := .pointer (some ⟨b2, 2, none⟩)) rfl (fa30_2 rfl rfl) ?_
  refine JL_nil ?_
  exact ⟨.pointer (some ⟨b2, 2, none⟩), [], rfl, (Sub.emp Sub.refl), rfl⟩
 ·intro ρ r4 N4 B hB hBa hp hr hr0
  have q14 : ρ 14 = .pointer (some ⟨b2, 2, none⟩) := (hr 6 _ _ (by decide) rfl rfl rfl).trans (hp 6 (by decide) rfl)
  obtain ⟨ρ12, rfl⟩ := reopen_ex (uc q14 un)
  clear q14
  refine JL_run rfl (Pu_load ty23 rfl (At.bx 12 (made_old ((hB 1 (by decide)).trans rfl))) (pkP_2 ..) ?_)
  refine JL_nil ?_
  exact ⟨.agg ⟨sC (ref)⟩, [], rfl, (Sub.emp Sub.refl), rfl⟩
 ·intro ρ r4 N4 B hB hBa hp hr hr0
  have q13 : ρ 13 = .func (.func gr) ⟨frs⟩ ⟨crs⟩ := (hr 5 _ _ (by decide) rfl rfl rfl).trans (hp 5 (by decide) rfl)
  have q15 : ρ 15 = .agg ⟨sC (ref)⟩ := (hr 7 _ _ (by decide) rfl rfl rfl).trans (hp 7 (by decide) rfl)
  obtain ⟨ρ13, rfl⟩ := reopen_ex (uc q13 (uc q15 un))
  clear q13 q15
  refine JL_call rfl hcallr rfl (fun hin => hgr _ _ (Hle.hu _ _)) rfl ?_
  rintro _ _ ⟨rfl, rfl⟩
  refine JL_nil ?_
  exact ⟨.agg ⟨sC (rf (ref))⟩, [], rfl, (Sub.emp Sub.refl), rfl⟩
 ·intro ρ r4 N4 B hB hBa hp hr hr0
  have q9 : ρ 9 = .int .i64 (kind) := (hr 1 _ _ (by decide) rfl rfl rfl).trans (hp 1 (by decide) rfl)
  have q11 : ρ 11 = .int .i64 (num) := (hr 3 _ _ (by decide) rfl rfl rfl).trans (hp 3 (by decide) rfl)
  have q16 : ρ 16 = .agg ⟨sC (rf (ref))⟩ := (hr 8 _ _ (by decide) rfl rfl rfl).trans (hp 8 (by decide) rfl)
  obtain ⟨ρ14, rfl⟩ := reopen_ex (uc q9 (uc q11 (uc q16 un)))
  clear q9 q11 q16
  refine JL_pure (v := .agg ⟨pkP (kind) (num) (rf (ref)) (.slice none 0 0)⟩) rfl (Pu.build (pv := [(0, .int .i64 (kind)), (1, .int .i64 (num)), (2, .agg ⟨sC (rf (ref))⟩)]) (l := pkP (kind) (num) (rf (ref)) (.slice none 0 0)) rfl (bld30_0_1_2 _ _ _)) ?_
  refine JL_nil ?_
  exact ⟨.agg ⟨pkP (kind) (num) (rf (ref)) (.slice none 0 0)⟩, [], rfl, (Sub.emp Sub.refl), rfl⟩
 ·intro ρ r4 N4 B hB hBa hp hr hr0
  refine JL_run rfl (Runs_alloc (l := pkP (0) (0) (zS) (.slice none 0 0)) Tryz.zeroValue30 rfl fun b15 => ?_)
  refine JL_nil ?_
  exact ⟨.pointer (some ⟨b15, 0, none⟩), [(b15, .cells ⟨pkP (0) (0) (zS) (.slice none 0 0)⟩ 30 (0, 0))], rfl, Sub.refl, ⟨rfl, rfl⟩⟩
 ·intro ρ r4 N4 hp hr hr0
  have p10 : (r4 10) = .pointer (some ⟨(pblk (r4 10)), 0, none⟩) ∧ (N4 10) = [((pblk (r4 10)), .cells ⟨pkP (0) (0) (zS) (.slice none 0 0)⟩ 30 (0, 0))] := hp 10 (by decide)
  have q2 : ρ 2 = .pointer (some ⟨b1, 0, none⟩) := hr0 2 (by kernel_rfl)
  have q3 : ρ 3 = .pointer (some ⟨b2, 0, none⟩) := hr0 3 (by kernel_rfl)
  have q4 : ρ 4 = .pointer (some ⟨b3, 0, none⟩) := hr0 4 (by kernel_rfl)
  have q5 : ρ 5 = .pointer (some ⟨(pblk (r4 10)), 0, none⟩) := (hr 10 _ _ (by decide) rfl rfl).trans p10.1
  have q17 : ρ 17 = .agg ⟨pkP (kind) (num) (rf (ref)) (.slice none 0 0)⟩ := (hr 9 _ _ (by decide) rfl rfl).trans (hp 9 (by decide))
  obtain ⟨ρ16, rfl⟩ := reopen_ex (uc q2 (uc q3 (uc q4 (uc q5 (uc q17 un)))))
  clear q2 q3 q4 q5 q17
  have p4_10 := p10
  clear hp hr hr0 p10
  refine JL_sub (M' := [(N4 0), (N4 1), (N4 2), (N4 3), (N4 4), (N4 5), (N4 6), (N4 7), (N4 8), (N4 9), (N4 10), [(b3, .cells ⟨pkP (0) (0) (zS) (.slice none 0 0)⟩ 30 (0, 0))], [(b2, .cells ⟨pkP (kind) (num) (ref) (ks)⟩ 30 (0, 0))], [(b1, .cells ⟨[fv, .func (.func gr) ⟨frs⟩ ⟨crs⟩]⟩ 118 (0, 0))]]) Sub.refl ?_
  refine JL_sub (M' := [[((pblk (r4 10)), .cells ⟨pkP (0) (0) (zS) (.slice none 0 0)⟩ 30 (0, 0))], [(b3, .cells ⟨pkP (0) (0) (zS) (.slice none 0 0)⟩ 30 (0, 0))], [(b2, .cells ⟨pkP (kind) (num) (ref) (ks)⟩ 30 (0, 0))], [(b1, .cells ⟨[fv, .func (.func gr) ⟨frs⟩ ⟨crs⟩]⟩ 118 (0, 0))]]) (Sd (Sd (Sd (Sd (Sd (Sd (Sd (Sd (Sd (Sd (Se p4_10.2 (Sk (Sk (Sk Sub.nil)))))))))))))) ?_
  show JL _ _ _ [_] _ _ _
  refine JL_run rfl (Runs_storeB 0 (vs := pkP (kind) (num) (rf (ref)) (.slice none 0 0)) (l := pkP (kind) (num) (rf (ref)) (.slice none 0 0)) ty30 rfl rfl rfl rfl rfl (pkP_ok rfl) (pkP_s ..) ?_)
  refine JL_nil ?_
  refine J_seq ?_
  refine J_seq ?_
  refine J_region ?_
  refine JL_pure (v := .pointer (some ⟨b2, 34, none⟩)) rfl (fa30_3 rfl rfl) ?_
  refine JL_run rfl (Pu_load1 ty28 rfl (At.bx 2 rfl) (pkP_34 ..) ?_)
  obtain ⟨a17, cap17, hv17⟩ := hks.sl
  have hle17 := hks.le
  refine JL_pure (v := .int .i64 (((kids).length : Int))) rfl (Pu.lenSl Tryz.runUnderlying28 hv17) ?_
  refine JL_pure (v := .int .i64 (0)) rfl (Pu.move rfl) ?_
  refine JL_nil ?_
  refine J_block ?_
  refine J_loop (fun k ρ M => ∃ (j : Nat) (v : Value) (es : List (List Value)) (k1 k2 : Chunk), ρ 2 = .pointer (some ⟨b1, 0, none⟩) ∧ ρ 4 = .pointer (some ⟨b3, 0, none⟩) ∧ ρ 5 = .pointer (some ⟨(pblk (r4 10)), 0, none⟩) ∧ ρ 19 = ks ∧ ρ 20 = .int .i64 (((kids).length : Int)) ∧ ρ 21 = .int .i64 ((j : Int)) ∧ Sub [[((pblk (r4 10)), .cells ⟨pkP (kind) (num) (rf (ref)) (v)⟩ 30 (0, 0))], k1, k2, [(b3, .cells ⟨pkP (0) (0) (zS) (.slice none 0 0)⟩ 30 (0, 0))], [(b1, .cells ⟨[fv, .func (.func gr) ⟨frs⟩ ⟨crs⟩]⟩ 118 (0, 0))]] M ∧ j ≤ (kids).length ∧ Own 30 35 v es k1 ∧ OPs (mapPs rf (kids.take j)) es k2 ∧ k = (kids).length - j) _ ⟨0, _, [], [], [], rfl, rfl, rfl, rfl, rfl, rfl, (Sk (Sub.emp (Sub.emp (Sk (Sd (Sk Sub.nil)))))), Nat.zero_le _, Own.nil, OPs.nil, rfl⟩ ?_
  rintro _ ρ18 _ ⟨j, v, es, k1, k2, e19, e20, e21, e22, e23, e24, hm25, hj, ho, hop, rfl⟩
  obtain ⟨ρ26, rfl⟩ := reopen_ex (uc e19 (uc e20 (uc e21 (uc e22 (uc e23 (uc e24 un))))))
  clear e19 e20 e21 e22 e23 e24
  refine J_sub hm25 ?_
  have hlen := hks.le
  refine J_seq ?_
  refine J_region ?_
  refine JL_pure (v := .bool (decide ((j : Int) < ((kids).length : Int)))) rfl (Pu.lss rfl rfl) ?_
  refine JL_nil ?_
  refine J_seq ?_
  refine J_cond (b := decide ((j : Int) < ((kids).length : Int))) rfl (fun h27 => ?_) (fun h27 => ?_)
  ·skip
   replace h27 := dt h27
   have h27n : j < (kids).length := by omega
   have hel := OPs_len hop
   rw [mapPs_len, List.length_take] at hel
   have hs1 := sizePs_mem _ (List.getElem_mem h27n)
   refine J_skip ?_
   refine J_seq ?_
   refine J_block ?_
   refine J_seq ?_
   refine J_region ?_
   obtain ⟨b28, o28, cap28, row28, T28, fr28, cs28, hv28, hb28, hs28, hE28⟩ := hks.get j (by first | assumption | omega | decide | simp)
   refine JL_pure (v := .pointer (some ⟨b28, o28 + j * 35, none⟩)) rfl (Pu.idx j Tryz.runUnderlying28 ty30 hv28 rfl rfl (by first | assumption | omega | decide | simp)) ?_
   refine JL_run rfl (Pu_load ty30 rfl (At.im hb28) hs28 ?_)
   refine JL_run rfl (Runs_alloc (l := pkP (0) (0) (zS) (.slice none 0 0)) Tryz.zeroValue30 rfl fun b29 => ?_)
   refine JL_run rfl (Runs_storeB 0 (vs := cs28) (l := cs28) ty30 rfl rfl rfl rfl (RP_len hE28) (RP_ok hE28) (spl_a (n := 35) rfl (RP_len hE28)) ?_)
   refine JL_nil ?_
   refine J_draw mixed #[0, 1, 0, 0, 12, 28, 63, 127, 255] 6 6 6 rfl (by kernel_rfl) (fun i r30 N30 => match i with | 0 => (r30 0) = .pointer (some ⟨(pblk (r4 10)), 34, none⟩) | 1 => (r30 1) = v | 2 => (r30 2) = .agg ⟨[fv, .func (.func gr) ⟨frs⟩ ⟨crs⟩]⟩ | 3 => (r30 3) = .agg ⟨cs28⟩ | 4 => (r30 4) = .agg ⟨(cel (r30 4))⟩ ∧ OP (mapP rf ((kids)[j])) (cel (r30 4)) (N30 4) | 5 => (r30 5) = .slice (some ⟨(sblk (r30 5)), 0, none⟩) 1 1 ∧ (N30 5) = [(sblk (r30 5), .cells ⟨List.flatten [(cel (r30 4))]⟩ 30 (0, 0))] ∧ Own 30 35 (.slice (some ⟨(sblk (r30 5)), 0, none⟩) 1 1) [(cel (r30 4))] (N30 5) | _ => True) ⟨?_, ?_, ?_, ?_, ?_, ?_, trivial⟩ ?_
   ·intro ρ r30 N30 B hB hBa hp hr hr0
    have q5 : ρ 5 = .pointer (some ⟨(pblk (r4 10)), 0, none⟩) := hr0 5 (by kernel_rfl)
    obtain ⟨ρ31, rfl⟩ := reopen_ex (uc q5 un)
    clear q5
    refine JL_pure (v := .pointer (some ⟨(pblk (r4 10)), 34, none⟩)) rfl (fa30_3 rfl rfl) ?_
    refine JL_nil ?_
    exact ⟨.pointer (some ⟨(pblk (r4 10)), 34, none⟩), [], rfl, (Sub.emp Sub.refl), rfl⟩
   ·intro ρ r30 N30 B hB hBa hp hr hr0
    have q25 : ρ 25 = .pointer (some ⟨(pblk (r4 10)), 34, none⟩) := (hr 0 _ _ (by decide) rfl rfl rfl).trans (hp 0 (by decide) rfl)
    obtain ⟨ρ32, rfl⟩ := reopen_ex (uc q25 un)
    clear q25
    refine JL_run rfl (Pu_load1 ty28 rfl (At.bx 7 (made_old ((hB 1 (by decide)).trans rfl))) (pkP_34 ..) ?_)
    refine JL_nil ?_
    exact ⟨v, [], rfl, (Sub.emp Sub.refl), rfl⟩
   ·intro ρ r30 N30 B hB hBa hp hr hr0
    have q2 : ρ 2 = .pointer (some ⟨b1, 0, none⟩) := hr0 2 (by kernel_rfl)
    obtain ⟨ρ33, rfl⟩ := reopen_ex (uc q2 un)
    clear q2
    refine JL_run rfl (Pu_load ty118 rfl (At.bx 11 (made_old ((hB 5 (by decide)).trans rfl))) rfl ?_)
    refine JL_nil ?_
    exact ⟨.agg ⟨[fv, .func (.func gr) ⟨frs⟩ ⟨crs⟩]⟩, [], rfl, (Sub.emp Sub.refl), rfl⟩
   ·intro ρ r30 N30 B hB hBa hp hr hr0
    have q7 : ρ 7 = .pointer (some ⟨b29, 0, none⟩) := hr0 7 (by kernel_rfl)
    obtain ⟨ρ34, rfl⟩ := reopen_ex (uc q7 un)
    clear q7
    refine JL_run rfl (Pu_load ty30 rfl (At.bx 6 (made_old ((hB 0 (by decide)).trans rfl))) (sub_a (RP_len hE28)) ?_)
    refine JL_nil ?_
    exact ⟨.agg ⟨cs28⟩, [], rfl, (Sub.emp Sub.refl), rfl⟩
   ·intro ρ r30 N30 B hB hBa hp hr hr0
    have q27 : ρ 27 = .agg ⟨[fv, .func (.func gr) ⟨frs⟩ ⟨crs⟩]⟩ := (hr 2 _ _ (by decide) rfl rfl rfl).trans (hp 2 (by decide) rfl)
    have q28 : ρ 28 = .agg ⟨cs28⟩ := (hr 3 _ _ (by decide) rfl rfl rfl).trans (hp 3 (by decide) rfl)
    obtain ⟨ρ35, rfl⟩ := reopen_ex (uc q27 (uc q28 un))
    clear q27 q28
    refine JL_call rfl Tryz.call103 rfl (fun hin => ih _ (List.getElem_mem h27n) _ _ (RP.mono (Hle.hu _ _) hE28) (fun s h hh => hgr s h (Hle.trans (Hle.hu _ _) hh)) (by omega)) rfl ?_
    rintro _ _ ⟨cs36, k36, rfl, rfl, hO36⟩
    refine JL_nil ?_
    exact ⟨.agg ⟨cs36⟩, k36, rfl, Sub.refl, ⟨rfl, hO36⟩⟩
   ·intro ρ r30 N30 B hB hBa hp hr hr0
    have p4 : (r30 4) = .agg ⟨(cel (r30 4))⟩ ∧ OP (mapP rf ((kids)[j])) (cel (r30 4)) (N30 4) := hp 4 (by decide) rfl
    have q29 : ρ 29 = .agg ⟨(cel (r30 4))⟩ := (hr 4 _ _ (by decide) rfl rfl rfl).trans p4.1
    obtain ⟨ρ37, rfl⟩ := reopen_ex (uc q29 un)
    clear q29
    refine JL_run rfl (Runs_buildSlice (vs := [.agg ⟨(cel (r30 4))⟩]) [(cel (r30 4))] Tryz.runUnderlying28 el30 rfl rfl (by intro e he; simp only [List.mem_cons, List.not_mem_nil, or_false] at he; subst he; exact p4.2.len) rfl (by decide) fun b38 k38 ho38 hk38 => ?_)
    refine JL_nil ?_
    exact ⟨.slice (some ⟨b38, 0, none⟩) 1 1, k38, rfl, Sub.refl, ⟨rfl, hk38, ho38⟩⟩
   ·intro ρ r30 N30 hp hr hr0
    have p4 : (r30 4) = .agg ⟨(cel (r30 4))⟩ ∧ OP (mapP rf ((kids)[j])) (cel (r30 4)) (N30 4) := hp 4 (by decide)
    have p5 : (r30 5) = .slice (some ⟨(sblk (r30 5)), 0, none⟩) 1 1 ∧ (N30 5) = [(sblk (r30 5), .cells ⟨List.flatten [(cel (r30 4))]⟩ 30 (0, 0))] ∧ Own 30 35 (.slice (some ⟨(sblk (r30 5)), 0, none⟩) 1 1) [(cel (r30 4))] (N30 5) := hp 5 (by decide)
    have q2 : ρ 2 = .pointer (some ⟨b1, 0, none⟩) := hr0 2 (by kernel_rfl)
    have q4 : ρ 4 = .pointer (some ⟨b3, 0, none⟩) := hr0 4 (by kernel_rfl)
    have q5 : ρ 5 = .pointer (some ⟨(pblk (r4 10)), 0, none⟩) := hr0 5 (by kernel_rfl)
    have q19 : ρ 19 = ks := hr0 19 (by kernel_rfl)
    have q20 : ρ 20 = .int .i64 (((kids).length : Int)) := hr0 20 (by kernel_rfl)
    have q21 : ρ 21 = .int .i64 ((j : Int)) := hr0 21 (by kernel_rfl)
    have q26 : ρ 26 = v := (hr 1 _ _ (by decide) rfl rfl).trans (hp 1 (by decide))
    have q30 : ρ 30 = .slice (some ⟨(sblk (r30 5)), 0, none⟩) 1 1 := (hr 5 _ _ (by decide) rfl rfl).trans p5.1
    obtain ⟨ρ39, rfl⟩ := reopen_ex (uc q2 (uc q4 (uc q5 (uc q19 (uc q20 (uc q21 (uc q26 (uc q30 un))))))))
    clear q2 q4 q5 q19 q20 q21 q26 q30
    have p30_4 := p4; have p30_5 := p5
    clear hp hr hr0 p4 p5
    refine JL_sub (M' := [(N30 0), (N30 1), (N30 2), (N30 3), (N30 4), (N30 5), [(b29, .cells ⟨cs28⟩ 30 (0, 0))], [((pblk (r4 10)), .cells ⟨pkP (kind) (num) (rf (ref)) (v)⟩ 30 (0, 0))], k1, k2, [(b3, .cells ⟨pkP (0) (0) (zS) (.slice none 0 0)⟩ 30 (0, 0))], [(b1, .cells ⟨[fv, .func (.func gr) ⟨frs⟩ ⟨crs⟩]⟩ 118 (0, 0))]]) Sub.refl ?_
    refine JL_sub (M' := [(N30 4), (N30 5), [(b29, .cells ⟨cs28⟩ 30 (0, 0))], [((pblk (r4 10)), .cells ⟨pkP (kind) (num) (rf (ref)) (v)⟩ 30 (0, 0))], k1, k2, [(b3, .cells ⟨pkP (0) (0) (zS) (.slice none 0 0)⟩ 30 (0, 0))], [(b1, .cells ⟨[fv, .func (.func gr) ⟨frs⟩ ⟨crs⟩]⟩ 118 (0, 0))]]) (Sd (Sd (Sd (Sd (Sk (Sk (Sk (Sk (Sk (Sk (Sk (Sk Sub.nil)))))))))))) ?_
    show JL _ _ _ [_, _, _] _ _ _
    have hlens40 : ∀ e ∈ ([(cel (r30 4))] : List (List Value)), List.length e = 35 := by
     intro e he; simp only [List.mem_cons, List.not_mem_nil, or_false] at he
     rcases he with rfl
     ·exact p30_4.2.len
    have hoks40 : ∀ e ∈ ([(cel (r30 4))] : List (List Value)), okc e := by
     intro e he; simp only [List.mem_cons, List.not_mem_nil, or_false] at he
     rcases he with rfl
     ·exact p30_4.2.ok
    refine JL_run rfl (Runs_append (i := 4) (n := 1) (es' := [(cel (r30 4))]) Tryz.runUnderlying28 Tryz.runUnderlying28 (Or.inl rfl) el30 rfl rfl rfl ho (fun F w m => Src.row (((At.k 1 rfl (by rw [p30_5.2.1]; exact List.mem_cons_self))).heap m) (sub_a (flatten_len hlens40))) rfl hlens40 hoks40 (by decide) (by omega) fun v40 k40 ho40 => ?_)
    refine JL_pure (v := .pointer (some ⟨(pblk (r4 10)), 34, none⟩)) rfl (fa30_3 rfl rfl) ?_
    refine JL_run rfl (Runs_storeB 3 (vs := [v40]) (l := pkP (kind) (num) (rf (ref)) (v40)) ty28 rfl rfl rfl (cells_one ho40.one) rfl (okc_cons ho40.one okc_nil) (pkP_s34 ..) ?_)
    refine JL_nil ?_
    refine J_region ?_
    refine JL_pure (v := .int .i64 (((j + 1 : Nat) : Int))) rfl (Pu.inc rfl rfl (by omega)) ?_
    refine JL_pure (v := .int .i64 (((j + 1 : Nat) : Int))) rfl (Pu.move rfl) ?_
    refine JL_nil ?_
    refine ⟨_, ?_, (j + 1), (v40), (es ++ [(cel (r30 4))]), (k40), ((k2) ++ ((N30 4))), rfl, rfl, rfl, rfl, rfl, rfl, (Sub.cons 3 rfl (Sub.cons 3 rfl (Sub.join (Sub.cons 3 rfl (Sk (Sd (Sd (Sk (Sk Sub.nil))))))))), ?_, ?_, ?_, rfl⟩
    ·omega
    ·omega
    ·assumption
    ·rw [mapPs_take rf kids j h27n]; exact OPs.snoc p30_4.2 hop
  ·skip
   replace h27 := df h27
   have h27n : (kids).length ≤ j := by omega
   refine J_exit _ rfl ?_
   refine J_seq ?_
   refine J_region ?_
   refine JL_run rfl (Pu_load ty30 rfl (At.bx 0 rfl) (pkP_a ..) ?_)
   refine JL_run rfl (Runs_storeB 3 (vs := pkP (kind) (num) (rf (ref)) (v)) (l := pkP (kind) (num) (rf (ref)) (v)) ty30 rfl rfl rfl rfl rfl (pkP_ok ho.one) (pkP_s ..) ?_)
   refine JL_nil ?_
   refine J_ret ?_
   refine ⟨.agg ⟨pkP (kind) (num) (rf (ref)) (v)⟩, [k1 ++ k2], Ret.one rfl (RV.cell ty30 rfl (At.bx 3 rfl) (pkP_a ..)), (Sub.join (Sd (Sk (Sk Sub.nil)))), ?_⟩
   rw [List.take_of_length_le h27n] at hop
   exact ⟨_, _, rfl, rfl, by rw [mapP]; exact OP_mk.2 ⟨v, es, k1, k2, rfl, hk, hn, ho, hop, rfl, by rw [mapPs_len]; exact hks.le⟩⟩
end Go.Proofs.YtdeinimmmjichaaGreat.Hs
/-! Walks, printed by a program of this session's own (gen.py). -/
namespace Go.Proofs.YtdeinimmmjichaaGreat.Hs
open Go Go.Proofs
set_option maxRecDepth 100000
set_option linter.unusedVariables false
set_option linter.unusedSimpArgs false
attribute [local irreducible] JL J CT wlo
theorem ownPattern_ct : ∀ (p : Pt) (cs : List Value) (H : Heap), RP H cs p → sizeP p ≤ 1000000 → CT Tryz.prog 11 ⟨[.agg ⟨cs⟩]⟩ [] H (fun v N => ∃ cs k, v = .agg ⟨cs⟩ ∧ N = [k] ∧ OP (p) cs k) := by
 intro p
 induction p using Pt.ind with
 | h kind num ref kids ih =>
 intro cs H hp hz
 rw [sizeP] at hz
 have hlk := len_sizePs kids
 obtain ⟨ks, rfl, hk, hn, hks⟩ := RP_mk.1 hp
 refine CT_enter Tryz.func11 rfl rfl ?_
 refine J_seq ?_
 refine J_region ?_
 refine JL_run rfl (Runs_box (l := pkP (kind) (num) (ref) (ks)) rfl rfl fun b1 => ?_)
 refine JL_run rfl (Runs_alloc (l := pkP (0) (0) (zS) (.slice none 0 0)) Tryz.zeroValue30 rfl fun b2 => ?_)
 refine JL_nil ?_
 refine J_seq ?_
 refine J_region ?_
 refine JL_pure (v := .pointer (some ⟨b1, 34, none⟩)) rfl (fa30_3 rfl rfl) ?_
 refine JL_run rfl (Pu_load1 ty28 rfl (At.bx 1 rfl) (pkP_34 ..) ?_)
 refine JL_pure (v := ks) rfl (Pu.assign rfl) ?_
 refine JL_nil ?_
 refine J_seq ?_
 refine J_region ?_
 refine JL_pure (v := .pointer (some ⟨b1, 34, none⟩)) rfl (fa30_3 rfl rfl) ?_
 refine JL_run rfl (Runs_storeB 1 (vs := [.slice none 0 0]) (l := pkP (kind) (num) (ref) (.slice none 0 0)) ty28 rfl rfl rfl rfl rfl (okc_cons rfl okc_nil) (pkP_s34 ..) ?_)
 refine JL_nil ?_
 refine J_seq ?_
 refine J_seq ?_
 refine J_region ?_
 refine JL_pure (v := ks) rfl (Pu.move rfl) ?_
 obtain ⟨a3, cap3, hv3⟩ := hks.sl
 have hle3 := hks.le
 refine JL_pure (v := .int .i64 (((kids).length : Int))) rfl (Pu.lenSl Tryz.runUnderlying28 hv3) ?_
 refine JL_pure (v := .int .i64 (0)) rfl (Pu.move rfl) ?_
 refine JL_nil ?_
 refine J_block ?_
 refine J_loop (fun k ρ M => ∃ (j : Nat) (v : Value) (es : List (List Value)) (k1 k2 : Chunk), ρ 1 = .pointer (some ⟨b1, 0, none⟩) ∧ ρ 2 = .pointer (some ⟨b2, 0, none⟩) ∧ ρ 9 = ks ∧ ρ 10 = .int .i64 (((kids).length : Int)) ∧ ρ 11 = .int .i64 ((j : Int)) ∧ Sub [[(b1, .cells ⟨pkP (kind) (num) (ref) (v)⟩ 30 (0, 0))], k1, k2, [(b2, .cells ⟨pkP (0) (0) (zS) (.slice none 0 0)⟩ 30 (0, 0))]] M ∧ j ≤ (kids).length ∧ Own 30 35 v es k1 ∧ OPs ((kids.take j)) es k2 ∧ k = (kids).length - j) _ ⟨0, (.slice none 0 0), [], [], [], rfl, rfl, rfl, rfl, rfl, (Sub.cons 1 rfl (Sub.emp (Sub.emp (Sk Sub.nil)))), Nat.zero_le _, Own.nil, OPs.nil, rfl⟩ ?_
 rintro _ ρ4 _ ⟨j, v, es, k1, k2, e5, e6, e7, e8, e9, hm10, hj, hov, hopv, rfl⟩
 obtain ⟨ρ11, rfl⟩ := reopen_ex (uc e5 (uc e6 (uc e7 (uc e8 (uc e9 un)))))
 clear e5 e6 e7 e8 e9
 refine J_sub hm10 ?_
 have hlen := hks.le
 refine J_seq ?_
 refine J_region ?_
 refine JL_pure (v := .bool (decide ((j : Int) < ((kids).length : Int)))) rfl (Pu.lss rfl rfl) ?_
 refine JL_nil ?_
 refine J_seq ?_
 refine J_cond (b := decide ((j : Int) < ((kids).length : Int))) rfl (fun h12 => ?_) (fun h12 => ?_)
 ·skip
  replace h12 := dt h12
  have h12n : j < (kids).length := by omega
  have helv := OPs_len hopv
  rw [List.length_take] at helv
  have hs1 := sizePs_mem _ (List.getElem_mem h12n)
  refine J_skip ?_
  refine J_seq ?_
  refine J_block ?_
  refine J_seq ?_
  refine J_region ?_
  obtain ⟨b13, o13, cap13, row13, T13, fr13, cs13, hv13, hb13, hs13, hE13⟩ := hks.get j (by first | assumption | omega | decide | simp)
  refine JL_pure (v := .pointer (some ⟨b13, o13 + j * 35, none⟩)) rfl (Pu.idx j Tryz.runUnderlying28 ty30 hv13 rfl rfl (by first | assumption | omega | decide | simp)) ?_
  refine JL_run rfl (Pu_load ty30 rfl (At.im hb13) hs13 ?_)
  refine JL_run rfl (Runs_alloc (l := pkP (0) (0) (zS) (.slice none 0 0)) Tryz.zeroValue30 rfl fun b14 => ?_)
  refine JL_run rfl (Runs_storeB 0 (vs := cs13) (l := cs13) ty30 rfl rfl rfl rfl (RP_len hE13) (RP_ok hE13) (spl_a (n := 35) rfl (RP_len hE13)) ?_)
  refine JL_nil ?_
  refine J_draw mixed #[0, 1, 0, 4, 12, 31, 63, 127] 5 5 5 rfl (by kernel_rfl) (fun i r15 N15 => match i with | 0 => (r15 0) = .pointer (some ⟨b1, 34, none⟩) | 1 => (r15 1) = v | 2 => (r15 2) = .agg ⟨cs13⟩ | 3 => (r15 3) = .agg ⟨(cel (r15 3))⟩ ∧ OP ((kids)[j]) (cel (r15 3)) (N15 3) | 4 => (r15 4) = .slice (some ⟨(sblk (r15 4)), 0, none⟩) 1 1 ∧ (N15 4) = [(sblk (r15 4), .cells ⟨List.flatten [(cel (r15 3))]⟩ 30 (0, 0))] ∧ Own 30 35 (.slice (some ⟨(sblk (r15 4)), 0, none⟩) 1 1) [(cel (r15 3))] (N15 4) | _ => True) ⟨?_, ?_, ?_, ?_, ?_, trivial⟩ ?_
  ·intro ρ r15 N15 B hB hBa hp hr hr0
   have q1 : ρ 1 = .pointer (some ⟨b1, 0, none⟩) := hr0 1 (by kernel_rfl)
   obtain ⟨ρ16, rfl⟩ := reopen_ex (uc q1 un)
   clear q1
   refine JL_pure (v := .pointer (some ⟨b1, 34, none⟩)) rfl (fa30_3 rfl rfl) ?_
   refine JL_nil ?_
   exact ⟨.pointer (some ⟨b1, 34, none⟩), [], rfl, (Sub.emp Sub.refl), rfl⟩
  ·intro ρ r15 N15 B hB hBa hp hr hr0
   have q15 : ρ 15 = .pointer (some ⟨b1, 34, none⟩) := (hr 0 _ _ (by decide) rfl rfl rfl).trans (hp 0 (by decide) rfl)
   obtain ⟨ρ17, rfl⟩ := reopen_ex (uc q15 un)
   clear q15
   refine JL_run rfl (Pu_load1 ty28 rfl (At.bx 6 (made_old ((hB 1 (by decide)).trans rfl))) (pkP_34 ..) ?_)
   refine JL_nil ?_
   exact ⟨v, [], rfl, (Sub.emp Sub.refl), rfl⟩
  ·intro ρ r15 N15 B hB hBa hp hr hr0
   have q5 : ρ 5 = .pointer (some ⟨b14, 0, none⟩) := hr0 5 (by kernel_rfl)
   obtain ⟨ρ18, rfl⟩ := reopen_ex (uc q5 un)
   clear q5
   refine JL_run rfl (Pu_load ty30 rfl (At.bx 5 (made_old ((hB 0 (by decide)).trans rfl))) (sub_a (RP_len hE13)) ?_)
   refine JL_nil ?_
   exact ⟨.agg ⟨cs13⟩, [], rfl, (Sub.emp Sub.refl), rfl⟩
  ·intro ρ r15 N15 B hB hBa hp hr hr0
   have q17 : ρ 17 = .agg ⟨cs13⟩ := (hr 2 _ _ (by decide) rfl rfl rfl).trans (hp 2 (by decide) rfl)
   obtain ⟨ρ19, rfl⟩ := reopen_ex (uc q17 un)
   clear q17
   refine JL_call rfl Tryz.call11 rfl (fun hin => ih _ (List.getElem_mem h12n) _ _ (RP.mono (Hle.hu _ _) hE13) (by omega)) rfl ?_
   rintro _ _ ⟨cs20, k20, rfl, rfl, hO20⟩
   refine JL_nil ?_
   exact ⟨.agg ⟨cs20⟩, k20, rfl, Sub.refl, ⟨rfl, hO20⟩⟩
  ·intro ρ r15 N15 B hB hBa hp hr hr0
   have p3 : (r15 3) = .agg ⟨(cel (r15 3))⟩ ∧ OP ((kids)[j]) (cel (r15 3)) (N15 3) := hp 3 (by decide) rfl
   have q18 : ρ 18 = .agg ⟨(cel (r15 3))⟩ := (hr 3 _ _ (by decide) rfl rfl rfl).trans p3.1
   obtain ⟨ρ21, rfl⟩ := reopen_ex (uc q18 un)
   clear q18
   refine JL_run rfl (Runs_buildSlice (vs := [.agg ⟨(cel (r15 3))⟩]) [(cel (r15 3))] Tryz.runUnderlying28 el30 rfl rfl (by intro e he; simp only [List.mem_cons, List.not_mem_nil, or_false] at he; subst he; exact p3.2.len) rfl (by decide) fun b22 k22 ho22 hk22 => ?_)
   refine JL_nil ?_
   exact ⟨.slice (some ⟨b22, 0, none⟩) 1 1, k22, rfl, Sub.refl, ⟨rfl, hk22, ho22⟩⟩
  ·intro ρ r15 N15 hp hr hr0
   have p3 : (r15 3) = .agg ⟨(cel (r15 3))⟩ ∧ OP ((kids)[j]) (cel (r15 3)) (N15 3) := hp 3 (by decide)
   have p4 : (r15 4) = .slice (some ⟨(sblk (r15 4)), 0, none⟩) 1 1 ∧ (N15 4) = [(sblk (r15 4), .cells ⟨List.flatten [(cel (r15 3))]⟩ 30 (0, 0))] ∧ Own 30 35 (.slice (some ⟨(sblk (r15 4)), 0, none⟩) 1 1) [(cel (r15 3))] (N15 4) := hp 4 (by decide)
   have q1 : ρ 1 = .pointer (some ⟨b1, 0, none⟩) := hr0 1 (by kernel_rfl)
   have q2 : ρ 2 = .pointer (some ⟨b2, 0, none⟩) := hr0 2 (by kernel_rfl)
   have q9 : ρ 9 = ks := hr0 9 (by kernel_rfl)
   have q10 : ρ 10 = .int .i64 (((kids).length : Int)) := hr0 10 (by kernel_rfl)
   have q11 : ρ 11 = .int .i64 ((j : Int)) := hr0 11 (by kernel_rfl)
   have q16 : ρ 16 = v := (hr 1 _ _ (by decide) rfl rfl).trans (hp 1 (by decide))
   have q19 : ρ 19 = .slice (some ⟨(sblk (r15 4)), 0, none⟩) 1 1 := (hr 4 _ _ (by decide) rfl rfl).trans p4.1
   obtain ⟨ρ23, rfl⟩ := reopen_ex (uc q1 (uc q2 (uc q9 (uc q10 (uc q11 (uc q16 (uc q19 un)))))))
   clear q1 q2 q9 q10 q11 q16 q19
   have p15_3 := p3; have p15_4 := p4
   clear hp hr hr0 p3 p4
   refine JL_sub (M' := [(N15 0), (N15 1), (N15 2), (N15 3), (N15 4), [(b14, .cells ⟨cs13⟩ 30 (0, 0))], [(b1, .cells ⟨pkP (kind) (num) (ref) (v)⟩ 30 (0, 0))], k1, k2, [(b2, .cells ⟨pkP (0) (0) (zS) (.slice none 0 0)⟩ 30 (0, 0))]]) Sub.refl ?_
   refine JL_sub (M' := [(N15 3), (N15 4), [(b14, .cells ⟨cs13⟩ 30 (0, 0))], [(b1, .cells ⟨pkP (kind) (num) (ref) (v)⟩ 30 (0, 0))], k1, k2, [(b2, .cells ⟨pkP (0) (0) (zS) (.slice none 0 0)⟩ 30 (0, 0))]]) (Sd (Sd (Sd (Sk (Sk (Sk (Sk (Sk (Sk (Sk Sub.nil)))))))))) ?_
   show JL _ _ _ [_, _, _] _ _ _
   have hlens24 : ∀ e ∈ ([(cel (r15 3))] : List (List Value)), List.length e = 35 := by
    intro e he; simp only [List.mem_cons, List.not_mem_nil, or_false] at he
    rcases he with rfl
    ·exact p15_3.2.len
   have hoks24 : ∀ e ∈ ([(cel (r15 3))] : List (List Value)), okc e := by
    intro e he; simp only [List.mem_cons, List.not_mem_nil, or_false] at he
    rcases he with rfl
    ·exact p15_3.2.ok
   refine JL_run rfl (Runs_append (i := 4) (n := 1) (es' := [(cel (r15 3))]) Tryz.runUnderlying28 Tryz.runUnderlying28 (Or.inl rfl) el30 rfl rfl rfl hov (fun F w m => Src.row (((At.k 1 rfl (by rw [p15_4.2.1]; exact List.mem_cons_self))).heap m) (sub_a (flatten_len hlens24))) rfl hlens24 hoks24 (by decide) (by omega) fun v24 k24 ho24 => ?_)
   refine JL_pure (v := .pointer (some ⟨b1, 34, none⟩)) rfl (fa30_3 rfl rfl) ?_
   refine JL_run rfl (Runs_storeB 3 (vs := [v24]) (l := pkP (kind) (num) (ref) (v24)) ty28 rfl rfl rfl (cells_one ho24.one) rfl (okc_cons ho24.one okc_nil) (pkP_s34 ..) ?_)
   refine JL_nil ?_
   refine J_region ?_
   refine JL_pure (v := .int .i64 (((j + 1 : Nat) : Int))) rfl (Pu.inc rfl rfl (by omega)) ?_
   refine JL_pure (v := .int .i64 (((j + 1 : Nat) : Int))) rfl (Pu.move rfl) ?_
   refine JL_nil ?_
   refine ⟨_, ?_, (j + 1), (v24), (es ++ [(cel (r15 3))]), (k24), ((k2) ++ ((N15 3))), rfl, rfl, rfl, rfl, rfl, (Sub.cons 3 rfl (Sub.cons 3 rfl (Sub.join (Sub.cons 3 rfl (Sk (Sd (Sd (Sk Sub.nil)))))))), ?_, ?_, ?_, rfl⟩
   ·omega
   ·omega
   ·assumption
   ·rw [List.take_succ_eq_append_getElem h12n]; exact OPs.snoc p15_3.2 hopv
 ·skip
  replace h12 := df h12
  have h12n : (kids).length ≤ j := by omega
  refine J_exit _ rfl ?_
  refine J_seq ?_
  refine J_region ?_
  refine JL_run rfl (Pu_load ty30 rfl (At.bx 0 rfl) (pkP_a ..) ?_)
  refine JL_run rfl (Runs_storeB 3 (vs := pkP (kind) (num) (ref) (v)) (l := pkP (kind) (num) (ref) (v)) ty30 rfl rfl rfl rfl rfl (pkP_ok hov.one) (pkP_s ..) ?_)
  refine JL_nil ?_
  refine J_ret ?_
  refine ⟨.agg ⟨pkP (kind) (num) (ref) (v)⟩, [k1 ++ k2], Ret.one rfl (RV.cell ty30 rfl (At.bx 3 rfl) (pkP_a ..)), (Sub.join (Sd (Sk (Sk Sub.nil)))), ?_⟩
  rw [List.take_of_length_le h12n] at hopv
  exact ⟨_, _, rfl, rfl, OP_mk.2 ⟨v, es, k1, k2, rfl, hk, hn, hov, hopv, rfl, hks.le⟩⟩
end Go.Proofs.YtdeinimmmjichaaGreat.Hs
