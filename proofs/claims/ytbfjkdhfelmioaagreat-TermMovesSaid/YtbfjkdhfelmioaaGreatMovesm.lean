import Derived.Test.YtbfjkdhfelmioaaGreatMovesl
/-! Walks, printed by a program of this session's own (gen.py). -/
namespace Go.Proofs.YtbfjkdhfelmioaaGreat.Hs
open Go Go.Proofs
set_option maxRecDepth 100000
set_option linter.unusedVariables false
set_option linter.unusedSimpArgs false
attribute [local irreducible] JL J CT wlo
theorem told_ct (a b : Tm) (e w : Int) (cs ws : List Value) (k : Chunk) (H : Heap) (hO : OT a cs k) (hb : RT H ws b) : CT Tryz.prog 13 ⟨[.agg ⟨cs⟩, .agg ⟨ws⟩, .int .i64 (e), .int .i64 (w)]⟩ [k] H (fun v N => v = .bool (decide (e = w) && decide (a = b)) ∧ N = []) := by
 refine CT_enter Tryz.func13 rfl rfl ?_
 refine J_seq ?_
 refine J_region ?_
 refine JL_run rfl (Runs_box (l := cs) rfl rfl fun b1 => ?_)
 refine JL_run rfl (Runs_box (l := ws) rfl rfl fun b2 => ?_)
 refine JL_pure (v := .bool (false)) rfl (Pu.assign rfl) ?_
 refine JL_nil ?_
 refine J_seq ?_
 refine J_region ?_
 refine JL_pure (v := .int .i64 (e)) rfl (Pu.move rfl) ?_
 refine JL_pure (v := .int .i64 (w)) rfl (Pu.move rfl) ?_
 refine JL_pure (v := .bool (decide (e = w))) rfl (Pu.eql rfl rfl) ?_
 refine JL_pure (v := .bool (decide (e = w))) rfl (Pu.move rfl) ?_
 cases h3 : (decide (e = w)) with
 | true =>
  replace h3 := dt h3
  refine JL_run rfl (Pu_load ty27 rfl (At.bx 1 rfl) (sub_a hO.len) ?_)
  refine JL_run rfl (Pu_load ty27 rfl (At.bx 0 rfl) (sub_a (RT_len hb)) ?_)
  refine JL_call rfl Tryz.call14 rfl (fun hin => sameTerm_ct _ _ _ _ _ (hO.rd (hin 2 _ rfl)) (RT.mono (Hle.hu _ _) hb)) rfl ?_
  rintro _ _ ⟨rfl, rfl⟩
  refine JL_pure (v := .bool (decide (a = b))) rfl (Pu.pickT rfl rfl) ?_
  refine JL_pure (v := .bool (decide (a = b))) rfl (Pu.assign rfl) ?_
  refine JL_nil ?_
  refine J_seq ?_
  refine J_region ?_
  refine JL_run rfl (Pu_load ty27 rfl (At.bx 1 rfl) (sub_a hO.len) ?_)
  refine JL_call1 2 rfl Tryz.call59 rfl rfl (fun hin => spoil_ct _ _ _ _ hO) rfl ?_
  rintro _ _ ⟨rfl, rfl⟩
  refine JL_nil ?_
  refine J_seq ?_
  refine J_region ?_
  refine JL_pure (v := .bool (decide (a = b))) rfl (Pu.move rfl) ?_
  refine JL_pure (v := .bool (decide (a = b))) rfl (Pu.assign rfl) ?_
  refine JL_nil ?_
  refine J_ret ?_
  refine ⟨.bool (decide (a = b)), [], Ret.one rfl (RV.tmp rfl), Sub.nil, ?_⟩
  exact ⟨by simp_all, rfl⟩
 | false =>
  replace h3 := df h3
  refine JL_skip rfl ?_
  refine JL_skip rfl ?_
  refine JL_skip rfl ?_
  refine JL_pure (v := .bool (false)) rfl (Pu.pickF rfl rfl) ?_
  refine JL_pure (v := .bool (false)) rfl (Pu.assign rfl) ?_
  refine JL_nil ?_
  refine J_seq ?_
  refine J_region ?_
  refine JL_run rfl (Pu_load ty27 rfl (At.bx 1 rfl) (sub_a hO.len) ?_)
  refine JL_call1 2 rfl Tryz.call59 rfl rfl (fun hin => spoil_ct _ _ _ _ hO) rfl ?_
  rintro _ _ ⟨rfl, rfl⟩
  refine JL_nil ?_
  refine J_seq ?_
  refine J_region ?_
  refine JL_pure (v := .bool (false)) rfl (Pu.move rfl) ?_
  refine JL_pure (v := .bool (false)) rfl (Pu.assign rfl) ?_
  refine JL_nil ?_
  refine J_ret ?_
  refine ⟨.bool (false), [], Ret.one rfl (RV.tmp rfl), Sub.nil, ?_⟩
  exact ⟨by simp_all, rfl⟩
set_option maxHeartbeats 4000000 in
theorem moves_ct (t u : Tm) (dy fr n : Int) (cs us : List Value) (H : Heap) (ht : RT H cs t) (hu : RT H us u) : CT Tryz.prog 3 ⟨[.agg ⟨cs⟩, .agg ⟨us⟩, .int .i64 (dy), .int .i64 (fr), .int .i64 (n)]⟩ [] H (fun v N => v = .bool true ∧ N = []) := by
 refine CT_enter Tryz.func3 rfl rfl ?_
 refine J_seq ?_
 refine J_region ?_
 refine JL_run rfl (Runs_box (l := cs) rfl rfl fun b1 => ?_)
 refine JL_run rfl (Runs_box (l := us) rfl rfl fun b2 => ?_)
 refine JL_pure (v := .bool (false)) rfl (Pu.assign rfl) ?_
 refine JL_nil ?_
 refine J_seq ?_
 refine J_cut (fun ρ M => ρ 2 = .int .i64 (dy) ∧ ρ 3 = .int .i64 (fr) ∧ ρ 4 = .int .i64 (n) ∧ ρ 5 = .pointer (some ⟨b1, 0, none⟩) ∧ ρ 6 = .pointer (some ⟨b2, 0, none⟩) ∧ ρ 10 = .bool (false) ∧ ρ 29 = .bool (((cnT stG 0 (t) 0).1) || ((cnT stG 0 (u) 0).1)) ∧ M = [[(b2, .cells ⟨us⟩ 27 (0, 0))], [(b1, .cells ⟨cs⟩ 27 (0, 0))]]) ?_ ?_
 ·refine J_region ?_
  refine JL_run rfl (Pu_load ty27 rfl (At.bx 1 rfl) (sub_a (RT_len ht)) ?_)
  refine JL_call rfl Tryz.call5 rfl (fun hin => great_ct _ _ _ (RT.mono (Hle.hu _ _) ht)) rfl ?_
  rintro _ _ ⟨rfl, rfl⟩
  refine JL_pure (v := .bool ((cnT stG 0 (t) 0).1)) rfl (Pu.move rfl) ?_
  cases h3 : ((cnT stG 0 (t) 0).1) with
  | true =>
   refine JL_skip rfl ?_
   refine JL_skip rfl ?_
   refine JL_pure (v := .bool (true)) rfl (Pu.pickT rfl rfl) ?_
   refine JL_nil ?_
   first | exact ⟨rfl, rfl, rfl, rfl, rfl, rfl, rfl, rfl⟩ | (exfalso; omega)
  | false =>
   refine JL_run rfl (Pu_load ty27 rfl (At.bx 0 rfl) (sub_a (RT_len hu)) ?_)
   refine JL_call rfl Tryz.call5 rfl (fun hin => great_ct _ _ _ (RT.mono (Hle.hu _ _) hu)) rfl ?_
   rintro _ _ ⟨rfl, rfl⟩
   refine JL_pure (v := .bool ((cnT stG 0 (u) 0).1)) rfl (Pu.pickF rfl rfl) ?_
   refine JL_nil ?_
   first | exact ⟨rfl, rfl, rfl, rfl, rfl, rfl, rfl, rfl⟩ | (exfalso; omega)
 ·rintro ρ4 _ ⟨e5, e6, e7, e8, e9, e10, e11, rfl⟩
  obtain ⟨ρ12, rfl⟩ := reopen_ex (uc e5 (uc e6 (uc e7 (uc e8 (uc e9 (uc e10 (uc e11 un)))))))
  clear e5 e6 e7 e8 e9 e10 e11
  refine J_cond (b := ((cnT stG 0 (t) 0).1) || ((cnT stG 0 (u) 0).1)) rfl (fun h13 => ?_) (fun h13 => ?_)
  ·skip
   refine J_seq ?_
   refine J_region ?_
   refine JL_call rfl Tryz.call6 rfl (fun hin => awake_ct _) rfl ?_
   rintro _ _ ⟨rfl, rfl⟩
   refine JL_pure (v := .bool (true)) rfl (Pu.assign rfl) ?_
   refine JL_nil ?_
   refine J_ret ?_
   refine ⟨.bool (true), [], Ret.one rfl (RV.tmp rfl), Sub.nil, ?_⟩
   exact ⟨rfl, rfl⟩
  ·skip
   obtain ⟨h13a, h13b⟩ := orF h13
   refine J_skip ?_
   refine J_seq ?_
   refine J_draw mixed #[0, 1, 0, 7, 0, 0, 63, 127] 6 6 2 rfl (by kernel_rfl) (fun i r14 N14 => match i with | 0 => (r14 0) = .agg ⟨cs⟩ | 1 => (r14 1) = .agg ⟨(cel (r14 1))⟩ ∧ OT (t) (cel (r14 1)) (N14 1) | 2 => (r14 2) = .agg ⟨us⟩ | 3 => (r14 3) = .agg ⟨(cel (r14 3))⟩ ∧ OT (u) (cel (r14 3)) (N14 3) | 4 => (r14 4) = .pointer (some ⟨(pblk (r14 4)), 0, none⟩) ∧ (N14 4) = [((pblk (r14 4)), .cells ⟨pkT (0) (0) (zS) (.slice none 0 0) (.slice none 0 0)⟩ 27 (0, 0))] | 5 => (r14 5) = .pointer (some ⟨(pblk (r14 5)), 0, none⟩) ∧ (N14 5) = [((pblk (r14 5)), .cells ⟨pkT (0) (0) (zS) (.slice none 0 0) (.slice none 0 0)⟩ 27 (0, 0))] | _ => True) ⟨?_, ?_, ?_, ?_, ?_, ?_, trivial⟩ ?_
   ·intro ρ r14 N14 B hB hBa hp hr hr0
    have q5 : ρ 5 = .pointer (some ⟨b1, 0, none⟩) := hr0 5 (by kernel_rfl)
    obtain ⟨ρ15, rfl⟩ := reopen_ex (uc q5 un)
    clear q5
    refine JL_run rfl (Pu_load ty27 rfl (At.bx 7 (made_old ((hB 1 (by decide)).trans rfl))) (sub_a (RT_len ht)) ?_)
    refine JL_nil ?_
    exact ⟨.agg ⟨cs⟩, [], rfl, (Sub.emp Sub.refl), rfl⟩
   ·intro ρ r14 N14 B hB hBa hp hr hr0
    have q31 : ρ 31 = .agg ⟨cs⟩ := (hr 0 _ _ (by decide) rfl rfl rfl).trans (hp 0 (by decide) rfl)
    obtain ⟨ρ16, rfl⟩ := reopen_ex (uc q31 un)
    clear q31
    refine JL_call rfl Tryz.call7 rfl (fun hin => ownTerm_ct _ _ _ (RT.mono (Hle.hu _ _) ht) (by have := (great_size ‹(cnT stG 0 t 0).1 = false›); omega)) rfl ?_
    rintro _ _ ⟨cs17, k17, rfl, rfl, hO17⟩
    refine JL_nil ?_
    exact ⟨.agg ⟨cs17⟩, k17, rfl, Sub.refl, ⟨rfl, hO17⟩⟩
   ·intro ρ r14 N14 B hB hBa hp hr hr0
    have q6 : ρ 6 = .pointer (some ⟨b2, 0, none⟩) := hr0 6 (by kernel_rfl)
    obtain ⟨ρ18, rfl⟩ := reopen_ex (uc q6 un)
    clear q6
    refine JL_run rfl (Pu_load ty27 rfl (At.bx 6 (made_old ((hB 0 (by decide)).trans rfl))) (sub_a (RT_len hu)) ?_)
    refine JL_nil ?_
    exact ⟨.agg ⟨us⟩, [], rfl, (Sub.emp Sub.refl), rfl⟩
   ·intro ρ r14 N14 B hB hBa hp hr hr0
    have q33 : ρ 33 = .agg ⟨us⟩ := (hr 2 _ _ (by decide) rfl rfl rfl).trans (hp 2 (by decide) rfl)
    obtain ⟨ρ19, rfl⟩ := reopen_ex (uc q33 un)
    clear q33
    refine JL_call rfl Tryz.call7 rfl (fun hin => ownTerm_ct _ _ _ (RT.mono (Hle.hu _ _) hu) (by have := (great_size ‹(cnT stG 0 u 0).1 = false›); omega)) rfl ?_
    rintro _ _ ⟨cs20, k20, rfl, rfl, hO20⟩
    refine JL_nil ?_
    exact ⟨.agg ⟨cs20⟩, k20, rfl, Sub.refl, ⟨rfl, hO20⟩⟩
   ·intro ρ r14 N14 B hB hBa hp hr hr0
    refine JL_run rfl (Runs_alloc (l := pkT (0) (0) (zS) (.slice none 0 0) (.slice none 0 0)) Tryz.zeroValue27 rfl fun b21 => ?_)
    refine JL_nil ?_
    exact ⟨.pointer (some ⟨b21, 0, none⟩), [(b21, .cells ⟨pkT (0) (0) (zS) (.slice none 0 0) (.slice none 0 0)⟩ 27 (0, 0))], rfl, Sub.refl, ⟨rfl, rfl⟩⟩
   ·intro ρ r14 N14 B hB hBa hp hr hr0
    refine JL_run rfl (Runs_alloc (l := pkT (0) (0) (zS) (.slice none 0 0) (.slice none 0 0)) Tryz.zeroValue27 rfl fun b22 => ?_)
    refine JL_nil ?_
    exact ⟨.pointer (some ⟨b22, 0, none⟩), [(b22, .cells ⟨pkT (0) (0) (zS) (.slice none 0 0) (.slice none 0 0)⟩ 27 (0, 0))], rfl, Sub.refl, ⟨rfl, rfl⟩⟩
   ·intro ρ r14 N14 hp hr hr0
    have p1 : (r14 1) = .agg ⟨(cel (r14 1))⟩ ∧ OT (t) (cel (r14 1)) (N14 1) := hp 1 (by decide)
    have p3 : (r14 3) = .agg ⟨(cel (r14 3))⟩ ∧ OT (u) (cel (r14 3)) (N14 3) := hp 3 (by decide)
    have p4 : (r14 4) = .pointer (some ⟨(pblk (r14 4)), 0, none⟩) ∧ (N14 4) = [((pblk (r14 4)), .cells ⟨pkT (0) (0) (zS) (.slice none 0 0) (.slice none 0 0)⟩ 27 (0, 0))] := hp 4 (by decide)
    have p5 : (r14 5) = .pointer (some ⟨(pblk (r14 5)), 0, none⟩) ∧ (N14 5) = [((pblk (r14 5)), .cells ⟨pkT (0) (0) (zS) (.slice none 0 0) (.slice none 0 0)⟩ 27 (0, 0))] := hp 5 (by decide)
    have q2 : ρ 2 = .int .i64 (dy) := hr0 2 (by kernel_rfl)
    have q3 : ρ 3 = .int .i64 (fr) := hr0 3 (by kernel_rfl)
    have q4 : ρ 4 = .int .i64 (n) := hr0 4 (by kernel_rfl)
    have q5 : ρ 5 = .pointer (some ⟨b1, 0, none⟩) := hr0 5 (by kernel_rfl)
    have q6 : ρ 6 = .pointer (some ⟨b2, 0, none⟩) := hr0 6 (by kernel_rfl)
    have q10 : ρ 10 = .bool (false) := hr0 10 (by kernel_rfl)
    have q11 : ρ 11 = .pointer (some ⟨(pblk (r14 4)), 0, none⟩) := (hr 4 _ _ (by decide) rfl rfl).trans p4.1
    have q12 : ρ 12 = .pointer (some ⟨(pblk (r14 5)), 0, none⟩) := (hr 5 _ _ (by decide) rfl rfl).trans p5.1
    have q32 : ρ 32 = .agg ⟨(cel (r14 1))⟩ := (hr 1 _ _ (by decide) rfl rfl).trans p1.1
    have q34 : ρ 34 = .agg ⟨(cel (r14 3))⟩ := (hr 3 _ _ (by decide) rfl rfl).trans p3.1
    obtain ⟨ρ23, rfl⟩ := reopen_ex (uc q2 (uc q3 (uc q4 (uc q5 (uc q6 (uc q10 (uc q11 (uc q12 (uc q32 (uc q34 un))))))))))
    clear q2 q3 q4 q5 q6 q10 q11 q12 q32 q34
    have p14_1 := p1; have p14_3 := p3; have p14_4 := p4; have p14_5 := p5
    clear hp hr hr0 p1 p3 p4 p5
    refine JL_sub (M' := [(N14 0), (N14 1), (N14 2), (N14 3), (N14 4), (N14 5), [(b2, .cells ⟨us⟩ 27 (0, 0))], [(b1, .cells ⟨cs⟩ 27 (0, 0))]]) Sub.refl ?_
    refine JL_sub (M' := [(N14 1), (N14 3), [((pblk (r14 4)), .cells ⟨pkT (0) (0) (zS) (.slice none 0 0) (.slice none 0 0)⟩ 27 (0, 0))], [((pblk (r14 5)), .cells ⟨pkT (0) (0) (zS) (.slice none 0 0) (.slice none 0 0)⟩ 27 (0, 0))], [(b2, .cells ⟨us⟩ 27 (0, 0))], [(b1, .cells ⟨cs⟩ 27 (0, 0))]]) (Sub.cons 1 rfl (Sub.cons 2 rfl (Sub.cons 2 (congrArg some p14_4.2) (Sub.cons 2 (congrArg some p14_5.2) (Sub.cons 2 rfl (Sub.cons 2 rfl Sub.nil)))))) ?_
    show JL _ _ _ [_, _] _ _ _
    refine JL_run rfl (Runs_storeB 2 (vs := (cel (r14 1))) (l := (cel (r14 1))) ty27 rfl rfl rfl rfl p14_1.2.len p14_1.2.ok (spl_a (n := 36) rfl p14_1.2.len) ?_)
    refine JL_run rfl (Runs_storeB 3 (vs := (cel (r14 3))) (l := (cel (r14 3))) ty27 rfl rfl rfl rfl p14_3.2.len p14_3.2.ok (spl_a (n := 36) rfl p14_3.2.len) ?_)
    refine JL_nil ?_
    refine J_seq ?_
    refine J_region ?_
    refine JL_run rfl (Pu_load ty27 rfl (At.bx 5 rfl) (sub_a (RT_len ht)) ?_)
    refine JL_call rfl Tryz.call8 rfl (fun hin => rightL_ct _ _ _ (RT.mono (Hle.hu _ _) ht) (by have := (great_size ‹(cnT stG 0 t 0).1 = false›); omega)) rfl ?_
    rintro _ _ ⟨rfl, rfl⟩
    refine JL_pure (v := .tuple ⟨[.bool (decide (checkR 60 8 (t) = 0)), .int .i64 (checkR 60 8 (t))]⟩) rfl (Pu.move rfl) ?_
    refine JL_pure (v := .bool (decide (checkR 60 8 (t) = 0))) rfl (Pu.extract rfl rfl) ?_
    refine JL_pure (v := .int .i64 (checkR 60 8 (t))) rfl (Pu.extract rfl rfl) ?_
    refine JL_pure (v := .bool (decide (checkR 60 8 (t) = 0))) rfl (Pu.assign rfl) ?_
    refine JL_pure (v := .int .i64 (checkR 60 8 (t))) rfl (Pu.assign rfl) ?_
    refine JL_nil ?_
    refine J_seq ?_
    refine J_region ?_
    refine JL_run rfl (Pu_load ty27 rfl (At.bx 4 rfl) (sub_a (RT_len hu)) ?_)
    refine JL_call rfl Tryz.call8 rfl (fun hin => rightL_ct _ _ _ (RT.mono (Hle.hu _ _) hu) (by have := (great_size ‹(cnT stG 0 u 0).1 = false›); omega)) rfl ?_
    rintro _ _ ⟨rfl, rfl⟩
    refine JL_pure (v := .tuple ⟨[.bool (decide (checkR 60 8 (u) = 0)), .int .i64 (checkR 60 8 (u))]⟩) rfl (Pu.move rfl) ?_
    refine JL_pure (v := .bool (decide (checkR 60 8 (u) = 0))) rfl (Pu.extract rfl rfl) ?_
    refine JL_pure (v := .int .i64 (checkR 60 8 (u))) rfl (Pu.extract rfl rfl) ?_
    refine JL_pure (v := .bool (decide (checkR 60 8 (u) = 0))) rfl (Pu.assign rfl) ?_
    refine JL_pure (v := .int .i64 (checkR 60 8 (u))) rfl (Pu.assign rfl) ?_
    refine JL_nil ?_
    refine J_seq ?_
    refine J_region ?_
    refine JL_run rfl (Runs_alloc (l := pkT (0) (0) (zS) (.slice none 0 0) (.slice none 0 0)) Tryz.zeroValue27 rfl fun b24 => ?_)
    refine JL_run rfl (Runs_alloc (l := pkT (0) (0) (zS) (.slice none 0 0) (.slice none 0 0)) Tryz.zeroValue27 rfl fun b25 => ?_)
    refine JL_nil ?_
    refine J_seq ?_
    refine J_seq ?_
    refine J_region ?_
    refine JL_pure (v := .bool (decide (checkR 60 8 (t) = 0))) rfl (Pu.move rfl) ?_
    refine JL_nil ?_
    refine J_cond (b := decide (checkR 60 8 (t) = 0)) rfl (fun h26 => ?_) (fun h26 => ?_)
    ·skip
     replace h26 := dt h26
     refine J_region ?_
     refine JL_run rfl (Pu_load ty27 rfl (At.bx 7 rfl) (sub_a (RT_len ht)) ?_)
     refine JL_pure (v := .int .i64 (dy)) rfl (Pu.move rfl) ?_
     refine JL_pure (v := .int .i64 (fr)) rfl (Pu.move rfl) ?_
     refine JL_call rfl Tryz.call9 rfl (fun hin => shiftR_ct _ _ _ _ _ (RT.mono (Hle.hu _ _) ht) (by have := (great_size ‹(cnT stG 0 t 0).1 = false›); omega) (checkR_ok ‹checkR 60 8 t = 0›).2.1) rfl ?_
     rintro _ _ ⟨cs27, k27, rfl, rfl, hO27⟩
     refine JL_pure (v := .tuple ⟨[.agg ⟨cs27⟩, .int .i64 ((shiftR t (dy) (fr)).2)]⟩) rfl (Pu.move rfl) ?_
     refine JL_pure (v := .agg ⟨cs27⟩) rfl (Pu.extract rfl rfl) ?_
     refine JL_pure (v := .int .i64 ((shiftR t (dy) (fr)).2)) rfl (Pu.extract rfl rfl) ?_
     refine JL_run rfl (Runs_storeB 2 (vs := cs27) (l := cs27) ty27 rfl rfl rfl rfl hO27.len hO27.ok (spl_a (n := 36) rfl hO27.len) ?_)
     refine JL_pure (v := .int .i64 ((shiftR t (dy) (fr)).2)) rfl (Pu.assign rfl) ?_
     refine JL_nil ?_
     refine J_seq ?_
     refine J_region ?_
     refine JL_pure (v := .int .i64 ((shiftR t (dy) (fr)).2)) rfl (Pu.move rfl) ?_
     refine JL_pure (v := .int .i64 ((shiftR t (dy) (fr)).2)) rfl (Pu.assign rfl) ?_
     refine JL_nil ?_
     refine J_seq ?_
     refine J_seq ?_
     refine J_region ?_
     refine JL_pure (v := .bool (decide (checkR 60 8 (t) = 0))) rfl (Pu.move rfl) ?_
     refine JL_nil ?_
     refine J_cond (b := decide (checkR 60 8 (t) = 0)) rfl (fun _ => ?_) (fun h28 => absurd h26 (df h28))
     refine J_seq ?_
     refine J_region ?_
     refine JL_pure (v := .int .i64 (checkR 60 8 (u))) rfl (Pu.move rfl) ?_
     refine JL_pure (v := .int .i64 (checkR 60 8 (u))) rfl (Pu.assign rfl) ?_
     refine JL_nil ?_
     refine J_seq ?_
     refine J_region ?_
     refine JL_pure (v := .bool (decide (checkR 60 8 (u) = 0))) rfl (Pu.move rfl) ?_
     refine JL_nil ?_
     refine J_cond (b := decide (checkR 60 8 (u) = 0)) rfl (fun h29 => ?_) (fun h29 => ?_)
     ·skip
      replace h29 := dt h29
      refine J_region ?_
      refine JL_run rfl (Pu_load ty27 rfl (At.bx 8 rfl) (sub_a (RT_len ht)) ?_)
      refine JL_pure (v := .int .i64 (n)) rfl (Pu.move rfl) ?_
      refine JL_run rfl (Pu_load ty27 rfl (At.bx 7 rfl) (sub_a (RT_len hu)) ?_)
      refine JL_call rfl Tryz.call10 rfl (fun hin => substR_ct _ _ _ _ _ _ (RT.mono (Hle.hu _ _) ht) (RT.mono (Hle.hu _ _) hu) (by have := (great_size ‹(cnT stG 0 t 0).1 = false›); omega) (by have := (great_size ‹(cnT stG 0 u 0).1 = false›); omega) (checkR_ok ‹checkR 60 8 t = 0›).2.1 (checkR_ok ‹checkR 60 8 u = 0›).2.1 (put_bound (checkR_ok ‹checkR 60 8 t = 0›).1 (checkR_ok ‹checkR 60 8 u = 0›).1)) rfl ?_
      rintro _ _ ⟨cs30, k30, rfl, rfl, hO30⟩
      refine JL_pure (v := .tuple ⟨[.agg ⟨cs30⟩, .int .i64 ((substR t (n) u).2)]⟩) rfl (Pu.move rfl) ?_
      refine JL_pure (v := .agg ⟨cs30⟩) rfl (Pu.extract rfl rfl) ?_
      refine JL_pure (v := .int .i64 ((substR t (n) u).2)) rfl (Pu.extract rfl rfl) ?_
      refine JL_run rfl (Runs_storeB 2 (vs := cs30) (l := cs30) ty27 rfl rfl rfl rfl hO30.len hO30.ok (spl_a (n := 36) rfl hO30.len) ?_)
      refine JL_pure (v := .int .i64 ((substR t (n) u).2)) rfl (Pu.assign rfl) ?_
      refine JL_nil ?_
      refine J_seq ?_
      refine J_region ?_
      refine JL_run rfl (Pu_load ty27 rfl (At.bx 6 rfl) (sub_a p14_1.2.len) ?_)
      refine JL_pure (v := .int .i64 (dy)) rfl (Pu.move rfl) ?_
      refine JL_pure (v := .int .i64 (fr)) rfl (Pu.move rfl) ?_
      refine JL_call rfl Tryz.call11 rfl (fun hin => shiftP_ct _ _ _ _ _ (p14_1.2.rd (hin 4 _ rfl))) rfl ?_
      rintro _ _ ⟨cs31, k31, rfl, rfl, hO31⟩
      refine JL_pure (v := .tuple ⟨[.agg ⟨cs31⟩, .int .i64 ((shiftP t (dy) (fr)).2)]⟩) rfl (Pu.move rfl) ?_
      refine JL_pure (v := .agg ⟨cs31⟩) rfl (Pu.extract rfl rfl) ?_
      refine JL_pure (v := .int .i64 ((shiftP t (dy) (fr)).2)) rfl (Pu.extract rfl rfl) ?_
      refine JL_run rfl (Runs_alloc (l := pkT (0) (0) (zS) (.slice none 0 0) (.slice none 0 0)) Tryz.zeroValue27 rfl fun b32 => ?_)
      refine JL_run rfl (Runs_storeB 0 (vs := cs31) (l := cs31) ty27 rfl rfl rfl rfl hO31.len hO31.ok (spl_a (n := 36) rfl hO31.len) ?_)
      refine JL_pure (v := .int .i64 ((shiftP t (dy) (fr)).2)) rfl (Pu.assign rfl) ?_
      refine JL_nil ?_
      refine J_seq ?_
      refine J_region ?_
      refine JL_run rfl (Pu_load ty27 rfl (At.bx 8 rfl) (sub_a p14_1.2.len) ?_)
      refine JL_pure (v := .int .i64 (n)) rfl (Pu.move rfl) ?_
      refine JL_run rfl (Pu_load ty27 rfl (At.bx 9 rfl) (sub_a p14_3.2.len) ?_)
      refine JL_call rfl Tryz.call12 rfl (fun hin => substP_ct _ _ _ _ _ _ (p14_1.2.rd (hin 6 _ rfl)) (p14_3.2.rd (hin 7 _ rfl))) rfl ?_
      rintro _ _ ⟨cs33, k33, rfl, rfl, hO33⟩
      refine JL_pure (v := .tuple ⟨[.agg ⟨cs33⟩, .int .i64 ((substP t (n) u).2)]⟩) rfl (Pu.move rfl) ?_
      refine JL_pure (v := .agg ⟨cs33⟩) rfl (Pu.extract rfl rfl) ?_
      refine JL_pure (v := .int .i64 ((substP t (n) u).2)) rfl (Pu.extract rfl rfl) ?_
      refine JL_run rfl (Runs_alloc (l := pkT (0) (0) (zS) (.slice none 0 0) (.slice none 0 0)) Tryz.zeroValue27 rfl fun b34 => ?_)
      refine JL_run rfl (Runs_storeB 0 (vs := cs33) (l := cs33) ty27 rfl rfl rfl rfl hO33.len hO33.ok (spl_a (n := 36) rfl hO33.len) ?_)
      refine JL_pure (v := .int .i64 ((substP t (n) u).2)) rfl (Pu.assign rfl) ?_
      refine JL_nil ?_
      refine J_seq ?_
      refine J_region ?_
      refine JL_run rfl (Pu_load ty27 rfl (At.bx 2 rfl) (sub_a hO31.len) ?_)
      refine JL_run rfl (Pu_load ty27 rfl (At.bx 7 rfl) (sub_a hO27.len) ?_)
      refine JL_pure (v := .int .i64 ((shiftP t (dy) (fr)).2)) rfl (Pu.move rfl) ?_
      refine JL_pure (v := .int .i64 ((shiftR t (dy) (fr)).2)) rfl (Pu.move rfl) ?_
      refine JL_call1 3 rfl Tryz.call13 rfl rfl (fun hin => bool_r (r := true) (told_ct ((shiftP t (dy) (fr)).1) ((shiftR t (dy) (fr)).1) ((shiftP t (dy) (fr)).2) ((shiftR t (dy) (fr)).2) _ _ _ _ hO31 (hO27.rd (hin 4 _ rfl))) (by first | (rw [shiftP_eq, if_pos (by assumption)]; simp; done) | (rw [shiftP_eq, if_neg (by assumption)]; simp; done) | (rw [substP_eq, if_pos (by assumption), if_pos (by assumption)]; simp; done) | (rw [substP_eq, if_pos (by assumption), if_neg (by assumption)]; simp; done) | (rw [substP_eq, if_neg (by assumption)]; simp; done))) rfl ?_
      rintro _ _ ⟨rfl, rfl⟩
      refine JL_pure (v := .bool (true)) rfl (Pu.move rfl) ?_
      refine JL_run rfl (Pu_load ty27 rfl (At.bx 0 rfl) (sub_a hO33.len) ?_)
      refine JL_run rfl (Pu_load ty27 rfl (At.bx 5 rfl) (sub_a hO30.len) ?_)
      refine JL_pure (v := .int .i64 ((substP t (n) u).2)) rfl (Pu.move rfl) ?_
      refine JL_pure (v := .int .i64 ((substR t (n) u).2)) rfl (Pu.move rfl) ?_
      refine JL_call1 1 rfl Tryz.call13 rfl rfl (fun hin => bool_r (r := true) (told_ct ((substP t (n) u).1) ((substR t (n) u).1) ((substP t (n) u).2) ((substR t (n) u).2) _ _ _ _ hO33 (hO30.rd (hin 2 _ rfl))) (by first | (rw [shiftP_eq, if_pos (by assumption)]; simp; done) | (rw [shiftP_eq, if_neg (by assumption)]; simp; done) | (rw [substP_eq, if_pos (by assumption), if_pos (by assumption)]; simp; done) | (rw [substP_eq, if_pos (by assumption), if_neg (by assumption)]; simp; done) | (rw [substP_eq, if_neg (by assumption)]; simp; done))) rfl ?_
      rintro _ _ ⟨rfl, rfl⟩
      refine JL_pure (v := .bool (true)) rfl (Pu.pickT rfl rfl) ?_
      refine JL_pure (v := .bool (true)) rfl (Pu.move rfl) ?_
      refine JL_run rfl (Pu_load ty27 rfl (At.bx 8 rfl) (sub_a p14_1.2.len) ?_)
      refine JL_run rfl (Pu_load ty27 rfl (At.bx 11 rfl) (sub_a (RT_len ht)) ?_)
      refine JL_call rfl Tryz.call14 rfl (fun hin => bool_r (r := true) (sameTerm_ct _ _ _ _ _ (p14_1.2.rd (hin 6 _ rfl)) (RT.mono (Hle.hu _ _) ht)) (decide_eq_true rfl)) rfl ?_
      rintro _ _ ⟨rfl, rfl⟩
      refine JL_pure (v := .bool (true)) rfl (Pu.pickT rfl rfl) ?_
      refine JL_pure (v := .bool (true)) rfl (Pu.move rfl) ?_
      refine JL_run rfl (Pu_load ty27 rfl (At.bx 9 rfl) (sub_a p14_3.2.len) ?_)
      refine JL_run rfl (Pu_load ty27 rfl (At.bx 10 rfl) (sub_a (RT_len hu)) ?_)
      refine JL_call rfl Tryz.call14 rfl (fun hin => bool_r (r := true) (sameTerm_ct _ _ _ _ _ (p14_3.2.rd (hin 7 _ rfl)) (RT.mono (Hle.hu _ _) hu)) (decide_eq_true rfl)) rfl ?_
      rintro _ _ ⟨rfl, rfl⟩
      refine JL_pure (v := .bool (true)) rfl (Pu.pickT rfl rfl) ?_
      refine JL_pure (v := .bool (true)) rfl (Pu.move rfl) ?_
      refine JL_call rfl Tryz.call6 rfl (fun hin => awake_ct _) rfl ?_
      rintro _ _ ⟨rfl, rfl⟩
      refine JL_pure (v := .bool (true)) rfl (Pu.pickT rfl rfl) ?_
      refine JL_pure (v := .bool (true)) rfl (Pu.assign rfl) ?_
      refine JL_nil ?_
      refine J_ret ?_
      refine ⟨.bool (true), [], Ret.one rfl (RV.tmp rfl), Sub.nil, ?_⟩
      exact ⟨rfl, rfl⟩
     ·skip
      replace h29 := df h29
      refine J_skip ?_
      refine J_seq ?_
      refine J_region ?_
      refine JL_run rfl (Pu_load ty27 rfl (At.bx 5 rfl) (sub_a p14_1.2.len) ?_)
      refine JL_pure (v := .int .i64 (dy)) rfl (Pu.move rfl) ?_
      refine JL_pure (v := .int .i64 (fr)) rfl (Pu.move rfl) ?_
      refine JL_call rfl Tryz.call11 rfl (fun hin => shiftP_ct _ _ _ _ _ (p14_1.2.rd (hin 3 _ rfl))) rfl ?_
      rintro _ _ ⟨cs35, k35, rfl, rfl, hO35⟩
      refine JL_pure (v := .tuple ⟨[.agg ⟨cs35⟩, .int .i64 ((shiftP t (dy) (fr)).2)]⟩) rfl (Pu.move rfl) ?_
      refine JL_pure (v := .agg ⟨cs35⟩) rfl (Pu.extract rfl rfl) ?_
      refine JL_pure (v := .int .i64 ((shiftP t (dy) (fr)).2)) rfl (Pu.extract rfl rfl) ?_
      refine JL_run rfl (Runs_alloc (l := pkT (0) (0) (zS) (.slice none 0 0) (.slice none 0 0)) Tryz.zeroValue27 rfl fun b36 => ?_)
      refine JL_run rfl (Runs_storeB 0 (vs := cs35) (l := cs35) ty27 rfl rfl rfl rfl hO35.len hO35.ok (spl_a (n := 36) rfl hO35.len) ?_)
      refine JL_pure (v := .int .i64 ((shiftP t (dy) (fr)).2)) rfl (Pu.assign rfl) ?_
      refine JL_nil ?_
      refine J_seq ?_
      refine J_region ?_
      refine JL_run rfl (Pu_load ty27 rfl (At.bx 7 rfl) (sub_a p14_1.2.len) ?_)
      refine JL_pure (v := .int .i64 (n)) rfl (Pu.move rfl) ?_
      refine JL_run rfl (Pu_load ty27 rfl (At.bx 8 rfl) (sub_a p14_3.2.len) ?_)
      refine JL_call rfl Tryz.call12 rfl (fun hin => substP_ct _ _ _ _ _ _ (p14_1.2.rd (hin 5 _ rfl)) (p14_3.2.rd (hin 6 _ rfl))) rfl ?_
      rintro _ _ ⟨cs37, k37, rfl, rfl, hO37⟩
      refine JL_pure (v := .tuple ⟨[.agg ⟨cs37⟩, .int .i64 ((substP t (n) u).2)]⟩) rfl (Pu.move rfl) ?_
      refine JL_pure (v := .agg ⟨cs37⟩) rfl (Pu.extract rfl rfl) ?_
      refine JL_pure (v := .int .i64 ((substP t (n) u).2)) rfl (Pu.extract rfl rfl) ?_
      refine JL_run rfl (Runs_alloc (l := pkT (0) (0) (zS) (.slice none 0 0) (.slice none 0 0)) Tryz.zeroValue27 rfl fun b38 => ?_)
      refine JL_run rfl (Runs_storeB 0 (vs := cs37) (l := cs37) ty27 rfl rfl rfl rfl hO37.len hO37.ok (spl_a (n := 36) rfl hO37.len) ?_)
      refine JL_pure (v := .int .i64 ((substP t (n) u).2)) rfl (Pu.assign rfl) ?_
      refine JL_nil ?_
      refine J_seq ?_
      refine J_region ?_
      refine JL_run rfl (Pu_load ty27 rfl (At.bx 2 rfl) (sub_a hO35.len) ?_)
      refine JL_run rfl (Pu_load ty27 rfl (At.bx 6 rfl) (sub_a hO27.len) ?_)
      refine JL_pure (v := .int .i64 ((shiftP t (dy) (fr)).2)) rfl (Pu.move rfl) ?_
      refine JL_pure (v := .int .i64 ((shiftR t (dy) (fr)).2)) rfl (Pu.move rfl) ?_
      refine JL_call1 3 rfl Tryz.call13 rfl rfl (fun hin => bool_r (r := true) (told_ct ((shiftP t (dy) (fr)).1) ((shiftR t (dy) (fr)).1) ((shiftP t (dy) (fr)).2) ((shiftR t (dy) (fr)).2) _ _ _ _ hO35 (hO27.rd (hin 3 _ rfl))) (by first | (rw [shiftP_eq, if_pos (by assumption)]; simp; done) | (rw [shiftP_eq, if_neg (by assumption)]; simp; done) | (rw [substP_eq, if_pos (by assumption), if_pos (by assumption)]; simp; done) | (rw [substP_eq, if_pos (by assumption), if_neg (by assumption)]; simp; done) | (rw [substP_eq, if_neg (by assumption)]; simp; done))) rfl ?_
      rintro _ _ ⟨rfl, rfl⟩
      refine JL_pure (v := .bool (true)) rfl (Pu.move rfl) ?_
      refine JL_run rfl (Pu_load ty27 rfl (At.bx 0 rfl) (sub_a hO37.len) ?_)
      refine JL_run rfl (Pu_load ty27 rfl (At.bx 4 rfl) (pkT_a ..) ?_)
      refine JL_pure (v := .int .i64 ((substP t (n) u).2)) rfl (Pu.move rfl) ?_
      refine JL_pure (v := .int .i64 (checkR 60 8 (u))) rfl (Pu.move rfl) ?_
      refine JL_call1 1 rfl Tryz.call13 rfl rfl (fun hin => bool_r (r := true) (told_ct ((substP t (n) u).1) (zT) ((substP t (n) u).2) (checkR 60 8 (u)) _ _ _ _ hO37 RT_zero) (by first | (rw [shiftP_eq, if_pos (by assumption)]; simp; done) | (rw [shiftP_eq, if_neg (by assumption)]; simp; done) | (rw [substP_eq, if_pos (by assumption), if_pos (by assumption)]; simp; done) | (rw [substP_eq, if_pos (by assumption), if_neg (by assumption)]; simp; done) | (rw [substP_eq, if_neg (by assumption)]; simp; done))) rfl ?_
      rintro _ _ ⟨rfl, rfl⟩
      refine JL_pure (v := .bool (true)) rfl (Pu.pickT rfl rfl) ?_
      refine JL_pure (v := .bool (true)) rfl (Pu.move rfl) ?_
      refine JL_run rfl (Pu_load ty27 rfl (At.bx 7 rfl) (sub_a p14_1.2.len) ?_)
      refine JL_run rfl (Pu_load ty27 rfl (At.bx 10 rfl) (sub_a (RT_len ht)) ?_)
      refine JL_call rfl Tryz.call14 rfl (fun hin => bool_r (r := true) (sameTerm_ct _ _ _ _ _ (p14_1.2.rd (hin 5 _ rfl)) (RT.mono (Hle.hu _ _) ht)) (decide_eq_true rfl)) rfl ?_
      rintro _ _ ⟨rfl, rfl⟩
      refine JL_pure (v := .bool (true)) rfl (Pu.pickT rfl rfl) ?_
      refine JL_pure (v := .bool (true)) rfl (Pu.move rfl) ?_
      refine JL_run rfl (Pu_load ty27 rfl (At.bx 8 rfl) (sub_a p14_3.2.len) ?_)
      refine JL_run rfl (Pu_load ty27 rfl (At.bx 9 rfl) (sub_a (RT_len hu)) ?_)
      refine JL_call rfl Tryz.call14 rfl (fun hin => bool_r (r := true) (sameTerm_ct _ _ _ _ _ (p14_3.2.rd (hin 6 _ rfl)) (RT.mono (Hle.hu _ _) hu)) (decide_eq_true rfl)) rfl ?_
      rintro _ _ ⟨rfl, rfl⟩
      refine JL_pure (v := .bool (true)) rfl (Pu.pickT rfl rfl) ?_
      refine JL_pure (v := .bool (true)) rfl (Pu.move rfl) ?_
      refine JL_call rfl Tryz.call6 rfl (fun hin => awake_ct _) rfl ?_
      rintro _ _ ⟨rfl, rfl⟩
      refine JL_pure (v := .bool (true)) rfl (Pu.pickT rfl rfl) ?_
      refine JL_pure (v := .bool (true)) rfl (Pu.assign rfl) ?_
      refine JL_nil ?_
      refine J_ret ?_
      refine ⟨.bool (true), [], Ret.one rfl (RV.tmp rfl), Sub.nil, ?_⟩
      exact ⟨rfl, rfl⟩
    ·skip
     replace h26 := df h26
     refine J_skip ?_
     refine J_seq ?_
     refine J_region ?_
     refine JL_pure (v := .int .i64 (checkR 60 8 (t))) rfl (Pu.move rfl) ?_
     refine JL_pure (v := .int .i64 (checkR 60 8 (t))) rfl (Pu.assign rfl) ?_
     refine JL_nil ?_
     refine J_seq ?_
     refine J_seq ?_
     refine J_region ?_
     refine JL_pure (v := .bool (decide (checkR 60 8 (t) = 0))) rfl (Pu.move rfl) ?_
     refine JL_nil ?_
     refine J_cond (b := decide (checkR 60 8 (t) = 0)) rfl (fun h39 => absurd (dt h39) h26) (fun _ => ?_)
     refine J_skip ?_
     refine J_seq ?_
     refine J_region ?_
     refine JL_run rfl (Pu_load ty27 rfl (At.bx 4 rfl) (sub_a p14_1.2.len) ?_)
     refine JL_pure (v := .int .i64 (dy)) rfl (Pu.move rfl) ?_
     refine JL_pure (v := .int .i64 (fr)) rfl (Pu.move rfl) ?_
     refine JL_call rfl Tryz.call11 rfl (fun hin => shiftP_ct _ _ _ _ _ (p14_1.2.rd (hin 2 _ rfl))) rfl ?_
     rintro _ _ ⟨cs40, k40, rfl, rfl, hO40⟩
     refine JL_pure (v := .tuple ⟨[.agg ⟨cs40⟩, .int .i64 ((shiftP t (dy) (fr)).2)]⟩) rfl (Pu.move rfl) ?_
     refine JL_pure (v := .agg ⟨cs40⟩) rfl (Pu.extract rfl rfl) ?_
     refine JL_pure (v := .int .i64 ((shiftP t (dy) (fr)).2)) rfl (Pu.extract rfl rfl) ?_
     refine JL_run rfl (Runs_alloc (l := pkT (0) (0) (zS) (.slice none 0 0) (.slice none 0 0)) Tryz.zeroValue27 rfl fun b41 => ?_)
     refine JL_run rfl (Runs_storeB 0 (vs := cs40) (l := cs40) ty27 rfl rfl rfl rfl hO40.len hO40.ok (spl_a (n := 36) rfl hO40.len) ?_)
     refine JL_pure (v := .int .i64 ((shiftP t (dy) (fr)).2)) rfl (Pu.assign rfl) ?_
     refine JL_nil ?_
     refine J_seq ?_
     refine J_region ?_
     refine JL_run rfl (Pu_load ty27 rfl (At.bx 6 rfl) (sub_a p14_1.2.len) ?_)
     refine JL_pure (v := .int .i64 (n)) rfl (Pu.move rfl) ?_
     refine JL_run rfl (Pu_load ty27 rfl (At.bx 7 rfl) (sub_a p14_3.2.len) ?_)
     refine JL_call rfl Tryz.call12 rfl (fun hin => substP_ct _ _ _ _ _ _ (p14_1.2.rd (hin 4 _ rfl)) (p14_3.2.rd (hin 5 _ rfl))) rfl ?_
     rintro _ _ ⟨cs42, k42, rfl, rfl, hO42⟩
     refine JL_pure (v := .tuple ⟨[.agg ⟨cs42⟩, .int .i64 ((substP t (n) u).2)]⟩) rfl (Pu.move rfl) ?_
     refine JL_pure (v := .agg ⟨cs42⟩) rfl (Pu.extract rfl rfl) ?_
     refine JL_pure (v := .int .i64 ((substP t (n) u).2)) rfl (Pu.extract rfl rfl) ?_
     refine JL_run rfl (Runs_alloc (l := pkT (0) (0) (zS) (.slice none 0 0) (.slice none 0 0)) Tryz.zeroValue27 rfl fun b43 => ?_)
     refine JL_run rfl (Runs_storeB 0 (vs := cs42) (l := cs42) ty27 rfl rfl rfl rfl hO42.len hO42.ok (spl_a (n := 36) rfl hO42.len) ?_)
     refine JL_pure (v := .int .i64 ((substP t (n) u).2)) rfl (Pu.assign rfl) ?_
     refine JL_nil ?_
     refine J_seq ?_
     refine J_region ?_
     refine JL_run rfl (Pu_load ty27 rfl (At.bx 2 rfl) (sub_a hO40.len) ?_)
     refine JL_run rfl (Pu_load ty27 rfl (At.bx 5 rfl) (pkT_a ..) ?_)
     refine JL_pure (v := .int .i64 ((shiftP t (dy) (fr)).2)) rfl (Pu.move rfl) ?_
     refine JL_pure (v := .int .i64 (checkR 60 8 (t))) rfl (Pu.move rfl) ?_
     refine JL_call1 3 rfl Tryz.call13 rfl rfl (fun hin => bool_r (r := true) (told_ct ((shiftP t (dy) (fr)).1) (zT) ((shiftP t (dy) (fr)).2) (checkR 60 8 (t)) _ _ _ _ hO40 RT_zero) (by first | (rw [shiftP_eq, if_pos (by assumption)]; simp; done) | (rw [shiftP_eq, if_neg (by assumption)]; simp; done) | (rw [substP_eq, if_pos (by assumption), if_pos (by assumption)]; simp; done) | (rw [substP_eq, if_pos (by assumption), if_neg (by assumption)]; simp; done) | (rw [substP_eq, if_neg (by assumption)]; simp; done))) rfl ?_
     rintro _ _ ⟨rfl, rfl⟩
     refine JL_pure (v := .bool (true)) rfl (Pu.move rfl) ?_
     refine JL_run rfl (Pu_load ty27 rfl (At.bx 0 rfl) (sub_a hO42.len) ?_)
     refine JL_run rfl (Pu_load ty27 rfl (At.bx 3 rfl) (pkT_a ..) ?_)
     refine JL_pure (v := .int .i64 ((substP t (n) u).2)) rfl (Pu.move rfl) ?_
     refine JL_pure (v := .int .i64 (checkR 60 8 (t))) rfl (Pu.move rfl) ?_
     refine JL_call1 1 rfl Tryz.call13 rfl rfl (fun hin => bool_r (r := true) (told_ct ((substP t (n) u).1) (zT) ((substP t (n) u).2) (checkR 60 8 (t)) _ _ _ _ hO42 RT_zero) (by first | (rw [shiftP_eq, if_pos (by assumption)]; simp; done) | (rw [shiftP_eq, if_neg (by assumption)]; simp; done) | (rw [substP_eq, if_pos (by assumption), if_pos (by assumption)]; simp; done) | (rw [substP_eq, if_pos (by assumption), if_neg (by assumption)]; simp; done) | (rw [substP_eq, if_neg (by assumption)]; simp; done))) rfl ?_
     rintro _ _ ⟨rfl, rfl⟩
     refine JL_pure (v := .bool (true)) rfl (Pu.pickT rfl rfl) ?_
     refine JL_pure (v := .bool (true)) rfl (Pu.move rfl) ?_
     refine JL_run rfl (Pu_load ty27 rfl (At.bx 6 rfl) (sub_a p14_1.2.len) ?_)
     refine JL_run rfl (Pu_load ty27 rfl (At.bx 9 rfl) (sub_a (RT_len ht)) ?_)
     refine JL_call rfl Tryz.call14 rfl (fun hin => bool_r (r := true) (sameTerm_ct _ _ _ _ _ (p14_1.2.rd (hin 4 _ rfl)) (RT.mono (Hle.hu _ _) ht)) (decide_eq_true rfl)) rfl ?_
     rintro _ _ ⟨rfl, rfl⟩
     refine JL_pure (v := .bool (true)) rfl (Pu.pickT rfl rfl) ?_
     refine JL_pure (v := .bool (true)) rfl (Pu.move rfl) ?_
     refine JL_run rfl (Pu_load ty27 rfl (At.bx 7 rfl) (sub_a p14_3.2.len) ?_)
     refine JL_run rfl (Pu_load ty27 rfl (At.bx 8 rfl) (sub_a (RT_len hu)) ?_)
     refine JL_call rfl Tryz.call14 rfl (fun hin => bool_r (r := true) (sameTerm_ct _ _ _ _ _ (p14_3.2.rd (hin 5 _ rfl)) (RT.mono (Hle.hu _ _) hu)) (decide_eq_true rfl)) rfl ?_
     rintro _ _ ⟨rfl, rfl⟩
     refine JL_pure (v := .bool (true)) rfl (Pu.pickT rfl rfl) ?_
     refine JL_pure (v := .bool (true)) rfl (Pu.move rfl) ?_
     refine JL_call rfl Tryz.call6 rfl (fun hin => awake_ct _) rfl ?_
     rintro _ _ ⟨rfl, rfl⟩
     refine JL_pure (v := .bool (true)) rfl (Pu.pickT rfl rfl) ?_
     refine JL_pure (v := .bool (true)) rfl (Pu.assign rfl) ?_
     refine JL_nil ?_
     refine J_ret ?_
     refine ⟨.bool (true), [], Ret.one rfl (RV.tmp rfl), Sub.nil, ?_⟩
     exact ⟨rfl, rfl⟩
end Go.Proofs.YtbfjkdhfelmioaaGreat.Hs
