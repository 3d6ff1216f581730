import Derived.Test.YtdeinimmmjichaaGreatChecksl
/-! Walks, printed by a program of this session's own (gen.py). -/
namespace Go.Proofs.YtdeinimmmjichaaGreat.Hs
open Go Go.Proofs
set_option maxRecDepth 100000
set_option linter.unusedVariables false
set_option linter.unusedSimpArgs false
attribute [local irreducible] JL J CT wlo
set_option maxHeartbeats 8000000 in
theorem checks_ct (t u : Tm) (p : Pt) (d m : Int) (cs us ps : List Value) (H : Heap) (ht : RT H cs t) (hu : RT H us u) (hpt : RP H ps p) : CT Tryz.prog 3 ⟨[.agg ⟨cs⟩, .agg ⟨us⟩, .agg ⟨ps⟩, .int .i64 (d), .int .i64 (m)]⟩ [] H (fun v N => v = .bool true ∧ N = []) := by
 refine CT_enter Tryz.func3 rfl rfl ?_
 refine J_seq ?_
 refine J_region ?_
 refine JL_run rfl (Runs_box (l := cs) rfl rfl fun b1 => ?_)
 refine JL_run rfl (Runs_box (l := us) rfl rfl fun b2 => ?_)
 refine JL_run rfl (Runs_box (l := ps) rfl rfl fun b3 => ?_)
 refine JL_pure (v := .bool (false)) rfl (Pu.assign rfl) ?_
 refine JL_nil ?_
 refine J_seq ?_
 refine J_draw mixed #[0, 0, 1, 7, 15, 31, 0, 127] 7 7 3 rfl (by kernel_rfl) (fun i r4 N4 => match i with | 0 => (r4 0) = .agg ⟨(cel (r4 0))⟩ ∧ OT (eNu (0)) (cel (r4 0)) (N4 0) | 1 => (r4 1) = .agg ⟨ps⟩ | 2 => (r4 2) = .agg ⟨(cel (r4 2))⟩ ∧ OT (eNu (0)) (cel (r4 2)) (N4 2) | 3 => (r4 3) = .agg ⟨(ps) ++ ((cel (r4 2)))⟩ | 4 => (r4 4) = .slice (some ⟨(sblk (r4 4)), 0, none⟩) 1 1 ∧ (N4 4) = [(sblk (r4 4), .cells ⟨List.flatten [(ps) ++ ((cel (r4 2)))]⟩ 34 (0, 0))] ∧ Own 34 71 (.slice (some ⟨(sblk (r4 4)), 0, none⟩) 1 1) [(ps) ++ ((cel (r4 2)))] (N4 4) | 5 => (r4 5) = .agg ⟨(cel (r4 5))⟩ ∧ (((cel (r4 5))).length = 36 ∧ okc ((cel (r4 5))) ∧ ∀ h, Has ((N4 5)) h → RT h ((cel (r4 0))) (eNu (0)) → Hs.rdS RC 71 h (.slice (some ⟨(sblk (r4 4)), 0, none⟩) 1 1) [(p, eNu (0))] → RT h ((cel (r4 5))) (ofP p)) | 6 => (r4 6) = .pointer (some ⟨(pblk (r4 6)), 0, none⟩) ∧ (N4 6) = [((pblk (r4 6)), .cells ⟨pkT (0) (0) (zS) (.slice none 0 0) (.slice none 0 0)⟩ 27 (0, 0))] | _ => True) ⟨?_, ?_, ?_, ?_, ?_, ?_, ?_, trivial⟩ ?_
 ·intro ρ r4 N4 B hB hBa hp hr hr0
  refine JL_call rfl Tryz.call6 rfl (fun hin => nu_ct _ _ (by unfold inI; omega)) rfl ?_
  rintro _ _ ⟨cs5, k5, rfl, rfl, hO5⟩
  refine JL_nil ?_
  exact ⟨.agg ⟨cs5⟩, k5, rfl, Sub.refl, ⟨rfl, hO5⟩⟩
 ·intro ρ r4 N4 B hB hBa hp hr hr0
  have q7 : ρ 7 = .pointer (some ⟨b3, 0, none⟩) := hr0 7 (by kernel_rfl)
  obtain ⟨ρ6, rfl⟩ := reopen_ex (uc q7 un)
  clear q7
  refine JL_run rfl (Pu_load ty30 rfl (At.bx 7 (made_old ((hB 0 (by decide)).trans rfl))) (sub_a (RP_len hpt)) ?_)
  refine JL_nil ?_
  exact ⟨.agg ⟨ps⟩, [], rfl, (Sub.emp Sub.refl), rfl⟩
 ·intro ρ r4 N4 B hB hBa hp hr hr0
  refine JL_call rfl Tryz.call6 rfl (fun hin => nu_ct _ _ (by unfold inI; omega)) rfl ?_
  rintro _ _ ⟨cs7, k7, rfl, rfl, hO7⟩
  refine JL_nil ?_
  exact ⟨.agg ⟨cs7⟩, k7, rfl, Sub.refl, ⟨rfl, hO7⟩⟩
 ·intro ρ r4 N4 B hB hBa hp hr hr0
  have p2 : (r4 2) = .agg ⟨(cel (r4 2))⟩ ∧ OT (eNu (0)) (cel (r4 2)) (N4 2) := hp 2 (by decide) rfl
  have q28 : ρ 28 = .agg ⟨ps⟩ := (hr 1 _ _ (by decide) rfl rfl rfl).trans (hp 1 (by decide) rfl)
  have q29 : ρ 29 = .agg ⟨(cel (r4 2))⟩ := (hr 2 _ _ (by decide) rfl rfl rfl).trans p2.1
  obtain ⟨ρ8, rfl⟩ := reopen_ex (uc q28 (uc q29 un))
  clear q28 q29
  refine JL_call rfl Tryz.call7 rfl (fun hin => ca_ct _ _ (RP_len hpt) (RP_ok hpt) p2.2.len p2.2.ok _) rfl ?_
  rintro _ _ ⟨rfl, rfl⟩
  refine JL_nil ?_
  exact ⟨.agg ⟨(ps) ++ ((cel (r4 2)))⟩, [], rfl, (Sub.emp Sub.refl), rfl⟩
 ·intro ρ r4 N4 B hB hBa hp hr hr0
  have p2 : (r4 2) = .agg ⟨(cel (r4 2))⟩ ∧ OT (eNu (0)) (cel (r4 2)) (N4 2) := hp 2 (by decide) rfl
  have q30 : ρ 30 = .agg ⟨(ps) ++ ((cel (r4 2)))⟩ := (hr 3 _ _ (by decide) rfl rfl rfl).trans (hp 3 (by decide) rfl)
  obtain ⟨ρ9, rfl⟩ := reopen_ex (uc q30 un)
  clear q30
  refine JL_run rfl (Runs_buildSlice (vs := [.agg ⟨(ps) ++ ((cel (r4 2)))⟩]) [(ps) ++ ((cel (r4 2)))] Tryz.runUnderlying25 el34 rfl rfl (by intro e he; simp only [List.mem_cons, List.not_mem_nil, or_false] at he; subst he; exact (len_app (RP_len hpt) p2.2.len)) rfl (by decide) fun b10 k10 ho10 hk10 => ?_)
  refine JL_nil ?_
  exact ⟨.slice (some ⟨b10, 0, none⟩) 1 1, k10, rfl, Sub.refl, ⟨rfl, hk10, ho10⟩⟩
 ·intro ρ r4 N4 B hB hBa hp hr hr0
  have p0 : (r4 0) = .agg ⟨(cel (r4 0))⟩ ∧ OT (eNu (0)) (cel (r4 0)) (N4 0) := hp 0 (by decide) rfl
  have q27 : ρ 27 = .agg ⟨(cel (r4 0))⟩ := (hr 0 _ _ (by decide) rfl rfl rfl).trans p0.1
  have q31 : ρ 31 = .slice (some ⟨(sblk (r4 4)), 0, none⟩) 1 1 := (hr 4 _ _ (by decide) rfl rfl rfl).trans (hp 4 (by decide) rfl).1
  obtain ⟨ρ11, rfl⟩ := reopen_ex (uc q27 (uc q31 un))
  clear q27 q31
  refine JL_call rfl Tryz.call5 rfl (fun hin => ma_ct _ p0.2.len p0.2.ok _ _ _ _) rfl ?_
  rintro _ _ ⟨cs12, k12, rfl, rfl, hC12⟩
  replace hC12 : ((cs12).length = 36 ∧ okc (cs12) ∧ ∀ h, Has (k12) h → RT h ((cel (r4 0))) (eNu (0)) → Hs.rdS RC 71 h (.slice (some ⟨(sblk (r4 4)), 0, none⟩) 1 1) [(p, eNu (0))] → RT h (cs12) (ofP p)) := ⟨hC12.1, hC12.2.1, hC12.2.2 (eNu (0)) [(p, eNu (0))]⟩
  refine JL_nil ?_
  exact ⟨.agg ⟨cs12⟩, k12, rfl, Sub.refl, ⟨rfl, hC12⟩⟩
 ·intro ρ r4 N4 B hB hBa hp hr hr0
  refine JL_run rfl (Runs_alloc (l := pkT (0) (0) (zS) (.slice none 0 0) (.slice none 0 0)) Tryz.zeroValue27 rfl fun b13 => ?_)
  refine JL_nil ?_
  exact ⟨.pointer (some ⟨b13, 0, none⟩), [(b13, .cells ⟨pkT (0) (0) (zS) (.slice none 0 0) (.slice none 0 0)⟩ 27 (0, 0))], rfl, Sub.refl, ⟨rfl, rfl⟩⟩
 ·intro ρ r4 N4 hp hr hr0
  have p0 : (r4 0) = .agg ⟨(cel (r4 0))⟩ ∧ OT (eNu (0)) (cel (r4 0)) (N4 0) := hp 0 (by decide)
  have p2 : (r4 2) = .agg ⟨(cel (r4 2))⟩ ∧ OT (eNu (0)) (cel (r4 2)) (N4 2) := hp 2 (by decide)
  have p4 : (r4 4) = .slice (some ⟨(sblk (r4 4)), 0, none⟩) 1 1 ∧ (N4 4) = [(sblk (r4 4), .cells ⟨List.flatten [(ps) ++ ((cel (r4 2)))]⟩ 34 (0, 0))] ∧ Own 34 71 (.slice (some ⟨(sblk (r4 4)), 0, none⟩) 1 1) [(ps) ++ ((cel (r4 2)))] (N4 4) := hp 4 (by decide)
  have p5 : (r4 5) = .agg ⟨(cel (r4 5))⟩ ∧ (((cel (r4 5))).length = 36 ∧ okc ((cel (r4 5))) ∧ ∀ h, Has ((N4 5)) h → RT h ((cel (r4 0))) (eNu (0)) → Hs.rdS RC 71 h (.slice (some ⟨(sblk (r4 4)), 0, none⟩) 1 1) [(p, eNu (0))] → RT h ((cel (r4 5))) (ofP p)) := hp 5 (by decide)
  have p6 : (r4 6) = .pointer (some ⟨(pblk (r4 6)), 0, none⟩) ∧ (N4 6) = [((pblk (r4 6)), .cells ⟨pkT (0) (0) (zS) (.slice none 0 0) (.slice none 0 0)⟩ 27 (0, 0))] := hp 6 (by decide)
  have q3 : ρ 3 = .int .i64 (d) := hr0 3 (by kernel_rfl)
  have q4 : ρ 4 = .int .i64 (m) := hr0 4 (by kernel_rfl)
  have q5 : ρ 5 = .pointer (some ⟨b1, 0, none⟩) := hr0 5 (by kernel_rfl)
  have q6 : ρ 6 = .pointer (some ⟨b2, 0, none⟩) := hr0 6 (by kernel_rfl)
  have q7 : ρ 7 = .pointer (some ⟨b3, 0, none⟩) := hr0 7 (by kernel_rfl)
  have q10 : ρ 10 = .bool (false) := hr0 10 (by kernel_rfl)
  have q11 : ρ 11 = .pointer (some ⟨(pblk (r4 6)), 0, none⟩) := (hr 6 _ _ (by decide) rfl rfl).trans p6.1
  have q32 : ρ 32 = .agg ⟨(cel (r4 5))⟩ := (hr 5 _ _ (by decide) rfl rfl).trans p5.1
  obtain ⟨ρ14, rfl⟩ := reopen_ex (uc q3 (uc q4 (uc q5 (uc q6 (uc q7 (uc q10 (uc q11 (uc q32 un))))))))
  clear q3 q4 q5 q6 q7 q10 q11 q32
  have p4_0 := p0; have p4_2 := p2; have p4_4 := p4; have p4_5 := p5; have p4_6 := p6
  clear hp hr hr0 p0 p2 p4 p5 p6
  refine JL_sub (M' := [(N4 0), (N4 1), (N4 2), (N4 3), (N4 4), (N4 5), (N4 6), [(b3, .cells ⟨ps⟩ 30 (0, 0))], [(b2, .cells ⟨us⟩ 27 (0, 0))], [(b1, .cells ⟨cs⟩ 27 (0, 0))]]) Sub.refl ?_
  refine JL_sub (M' := [(N4 0), (N4 2), (N4 4), (N4 5), [((pblk (r4 6)), .cells ⟨pkT (0) (0) (zS) (.slice none 0 0) (.slice none 0 0)⟩ 27 (0, 0))], [(b3, .cells ⟨ps⟩ 30 (0, 0))], [(b2, .cells ⟨us⟩ 27 (0, 0))], [(b1, .cells ⟨cs⟩ 27 (0, 0))]]) (Sk (Sd (Sk (Sd (Sk (Sk (Se p4_6.2 (Sk (Sk (Sk Sub.nil)))))))))) ?_
  show JL _ _ _ [_] _ _ _
  refine JL_run rfl (Runs_storeB 4 (vs := (cel (r4 5))) (l := (cel (r4 5))) ty27 rfl rfl rfl rfl p4_5.2.1 p4_5.2.2.1 (spl_a (n := 36) rfl p4_5.2.1) ?_)
  refine JL_nil ?_
  refine J_seq ?_
  refine J_seq ?_
  refine J_region ?_
  refine JL_run rfl (Pu_load ty27 rfl (At.bx 7 rfl) (sub_a (RT_len ht)) ?_)
  refine JL_call rfl Tryz.call8 rfl (fun hin => great_ct _ _ _ (RT.mono (Hle.hu _ _) ht)) rfl ?_
  rintro _ _ ⟨rfl, rfl⟩
  refine JL_pure (v := .bool ((cnT stG 0 (t) 0).1)) rfl (Pu.move rfl) ?_
  cases h15 : ((cnT stG 0 (t) 0).1) with
  | true =>
   refine JL_skip rfl ?_
   refine JL_skip rfl ?_
   refine JL_pure (v := .bool (true)) rfl (Pu.pickT rfl rfl) ?_
   refine JL_pure (v := .bool (true)) rfl (Pu.move rfl) ?_
   refine JL_skip rfl ?_
   refine JL_skip rfl ?_
   refine JL_pure (v := .bool (true)) rfl (Pu.pickT rfl rfl) ?_
   refine JL_nil ?_
   refine J_cond (b := true) rfl (fun _ => ?_) (fun h => absurd h (by simp))
   refine J_seq ?_
   refine J_region ?_
   refine JL_call rfl Tryz.call9 rfl (fun hin => awake_ct _) rfl ?_
   rintro _ _ ⟨rfl, rfl⟩
   refine JL_pure (v := .bool (true)) rfl (Pu.assign rfl) ?_
   refine JL_nil ?_
   refine J_ret ?_
   refine ⟨.bool (true), [], Ret.one rfl (RV.tmp rfl), Sub.nil, ?_⟩
   exact ⟨rfl, rfl⟩
  | false =>
   refine JL_run rfl (Pu_load ty27 rfl (At.bx 6 rfl) (sub_a (RT_len hu)) ?_)
   refine JL_call rfl Tryz.call8 rfl (fun hin => great_ct _ _ _ (RT.mono (Hle.hu _ _) hu)) rfl ?_
   rintro _ _ ⟨rfl, rfl⟩
   refine JL_pure (v := .bool ((cnT stG 0 (u) 0).1)) rfl (Pu.pickF rfl rfl) ?_
   refine JL_pure (v := .bool ((cnT stG 0 (u) 0).1)) rfl (Pu.move rfl) ?_
   cases h16 : ((cnT stG 0 (u) 0).1) with
   | true =>
    refine JL_skip rfl ?_
    refine JL_skip rfl ?_
    refine JL_pure (v := .bool (true)) rfl (Pu.pickT rfl rfl) ?_
    refine JL_nil ?_
    refine J_cond (b := true) rfl (fun _ => ?_) (fun h => absurd h (by simp))
    refine J_seq ?_
    refine J_region ?_
    refine JL_call rfl Tryz.call9 rfl (fun hin => awake_ct _) rfl ?_
    rintro _ _ ⟨rfl, rfl⟩
    refine JL_pure (v := .bool (true)) rfl (Pu.assign rfl) ?_
    refine JL_nil ?_
    refine J_ret ?_
    refine ⟨.bool (true), [], Ret.one rfl (RV.tmp rfl), Sub.nil, ?_⟩
    exact ⟨rfl, rfl⟩
   | false =>
    refine JL_run rfl (Pu_load ty27 rfl (At.bx 4 rfl) (sub_a p4_5.2.1) ?_)
    refine JL_call rfl Tryz.call8 rfl (fun hin => great_ct _ _ _ (p4_5.2.2.2 _ (hin 3 _ rfl) (p4_0.2.rd (hin 0 _ rfl)) (Own.rdC1 p4_4.2.2 (hin 2 _ rfl) (RP.mono (Hle.hu _ _) hpt) (p4_2.2.rd (hin 1 _ rfl))))) rfl ?_
    rintro _ _ ⟨rfl, rfl⟩
    refine JL_pure (v := .bool ((cnT stG 0 (ofP p) 0).1)) rfl (Pu.pickF rfl rfl) ?_
    refine JL_nil ?_
    refine J_cond (b := (cnT stG 0 (ofP p) 0).1) rfl (fun h17 => ?_) (fun h17 => ?_)
    ·skip
     refine J_seq ?_
     refine J_region ?_
     refine JL_call rfl Tryz.call9 rfl (fun hin => awake_ct _) rfl ?_
     rintro _ _ ⟨rfl, rfl⟩
     refine JL_pure (v := .bool (true)) rfl (Pu.assign rfl) ?_
     refine JL_nil ?_
     refine J_ret ?_
     refine ⟨.bool (true), [], Ret.one rfl (RV.tmp rfl), Sub.nil, ?_⟩
     exact ⟨rfl, rfl⟩
    ·skip
     refine J_skip ?_
     refine J_seq ?_
     refine J_sub (M' := [(N4 0), (N4 2), (N4 4), (N4 5), [((pblk (r4 6)), .cells ⟨(cel (r4 5))⟩ 27 (0, 0))], [(b3, .cells ⟨ps⟩ 30 (0, 0))], [(b2, .cells ⟨us⟩ 27 (0, 0))], [(b1, .cells ⟨cs⟩ 27 (0, 0))]]) Sub.refl ?_
     refine J_draw mixed #[0, 1, 0, 7, 0, 31, 0, 0, 0, 511, 1023, 2047] 9 9 8 rfl (by kernel_rfl) (fun i r18 N18 => match i with | 0 => (r18 0) = .agg ⟨cs⟩ | 1 => (r18 1) = .agg ⟨(cel (r18 1))⟩ ∧ OT (t) (cel (r18 1)) (N18 1) | 2 => (r18 2) = .agg ⟨us⟩ | 3 => (r18 3) = .agg ⟨(cel (r18 3))⟩ ∧ OT (u) (cel (r18 3)) (N18 3) | 4 => (r18 4) = .agg ⟨ps⟩ | 5 => (r18 5) = .agg ⟨(cel (r18 5))⟩ ∧ OP (p) (cel (r18 5)) (N18 5) | 6 => (r18 6) = .pointer (some ⟨(pblk (r18 6)), 0, none⟩) ∧ (N18 6) = [((pblk (r18 6)), .cells ⟨pkT (0) (0) (zS) (.slice none 0 0) (.slice none 0 0)⟩ 27 (0, 0))] | 7 => (r18 7) = .pointer (some ⟨(pblk (r18 7)), 0, none⟩) ∧ (N18 7) = [((pblk (r18 7)), .cells ⟨pkT (0) (0) (zS) (.slice none 0 0) (.slice none 0 0)⟩ 27 (0, 0))] | 8 => (r18 8) = .pointer (some ⟨(pblk (r18 8)), 0, none⟩) ∧ (N18 8) = [((pblk (r18 8)), .cells ⟨pkP (0) (0) (zS) (.slice none 0 0)⟩ 30 (0, 0))] | _ => True) ⟨?_, ?_, ?_, ?_, ?_, ?_, ?_, ?_, ?_, trivial⟩ ?_
     ·intro ρ r18 N18 B hB hBa hp hr hr0
      have q5 : ρ 5 = .pointer (some ⟨b1, 0, none⟩) := hr0 5 (by kernel_rfl)
      obtain ⟨ρ19, rfl⟩ := reopen_ex (uc q5 un)
      clear q5
      refine JL_run rfl (Pu_load ty27 rfl (At.bx 16 (made_old ((hB 7 (by decide)).trans rfl))) (sub_a (RT_len ht)) ?_)
      refine JL_nil ?_
      exact ⟨.agg ⟨cs⟩, [], rfl, (Sub.emp Sub.refl), rfl⟩
     ·intro ρ r18 N18 B hB hBa hp hr hr0
      have q44 : ρ 44 = .agg ⟨cs⟩ := (hr 0 _ _ (by decide) rfl rfl rfl).trans (hp 0 (by decide) rfl)
      obtain ⟨ρ20, rfl⟩ := reopen_ex (uc q44 un)
      clear q44
      refine JL_call rfl Tryz.call10 rfl (fun hin => ownTerm_ct _ _ _ (RT.mono (Hle.hu _ _) ht) (by have := (great_size ‹(cnT stG 0 t 0).1 = false›); omega)) rfl ?_
      rintro _ _ ⟨cs21, k21, rfl, rfl, hO21⟩
      refine JL_nil ?_
      exact ⟨.agg ⟨cs21⟩, k21, rfl, Sub.refl, ⟨rfl, hO21⟩⟩
     ·intro ρ r18 N18 B hB hBa hp hr hr0
      have q6 : ρ 6 = .pointer (some ⟨b2, 0, none⟩) := hr0 6 (by kernel_rfl)
      obtain ⟨ρ22, rfl⟩ := reopen_ex (uc q6 un)
      clear q6
      refine JL_run rfl (Pu_load ty27 rfl (At.bx 15 (made_old ((hB 6 (by decide)).trans rfl))) (sub_a (RT_len hu)) ?_)
      refine JL_nil ?_
      exact ⟨.agg ⟨us⟩, [], rfl, (Sub.emp Sub.refl), rfl⟩
     ·intro ρ r18 N18 B hB hBa hp hr hr0
      have q46 : ρ 46 = .agg ⟨us⟩ := (hr 2 _ _ (by decide) rfl rfl rfl).trans (hp 2 (by decide) rfl)
      obtain ⟨ρ23, rfl⟩ := reopen_ex (uc q46 un)
      clear q46
      refine JL_call rfl Tryz.call10 rfl (fun hin => ownTerm_ct _ _ _ (RT.mono (Hle.hu _ _) hu) (by have := (great_size ‹(cnT stG 0 u 0).1 = false›); omega)) rfl ?_
      rintro _ _ ⟨cs24, k24, rfl, rfl, hO24⟩
      refine JL_nil ?_
      exact ⟨.agg ⟨cs24⟩, k24, rfl, Sub.refl, ⟨rfl, hO24⟩⟩
     ·intro ρ r18 N18 B hB hBa hp hr hr0
      have q7 : ρ 7 = .pointer (some ⟨b3, 0, none⟩) := hr0 7 (by kernel_rfl)
      obtain ⟨ρ25, rfl⟩ := reopen_ex (uc q7 un)
      clear q7
      refine JL_run rfl (Pu_load ty30 rfl (At.bx 14 (made_old ((hB 5 (by decide)).trans rfl))) (sub_a (RP_len hpt)) ?_)
      refine JL_nil ?_
      exact ⟨.agg ⟨ps⟩, [], rfl, (Sub.emp Sub.refl), rfl⟩
     ·intro ρ r18 N18 B hB hBa hp hr hr0
      have q48 : ρ 48 = .agg ⟨ps⟩ := (hr 4 _ _ (by decide) rfl rfl rfl).trans (hp 4 (by decide) rfl)
      obtain ⟨ρ26, rfl⟩ := reopen_ex (uc q48 un)
      clear q48
      refine JL_call rfl Tryz.call11 rfl (fun hin => ownPattern_ct _ _ _ (RP.mono (Hle.hu _ _) hpt) (by have e := (great_size ‹(cnT stG 0 (ofP p) 0).1 = false›); rw [size_of] at e; omega)) rfl ?_
      rintro _ _ ⟨cs27, k27, rfl, rfl, hO27⟩
      refine JL_nil ?_
      exact ⟨.agg ⟨cs27⟩, k27, rfl, Sub.refl, ⟨rfl, hO27⟩⟩
     ·intro ρ r18 N18 B hB hBa hp hr hr0
      refine JL_run rfl (Runs_alloc (l := pkT (0) (0) (zS) (.slice none 0 0) (.slice none 0 0)) Tryz.zeroValue27 rfl fun b28 => ?_)
      refine JL_nil ?_
      exact ⟨.pointer (some ⟨b28, 0, none⟩), [(b28, .cells ⟨pkT (0) (0) (zS) (.slice none 0 0) (.slice none 0 0)⟩ 27 (0, 0))], rfl, Sub.refl, ⟨rfl, rfl⟩⟩
     ·intro ρ r18 N18 B hB hBa hp hr hr0
      refine JL_run rfl (Runs_alloc (l := pkT (0) (0) (zS) (.slice none 0 0) (.slice none 0 0)) Tryz.zeroValue27 rfl fun b29 => ?_)
      refine JL_nil ?_
      exact ⟨.pointer (some ⟨b29, 0, none⟩), [(b29, .cells ⟨pkT (0) (0) (zS) (.slice none 0 0) (.slice none 0 0)⟩ 27 (0, 0))], rfl, Sub.refl, ⟨rfl, rfl⟩⟩
     ·intro ρ r18 N18 B hB hBa hp hr hr0
      refine JL_run rfl (Runs_alloc (l := pkP (0) (0) (zS) (.slice none 0 0)) Tryz.zeroValue30 rfl fun b30 => ?_)
      refine JL_nil ?_
      exact ⟨.pointer (some ⟨b30, 0, none⟩), [(b30, .cells ⟨pkP (0) (0) (zS) (.slice none 0 0)⟩ 30 (0, 0))], rfl, Sub.refl, ⟨rfl, rfl⟩⟩
     ·intro ρ r18 N18 hp hr hr0
      have p1 : (r18 1) = .agg ⟨(cel (r18 1))⟩ ∧ OT (t) (cel (r18 1)) (N18 1) := hp 1 (by decide)
      have p3 : (r18 3) = .agg ⟨(cel (r18 3))⟩ ∧ OT (u) (cel (r18 3)) (N18 3) := hp 3 (by decide)
      have p5 : (r18 5) = .agg ⟨(cel (r18 5))⟩ ∧ OP (p) (cel (r18 5)) (N18 5) := hp 5 (by decide)
      have p6 : (r18 6) = .pointer (some ⟨(pblk (r18 6)), 0, none⟩) ∧ (N18 6) = [((pblk (r18 6)), .cells ⟨pkT (0) (0) (zS) (.slice none 0 0) (.slice none 0 0)⟩ 27 (0, 0))] := hp 6 (by decide)
      have p7 : (r18 7) = .pointer (some ⟨(pblk (r18 7)), 0, none⟩) ∧ (N18 7) = [((pblk (r18 7)), .cells ⟨pkT (0) (0) (zS) (.slice none 0 0) (.slice none 0 0)⟩ 27 (0, 0))] := hp 7 (by decide)
      have p8 : (r18 8) = .pointer (some ⟨(pblk (r18 8)), 0, none⟩) ∧ (N18 8) = [((pblk (r18 8)), .cells ⟨pkP (0) (0) (zS) (.slice none 0 0)⟩ 30 (0, 0))] := hp 8 (by decide)
      have q3 : ρ 3 = .int .i64 (d) := hr0 3 (by kernel_rfl)
      have q4 : ρ 4 = .int .i64 (m) := hr0 4 (by kernel_rfl)
      have q5 : ρ 5 = .pointer (some ⟨b1, 0, none⟩) := hr0 5 (by kernel_rfl)
      have q6 : ρ 6 = .pointer (some ⟨b2, 0, none⟩) := hr0 6 (by kernel_rfl)
      have q7 : ρ 7 = .pointer (some ⟨b3, 0, none⟩) := hr0 7 (by kernel_rfl)
      have q10 : ρ 10 = .bool (false) := hr0 10 (by kernel_rfl)
      have q12 : ρ 12 = .pointer (some ⟨(pblk (r18 6)), 0, none⟩) := (hr 6 _ _ (by decide) rfl rfl).trans p6.1
      have q13 : ρ 13 = .pointer (some ⟨(pblk (r18 7)), 0, none⟩) := (hr 7 _ _ (by decide) rfl rfl).trans p7.1
      have q14 : ρ 14 = .pointer (some ⟨(pblk (r18 8)), 0, none⟩) := (hr 8 _ _ (by decide) rfl rfl).trans p8.1
      have q45 : ρ 45 = .agg ⟨(cel (r18 1))⟩ := (hr 1 _ _ (by decide) rfl rfl).trans p1.1
      have q47 : ρ 47 = .agg ⟨(cel (r18 3))⟩ := (hr 3 _ _ (by decide) rfl rfl).trans p3.1
      have q49 : ρ 49 = .agg ⟨(cel (r18 5))⟩ := (hr 5 _ _ (by decide) rfl rfl).trans p5.1
      obtain ⟨ρ31, rfl⟩ := reopen_ex (uc q3 (uc q4 (uc q5 (uc q6 (uc q7 (uc q10 (uc q12 (uc q13 (uc q14 (uc q45 (uc q47 (uc q49 un))))))))))))
      clear q3 q4 q5 q6 q7 q10 q12 q13 q14 q45 q47 q49
      have p18_1 := p1; have p18_3 := p3; have p18_5 := p5; have p18_6 := p6; have p18_7 := p7; have p18_8 := p8
      clear hp hr hr0 p1 p3 p5 p6 p7 p8
      refine JL_sub (M' := [(N18 0), (N18 1), (N18 2), (N18 3), (N18 4), (N18 5), (N18 6), (N18 7), (N18 8), (N4 0), (N4 2), (N4 4), (N4 5), [((pblk (r4 6)), .cells ⟨(cel (r4 5))⟩ 27 (0, 0))], [(b3, .cells ⟨ps⟩ 30 (0, 0))], [(b2, .cells ⟨us⟩ 27 (0, 0))], [(b1, .cells ⟨cs⟩ 27 (0, 0))]]) Sub.refl ?_
      refine JL_sub (M' := [(N18 1), (N18 3), (N18 5), [((pblk (r18 6)), .cells ⟨pkT (0) (0) (zS) (.slice none 0 0) (.slice none 0 0)⟩ 27 (0, 0))], [((pblk (r18 7)), .cells ⟨pkT (0) (0) (zS) (.slice none 0 0) (.slice none 0 0)⟩ 27 (0, 0))], [((pblk (r18 8)), .cells ⟨pkP (0) (0) (zS) (.slice none 0 0)⟩ 30 (0, 0))], (N4 0), (N4 2), (N4 4), (N4 5), [((pblk (r4 6)), .cells ⟨(cel (r4 5))⟩ 27 (0, 0))], [(b3, .cells ⟨ps⟩ 30 (0, 0))], [(b2, .cells ⟨us⟩ 27 (0, 0))], [(b1, .cells ⟨cs⟩ 27 (0, 0))]]) (Sd (Sk (Sd (Sk (Sd (Sk (Se p18_6.2 (Se p18_7.2 (Se p18_8.2 (Sk (Sk (Sk (Sk (Sk (Sk (Sk (Sk Sub.nil))))))))))))))))) ?_
      show JL _ _ _ [_, _, _] _ _ _
      refine JL_run rfl (Runs_storeB 3 (vs := (cel (r18 1))) (l := (cel (r18 1))) ty27 rfl rfl rfl rfl p18_1.2.len p18_1.2.ok (spl_a (n := 36) rfl p18_1.2.len) ?_)
      refine JL_run rfl (Runs_storeB 4 (vs := (cel (r18 3))) (l := (cel (r18 3))) ty27 rfl rfl rfl rfl p18_3.2.len p18_3.2.ok (spl_a (n := 36) rfl p18_3.2.len) ?_)
      refine JL_run rfl (Runs_storeB 5 (vs := (cel (r18 5))) (l := (cel (r18 5))) ty30 rfl rfl rfl rfl p18_5.2.len p18_5.2.ok (spl_a (n := 35) rfl p18_5.2.len) ?_)
      refine JL_nil ?_
      refine J_seq ?_
      refine J_region ?_
      refine JL_run rfl (Pu_load ty27 rfl (At.bx 13 rfl) (sub_a (RT_len ht)) ?_)
      refine JL_call rfl Tryz.call12 rfl (fun hin => rightL_ct _ _ _ (RT.mono (Hle.hu _ _) ht) (by have := (great_size ‹(cnT stG 0 t 0).1 = false›); omega)) rfl ?_
      rintro _ _ ⟨rfl, rfl⟩
      refine JL_pure (v := .tuple ⟨[.bool (decide (checkR 60 8 (t) = 0)), .int .i64 (checkR 60 8 (t))]⟩) rfl (Pu.move rfl) ?_
      refine JL_pure (v := .bool (decide (checkR 60 8 (t) = 0))) rfl (Pu.extract rfl rfl) ?_
      refine JL_pure (v := .int .i64 (checkR 60 8 (t))) rfl (Pu.extract rfl rfl) ?_
      refine JL_pure (v := .bool (decide (checkR 60 8 (t) = 0))) rfl (Pu.assign rfl) ?_
      refine JL_pure (v := .int .i64 (checkR 60 8 (t))) rfl (Pu.assign rfl) ?_
      refine JL_nil ?_
      refine J_seq ?_
      refine J_region ?_
      refine JL_pure (v := .int .i64 (0)) rfl (Pu.assign rfl) ?_
      refine JL_pure (v := .slice none 0 0) rfl (Pu.assign rfl) ?_
      refine JL_nil ?_
      refine J_seq ?_
      refine J_seq ?_
      refine J_region ?_
      refine JL_pure (v := .bool (decide (checkR 60 8 (t) = 0))) rfl (Pu.move rfl) ?_
      refine JL_nil ?_
      refine J_cond (b := decide (checkR 60 8 (t) = 0)) rfl (fun h32 => ?_) (fun h32 => ?_)
      ·skip
       replace h32 := dt h32
       refine J_seq ?_
       refine J_region ?_
       refine JL_run rfl (Pu_load ty27 rfl (At.bx 13 rfl) (sub_a (RT_len ht)) ?_)
       refine JL_call rfl Tryz.call13 rfl (fun hin => extent_ct _ _ _ _ (RT.mono (Hle.hu _ _) ht) (by have := (great_size ‹(cnT stG 0 t 0).1 = false›); omega) (by have := (great_size ‹(cnT stG 0 t 0).1 = false›); omega) (by omega)) rfl ?_
       rintro _ _ ⟨rfl, rfl⟩
       refine JL_pure (v := .tuple ⟨[.int .i64 ((extT (400) (t)).1), .int .i64 ((extT (400) (t)).2)]⟩) rfl (Pu.move rfl) ?_
       refine JL_pure (v := .int .i64 ((extT (400) (t)).1)) rfl (Pu.extract rfl rfl) ?_
       refine JL_pure (v := .int .i64 ((extT (400) (t)).2)) rfl (Pu.extract rfl rfl) ?_
       refine JL_pure (v := .int .i64 ((extT (400) (t)).1)) rfl (Pu.assign rfl) ?_
       refine JL_nil ?_
       refine J_region ?_
       refine JL_run rfl (Pu_load ty27 rfl (At.bx 13 rfl) (sub_a (RT_len ht)) ?_)
       refine JL_call rfl Tryz.call14 rfl (fun hin => freeR_ct _ _ _ (RT.mono (Hle.hu _ _) ht) (by have := (great_size ‹(cnT stG 0 t 0).1 = false›); omega)) rfl ?_
       rintro u33 _ ⟨_, k33, hu33, rfl, ho33⟩; subst hu33
       refine JL_pure (v := u33) rfl (Pu.assign rfl) ?_
       refine JL_nil ?_
       refine J_seq ?_
       refine J_region ?_
       refine JL_run rfl (Pu_load ty30 rfl (At.bx 12 rfl) (sub_a (RP_len hpt)) ?_)
       refine JL_call rfl Tryz.call15 rfl (fun hin => bindsE_ct _ _ _ (RP.mono (Hle.hu _ _) hpt) (by have e := (great_size ‹(cnT stG 0 (ofP p) 0).1 = false›); rw [size_of] at e; omega)) rfl ?_
       rintro _ _ ⟨rfl, rfl⟩
       refine JL_pure (v := .tuple ⟨[.int .i64 ((bindsE p).1), .int .i64 ((bindsE p).2)]⟩) rfl (Pu.move rfl) ?_
       refine JL_pure (v := .int .i64 ((bindsE p).1)) rfl (Pu.extract rfl rfl) ?_
       refine JL_pure (v := .int .i64 ((bindsE p).2)) rfl (Pu.extract rfl rfl) ?_
       refine JL_pure (v := .int .i64 ((bindsE p).1)) rfl (Pu.assign rfl) ?_
       refine JL_pure (v := .int .i64 ((bindsE p).2)) rfl (Pu.assign rfl) ?_
       refine JL_nil ?_
       refine J_seq ?_
       refine J_region ?_
       refine JL_run rfl (Pu_load ty27 rfl (At.bx 4 rfl) (sub_a p18_1.2.len) ?_)
       refine JL_call rfl Tryz.call16 rfl (fun hin => sizeE_ct _ _ _ (p18_1.2.rd (hin 1 _ rfl))) rfl ?_
       rintro _ _ ⟨rfl, rfl⟩
       refine JL_pure (v := .tuple ⟨[.int .i64 ((sizeE t).1), .int .i64 ((sizeE t).2)]⟩) rfl (Pu.move rfl) ?_
       refine JL_pure (v := .int .i64 ((sizeE t).1)) rfl (Pu.extract rfl rfl) ?_
       refine JL_pure (v := .int .i64 ((sizeE t).2)) rfl (Pu.extract rfl rfl) ?_
       refine JL_pure (v := .int .i64 ((sizeE t).1)) rfl (Pu.assign rfl) ?_
       refine JL_pure (v := .int .i64 ((sizeE t).2)) rfl (Pu.assign rfl) ?_
       refine JL_nil ?_
       refine J_seq ?_
       refine J_region ?_
       refine JL_run rfl (Pu_load ty27 rfl (At.bx 4 rfl) (sub_a p18_1.2.len) ?_)
       refine JL_call rfl Tryz.call17 rfl (fun hin => freeE_ct t _ _ (p18_1.2.rd (hin 1 _ rfl))) rfl ?_
       rintro _ _ ⟨u34, e34, k34, rfl, rfl, ho34, rfl⟩
       refine JL_pure (v := .tuple ⟨[u34, .int .i64 ((freeE t).2)]⟩) rfl (Pu.move rfl) ?_
       refine JL_pure (v := u34) rfl (Pu.extract rfl rfl) ?_
       refine JL_pure (v := .int .i64 ((freeE t).2)) rfl (Pu.extract rfl rfl) ?_
       refine JL_pure (v := u34) rfl (Pu.assign rfl) ?_
       refine JL_pure (v := .int .i64 ((freeE t).2)) rfl (Pu.assign rfl) ?_
       refine JL_nil ?_
       refine J_seq ?_
       refine J_region ?_
       refine JL_run rfl (Pu_load ty30 rfl (At.bx 7 rfl) (sub_a p18_5.2.len) ?_)
       refine JL_call rfl Tryz.call18 rfl (fun hin => bindsP_ct _ _ _ (p18_5.2.rd (hin 4 _ rfl)) (by have e := (great_size ‹(cnT stG 0 (ofP p) 0).1 = false›); rw [size_of] at e; omega)) rfl ?_
       rintro _ _ ⟨rfl, rfl⟩
       refine JL_pure (v := .tuple ⟨[.int .i64 ((bindsE p).1), .int .i64 ((bindsE p).2)]⟩) rfl (Pu.move rfl) ?_
       refine JL_pure (v := .int .i64 ((bindsE p).1)) rfl (Pu.extract rfl rfl) ?_
       refine JL_pure (v := .int .i64 ((bindsE p).2)) rfl (Pu.extract rfl rfl) ?_
       refine JL_pure (v := .int .i64 ((bindsE p).1)) rfl (Pu.assign rfl) ?_
       refine JL_pure (v := .int .i64 ((bindsE p).2)) rfl (Pu.assign rfl) ?_
       refine JL_nil ?_
       refine J_seq ?_
       refine J_sub (M' := [k34, k33, (N18 1), (N18 3), (N18 5), [((pblk (r18 6)), .cells ⟨(cel (r18 1))⟩ 27 (0, 0))], [((pblk (r18 7)), .cells ⟨(cel (r18 3))⟩ 27 (0, 0))], [((pblk (r18 8)), .cells ⟨(cel (r18 5))⟩ 30 (0, 0))], (N4 0), (N4 2), (N4 4), (N4 5), [((pblk (r4 6)), .cells ⟨(cel (r4 5))⟩ 27 (0, 0))], [(b3, .cells ⟨ps⟩ 30 (0, 0))], [(b2, .cells ⟨us⟩ 27 (0, 0))], [(b1, .cells ⟨cs⟩ 27 (0, 0))]]) Sub.refl ?_
       refine J_draw mixed #[0, 0, 0, 7, 0, 0, 0, 127, 255, 511, 1023, 1023, 4095, 8191, 16383, 32767, 32767, 131071, 262143, 524287, 1048575, 1048575, 4194303, 8388607, 16777215, 33554431, 33554431, 134217727, 268435455, 536870911, 1073741823, 1073741823, 4294967295, 8589934591, 17179869183, 34359738367, 34359738367, 137438953471, 274877906943, 549755813887, 1099511627775, 1099511627775, 4398046511103, 1099511627775, 1099511627775, 35184372088831, 70368744177663, 140737488355327, 281474976710655, 562949953421311, 562949953421311, 2251799813685247, 4503599627370495, 9007199254740991, 18014398509481983, 18014398509481983, 72057594037927935, 144115188075855871, 288230376151711743, 576460752303423487, 576460752303423487, 2305843009213693951, 4611686018427387903, 9223372036854775807, 18446744073709551615, 18446744073709551615, 73786976294838206463, 147573952589676412927, 295147905179352825855, 590295810358705651711, 1180591620717411303423, 2361183241434822606847] 66 66 16 rfl (by kernel_rfl) (fun i r35 N35 => match i with | 0 => (r35 0) = .agg ⟨(cel (r18 1))⟩ | 1 => (r35 1) = .int .i64 (d) | 2 => (r35 2) = .int .i64 (m) | 3 => (r35 3) = .int .i64 (checkR (d) (m) (t)) | 4 => (r35 4) = .agg ⟨cs⟩ | 5 => (r35 5) = .int .i64 (d) | 6 => (r35 6) = .int .i64 (m) | 7 => (r35 7) = .int .i64 (checkR (d) (m) (t)) | 8 => (r35 8) = .bool (true) | 9 => (r35 9) = .bool (true) | 10 => (r35 10) = .int .i64 ((sizeE t).2) | 11 => (r35 11) = .int .i64 (checkR 60 8 (t)) | 12 => (r35 12) = .bool (true) | 13 => (r35 13) = .bool (true) | 14 => (r35 14) = .bool (true) | 15 => (r35 15) = .int .i64 ((sizeE t).1) | 16 => (r35 16) = .int .i64 ((extT (400) (t)).1) | 17 => (r35 17) = .bool (true) | 18 => (r35 18) = .bool (true) | 19 => (r35 19) = .bool (true) | 20 => (r35 20) = .int .i64 ((freeE t).2) | 21 => (r35 21) = .int .i64 (checkR 60 8 (t)) | 22 => (r35 22) = .bool (true) | 23 => (r35 23) = .bool (true) | 24 => (r35 24) = .bool (true) | 25 => (r35 25) = u34 | 26 => (r35 26) = u33 | 27 => (r35 27) = .bool (true) | 28 => (r35 28) = .bool (true) | 29 => (r35 29) = .bool (true) | 30 => (r35 30) = .int .i64 ((bindsE p).2) | 31 => (r35 31) = .int .i64 ((bindsE p).2) | 32 => (r35 32) = .bool (true) | 33 => (r35 33) = .bool (true) | 34 => (r35 34) = .bool (true) | 35 => (r35 35) = .int .i64 ((bindsE p).1) | 36 => (r35 36) = .int .i64 ((bindsE p).1) | 37 => (r35 37) = .bool (true) | 38 => (r35 38) = .bool (true) | 39 => (r35 39) = .bool (true) | 40 => (r35 40) = .agg ⟨(cel (r18 1))⟩ | 41 => (r35 41) = .agg ⟨(cel (r18 3))⟩ | 42 => (r35 42) = .bool (decide ((t) = (u))) | 43 => (r35 43) = .agg ⟨cs⟩ | 44 => (r35 44) = .agg ⟨us⟩ | 45 => (r35 45) = .bool (decide ((t) = (u))) | 46 => (r35 46) = .bool (true) | 47 => (r35 47) = .bool (true) | 48 => (r35 48) = .bool (true) | 49 => (r35 49) = .agg ⟨(cel (r18 1))⟩ | 50 => (r35 50) = .agg ⟨(cel (r18 1))⟩ | 51 => (r35 51) = .bool (true) | 52 => (r35 52) = .bool (true) | 53 => (r35 53) = .bool (true) | 54 => (r35 54) = .agg ⟨(cel (r18 1))⟩ | 55 => (r35 55) = .agg ⟨cs⟩ | 56 => (r35 56) = .bool (true) | 57 => (r35 57) = .bool (true) | 58 => (r35 58) = .bool (true) | 59 => (r35 59) = .agg ⟨(cel (r18 3))⟩ | 60 => (r35 60) = .agg ⟨us⟩ | 61 => (r35 61) = .bool (true) | 62 => (r35 62) = .bool (true) | 63 => (r35 63) = .bool (true) | 64 => (r35 64) = .agg ⟨(cel (r18 5))⟩ | 65 => (r35 65) = .agg ⟨ps⟩ | _ => True) ⟨?_, ?_, ?_, ?_, ?_, ?_, ?_, ?_, ?_, ?_, ?_, ?_, ?_, ?_, ?_, ?_, ?_, ?_, ?_, ?_, ?_, ?_, ?_, ?_, ?_, ?_, ?_, ?_, ?_, ?_, ?_, ?_, ?_, ?_, ?_, ?_, ?_, ?_, ?_, ?_, ?_, ?_, ?_, ?_, ?_, ?_, ?_, ?_, ?_, ?_, ?_, ?_, ?_, ?_, ?_, ?_, ?_, ?_, ?_, ?_, ?_, ?_, ?_, ?_, ?_, ?_, trivial⟩ ?_
       ·intro ρ r35 N35 B hB hBa hp hr hr0
        have q12 : ρ 12 = .pointer (some ⟨(pblk (r18 6)), 0, none⟩) := hr0 12 (by kernel_rfl)
        obtain ⟨ρ36, rfl⟩ := reopen_ex (uc q12 un)
        clear q12
        refine JL_run rfl (Pu_load ty27 rfl (At.bx 71 (made_old ((hB 5 (by decide)).trans rfl))) (sub_a p18_1.2.len) ?_)
        refine JL_nil ?_
        exact ⟨.agg ⟨(cel (r18 1))⟩, [], rfl, (Sub.emp Sub.refl), rfl⟩
       ·intro ρ r35 N35 B hB hBa hp hr hr0
        have q3 : ρ 3 = .int .i64 (d) := hr0 3 (by kernel_rfl)
        obtain ⟨ρ37, rfl⟩ := reopen_ex (uc q3 un)
        clear q3
        refine JL_pure (v := .int .i64 (d)) rfl (Pu.move rfl) ?_
        refine JL_nil ?_
        exact ⟨.int .i64 (d), [], rfl, (Sub.emp Sub.refl), rfl⟩
       ·intro ρ r35 N35 B hB hBa hp hr hr0
        have q4 : ρ 4 = .int .i64 (m) := hr0 4 (by kernel_rfl)
        obtain ⟨ρ38, rfl⟩ := reopen_ex (uc q4 un)
        clear q4
        refine JL_pure (v := .int .i64 (m)) rfl (Pu.move rfl) ?_
        refine JL_nil ?_
        exact ⟨.int .i64 (m), [], rfl, (Sub.emp Sub.refl), rfl⟩
       ·intro ρ r35 N35 B hB hBa hp hr hr0
        have q83 : ρ 83 = .agg ⟨(cel (r18 1))⟩ := (hr 0 _ _ (by decide) rfl rfl rfl).trans (hp 0 (by decide) rfl)
        have q84 : ρ 84 = .int .i64 (d) := (hr 1 _ _ (by decide) rfl rfl rfl).trans (hp 1 (by decide) rfl)
        have q85 : ρ 85 = .int .i64 (m) := (hr 2 _ _ (by decide) rfl rfl rfl).trans (hp 2 (by decide) rfl)
        obtain ⟨ρ39, rfl⟩ := reopen_ex (uc q83 (uc q84 (uc q85 un)))
        clear q83 q84 q85
        refine JL_call rfl Tryz.call19 rfl (fun hin => int_r (check_ct _ _ _ _ _ (p18_1.2.rd (hin 68 _ (made_old ((hB 2 (by decide)).trans rfl))))) (check_eq _ _ _)) rfl ?_
        rintro _ _ ⟨rfl, rfl⟩
        refine JL_nil ?_
        exact ⟨.int .i64 (checkR (d) (m) (t)), [], rfl, (Sub.emp Sub.refl), rfl⟩
       ·intro ρ r35 N35 B hB hBa hp hr hr0
        have q5 : ρ 5 = .pointer (some ⟨b1, 0, none⟩) := hr0 5 (by kernel_rfl)
        obtain ⟨ρ40, rfl⟩ := reopen_ex (uc q5 un)
        clear q5
        refine JL_run rfl (Pu_load ty27 rfl (At.bx 81 (made_old ((hB 15 (by decide)).trans rfl))) (sub_a (RT_len ht)) ?_)
        refine JL_nil ?_
        exact ⟨.agg ⟨cs⟩, [], rfl, (Sub.emp Sub.refl), rfl⟩
       ·intro ρ r35 N35 B hB hBa hp hr hr0
        have q3 : ρ 3 = .int .i64 (d) := hr0 3 (by kernel_rfl)
        obtain ⟨ρ41, rfl⟩ := reopen_ex (uc q3 un)
        clear q3
        refine JL_pure (v := .int .i64 (d)) rfl (Pu.move rfl) ?_
        refine JL_nil ?_
        exact ⟨.int .i64 (d), [], rfl, (Sub.emp Sub.refl), rfl⟩
       ·intro ρ r35 N35 B hB hBa hp hr hr0
        have q4 : ρ 4 = .int .i64 (m) := hr0 4 (by kernel_rfl)
        obtain ⟨ρ42, rfl⟩ := reopen_ex (uc q4 un)
        clear q4
        refine JL_pure (v := .int .i64 (m)) rfl (Pu.move rfl) ?_
        refine JL_nil ?_
        exact ⟨.int .i64 (m), [], rfl, (Sub.emp Sub.refl), rfl⟩
       ·intro ρ r35 N35 B hB hBa hp hr hr0
        have q87 : ρ 87 = .agg ⟨cs⟩ := (hr 4 _ _ (by decide) rfl rfl rfl).trans (hp 4 (by decide) rfl)
        have q88 : ρ 88 = .int .i64 (d) := (hr 5 _ _ (by decide) rfl rfl rfl).trans (hp 5 (by decide) rfl)
        have q89 : ρ 89 = .int .i64 (m) := (hr 6 _ _ (by decide) rfl rfl rfl).trans (hp 6 (by decide) rfl)
        obtain ⟨ρ43, rfl⟩ := reopen_ex (uc q87 (uc q88 (uc q89 un)))
        clear q87 q88 q89
        refine JL_call rfl Tryz.call20 rfl (fun hin => checkR_ct _ _ _ _ _ (RT.mono (Hle.hu _ _) ht) (by have := (great_size ‹(cnT stG 0 t 0).1 = false›); omega)) rfl ?_
        rintro _ _ ⟨rfl, rfl⟩
        refine JL_nil ?_
        exact ⟨.int .i64 (checkR (d) (m) (t)), [], rfl, (Sub.emp Sub.refl), rfl⟩
       ·intro ρ r35 N35 B hB hBa hp hr hr0
        have q86 : ρ 86 = .int .i64 (checkR (d) (m) (t)) := (hr 3 _ _ (by decide) rfl rfl rfl).trans (hp 3 (by decide) rfl)
        have q90 : ρ 90 = .int .i64 (checkR (d) (m) (t)) := (hr 7 _ _ (by decide) rfl rfl rfl).trans (hp 7 (by decide) rfl)
        obtain ⟨ρ44, rfl⟩ := reopen_ex (uc q86 (uc q90 un))
        clear q86 q90
        refine JL_pure (v := .bool (true)) rfl ((Pu.eql rfl rfl).decT (rfl)) ?_
        refine JL_nil ?_
        exact ⟨.bool (true), [], rfl, (Sub.emp Sub.refl), rfl⟩
       ·intro ρ r35 N35 B hB hBa hp hr hr0
        have q91 : ρ 91 = .bool (true) := (hr 8 _ _ (by decide) rfl rfl rfl).trans (hp 8 (by decide) rfl)
        obtain ⟨ρ45, rfl⟩ := reopen_ex (uc q91 un)
        clear q91
        refine JL_pure (v := .bool (true)) rfl (Pu.move rfl) ?_
        refine JL_nil ?_
        exact ⟨.bool (true), [], rfl, (Sub.emp Sub.refl), rfl⟩
       ·intro ρ r35 N35 B hB hBa hp hr hr0
        have q22 : ρ 22 = .int .i64 ((sizeE t).2) := hr0 22 (by kernel_rfl)
        have q92 : ρ 92 = .bool (true) := (hr 9 _ _ (by decide) rfl rfl rfl).trans (hp 9 (by decide) rfl)
        obtain ⟨ρ46, rfl⟩ := reopen_ex (uc q22 (uc q92 un))
        clear q22 q92
        refine JL_pure (v := .int .i64 ((sizeE t).2)) rfl (Pu.move rfl) ?_
        refine JL_nil ?_
        exact ⟨.int .i64 ((sizeE t).2), [], rfl, (Sub.emp Sub.refl), rfl⟩
       ·intro ρ r35 N35 B hB hBa hp hr hr0
        have q16 : ρ 16 = .int .i64 (checkR 60 8 (t)) := hr0 16 (by kernel_rfl)
        have q92 : ρ 92 = .bool (true) := (hr 9 _ _ (by decide) rfl rfl rfl).trans (hp 9 (by decide) rfl)
        obtain ⟨ρ47, rfl⟩ := reopen_ex (uc q16 (uc q92 un))
        clear q16 q92
        refine JL_pure (v := .int .i64 (checkR 60 8 (t))) rfl (Pu.move rfl) ?_
        refine JL_nil ?_
        exact ⟨.int .i64 (checkR 60 8 (t)), [], rfl, (Sub.emp Sub.refl), rfl⟩
       ·intro ρ r35 N35 B hB hBa hp hr hr0
        have q92 : ρ 92 = .bool (true) := (hr 9 _ _ (by decide) rfl rfl rfl).trans (hp 9 (by decide) rfl)
        have q93 : ρ 93 = .int .i64 ((sizeE t).2) := (hr 10 _ _ (by decide) rfl rfl rfl).trans (hp 10 (by decide) rfl)
        have q94 : ρ 94 = .int .i64 (checkR 60 8 (t)) := (hr 11 _ _ (by decide) rfl rfl rfl).trans (hp 11 (by decide) rfl)
        obtain ⟨ρ48, rfl⟩ := reopen_ex (uc q92 (uc q93 (uc q94 un)))
        clear q92 q93 q94
        refine JL_pure (v := .bool (true)) rfl ((Pu.eql rfl rfl).decT (sizeE_err _)) ?_
        refine JL_nil ?_
        exact ⟨.bool (true), [], rfl, (Sub.emp Sub.refl), rfl⟩
       ·intro ρ r35 N35 B hB hBa hp hr hr0
        have q92 : ρ 92 = .bool (true) := (hr 9 _ _ (by decide) rfl rfl rfl).trans (hp 9 (by decide) rfl)
        have q95 : ρ 95 = .bool (true) := (hr 12 _ _ (by decide) rfl rfl rfl).trans (hp 12 (by decide) rfl)
        obtain ⟨ρ49, rfl⟩ := reopen_ex (uc q92 (uc q95 un))
        clear q92 q95
        refine JL_pure (v := .bool (true)) rfl (Pu.pickT rfl rfl) ?_
        refine JL_nil ?_
        exact ⟨.bool (true), [], rfl, (Sub.emp Sub.refl), rfl⟩
       ·intro ρ r35 N35 B hB hBa hp hr hr0
        have q96 : ρ 96 = .bool (true) := (hr 13 _ _ (by decide) rfl rfl rfl).trans (hp 13 (by decide) rfl)
        obtain ⟨ρ50, rfl⟩ := reopen_ex (uc q96 un)
        clear q96
        refine JL_pure (v := .bool (true)) rfl (Pu.move rfl) ?_
        refine JL_nil ?_
        exact ⟨.bool (true), [], rfl, (Sub.emp Sub.refl), rfl⟩
       ·intro ρ r35 N35 B hB hBa hp hr hr0
        have q21 : ρ 21 = .int .i64 ((sizeE t).1) := hr0 21 (by kernel_rfl)
        have q97 : ρ 97 = .bool (true) := (hr 14 _ _ (by decide) rfl rfl rfl).trans (hp 14 (by decide) rfl)
        obtain ⟨ρ51, rfl⟩ := reopen_ex (uc q21 (uc q97 un))
        clear q21 q97
        refine JL_pure (v := .int .i64 ((sizeE t).1)) rfl (Pu.move rfl) ?_
        refine JL_nil ?_
        exact ⟨.int .i64 ((sizeE t).1), [], rfl, (Sub.emp Sub.refl), rfl⟩
       ·intro ρ r35 N35 B hB hBa hp hr hr0
        have q17 : ρ 17 = .int .i64 ((extT (400) (t)).1) := hr0 17 (by kernel_rfl)
        have q97 : ρ 97 = .bool (true) := (hr 14 _ _ (by decide) rfl rfl rfl).trans (hp 14 (by decide) rfl)
        obtain ⟨ρ52, rfl⟩ := reopen_ex (uc q17 (uc q97 un))
        clear q17 q97
        refine JL_pure (v := .int .i64 ((extT (400) (t)).1)) rfl (Pu.move rfl) ?_
        refine JL_nil ?_
        exact ⟨.int .i64 ((extT (400) (t)).1), [], rfl, (Sub.emp Sub.refl), rfl⟩
       ·intro ρ r35 N35 B hB hBa hp hr hr0
        have q97 : ρ 97 = .bool (true) := (hr 14 _ _ (by decide) rfl rfl rfl).trans (hp 14 (by decide) rfl)
        have q98 : ρ 98 = .int .i64 ((sizeE t).1) := (hr 15 _ _ (by decide) rfl rfl rfl).trans (hp 15 (by decide) rfl)
        have q99 : ρ 99 = .int .i64 ((extT (400) (t)).1) := (hr 16 _ _ (by decide) rfl rfl rfl).trans (hp 16 (by decide) rfl)
        obtain ⟨ρ53, rfl⟩ := reopen_ex (uc q97 (uc q98 (uc q99 un)))
        clear q97 q98 q99
        refine JL_pure (v := .bool (true)) rfl ((Pu.eql rfl rfl).decT (sizeE_is ‹checkR 60 8 t = 0›)) ?_
        refine JL_nil ?_
        exact ⟨.bool (true), [], rfl, (Sub.emp Sub.refl), rfl⟩
       ·intro ρ r35 N35 B hB hBa hp hr hr0
        have q97 : ρ 97 = .bool (true) := (hr 14 _ _ (by decide) rfl rfl rfl).trans (hp 14 (by decide) rfl)
        have q100 : ρ 100 = .bool (true) := (hr 17 _ _ (by decide) rfl rfl rfl).trans (hp 17 (by decide) rfl)
        obtain ⟨ρ54, rfl⟩ := reopen_ex (uc q97 (uc q100 un))
        clear q97 q100
        refine JL_pure (v := .bool (true)) rfl (Pu.pickT rfl rfl) ?_
        refine JL_nil ?_
        exact ⟨.bool (true), [], rfl, (Sub.emp Sub.refl), rfl⟩
       ·intro ρ r35 N35 B hB hBa hp hr hr0
        have q101 : ρ 101 = .bool (true) := (hr 18 _ _ (by decide) rfl rfl rfl).trans (hp 18 (by decide) rfl)
        obtain ⟨ρ55, rfl⟩ := reopen_ex (uc q101 un)
        clear q101
        refine JL_pure (v := .bool (true)) rfl (Pu.move rfl) ?_
        refine JL_nil ?_
        exact ⟨.bool (true), [], rfl, (Sub.emp Sub.refl), rfl⟩
       ·intro ρ r35 N35 B hB hBa hp hr hr0
        have q24 : ρ 24 = .int .i64 ((freeE t).2) := hr0 24 (by kernel_rfl)
        have q102 : ρ 102 = .bool (true) := (hr 19 _ _ (by decide) rfl rfl rfl).trans (hp 19 (by decide) rfl)
        obtain ⟨ρ56, rfl⟩ := reopen_ex (uc q24 (uc q102 un))
        clear q24 q102
        refine JL_pure (v := .int .i64 ((freeE t).2)) rfl (Pu.move rfl) ?_
        refine JL_nil ?_
        exact ⟨.int .i64 ((freeE t).2), [], rfl, (Sub.emp Sub.refl), rfl⟩
       ·intro ρ r35 N35 B hB hBa hp hr hr0
        have q16 : ρ 16 = .int .i64 (checkR 60 8 (t)) := hr0 16 (by kernel_rfl)
        have q102 : ρ 102 = .bool (true) := (hr 19 _ _ (by decide) rfl rfl rfl).trans (hp 19 (by decide) rfl)
        obtain ⟨ρ57, rfl⟩ := reopen_ex (uc q16 (uc q102 un))
        clear q16 q102
        refine JL_pure (v := .int .i64 (checkR 60 8 (t))) rfl (Pu.move rfl) ?_
        refine JL_nil ?_
        exact ⟨.int .i64 (checkR 60 8 (t)), [], rfl, (Sub.emp Sub.refl), rfl⟩
       ·intro ρ r35 N35 B hB hBa hp hr hr0
        have q102 : ρ 102 = .bool (true) := (hr 19 _ _ (by decide) rfl rfl rfl).trans (hp 19 (by decide) rfl)
        have q103 : ρ 103 = .int .i64 ((freeE t).2) := (hr 20 _ _ (by decide) rfl rfl rfl).trans (hp 20 (by decide) rfl)
        have q104 : ρ 104 = .int .i64 (checkR 60 8 (t)) := (hr 21 _ _ (by decide) rfl rfl rfl).trans (hp 21 (by decide) rfl)
        obtain ⟨ρ58, rfl⟩ := reopen_ex (uc q102 (uc q103 (uc q104 un)))
        clear q102 q103 q104
        refine JL_pure (v := .bool (true)) rfl ((Pu.eql rfl rfl).decT (freeE_err _)) ?_
        refine JL_nil ?_
        exact ⟨.bool (true), [], rfl, (Sub.emp Sub.refl), rfl⟩
       ·intro ρ r35 N35 B hB hBa hp hr hr0
        have q102 : ρ 102 = .bool (true) := (hr 19 _ _ (by decide) rfl rfl rfl).trans (hp 19 (by decide) rfl)
        have q105 : ρ 105 = .bool (true) := (hr 22 _ _ (by decide) rfl rfl rfl).trans (hp 22 (by decide) rfl)
        obtain ⟨ρ59, rfl⟩ := reopen_ex (uc q102 (uc q105 un))
        clear q102 q105
        refine JL_pure (v := .bool (true)) rfl (Pu.pickT rfl rfl) ?_
        refine JL_nil ?_
        exact ⟨.bool (true), [], rfl, (Sub.emp Sub.refl), rfl⟩
       ·intro ρ r35 N35 B hB hBa hp hr hr0
        have q106 : ρ 106 = .bool (true) := (hr 23 _ _ (by decide) rfl rfl rfl).trans (hp 23 (by decide) rfl)
        obtain ⟨ρ60, rfl⟩ := reopen_ex (uc q106 un)
        clear q106
        refine JL_pure (v := .bool (true)) rfl (Pu.move rfl) ?_
        refine JL_nil ?_
        exact ⟨.bool (true), [], rfl, (Sub.emp Sub.refl), rfl⟩
       ·intro ρ r35 N35 B hB hBa hp hr hr0
        have q23 : ρ 23 = u34 := hr0 23 (by kernel_rfl)
        have q107 : ρ 107 = .bool (true) := (hr 24 _ _ (by decide) rfl rfl rfl).trans (hp 24 (by decide) rfl)
        obtain ⟨ρ61, rfl⟩ := reopen_ex (uc q23 (uc q107 un))
        clear q23 q107
        refine JL_pure (v := u34) rfl (Pu.move rfl) ?_
        refine JL_nil ?_
        exact ⟨u34, [], rfl, (Sub.emp Sub.refl), rfl⟩
       ·intro ρ r35 N35 B hB hBa hp hr hr0
        have q18 : ρ 18 = u33 := hr0 18 (by kernel_rfl)
        have q107 : ρ 107 = .bool (true) := (hr 24 _ _ (by decide) rfl rfl rfl).trans (hp 24 (by decide) rfl)
        obtain ⟨ρ62, rfl⟩ := reopen_ex (uc q18 (uc q107 un))
        clear q18 q107
        refine JL_pure (v := u33) rfl (Pu.move rfl) ?_
        refine JL_nil ?_
        exact ⟨u33, [], rfl, (Sub.emp Sub.refl), rfl⟩
       ·intro ρ r35 N35 B hB hBa hp hr hr0
        have q107 : ρ 107 = .bool (true) := (hr 24 _ _ (by decide) rfl rfl rfl).trans (hp 24 (by decide) rfl)
        have q108 : ρ 108 = u34 := (hr 25 _ _ (by decide) rfl rfl rfl).trans (hp 25 (by decide) rfl)
        have q109 : ρ 109 = u33 := (hr 26 _ _ (by decide) rfl rfl rfl).trans (hp 26 (by decide) rfl)
        obtain ⟨ρ63, rfl⟩ := reopen_ex (uc q107 (uc q108 (uc q109 un)))
        clear q107 q108 q109
        refine JL_call rfl Tryz.call21 rfl (fun hin => bool_r (r := true) (equalI_ct _ _ _ _ _ (own_ints ho34 (by have := freeE_len t; omega) (hin 66 _ (made_old ((hB 0 (by decide)).trans rfl)))) (own_ints ho33 (by have := freeR_len ‹checkR 60 8 t = 0›; omega) (hin 67 _ (made_old ((hB 1 (by decide)).trans rfl))))) (eqL_true (freeE_is ‹checkR 60 8 t = 0›))) rfl ?_
        rintro _ _ ⟨rfl, rfl⟩
        refine JL_nil ?_
        exact ⟨.bool (true), [], rfl, (Sub.emp Sub.refl), rfl⟩
       ·intro ρ r35 N35 B hB hBa hp hr hr0
        have q107 : ρ 107 = .bool (true) := (hr 24 _ _ (by decide) rfl rfl rfl).trans (hp 24 (by decide) rfl)
        have q110 : ρ 110 = .bool (true) := (hr 27 _ _ (by decide) rfl rfl rfl).trans (hp 27 (by decide) rfl)
        obtain ⟨ρ64, rfl⟩ := reopen_ex (uc q107 (uc q110 un))
        clear q107 q110
        refine JL_pure (v := .bool (true)) rfl (Pu.pickT rfl rfl) ?_
        refine JL_nil ?_
        exact ⟨.bool (true), [], rfl, (Sub.emp Sub.refl), rfl⟩
       ·intro ρ r35 N35 B hB hBa hp hr hr0
        have q111 : ρ 111 = .bool (true) := (hr 28 _ _ (by decide) rfl rfl rfl).trans (hp 28 (by decide) rfl)
        obtain ⟨ρ65, rfl⟩ := reopen_ex (uc q111 un)
        clear q111
        refine JL_pure (v := .bool (true)) rfl (Pu.move rfl) ?_
        refine JL_nil ?_
        exact ⟨.bool (true), [], rfl, (Sub.emp Sub.refl), rfl⟩
       ·intro ρ r35 N35 B hB hBa hp hr hr0
        have q26 : ρ 26 = .int .i64 ((bindsE p).2) := hr0 26 (by kernel_rfl)
        have q112 : ρ 112 = .bool (true) := (hr 29 _ _ (by decide) rfl rfl rfl).trans (hp 29 (by decide) rfl)
        obtain ⟨ρ66, rfl⟩ := reopen_ex (uc q26 (uc q112 un))
        clear q26 q112
        refine JL_pure (v := .int .i64 ((bindsE p).2)) rfl (Pu.move rfl) ?_
        refine JL_nil ?_
        exact ⟨.int .i64 ((bindsE p).2), [], rfl, (Sub.emp Sub.refl), rfl⟩
       ·intro ρ r35 N35 B hB hBa hp hr hr0
        have q20 : ρ 20 = .int .i64 ((bindsE p).2) := hr0 20 (by kernel_rfl)
        have q112 : ρ 112 = .bool (true) := (hr 29 _ _ (by decide) rfl rfl rfl).trans (hp 29 (by decide) rfl)
        obtain ⟨ρ67, rfl⟩ := reopen_ex (uc q20 (uc q112 un))
        clear q20 q112
        refine JL_pure (v := .int .i64 ((bindsE p).2)) rfl (Pu.move rfl) ?_
        refine JL_nil ?_
        exact ⟨.int .i64 ((bindsE p).2), [], rfl, (Sub.emp Sub.refl), rfl⟩
       ·intro ρ r35 N35 B hB hBa hp hr hr0
        have q112 : ρ 112 = .bool (true) := (hr 29 _ _ (by decide) rfl rfl rfl).trans (hp 29 (by decide) rfl)
        have q113 : ρ 113 = .int .i64 ((bindsE p).2) := (hr 30 _ _ (by decide) rfl rfl rfl).trans (hp 30 (by decide) rfl)
        have q114 : ρ 114 = .int .i64 ((bindsE p).2) := (hr 31 _ _ (by decide) rfl rfl rfl).trans (hp 31 (by decide) rfl)
        obtain ⟨ρ68, rfl⟩ := reopen_ex (uc q112 (uc q113 (uc q114 un)))
        clear q112 q113 q114
        refine JL_pure (v := .bool (true)) rfl ((Pu.eql rfl rfl).decT (rfl)) ?_
        refine JL_nil ?_
        exact ⟨.bool (true), [], rfl, (Sub.emp Sub.refl), rfl⟩
       ·intro ρ r35 N35 B hB hBa hp hr hr0
        have q112 : ρ 112 = .bool (true) := (hr 29 _ _ (by decide) rfl rfl rfl).trans (hp 29 (by decide) rfl)
        have q115 : ρ 115 = .bool (true) := (hr 32 _ _ (by decide) rfl rfl rfl).trans (hp 32 (by decide) rfl)
        obtain ⟨ρ69, rfl⟩ := reopen_ex (uc q112 (uc q115 un))
        clear q112 q115
        refine JL_pure (v := .bool (true)) rfl (Pu.pickT rfl rfl) ?_
        refine JL_nil ?_
        exact ⟨.bool (true), [], rfl, (Sub.emp Sub.refl), rfl⟩
       ·intro ρ r35 N35 B hB hBa hp hr hr0
        have q116 : ρ 116 = .bool (true) := (hr 33 _ _ (by decide) rfl rfl rfl).trans (hp 33 (by decide) rfl)
        obtain ⟨ρ70, rfl⟩ := reopen_ex (uc q116 un)
        clear q116
        refine JL_pure (v := .bool (true)) rfl (Pu.move rfl) ?_
        refine JL_nil ?_
        exact ⟨.bool (true), [], rfl, (Sub.emp Sub.refl), rfl⟩
       ·intro ρ r35 N35 B hB hBa hp hr hr0
        have q25 : ρ 25 = .int .i64 ((bindsE p).1) := hr0 25 (by kernel_rfl)
        have q117 : ρ 117 = .bool (true) := (hr 34 _ _ (by decide) rfl rfl rfl).trans (hp 34 (by decide) rfl)
        obtain ⟨ρ71, rfl⟩ := reopen_ex (uc q25 (uc q117 un))
        clear q25 q117
        refine JL_pure (v := .int .i64 ((bindsE p).1)) rfl (Pu.move rfl) ?_
        refine JL_nil ?_
        exact ⟨.int .i64 ((bindsE p).1), [], rfl, (Sub.emp Sub.refl), rfl⟩
       ·intro ρ r35 N35 B hB hBa hp hr hr0
        have q19 : ρ 19 = .int .i64 ((bindsE p).1) := hr0 19 (by kernel_rfl)
        have q117 : ρ 117 = .bool (true) := (hr 34 _ _ (by decide) rfl rfl rfl).trans (hp 34 (by decide) rfl)
        obtain ⟨ρ72, rfl⟩ := reopen_ex (uc q19 (uc q117 un))
        clear q19 q117
        refine JL_pure (v := .int .i64 ((bindsE p).1)) rfl (Pu.move rfl) ?_
        refine JL_nil ?_
        exact ⟨.int .i64 ((bindsE p).1), [], rfl, (Sub.emp Sub.refl), rfl⟩
       ·intro ρ r35 N35 B hB hBa hp hr hr0
        have q117 : ρ 117 = .bool (true) := (hr 34 _ _ (by decide) rfl rfl rfl).trans (hp 34 (by decide) rfl)
        have q118 : ρ 118 = .int .i64 ((bindsE p).1) := (hr 35 _ _ (by decide) rfl rfl rfl).trans (hp 35 (by decide) rfl)
        have q119 : ρ 119 = .int .i64 ((bindsE p).1) := (hr 36 _ _ (by decide) rfl rfl rfl).trans (hp 36 (by decide) rfl)
        obtain ⟨ρ73, rfl⟩ := reopen_ex (uc q117 (uc q118 (uc q119 un)))
        clear q117 q118 q119
        refine JL_pure (v := .bool (true)) rfl ((Pu.eql rfl rfl).decT (rfl)) ?_
        refine JL_nil ?_
        exact ⟨.bool (true), [], rfl, (Sub.emp Sub.refl), rfl⟩
       ·intro ρ r35 N35 B hB hBa hp hr hr0
        have q117 : ρ 117 = .bool (true) := (hr 34 _ _ (by decide) rfl rfl rfl).trans (hp 34 (by decide) rfl)
        have q120 : ρ 120 = .bool (true) := (hr 37 _ _ (by decide) rfl rfl rfl).trans (hp 37 (by decide) rfl)
        obtain ⟨ρ74, rfl⟩ := reopen_ex (uc q117 (uc q120 un))
        clear q117 q120
        refine JL_pure (v := .bool (true)) rfl (Pu.pickT rfl rfl) ?_
        refine JL_nil ?_
        exact ⟨.bool (true), [], rfl, (Sub.emp Sub.refl), rfl⟩
       ·intro ρ r35 N35 B hB hBa hp hr hr0
        have q121 : ρ 121 = .bool (true) := (hr 38 _ _ (by decide) rfl rfl rfl).trans (hp 38 (by decide) rfl)
        obtain ⟨ρ75, rfl⟩ := reopen_ex (uc q121 un)
        clear q121
        refine JL_pure (v := .bool (true)) rfl (Pu.move rfl) ?_
        refine JL_nil ?_
        exact ⟨.bool (true), [], rfl, (Sub.emp Sub.refl), rfl⟩
       ·intro ρ r35 N35 B hB hBa hp hr hr0
        have q12 : ρ 12 = .pointer (some ⟨(pblk (r18 6)), 0, none⟩) := hr0 12 (by kernel_rfl)
        have q122 : ρ 122 = .bool (true) := (hr 39 _ _ (by decide) rfl rfl rfl).trans (hp 39 (by decide) rfl)
        obtain ⟨ρ76, rfl⟩ := reopen_ex (uc q12 (uc q122 un))
        clear q12 q122
        refine JL_run rfl (Pu_load ty27 rfl (At.bx 71 (made_old ((hB 5 (by decide)).trans rfl))) (sub_a p18_1.2.len) ?_)
        refine JL_nil ?_
        exact ⟨.agg ⟨(cel (r18 1))⟩, [], rfl, (Sub.emp Sub.refl), rfl⟩
       ·intro ρ r35 N35 B hB hBa hp hr hr0
        have q13 : ρ 13 = .pointer (some ⟨(pblk (r18 7)), 0, none⟩) := hr0 13 (by kernel_rfl)
        have q122 : ρ 122 = .bool (true) := (hr 39 _ _ (by decide) rfl rfl rfl).trans (hp 39 (by decide) rfl)
        obtain ⟨ρ77, rfl⟩ := reopen_ex (uc q13 (uc q122 un))
        clear q13 q122
        refine JL_run rfl (Pu_load ty27 rfl (At.bx 72 (made_old ((hB 6 (by decide)).trans rfl))) (sub_a p18_3.2.len) ?_)
        refine JL_nil ?_
        exact ⟨.agg ⟨(cel (r18 3))⟩, [], rfl, (Sub.emp Sub.refl), rfl⟩
       ·intro ρ r35 N35 B hB hBa hp hr hr0
        have q122 : ρ 122 = .bool (true) := (hr 39 _ _ (by decide) rfl rfl rfl).trans (hp 39 (by decide) rfl)
        have q123 : ρ 123 = .agg ⟨(cel (r18 1))⟩ := (hr 40 _ _ (by decide) rfl rfl rfl).trans (hp 40 (by decide) rfl)
        have q124 : ρ 124 = .agg ⟨(cel (r18 3))⟩ := (hr 41 _ _ (by decide) rfl rfl rfl).trans (hp 41 (by decide) rfl)
        obtain ⟨ρ78, rfl⟩ := reopen_ex (uc q122 (uc q123 (uc q124 un)))
        clear q122 q123 q124
        refine JL_call rfl Tryz.call22 rfl (fun hin => sameP_ct _ _ _ _ _ (p18_1.2.rd (hin 68 _ (made_old ((hB 2 (by decide)).trans rfl)))) (p18_3.2.rd (hin 69 _ (made_old ((hB 3 (by decide)).trans rfl))))) rfl ?_
        rintro _ _ ⟨rfl, rfl⟩
        refine JL_nil ?_
        exact ⟨.bool (decide ((t) = (u))), [], rfl, (Sub.emp Sub.refl), rfl⟩
       ·intro ρ r35 N35 B hB hBa hp hr hr0
        have q5 : ρ 5 = .pointer (some ⟨b1, 0, none⟩) := hr0 5 (by kernel_rfl)
        have q122 : ρ 122 = .bool (true) := (hr 39 _ _ (by decide) rfl rfl rfl).trans (hp 39 (by decide) rfl)
        obtain ⟨ρ79, rfl⟩ := reopen_ex (uc q5 (uc q122 un))
        clear q5 q122
        refine JL_run rfl (Pu_load ty27 rfl (At.bx 81 (made_old ((hB 15 (by decide)).trans rfl))) (sub_a (RT_len ht)) ?_)
        refine JL_nil ?_
        exact ⟨.agg ⟨cs⟩, [], rfl, (Sub.emp Sub.refl), rfl⟩
       ·intro ρ r35 N35 B hB hBa hp hr hr0
        have q6 : ρ 6 = .pointer (some ⟨b2, 0, none⟩) := hr0 6 (by kernel_rfl)
        have q122 : ρ 122 = .bool (true) := (hr 39 _ _ (by decide) rfl rfl rfl).trans (hp 39 (by decide) rfl)
        obtain ⟨ρ80, rfl⟩ := reopen_ex (uc q6 (uc q122 un))
        clear q6 q122
        refine JL_run rfl (Pu_load ty27 rfl (At.bx 80 (made_old ((hB 14 (by decide)).trans rfl))) (sub_a (RT_len hu)) ?_)
        refine JL_nil ?_
        exact ⟨.agg ⟨us⟩, [], rfl, (Sub.emp Sub.refl), rfl⟩
       ·intro ρ r35 N35 B hB hBa hp hr hr0
        have q122 : ρ 122 = .bool (true) := (hr 39 _ _ (by decide) rfl rfl rfl).trans (hp 39 (by decide) rfl)
        have q126 : ρ 126 = .agg ⟨cs⟩ := (hr 43 _ _ (by decide) rfl rfl rfl).trans (hp 43 (by decide) rfl)
        have q127 : ρ 127 = .agg ⟨us⟩ := (hr 44 _ _ (by decide) rfl rfl rfl).trans (hp 44 (by decide) rfl)
        obtain ⟨ρ81, rfl⟩ := reopen_ex (uc q122 (uc q126 (uc q127 un)))
        clear q122 q126 q127
        refine JL_call rfl Tryz.call23 rfl (fun hin => sameR_ct _ _ _ _ _ (RT.mono (Hle.hu _ _) ht) (RT.mono (Hle.hu _ _) hu)) rfl ?_
        rintro _ _ ⟨rfl, rfl⟩
        refine JL_nil ?_
        exact ⟨.bool (decide ((t) = (u))), [], rfl, (Sub.emp Sub.refl), rfl⟩
       ·intro ρ r35 N35 B hB hBa hp hr hr0
        have q122 : ρ 122 = .bool (true) := (hr 39 _ _ (by decide) rfl rfl rfl).trans (hp 39 (by decide) rfl)
        have q125 : ρ 125 = .bool (decide ((t) = (u))) := (hr 42 _ _ (by decide) rfl rfl rfl).trans (hp 42 (by decide) rfl)
        have q128 : ρ 128 = .bool (decide ((t) = (u))) := (hr 45 _ _ (by decide) rfl rfl rfl).trans (hp 45 (by decide) rfl)
        obtain ⟨ρ82, rfl⟩ := reopen_ex (uc q122 (uc q125 (uc q128 un)))
        clear q122 q125 q128
        refine JL_pure (v := .bool (true)) rfl ((Pu.eqlB Tryz.runUnderlying4 rfl rfl).beqT rfl) ?_
        refine JL_nil ?_
        exact ⟨.bool (true), [], rfl, (Sub.emp Sub.refl), rfl⟩
       ·intro ρ r35 N35 B hB hBa hp hr hr0
        have q122 : ρ 122 = .bool (true) := (hr 39 _ _ (by decide) rfl rfl rfl).trans (hp 39 (by decide) rfl)
        have q129 : ρ 129 = .bool (true) := (hr 46 _ _ (by decide) rfl rfl rfl).trans (hp 46 (by decide) rfl)
        obtain ⟨ρ83, rfl⟩ := reopen_ex (uc q122 (uc q129 un))
        clear q122 q129
        refine JL_pure (v := .bool (true)) rfl (Pu.pickT rfl rfl) ?_
        refine JL_nil ?_
        exact ⟨.bool (true), [], rfl, (Sub.emp Sub.refl), rfl⟩
       ·intro ρ r35 N35 B hB hBa hp hr hr0
        have q130 : ρ 130 = .bool (true) := (hr 47 _ _ (by decide) rfl rfl rfl).trans (hp 47 (by decide) rfl)
        obtain ⟨ρ84, rfl⟩ := reopen_ex (uc q130 un)
        clear q130
        refine JL_pure (v := .bool (true)) rfl (Pu.move rfl) ?_
        refine JL_nil ?_
        exact ⟨.bool (true), [], rfl, (Sub.emp Sub.refl), rfl⟩
       ·intro ρ r35 N35 B hB hBa hp hr hr0
        have q12 : ρ 12 = .pointer (some ⟨(pblk (r18 6)), 0, none⟩) := hr0 12 (by kernel_rfl)
        have q131 : ρ 131 = .bool (true) := (hr 48 _ _ (by decide) rfl rfl rfl).trans (hp 48 (by decide) rfl)
        obtain ⟨ρ85, rfl⟩ := reopen_ex (uc q12 (uc q131 un))
        clear q12 q131
        refine JL_run rfl (Pu_load ty27 rfl (At.bx 71 (made_old ((hB 5 (by decide)).trans rfl))) (sub_a p18_1.2.len) ?_)
        refine JL_nil ?_
        exact ⟨.agg ⟨(cel (r18 1))⟩, [], rfl, (Sub.emp Sub.refl), rfl⟩
       ·intro ρ r35 N35 B hB hBa hp hr hr0
        have q12 : ρ 12 = .pointer (some ⟨(pblk (r18 6)), 0, none⟩) := hr0 12 (by kernel_rfl)
        have q131 : ρ 131 = .bool (true) := (hr 48 _ _ (by decide) rfl rfl rfl).trans (hp 48 (by decide) rfl)
        obtain ⟨ρ86, rfl⟩ := reopen_ex (uc q12 (uc q131 un))
        clear q12 q131
        refine JL_run rfl (Pu_load ty27 rfl (At.bx 71 (made_old ((hB 5 (by decide)).trans rfl))) (sub_a p18_1.2.len) ?_)
        refine JL_nil ?_
        exact ⟨.agg ⟨(cel (r18 1))⟩, [], rfl, (Sub.emp Sub.refl), rfl⟩
       ·intro ρ r35 N35 B hB hBa hp hr hr0
        have q131 : ρ 131 = .bool (true) := (hr 48 _ _ (by decide) rfl rfl rfl).trans (hp 48 (by decide) rfl)
        have q132 : ρ 132 = .agg ⟨(cel (r18 1))⟩ := (hr 49 _ _ (by decide) rfl rfl rfl).trans (hp 49 (by decide) rfl)
        have q133 : ρ 133 = .agg ⟨(cel (r18 1))⟩ := (hr 50 _ _ (by decide) rfl rfl rfl).trans (hp 50 (by decide) rfl)
        obtain ⟨ρ87, rfl⟩ := reopen_ex (uc q131 (uc q132 (uc q133 un)))
        clear q131 q132 q133
        refine JL_call rfl Tryz.call22 rfl (fun hin => bool_r (r := true) (sameP_ct _ _ _ _ _ (p18_1.2.rd (hin 68 _ (made_old ((hB 2 (by decide)).trans rfl)))) (p18_1.2.rd (hin 68 _ (made_old ((hB 2 (by decide)).trans rfl))))) (decide_eq_true rfl)) rfl ?_
        rintro _ _ ⟨rfl, rfl⟩
        refine JL_nil ?_
        exact ⟨.bool (true), [], rfl, (Sub.emp Sub.refl), rfl⟩
       ·intro ρ r35 N35 B hB hBa hp hr hr0
        have q131 : ρ 131 = .bool (true) := (hr 48 _ _ (by decide) rfl rfl rfl).trans (hp 48 (by decide) rfl)
        have q134 : ρ 134 = .bool (true) := (hr 51 _ _ (by decide) rfl rfl rfl).trans (hp 51 (by decide) rfl)
        obtain ⟨ρ88, rfl⟩ := reopen_ex (uc q131 (uc q134 un))
        clear q131 q134
        refine JL_pure (v := .bool (true)) rfl (Pu.pickT rfl rfl) ?_
        refine JL_nil ?_
        exact ⟨.bool (true), [], rfl, (Sub.emp Sub.refl), rfl⟩
       ·intro ρ r35 N35 B hB hBa hp hr hr0
        have q135 : ρ 135 = .bool (true) := (hr 52 _ _ (by decide) rfl rfl rfl).trans (hp 52 (by decide) rfl)
        obtain ⟨ρ89, rfl⟩ := reopen_ex (uc q135 un)
        clear q135
        refine JL_pure (v := .bool (true)) rfl (Pu.move rfl) ?_
        refine JL_nil ?_
        exact ⟨.bool (true), [], rfl, (Sub.emp Sub.refl), rfl⟩
       ·intro ρ r35 N35 B hB hBa hp hr hr0
        have q12 : ρ 12 = .pointer (some ⟨(pblk (r18 6)), 0, none⟩) := hr0 12 (by kernel_rfl)
        have q136 : ρ 136 = .bool (true) := (hr 53 _ _ (by decide) rfl rfl rfl).trans (hp 53 (by decide) rfl)
        obtain ⟨ρ90, rfl⟩ := reopen_ex (uc q12 (uc q136 un))
        clear q12 q136
        refine JL_run rfl (Pu_load ty27 rfl (At.bx 71 (made_old ((hB 5 (by decide)).trans rfl))) (sub_a p18_1.2.len) ?_)
        refine JL_nil ?_
        exact ⟨.agg ⟨(cel (r18 1))⟩, [], rfl, (Sub.emp Sub.refl), rfl⟩
       ·intro ρ r35 N35 B hB hBa hp hr hr0
        have q5 : ρ 5 = .pointer (some ⟨b1, 0, none⟩) := hr0 5 (by kernel_rfl)
        have q136 : ρ 136 = .bool (true) := (hr 53 _ _ (by decide) rfl rfl rfl).trans (hp 53 (by decide) rfl)
        obtain ⟨ρ91, rfl⟩ := reopen_ex (uc q5 (uc q136 un))
        clear q5 q136
        refine JL_run rfl (Pu_load ty27 rfl (At.bx 81 (made_old ((hB 15 (by decide)).trans rfl))) (sub_a (RT_len ht)) ?_)
        refine JL_nil ?_
        exact ⟨.agg ⟨cs⟩, [], rfl, (Sub.emp Sub.refl), rfl⟩
       ·intro ρ r35 N35 B hB hBa hp hr hr0
        have q136 : ρ 136 = .bool (true) := (hr 53 _ _ (by decide) rfl rfl rfl).trans (hp 53 (by decide) rfl)
        have q137 : ρ 137 = .agg ⟨(cel (r18 1))⟩ := (hr 54 _ _ (by decide) rfl rfl rfl).trans (hp 54 (by decide) rfl)
        have q138 : ρ 138 = .agg ⟨cs⟩ := (hr 55 _ _ (by decide) rfl rfl rfl).trans (hp 55 (by decide) rfl)
        obtain ⟨ρ92, rfl⟩ := reopen_ex (uc q136 (uc q137 (uc q138 un)))
        clear q136 q137 q138
        refine JL_call rfl Tryz.call24 rfl (fun hin => bool_r (r := true) (sameTerm_ct _ _ _ _ _ (p18_1.2.rd (hin 68 _ (made_old ((hB 2 (by decide)).trans rfl)))) (RT.mono (Hle.hu _ _) ht)) (decide_eq_true rfl)) rfl ?_
        rintro _ _ ⟨rfl, rfl⟩
        refine JL_nil ?_
        exact ⟨.bool (true), [], rfl, (Sub.emp Sub.refl), rfl⟩
       ·intro ρ r35 N35 B hB hBa hp hr hr0
        have q136 : ρ 136 = .bool (true) := (hr 53 _ _ (by decide) rfl rfl rfl).trans (hp 53 (by decide) rfl)
        have q139 : ρ 139 = .bool (true) := (hr 56 _ _ (by decide) rfl rfl rfl).trans (hp 56 (by decide) rfl)
        obtain ⟨ρ93, rfl⟩ := reopen_ex (uc q136 (uc q139 un))
        clear q136 q139
        refine JL_pure (v := .bool (true)) rfl (Pu.pickT rfl rfl) ?_
        refine JL_nil ?_
        exact ⟨.bool (true), [], rfl, (Sub.emp Sub.refl), rfl⟩
       ·intro ρ r35 N35 B hB hBa hp hr hr0
        have q140 : ρ 140 = .bool (true) := (hr 57 _ _ (by decide) rfl rfl rfl).trans (hp 57 (by decide) rfl)
        obtain ⟨ρ94, rfl⟩ := reopen_ex (uc q140 un)
        clear q140
        refine JL_pure (v := .bool (true)) rfl (Pu.move rfl) ?_
        refine JL_nil ?_
        exact ⟨.bool (true), [], rfl, (Sub.emp Sub.refl), rfl⟩
       ·intro ρ r35 N35 B hB hBa hp hr hr0
        have q13 : ρ 13 = .pointer (some ⟨(pblk (r18 7)), 0, none⟩) := hr0 13 (by kernel_rfl)
        have q141 : ρ 141 = .bool (true) := (hr 58 _ _ (by decide) rfl rfl rfl).trans (hp 58 (by decide) rfl)
        obtain ⟨ρ95, rfl⟩ := reopen_ex (uc q13 (uc q141 un))
        clear q13 q141
        refine JL_run rfl (Pu_load ty27 rfl (At.bx 72 (made_old ((hB 6 (by decide)).trans rfl))) (sub_a p18_3.2.len) ?_)
        refine JL_nil ?_
        exact ⟨.agg ⟨(cel (r18 3))⟩, [], rfl, (Sub.emp Sub.refl), rfl⟩
       ·intro ρ r35 N35 B hB hBa hp hr hr0
        have q6 : ρ 6 = .pointer (some ⟨b2, 0, none⟩) := hr0 6 (by kernel_rfl)
        have q141 : ρ 141 = .bool (true) := (hr 58 _ _ (by decide) rfl rfl rfl).trans (hp 58 (by decide) rfl)
        obtain ⟨ρ96, rfl⟩ := reopen_ex (uc q6 (uc q141 un))
        clear q6 q141
        refine JL_run rfl (Pu_load ty27 rfl (At.bx 80 (made_old ((hB 14 (by decide)).trans rfl))) (sub_a (RT_len hu)) ?_)
        refine JL_nil ?_
        exact ⟨.agg ⟨us⟩, [], rfl, (Sub.emp Sub.refl), rfl⟩
       ·intro ρ r35 N35 B hB hBa hp hr hr0
        have q141 : ρ 141 = .bool (true) := (hr 58 _ _ (by decide) rfl rfl rfl).trans (hp 58 (by decide) rfl)
        have q142 : ρ 142 = .agg ⟨(cel (r18 3))⟩ := (hr 59 _ _ (by decide) rfl rfl rfl).trans (hp 59 (by decide) rfl)
        have q143 : ρ 143 = .agg ⟨us⟩ := (hr 60 _ _ (by decide) rfl rfl rfl).trans (hp 60 (by decide) rfl)
        obtain ⟨ρ97, rfl⟩ := reopen_ex (uc q141 (uc q142 (uc q143 un)))
        clear q141 q142 q143
        refine JL_call rfl Tryz.call24 rfl (fun hin => bool_r (r := true) (sameTerm_ct _ _ _ _ _ (p18_3.2.rd (hin 69 _ (made_old ((hB 3 (by decide)).trans rfl)))) (RT.mono (Hle.hu _ _) hu)) (decide_eq_true rfl)) rfl ?_
        rintro _ _ ⟨rfl, rfl⟩
        refine JL_nil ?_
        exact ⟨.bool (true), [], rfl, (Sub.emp Sub.refl), rfl⟩
       ·intro ρ r35 N35 B hB hBa hp hr hr0
        have q141 : ρ 141 = .bool (true) := (hr 58 _ _ (by decide) rfl rfl rfl).trans (hp 58 (by decide) rfl)
        have q144 : ρ 144 = .bool (true) := (hr 61 _ _ (by decide) rfl rfl rfl).trans (hp 61 (by decide) rfl)
        obtain ⟨ρ98, rfl⟩ := reopen_ex (uc q141 (uc q144 un))
        clear q141 q144
        refine JL_pure (v := .bool (true)) rfl (Pu.pickT rfl rfl) ?_
        refine JL_nil ?_
        exact ⟨.bool (true), [], rfl, (Sub.emp Sub.refl), rfl⟩
       ·intro ρ r35 N35 B hB hBa hp hr hr0
        have q145 : ρ 145 = .bool (true) := (hr 62 _ _ (by decide) rfl rfl rfl).trans (hp 62 (by decide) rfl)
        obtain ⟨ρ99, rfl⟩ := reopen_ex (uc q145 un)
        clear q145
        refine JL_pure (v := .bool (true)) rfl (Pu.move rfl) ?_
        refine JL_nil ?_
        exact ⟨.bool (true), [], rfl, (Sub.emp Sub.refl), rfl⟩
       ·intro ρ r35 N35 B hB hBa hp hr hr0
        have q14 : ρ 14 = .pointer (some ⟨(pblk (r18 8)), 0, none⟩) := hr0 14 (by kernel_rfl)
        have q146 : ρ 146 = .bool (true) := (hr 63 _ _ (by decide) rfl rfl rfl).trans (hp 63 (by decide) rfl)
        obtain ⟨ρ100, rfl⟩ := reopen_ex (uc q14 (uc q146 un))
        clear q14 q146
        refine JL_run rfl (Pu_load ty30 rfl (At.bx 73 (made_old ((hB 7 (by decide)).trans rfl))) (sub_a p18_5.2.len) ?_)
        refine JL_nil ?_
        exact ⟨.agg ⟨(cel (r18 5))⟩, [], rfl, (Sub.emp Sub.refl), rfl⟩
       ·intro ρ r35 N35 B hB hBa hp hr hr0
        have q7 : ρ 7 = .pointer (some ⟨b3, 0, none⟩) := hr0 7 (by kernel_rfl)
        have q146 : ρ 146 = .bool (true) := (hr 63 _ _ (by decide) rfl rfl rfl).trans (hp 63 (by decide) rfl)
        obtain ⟨ρ101, rfl⟩ := reopen_ex (uc q7 (uc q146 un))
        clear q7 q146
        refine JL_run rfl (Pu_load ty30 rfl (At.bx 79 (made_old ((hB 13 (by decide)).trans rfl))) (sub_a (RP_len hpt)) ?_)
        refine JL_nil ?_
        exact ⟨.agg ⟨ps⟩, [], rfl, (Sub.emp Sub.refl), rfl⟩
       ·intro ρ r35 N35 hp hr hr0
        have q10 : ρ 10 = .bool (false) := hr0 10 (by kernel_rfl)
        have q146 : ρ 146 = .bool (true) := (hr 63 _ _ (by decide) rfl rfl).trans (hp 63 (by decide))
        have q147 : ρ 147 = .agg ⟨(cel (r18 5))⟩ := (hr 64 _ _ (by decide) rfl rfl).trans (hp 64 (by decide))
        have q148 : ρ 148 = .agg ⟨ps⟩ := (hr 65 _ _ (by decide) rfl rfl).trans (hp 65 (by decide))
        obtain ⟨ρ102, rfl⟩ := reopen_ex (uc q10 (uc q146 (uc q147 (uc q148 un))))
        clear q10 q146 q147 q148
        clear hp hr hr0 
        refine JL_sub (M' := [k34, k33, (N18 1), (N18 3), (N18 5), [((pblk (r18 6)), .cells ⟨(cel (r18 1))⟩ 27 (0, 0))], [((pblk (r18 7)), .cells ⟨(cel (r18 3))⟩ 27 (0, 0))], [((pblk (r18 8)), .cells ⟨(cel (r18 5))⟩ 30 (0, 0))], (N4 0), (N4 2), (N4 4), (N4 5), [((pblk (r4 6)), .cells ⟨(cel (r4 5))⟩ 27 (0, 0))], [(b3, .cells ⟨ps⟩ 30 (0, 0))], [(b2, .cells ⟨us⟩ 27 (0, 0))], [(b1, .cells ⟨cs⟩ 27 (0, 0))]]) (made_sub Sub.refl) ?_
        show JL _ _ _ [_, _, _, _, _, _] _ _ _
        refine JL_call rfl Tryz.call25 rfl (fun hin => bool_r (r := true) (samePattern_ct _ _ _ _ _ (p18_5.2.rd (hin 4 _ rfl)) (RP.mono (Hle.hu _ _) hpt)) (decide_eq_true rfl)) rfl ?_
        rintro _ _ ⟨rfl, rfl⟩
        refine JL_pure (v := .bool (true)) rfl (Pu.pickT rfl rfl) ?_
        refine JL_pure (v := .bool (true)) rfl (Pu.move rfl) ?_
        refine JL_call rfl Tryz.call9 rfl (fun hin => awake_ct _) rfl ?_
        rintro _ _ ⟨rfl, rfl⟩
        refine JL_pure (v := .bool (true)) rfl (Pu.pickT rfl rfl) ?_
        refine JL_pure (v := .bool (true)) rfl (Pu.assign rfl) ?_
        refine JL_nil ?_
        refine J_ret ?_
        refine ⟨.bool (true), [], Ret.one rfl (RV.tmp rfl), Sub.nil, ?_⟩
        exact ⟨rfl, rfl⟩
      ·skip
       replace h32 := df h32
       refine J_skip ?_
       refine J_seq ?_
       refine J_region ?_
       refine JL_run rfl (Pu_load ty30 rfl (At.bx 11 rfl) (sub_a (RP_len hpt)) ?_)
       refine JL_call rfl Tryz.call15 rfl (fun hin => bindsE_ct _ _ _ (RP.mono (Hle.hu _ _) hpt) (by have e := (great_size ‹(cnT stG 0 (ofP p) 0).1 = false›); rw [size_of] at e; omega)) rfl ?_
       rintro _ _ ⟨rfl, rfl⟩
       refine JL_pure (v := .tuple ⟨[.int .i64 ((bindsE p).1), .int .i64 ((bindsE p).2)]⟩) rfl (Pu.move rfl) ?_
       refine JL_pure (v := .int .i64 ((bindsE p).1)) rfl (Pu.extract rfl rfl) ?_
       refine JL_pure (v := .int .i64 ((bindsE p).2)) rfl (Pu.extract rfl rfl) ?_
       refine JL_pure (v := .int .i64 ((bindsE p).1)) rfl (Pu.assign rfl) ?_
       refine JL_pure (v := .int .i64 ((bindsE p).2)) rfl (Pu.assign rfl) ?_
       refine JL_nil ?_
       refine J_seq ?_
       refine J_region ?_
       refine JL_run rfl (Pu_load ty27 rfl (At.bx 3 rfl) (sub_a p18_1.2.len) ?_)
       refine JL_call rfl Tryz.call16 rfl (fun hin => sizeE_ct _ _ _ (p18_1.2.rd (hin 0 _ rfl))) rfl ?_
       rintro _ _ ⟨rfl, rfl⟩
       refine JL_pure (v := .tuple ⟨[.int .i64 ((sizeE t).1), .int .i64 ((sizeE t).2)]⟩) rfl (Pu.move rfl) ?_
       refine JL_pure (v := .int .i64 ((sizeE t).1)) rfl (Pu.extract rfl rfl) ?_
       refine JL_pure (v := .int .i64 ((sizeE t).2)) rfl (Pu.extract rfl rfl) ?_
       refine JL_pure (v := .int .i64 ((sizeE t).1)) rfl (Pu.assign rfl) ?_
       refine JL_pure (v := .int .i64 ((sizeE t).2)) rfl (Pu.assign rfl) ?_
       refine JL_nil ?_
       refine J_seq ?_
       refine J_region ?_
       refine JL_run rfl (Pu_load ty27 rfl (At.bx 3 rfl) (sub_a p18_1.2.len) ?_)
       refine JL_call rfl Tryz.call17 rfl (fun hin => freeE_ct t _ _ (p18_1.2.rd (hin 0 _ rfl))) rfl ?_
       rintro _ _ ⟨u103, e103, k103, rfl, rfl, ho103, rfl⟩
       refine JL_pure (v := .tuple ⟨[u103, .int .i64 ((freeE t).2)]⟩) rfl (Pu.move rfl) ?_
       refine JL_pure (v := u103) rfl (Pu.extract rfl rfl) ?_
       refine JL_pure (v := .int .i64 ((freeE t).2)) rfl (Pu.extract rfl rfl) ?_
       refine JL_pure (v := u103) rfl (Pu.assign rfl) ?_
       refine JL_pure (v := .int .i64 ((freeE t).2)) rfl (Pu.assign rfl) ?_
       refine JL_nil ?_
       refine J_seq ?_
       refine J_region ?_
       refine JL_run rfl (Pu_load ty30 rfl (At.bx 6 rfl) (sub_a p18_5.2.len) ?_)
       refine JL_call rfl Tryz.call18 rfl (fun hin => bindsP_ct _ _ _ (p18_5.2.rd (hin 3 _ rfl)) (by have e := (great_size ‹(cnT stG 0 (ofP p) 0).1 = false›); rw [size_of] at e; omega)) rfl ?_
       rintro _ _ ⟨rfl, rfl⟩
       refine JL_pure (v := .tuple ⟨[.int .i64 ((bindsE p).1), .int .i64 ((bindsE p).2)]⟩) rfl (Pu.move rfl) ?_
       refine JL_pure (v := .int .i64 ((bindsE p).1)) rfl (Pu.extract rfl rfl) ?_
       refine JL_pure (v := .int .i64 ((bindsE p).2)) rfl (Pu.extract rfl rfl) ?_
       refine JL_pure (v := .int .i64 ((bindsE p).1)) rfl (Pu.assign rfl) ?_
       refine JL_pure (v := .int .i64 ((bindsE p).2)) rfl (Pu.assign rfl) ?_
       refine JL_nil ?_
       refine J_seq ?_
       refine J_sub (M' := [k103, (N18 1), (N18 3), (N18 5), [((pblk (r18 6)), .cells ⟨(cel (r18 1))⟩ 27 (0, 0))], [((pblk (r18 7)), .cells ⟨(cel (r18 3))⟩ 27 (0, 0))], [((pblk (r18 8)), .cells ⟨(cel (r18 5))⟩ 30 (0, 0))], (N4 0), (N4 2), (N4 4), (N4 5), [((pblk (r4 6)), .cells ⟨(cel (r4 5))⟩ 27 (0, 0))], [(b3, .cells ⟨ps⟩ 30 (0, 0))], [(b2, .cells ⟨us⟩ 27 (0, 0))], [(b1, .cells ⟨cs⟩ 27 (0, 0))]]) Sub.refl ?_
       refine J_draw mixed #[0, 0, 0, 7, 0, 0, 0, 127, 255, 511, 1023, 1023, 4095, 8191, 16383, 32767, 32767, 131071, 262143, 524287, 1048575, 1048575, 4194303, 8388607, 16777215, 33554431, 33554431, 134217727, 268435455, 536870911, 1073741823, 1073741823, 4294967295, 8589934591, 17179869183, 34359738367, 34359738367, 137438953471, 274877906943, 549755813887, 1099511627775, 1099511627775, 4398046511103, 1099511627775, 1099511627775, 35184372088831, 70368744177663, 140737488355327, 281474976710655, 562949953421311, 562949953421311, 2251799813685247, 4503599627370495, 9007199254740991, 18014398509481983, 18014398509481983, 72057594037927935, 144115188075855871, 288230376151711743, 576460752303423487, 576460752303423487, 2305843009213693951, 4611686018427387903, 9223372036854775807, 18446744073709551615, 18446744073709551615, 73786976294838206463, 147573952589676412927, 295147905179352825855, 590295810358705651711, 1180591620717411303423, 2361183241434822606847] 66 66 15 rfl (by kernel_rfl) (fun i r104 N104 => match i with | 0 => (r104 0) = .agg ⟨(cel (r18 1))⟩ | 1 => (r104 1) = .int .i64 (d) | 2 => (r104 2) = .int .i64 (m) | 3 => (r104 3) = .int .i64 (checkR (d) (m) (t)) | 4 => (r104 4) = .agg ⟨cs⟩ | 5 => (r104 5) = .int .i64 (d) | 6 => (r104 6) = .int .i64 (m) | 7 => (r104 7) = .int .i64 (checkR (d) (m) (t)) | 8 => (r104 8) = .bool (true) | 9 => (r104 9) = .bool (true) | 10 => (r104 10) = .int .i64 ((sizeE t).2) | 11 => (r104 11) = .int .i64 (checkR 60 8 (t)) | 12 => (r104 12) = .bool (true) | 13 => (r104 13) = .bool (true) | 14 => (r104 14) = .bool (true) | 15 => (r104 15) = .int .i64 ((sizeE t).1) | 16 => (r104 16) = .int .i64 (0) | 17 => (r104 17) = .bool (true) | 18 => (r104 18) = .bool (true) | 19 => (r104 19) = .bool (true) | 20 => (r104 20) = .int .i64 ((freeE t).2) | 21 => (r104 21) = .int .i64 (checkR 60 8 (t)) | 22 => (r104 22) = .bool (true) | 23 => (r104 23) = .bool (true) | 24 => (r104 24) = .bool (true) | 25 => (r104 25) = u103 | 26 => (r104 26) = .slice none 0 0 | 27 => (r104 27) = .bool (true) | 28 => (r104 28) = .bool (true) | 29 => (r104 29) = .bool (true) | 30 => (r104 30) = .int .i64 ((bindsE p).2) | 31 => (r104 31) = .int .i64 ((bindsE p).2) | 32 => (r104 32) = .bool (true) | 33 => (r104 33) = .bool (true) | 34 => (r104 34) = .bool (true) | 35 => (r104 35) = .int .i64 ((bindsE p).1) | 36 => (r104 36) = .int .i64 ((bindsE p).1) | 37 => (r104 37) = .bool (true) | 38 => (r104 38) = .bool (true) | 39 => (r104 39) = .bool (true) | 40 => (r104 40) = .agg ⟨(cel (r18 1))⟩ | 41 => (r104 41) = .agg ⟨(cel (r18 3))⟩ | 42 => (r104 42) = .bool (decide ((t) = (u))) | 43 => (r104 43) = .agg ⟨cs⟩ | 44 => (r104 44) = .agg ⟨us⟩ | 45 => (r104 45) = .bool (decide ((t) = (u))) | 46 => (r104 46) = .bool (true) | 47 => (r104 47) = .bool (true) | 48 => (r104 48) = .bool (true) | 49 => (r104 49) = .agg ⟨(cel (r18 1))⟩ | 50 => (r104 50) = .agg ⟨(cel (r18 1))⟩ | 51 => (r104 51) = .bool (true) | 52 => (r104 52) = .bool (true) | 53 => (r104 53) = .bool (true) | 54 => (r104 54) = .agg ⟨(cel (r18 1))⟩ | 55 => (r104 55) = .agg ⟨cs⟩ | 56 => (r104 56) = .bool (true) | 57 => (r104 57) = .bool (true) | 58 => (r104 58) = .bool (true) | 59 => (r104 59) = .agg ⟨(cel (r18 3))⟩ | 60 => (r104 60) = .agg ⟨us⟩ | 61 => (r104 61) = .bool (true) | 62 => (r104 62) = .bool (true) | 63 => (r104 63) = .bool (true) | 64 => (r104 64) = .agg ⟨(cel (r18 5))⟩ | 65 => (r104 65) = .agg ⟨ps⟩ | _ => True) ⟨?_, ?_, ?_, ?_, ?_, ?_, ?_, ?_, ?_, ?_, ?_, ?_, ?_, ?_, ?_, ?_, ?_, ?_, ?_, ?_, ?_, ?_, ?_, ?_, ?_, ?_, ?_, ?_, ?_, ?_, ?_, ?_, ?_, ?_, ?_, ?_, ?_, ?_, ?_, ?_, ?_, ?_, ?_, ?_, ?_, ?_, ?_, ?_, ?_, ?_, ?_, ?_, ?_, ?_, ?_, ?_, ?_, ?_, ?_, ?_, ?_, ?_, ?_, ?_, ?_, ?_, trivial⟩ ?_
       ·intro ρ r104 N104 B hB hBa hp hr hr0
        have q12 : ρ 12 = .pointer (some ⟨(pblk (r18 6)), 0, none⟩) := hr0 12 (by kernel_rfl)
        obtain ⟨ρ105, rfl⟩ := reopen_ex (uc q12 un)
        clear q12
        refine JL_run rfl (Pu_load ty27 rfl (At.bx 70 (made_old ((hB 4 (by decide)).trans rfl))) (sub_a p18_1.2.len) ?_)
        refine JL_nil ?_
        exact ⟨.agg ⟨(cel (r18 1))⟩, [], rfl, (Sub.emp Sub.refl), rfl⟩
       ·intro ρ r104 N104 B hB hBa hp hr hr0
        have q3 : ρ 3 = .int .i64 (d) := hr0 3 (by kernel_rfl)
        obtain ⟨ρ106, rfl⟩ := reopen_ex (uc q3 un)
        clear q3
        refine JL_pure (v := .int .i64 (d)) rfl (Pu.move rfl) ?_
        refine JL_nil ?_
        exact ⟨.int .i64 (d), [], rfl, (Sub.emp Sub.refl), rfl⟩
       ·intro ρ r104 N104 B hB hBa hp hr hr0
        have q4 : ρ 4 = .int .i64 (m) := hr0 4 (by kernel_rfl)
        obtain ⟨ρ107, rfl⟩ := reopen_ex (uc q4 un)
        clear q4
        refine JL_pure (v := .int .i64 (m)) rfl (Pu.move rfl) ?_
        refine JL_nil ?_
        exact ⟨.int .i64 (m), [], rfl, (Sub.emp Sub.refl), rfl⟩
       ·intro ρ r104 N104 B hB hBa hp hr hr0
        have q83 : ρ 83 = .agg ⟨(cel (r18 1))⟩ := (hr 0 _ _ (by decide) rfl rfl rfl).trans (hp 0 (by decide) rfl)
        have q84 : ρ 84 = .int .i64 (d) := (hr 1 _ _ (by decide) rfl rfl rfl).trans (hp 1 (by decide) rfl)
        have q85 : ρ 85 = .int .i64 (m) := (hr 2 _ _ (by decide) rfl rfl rfl).trans (hp 2 (by decide) rfl)
        obtain ⟨ρ108, rfl⟩ := reopen_ex (uc q83 (uc q84 (uc q85 un)))
        clear q83 q84 q85
        refine JL_call rfl Tryz.call19 rfl (fun hin => int_r (check_ct _ _ _ _ _ (p18_1.2.rd (hin 67 _ (made_old ((hB 1 (by decide)).trans rfl))))) (check_eq _ _ _)) rfl ?_
        rintro _ _ ⟨rfl, rfl⟩
        refine JL_nil ?_
        exact ⟨.int .i64 (checkR (d) (m) (t)), [], rfl, (Sub.emp Sub.refl), rfl⟩
       ·intro ρ r104 N104 B hB hBa hp hr hr0
        have q5 : ρ 5 = .pointer (some ⟨b1, 0, none⟩) := hr0 5 (by kernel_rfl)
        obtain ⟨ρ109, rfl⟩ := reopen_ex (uc q5 un)
        clear q5
        refine JL_run rfl (Pu_load ty27 rfl (At.bx 80 (made_old ((hB 14 (by decide)).trans rfl))) (sub_a (RT_len ht)) ?_)
        refine JL_nil ?_
        exact ⟨.agg ⟨cs⟩, [], rfl, (Sub.emp Sub.refl), rfl⟩
       ·intro ρ r104 N104 B hB hBa hp hr hr0
        have q3 : ρ 3 = .int .i64 (d) := hr0 3 (by kernel_rfl)
        obtain ⟨ρ110, rfl⟩ := reopen_ex (uc q3 un)
        clear q3
        refine JL_pure (v := .int .i64 (d)) rfl (Pu.move rfl) ?_
        refine JL_nil ?_
        exact ⟨.int .i64 (d), [], rfl, (Sub.emp Sub.refl), rfl⟩
       ·intro ρ r104 N104 B hB hBa hp hr hr0
        have q4 : ρ 4 = .int .i64 (m) := hr0 4 (by kernel_rfl)
        obtain ⟨ρ111, rfl⟩ := reopen_ex (uc q4 un)
        clear q4
        refine JL_pure (v := .int .i64 (m)) rfl (Pu.move rfl) ?_
        refine JL_nil ?_
        exact ⟨.int .i64 (m), [], rfl, (Sub.emp Sub.refl), rfl⟩
       ·intro ρ r104 N104 B hB hBa hp hr hr0
        have q87 : ρ 87 = .agg ⟨cs⟩ := (hr 4 _ _ (by decide) rfl rfl rfl).trans (hp 4 (by decide) rfl)
        have q88 : ρ 88 = .int .i64 (d) := (hr 5 _ _ (by decide) rfl rfl rfl).trans (hp 5 (by decide) rfl)
        have q89 : ρ 89 = .int .i64 (m) := (hr 6 _ _ (by decide) rfl rfl rfl).trans (hp 6 (by decide) rfl)
        obtain ⟨ρ112, rfl⟩ := reopen_ex (uc q87 (uc q88 (uc q89 un)))
        clear q87 q88 q89
        refine JL_call rfl Tryz.call20 rfl (fun hin => checkR_ct _ _ _ _ _ (RT.mono (Hle.hu _ _) ht) (by have := (great_size ‹(cnT stG 0 t 0).1 = false›); omega)) rfl ?_
        rintro _ _ ⟨rfl, rfl⟩
        refine JL_nil ?_
        exact ⟨.int .i64 (checkR (d) (m) (t)), [], rfl, (Sub.emp Sub.refl), rfl⟩
       ·intro ρ r104 N104 B hB hBa hp hr hr0
        have q86 : ρ 86 = .int .i64 (checkR (d) (m) (t)) := (hr 3 _ _ (by decide) rfl rfl rfl).trans (hp 3 (by decide) rfl)
        have q90 : ρ 90 = .int .i64 (checkR (d) (m) (t)) := (hr 7 _ _ (by decide) rfl rfl rfl).trans (hp 7 (by decide) rfl)
        obtain ⟨ρ113, rfl⟩ := reopen_ex (uc q86 (uc q90 un))
        clear q86 q90
        refine JL_pure (v := .bool (true)) rfl ((Pu.eql rfl rfl).decT (rfl)) ?_
        refine JL_nil ?_
        exact ⟨.bool (true), [], rfl, (Sub.emp Sub.refl), rfl⟩
       ·intro ρ r104 N104 B hB hBa hp hr hr0
        have q91 : ρ 91 = .bool (true) := (hr 8 _ _ (by decide) rfl rfl rfl).trans (hp 8 (by decide) rfl)
        obtain ⟨ρ114, rfl⟩ := reopen_ex (uc q91 un)
        clear q91
        refine JL_pure (v := .bool (true)) rfl (Pu.move rfl) ?_
        refine JL_nil ?_
        exact ⟨.bool (true), [], rfl, (Sub.emp Sub.refl), rfl⟩
       ·intro ρ r104 N104 B hB hBa hp hr hr0
        have q22 : ρ 22 = .int .i64 ((sizeE t).2) := hr0 22 (by kernel_rfl)
        have q92 : ρ 92 = .bool (true) := (hr 9 _ _ (by decide) rfl rfl rfl).trans (hp 9 (by decide) rfl)
        obtain ⟨ρ115, rfl⟩ := reopen_ex (uc q22 (uc q92 un))
        clear q22 q92
        refine JL_pure (v := .int .i64 ((sizeE t).2)) rfl (Pu.move rfl) ?_
        refine JL_nil ?_
        exact ⟨.int .i64 ((sizeE t).2), [], rfl, (Sub.emp Sub.refl), rfl⟩
       ·intro ρ r104 N104 B hB hBa hp hr hr0
        have q16 : ρ 16 = .int .i64 (checkR 60 8 (t)) := hr0 16 (by kernel_rfl)
        have q92 : ρ 92 = .bool (true) := (hr 9 _ _ (by decide) rfl rfl rfl).trans (hp 9 (by decide) rfl)
        obtain ⟨ρ116, rfl⟩ := reopen_ex (uc q16 (uc q92 un))
        clear q16 q92
        refine JL_pure (v := .int .i64 (checkR 60 8 (t))) rfl (Pu.move rfl) ?_
        refine JL_nil ?_
        exact ⟨.int .i64 (checkR 60 8 (t)), [], rfl, (Sub.emp Sub.refl), rfl⟩
       ·intro ρ r104 N104 B hB hBa hp hr hr0
        have q92 : ρ 92 = .bool (true) := (hr 9 _ _ (by decide) rfl rfl rfl).trans (hp 9 (by decide) rfl)
        have q93 : ρ 93 = .int .i64 ((sizeE t).2) := (hr 10 _ _ (by decide) rfl rfl rfl).trans (hp 10 (by decide) rfl)
        have q94 : ρ 94 = .int .i64 (checkR 60 8 (t)) := (hr 11 _ _ (by decide) rfl rfl rfl).trans (hp 11 (by decide) rfl)
        obtain ⟨ρ117, rfl⟩ := reopen_ex (uc q92 (uc q93 (uc q94 un)))
        clear q92 q93 q94
        refine JL_pure (v := .bool (true)) rfl ((Pu.eql rfl rfl).decT (sizeE_err _)) ?_
        refine JL_nil ?_
        exact ⟨.bool (true), [], rfl, (Sub.emp Sub.refl), rfl⟩
       ·intro ρ r104 N104 B hB hBa hp hr hr0
        have q92 : ρ 92 = .bool (true) := (hr 9 _ _ (by decide) rfl rfl rfl).trans (hp 9 (by decide) rfl)
        have q95 : ρ 95 = .bool (true) := (hr 12 _ _ (by decide) rfl rfl rfl).trans (hp 12 (by decide) rfl)
        obtain ⟨ρ118, rfl⟩ := reopen_ex (uc q92 (uc q95 un))
        clear q92 q95
        refine JL_pure (v := .bool (true)) rfl (Pu.pickT rfl rfl) ?_
        refine JL_nil ?_
        exact ⟨.bool (true), [], rfl, (Sub.emp Sub.refl), rfl⟩
       ·intro ρ r104 N104 B hB hBa hp hr hr0
        have q96 : ρ 96 = .bool (true) := (hr 13 _ _ (by decide) rfl rfl rfl).trans (hp 13 (by decide) rfl)
        obtain ⟨ρ119, rfl⟩ := reopen_ex (uc q96 un)
        clear q96
        refine JL_pure (v := .bool (true)) rfl (Pu.move rfl) ?_
        refine JL_nil ?_
        exact ⟨.bool (true), [], rfl, (Sub.emp Sub.refl), rfl⟩
       ·intro ρ r104 N104 B hB hBa hp hr hr0
        have q21 : ρ 21 = .int .i64 ((sizeE t).1) := hr0 21 (by kernel_rfl)
        have q97 : ρ 97 = .bool (true) := (hr 14 _ _ (by decide) rfl rfl rfl).trans (hp 14 (by decide) rfl)
        obtain ⟨ρ120, rfl⟩ := reopen_ex (uc q21 (uc q97 un))
        clear q21 q97
        refine JL_pure (v := .int .i64 ((sizeE t).1)) rfl (Pu.move rfl) ?_
        refine JL_nil ?_
        exact ⟨.int .i64 ((sizeE t).1), [], rfl, (Sub.emp Sub.refl), rfl⟩
       ·intro ρ r104 N104 B hB hBa hp hr hr0
        have q17 : ρ 17 = .int .i64 (0) := hr0 17 (by kernel_rfl)
        have q97 : ρ 97 = .bool (true) := (hr 14 _ _ (by decide) rfl rfl rfl).trans (hp 14 (by decide) rfl)
        obtain ⟨ρ121, rfl⟩ := reopen_ex (uc q17 (uc q97 un))
        clear q17 q97
        refine JL_pure (v := .int .i64 (0)) rfl (Pu.move rfl) ?_
        refine JL_nil ?_
        exact ⟨.int .i64 (0), [], rfl, (Sub.emp Sub.refl), rfl⟩
       ·intro ρ r104 N104 B hB hBa hp hr hr0
        have q97 : ρ 97 = .bool (true) := (hr 14 _ _ (by decide) rfl rfl rfl).trans (hp 14 (by decide) rfl)
        have q98 : ρ 98 = .int .i64 ((sizeE t).1) := (hr 15 _ _ (by decide) rfl rfl rfl).trans (hp 15 (by decide) rfl)
        have q99 : ρ 99 = .int .i64 (0) := (hr 16 _ _ (by decide) rfl rfl rfl).trans (hp 16 (by decide) rfl)
        obtain ⟨ρ122, rfl⟩ := reopen_ex (uc q97 (uc q98 (uc q99 un)))
        clear q97 q98 q99
        refine JL_pure (v := .bool (true)) rfl ((Pu.eql rfl rfl).decT (sizeE_not ‹¬ checkR 60 8 t = 0›)) ?_
        refine JL_nil ?_
        exact ⟨.bool (true), [], rfl, (Sub.emp Sub.refl), rfl⟩
       ·intro ρ r104 N104 B hB hBa hp hr hr0
        have q97 : ρ 97 = .bool (true) := (hr 14 _ _ (by decide) rfl rfl rfl).trans (hp 14 (by decide) rfl)
        have q100 : ρ 100 = .bool (true) := (hr 17 _ _ (by decide) rfl rfl rfl).trans (hp 17 (by decide) rfl)
        obtain ⟨ρ123, rfl⟩ := reopen_ex (uc q97 (uc q100 un))
        clear q97 q100
        refine JL_pure (v := .bool (true)) rfl (Pu.pickT rfl rfl) ?_
        refine JL_nil ?_
        exact ⟨.bool (true), [], rfl, (Sub.emp Sub.refl), rfl⟩
       ·intro ρ r104 N104 B hB hBa hp hr hr0
        have q101 : ρ 101 = .bool (true) := (hr 18 _ _ (by decide) rfl rfl rfl).trans (hp 18 (by decide) rfl)
        obtain ⟨ρ124, rfl⟩ := reopen_ex (uc q101 un)
        clear q101
        refine JL_pure (v := .bool (true)) rfl (Pu.move rfl) ?_
        refine JL_nil ?_
        exact ⟨.bool (true), [], rfl, (Sub.emp Sub.refl), rfl⟩
       ·intro ρ r104 N104 B hB hBa hp hr hr0
        have q24 : ρ 24 = .int .i64 ((freeE t).2) := hr0 24 (by kernel_rfl)
        have q102 : ρ 102 = .bool (true) := (hr 19 _ _ (by decide) rfl rfl rfl).trans (hp 19 (by decide) rfl)
        obtain ⟨ρ125, rfl⟩ := reopen_ex (uc q24 (uc q102 un))
        clear q24 q102
        refine JL_pure (v := .int .i64 ((freeE t).2)) rfl (Pu.move rfl) ?_
        refine JL_nil ?_
        exact ⟨.int .i64 ((freeE t).2), [], rfl, (Sub.emp Sub.refl), rfl⟩
       ·intro ρ r104 N104 B hB hBa hp hr hr0
        have q16 : ρ 16 = .int .i64 (checkR 60 8 (t)) := hr0 16 (by kernel_rfl)
        have q102 : ρ 102 = .bool (true) := (hr 19 _ _ (by decide) rfl rfl rfl).trans (hp 19 (by decide) rfl)
        obtain ⟨ρ126, rfl⟩ := reopen_ex (uc q16 (uc q102 un))
        clear q16 q102
        refine JL_pure (v := .int .i64 (checkR 60 8 (t))) rfl (Pu.move rfl) ?_
        refine JL_nil ?_
        exact ⟨.int .i64 (checkR 60 8 (t)), [], rfl, (Sub.emp Sub.refl), rfl⟩
       ·intro ρ r104 N104 B hB hBa hp hr hr0
        have q102 : ρ 102 = .bool (true) := (hr 19 _ _ (by decide) rfl rfl rfl).trans (hp 19 (by decide) rfl)
        have q103 : ρ 103 = .int .i64 ((freeE t).2) := (hr 20 _ _ (by decide) rfl rfl rfl).trans (hp 20 (by decide) rfl)
        have q104 : ρ 104 = .int .i64 (checkR 60 8 (t)) := (hr 21 _ _ (by decide) rfl rfl rfl).trans (hp 21 (by decide) rfl)
        obtain ⟨ρ127, rfl⟩ := reopen_ex (uc q102 (uc q103 (uc q104 un)))
        clear q102 q103 q104
        refine JL_pure (v := .bool (true)) rfl ((Pu.eql rfl rfl).decT (freeE_err _)) ?_
        refine JL_nil ?_
        exact ⟨.bool (true), [], rfl, (Sub.emp Sub.refl), rfl⟩
       ·intro ρ r104 N104 B hB hBa hp hr hr0
        have q102 : ρ 102 = .bool (true) := (hr 19 _ _ (by decide) rfl rfl rfl).trans (hp 19 (by decide) rfl)
        have q105 : ρ 105 = .bool (true) := (hr 22 _ _ (by decide) rfl rfl rfl).trans (hp 22 (by decide) rfl)
        obtain ⟨ρ128, rfl⟩ := reopen_ex (uc q102 (uc q105 un))
        clear q102 q105
        refine JL_pure (v := .bool (true)) rfl (Pu.pickT rfl rfl) ?_
        refine JL_nil ?_
        exact ⟨.bool (true), [], rfl, (Sub.emp Sub.refl), rfl⟩
       ·intro ρ r104 N104 B hB hBa hp hr hr0
        have q106 : ρ 106 = .bool (true) := (hr 23 _ _ (by decide) rfl rfl rfl).trans (hp 23 (by decide) rfl)
        obtain ⟨ρ129, rfl⟩ := reopen_ex (uc q106 un)
        clear q106
        refine JL_pure (v := .bool (true)) rfl (Pu.move rfl) ?_
        refine JL_nil ?_
        exact ⟨.bool (true), [], rfl, (Sub.emp Sub.refl), rfl⟩
       ·intro ρ r104 N104 B hB hBa hp hr hr0
        have q23 : ρ 23 = u103 := hr0 23 (by kernel_rfl)
        have q107 : ρ 107 = .bool (true) := (hr 24 _ _ (by decide) rfl rfl rfl).trans (hp 24 (by decide) rfl)
        obtain ⟨ρ130, rfl⟩ := reopen_ex (uc q23 (uc q107 un))
        clear q23 q107
        refine JL_pure (v := u103) rfl (Pu.move rfl) ?_
        refine JL_nil ?_
        exact ⟨u103, [], rfl, (Sub.emp Sub.refl), rfl⟩
       ·intro ρ r104 N104 B hB hBa hp hr hr0
        have q18 : ρ 18 = .slice none 0 0 := hr0 18 (by kernel_rfl)
        have q107 : ρ 107 = .bool (true) := (hr 24 _ _ (by decide) rfl rfl rfl).trans (hp 24 (by decide) rfl)
        obtain ⟨ρ131, rfl⟩ := reopen_ex (uc q18 (uc q107 un))
        clear q18 q107
        refine JL_pure (v := .slice none 0 0) rfl (Pu.move rfl) ?_
        refine JL_nil ?_
        exact ⟨.slice none 0 0, [], rfl, (Sub.emp Sub.refl), rfl⟩
       ·intro ρ r104 N104 B hB hBa hp hr hr0
        have q107 : ρ 107 = .bool (true) := (hr 24 _ _ (by decide) rfl rfl rfl).trans (hp 24 (by decide) rfl)
        have q108 : ρ 108 = u103 := (hr 25 _ _ (by decide) rfl rfl rfl).trans (hp 25 (by decide) rfl)
        have q109 : ρ 109 = .slice none 0 0 := (hr 26 _ _ (by decide) rfl rfl rfl).trans (hp 26 (by decide) rfl)
        obtain ⟨ρ132, rfl⟩ := reopen_ex (uc q107 (uc q108 (uc q109 un)))
        clear q107 q108 q109
        refine JL_call rfl Tryz.call21 rfl (fun hin => bool_r (r := true) (equalI_ct _ _ _ _ _ (own_ints ho103 (by have := freeE_len t; omega) (hin 66 _ (made_old ((hB 0 (by decide)).trans rfl)))) Hs.rdS.nil) (eqL_true (freeE_not ‹¬ checkR 60 8 t = 0›))) rfl ?_
        rintro _ _ ⟨rfl, rfl⟩
        refine JL_nil ?_
        exact ⟨.bool (true), [], rfl, (Sub.emp Sub.refl), rfl⟩
       ·intro ρ r104 N104 B hB hBa hp hr hr0
        have q107 : ρ 107 = .bool (true) := (hr 24 _ _ (by decide) rfl rfl rfl).trans (hp 24 (by decide) rfl)
        have q110 : ρ 110 = .bool (true) := (hr 27 _ _ (by decide) rfl rfl rfl).trans (hp 27 (by decide) rfl)
        obtain ⟨ρ133, rfl⟩ := reopen_ex (uc q107 (uc q110 un))
        clear q107 q110
        refine JL_pure (v := .bool (true)) rfl (Pu.pickT rfl rfl) ?_
        refine JL_nil ?_
        exact ⟨.bool (true), [], rfl, (Sub.emp Sub.refl), rfl⟩
       ·intro ρ r104 N104 B hB hBa hp hr hr0
        have q111 : ρ 111 = .bool (true) := (hr 28 _ _ (by decide) rfl rfl rfl).trans (hp 28 (by decide) rfl)
        obtain ⟨ρ134, rfl⟩ := reopen_ex (uc q111 un)
        clear q111
        refine JL_pure (v := .bool (true)) rfl (Pu.move rfl) ?_
        refine JL_nil ?_
        exact ⟨.bool (true), [], rfl, (Sub.emp Sub.refl), rfl⟩
       ·intro ρ r104 N104 B hB hBa hp hr hr0
        have q26 : ρ 26 = .int .i64 ((bindsE p).2) := hr0 26 (by kernel_rfl)
        have q112 : ρ 112 = .bool (true) := (hr 29 _ _ (by decide) rfl rfl rfl).trans (hp 29 (by decide) rfl)
        obtain ⟨ρ135, rfl⟩ := reopen_ex (uc q26 (uc q112 un))
        clear q26 q112
        refine JL_pure (v := .int .i64 ((bindsE p).2)) rfl (Pu.move rfl) ?_
        refine JL_nil ?_
        exact ⟨.int .i64 ((bindsE p).2), [], rfl, (Sub.emp Sub.refl), rfl⟩
       ·intro ρ r104 N104 B hB hBa hp hr hr0
        have q20 : ρ 20 = .int .i64 ((bindsE p).2) := hr0 20 (by kernel_rfl)
        have q112 : ρ 112 = .bool (true) := (hr 29 _ _ (by decide) rfl rfl rfl).trans (hp 29 (by decide) rfl)
        obtain ⟨ρ136, rfl⟩ := reopen_ex (uc q20 (uc q112 un))
        clear q20 q112
        refine JL_pure (v := .int .i64 ((bindsE p).2)) rfl (Pu.move rfl) ?_
        refine JL_nil ?_
        exact ⟨.int .i64 ((bindsE p).2), [], rfl, (Sub.emp Sub.refl), rfl⟩
       ·intro ρ r104 N104 B hB hBa hp hr hr0
        have q112 : ρ 112 = .bool (true) := (hr 29 _ _ (by decide) rfl rfl rfl).trans (hp 29 (by decide) rfl)
        have q113 : ρ 113 = .int .i64 ((bindsE p).2) := (hr 30 _ _ (by decide) rfl rfl rfl).trans (hp 30 (by decide) rfl)
        have q114 : ρ 114 = .int .i64 ((bindsE p).2) := (hr 31 _ _ (by decide) rfl rfl rfl).trans (hp 31 (by decide) rfl)
        obtain ⟨ρ137, rfl⟩ := reopen_ex (uc q112 (uc q113 (uc q114 un)))
        clear q112 q113 q114
        refine JL_pure (v := .bool (true)) rfl ((Pu.eql rfl rfl).decT (rfl)) ?_
        refine JL_nil ?_
        exact ⟨.bool (true), [], rfl, (Sub.emp Sub.refl), rfl⟩
       ·intro ρ r104 N104 B hB hBa hp hr hr0
        have q112 : ρ 112 = .bool (true) := (hr 29 _ _ (by decide) rfl rfl rfl).trans (hp 29 (by decide) rfl)
        have q115 : ρ 115 = .bool (true) := (hr 32 _ _ (by decide) rfl rfl rfl).trans (hp 32 (by decide) rfl)
        obtain ⟨ρ138, rfl⟩ := reopen_ex (uc q112 (uc q115 un))
        clear q112 q115
        refine JL_pure (v := .bool (true)) rfl (Pu.pickT rfl rfl) ?_
        refine JL_nil ?_
        exact ⟨.bool (true), [], rfl, (Sub.emp Sub.refl), rfl⟩
       ·intro ρ r104 N104 B hB hBa hp hr hr0
        have q116 : ρ 116 = .bool (true) := (hr 33 _ _ (by decide) rfl rfl rfl).trans (hp 33 (by decide) rfl)
        obtain ⟨ρ139, rfl⟩ := reopen_ex (uc q116 un)
        clear q116
        refine JL_pure (v := .bool (true)) rfl (Pu.move rfl) ?_
        refine JL_nil ?_
        exact ⟨.bool (true), [], rfl, (Sub.emp Sub.refl), rfl⟩
       ·intro ρ r104 N104 B hB hBa hp hr hr0
        have q25 : ρ 25 = .int .i64 ((bindsE p).1) := hr0 25 (by kernel_rfl)
        have q117 : ρ 117 = .bool (true) := (hr 34 _ _ (by decide) rfl rfl rfl).trans (hp 34 (by decide) rfl)
        obtain ⟨ρ140, rfl⟩ := reopen_ex (uc q25 (uc q117 un))
        clear q25 q117
        refine JL_pure (v := .int .i64 ((bindsE p).1)) rfl (Pu.move rfl) ?_
        refine JL_nil ?_
        exact ⟨.int .i64 ((bindsE p).1), [], rfl, (Sub.emp Sub.refl), rfl⟩
       ·intro ρ r104 N104 B hB hBa hp hr hr0
        have q19 : ρ 19 = .int .i64 ((bindsE p).1) := hr0 19 (by kernel_rfl)
        have q117 : ρ 117 = .bool (true) := (hr 34 _ _ (by decide) rfl rfl rfl).trans (hp 34 (by decide) rfl)
        obtain ⟨ρ141, rfl⟩ := reopen_ex (uc q19 (uc q117 un))
        clear q19 q117
        refine JL_pure (v := .int .i64 ((bindsE p).1)) rfl (Pu.move rfl) ?_
        refine JL_nil ?_
        exact ⟨.int .i64 ((bindsE p).1), [], rfl, (Sub.emp Sub.refl), rfl⟩
       ·intro ρ r104 N104 B hB hBa hp hr hr0
        have q117 : ρ 117 = .bool (true) := (hr 34 _ _ (by decide) rfl rfl rfl).trans (hp 34 (by decide) rfl)
        have q118 : ρ 118 = .int .i64 ((bindsE p).1) := (hr 35 _ _ (by decide) rfl rfl rfl).trans (hp 35 (by decide) rfl)
        have q119 : ρ 119 = .int .i64 ((bindsE p).1) := (hr 36 _ _ (by decide) rfl rfl rfl).trans (hp 36 (by decide) rfl)
        obtain ⟨ρ142, rfl⟩ := reopen_ex (uc q117 (uc q118 (uc q119 un)))
        clear q117 q118 q119
        refine JL_pure (v := .bool (true)) rfl ((Pu.eql rfl rfl).decT (rfl)) ?_
        refine JL_nil ?_
        exact ⟨.bool (true), [], rfl, (Sub.emp Sub.refl), rfl⟩
       ·intro ρ r104 N104 B hB hBa hp hr hr0
        have q117 : ρ 117 = .bool (true) := (hr 34 _ _ (by decide) rfl rfl rfl).trans (hp 34 (by decide) rfl)
        have q120 : ρ 120 = .bool (true) := (hr 37 _ _ (by decide) rfl rfl rfl).trans (hp 37 (by decide) rfl)
        obtain ⟨ρ143, rfl⟩ := reopen_ex (uc q117 (uc q120 un))
        clear q117 q120
        refine JL_pure (v := .bool (true)) rfl (Pu.pickT rfl rfl) ?_
        refine JL_nil ?_
        exact ⟨.bool (true), [], rfl, (Sub.emp Sub.refl), rfl⟩
       ·intro ρ r104 N104 B hB hBa hp hr hr0
        have q121 : ρ 121 = .bool (true) := (hr 38 _ _ (by decide) rfl rfl rfl).trans (hp 38 (by decide) rfl)
        obtain ⟨ρ144, rfl⟩ := reopen_ex (uc q121 un)
        clear q121
        refine JL_pure (v := .bool (true)) rfl (Pu.move rfl) ?_
        refine JL_nil ?_
        exact ⟨.bool (true), [], rfl, (Sub.emp Sub.refl), rfl⟩
       ·intro ρ r104 N104 B hB hBa hp hr hr0
        have q12 : ρ 12 = .pointer (some ⟨(pblk (r18 6)), 0, none⟩) := hr0 12 (by kernel_rfl)
        have q122 : ρ 122 = .bool (true) := (hr 39 _ _ (by decide) rfl rfl rfl).trans (hp 39 (by decide) rfl)
        obtain ⟨ρ145, rfl⟩ := reopen_ex (uc q12 (uc q122 un))
        clear q12 q122
        refine JL_run rfl (Pu_load ty27 rfl (At.bx 70 (made_old ((hB 4 (by decide)).trans rfl))) (sub_a p18_1.2.len) ?_)
        refine JL_nil ?_
        exact ⟨.agg ⟨(cel (r18 1))⟩, [], rfl, (Sub.emp Sub.refl), rfl⟩
       ·intro ρ r104 N104 B hB hBa hp hr hr0
        have q13 : ρ 13 = .pointer (some ⟨(pblk (r18 7)), 0, none⟩) := hr0 13 (by kernel_rfl)
        have q122 : ρ 122 = .bool (true) := (hr 39 _ _ (by decide) rfl rfl rfl).trans (hp 39 (by decide) rfl)
        obtain ⟨ρ146, rfl⟩ := reopen_ex (uc q13 (uc q122 un))
        clear q13 q122
        refine JL_run rfl (Pu_load ty27 rfl (At.bx 71 (made_old ((hB 5 (by decide)).trans rfl))) (sub_a p18_3.2.len) ?_)
        refine JL_nil ?_
        exact ⟨.agg ⟨(cel (r18 3))⟩, [], rfl, (Sub.emp Sub.refl), rfl⟩
       ·intro ρ r104 N104 B hB hBa hp hr hr0
        have q122 : ρ 122 = .bool (true) := (hr 39 _ _ (by decide) rfl rfl rfl).trans (hp 39 (by decide) rfl)
        have q123 : ρ 123 = .agg ⟨(cel (r18 1))⟩ := (hr 40 _ _ (by decide) rfl rfl rfl).trans (hp 40 (by decide) rfl)
        have q124 : ρ 124 = .agg ⟨(cel (r18 3))⟩ := (hr 41 _ _ (by decide) rfl rfl rfl).trans (hp 41 (by decide) rfl)
        obtain ⟨ρ147, rfl⟩ := reopen_ex (uc q122 (uc q123 (uc q124 un)))
        clear q122 q123 q124
        refine JL_call rfl Tryz.call22 rfl (fun hin => sameP_ct _ _ _ _ _ (p18_1.2.rd (hin 67 _ (made_old ((hB 1 (by decide)).trans rfl)))) (p18_3.2.rd (hin 68 _ (made_old ((hB 2 (by decide)).trans rfl))))) rfl ?_
        rintro _ _ ⟨rfl, rfl⟩
        refine JL_nil ?_
        exact ⟨.bool (decide ((t) = (u))), [], rfl, (Sub.emp Sub.refl), rfl⟩
       ·intro ρ r104 N104 B hB hBa hp hr hr0
        have q5 : ρ 5 = .pointer (some ⟨b1, 0, none⟩) := hr0 5 (by kernel_rfl)
        have q122 : ρ 122 = .bool (true) := (hr 39 _ _ (by decide) rfl rfl rfl).trans (hp 39 (by decide) rfl)
        obtain ⟨ρ148, rfl⟩ := reopen_ex (uc q5 (uc q122 un))
        clear q5 q122
        refine JL_run rfl (Pu_load ty27 rfl (At.bx 80 (made_old ((hB 14 (by decide)).trans rfl))) (sub_a (RT_len ht)) ?_)
        refine JL_nil ?_
        exact ⟨.agg ⟨cs⟩, [], rfl, (Sub.emp Sub.refl), rfl⟩
       ·intro ρ r104 N104 B hB hBa hp hr hr0
        have q6 : ρ 6 = .pointer (some ⟨b2, 0, none⟩) := hr0 6 (by kernel_rfl)
        have q122 : ρ 122 = .bool (true) := (hr 39 _ _ (by decide) rfl rfl rfl).trans (hp 39 (by decide) rfl)
        obtain ⟨ρ149, rfl⟩ := reopen_ex (uc q6 (uc q122 un))
        clear q6 q122
        refine JL_run rfl (Pu_load ty27 rfl (At.bx 79 (made_old ((hB 13 (by decide)).trans rfl))) (sub_a (RT_len hu)) ?_)
        refine JL_nil ?_
        exact ⟨.agg ⟨us⟩, [], rfl, (Sub.emp Sub.refl), rfl⟩
       ·intro ρ r104 N104 B hB hBa hp hr hr0
        have q122 : ρ 122 = .bool (true) := (hr 39 _ _ (by decide) rfl rfl rfl).trans (hp 39 (by decide) rfl)
        have q126 : ρ 126 = .agg ⟨cs⟩ := (hr 43 _ _ (by decide) rfl rfl rfl).trans (hp 43 (by decide) rfl)
        have q127 : ρ 127 = .agg ⟨us⟩ := (hr 44 _ _ (by decide) rfl rfl rfl).trans (hp 44 (by decide) rfl)
        obtain ⟨ρ150, rfl⟩ := reopen_ex (uc q122 (uc q126 (uc q127 un)))
        clear q122 q126 q127
        refine JL_call rfl Tryz.call23 rfl (fun hin => sameR_ct _ _ _ _ _ (RT.mono (Hle.hu _ _) ht) (RT.mono (Hle.hu _ _) hu)) rfl ?_
        rintro _ _ ⟨rfl, rfl⟩
        refine JL_nil ?_
        exact ⟨.bool (decide ((t) = (u))), [], rfl, (Sub.emp Sub.refl), rfl⟩
       ·intro ρ r104 N104 B hB hBa hp hr hr0
        have q122 : ρ 122 = .bool (true) := (hr 39 _ _ (by decide) rfl rfl rfl).trans (hp 39 (by decide) rfl)
        have q125 : ρ 125 = .bool (decide ((t) = (u))) := (hr 42 _ _ (by decide) rfl rfl rfl).trans (hp 42 (by decide) rfl)
        have q128 : ρ 128 = .bool (decide ((t) = (u))) := (hr 45 _ _ (by decide) rfl rfl rfl).trans (hp 45 (by decide) rfl)
        obtain ⟨ρ151, rfl⟩ := reopen_ex (uc q122 (uc q125 (uc q128 un)))
        clear q122 q125 q128
        refine JL_pure (v := .bool (true)) rfl ((Pu.eqlB Tryz.runUnderlying4 rfl rfl).beqT rfl) ?_
        refine JL_nil ?_
        exact ⟨.bool (true), [], rfl, (Sub.emp Sub.refl), rfl⟩
       ·intro ρ r104 N104 B hB hBa hp hr hr0
        have q122 : ρ 122 = .bool (true) := (hr 39 _ _ (by decide) rfl rfl rfl).trans (hp 39 (by decide) rfl)
        have q129 : ρ 129 = .bool (true) := (hr 46 _ _ (by decide) rfl rfl rfl).trans (hp 46 (by decide) rfl)
        obtain ⟨ρ152, rfl⟩ := reopen_ex (uc q122 (uc q129 un))
        clear q122 q129
        refine JL_pure (v := .bool (true)) rfl (Pu.pickT rfl rfl) ?_
        refine JL_nil ?_
        exact ⟨.bool (true), [], rfl, (Sub.emp Sub.refl), rfl⟩
       ·intro ρ r104 N104 B hB hBa hp hr hr0
        have q130 : ρ 130 = .bool (true) := (hr 47 _ _ (by decide) rfl rfl rfl).trans (hp 47 (by decide) rfl)
        obtain ⟨ρ153, rfl⟩ := reopen_ex (uc q130 un)
        clear q130
        refine JL_pure (v := .bool (true)) rfl (Pu.move rfl) ?_
        refine JL_nil ?_
        exact ⟨.bool (true), [], rfl, (Sub.emp Sub.refl), rfl⟩
       ·intro ρ r104 N104 B hB hBa hp hr hr0
        have q12 : ρ 12 = .pointer (some ⟨(pblk (r18 6)), 0, none⟩) := hr0 12 (by kernel_rfl)
        have q131 : ρ 131 = .bool (true) := (hr 48 _ _ (by decide) rfl rfl rfl).trans (hp 48 (by decide) rfl)
        obtain ⟨ρ154, rfl⟩ := reopen_ex (uc q12 (uc q131 un))
        clear q12 q131
        refine JL_run rfl (Pu_load ty27 rfl (At.bx 70 (made_old ((hB 4 (by decide)).trans rfl))) (sub_a p18_1.2.len) ?_)
        refine JL_nil ?_
        exact ⟨.agg ⟨(cel (r18 1))⟩, [], rfl, (Sub.emp Sub.refl), rfl⟩
       ·intro ρ r104 N104 B hB hBa hp hr hr0
        have q12 : ρ 12 = .pointer (some ⟨(pblk (r18 6)), 0, none⟩) := hr0 12 (by kernel_rfl)
        have q131 : ρ 131 = .bool (true) := (hr 48 _ _ (by decide) rfl rfl rfl).trans (hp 48 (by decide) rfl)
        obtain ⟨ρ155, rfl⟩ := reopen_ex (uc q12 (uc q131 un))
        clear q12 q131
        refine JL_run rfl (Pu_load ty27 rfl (At.bx 70 (made_old ((hB 4 (by decide)).trans rfl))) (sub_a p18_1.2.len) ?_)
        refine JL_nil ?_
        exact ⟨.agg ⟨(cel (r18 1))⟩, [], rfl, (Sub.emp Sub.refl), rfl⟩
       ·intro ρ r104 N104 B hB hBa hp hr hr0
        have q131 : ρ 131 = .bool (true) := (hr 48 _ _ (by decide) rfl rfl rfl).trans (hp 48 (by decide) rfl)
        have q132 : ρ 132 = .agg ⟨(cel (r18 1))⟩ := (hr 49 _ _ (by decide) rfl rfl rfl).trans (hp 49 (by decide) rfl)
        have q133 : ρ 133 = .agg ⟨(cel (r18 1))⟩ := (hr 50 _ _ (by decide) rfl rfl rfl).trans (hp 50 (by decide) rfl)
        obtain ⟨ρ156, rfl⟩ := reopen_ex (uc q131 (uc q132 (uc q133 un)))
        clear q131 q132 q133
        refine JL_call rfl Tryz.call22 rfl (fun hin => bool_r (r := true) (sameP_ct _ _ _ _ _ (p18_1.2.rd (hin 67 _ (made_old ((hB 1 (by decide)).trans rfl)))) (p18_1.2.rd (hin 67 _ (made_old ((hB 1 (by decide)).trans rfl))))) (decide_eq_true rfl)) rfl ?_
        rintro _ _ ⟨rfl, rfl⟩
        refine JL_nil ?_
        exact ⟨.bool (true), [], rfl, (Sub.emp Sub.refl), rfl⟩
       ·intro ρ r104 N104 B hB hBa hp hr hr0
        have q131 : ρ 131 = .bool (true) := (hr 48 _ _ (by decide) rfl rfl rfl).trans (hp 48 (by decide) rfl)
        have q134 : ρ 134 = .bool (true) := (hr 51 _ _ (by decide) rfl rfl rfl).trans (hp 51 (by decide) rfl)
        obtain ⟨ρ157, rfl⟩ := reopen_ex (uc q131 (uc q134 un))
        clear q131 q134
        refine JL_pure (v := .bool (true)) rfl (Pu.pickT rfl rfl) ?_
        refine JL_nil ?_
        exact ⟨.bool (true), [], rfl, (Sub.emp Sub.refl), rfl⟩
       ·intro ρ r104 N104 B hB hBa hp hr hr0
        have q135 : ρ 135 = .bool (true) := (hr 52 _ _ (by decide) rfl rfl rfl).trans (hp 52 (by decide) rfl)
        obtain ⟨ρ158, rfl⟩ := reopen_ex (uc q135 un)
        clear q135
        refine JL_pure (v := .bool (true)) rfl (Pu.move rfl) ?_
        refine JL_nil ?_
        exact ⟨.bool (true), [], rfl, (Sub.emp Sub.refl), rfl⟩
       ·intro ρ r104 N104 B hB hBa hp hr hr0
        have q12 : ρ 12 = .pointer (some ⟨(pblk (r18 6)), 0, none⟩) := hr0 12 (by kernel_rfl)
        have q136 : ρ 136 = .bool (true) := (hr 53 _ _ (by decide) rfl rfl rfl).trans (hp 53 (by decide) rfl)
        obtain ⟨ρ159, rfl⟩ := reopen_ex (uc q12 (uc q136 un))
        clear q12 q136
        refine JL_run rfl (Pu_load ty27 rfl (At.bx 70 (made_old ((hB 4 (by decide)).trans rfl))) (sub_a p18_1.2.len) ?_)
        refine JL_nil ?_
        exact ⟨.agg ⟨(cel (r18 1))⟩, [], rfl, (Sub.emp Sub.refl), rfl⟩
       ·intro ρ r104 N104 B hB hBa hp hr hr0
        have q5 : ρ 5 = .pointer (some ⟨b1, 0, none⟩) := hr0 5 (by kernel_rfl)
        have q136 : ρ 136 = .bool (true) := (hr 53 _ _ (by decide) rfl rfl rfl).trans (hp 53 (by decide) rfl)
        obtain ⟨ρ160, rfl⟩ := reopen_ex (uc q5 (uc q136 un))
        clear q5 q136
        refine JL_run rfl (Pu_load ty27 rfl (At.bx 80 (made_old ((hB 14 (by decide)).trans rfl))) (sub_a (RT_len ht)) ?_)
        refine JL_nil ?_
        exact ⟨.agg ⟨cs⟩, [], rfl, (Sub.emp Sub.refl), rfl⟩
       ·intro ρ r104 N104 B hB hBa hp hr hr0
        have q136 : ρ 136 = .bool (true) := (hr 53 _ _ (by decide) rfl rfl rfl).trans (hp 53 (by decide) rfl)
        have q137 : ρ 137 = .agg ⟨(cel (r18 1))⟩ := (hr 54 _ _ (by decide) rfl rfl rfl).trans (hp 54 (by decide) rfl)
        have q138 : ρ 138 = .agg ⟨cs⟩ := (hr 55 _ _ (by decide) rfl rfl rfl).trans (hp 55 (by decide) rfl)
        obtain ⟨ρ161, rfl⟩ := reopen_ex (uc q136 (uc q137 (uc q138 un)))
        clear q136 q137 q138
        refine JL_call rfl Tryz.call24 rfl (fun hin => bool_r (r := true) (sameTerm_ct _ _ _ _ _ (p18_1.2.rd (hin 67 _ (made_old ((hB 1 (by decide)).trans rfl)))) (RT.mono (Hle.hu _ _) ht)) (decide_eq_true rfl)) rfl ?_
        rintro _ _ ⟨rfl, rfl⟩
        refine JL_nil ?_
        exact ⟨.bool (true), [], rfl, (Sub.emp Sub.refl), rfl⟩
       ·intro ρ r104 N104 B hB hBa hp hr hr0
        have q136 : ρ 136 = .bool (true) := (hr 53 _ _ (by decide) rfl rfl rfl).trans (hp 53 (by decide) rfl)
        have q139 : ρ 139 = .bool (true) := (hr 56 _ _ (by decide) rfl rfl rfl).trans (hp 56 (by decide) rfl)
        obtain ⟨ρ162, rfl⟩ := reopen_ex (uc q136 (uc q139 un))
        clear q136 q139
        refine JL_pure (v := .bool (true)) rfl (Pu.pickT rfl rfl) ?_
        refine JL_nil ?_
        exact ⟨.bool (true), [], rfl, (Sub.emp Sub.refl), rfl⟩
       ·intro ρ r104 N104 B hB hBa hp hr hr0
        have q140 : ρ 140 = .bool (true) := (hr 57 _ _ (by decide) rfl rfl rfl).trans (hp 57 (by decide) rfl)
        obtain ⟨ρ163, rfl⟩ := reopen_ex (uc q140 un)
        clear q140
        refine JL_pure (v := .bool (true)) rfl (Pu.move rfl) ?_
        refine JL_nil ?_
        exact ⟨.bool (true), [], rfl, (Sub.emp Sub.refl), rfl⟩
       ·intro ρ r104 N104 B hB hBa hp hr hr0
        have q13 : ρ 13 = .pointer (some ⟨(pblk (r18 7)), 0, none⟩) := hr0 13 (by kernel_rfl)
        have q141 : ρ 141 = .bool (true) := (hr 58 _ _ (by decide) rfl rfl rfl).trans (hp 58 (by decide) rfl)
        obtain ⟨ρ164, rfl⟩ := reopen_ex (uc q13 (uc q141 un))
        clear q13 q141
        refine JL_run rfl (Pu_load ty27 rfl (At.bx 71 (made_old ((hB 5 (by decide)).trans rfl))) (sub_a p18_3.2.len) ?_)
        refine JL_nil ?_
        exact ⟨.agg ⟨(cel (r18 3))⟩, [], rfl, (Sub.emp Sub.refl), rfl⟩
       ·intro ρ r104 N104 B hB hBa hp hr hr0
        have q6 : ρ 6 = .pointer (some ⟨b2, 0, none⟩) := hr0 6 (by kernel_rfl)
        have q141 : ρ 141 = .bool (true) := (hr 58 _ _ (by decide) rfl rfl rfl).trans (hp 58 (by decide) rfl)
        obtain ⟨ρ165, rfl⟩ := reopen_ex (uc q6 (uc q141 un))
        clear q6 q141
        refine JL_run rfl (Pu_load ty27 rfl (At.bx 79 (made_old ((hB 13 (by decide)).trans rfl))) (sub_a (RT_len hu)) ?_)
        refine JL_nil ?_
        exact ⟨.agg ⟨us⟩, [], rfl, (Sub.emp Sub.refl), rfl⟩
       ·intro ρ r104 N104 B hB hBa hp hr hr0
        have q141 : ρ 141 = .bool (true) := (hr 58 _ _ (by decide) rfl rfl rfl).trans (hp 58 (by decide) rfl)
        have q142 : ρ 142 = .agg ⟨(cel (r18 3))⟩ := (hr 59 _ _ (by decide) rfl rfl rfl).trans (hp 59 (by decide) rfl)
        have q143 : ρ 143 = .agg ⟨us⟩ := (hr 60 _ _ (by decide) rfl rfl rfl).trans (hp 60 (by decide) rfl)
        obtain ⟨ρ166, rfl⟩ := reopen_ex (uc q141 (uc q142 (uc q143 un)))
        clear q141 q142 q143
        refine JL_call rfl Tryz.call24 rfl (fun hin => bool_r (r := true) (sameTerm_ct _ _ _ _ _ (p18_3.2.rd (hin 68 _ (made_old ((hB 2 (by decide)).trans rfl)))) (RT.mono (Hle.hu _ _) hu)) (decide_eq_true rfl)) rfl ?_
        rintro _ _ ⟨rfl, rfl⟩
        refine JL_nil ?_
        exact ⟨.bool (true), [], rfl, (Sub.emp Sub.refl), rfl⟩
       ·intro ρ r104 N104 B hB hBa hp hr hr0
        have q141 : ρ 141 = .bool (true) := (hr 58 _ _ (by decide) rfl rfl rfl).trans (hp 58 (by decide) rfl)
        have q144 : ρ 144 = .bool (true) := (hr 61 _ _ (by decide) rfl rfl rfl).trans (hp 61 (by decide) rfl)
        obtain ⟨ρ167, rfl⟩ := reopen_ex (uc q141 (uc q144 un))
        clear q141 q144
        refine JL_pure (v := .bool (true)) rfl (Pu.pickT rfl rfl) ?_
        refine JL_nil ?_
        exact ⟨.bool (true), [], rfl, (Sub.emp Sub.refl), rfl⟩
       ·intro ρ r104 N104 B hB hBa hp hr hr0
        have q145 : ρ 145 = .bool (true) := (hr 62 _ _ (by decide) rfl rfl rfl).trans (hp 62 (by decide) rfl)
        obtain ⟨ρ168, rfl⟩ := reopen_ex (uc q145 un)
        clear q145
        refine JL_pure (v := .bool (true)) rfl (Pu.move rfl) ?_
        refine JL_nil ?_
        exact ⟨.bool (true), [], rfl, (Sub.emp Sub.refl), rfl⟩
       ·intro ρ r104 N104 B hB hBa hp hr hr0
        have q14 : ρ 14 = .pointer (some ⟨(pblk (r18 8)), 0, none⟩) := hr0 14 (by kernel_rfl)
        have q146 : ρ 146 = .bool (true) := (hr 63 _ _ (by decide) rfl rfl rfl).trans (hp 63 (by decide) rfl)
        obtain ⟨ρ169, rfl⟩ := reopen_ex (uc q14 (uc q146 un))
        clear q14 q146
        refine JL_run rfl (Pu_load ty30 rfl (At.bx 72 (made_old ((hB 6 (by decide)).trans rfl))) (sub_a p18_5.2.len) ?_)
        refine JL_nil ?_
        exact ⟨.agg ⟨(cel (r18 5))⟩, [], rfl, (Sub.emp Sub.refl), rfl⟩
       ·intro ρ r104 N104 B hB hBa hp hr hr0
        have q7 : ρ 7 = .pointer (some ⟨b3, 0, none⟩) := hr0 7 (by kernel_rfl)
        have q146 : ρ 146 = .bool (true) := (hr 63 _ _ (by decide) rfl rfl rfl).trans (hp 63 (by decide) rfl)
        obtain ⟨ρ170, rfl⟩ := reopen_ex (uc q7 (uc q146 un))
        clear q7 q146
        refine JL_run rfl (Pu_load ty30 rfl (At.bx 78 (made_old ((hB 12 (by decide)).trans rfl))) (sub_a (RP_len hpt)) ?_)
        refine JL_nil ?_
        exact ⟨.agg ⟨ps⟩, [], rfl, (Sub.emp Sub.refl), rfl⟩
       ·intro ρ r104 N104 hp hr hr0
        have q10 : ρ 10 = .bool (false) := hr0 10 (by kernel_rfl)
        have q146 : ρ 146 = .bool (true) := (hr 63 _ _ (by decide) rfl rfl).trans (hp 63 (by decide))
        have q147 : ρ 147 = .agg ⟨(cel (r18 5))⟩ := (hr 64 _ _ (by decide) rfl rfl).trans (hp 64 (by decide))
        have q148 : ρ 148 = .agg ⟨ps⟩ := (hr 65 _ _ (by decide) rfl rfl).trans (hp 65 (by decide))
        obtain ⟨ρ171, rfl⟩ := reopen_ex (uc q10 (uc q146 (uc q147 (uc q148 un))))
        clear q10 q146 q147 q148
        clear hp hr hr0 
        refine JL_sub (M' := [k103, (N18 1), (N18 3), (N18 5), [((pblk (r18 6)), .cells ⟨(cel (r18 1))⟩ 27 (0, 0))], [((pblk (r18 7)), .cells ⟨(cel (r18 3))⟩ 27 (0, 0))], [((pblk (r18 8)), .cells ⟨(cel (r18 5))⟩ 30 (0, 0))], (N4 0), (N4 2), (N4 4), (N4 5), [((pblk (r4 6)), .cells ⟨(cel (r4 5))⟩ 27 (0, 0))], [(b3, .cells ⟨ps⟩ 30 (0, 0))], [(b2, .cells ⟨us⟩ 27 (0, 0))], [(b1, .cells ⟨cs⟩ 27 (0, 0))]]) (made_sub Sub.refl) ?_
        show JL _ _ _ [_, _, _, _, _, _] _ _ _
        refine JL_call rfl Tryz.call25 rfl (fun hin => bool_r (r := true) (samePattern_ct _ _ _ _ _ (p18_5.2.rd (hin 3 _ rfl)) (RP.mono (Hle.hu _ _) hpt)) (decide_eq_true rfl)) rfl ?_
        rintro _ _ ⟨rfl, rfl⟩
        refine JL_pure (v := .bool (true)) rfl (Pu.pickT rfl rfl) ?_
        refine JL_pure (v := .bool (true)) rfl (Pu.move rfl) ?_
        refine JL_call rfl Tryz.call9 rfl (fun hin => awake_ct _) rfl ?_
        rintro _ _ ⟨rfl, rfl⟩
        refine JL_pure (v := .bool (true)) rfl (Pu.pickT rfl rfl) ?_
        refine JL_pure (v := .bool (true)) rfl (Pu.assign rfl) ?_
        refine JL_nil ?_
        refine J_ret ?_
        refine ⟨.bool (true), [], Ret.one rfl (RV.tmp rfl), Sub.nil, ?_⟩
        exact ⟨rfl, rfl⟩
end Go.Proofs.YtdeinimmmjichaaGreat.Hs
