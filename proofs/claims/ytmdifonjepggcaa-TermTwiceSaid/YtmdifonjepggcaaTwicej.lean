import Derived.Test.YtmdifonjepggcaaTwicei
/-! Walks, printed by a program of this session's own (gen.py). -/
namespace Go.Proofs.Ytmdifonjepggcaa.Hs
open Go Go.Proofs
set_option maxRecDepth 100000
set_option linter.unusedVariables false
set_option linter.unusedSimpArgs false
attribute [local irreducible] JL J CT wlo
theorem patternError_ct (kind num : Int) (ref : Sm) (ks : Value) (kids : List Pt) (H : Heap) (hks : rdS RP 35 H ks kids) : CT Try.prog 91 ⟨[.agg ⟨pkP (kind) (num) (ref) (ks)⟩]⟩ [] H (fun v N => v = .int .i64 (pErr kind num ref kids.length) ∧ N = []) := by
 refine CT_enter Try.func91 rfl rfl ?_
 refine J_seq ?_
 refine J_region ?_
 refine JL_run rfl (Runs_box (l := pkP (kind) (num) (ref) (ks)) rfl rfl fun b1 => ?_)
 refine JL_pure (v := .int .i64 (0)) rfl (Pu.assign rfl) ?_
 refine JL_nil ?_
 refine J_seq ?_
 refine J_region ?_
 refine JL_pure (v := .int .i64 (0)) rfl (Pu.assign rfl) ?_
 refine JL_nil ?_
 refine J_seq ?_
 refine J_seq ?_
 refine J_region ?_
 refine JL_pure (v := .pointer (some ⟨b1, 0, none⟩)) rfl (fa66_0 rfl rfl) ?_
 refine JL_run rfl (Pu_load1 ty3 rfl (At.bx 0 rfl) (pkP_0 ..) ?_)
 refine JL_pure (v := .bool (decide (kind = 3))) rfl (Pu.eql rfl rfl) ?_
 refine JL_nil ?_
 refine J_cond (b := decide (kind = 3)) rfl (fun h2 => ?_) (fun h2 => ?_)
 ·skip
  replace h2 := dt h2
  refine J_region ?_
  refine JL_pure (v := .int .i64 (4)) rfl (Pu.assign rfl) ?_
  refine JL_nil ?_
  refine J_seq ?_
  refine J_block ?_
  refine J_seq ?_
  refine J_region ?_
  refine JL_pure (v := .pointer (some ⟨b1, 0, none⟩)) rfl (fa66_0 rfl rfl) ?_
  refine JL_run rfl (Pu_load1 ty3 rfl (At.bx 0 rfl) (pkP_0 ..) ?_)
  refine JL_call rfl Try.call17 rfl (fun hin => off_ct _ _ _ _) rfl ?_
  rintro _ _ ⟨rfl, rfl⟩
  refine JL_pure (v := .bool (decide (kind < 1 ∨ 3 < kind))) rfl (Pu.assign rfl) ?_
  refine JL_nil ?_
  refine J_cond (b := decide (kind < 1 ∨ 3 < kind)) rfl (fun h3 => ?_) (fun h3 => ?_)
  ·skip
   replace h3 := dt h3
   refine J_seq ?_
   refine J_region ?_
   refine JL_pure (v := .int .i64 (3)) rfl (Pu.assign rfl) ?_
   refine JL_nil ?_
   refine J_ret ?_
   refine ⟨.int .i64 (3), [], Ret.one rfl (RV.tmp rfl), Sub.nil, ?_⟩
   exact ⟨by refine congrArg (Value.int .i64) ?_; simp only [pErr]; (repeat' split) <;> first | rfl | omega | (exfalso; simp_all; done) | (exfalso; simp_all; omega) | grind, rfl⟩
  ·skip
   replace h3 := df h3
   refine J_seq ?_
   refine J_draw mixed #[0, 1, 3, 0, 8, 0, 32, 127, 255] 7 7 1 rfl (by kernel_rfl) (fun i r4 N4 => match i with | 0 => (r4 0) = .pointer (some ⟨b1, 0, none⟩) | 1 => (r4 1) = .int .i64 (kind) | 2 => (r4 2) = .agg ⟨[.bool (pfN (kind)), .bool (pfR (kind)), .bool (false)]⟩ | 3 => (r4 3) = .pointer (some ⟨b1, 1, none⟩) | 4 => (r4 4) = .int .i64 (num) | 5 => (r4 5) = .pointer (some ⟨b1, 2, none⟩) | 6 => (r4 6) = .agg ⟨sC (ref)⟩ | _ => True) ⟨?_, ?_, ?_, ?_, ?_, ?_, ?_, trivial⟩ ?_
   ·intro ρ r4 N4 B hB hBa hp hr hr0
    have q1 : ρ 1 = .pointer (some ⟨b1, 0, none⟩) := hr0 1 (by kernel_rfl)
    obtain ⟨ρ5, rfl⟩ := reopen_ex (uc q1 un)
    clear q1
    refine JL_pure (v := .pointer (some ⟨b1, 0, none⟩)) rfl (fa66_0 rfl rfl) ?_
    refine JL_nil ?_
    exact ⟨.pointer (some ⟨b1, 0, none⟩), [], rfl, (Sub.emp Sub.refl), rfl⟩
   ·intro ρ r4 N4 B hB hBa hp hr hr0
    have q12 : ρ 12 = .pointer (some ⟨b1, 0, none⟩) := (hr 0 _ _ (by decide) rfl rfl rfl).trans (hp 0 (by decide) rfl)
    obtain ⟨ρ6, rfl⟩ := reopen_ex (uc q12 un)
    clear q12
    refine JL_run rfl (Pu_load1 ty3 rfl (At.bx 7 (made_old ((hB 0 (by decide)).trans rfl))) (pkP_0 ..) ?_)
    refine JL_nil ?_
    exact ⟨.int .i64 (kind), [], rfl, (Sub.emp Sub.refl), rfl⟩
   ·intro ρ r4 N4 B hB hBa hp hr hr0
    have q13 : ρ 13 = .int .i64 (kind) := (hr 1 _ _ (by decide) rfl rfl rfl).trans (hp 1 (by decide) rfl)
    obtain ⟨ρ7, rfl⟩ := reopen_ex (uc q13 un)
    clear q13
    refine JL_call rfl Try.call98 rfl (fun hin => patternFields_ct _ _) rfl ?_
    rintro _ _ ⟨rfl, rfl⟩
    refine JL_nil ?_
    exact ⟨.agg ⟨[.bool (pfN (kind)), .bool (pfR (kind)), .bool (false)]⟩, [], rfl, (Sub.emp Sub.refl), rfl⟩
   ·intro ρ r4 N4 B hB hBa hp hr hr0
    have q1 : ρ 1 = .pointer (some ⟨b1, 0, none⟩) := hr0 1 (by kernel_rfl)
    obtain ⟨ρ8, rfl⟩ := reopen_ex (uc q1 un)
    clear q1
    refine JL_pure (v := .pointer (some ⟨b1, 1, none⟩)) rfl (fa66_1 rfl rfl) ?_
    refine JL_nil ?_
    exact ⟨.pointer (some ⟨b1, 1, none⟩), [], rfl, (Sub.emp Sub.refl), rfl⟩
   ·intro ρ r4 N4 B hB hBa hp hr hr0
    have q15 : ρ 15 = .pointer (some ⟨b1, 1, none⟩) := (hr 3 _ _ (by decide) rfl rfl rfl).trans (hp 3 (by decide) rfl)
    obtain ⟨ρ9, rfl⟩ := reopen_ex (uc q15 un)
    clear q15
    refine JL_run rfl (Pu_load1 ty3 rfl (At.bx 7 (made_old ((hB 0 (by decide)).trans rfl))) (pkP_1 ..) ?_)
    refine JL_nil ?_
    exact ⟨.int .i64 (num), [], rfl, (Sub.emp Sub.refl), rfl⟩
   ·intro ρ r4 N4 B hB hBa hp hr hr0
    have q1 : ρ 1 = .pointer (some ⟨b1, 0, none⟩) := hr0 1 (by kernel_rfl)
    obtain ⟨ρ10, rfl⟩ := reopen_ex (uc q1 un)
    clear q1
    refine JL_pure (v := .pointer (some ⟨b1, 2, none⟩)) rfl (fa66_2 rfl rfl) ?_
    refine JL_nil ?_
    exact ⟨.pointer (some ⟨b1, 2, none⟩), [], rfl, (Sub.emp Sub.refl), rfl⟩
   ·intro ρ r4 N4 B hB hBa hp hr hr0
    have q17 : ρ 17 = .pointer (some ⟨b1, 2, none⟩) := (hr 5 _ _ (by decide) rfl rfl rfl).trans (hp 5 (by decide) rfl)
    obtain ⟨ρ11, rfl⟩ := reopen_ex (uc q17 un)
    clear q17
    refine JL_run rfl (Pu_load ty26 rfl (At.bx 7 (made_old ((hB 0 (by decide)).trans rfl))) (pkP_2 ..) ?_)
    refine JL_nil ?_
    exact ⟨.agg ⟨sC (ref)⟩, [], rfl, (Sub.emp Sub.refl), rfl⟩
   ·intro ρ r4 N4 hp hr hr0
    have q1 : ρ 1 = .pointer (some ⟨b1, 0, none⟩) := hr0 1 (by kernel_rfl)
    have q2 : ρ 2 = .int .i64 (0) := hr0 2 (by kernel_rfl)
    have q3 : ρ 3 = .int .i64 (4) := hr0 3 (by kernel_rfl)
    have q14 : ρ 14 = .agg ⟨[.bool (pfN (kind)), .bool (pfR (kind)), .bool (false)]⟩ := (hr 2 _ _ (by decide) rfl rfl).trans (hp 2 (by decide))
    have q16 : ρ 16 = .int .i64 (num) := (hr 4 _ _ (by decide) rfl rfl).trans (hp 4 (by decide))
    have q18 : ρ 18 = .agg ⟨sC (ref)⟩ := (hr 6 _ _ (by decide) rfl rfl).trans (hp 6 (by decide))
    obtain ⟨ρ12, rfl⟩ := reopen_ex (uc q1 (uc q2 (uc q3 (uc q14 (uc q16 (uc q18 un))))))
    clear q1 q2 q3 q14 q16 q18
    clear hp hr hr0 
    refine JL_sub (M' := [(N4 0), (N4 1), (N4 2), (N4 3), (N4 4), (N4 5), (N4 6), [(b1, .cells ⟨pkP (kind) (num) (ref) (ks)⟩ 66 (0, 0))]]) Sub.refl ?_
    refine JL_sub (M' := [[(b1, .cells ⟨pkP (kind) (num) (ref) (ks)⟩ 66 (0, 0))]]) (Sd (Sd (Sd (Sd (Sd (Sd (Sd (Sk Sub.nil)))))))) ?_
    show JL _ _ _ [_, _] _ _ _
    refine JL_call rfl Try.call88 rfl (fun hin => clash_ct _ _ _ _ _ _ _) rfl ?_
    rintro _ _ ⟨rfl, rfl⟩
    refine JL_pure (v := .bool (clashB (pfN (kind)) (pfR (kind)) (false) (num) (ref) (0))) rfl (Pu.assign rfl) ?_
    refine JL_nil ?_
    refine J_cond (b := clashB (pfN (kind)) (pfR (kind)) (false) (num) (ref) (0)) rfl (fun h13 => ?_) (fun h13 => ?_)
    ·skip
     refine J_seq ?_
     refine J_region ?_
     refine JL_pure (v := .int .i64 (7)) rfl (Pu.assign rfl) ?_
     refine JL_nil ?_
     refine J_ret ?_
     refine ⟨.int .i64 (7), [], Ret.one rfl (RV.tmp rfl), Sub.nil, ?_⟩
     exact ⟨by refine congrArg (Value.int .i64) ?_; simp only [pErr]; (repeat' split) <;> first | rfl | omega | (exfalso; simp_all; done) | (exfalso; simp_all; omega) | grind, rfl⟩
    ·skip
     refine J_seq ?_
     refine J_region ?_
     refine JL_pure (v := .pointer (some ⟨b1, 34, none⟩)) rfl (fa66_3 rfl rfl) ?_
     refine JL_run rfl (Pu_load1 ty64 rfl (At.bx 0 rfl) (pkP_34 ..) ?_)
     obtain ⟨a14, cap14, hv14⟩ := hks.sl
     have hle14 := hks.le
     refine JL_pure (v := .int .i64 (((kids).length : Int))) rfl (Pu.lenSl Try.runUnderlying64 hv14) ?_
     refine JL_pure (v := .int .i64 (4)) rfl (Pu.move rfl) ?_
     refine JL_pure (v := .bool (decide (4 < ((kids).length : Int)))) rfl (Pu.gtr rfl rfl) ?_
     refine JL_pure (v := .bool (decide (4 < ((kids).length : Int)))) rfl (Pu.assign rfl) ?_
     refine JL_nil ?_
     refine J_cond (b := decide (4 < ((kids).length : Int))) rfl (fun h15 => ?_) (fun h15 => ?_)
     ·skip
      replace h15 := dt h15
      refine J_seq ?_
      refine J_region ?_
      refine JL_pure (v := .int .i64 (2)) rfl (Pu.assign rfl) ?_
      refine JL_nil ?_
      refine J_ret ?_
      refine ⟨.int .i64 (2), [], Ret.one rfl (RV.tmp rfl), Sub.nil, ?_⟩
      exact ⟨by refine congrArg (Value.int .i64) ?_; simp only [pErr]; (repeat' split) <;> first | rfl | omega | (exfalso; simp_all; done) | (exfalso; simp_all; omega) | grind, rfl⟩
     ·skip
      replace h15 := df h15
      refine J_seq ?_
      refine J_cut (fun ρ M => ρ 1 = .pointer (some ⟨b1, 0, none⟩) ∧ ρ 2 = .int .i64 (0) ∧ ρ 26 = .bool ((decide (kind = 2)) && (decide (num < 0 ∨ 1073741824 < num))) ∧ M = [[(b1, .cells ⟨pkP (kind) (num) (ref) (ks)⟩ 66 (0, 0))]]) ?_ ?_
      ·refine J_region ?_
       refine JL_pure (v := .pointer (some ⟨b1, 0, none⟩)) rfl (fa66_0 rfl rfl) ?_
       refine JL_run rfl (Pu_load1 ty3 rfl (At.bx 0 rfl) (pkP_0 ..) ?_)
       refine JL_pure (v := .bool (decide (kind = 2))) rfl (Pu.eql rfl rfl) ?_
       refine JL_pure (v := .bool (decide (kind = 2))) rfl (Pu.move rfl) ?_
       cases h16 : (decide (kind = 2)) with
       | true =>
        replace h16 := dt h16
        refine JL_pure (v := .pointer (some ⟨b1, 1, none⟩)) rfl (fa66_1 rfl rfl) ?_
        refine JL_run rfl (Pu_load1 ty3 rfl (At.bx 0 rfl) (pkP_1 ..) ?_)
        refine JL_call rfl Try.call17 rfl (fun hin => off_ct _ _ _ _) rfl ?_
        rintro _ _ ⟨rfl, rfl⟩
        refine JL_pure (v := .bool (decide (num < 0 ∨ 1073741824 < num))) rfl (Pu.pickT rfl rfl) ?_
        refine JL_pure (v := .bool (decide (num < 0 ∨ 1073741824 < num))) rfl (Pu.assign rfl) ?_
        refine JL_nil ?_
        first | exact ⟨rfl, rfl, rfl, rfl⟩ | (exfalso; omega)
       | false =>
        replace h16 := df h16
        refine JL_skip rfl ?_
        refine JL_skip rfl ?_
        refine JL_skip rfl ?_
        refine JL_pure (v := .bool (false)) rfl (Pu.pickF rfl rfl) ?_
        refine JL_pure (v := .bool (false)) rfl (Pu.assign rfl) ?_
        refine JL_nil ?_
        first | exact ⟨rfl, rfl, rfl, rfl⟩ | (exfalso; omega)
      ·rintro ρ17 _ ⟨e18, e19, e20, rfl⟩
       obtain ⟨ρ21, rfl⟩ := reopen_ex (uc e18 (uc e19 (uc e20 un)))
       clear e18 e19 e20
       refine J_cond (b := (decide (kind = 2)) && (decide (num < 0 ∨ 1073741824 < num))) rfl (fun h22 => ?_) (fun h22 => ?_)
       ·skip
        obtain ⟨h22a, h22b⟩ := andT h22
        replace h22a := dt h22a
        replace h22b := dt h22b
        refine J_skip ?_
        refine J_cond (b := (decide (kind = 2)) && (decide (num < 0 ∨ 1073741824 < num))) rfl (fun h23 => ?_) (fun h23 => ?_)
        ·skip
         obtain ⟨h23a, h23b⟩ := andT h23
         replace h23a := dt h23a
         replace h23b := dt h23b
         refine J_seq ?_
         refine J_region ?_
         refine JL_pure (v := .int .i64 (3)) rfl (Pu.assign rfl) ?_
         refine JL_nil ?_
         refine J_ret ?_
         refine ⟨.int .i64 (3), [], Ret.one rfl (RV.tmp rfl), Sub.nil, ?_⟩
         exact ⟨by refine congrArg (Value.int .i64) ?_; simp only [pErr]; (repeat' split) <;> first | rfl | omega | (exfalso; simp_all; done) | (exfalso; simp_all; omega) | grind, rfl⟩
        ·skip
         refine J_skip ?_
         refine J_seq ?_
         refine J_region ?_
         refine JL_pure (v := .int .i64 (0)) rfl (Pu.assign rfl) ?_
         refine JL_nil ?_
         refine J_ret ?_
         refine ⟨.int .i64 (0), [], Ret.one rfl (RV.tmp rfl), Sub.nil, ?_⟩
         exact ⟨by refine congrArg (Value.int .i64) ?_; simp only [pErr]; (repeat' split) <;> first | rfl | omega | (exfalso; simp_all; done) | (exfalso; simp_all; omega) | grind, rfl⟩
       ·skip
        refine J_weak (N := fun ρ M => ρ 2 = .int .i64 (0) ∧ ρ 26 = .bool ((decide (kind = 3)) && (decide (num < 0 ∨ 7 < num))) ∧ M = [[(b1, .cells ⟨pkP (kind) (num) (ref) (ks)⟩ 66 (0, 0))]]) ?_ ?_
        ·refine J_region ?_
         refine JL_pure (v := .pointer (some ⟨b1, 0, none⟩)) rfl (fa66_0 rfl rfl) ?_
         refine JL_run rfl (Pu_load1 ty3 rfl (At.bx 0 rfl) (pkP_0 ..) ?_)
         refine JL_pure (v := .bool (decide (kind = 3))) rfl (Pu.eql rfl rfl) ?_
         refine JL_pure (v := .bool (decide (kind = 3))) rfl (Pu.move rfl) ?_
         cases h24 : (decide (kind = 3)) with
         | true =>
          replace h24 := dt h24
          refine JL_pure (v := .pointer (some ⟨b1, 1, none⟩)) rfl (fa66_1 rfl rfl) ?_
          refine JL_run rfl (Pu_load1 ty3 rfl (At.bx 0 rfl) (pkP_1 ..) ?_)
          refine JL_call rfl Try.call17 rfl (fun hin => off_ct _ _ _ _) rfl ?_
          rintro _ _ ⟨rfl, rfl⟩
          refine JL_pure (v := .bool (decide (num < 0 ∨ 7 < num))) rfl (Pu.pickT rfl rfl) ?_
          refine JL_pure (v := .bool (decide (num < 0 ∨ 7 < num))) rfl (Pu.assign rfl) ?_
          refine JL_nil ?_
          first | exact ⟨rfl, rfl, rfl⟩ | (exfalso; omega)
         | false =>
          replace h24 := df h24
          refine JL_skip rfl ?_
          refine JL_skip rfl ?_
          refine JL_skip rfl ?_
          refine JL_pure (v := .bool (false)) rfl (Pu.pickF rfl rfl) ?_
          refine JL_pure (v := .bool (false)) rfl (Pu.assign rfl) ?_
          refine JL_nil ?_
          first | exact ⟨rfl, rfl, rfl⟩ | (exfalso; omega)
        ·rintro ρ25 _ ⟨e26, e27, rfl⟩
         obtain ⟨ρ28, rfl⟩ := reopen_ex (uc e26 (uc e27 un))
         clear e26 e27
         refine J_cond (b := (decide (kind = 3)) && (decide (num < 0 ∨ 7 < num))) rfl (fun h29 => ?_) (fun h29 => ?_)
         ·skip
          obtain ⟨h29a, h29b⟩ := andT h29
          replace h29a := dt h29a
          replace h29b := dt h29b
          refine J_seq ?_
          refine J_region ?_
          refine JL_pure (v := .int .i64 (3)) rfl (Pu.assign rfl) ?_
          refine JL_nil ?_
          refine J_ret ?_
          refine ⟨.int .i64 (3), [], Ret.one rfl (RV.tmp rfl), Sub.nil, ?_⟩
          exact ⟨by refine congrArg (Value.int .i64) ?_; simp only [pErr]; (repeat' split) <;> first | rfl | omega | (exfalso; simp_all; done) | (exfalso; simp_all; omega) | grind, rfl⟩
         ·skip
          refine J_skip ?_
          refine J_seq ?_
          refine J_region ?_
          refine JL_pure (v := .int .i64 (0)) rfl (Pu.assign rfl) ?_
          refine JL_nil ?_
          refine J_ret ?_
          refine ⟨.int .i64 (0), [], Ret.one rfl (RV.tmp rfl), Sub.nil, ?_⟩
          exact ⟨by refine congrArg (Value.int .i64) ?_; simp only [pErr]; (repeat' split) <;> first | rfl | omega | (exfalso; simp_all; done) | (exfalso; simp_all; omega) | grind, rfl⟩
 ·skip
  replace h2 := df h2
  refine J_skip ?_
  refine J_seq ?_
  refine J_block ?_
  refine J_seq ?_
  refine J_region ?_
  refine JL_pure (v := .pointer (some ⟨b1, 0, none⟩)) rfl (fa66_0 rfl rfl) ?_
  refine JL_run rfl (Pu_load1 ty3 rfl (At.bx 0 rfl) (pkP_0 ..) ?_)
  refine JL_call rfl Try.call17 rfl (fun hin => off_ct _ _ _ _) rfl ?_
  rintro _ _ ⟨rfl, rfl⟩
  refine JL_pure (v := .bool (decide (kind < 1 ∨ 3 < kind))) rfl (Pu.assign rfl) ?_
  refine JL_nil ?_
  refine J_cond (b := decide (kind < 1 ∨ 3 < kind)) rfl (fun h30 => ?_) (fun h30 => ?_)
  ·skip
   replace h30 := dt h30
   refine J_seq ?_
   refine J_region ?_
   refine JL_pure (v := .int .i64 (3)) rfl (Pu.assign rfl) ?_
   refine JL_nil ?_
   refine J_ret ?_
   refine ⟨.int .i64 (3), [], Ret.one rfl (RV.tmp rfl), Sub.nil, ?_⟩
   exact ⟨by refine congrArg (Value.int .i64) ?_; simp only [pErr]; (repeat' split) <;> first | rfl | omega | (exfalso; simp_all; done) | (exfalso; simp_all; omega) | grind, rfl⟩
  ·skip
   replace h30 := df h30
   refine J_seq ?_
   refine J_draw mixed #[0, 1, 3, 0, 8, 0, 32, 127, 255] 7 7 1 rfl (by kernel_rfl) (fun i r31 N31 => match i with | 0 => (r31 0) = .pointer (some ⟨b1, 0, none⟩) | 1 => (r31 1) = .int .i64 (kind) | 2 => (r31 2) = .agg ⟨[.bool (pfN (kind)), .bool (pfR (kind)), .bool (false)]⟩ | 3 => (r31 3) = .pointer (some ⟨b1, 1, none⟩) | 4 => (r31 4) = .int .i64 (num) | 5 => (r31 5) = .pointer (some ⟨b1, 2, none⟩) | 6 => (r31 6) = .agg ⟨sC (ref)⟩ | _ => True) ⟨?_, ?_, ?_, ?_, ?_, ?_, ?_, trivial⟩ ?_
   ·intro ρ r31 N31 B hB hBa hp hr hr0
    have q1 : ρ 1 = .pointer (some ⟨b1, 0, none⟩) := hr0 1 (by kernel_rfl)
    obtain ⟨ρ32, rfl⟩ := reopen_ex (uc q1 un)
    clear q1
    refine JL_pure (v := .pointer (some ⟨b1, 0, none⟩)) rfl (fa66_0 rfl rfl) ?_
    refine JL_nil ?_
    exact ⟨.pointer (some ⟨b1, 0, none⟩), [], rfl, (Sub.emp Sub.refl), rfl⟩
   ·intro ρ r31 N31 B hB hBa hp hr hr0
    have q12 : ρ 12 = .pointer (some ⟨b1, 0, none⟩) := (hr 0 _ _ (by decide) rfl rfl rfl).trans (hp 0 (by decide) rfl)
    obtain ⟨ρ33, rfl⟩ := reopen_ex (uc q12 un)
    clear q12
    refine JL_run rfl (Pu_load1 ty3 rfl (At.bx 7 (made_old ((hB 0 (by decide)).trans rfl))) (pkP_0 ..) ?_)
    refine JL_nil ?_
    exact ⟨.int .i64 (kind), [], rfl, (Sub.emp Sub.refl), rfl⟩
   ·intro ρ r31 N31 B hB hBa hp hr hr0
    have q13 : ρ 13 = .int .i64 (kind) := (hr 1 _ _ (by decide) rfl rfl rfl).trans (hp 1 (by decide) rfl)
    obtain ⟨ρ34, rfl⟩ := reopen_ex (uc q13 un)
    clear q13
    refine JL_call rfl Try.call98 rfl (fun hin => patternFields_ct _ _) rfl ?_
    rintro _ _ ⟨rfl, rfl⟩
    refine JL_nil ?_
    exact ⟨.agg ⟨[.bool (pfN (kind)), .bool (pfR (kind)), .bool (false)]⟩, [], rfl, (Sub.emp Sub.refl), rfl⟩
   ·intro ρ r31 N31 B hB hBa hp hr hr0
    have q1 : ρ 1 = .pointer (some ⟨b1, 0, none⟩) := hr0 1 (by kernel_rfl)
    obtain ⟨ρ35, rfl⟩ := reopen_ex (uc q1 un)
    clear q1
    refine JL_pure (v := .pointer (some ⟨b1, 1, none⟩)) rfl (fa66_1 rfl rfl) ?_
    refine JL_nil ?_
    exact ⟨.pointer (some ⟨b1, 1, none⟩), [], rfl, (Sub.emp Sub.refl), rfl⟩
   ·intro ρ r31 N31 B hB hBa hp hr hr0
    have q15 : ρ 15 = .pointer (some ⟨b1, 1, none⟩) := (hr 3 _ _ (by decide) rfl rfl rfl).trans (hp 3 (by decide) rfl)
    obtain ⟨ρ36, rfl⟩ := reopen_ex (uc q15 un)
    clear q15
    refine JL_run rfl (Pu_load1 ty3 rfl (At.bx 7 (made_old ((hB 0 (by decide)).trans rfl))) (pkP_1 ..) ?_)
    refine JL_nil ?_
    exact ⟨.int .i64 (num), [], rfl, (Sub.emp Sub.refl), rfl⟩
   ·intro ρ r31 N31 B hB hBa hp hr hr0
    have q1 : ρ 1 = .pointer (some ⟨b1, 0, none⟩) := hr0 1 (by kernel_rfl)
    obtain ⟨ρ37, rfl⟩ := reopen_ex (uc q1 un)
    clear q1
    refine JL_pure (v := .pointer (some ⟨b1, 2, none⟩)) rfl (fa66_2 rfl rfl) ?_
    refine JL_nil ?_
    exact ⟨.pointer (some ⟨b1, 2, none⟩), [], rfl, (Sub.emp Sub.refl), rfl⟩
   ·intro ρ r31 N31 B hB hBa hp hr hr0
    have q17 : ρ 17 = .pointer (some ⟨b1, 2, none⟩) := (hr 5 _ _ (by decide) rfl rfl rfl).trans (hp 5 (by decide) rfl)
    obtain ⟨ρ38, rfl⟩ := reopen_ex (uc q17 un)
    clear q17
    refine JL_run rfl (Pu_load ty26 rfl (At.bx 7 (made_old ((hB 0 (by decide)).trans rfl))) (pkP_2 ..) ?_)
    refine JL_nil ?_
    exact ⟨.agg ⟨sC (ref)⟩, [], rfl, (Sub.emp Sub.refl), rfl⟩
   ·intro ρ r31 N31 hp hr hr0
    have q1 : ρ 1 = .pointer (some ⟨b1, 0, none⟩) := hr0 1 (by kernel_rfl)
    have q2 : ρ 2 = .int .i64 (0) := hr0 2 (by kernel_rfl)
    have q3 : ρ 3 = .int .i64 (0) := hr0 3 (by kernel_rfl)
    have q14 : ρ 14 = .agg ⟨[.bool (pfN (kind)), .bool (pfR (kind)), .bool (false)]⟩ := (hr 2 _ _ (by decide) rfl rfl).trans (hp 2 (by decide))
    have q16 : ρ 16 = .int .i64 (num) := (hr 4 _ _ (by decide) rfl rfl).trans (hp 4 (by decide))
    have q18 : ρ 18 = .agg ⟨sC (ref)⟩ := (hr 6 _ _ (by decide) rfl rfl).trans (hp 6 (by decide))
    obtain ⟨ρ39, rfl⟩ := reopen_ex (uc q1 (uc q2 (uc q3 (uc q14 (uc q16 (uc q18 un))))))
    clear q1 q2 q3 q14 q16 q18
    clear hp hr hr0 
    refine JL_sub (M' := [(N31 0), (N31 1), (N31 2), (N31 3), (N31 4), (N31 5), (N31 6), [(b1, .cells ⟨pkP (kind) (num) (ref) (ks)⟩ 66 (0, 0))]]) Sub.refl ?_
    refine JL_sub (M' := [[(b1, .cells ⟨pkP (kind) (num) (ref) (ks)⟩ 66 (0, 0))]]) (Sd (Sd (Sd (Sd (Sd (Sd (Sd (Sk Sub.nil)))))))) ?_
    show JL _ _ _ [_, _] _ _ _
    refine JL_call rfl Try.call88 rfl (fun hin => clash_ct _ _ _ _ _ _ _) rfl ?_
    rintro _ _ ⟨rfl, rfl⟩
    refine JL_pure (v := .bool (clashB (pfN (kind)) (pfR (kind)) (false) (num) (ref) (0))) rfl (Pu.assign rfl) ?_
    refine JL_nil ?_
    refine J_cond (b := clashB (pfN (kind)) (pfR (kind)) (false) (num) (ref) (0)) rfl (fun h40 => ?_) (fun h40 => ?_)
    ·skip
     refine J_seq ?_
     refine J_region ?_
     refine JL_pure (v := .int .i64 (7)) rfl (Pu.assign rfl) ?_
     refine JL_nil ?_
     refine J_ret ?_
     refine ⟨.int .i64 (7), [], Ret.one rfl (RV.tmp rfl), Sub.nil, ?_⟩
     exact ⟨by refine congrArg (Value.int .i64) ?_; simp only [pErr]; (repeat' split) <;> first | rfl | omega | (exfalso; simp_all; done) | (exfalso; simp_all; omega) | grind, rfl⟩
    ·skip
     refine J_seq ?_
     refine J_region ?_
     refine JL_pure (v := .pointer (some ⟨b1, 34, none⟩)) rfl (fa66_3 rfl rfl) ?_
     refine JL_run rfl (Pu_load1 ty64 rfl (At.bx 0 rfl) (pkP_34 ..) ?_)
     obtain ⟨a41, cap41, hv41⟩ := hks.sl
     have hle41 := hks.le
     refine JL_pure (v := .int .i64 (((kids).length : Int))) rfl (Pu.lenSl Try.runUnderlying64 hv41) ?_
     refine JL_pure (v := .int .i64 (0)) rfl (Pu.move rfl) ?_
     refine JL_pure (v := .bool (decide (0 < ((kids).length : Int)))) rfl (Pu.gtr rfl rfl) ?_
     refine JL_pure (v := .bool (decide (0 < ((kids).length : Int)))) rfl (Pu.assign rfl) ?_
     refine JL_nil ?_
     refine J_cond (b := decide (0 < ((kids).length : Int))) rfl (fun h42 => ?_) (fun h42 => ?_)
     ·skip
      replace h42 := dt h42
      refine J_seq ?_
      refine J_region ?_
      refine JL_pure (v := .int .i64 (2)) rfl (Pu.assign rfl) ?_
      refine JL_nil ?_
      refine J_ret ?_
      refine ⟨.int .i64 (2), [], Ret.one rfl (RV.tmp rfl), Sub.nil, ?_⟩
      exact ⟨by refine congrArg (Value.int .i64) ?_; simp only [pErr]; (repeat' split) <;> first | rfl | omega | (exfalso; simp_all; done) | (exfalso; simp_all; omega) | grind, rfl⟩
     ·skip
      replace h42 := df h42
      refine J_seq ?_
      refine J_cut (fun ρ M => ρ 1 = .pointer (some ⟨b1, 0, none⟩) ∧ ρ 2 = .int .i64 (0) ∧ ρ 26 = .bool ((decide (kind = 2)) && (decide (num < 0 ∨ 1073741824 < num))) ∧ M = [[(b1, .cells ⟨pkP (kind) (num) (ref) (ks)⟩ 66 (0, 0))]]) ?_ ?_
      ·refine J_region ?_
       refine JL_pure (v := .pointer (some ⟨b1, 0, none⟩)) rfl (fa66_0 rfl rfl) ?_
       refine JL_run rfl (Pu_load1 ty3 rfl (At.bx 0 rfl) (pkP_0 ..) ?_)
       refine JL_pure (v := .bool (decide (kind = 2))) rfl (Pu.eql rfl rfl) ?_
       refine JL_pure (v := .bool (decide (kind = 2))) rfl (Pu.move rfl) ?_
       cases h43 : (decide (kind = 2)) with
       | true =>
        replace h43 := dt h43
        refine JL_pure (v := .pointer (some ⟨b1, 1, none⟩)) rfl (fa66_1 rfl rfl) ?_
        refine JL_run rfl (Pu_load1 ty3 rfl (At.bx 0 rfl) (pkP_1 ..) ?_)
        refine JL_call rfl Try.call17 rfl (fun hin => off_ct _ _ _ _) rfl ?_
        rintro _ _ ⟨rfl, rfl⟩
        refine JL_pure (v := .bool (decide (num < 0 ∨ 1073741824 < num))) rfl (Pu.pickT rfl rfl) ?_
        refine JL_pure (v := .bool (decide (num < 0 ∨ 1073741824 < num))) rfl (Pu.assign rfl) ?_
        refine JL_nil ?_
        first | exact ⟨rfl, rfl, rfl, rfl⟩ | (exfalso; omega)
       | false =>
        replace h43 := df h43
        refine JL_skip rfl ?_
        refine JL_skip rfl ?_
        refine JL_skip rfl ?_
        refine JL_pure (v := .bool (false)) rfl (Pu.pickF rfl rfl) ?_
        refine JL_pure (v := .bool (false)) rfl (Pu.assign rfl) ?_
        refine JL_nil ?_
        first | exact ⟨rfl, rfl, rfl, rfl⟩ | (exfalso; omega)
      ·rintro ρ44 _ ⟨e45, e46, e47, rfl⟩
       obtain ⟨ρ48, rfl⟩ := reopen_ex (uc e45 (uc e46 (uc e47 un)))
       clear e45 e46 e47
       refine J_cond (b := (decide (kind = 2)) && (decide (num < 0 ∨ 1073741824 < num))) rfl (fun h49 => ?_) (fun h49 => ?_)
       ·skip
        obtain ⟨h49a, h49b⟩ := andT h49
        replace h49a := dt h49a
        replace h49b := dt h49b
        refine J_skip ?_
        refine J_cond (b := (decide (kind = 2)) && (decide (num < 0 ∨ 1073741824 < num))) rfl (fun h50 => ?_) (fun h50 => ?_)
        ·skip
         obtain ⟨h50a, h50b⟩ := andT h50
         replace h50a := dt h50a
         replace h50b := dt h50b
         refine J_seq ?_
         refine J_region ?_
         refine JL_pure (v := .int .i64 (3)) rfl (Pu.assign rfl) ?_
         refine JL_nil ?_
         refine J_ret ?_
         refine ⟨.int .i64 (3), [], Ret.one rfl (RV.tmp rfl), Sub.nil, ?_⟩
         exact ⟨by refine congrArg (Value.int .i64) ?_; simp only [pErr]; (repeat' split) <;> first | rfl | omega | (exfalso; simp_all; done) | (exfalso; simp_all; omega) | grind, rfl⟩
        ·skip
         refine J_skip ?_
         refine J_seq ?_
         refine J_region ?_
         refine JL_pure (v := .int .i64 (0)) rfl (Pu.assign rfl) ?_
         refine JL_nil ?_
         refine J_ret ?_
         refine ⟨.int .i64 (0), [], Ret.one rfl (RV.tmp rfl), Sub.nil, ?_⟩
         exact ⟨by refine congrArg (Value.int .i64) ?_; simp only [pErr]; (repeat' split) <;> first | rfl | omega | (exfalso; simp_all; done) | (exfalso; simp_all; omega) | grind, rfl⟩
       ·skip
        refine J_weak (N := fun ρ M => ρ 2 = .int .i64 (0) ∧ ρ 26 = .bool ((decide (kind = 3)) && (decide (num < 0 ∨ 7 < num))) ∧ M = [[(b1, .cells ⟨pkP (kind) (num) (ref) (ks)⟩ 66 (0, 0))]]) ?_ ?_
        ·refine J_region ?_
         refine JL_pure (v := .pointer (some ⟨b1, 0, none⟩)) rfl (fa66_0 rfl rfl) ?_
         refine JL_run rfl (Pu_load1 ty3 rfl (At.bx 0 rfl) (pkP_0 ..) ?_)
         refine JL_pure (v := .bool (decide (kind = 3))) rfl (Pu.eql rfl rfl) ?_
         refine JL_pure (v := .bool (decide (kind = 3))) rfl (Pu.move rfl) ?_
         cases h51 : (decide (kind = 3)) with
         | true =>
          replace h51 := dt h51
          refine JL_pure (v := .pointer (some ⟨b1, 1, none⟩)) rfl (fa66_1 rfl rfl) ?_
          refine JL_run rfl (Pu_load1 ty3 rfl (At.bx 0 rfl) (pkP_1 ..) ?_)
          refine JL_call rfl Try.call17 rfl (fun hin => off_ct _ _ _ _) rfl ?_
          rintro _ _ ⟨rfl, rfl⟩
          refine JL_pure (v := .bool (decide (num < 0 ∨ 7 < num))) rfl (Pu.pickT rfl rfl) ?_
          refine JL_pure (v := .bool (decide (num < 0 ∨ 7 < num))) rfl (Pu.assign rfl) ?_
          refine JL_nil ?_
          first | exact ⟨rfl, rfl, rfl⟩ | (exfalso; omega)
         | false =>
          replace h51 := df h51
          refine JL_skip rfl ?_
          refine JL_skip rfl ?_
          refine JL_skip rfl ?_
          refine JL_pure (v := .bool (false)) rfl (Pu.pickF rfl rfl) ?_
          refine JL_pure (v := .bool (false)) rfl (Pu.assign rfl) ?_
          refine JL_nil ?_
          first | exact ⟨rfl, rfl, rfl⟩ | (exfalso; omega)
        ·rintro ρ52 _ ⟨e53, e54, rfl⟩
         obtain ⟨ρ55, rfl⟩ := reopen_ex (uc e53 (uc e54 un))
         clear e53 e54
         refine J_cond (b := (decide (kind = 3)) && (decide (num < 0 ∨ 7 < num))) rfl (fun h56 => ?_) (fun h56 => ?_)
         ·skip
          obtain ⟨h56a, h56b⟩ := andT h56
          replace h56a := dt h56a
          replace h56b := dt h56b
          refine J_seq ?_
          refine J_region ?_
          refine JL_pure (v := .int .i64 (3)) rfl (Pu.assign rfl) ?_
          refine JL_nil ?_
          refine J_ret ?_
          refine ⟨.int .i64 (3), [], Ret.one rfl (RV.tmp rfl), Sub.nil, ?_⟩
          exact ⟨by refine congrArg (Value.int .i64) ?_; simp only [pErr]; (repeat' split) <;> first | rfl | omega | (exfalso; simp_all; done) | (exfalso; simp_all; omega) | grind, rfl⟩
         ·skip
          refine J_skip ?_
          refine J_seq ?_
          refine J_region ?_
          refine JL_pure (v := .int .i64 (0)) rfl (Pu.assign rfl) ?_
          refine JL_nil ?_
          refine J_ret ?_
          refine ⟨.int .i64 (0), [], Ret.one rfl (RV.tmp rfl), Sub.nil, ?_⟩
          exact ⟨by refine congrArg (Value.int .i64) ?_; simp only [pErr]; (repeat' split) <;> first | rfl | omega | (exfalso; simp_all; done) | (exfalso; simp_all; omega) | grind, rfl⟩
theorem patternsError_ct : ∀ (p : Pt) (cs : List Value) (H : Heap), RP H cs p → CT Try.prog 75 ⟨[.agg ⟨cs⟩]⟩ [] H (fun v N => v = .int .i64 (pErrs p) ∧ N = []) := by
 intro p
 induction p using Pt.ind with
 | h kind num ref kids ih =>
 intro cs H hp
 obtain ⟨ks, rfl, hk, hn, hks⟩ := RP_mk.1 hp
 refine CT_enter Try.func75 rfl rfl ?_
 refine J_seq ?_
 refine J_region ?_
 refine JL_run rfl (Runs_box (l := pkP (kind) (num) (ref) (ks)) rfl rfl fun b1 => ?_)
 refine JL_pure (v := .int .i64 (0)) rfl (Pu.assign rfl) ?_
 refine JL_nil ?_
 refine J_seq ?_
 refine J_region ?_
 refine JL_run rfl (Pu_load ty66 rfl (At.bx 0 rfl) (pkP_a ..) ?_)
 refine JL_call rfl Try.call91 rfl (fun hin => patternError_ct _ _ _ _ _ _ (RPs.mono (Hle.hu _ _) hks)) rfl ?_
 rintro _ _ ⟨rfl, rfl⟩
 refine JL_pure (v := .int .i64 (pErr kind num ref (kids).length)) rfl (Pu.assign rfl) ?_
 refine JL_nil ?_
 refine J_seq ?_
 refine J_seq ?_
 refine J_region ?_
 refine JL_pure (v := .int .i64 (0)) rfl (Pu.assign rfl) ?_
 refine JL_nil ?_
 refine J_block ?_
 refine J_loop (fun k ρ M => ∃ (j : Nat) (e : Int), ρ 1 = .pointer (some ⟨b1, 0, none⟩) ∧ ρ 2 = .int .i64 (0) ∧ ρ 3 = .int .i64 (e) ∧ ρ 4 = .int .i64 ((j : Int)) ∧ Sub [[(b1, .cells ⟨pkP (kind) (num) (ref) (ks)⟩ 66 (0, 0))]] M ∧ j ≤ (kids).length ∧ (if e = 0 then pErrsL (kids.drop j) else e) = pErrs (.mk kind num ref kids) ∧ k = (kids).length - j) _ ⟨0, (pErr kind num ref (kids).length), rfl, rfl, rfl, rfl, (Sk Sub.nil), Nat.zero_le _, (by rw [pErrs]; rfl), rfl⟩ ?_
 rintro _ ρ2 _ ⟨j, e, e3, e4, e5, e6, hm7, hj, hinv, rfl⟩
 obtain ⟨ρ8, rfl⟩ := reopen_ex (uc e3 (uc e4 (uc e5 (uc e6 un))))
 clear e3 e4 e5 e6
 refine J_sub hm7 ?_
 have hlen := hks.le
 refine J_seq ?_
 refine J_cut (fun ρ M => ρ 1 = .pointer (some ⟨b1, 0, none⟩) ∧ ρ 2 = .int .i64 (0) ∧ ρ 3 = .int .i64 (e) ∧ ρ 4 = .int .i64 ((j : Int)) ∧ ρ 15 = .bool ((decide ((j : Int) < ((kids).length : Int))) && (decide (e = 0))) ∧ M = [[(b1, .cells ⟨pkP (kind) (num) (ref) (ks)⟩ 66 (0, 0))]]) ?_ ?_
 ·refine J_region ?_
  refine JL_pure (v := .int .i64 ((j : Int))) rfl (Pu.move rfl) ?_
  refine JL_pure (v := .pointer (some ⟨b1, 34, none⟩)) rfl (fa66_3 rfl rfl) ?_
  refine JL_run rfl (Pu_load1 ty64 rfl (At.bx 0 rfl) (pkP_34 ..) ?_)
  obtain ⟨a9, cap9, hv9⟩ := hks.sl
  have hle9 := hks.le
  refine JL_pure (v := .int .i64 (((kids).length : Int))) rfl (Pu.lenSl Try.runUnderlying64 hv9) ?_
  refine JL_pure (v := .bool (decide ((j : Int) < ((kids).length : Int)))) rfl (Pu.lss rfl rfl) ?_
  refine JL_pure (v := .bool (decide ((j : Int) < ((kids).length : Int)))) rfl (Pu.move rfl) ?_
  cases h10 : (decide ((j : Int) < ((kids).length : Int))) with
  | true =>
   replace h10 := dt h10
   have h10n : j < (kids).length := by omega
   refine JL_pure (v := .int .i64 (e)) rfl (Pu.move rfl) ?_
   refine JL_pure (v := .bool (decide (e = 0))) rfl (Pu.eql rfl rfl) ?_
   refine JL_pure (v := .bool (decide (e = 0))) rfl (Pu.pickT rfl rfl) ?_
   refine JL_nil ?_
   first | exact ⟨rfl, rfl, rfl, rfl, rfl, rfl⟩ | (exfalso; omega)
  | false =>
   replace h10 := df h10
   have h10n : (kids).length ≤ j := by omega
   refine JL_skip rfl ?_
   refine JL_skip rfl ?_
   refine JL_pure (v := .bool (false)) rfl (Pu.pickF rfl rfl) ?_
   refine JL_nil ?_
   first | exact ⟨rfl, rfl, rfl, rfl, rfl, rfl⟩ | (exfalso; omega)
 ·rintro ρ11 _ ⟨e12, e13, e14, e15, e16, rfl⟩
  obtain ⟨ρ17, rfl⟩ := reopen_ex (uc e12 (uc e13 (uc e14 (uc e15 (uc e16 un)))))
  clear e12 e13 e14 e15 e16
  refine J_cond (b := (decide ((j : Int) < ((kids).length : Int))) && (decide (e = 0))) rfl (fun h18 => ?_) (fun h18 => ?_)
  ·skip
   obtain ⟨h18a, h18b⟩ := andT h18
   replace h18a := dt h18a
   have h18an : j < (kids).length := by omega
   replace h18b := dt h18b
   refine J_skip ?_
   refine J_seq ?_
   refine J_block ?_
   refine J_region ?_
   refine JL_pure (v := .pointer (some ⟨b1, 34, none⟩)) rfl (fa66_3 rfl rfl) ?_
   refine JL_run rfl (Pu_load1 ty64 rfl (At.bx 0 rfl) (pkP_34 ..) ?_)
   refine JL_pure (v := .int .i64 ((j : Int))) rfl (Pu.move rfl) ?_
   obtain ⟨b19, o19, cap19, row19, T19, fr19, cs19, hv19, hb19, hs19, hE19⟩ := hks.get j (by first | assumption | omega | decide | simp)
   refine JL_pure (v := .pointer (some ⟨b19, o19 + j * 35, none⟩)) rfl (Pu.idx j Try.runUnderlying64 ty66 hv19 rfl rfl (by first | assumption | omega | decide | simp)) ?_
   refine JL_run rfl (Pu_load ty66 rfl (At.im hb19) hs19 ?_)
   refine JL_call rfl Try.call75 rfl (fun hin => ih _ (List.getElem_mem h18an) _ _ (RP.mono (Hle.hu _ _) hE19)) rfl ?_
   rintro _ _ ⟨rfl, rfl⟩
   refine JL_pure (v := .int .i64 (pErrs ((kids)[j]))) rfl (Pu.assign rfl) ?_
   refine JL_nil ?_
   refine J_region ?_
   refine JL_pure (v := .int .i64 ((j : Int))) rfl (Pu.move rfl) ?_
   refine JL_pure (v := .int .i64 (((j + 1 : Nat) : Int))) rfl (Pu.inc rfl rfl (by omega)) ?_
   refine JL_pure (v := .int .i64 (((j + 1 : Nat) : Int))) rfl (Pu.assign rfl) ?_
   refine JL_nil ?_
   refine ⟨_, ?_, (j + 1), (pErrs ((kids)[j])), rfl, rfl, rfl, rfl, (Sk Sub.nil), ?_, ?_, rfl⟩
   ·omega
   ·omega
   ·rw [if_pos (by assumption), dropc h18an, pErrsL] at hinv; exact hinv
  ·skip
   refine J_exit _ rfl ?_
   refine J_seq ?_
   refine J_region ?_
   refine JL_pure (v := .int .i64 (e)) rfl (Pu.move rfl) ?_
   refine JL_pure (v := .int .i64 (e)) rfl (Pu.assign rfl) ?_
   refine JL_nil ?_
   refine J_ret ?_
   refine ⟨.int .i64 (e), [], Ret.one rfl (RV.tmp rfl), Sub.nil, ?_⟩
   refine ⟨?_, rfl⟩
   rw [← hinv]; by_cases he : e = 0
   ·have hj2 : kids.length ≤ j := by
     apply Nat.le_of_not_lt; intro hlt; have : (j : Int) < (kids.length : Int) := by omega
     simp_all
    rw [if_pos he, dropn hj2, he]; rfl
   ·rw [if_neg he]
end Go.Proofs.Ytmdifonjepggcaa.Hs
/-! Walks, printed by a program of this session's own (gen.py). -/
namespace Go.Proofs.Ytmdifonjepggcaa.Hs
open Go Go.Proofs
set_option maxRecDepth 100000
set_option linter.unusedVariables false
set_option linter.unusedSimpArgs false
attribute [local irreducible] JL J CT wlo
theorem known_ct (n b d : Int) (H : Heap) (bD : Nat) (hD : H bD = some (.cells ⟨[.int .i64 d]⟩ 3 (0, 0))) (hb0 : 0 ≤ b) (hb1 : b ≤ 1000000) (hn1 : -9223372036854775808 ≤ n) (hn2 : n ≤ 9223372036854775807) : CT Try.prog 41 ⟨[.int .i64 (n), .int .i64 (b), .pointer (some ⟨bD, 0, none⟩)]⟩ [] H (fun v N => v = .bool (knownB d n b) ∧ N = []) := by
 refine CT_enter Try.func41 rfl rfl ?_
 refine J_seq ?_
 refine J_region ?_
 refine JL_pure (v := .bool (false)) rfl (Pu.assign rfl) ?_
 refine JL_nil ?_
 refine J_cut (fun ρ M => ρ 5 = .bool ((decide (0 ≤ n)) && ((decide (n < b)) || (decide (n - b < d)))) ∧ M = []) ?_ ?_
 ·refine J_region ?_
  refine JL_pure (v := .int .i64 (n)) rfl (Pu.move rfl) ?_
  refine JL_pure (v := .bool (decide (0 ≤ n))) rfl (Pu.geq rfl rfl) ?_
  refine JL_pure (v := .bool (decide (0 ≤ n))) rfl (Pu.move rfl) ?_
  cases h1 : (decide (0 ≤ n)) with
  | true =>
   replace h1 := dt h1
   refine JL_pure (v := .int .i64 (n)) rfl (Pu.move rfl) ?_
   refine JL_pure (v := .int .i64 (b)) rfl (Pu.move rfl) ?_
   refine JL_pure (v := .bool (decide (n < b))) rfl (Pu.lss rfl rfl) ?_
   refine JL_pure (v := .bool (decide (n < b))) rfl (Pu.move rfl) ?_
   cases h2 : (decide (n < b)) with
   | true =>
    replace h2 := dt h2
    refine JL_skip rfl ?_
    refine JL_skip rfl ?_
    refine JL_skip rfl ?_
    refine JL_skip rfl ?_
    refine JL_skip rfl ?_
    refine JL_pure (v := .bool (true)) rfl (Pu.pickT rfl rfl) ?_
    refine JL_pure (v := .bool (true)) rfl (Pu.pickT rfl rfl) ?_
    refine JL_pure (v := .bool (true)) rfl (Pu.assign rfl) ?_
    refine JL_nil ?_
    first | exact ⟨rfl, rfl⟩ | (exfalso; omega)
   | false =>
    replace h2 := df h2
    refine JL_pure (v := .int .i64 (n)) rfl (Pu.move rfl) ?_
    refine JL_pure (v := .int .i64 (b)) rfl (Pu.move rfl) ?_
    refine JL_pure (v := .int .i64 (n - b)) rfl (Pu.sub64 rfl rfl (by first | omega | (constructor <;> omega))) ?_
    refine JL_run rfl (Pu_load1 ty3 rfl (At.im hD) rfl ?_)
    refine JL_pure (v := .bool (decide (n - b < d))) rfl (Pu.lss rfl rfl) ?_
    refine JL_pure (v := .bool (decide (n - b < d))) rfl (Pu.pickF rfl rfl) ?_
    refine JL_pure (v := .bool (decide (n - b < d))) rfl (Pu.pickT rfl rfl) ?_
    refine JL_pure (v := .bool (decide (n - b < d))) rfl (Pu.assign rfl) ?_
    refine JL_nil ?_
    first | exact ⟨rfl, rfl⟩ | (exfalso; omega)
  | false =>
   replace h1 := df h1
   refine JL_skip rfl ?_
   refine JL_skip rfl ?_
   refine JL_skip rfl ?_
   refine JL_skip rfl ?_
   refine JL_skip rfl ?_
   refine JL_skip rfl ?_
   refine JL_skip rfl ?_
   refine JL_skip rfl ?_
   refine JL_skip rfl ?_
   refine JL_skip rfl ?_
   refine JL_pure (v := .bool (false)) rfl (Pu.pickF rfl rfl) ?_
   refine JL_pure (v := .bool (false)) rfl (Pu.assign rfl) ?_
   refine JL_nil ?_
   first | exact ⟨rfl, rfl⟩ | (exfalso; omega)
 ·rintro ρ3 _ ⟨e4, rfl⟩
  obtain ⟨ρ5, rfl⟩ := reopen_ex (uc e4 un)
  clear e4
  refine J_ret ?_
  refine ⟨.bool ((decide (0 ≤ n)) && ((decide (n < b)) || (decide (n - b < d)))), [], Ret.one rfl (RV.tmp rfl), Sub.nil, ?_⟩
  exact ⟨rfl, rfl⟩
set_option maxHeartbeats 2000000 in
theorem chkTerm_ct (kind num : Int) (ref : Sm) (ks cv : Value) (kids : List Tm) (cases : List (Pt × Tm)) (d m b : Int) (H : Heap) (bD : Nat) (hks : rdS RT 36 H ks kids) (hcv : rdS RC 71 H cv cases) (hD : H bD = some (.cells ⟨[.int .i64 d]⟩ 3 (0, 0))) (hb0 : 0 ≤ b) (hb1 : b ≤ 1000000) (hn1 : -9223372036854775808 ≤ num) (hn2 : num ≤ 9223372036854775807) : CT Try.prog 74 ⟨[.agg ⟨[.int .i64 (m), .func (.func 41) ⟨[]⟩ ⟨[.pointer (some ⟨bD, 0, none⟩)]⟩]⟩, .agg ⟨pkT (kind) (num) (ref) (ks) (cv)⟩, .int .i64 (b)]⟩ [] H (fun v N => v = .int .i64 (tHead d m b kind num ref kids.length cases.length) ∧ N = []) := by
 refine CT_enter Try.func74 rfl rfl ?_
 refine J_seq ?_
 refine J_region ?_
 refine JL_run rfl (Runs_box (l := [.int .i64 (m), .func (.func 41) ⟨[]⟩ ⟨[.pointer (some ⟨bD, 0, none⟩)]⟩]) rfl rfl fun b1 => ?_)
 refine JL_run rfl (Runs_box (l := pkT (kind) (num) (ref) (ks) (cv)) rfl rfl fun b2 => ?_)
 refine JL_pure (v := .int .i64 (0)) rfl (Pu.assign rfl) ?_
 refine JL_nil ?_
 refine J_seq ?_
 refine J_block ?_
 refine J_seq ?_
 refine J_region ?_
 refine JL_pure (v := .pointer (some ⟨b2, 0, none⟩)) rfl (fa30_0 rfl rfl) ?_
 refine JL_run rfl (Pu_load1 ty3 rfl (At.bx 0 rfl) (pkT_0 ..) ?_)
 refine JL_call rfl Try.call17 rfl (fun hin => off_ct _ _ _ _) rfl ?_
 rintro _ _ ⟨rfl, rfl⟩
 refine JL_pure (v := .bool (decide (kind < 1 ∨ 12 < kind))) rfl (Pu.assign rfl) ?_
 refine JL_nil ?_
 refine J_cond (b := decide (kind < 1 ∨ 12 < kind)) rfl (fun h3 => ?_) (fun h3 => ?_)
 ·skip
  replace h3 := dt h3
  refine J_seq ?_
  refine J_region ?_
  refine JL_pure (v := .int .i64 (3)) rfl (Pu.assign rfl) ?_
  refine JL_nil ?_
  refine J_ret ?_
  refine ⟨.int .i64 (3), [], Ret.one rfl (RV.tmp rfl), Sub.nil, ?_⟩
  exact ⟨by refine congrArg (Value.int .i64) ?_; simp only [tHead]; (repeat' split) <;> first | rfl | omega | (exfalso; simp_all; done) | (exfalso; simp_all; omega) | grind, rfl⟩
 ·skip
  replace h3 := df h3
  refine J_seq ?_
  obtain ⟨a5, cap5, hv5⟩ := hcv.sl
  have hle5 := hcv.le
  refine J_draw mixed #[0, 1, 3, 0, 8, 0, 32, 0, 128, 384, 1023, 2047] 10 10 2 rfl (by kernel_rfl) (fun i r4 N4 => match i with | 0 => (r4 0) = .pointer (some ⟨b2, 0, none⟩) | 1 => (r4 1) = .int .i64 (kind) | 2 => (r4 2) = .agg ⟨[.bool (fN (kind)), .bool (fR (kind)), .bool (fC (kind))]⟩ | 3 => (r4 3) = .pointer (some ⟨b2, 1, none⟩) | 4 => (r4 4) = .int .i64 (num) | 5 => (r4 5) = .pointer (some ⟨b2, 2, none⟩) | 6 => (r4 6) = .agg ⟨sC (ref)⟩ | 7 => (r4 7) = .pointer (some ⟨b2, 35, none⟩) | 8 => (r4 8) = cv | 9 => (r4 9) = .int .i64 (((cases).length : Int)) | _ => True) ⟨?_, ?_, ?_, ?_, ?_, ?_, ?_, ?_, ?_, ?_, trivial⟩ ?_
  ·intro ρ r4 N4 B hB hBa hp hr hr0
   have q4 : ρ 4 = .pointer (some ⟨b2, 0, none⟩) := hr0 4 (by kernel_rfl)
   obtain ⟨ρ6, rfl⟩ := reopen_ex (uc q4 un)
   clear q4
   refine JL_pure (v := .pointer (some ⟨b2, 0, none⟩)) rfl (fa30_0 rfl rfl) ?_
   refine JL_nil ?_
   exact ⟨.pointer (some ⟨b2, 0, none⟩), [], rfl, (Sub.emp Sub.refl), rfl⟩
  ·intro ρ r4 N4 B hB hBa hp hr hr0
   have q13 : ρ 13 = .pointer (some ⟨b2, 0, none⟩) := (hr 0 _ _ (by decide) rfl rfl rfl).trans (hp 0 (by decide) rfl)
   obtain ⟨ρ7, rfl⟩ := reopen_ex (uc q13 un)
   clear q13
   refine JL_run rfl (Pu_load1 ty3 rfl (At.bx 10 (made_old ((hB 0 (by decide)).trans rfl))) (pkT_0 ..) ?_)
   refine JL_nil ?_
   exact ⟨.int .i64 (kind), [], rfl, (Sub.emp Sub.refl), rfl⟩
  ·intro ρ r4 N4 B hB hBa hp hr hr0
   have q14 : ρ 14 = .int .i64 (kind) := (hr 1 _ _ (by decide) rfl rfl rfl).trans (hp 1 (by decide) rfl)
   obtain ⟨ρ8, rfl⟩ := reopen_ex (uc q14 un)
   clear q14
   refine JL_call rfl Try.call89 rfl (fun hin => fields_ct _ _) rfl ?_
   rintro _ _ ⟨rfl, rfl⟩
   refine JL_nil ?_
   exact ⟨.agg ⟨[.bool (fN (kind)), .bool (fR (kind)), .bool (fC (kind))]⟩, [], rfl, (Sub.emp Sub.refl), rfl⟩
  ·intro ρ r4 N4 B hB hBa hp hr hr0
   have q4 : ρ 4 = .pointer (some ⟨b2, 0, none⟩) := hr0 4 (by kernel_rfl)
   obtain ⟨ρ9, rfl⟩ := reopen_ex (uc q4 un)
   clear q4
   refine JL_pure (v := .pointer (some ⟨b2, 1, none⟩)) rfl (fa30_1 rfl rfl) ?_
   refine JL_nil ?_
   exact ⟨.pointer (some ⟨b2, 1, none⟩), [], rfl, (Sub.emp Sub.refl), rfl⟩
  ·intro ρ r4 N4 B hB hBa hp hr hr0
   have q16 : ρ 16 = .pointer (some ⟨b2, 1, none⟩) := (hr 3 _ _ (by decide) rfl rfl rfl).trans (hp 3 (by decide) rfl)
   obtain ⟨ρ10, rfl⟩ := reopen_ex (uc q16 un)
   clear q16
   refine JL_run rfl (Pu_load1 ty3 rfl (At.bx 10 (made_old ((hB 0 (by decide)).trans rfl))) (pkT_1 ..) ?_)
   refine JL_nil ?_
   exact ⟨.int .i64 (num), [], rfl, (Sub.emp Sub.refl), rfl⟩
  ·intro ρ r4 N4 B hB hBa hp hr hr0
   have q4 : ρ 4 = .pointer (some ⟨b2, 0, none⟩) := hr0 4 (by kernel_rfl)
   obtain ⟨ρ11, rfl⟩ := reopen_ex (uc q4 un)
   clear q4
   refine JL_pure (v := .pointer (some ⟨b2, 2, none⟩)) rfl (fa30_2 rfl rfl) ?_
   refine JL_nil ?_
   exact ⟨.pointer (some ⟨b2, 2, none⟩), [], rfl, (Sub.emp Sub.refl), rfl⟩
  ·intro ρ r4 N4 B hB hBa hp hr hr0
   have q18 : ρ 18 = .pointer (some ⟨b2, 2, none⟩) := (hr 5 _ _ (by decide) rfl rfl rfl).trans (hp 5 (by decide) rfl)
   obtain ⟨ρ12, rfl⟩ := reopen_ex (uc q18 un)
   clear q18
   refine JL_run rfl (Pu_load ty26 rfl (At.bx 10 (made_old ((hB 0 (by decide)).trans rfl))) (pkT_2 ..) ?_)
   refine JL_nil ?_
   exact ⟨.agg ⟨sC (ref)⟩, [], rfl, (Sub.emp Sub.refl), rfl⟩
  ·intro ρ r4 N4 B hB hBa hp hr hr0
   have q4 : ρ 4 = .pointer (some ⟨b2, 0, none⟩) := hr0 4 (by kernel_rfl)
   obtain ⟨ρ13, rfl⟩ := reopen_ex (uc q4 un)
   clear q4
   refine JL_pure (v := .pointer (some ⟨b2, 35, none⟩)) rfl (fa30_4 rfl rfl) ?_
   refine JL_nil ?_
   exact ⟨.pointer (some ⟨b2, 35, none⟩), [], rfl, (Sub.emp Sub.refl), rfl⟩
  ·intro ρ r4 N4 B hB hBa hp hr hr0
   have q20 : ρ 20 = .pointer (some ⟨b2, 35, none⟩) := (hr 7 _ _ (by decide) rfl rfl rfl).trans (hp 7 (by decide) rfl)
   obtain ⟨ρ14, rfl⟩ := reopen_ex (uc q20 un)
   clear q20
   refine JL_run rfl (Pu_load1 ty28 rfl (At.bx 10 (made_old ((hB 0 (by decide)).trans rfl))) (pkT_35 ..) ?_)
   refine JL_nil ?_
   exact ⟨cv, [], rfl, (Sub.emp Sub.refl), rfl⟩
  ·intro ρ r4 N4 B hB hBa hp hr hr0
   have q21 : ρ 21 = cv := (hr 8 _ _ (by decide) rfl rfl rfl).trans (hp 8 (by decide) rfl)
   obtain ⟨ρ15, rfl⟩ := reopen_ex (uc q21 un)
   clear q21
   refine JL_pure (v := .int .i64 (((cases).length : Int))) rfl (Pu.lenSl Try.runUnderlying28 hv5) ?_
   refine JL_nil ?_
   exact ⟨.int .i64 (((cases).length : Int)), [], rfl, (Sub.emp Sub.refl), rfl⟩
  ·intro ρ r4 N4 hp hr hr0
   have q2 : ρ 2 = .int .i64 (b) := hr0 2 (by kernel_rfl)
   have q3 : ρ 3 = .pointer (some ⟨b1, 0, none⟩) := hr0 3 (by kernel_rfl)
   have q4 : ρ 4 = .pointer (some ⟨b2, 0, none⟩) := hr0 4 (by kernel_rfl)
   have q6 : ρ 6 = .int .i64 (0) := hr0 6 (by kernel_rfl)
   have q15 : ρ 15 = .agg ⟨[.bool (fN (kind)), .bool (fR (kind)), .bool (fC (kind))]⟩ := (hr 2 _ _ (by decide) rfl rfl).trans (hp 2 (by decide))
   have q17 : ρ 17 = .int .i64 (num) := (hr 4 _ _ (by decide) rfl rfl).trans (hp 4 (by decide))
   have q19 : ρ 19 = .agg ⟨sC (ref)⟩ := (hr 6 _ _ (by decide) rfl rfl).trans (hp 6 (by decide))
   have q22 : ρ 22 = .int .i64 (((cases).length : Int)) := (hr 9 _ _ (by decide) rfl rfl).trans (hp 9 (by decide))
   obtain ⟨ρ16, rfl⟩ := reopen_ex (uc q2 (uc q3 (uc q4 (uc q6 (uc q15 (uc q17 (uc q19 (uc q22 un))))))))
   clear q2 q3 q4 q6 q15 q17 q19 q22
   clear hp hr hr0 
   refine JL_sub (M' := [(N4 0), (N4 1), (N4 2), (N4 3), (N4 4), (N4 5), (N4 6), (N4 7), (N4 8), (N4 9), [(b2, .cells ⟨pkT (kind) (num) (ref) (ks) (cv)⟩ 30 (0, 0))], [(b1, .cells ⟨[.int .i64 (m), .func (.func 41) ⟨[]⟩ ⟨[.pointer (some ⟨bD, 0, none⟩)]⟩]⟩ 94 (0, 0))]]) Sub.refl ?_
   refine JL_sub (M' := [[(b2, .cells ⟨pkT (kind) (num) (ref) (ks) (cv)⟩ 30 (0, 0))], [(b1, .cells ⟨[.int .i64 (m), .func (.func 41) ⟨[]⟩ ⟨[.pointer (some ⟨bD, 0, none⟩)]⟩]⟩ 94 (0, 0))]]) (Sd (Sd (Sd (Sd (Sd (Sd (Sd (Sd (Sd (Sd (Sk (Sk Sub.nil)))))))))))) ?_
   show JL _ _ _ [_, _] _ _ _
   refine JL_call rfl Try.call88 rfl (fun hin => clash_ct _ _ _ _ _ _ _) rfl ?_
   rintro _ _ ⟨rfl, rfl⟩
   refine JL_pure (v := .bool (clashB (fN (kind)) (fR (kind)) (fC (kind)) (num) (ref) (((cases).length : Int)))) rfl (Pu.assign rfl) ?_
   refine JL_nil ?_
   refine J_cond (b := clashB (fN (kind)) (fR (kind)) (fC (kind)) (num) (ref) (((cases).length : Int))) rfl (fun h17 => ?_) (fun h17 => ?_)
   ·skip
    refine J_seq ?_
    refine J_region ?_
    refine JL_pure (v := .int .i64 (7)) rfl (Pu.assign rfl) ?_
    refine JL_nil ?_
    refine J_ret ?_
    refine ⟨.int .i64 (7), [], Ret.one rfl (RV.tmp rfl), Sub.nil, ?_⟩
    exact ⟨by refine congrArg (Value.int .i64) ?_; simp only [tHead]; (repeat' split) <;> first | rfl | omega | (exfalso; simp_all; done) | (exfalso; simp_all; omega) | grind, rfl⟩
   ·skip
    refine J_cut (fun ρ M => ρ 2 = .int .i64 (b) ∧ ρ 3 = .pointer (some ⟨b1, 0, none⟩) ∧ ρ 4 = .pointer (some ⟨b2, 0, none⟩) ∧ ρ 6 = .int .i64 (0) ∧ ρ 24 = .bool ((!(kidsB (kind) (((kids).length : Int)))) || (decide (8 < ((cases).length : Int)))) ∧ M = [[(b2, .cells ⟨pkT (kind) (num) (ref) (ks) (cv)⟩ 30 (0, 0))], [(b1, .cells ⟨[.int .i64 (m), .func (.func 41) ⟨[]⟩ ⟨[.pointer (some ⟨bD, 0, none⟩)]⟩]⟩ 94 (0, 0))]]) ?_ ?_
    ·refine J_region ?_
     refine JL_pure (v := .pointer (some ⟨b2, 0, none⟩)) rfl (fa30_0 rfl rfl) ?_
     refine JL_run rfl (Pu_load1 ty3 rfl (At.bx 0 rfl) (pkT_0 ..) ?_)
     refine JL_pure (v := .pointer (some ⟨b2, 34, none⟩)) rfl (fa30_3 rfl rfl) ?_
     refine JL_run rfl (Pu_load1 ty27 rfl (At.bx 0 rfl) (pkT_34 ..) ?_)
     obtain ⟨a18, cap18, hv18⟩ := hks.sl
     have hle18 := hks.le
     refine JL_pure (v := .int .i64 (((kids).length : Int))) rfl (Pu.lenSl Try.runUnderlying27 hv18) ?_
     refine JL_call rfl Try.call90 rfl (fun hin => kidsT_ct _ _ _) rfl ?_
     rintro _ _ ⟨rfl, rfl⟩
     refine JL_pure (v := .bool (!(kidsB (kind) (((kids).length : Int))))) rfl (Pu.not rfl) ?_
     refine JL_pure (v := .bool (!(kidsB (kind) (((kids).length : Int))))) rfl (Pu.move rfl) ?_
     cases h19 : (!(kidsB (kind) (((kids).length : Int)))) with
     | true =>
      replace h19 := nt h19
      refine JL_skip rfl ?_
      refine JL_skip rfl ?_
      refine JL_skip rfl ?_
      refine JL_skip rfl ?_
      refine JL_pure (v := .bool (true)) rfl (Pu.pickT rfl rfl) ?_
      refine JL_pure (v := .bool (true)) rfl (Pu.assign rfl) ?_
      refine JL_nil ?_
      first | exact ⟨rfl, rfl, rfl, rfl, rfl, rfl⟩ | (exfalso; omega)
     | false =>
      replace h19 := nf h19
      refine JL_pure (v := .pointer (some ⟨b2, 35, none⟩)) rfl (fa30_4 rfl rfl) ?_
      refine JL_run rfl (Pu_load1 ty28 rfl (At.bx 0 rfl) (pkT_35 ..) ?_)
      obtain ⟨a20, cap20, hv20⟩ := hcv.sl
      have hle20 := hcv.le
      refine JL_pure (v := .int .i64 (((cases).length : Int))) rfl (Pu.lenSl Try.runUnderlying28 hv20) ?_
      refine JL_pure (v := .bool (decide (8 < ((cases).length : Int)))) rfl (Pu.gtr rfl rfl) ?_
      refine JL_pure (v := .bool (decide (8 < ((cases).length : Int)))) rfl (Pu.pickF rfl rfl) ?_
      refine JL_pure (v := .bool (decide (8 < ((cases).length : Int)))) rfl (Pu.assign rfl) ?_
      refine JL_nil ?_
      first | exact ⟨rfl, rfl, rfl, rfl, rfl, rfl⟩ | (exfalso; omega)
    ·rintro ρ21 _ ⟨e22, e23, e24, e25, e26, rfl⟩
     obtain ⟨ρ27, rfl⟩ := reopen_ex (uc e22 (uc e23 (uc e24 (uc e25 (uc e26 un)))))
     clear e22 e23 e24 e25 e26
     refine J_cond (b := (!(kidsB (kind) (((kids).length : Int)))) || (decide (8 < ((cases).length : Int)))) rfl (fun h28 => ?_) (fun h28 => ?_)
     ·skip
      refine J_seq ?_
      refine J_region ?_
      refine JL_pure (v := .int .i64 (2)) rfl (Pu.assign rfl) ?_
      refine JL_nil ?_
      refine J_ret ?_
      refine ⟨.int .i64 (2), [], Ret.one rfl (RV.tmp rfl), Sub.nil, ?_⟩
      exact ⟨by refine congrArg (Value.int .i64) ?_; simp only [tHead]; (repeat' split) <;> first | rfl | omega | (exfalso; simp_all; done) | (exfalso; simp_all; omega) | grind, rfl⟩
     ·skip
      obtain ⟨h28a, h28b⟩ := orF h28
      replace h28a := nf h28a
      replace h28b := df h28b
      refine J_skip ?_
      refine J_seq ?_
      refine J_region ?_
      refine JL_pure (v := .int .i64 (1073741824)) rfl (Pu.assign rfl) ?_
      refine JL_nil ?_
      refine J_seq ?_
      refine J_seq ?_
      refine J_region ?_
      refine JL_pure (v := .pointer (some ⟨b2, 0, none⟩)) rfl (fa30_0 rfl rfl) ?_
      refine JL_run rfl (Pu_load1 ty3 rfl (At.bx 0 rfl) (pkT_0 ..) ?_)
      refine JL_nil ?_
      refine J_block ?_
      refine J_seq ?_
      refine J_region ?_
      refine JL_pure (v := .bool (decide (kind = 10))) rfl (Pu.eql rfl rfl) ?_
      refine JL_pure (v := .bool (decide (kind = 10))) rfl (Pu.assign rfl) ?_
      refine JL_nil ?_
      refine J_cond (b := decide (kind = 10)) rfl (fun h29 => ?_) (fun h29 => ?_)
      ·skip
       replace h29 := dt h29
       refine J_seq ?_
       refine J_region ?_
       refine JL_pure (v := .pointer (some ⟨b2, 1, none⟩)) rfl (fa30_1 rfl rfl) ?_
       refine JL_run rfl (Pu_load1 ty3 rfl (At.bx 0 rfl) (pkT_1 ..) ?_)
       refine JL_call rfl Try.call17 rfl (fun hin => off_ct _ _ _ _) rfl ?_
       rintro _ _ ⟨rfl, rfl⟩
       refine JL_nil ?_
       refine J_cond (b := decide (num < 1 ∨ 5 < num)) rfl (fun h30 => ?_) (fun h30 => ?_)
       ·skip
        replace h30 := dt h30
        refine J_seq ?_
        refine J_region ?_
        refine JL_pure (v := .int .i64 (3)) rfl (Pu.assign rfl) ?_
        refine JL_nil ?_
        refine J_ret ?_
        refine ⟨.int .i64 (3), [], Ret.one rfl (RV.tmp rfl), Sub.nil, ?_⟩
        exact ⟨by refine congrArg (Value.int .i64) ?_; simp only [tHead]; (repeat' split) <;> first | rfl | omega | (exfalso; simp_all; done) | (exfalso; simp_all; omega) | grind, rfl⟩
       ·skip
        replace h30 := df h30
        refine J_skip ?_
        refine J_seq ?_
        refine J_cut (fun ρ M => ρ 6 = .int .i64 (0) ∧ ρ 87 = .bool ((((decide (kind = 2)) || (decide (kind = 8))) || (decide (kind = 11))) && (decide (num < 0 ∨ 1073741824 < num))) ∧ M = [[(b2, .cells ⟨pkT (kind) (num) (ref) (ks) (cv)⟩ 30 (0, 0))], [(b1, .cells ⟨[.int .i64 (m), .func (.func 41) ⟨[]⟩ ⟨[.pointer (some ⟨bD, 0, none⟩)]⟩]⟩ 94 (0, 0))]]) ?_ ?_
        ·refine J_region ?_
         refine JL_pure (v := .pointer (some ⟨b2, 0, none⟩)) rfl (fa30_0 rfl rfl) ?_
         refine JL_run rfl (Pu_load1 ty3 rfl (At.bx 0 rfl) (pkT_0 ..) ?_)
         refine JL_pure (v := .bool (decide (kind = 2))) rfl (Pu.eql rfl rfl) ?_
         refine JL_pure (v := .bool (decide (kind = 2))) rfl (Pu.move rfl) ?_
         cases h31 : (decide (kind = 2)) with
         | true =>
          replace h31 := dt h31
          refine JL_skip rfl ?_
          refine JL_skip rfl ?_
          refine JL_skip rfl ?_
          refine JL_pure (v := .bool (true)) rfl (Pu.pickT rfl rfl) ?_
          refine JL_pure (v := .bool (true)) rfl (Pu.move rfl) ?_
          refine JL_skip rfl ?_
          refine JL_skip rfl ?_
          refine JL_skip rfl ?_
          refine JL_pure (v := .bool (true)) rfl (Pu.pickT rfl rfl) ?_
          refine JL_pure (v := .bool (true)) rfl (Pu.move rfl) ?_
          refine JL_pure (v := .pointer (some ⟨b2, 1, none⟩)) rfl (fa30_1 rfl rfl) ?_
          refine JL_run rfl (Pu_load1 ty3 rfl (At.bx 0 rfl) (pkT_1 ..) ?_)
          refine JL_pure (v := .int .i64 (1073741824)) rfl (Pu.move rfl) ?_
          refine JL_call rfl Try.call17 rfl (fun hin => off_ct _ _ _ _) rfl ?_
          rintro _ _ ⟨rfl, rfl⟩
          refine JL_pure (v := .bool (decide (num < 0 ∨ 1073741824 < num))) rfl (Pu.pickT rfl rfl) ?_
          refine JL_nil ?_
          first | exact ⟨rfl, rfl, rfl⟩ | (exfalso; omega)
         | false =>
          replace h31 := df h31
          refine JL_pure (v := .pointer (some ⟨b2, 0, none⟩)) rfl (fa30_0 rfl rfl) ?_
          refine JL_run rfl (Pu_load1 ty3 rfl (At.bx 0 rfl) (pkT_0 ..) ?_)
          refine JL_pure (v := .bool (decide (kind = 8))) rfl (Pu.eql rfl rfl) ?_
          refine JL_pure (v := .bool (decide (kind = 8))) rfl (Pu.pickF rfl rfl) ?_
          refine JL_pure (v := .bool (decide (kind = 8))) rfl (Pu.move rfl) ?_
          cases h32 : (decide (kind = 8)) with
          | true =>
           replace h32 := dt h32
           refine JL_skip rfl ?_
           refine JL_skip rfl ?_
           refine JL_skip rfl ?_
           refine JL_pure (v := .bool (true)) rfl (Pu.pickT rfl rfl) ?_
           refine JL_pure (v := .bool (true)) rfl (Pu.move rfl) ?_
           refine JL_pure (v := .pointer (some ⟨b2, 1, none⟩)) rfl (fa30_1 rfl rfl) ?_
           refine JL_run rfl (Pu_load1 ty3 rfl (At.bx 0 rfl) (pkT_1 ..) ?_)
           refine JL_pure (v := .int .i64 (1073741824)) rfl (Pu.move rfl) ?_
           refine JL_call rfl Try.call17 rfl (fun hin => off_ct _ _ _ _) rfl ?_
           rintro _ _ ⟨rfl, rfl⟩
           refine JL_pure (v := .bool (decide (num < 0 ∨ 1073741824 < num))) rfl (Pu.pickT rfl rfl) ?_
           refine JL_nil ?_
           first | exact ⟨rfl, rfl, rfl⟩ | (exfalso; omega)
          | false =>
           replace h32 := df h32
           refine JL_pure (v := .pointer (some ⟨b2, 0, none⟩)) rfl (fa30_0 rfl rfl) ?_
           refine JL_run rfl (Pu_load1 ty3 rfl (At.bx 0 rfl) (pkT_0 ..) ?_)
           refine JL_pure (v := .bool (decide (kind = 11))) rfl (Pu.eql rfl rfl) ?_
           refine JL_pure (v := .bool (decide (kind = 11))) rfl (Pu.pickF rfl rfl) ?_
           refine JL_pure (v := .bool (decide (kind = 11))) rfl (Pu.move rfl) ?_
           cases h33 : (decide (kind = 11)) with
           | true =>
            replace h33 := dt h33
            refine JL_pure (v := .pointer (some ⟨b2, 1, none⟩)) rfl (fa30_1 rfl rfl) ?_
            refine JL_run rfl (Pu_load1 ty3 rfl (At.bx 0 rfl) (pkT_1 ..) ?_)
            refine JL_pure (v := .int .i64 (1073741824)) rfl (Pu.move rfl) ?_
            refine JL_call rfl Try.call17 rfl (fun hin => off_ct _ _ _ _) rfl ?_
            rintro _ _ ⟨rfl, rfl⟩
            refine JL_pure (v := .bool (decide (num < 0 ∨ 1073741824 < num))) rfl (Pu.pickT rfl rfl) ?_
            refine JL_nil ?_
            first | exact ⟨rfl, rfl, rfl⟩ | (exfalso; omega)
           | false =>
            replace h33 := df h33
            refine JL_skip rfl ?_
            refine JL_skip rfl ?_
            refine JL_skip rfl ?_
            refine JL_skip rfl ?_
            refine JL_pure (v := .bool (false)) rfl (Pu.pickF rfl rfl) ?_
            refine JL_nil ?_
            first | exact ⟨rfl, rfl, rfl⟩ | (exfalso; omega)
        ·rintro ρ34 _ ⟨e35, e36, rfl⟩
         obtain ⟨ρ37, rfl⟩ := reopen_ex (uc e35 (uc e36 un))
         clear e35 e36
         refine J_cond (b := (((decide (kind = 2)) || (decide (kind = 8))) || (decide (kind = 11))) && (decide (num < 0 ∨ 1073741824 < num))) rfl (fun h38 => ?_) (fun h38 => ?_)
         ·skip
          obtain ⟨h38a, h38b⟩ := andT h38
          replace h38b := dt h38b
          refine J_seq ?_
          refine J_region ?_
          refine JL_pure (v := .int .i64 (3)) rfl (Pu.assign rfl) ?_
          refine JL_nil ?_
          refine J_ret ?_
          refine ⟨.int .i64 (3), [], Ret.one rfl (RV.tmp rfl), Sub.nil, ?_⟩
          exact ⟨by refine congrArg (Value.int .i64) ?_; simp only [tHead]; (repeat' split) <;> first | rfl | omega | (exfalso; simp_all; done) | (exfalso; simp_all; omega) | grind, rfl⟩
         ·skip
          refine J_skip ?_
          refine J_seq ?_
          refine J_region ?_
          refine JL_pure (v := .int .i64 (0)) rfl (Pu.assign rfl) ?_
          refine JL_nil ?_
          refine J_ret ?_
          refine ⟨.int .i64 (0), [], Ret.one rfl (RV.tmp rfl), Sub.nil, ?_⟩
          exact ⟨by refine congrArg (Value.int .i64) ?_; simp only [tHead]; (repeat' split) <;> first | rfl | omega | (exfalso; simp_all; done) | (exfalso; simp_all; omega) | grind, rfl⟩
      ·skip
       replace h29 := df h29
       refine J_seq ?_
       refine J_seq ?_
       refine J_region ?_
       refine JL_pure (v := .bool (decide (kind = 8))) rfl (Pu.eql rfl rfl) ?_
       refine JL_pure (v := .bool (decide (kind = 8))) rfl (Pu.assign rfl) ?_
       refine JL_nil ?_
       refine J_cond (b := decide (kind = 8)) rfl (fun h39 => ?_) (fun h39 => ?_)
       ·skip
        replace h39 := dt h39
        refine J_skip ?_
        refine J_cond (b := decide (kind = 8)) rfl (fun _ => ?_) (fun h40 => absurd h39 (df h40))
        refine J_region ?_
        refine JL_pure (v := .int .i64 (7)) rfl (Pu.assign rfl) ?_
        refine JL_nil ?_
        refine J_seq ?_
        refine J_cut (fun ρ M => ρ 6 = .int .i64 (0) ∧ ρ 87 = .bool ((((decide (kind = 2)) || (decide (kind = 8))) || (decide (kind = 11))) && (decide (num < 0 ∨ 7 < num))) ∧ M = [[(b2, .cells ⟨pkT (kind) (num) (ref) (ks) (cv)⟩ 30 (0, 0))], [(b1, .cells ⟨[.int .i64 (m), .func (.func 41) ⟨[]⟩ ⟨[.pointer (some ⟨bD, 0, none⟩)]⟩]⟩ 94 (0, 0))]]) ?_ ?_
        ·refine J_region ?_
         refine JL_pure (v := .pointer (some ⟨b2, 0, none⟩)) rfl (fa30_0 rfl rfl) ?_
         refine JL_run rfl (Pu_load1 ty3 rfl (At.bx 0 rfl) (pkT_0 ..) ?_)
         refine JL_pure (v := .bool (decide (kind = 2))) rfl (Pu.eql rfl rfl) ?_
         refine JL_pure (v := .bool (decide (kind = 2))) rfl (Pu.move rfl) ?_
         cases h41 : (decide (kind = 2)) with
         | true =>
          replace h41 := dt h41
          refine JL_skip rfl ?_
          refine JL_skip rfl ?_
          refine JL_skip rfl ?_
          refine JL_pure (v := .bool (true)) rfl (Pu.pickT rfl rfl) ?_
          refine JL_pure (v := .bool (true)) rfl (Pu.move rfl) ?_
          refine JL_skip rfl ?_
          refine JL_skip rfl ?_
          refine JL_skip rfl ?_
          refine JL_pure (v := .bool (true)) rfl (Pu.pickT rfl rfl) ?_
          refine JL_pure (v := .bool (true)) rfl (Pu.move rfl) ?_
          refine JL_pure (v := .pointer (some ⟨b2, 1, none⟩)) rfl (fa30_1 rfl rfl) ?_
          refine JL_run rfl (Pu_load1 ty3 rfl (At.bx 0 rfl) (pkT_1 ..) ?_)
          refine JL_pure (v := .int .i64 (7)) rfl (Pu.move rfl) ?_
          refine JL_call rfl Try.call17 rfl (fun hin => off_ct _ _ _ _) rfl ?_
          rintro _ _ ⟨rfl, rfl⟩
          refine JL_pure (v := .bool (decide (num < 0 ∨ 7 < num))) rfl (Pu.pickT rfl rfl) ?_
          refine JL_nil ?_
          first | exact ⟨rfl, rfl, rfl⟩ | (exfalso; omega)
         | false =>
          replace h41 := df h41
          refine JL_pure (v := .pointer (some ⟨b2, 0, none⟩)) rfl (fa30_0 rfl rfl) ?_
          refine JL_run rfl (Pu_load1 ty3 rfl (At.bx 0 rfl) (pkT_0 ..) ?_)
          refine JL_pure (v := .bool (decide (kind = 8))) rfl (Pu.eql rfl rfl) ?_
          refine JL_pure (v := .bool (decide (kind = 8))) rfl (Pu.pickF rfl rfl) ?_
          refine JL_pure (v := .bool (decide (kind = 8))) rfl (Pu.move rfl) ?_
          cases h42 : (decide (kind = 8)) with
          | true =>
           replace h42 := dt h42
           refine JL_skip rfl ?_
           refine JL_skip rfl ?_
           refine JL_skip rfl ?_
           refine JL_pure (v := .bool (true)) rfl (Pu.pickT rfl rfl) ?_
           refine JL_pure (v := .bool (true)) rfl (Pu.move rfl) ?_
           refine JL_pure (v := .pointer (some ⟨b2, 1, none⟩)) rfl (fa30_1 rfl rfl) ?_
           refine JL_run rfl (Pu_load1 ty3 rfl (At.bx 0 rfl) (pkT_1 ..) ?_)
           refine JL_pure (v := .int .i64 (7)) rfl (Pu.move rfl) ?_
           refine JL_call rfl Try.call17 rfl (fun hin => off_ct _ _ _ _) rfl ?_
           rintro _ _ ⟨rfl, rfl⟩
           refine JL_pure (v := .bool (decide (num < 0 ∨ 7 < num))) rfl (Pu.pickT rfl rfl) ?_
           refine JL_nil ?_
           first | exact ⟨rfl, rfl, rfl⟩ | (exfalso; omega)
          | false =>
           replace h42 := df h42
           refine JL_pure (v := .pointer (some ⟨b2, 0, none⟩)) rfl (fa30_0 rfl rfl) ?_
           refine JL_run rfl (Pu_load1 ty3 rfl (At.bx 0 rfl) (pkT_0 ..) ?_)
           refine JL_pure (v := .bool (decide (kind = 11))) rfl (Pu.eql rfl rfl) ?_
           refine JL_pure (v := .bool (decide (kind = 11))) rfl (Pu.pickF rfl rfl) ?_
           refine JL_pure (v := .bool (decide (kind = 11))) rfl (Pu.move rfl) ?_
           cases h43 : (decide (kind = 11)) with
           | true =>
            replace h43 := dt h43
            refine JL_pure (v := .pointer (some ⟨b2, 1, none⟩)) rfl (fa30_1 rfl rfl) ?_
            refine JL_run rfl (Pu_load1 ty3 rfl (At.bx 0 rfl) (pkT_1 ..) ?_)
            refine JL_pure (v := .int .i64 (7)) rfl (Pu.move rfl) ?_
            refine JL_call rfl Try.call17 rfl (fun hin => off_ct _ _ _ _) rfl ?_
            rintro _ _ ⟨rfl, rfl⟩
            refine JL_pure (v := .bool (decide (num < 0 ∨ 7 < num))) rfl (Pu.pickT rfl rfl) ?_
            refine JL_nil ?_
            first | exact ⟨rfl, rfl, rfl⟩ | (exfalso; omega)
           | false =>
            replace h43 := df h43
            refine JL_skip rfl ?_
            refine JL_skip rfl ?_
            refine JL_skip rfl ?_
            refine JL_skip rfl ?_
            refine JL_pure (v := .bool (false)) rfl (Pu.pickF rfl rfl) ?_
            refine JL_nil ?_
            first | exact ⟨rfl, rfl, rfl⟩ | (exfalso; omega)
        ·rintro ρ44 _ ⟨e45, e46, rfl⟩
         obtain ⟨ρ47, rfl⟩ := reopen_ex (uc e45 (uc e46 un))
         clear e45 e46
         refine J_cond (b := (((decide (kind = 2)) || (decide (kind = 8))) || (decide (kind = 11))) && (decide (num < 0 ∨ 7 < num))) rfl (fun h48 => ?_) (fun h48 => ?_)
         ·skip
          obtain ⟨h48a, h48b⟩ := andT h48
          replace h48b := dt h48b
          refine J_seq ?_
          refine J_region ?_
          refine JL_pure (v := .int .i64 (3)) rfl (Pu.assign rfl) ?_
          refine JL_nil ?_
          refine J_ret ?_
          refine ⟨.int .i64 (3), [], Ret.one rfl (RV.tmp rfl), Sub.nil, ?_⟩
          exact ⟨by refine congrArg (Value.int .i64) ?_; simp only [tHead]; (repeat' split) <;> first | rfl | omega | (exfalso; simp_all; done) | (exfalso; simp_all; omega) | grind, rfl⟩
         ·skip
          refine J_skip ?_
          refine J_seq ?_
          refine J_region ?_
          refine JL_pure (v := .int .i64 (0)) rfl (Pu.assign rfl) ?_
          refine JL_nil ?_
          refine J_ret ?_
          refine ⟨.int .i64 (0), [], Ret.one rfl (RV.tmp rfl), Sub.nil, ?_⟩
          exact ⟨by refine congrArg (Value.int .i64) ?_; simp only [tHead]; (repeat' split) <;> first | rfl | omega | (exfalso; simp_all; done) | (exfalso; simp_all; omega) | grind, rfl⟩
       ·skip
        replace h39 := df h39
        refine J_region ?_
        refine JL_pure (v := .bool (decide (kind = 11))) rfl (Pu.eql rfl rfl) ?_
        refine JL_pure (v := .bool (decide (kind = 11))) rfl (Pu.assign rfl) ?_
        refine JL_nil ?_
        refine J_cond (b := decide (kind = 11)) rfl (fun h49 => ?_) (fun h49 => ?_)
        ·skip
         replace h49 := dt h49
         refine J_region ?_
         refine JL_pure (v := .int .i64 (7)) rfl (Pu.assign rfl) ?_
         refine JL_nil ?_
         refine J_seq ?_
         refine J_cut (fun ρ M => ρ 6 = .int .i64 (0) ∧ ρ 87 = .bool ((((decide (kind = 2)) || (decide (kind = 8))) || (decide (kind = 11))) && (decide (num < 0 ∨ 7 < num))) ∧ M = [[(b2, .cells ⟨pkT (kind) (num) (ref) (ks) (cv)⟩ 30 (0, 0))], [(b1, .cells ⟨[.int .i64 (m), .func (.func 41) ⟨[]⟩ ⟨[.pointer (some ⟨bD, 0, none⟩)]⟩]⟩ 94 (0, 0))]]) ?_ ?_
         ·refine J_region ?_
          refine JL_pure (v := .pointer (some ⟨b2, 0, none⟩)) rfl (fa30_0 rfl rfl) ?_
          refine JL_run rfl (Pu_load1 ty3 rfl (At.bx 0 rfl) (pkT_0 ..) ?_)
          refine JL_pure (v := .bool (decide (kind = 2))) rfl (Pu.eql rfl rfl) ?_
          refine JL_pure (v := .bool (decide (kind = 2))) rfl (Pu.move rfl) ?_
          cases h50 : (decide (kind = 2)) with
          | true =>
           replace h50 := dt h50
           refine JL_skip rfl ?_
           refine JL_skip rfl ?_
           refine JL_skip rfl ?_
           refine JL_pure (v := .bool (true)) rfl (Pu.pickT rfl rfl) ?_
           refine JL_pure (v := .bool (true)) rfl (Pu.move rfl) ?_
           refine JL_skip rfl ?_
           refine JL_skip rfl ?_
           refine JL_skip rfl ?_
           refine JL_pure (v := .bool (true)) rfl (Pu.pickT rfl rfl) ?_
           refine JL_pure (v := .bool (true)) rfl (Pu.move rfl) ?_
           refine JL_pure (v := .pointer (some ⟨b2, 1, none⟩)) rfl (fa30_1 rfl rfl) ?_
           refine JL_run rfl (Pu_load1 ty3 rfl (At.bx 0 rfl) (pkT_1 ..) ?_)
           refine JL_pure (v := .int .i64 (7)) rfl (Pu.move rfl) ?_
           refine JL_call rfl Try.call17 rfl (fun hin => off_ct _ _ _ _) rfl ?_
           rintro _ _ ⟨rfl, rfl⟩
           refine JL_pure (v := .bool (decide (num < 0 ∨ 7 < num))) rfl (Pu.pickT rfl rfl) ?_
           refine JL_nil ?_
           first | exact ⟨rfl, rfl, rfl⟩ | (exfalso; omega)
          | false =>
           replace h50 := df h50
           refine JL_pure (v := .pointer (some ⟨b2, 0, none⟩)) rfl (fa30_0 rfl rfl) ?_
           refine JL_run rfl (Pu_load1 ty3 rfl (At.bx 0 rfl) (pkT_0 ..) ?_)
           refine JL_pure (v := .bool (decide (kind = 8))) rfl (Pu.eql rfl rfl) ?_
           refine JL_pure (v := .bool (decide (kind = 8))) rfl (Pu.pickF rfl rfl) ?_
           refine JL_pure (v := .bool (decide (kind = 8))) rfl (Pu.move rfl) ?_
           cases h51 : (decide (kind = 8)) with
           | true =>
            replace h51 := dt h51
            refine JL_skip rfl ?_
            refine JL_skip rfl ?_
            refine JL_skip rfl ?_
            refine JL_pure (v := .bool (true)) rfl (Pu.pickT rfl rfl) ?_
            refine JL_pure (v := .bool (true)) rfl (Pu.move rfl) ?_
            refine JL_pure (v := .pointer (some ⟨b2, 1, none⟩)) rfl (fa30_1 rfl rfl) ?_
            refine JL_run rfl (Pu_load1 ty3 rfl (At.bx 0 rfl) (pkT_1 ..) ?_)
            refine JL_pure (v := .int .i64 (7)) rfl (Pu.move rfl) ?_
            refine JL_call rfl Try.call17 rfl (fun hin => off_ct _ _ _ _) rfl ?_
            rintro _ _ ⟨rfl, rfl⟩
            refine JL_pure (v := .bool (decide (num < 0 ∨ 7 < num))) rfl (Pu.pickT rfl rfl) ?_
            refine JL_nil ?_
            first | exact ⟨rfl, rfl, rfl⟩ | (exfalso; omega)
           | false =>
            replace h51 := df h51
            refine JL_pure (v := .pointer (some ⟨b2, 0, none⟩)) rfl (fa30_0 rfl rfl) ?_
            refine JL_run rfl (Pu_load1 ty3 rfl (At.bx 0 rfl) (pkT_0 ..) ?_)
            refine JL_pure (v := .bool (decide (kind = 11))) rfl (Pu.eql rfl rfl) ?_
            refine JL_pure (v := .bool (decide (kind = 11))) rfl (Pu.pickF rfl rfl) ?_
            refine JL_pure (v := .bool (decide (kind = 11))) rfl (Pu.move rfl) ?_
            cases h52 : (decide (kind = 11)) with
            | true =>
             replace h52 := dt h52
             refine JL_pure (v := .pointer (some ⟨b2, 1, none⟩)) rfl (fa30_1 rfl rfl) ?_
             refine JL_run rfl (Pu_load1 ty3 rfl (At.bx 0 rfl) (pkT_1 ..) ?_)
             refine JL_pure (v := .int .i64 (7)) rfl (Pu.move rfl) ?_
             refine JL_call rfl Try.call17 rfl (fun hin => off_ct _ _ _ _) rfl ?_
             rintro _ _ ⟨rfl, rfl⟩
             refine JL_pure (v := .bool (decide (num < 0 ∨ 7 < num))) rfl (Pu.pickT rfl rfl) ?_
             refine JL_nil ?_
             first | exact ⟨rfl, rfl, rfl⟩ | (exfalso; omega)
            | false =>
             replace h52 := df h52
             refine JL_skip rfl ?_
             refine JL_skip rfl ?_
             refine JL_skip rfl ?_
             refine JL_skip rfl ?_
             refine JL_pure (v := .bool (false)) rfl (Pu.pickF rfl rfl) ?_
             refine JL_nil ?_
             first | exact ⟨rfl, rfl, rfl⟩ | (exfalso; omega)
         ·rintro ρ53 _ ⟨e54, e55, rfl⟩
          obtain ⟨ρ56, rfl⟩ := reopen_ex (uc e54 (uc e55 un))
          clear e54 e55
          refine J_cond (b := (((decide (kind = 2)) || (decide (kind = 8))) || (decide (kind = 11))) && (decide (num < 0 ∨ 7 < num))) rfl (fun h57 => ?_) (fun h57 => ?_)
          ·skip
           obtain ⟨h57a, h57b⟩ := andT h57
           replace h57b := dt h57b
           refine J_seq ?_
           refine J_region ?_
           refine JL_pure (v := .int .i64 (3)) rfl (Pu.assign rfl) ?_
           refine JL_nil ?_
           refine J_ret ?_
           refine ⟨.int .i64 (3), [], Ret.one rfl (RV.tmp rfl), Sub.nil, ?_⟩
           exact ⟨by refine congrArg (Value.int .i64) ?_; simp only [tHead]; (repeat' split) <;> first | rfl | omega | (exfalso; simp_all; done) | (exfalso; simp_all; omega) | grind, rfl⟩
          ·skip
           refine J_skip ?_
           refine J_seq ?_
           refine J_region ?_
           refine JL_pure (v := .int .i64 (0)) rfl (Pu.assign rfl) ?_
           refine JL_nil ?_
           refine J_ret ?_
           refine ⟨.int .i64 (0), [], Ret.one rfl (RV.tmp rfl), Sub.nil, ?_⟩
           exact ⟨by refine congrArg (Value.int .i64) ?_; simp only [tHead]; (repeat' split) <;> first | rfl | omega | (exfalso; simp_all; done) | (exfalso; simp_all; omega) | grind, rfl⟩
        ·skip
         replace h49 := df h49
         refine J_seq ?_
         refine J_region ?_
         refine JL_pure (v := .bool (decide (kind = 1))) rfl (Pu.eql rfl rfl) ?_
         refine JL_pure (v := .bool (decide (kind = 1))) rfl (Pu.assign rfl) ?_
         refine JL_nil ?_
         refine J_cond (b := decide (kind = 1)) rfl (fun h58 => ?_) (fun h58 => ?_)
         ·skip
          replace h58 := dt h58
          refine J_seq ?_
          refine J_region ?_
          refine JL_pure (v := .pointer (some ⟨b1, 1, none⟩)) rfl (fa94_1 rfl rfl) ?_
          refine JL_run rfl (Pu_load1 ty92 rfl (At.bx 1 rfl) rfl ?_)
          refine JL_pure (v := .pointer (some ⟨b2, 1, none⟩)) rfl (fa30_1 rfl rfl) ?_
          refine JL_run rfl (Pu_load1 ty3 rfl (At.bx 0 rfl) (pkT_1 ..) ?_)
          refine JL_pure (v := .int .i64 (b)) rfl (Pu.move rfl) ?_
          refine JL_call rfl Try.call41 rfl (fun hin => known_ct _ _ _ _ bD (Hle.hu _ _ _ _ hD) hb0 hb1 hn1 hn2) rfl ?_
          rintro _ _ ⟨rfl, rfl⟩
          refine JL_pure (v := .bool (!(knownB d (num) (b)))) rfl (Pu.not rfl) ?_
          refine JL_nil ?_
          refine J_cond (b := !(knownB d (num) (b))) rfl (fun h59 => ?_) (fun h59 => ?_)
          ·skip
           replace h59 := nt h59
           refine J_seq ?_
           refine J_region ?_
           refine JL_pure (v := .int .i64 (1)) rfl (Pu.assign rfl) ?_
           refine JL_nil ?_
           refine J_ret ?_
           refine ⟨.int .i64 (1), [], Ret.one rfl (RV.tmp rfl), Sub.nil, ?_⟩
           exact ⟨by refine congrArg (Value.int .i64) ?_; simp only [tHead]; (repeat' split) <;> first | rfl | omega | (exfalso; simp_all; done) | (exfalso; simp_all; omega) | grind, rfl⟩
          ·skip
           replace h59 := nf h59
           refine J_skip ?_
           refine J_seq ?_
           refine J_cut (fun ρ M => ρ 6 = .int .i64 (0) ∧ ρ 87 = .bool ((((decide (kind = 2)) || (decide (kind = 8))) || (decide (kind = 11))) && (decide (num < 0 ∨ 1073741824 < num))) ∧ M = [[(b2, .cells ⟨pkT (kind) (num) (ref) (ks) (cv)⟩ 30 (0, 0))], [(b1, .cells ⟨[.int .i64 (m), .func (.func 41) ⟨[]⟩ ⟨[.pointer (some ⟨bD, 0, none⟩)]⟩]⟩ 94 (0, 0))]]) ?_ ?_
           ·refine J_region ?_
            refine JL_pure (v := .pointer (some ⟨b2, 0, none⟩)) rfl (fa30_0 rfl rfl) ?_
            refine JL_run rfl (Pu_load1 ty3 rfl (At.bx 0 rfl) (pkT_0 ..) ?_)
            refine JL_pure (v := .bool (decide (kind = 2))) rfl (Pu.eql rfl rfl) ?_
            refine JL_pure (v := .bool (decide (kind = 2))) rfl (Pu.move rfl) ?_
            cases h60 : (decide (kind = 2)) with
            | true =>
             replace h60 := dt h60
             refine JL_skip rfl ?_
             refine JL_skip rfl ?_
             refine JL_skip rfl ?_
             refine JL_pure (v := .bool (true)) rfl (Pu.pickT rfl rfl) ?_
             refine JL_pure (v := .bool (true)) rfl (Pu.move rfl) ?_
             refine JL_skip rfl ?_
             refine JL_skip rfl ?_
             refine JL_skip rfl ?_
             refine JL_pure (v := .bool (true)) rfl (Pu.pickT rfl rfl) ?_
             refine JL_pure (v := .bool (true)) rfl (Pu.move rfl) ?_
             refine JL_pure (v := .pointer (some ⟨b2, 1, none⟩)) rfl (fa30_1 rfl rfl) ?_
             refine JL_run rfl (Pu_load1 ty3 rfl (At.bx 0 rfl) (pkT_1 ..) ?_)
             refine JL_pure (v := .int .i64 (1073741824)) rfl (Pu.move rfl) ?_
             refine JL_call rfl Try.call17 rfl (fun hin => off_ct _ _ _ _) rfl ?_
             rintro _ _ ⟨rfl, rfl⟩
             refine JL_pure (v := .bool (decide (num < 0 ∨ 1073741824 < num))) rfl (Pu.pickT rfl rfl) ?_
             refine JL_nil ?_
             first | exact ⟨rfl, rfl, rfl⟩ | (exfalso; omega)
            | false =>
             replace h60 := df h60
             refine JL_pure (v := .pointer (some ⟨b2, 0, none⟩)) rfl (fa30_0 rfl rfl) ?_
             refine JL_run rfl (Pu_load1 ty3 rfl (At.bx 0 rfl) (pkT_0 ..) ?_)
             refine JL_pure (v := .bool (decide (kind = 8))) rfl (Pu.eql rfl rfl) ?_
             refine JL_pure (v := .bool (decide (kind = 8))) rfl (Pu.pickF rfl rfl) ?_
             refine JL_pure (v := .bool (decide (kind = 8))) rfl (Pu.move rfl) ?_
             cases h61 : (decide (kind = 8)) with
             | true =>
              replace h61 := dt h61
              refine JL_skip rfl ?_
              refine JL_skip rfl ?_
              refine JL_skip rfl ?_
              refine JL_pure (v := .bool (true)) rfl (Pu.pickT rfl rfl) ?_
              refine JL_pure (v := .bool (true)) rfl (Pu.move rfl) ?_
              refine JL_pure (v := .pointer (some ⟨b2, 1, none⟩)) rfl (fa30_1 rfl rfl) ?_
              refine JL_run rfl (Pu_load1 ty3 rfl (At.bx 0 rfl) (pkT_1 ..) ?_)
              refine JL_pure (v := .int .i64 (1073741824)) rfl (Pu.move rfl) ?_
              refine JL_call rfl Try.call17 rfl (fun hin => off_ct _ _ _ _) rfl ?_
              rintro _ _ ⟨rfl, rfl⟩
              refine JL_pure (v := .bool (decide (num < 0 ∨ 1073741824 < num))) rfl (Pu.pickT rfl rfl) ?_
              refine JL_nil ?_
              first | exact ⟨rfl, rfl, rfl⟩ | (exfalso; omega)
             | false =>
              replace h61 := df h61
              refine JL_pure (v := .pointer (some ⟨b2, 0, none⟩)) rfl (fa30_0 rfl rfl) ?_
              refine JL_run rfl (Pu_load1 ty3 rfl (At.bx 0 rfl) (pkT_0 ..) ?_)
              refine JL_pure (v := .bool (decide (kind = 11))) rfl (Pu.eql rfl rfl) ?_
              refine JL_pure (v := .bool (decide (kind = 11))) rfl (Pu.pickF rfl rfl) ?_
              refine JL_pure (v := .bool (decide (kind = 11))) rfl (Pu.move rfl) ?_
              cases h62 : (decide (kind = 11)) with
              | true =>
               replace h62 := dt h62
               refine JL_pure (v := .pointer (some ⟨b2, 1, none⟩)) rfl (fa30_1 rfl rfl) ?_
               refine JL_run rfl (Pu_load1 ty3 rfl (At.bx 0 rfl) (pkT_1 ..) ?_)
               refine JL_pure (v := .int .i64 (1073741824)) rfl (Pu.move rfl) ?_
               refine JL_call rfl Try.call17 rfl (fun hin => off_ct _ _ _ _) rfl ?_
               rintro _ _ ⟨rfl, rfl⟩
               refine JL_pure (v := .bool (decide (num < 0 ∨ 1073741824 < num))) rfl (Pu.pickT rfl rfl) ?_
               refine JL_nil ?_
               first | exact ⟨rfl, rfl, rfl⟩ | (exfalso; omega)
              | false =>
               replace h62 := df h62
               refine JL_skip rfl ?_
               refine JL_skip rfl ?_
               refine JL_skip rfl ?_
               refine JL_skip rfl ?_
               refine JL_pure (v := .bool (false)) rfl (Pu.pickF rfl rfl) ?_
               refine JL_nil ?_
               first | exact ⟨rfl, rfl, rfl⟩ | (exfalso; omega)
           ·rintro ρ63 _ ⟨e64, e65, rfl⟩
            obtain ⟨ρ66, rfl⟩ := reopen_ex (uc e64 (uc e65 un))
            clear e64 e65
            refine J_cond (b := (((decide (kind = 2)) || (decide (kind = 8))) || (decide (kind = 11))) && (decide (num < 0 ∨ 1073741824 < num))) rfl (fun h67 => ?_) (fun h67 => ?_)
            ·skip
             obtain ⟨h67a, h67b⟩ := andT h67
             replace h67b := dt h67b
             refine J_seq ?_
             refine J_region ?_
             refine JL_pure (v := .int .i64 (3)) rfl (Pu.assign rfl) ?_
             refine JL_nil ?_
             refine J_ret ?_
             refine ⟨.int .i64 (3), [], Ret.one rfl (RV.tmp rfl), Sub.nil, ?_⟩
             exact ⟨by refine congrArg (Value.int .i64) ?_; simp only [tHead]; (repeat' split) <;> first | rfl | omega | (exfalso; simp_all; done) | (exfalso; simp_all; omega) | grind, rfl⟩
            ·skip
             refine J_skip ?_
             refine J_seq ?_
             refine J_region ?_
             refine JL_pure (v := .int .i64 (0)) rfl (Pu.assign rfl) ?_
             refine JL_nil ?_
             refine J_ret ?_
             refine ⟨.int .i64 (0), [], Ret.one rfl (RV.tmp rfl), Sub.nil, ?_⟩
             exact ⟨by refine congrArg (Value.int .i64) ?_; simp only [tHead]; (repeat' split) <;> first | rfl | omega | (exfalso; simp_all; done) | (exfalso; simp_all; omega) | grind, rfl⟩
         ·skip
          replace h58 := df h58
          refine J_seq ?_
          refine J_region ?_
          refine JL_pure (v := .bool (decide (kind = 7))) rfl (Pu.eql rfl rfl) ?_
          refine JL_pure (v := .bool (decide (kind = 7))) rfl (Pu.assign rfl) ?_
          refine JL_nil ?_
          refine J_cond (b := decide (kind = 7)) rfl (fun h68 => ?_) (fun h68 => ?_)
          ·skip
           replace h68 := dt h68
           refine J_cut (fun ρ M => ρ 4 = .pointer (some ⟨b2, 0, none⟩) ∧ ρ 6 = .int .i64 (0) ∧ ρ 7 = .int .i64 (1073741824) ∧ ρ 68 = .bool ((decide (num < 0)) || (decide (m ≤ num))) ∧ M = [[(b2, .cells ⟨pkT (kind) (num) (ref) (ks) (cv)⟩ 30 (0, 0))], [(b1, .cells ⟨[.int .i64 (m), .func (.func 41) ⟨[]⟩ ⟨[.pointer (some ⟨bD, 0, none⟩)]⟩]⟩ 94 (0, 0))]]) ?_ ?_
           ·refine J_region ?_
            refine JL_pure (v := .pointer (some ⟨b2, 1, none⟩)) rfl (fa30_1 rfl rfl) ?_
            refine JL_run rfl (Pu_load1 ty3 rfl (At.bx 0 rfl) (pkT_1 ..) ?_)
            refine JL_pure (v := .bool (decide (num < 0))) rfl (Pu.lss rfl rfl) ?_
            refine JL_pure (v := .bool (decide (num < 0))) rfl (Pu.move rfl) ?_
            cases h69 : (decide (num < 0)) with
            | true =>
             replace h69 := dt h69
             refine JL_skip rfl ?_
             refine JL_skip rfl ?_
             refine JL_skip rfl ?_
             refine JL_skip rfl ?_
             refine JL_skip rfl ?_
             refine JL_pure (v := .bool (true)) rfl (Pu.pickT rfl rfl) ?_
             refine JL_nil ?_
             first | exact ⟨rfl, rfl, rfl, rfl, rfl⟩ | (exfalso; omega)
            | false =>
             replace h69 := df h69
             refine JL_pure (v := .pointer (some ⟨b2, 1, none⟩)) rfl (fa30_1 rfl rfl) ?_
             refine JL_run rfl (Pu_load1 ty3 rfl (At.bx 0 rfl) (pkT_1 ..) ?_)
             refine JL_pure (v := .pointer (some ⟨b1, 0, none⟩)) rfl (fa94_0 rfl rfl) ?_
             refine JL_run rfl (Pu_load1 ty3 rfl (At.bx 1 rfl) rfl ?_)
             refine JL_pure (v := .bool (decide (m ≤ num))) rfl (Pu.geq rfl rfl) ?_
             refine JL_pure (v := .bool (decide (m ≤ num))) rfl (Pu.pickF rfl rfl) ?_
             refine JL_nil ?_
             first | exact ⟨rfl, rfl, rfl, rfl, rfl⟩ | (exfalso; omega)
           ·rintro ρ70 _ ⟨e71, e72, e73, e74, rfl⟩
            obtain ⟨ρ75, rfl⟩ := reopen_ex (uc e71 (uc e72 (uc e73 (uc e74 un))))
            clear e71 e72 e73 e74
            refine J_cond (b := (decide (num < 0)) || (decide (m ≤ num))) rfl (fun h76 => ?_) (fun h76 => ?_)
            ·skip
             refine J_seq ?_
             refine J_region ?_
             refine JL_pure (v := .int .i64 (1)) rfl (Pu.assign rfl) ?_
             refine JL_nil ?_
             refine J_ret ?_
             refine ⟨.int .i64 (1), [], Ret.one rfl (RV.tmp rfl), Sub.nil, ?_⟩
             exact ⟨by refine congrArg (Value.int .i64) ?_; simp only [tHead]; (repeat' split) <;> first | rfl | omega | (exfalso; simp_all; done) | (exfalso; simp_all; omega) | grind, rfl⟩
            ·skip
             obtain ⟨h76a, h76b⟩ := orF h76
             replace h76a := df h76a
             replace h76b := df h76b
             refine J_skip ?_
             refine J_seq ?_
             refine J_cut (fun ρ M => ρ 6 = .int .i64 (0) ∧ ρ 87 = .bool ((((decide (kind = 2)) || (decide (kind = 8))) || (decide (kind = 11))) && (decide (num < 0 ∨ 1073741824 < num))) ∧ M = [[(b2, .cells ⟨pkT (kind) (num) (ref) (ks) (cv)⟩ 30 (0, 0))], [(b1, .cells ⟨[.int .i64 (m), .func (.func 41) ⟨[]⟩ ⟨[.pointer (some ⟨bD, 0, none⟩)]⟩]⟩ 94 (0, 0))]]) ?_ ?_
             ·refine J_region ?_
              refine JL_pure (v := .pointer (some ⟨b2, 0, none⟩)) rfl (fa30_0 rfl rfl) ?_
              refine JL_run rfl (Pu_load1 ty3 rfl (At.bx 0 rfl) (pkT_0 ..) ?_)
              refine JL_pure (v := .bool (decide (kind = 2))) rfl (Pu.eql rfl rfl) ?_
              refine JL_pure (v := .bool (decide (kind = 2))) rfl (Pu.move rfl) ?_
              cases h77 : (decide (kind = 2)) with
              | true =>
               replace h77 := dt h77
               refine JL_skip rfl ?_
               refine JL_skip rfl ?_
               refine JL_skip rfl ?_
               refine JL_pure (v := .bool (true)) rfl (Pu.pickT rfl rfl) ?_
               refine JL_pure (v := .bool (true)) rfl (Pu.move rfl) ?_
               refine JL_skip rfl ?_
               refine JL_skip rfl ?_
               refine JL_skip rfl ?_
               refine JL_pure (v := .bool (true)) rfl (Pu.pickT rfl rfl) ?_
               refine JL_pure (v := .bool (true)) rfl (Pu.move rfl) ?_
               refine JL_pure (v := .pointer (some ⟨b2, 1, none⟩)) rfl (fa30_1 rfl rfl) ?_
               refine JL_run rfl (Pu_load1 ty3 rfl (At.bx 0 rfl) (pkT_1 ..) ?_)
               refine JL_pure (v := .int .i64 (1073741824)) rfl (Pu.move rfl) ?_
               refine JL_call rfl Try.call17 rfl (fun hin => off_ct _ _ _ _) rfl ?_
               rintro _ _ ⟨rfl, rfl⟩
               refine JL_pure (v := .bool (decide (num < 0 ∨ 1073741824 < num))) rfl (Pu.pickT rfl rfl) ?_
               refine JL_nil ?_
               first | exact ⟨rfl, rfl, rfl⟩ | (exfalso; omega)
              | false =>
               replace h77 := df h77
               refine JL_pure (v := .pointer (some ⟨b2, 0, none⟩)) rfl (fa30_0 rfl rfl) ?_
               refine JL_run rfl (Pu_load1 ty3 rfl (At.bx 0 rfl) (pkT_0 ..) ?_)
               refine JL_pure (v := .bool (decide (kind = 8))) rfl (Pu.eql rfl rfl) ?_
               refine JL_pure (v := .bool (decide (kind = 8))) rfl (Pu.pickF rfl rfl) ?_
               refine JL_pure (v := .bool (decide (kind = 8))) rfl (Pu.move rfl) ?_
               cases h78 : (decide (kind = 8)) with
               | true =>
                replace h78 := dt h78
                refine JL_skip rfl ?_
                refine JL_skip rfl ?_
                refine JL_skip rfl ?_
                refine JL_pure (v := .bool (true)) rfl (Pu.pickT rfl rfl) ?_
                refine JL_pure (v := .bool (true)) rfl (Pu.move rfl) ?_
                refine JL_pure (v := .pointer (some ⟨b2, 1, none⟩)) rfl (fa30_1 rfl rfl) ?_
                refine JL_run rfl (Pu_load1 ty3 rfl (At.bx 0 rfl) (pkT_1 ..) ?_)
                refine JL_pure (v := .int .i64 (1073741824)) rfl (Pu.move rfl) ?_
                refine JL_call rfl Try.call17 rfl (fun hin => off_ct _ _ _ _) rfl ?_
                rintro _ _ ⟨rfl, rfl⟩
                refine JL_pure (v := .bool (decide (num < 0 ∨ 1073741824 < num))) rfl (Pu.pickT rfl rfl) ?_
                refine JL_nil ?_
                first | exact ⟨rfl, rfl, rfl⟩ | (exfalso; omega)
               | false =>
                replace h78 := df h78
                refine JL_pure (v := .pointer (some ⟨b2, 0, none⟩)) rfl (fa30_0 rfl rfl) ?_
                refine JL_run rfl (Pu_load1 ty3 rfl (At.bx 0 rfl) (pkT_0 ..) ?_)
                refine JL_pure (v := .bool (decide (kind = 11))) rfl (Pu.eql rfl rfl) ?_
                refine JL_pure (v := .bool (decide (kind = 11))) rfl (Pu.pickF rfl rfl) ?_
                refine JL_pure (v := .bool (decide (kind = 11))) rfl (Pu.move rfl) ?_
                cases h79 : (decide (kind = 11)) with
                | true =>
                 replace h79 := dt h79
                 refine JL_pure (v := .pointer (some ⟨b2, 1, none⟩)) rfl (fa30_1 rfl rfl) ?_
                 refine JL_run rfl (Pu_load1 ty3 rfl (At.bx 0 rfl) (pkT_1 ..) ?_)
                 refine JL_pure (v := .int .i64 (1073741824)) rfl (Pu.move rfl) ?_
                 refine JL_call rfl Try.call17 rfl (fun hin => off_ct _ _ _ _) rfl ?_
                 rintro _ _ ⟨rfl, rfl⟩
                 refine JL_pure (v := .bool (decide (num < 0 ∨ 1073741824 < num))) rfl (Pu.pickT rfl rfl) ?_
                 refine JL_nil ?_
                 first | exact ⟨rfl, rfl, rfl⟩ | (exfalso; omega)
                | false =>
                 replace h79 := df h79
                 refine JL_skip rfl ?_
                 refine JL_skip rfl ?_
                 refine JL_skip rfl ?_
                 refine JL_skip rfl ?_
                 refine JL_pure (v := .bool (false)) rfl (Pu.pickF rfl rfl) ?_
                 refine JL_nil ?_
                 first | exact ⟨rfl, rfl, rfl⟩ | (exfalso; omega)
             ·rintro ρ80 _ ⟨e81, e82, rfl⟩
              obtain ⟨ρ83, rfl⟩ := reopen_ex (uc e81 (uc e82 un))
              clear e81 e82
              refine J_cond (b := (((decide (kind = 2)) || (decide (kind = 8))) || (decide (kind = 11))) && (decide (num < 0 ∨ 1073741824 < num))) rfl (fun h84 => ?_) (fun h84 => ?_)
              ·skip
               obtain ⟨h84a, h84b⟩ := andT h84
               replace h84b := dt h84b
               refine J_seq ?_
               refine J_region ?_
               refine JL_pure (v := .int .i64 (3)) rfl (Pu.assign rfl) ?_
               refine JL_nil ?_
               refine J_ret ?_
               refine ⟨.int .i64 (3), [], Ret.one rfl (RV.tmp rfl), Sub.nil, ?_⟩
               exact ⟨by refine congrArg (Value.int .i64) ?_; simp only [tHead]; (repeat' split) <;> first | rfl | omega | (exfalso; simp_all; done) | (exfalso; simp_all; omega) | grind, rfl⟩
              ·skip
               refine J_skip ?_
               refine J_seq ?_
               refine J_region ?_
               refine JL_pure (v := .int .i64 (0)) rfl (Pu.assign rfl) ?_
               refine JL_nil ?_
               refine J_ret ?_
               refine ⟨.int .i64 (0), [], Ret.one rfl (RV.tmp rfl), Sub.nil, ?_⟩
               exact ⟨by refine congrArg (Value.int .i64) ?_; simp only [tHead]; (repeat' split) <;> first | rfl | omega | (exfalso; simp_all; done) | (exfalso; simp_all; omega) | grind, rfl⟩
          ·skip
           replace h68 := df h68
           refine J_skip ?_
           refine J_seq ?_
           refine J_cut (fun ρ M => ρ 6 = .int .i64 (0) ∧ ρ 87 = .bool ((((decide (kind = 2)) || (decide (kind = 8))) || (decide (kind = 11))) && (decide (num < 0 ∨ 1073741824 < num))) ∧ M = [[(b2, .cells ⟨pkT (kind) (num) (ref) (ks) (cv)⟩ 30 (0, 0))], [(b1, .cells ⟨[.int .i64 (m), .func (.func 41) ⟨[]⟩ ⟨[.pointer (some ⟨bD, 0, none⟩)]⟩]⟩ 94 (0, 0))]]) ?_ ?_
           ·refine J_region ?_
            refine JL_pure (v := .pointer (some ⟨b2, 0, none⟩)) rfl (fa30_0 rfl rfl) ?_
            refine JL_run rfl (Pu_load1 ty3 rfl (At.bx 0 rfl) (pkT_0 ..) ?_)
            refine JL_pure (v := .bool (decide (kind = 2))) rfl (Pu.eql rfl rfl) ?_
            refine JL_pure (v := .bool (decide (kind = 2))) rfl (Pu.move rfl) ?_
            cases h85 : (decide (kind = 2)) with
            | true =>
             replace h85 := dt h85
             refine JL_skip rfl ?_
             refine JL_skip rfl ?_
             refine JL_skip rfl ?_
             refine JL_pure (v := .bool (true)) rfl (Pu.pickT rfl rfl) ?_
             refine JL_pure (v := .bool (true)) rfl (Pu.move rfl) ?_
             refine JL_skip rfl ?_
             refine JL_skip rfl ?_
             refine JL_skip rfl ?_
             refine JL_pure (v := .bool (true)) rfl (Pu.pickT rfl rfl) ?_
             refine JL_pure (v := .bool (true)) rfl (Pu.move rfl) ?_
             refine JL_pure (v := .pointer (some ⟨b2, 1, none⟩)) rfl (fa30_1 rfl rfl) ?_
             refine JL_run rfl (Pu_load1 ty3 rfl (At.bx 0 rfl) (pkT_1 ..) ?_)
             refine JL_pure (v := .int .i64 (1073741824)) rfl (Pu.move rfl) ?_
             refine JL_call rfl Try.call17 rfl (fun hin => off_ct _ _ _ _) rfl ?_
             rintro _ _ ⟨rfl, rfl⟩
             refine JL_pure (v := .bool (decide (num < 0 ∨ 1073741824 < num))) rfl (Pu.pickT rfl rfl) ?_
             refine JL_nil ?_
             first | exact ⟨rfl, rfl, rfl⟩ | (exfalso; omega)
            | false =>
             replace h85 := df h85
             refine JL_pure (v := .pointer (some ⟨b2, 0, none⟩)) rfl (fa30_0 rfl rfl) ?_
             refine JL_run rfl (Pu_load1 ty3 rfl (At.bx 0 rfl) (pkT_0 ..) ?_)
             refine JL_pure (v := .bool (decide (kind = 8))) rfl (Pu.eql rfl rfl) ?_
             refine JL_pure (v := .bool (decide (kind = 8))) rfl (Pu.pickF rfl rfl) ?_
             refine JL_pure (v := .bool (decide (kind = 8))) rfl (Pu.move rfl) ?_
             cases h86 : (decide (kind = 8)) with
             | true =>
              replace h86 := dt h86
              refine JL_skip rfl ?_
              refine JL_skip rfl ?_
              refine JL_skip rfl ?_
              refine JL_pure (v := .bool (true)) rfl (Pu.pickT rfl rfl) ?_
              refine JL_pure (v := .bool (true)) rfl (Pu.move rfl) ?_
              refine JL_pure (v := .pointer (some ⟨b2, 1, none⟩)) rfl (fa30_1 rfl rfl) ?_
              refine JL_run rfl (Pu_load1 ty3 rfl (At.bx 0 rfl) (pkT_1 ..) ?_)
              refine JL_pure (v := .int .i64 (1073741824)) rfl (Pu.move rfl) ?_
              refine JL_call rfl Try.call17 rfl (fun hin => off_ct _ _ _ _) rfl ?_
              rintro _ _ ⟨rfl, rfl⟩
              refine JL_pure (v := .bool (decide (num < 0 ∨ 1073741824 < num))) rfl (Pu.pickT rfl rfl) ?_
              refine JL_nil ?_
              first | exact ⟨rfl, rfl, rfl⟩ | (exfalso; omega)
             | false =>
              replace h86 := df h86
              refine JL_pure (v := .pointer (some ⟨b2, 0, none⟩)) rfl (fa30_0 rfl rfl) ?_
              refine JL_run rfl (Pu_load1 ty3 rfl (At.bx 0 rfl) (pkT_0 ..) ?_)
              refine JL_pure (v := .bool (decide (kind = 11))) rfl (Pu.eql rfl rfl) ?_
              refine JL_pure (v := .bool (decide (kind = 11))) rfl (Pu.pickF rfl rfl) ?_
              refine JL_pure (v := .bool (decide (kind = 11))) rfl (Pu.move rfl) ?_
              cases h87 : (decide (kind = 11)) with
              | true =>
               replace h87 := dt h87
               refine JL_pure (v := .pointer (some ⟨b2, 1, none⟩)) rfl (fa30_1 rfl rfl) ?_
               refine JL_run rfl (Pu_load1 ty3 rfl (At.bx 0 rfl) (pkT_1 ..) ?_)
               refine JL_pure (v := .int .i64 (1073741824)) rfl (Pu.move rfl) ?_
               refine JL_call rfl Try.call17 rfl (fun hin => off_ct _ _ _ _) rfl ?_
               rintro _ _ ⟨rfl, rfl⟩
               refine JL_pure (v := .bool (decide (num < 0 ∨ 1073741824 < num))) rfl (Pu.pickT rfl rfl) ?_
               refine JL_nil ?_
               first | exact ⟨rfl, rfl, rfl⟩ | (exfalso; omega)
              | false =>
               replace h87 := df h87
               refine JL_skip rfl ?_
               refine JL_skip rfl ?_
               refine JL_skip rfl ?_
               refine JL_skip rfl ?_
               refine JL_pure (v := .bool (false)) rfl (Pu.pickF rfl rfl) ?_
               refine JL_nil ?_
               first | exact ⟨rfl, rfl, rfl⟩ | (exfalso; omega)
           ·rintro ρ88 _ ⟨e89, e90, rfl⟩
            obtain ⟨ρ91, rfl⟩ := reopen_ex (uc e89 (uc e90 un))
            clear e89 e90
            refine J_cond (b := (((decide (kind = 2)) || (decide (kind = 8))) || (decide (kind = 11))) && (decide (num < 0 ∨ 1073741824 < num))) rfl (fun h92 => ?_) (fun h92 => ?_)
            ·skip
             obtain ⟨h92a, h92b⟩ := andT h92
             replace h92b := dt h92b
             refine J_seq ?_
             refine J_region ?_
             refine JL_pure (v := .int .i64 (3)) rfl (Pu.assign rfl) ?_
             refine JL_nil ?_
             refine J_ret ?_
             refine ⟨.int .i64 (3), [], Ret.one rfl (RV.tmp rfl), Sub.nil, ?_⟩
             exact ⟨by refine congrArg (Value.int .i64) ?_; simp only [tHead]; (repeat' split) <;> first | rfl | omega | (exfalso; simp_all; done) | (exfalso; simp_all; omega) | grind, rfl⟩
            ·skip
             refine J_skip ?_
             refine J_seq ?_
             refine J_region ?_
             refine JL_pure (v := .int .i64 (0)) rfl (Pu.assign rfl) ?_
             refine JL_nil ?_
             refine J_ret ?_
             refine ⟨.int .i64 (0), [], Ret.one rfl (RV.tmp rfl), Sub.nil, ?_⟩
             exact ⟨by refine congrArg (Value.int .i64) ?_; simp only [tHead]; (repeat' split) <;> first | rfl | omega | (exfalso; simp_all; done) | (exfalso; simp_all; omega) | grind, rfl⟩
end Go.Proofs.Ytmdifonjepggcaa.Hs
/-! Walks, printed by a program of this session's own (gen.py). -/
namespace Go.Proofs.Ytmdifonjepggcaa.Hs
open Go Go.Proofs
set_option maxRecDepth 100000
set_option linter.unusedVariables false
set_option linter.unusedSimpArgs false
attribute [local irreducible] JL J CT wlo
theorem parts_ct (cs : List Value) (H : Heap) (hl : cs.length = 36) : CT Try.prog 76 ⟨[.agg ⟨cs⟩]⟩ [] H (fun v N => ∃ b, v = .func (.func 92) ⟨[]⟩ ⟨[.pointer (some ⟨b, 0, none⟩)]⟩ ∧ N = [[(b, .cells ⟨cs⟩ 30 (0, 0))]]) := by
 refine CT_enter Try.func76 rfl rfl ?_
 refine J_seq ?_
 refine J_region ?_
 refine JL_run rfl (Runs_box (l := cs) rfl rfl fun b1 => ?_)
 refine JL_pure (v := .nilFunc) rfl (Pu.assign rfl) ?_
 refine JL_nil ?_
 refine J_seq ?_
 refine J_region ?_
 refine JL_pure (v := .func (.func 92) ⟨[]⟩ ⟨[.pointer (some ⟨b1, 0, none⟩)]⟩) rfl (Pu.makeFunc rfl rfl) ?_
 refine JL_pure (v := .func (.func 92) ⟨[]⟩ ⟨[.pointer (some ⟨b1, 0, none⟩)]⟩) rfl (Pu.assign rfl) ?_
 refine JL_nil ?_
 refine J_ret ?_
 refine ⟨.func (.func 92) ⟨[]⟩ ⟨[.pointer (some ⟨b1, 0, none⟩)]⟩, [[(b1, .cells ⟨cs⟩ 30 (0, 0))]], Ret.one rfl (RV.tmp rfl), (Sk Sub.nil), ?_⟩
 exact ⟨_, rfl, rfl⟩
theorem parts1_ct (kind num : Int) (ref : Sm) (ks cv : Value) (kids : List Tm) (cases : List (Pt × Tm)) (H : Heap) (bT : Nat) (hks : rdS RT 36 H ks kids) (hcv : rdS RC 71 H cv cases) (hT : H bT = some (.cells ⟨pkT kind num ref ks cv⟩ 30 (0, 0))) (hsz : ∀ c ∈ cases, binds c.1 ≤ 1000000) (hkl : kids.length ≤ 1000000) (hcl : cases.length ≤ 1000000) (l : Nat) {σ : Type} (yc : σ → Chunk) (Inv : σ → Prop) (step : Tm → Int → σ → Bool × σ) (s0 : σ) (h0 : Inv s0) (It : Tm → Int → Prop) (hIK : ∀ (j : Nat) (hj : j < kids.length), It kids[j] (more kind j)) (hIC : ∀ (j : Nat) (hj : j < cases.length), It cases[j].2 (binds cases[j].1 : Int)) (hI : ∀ x mo s, Inv s → (step x mo s).1 = true → Inv (step x mo s).2) (hy : ∀ x mo, It x mo → ∀ s (i : Int) a h, Inv s → Hle H h → RT h a x → YT Try.prog l ⟨[.int .i64 i, .agg ⟨a ++ [.int .i64 mo]⟩]⟩ [yc s] h (fun v N => v = .bool (step x mo s).1 ∧ N = [yc (step x mo s).2])) : CT Try.prog 92 ⟨[.func (.yield l) ⟨[]⟩ ⟨[]⟩, .pointer (some ⟨bT, 0, none⟩)]⟩ [yc s0] H (fun _ N => N = [yc (yP step kind kids cases s0)]) := by
 refine CT_enter Try.func92 rfl rfl ?_
 refine J_seq ?_
 refine J_seq ?_
 refine J_region ?_
 refine JL_pure (v := .pointer (some ⟨bT, 34, none⟩)) rfl (fa30_3 rfl rfl) ?_
 refine JL_run rfl (Pu_load1 ty27 rfl (At.im hT) (pkT_34 ..) ?_)
 obtain ⟨a1, cap1, hv1⟩ := hks.sl
 have hle1 := hks.le
 refine JL_pure (v := .int .i64 (((kids).length : Int))) rfl (Pu.lenSl Try.runUnderlying27 hv1) ?_
 refine JL_pure (v := .int .i64 (0)) rfl (Pu.move rfl) ?_
 refine JL_nil ?_
 refine J_block ?_
 refine J_loop (fun k ρ M => ∃ (j : Nat) (s : σ), ρ 0 = .func (.yield l) ⟨[]⟩ ⟨[]⟩ ∧ ρ 1 = .pointer (some ⟨bT, 0, none⟩) ∧ ρ 8 = ks ∧ ρ 9 = .int .i64 (((kids).length : Int)) ∧ ρ 10 = .int .i64 ((j : Int)) ∧ Sub [yc s] M ∧ j ≤ (kids).length ∧ Inv s ∧ yK step kind j (kids.drop j) s = yK step kind 0 kids s0 ∧ k = (kids).length - j) _ ⟨0, s0, rfl, rfl, rfl, rfl, rfl, (Sk Sub.nil), Nat.zero_le _, h0, rfl, rfl⟩ ?_
 rintro _ ρ2 _ ⟨j, s, e3, e4, e5, e6, e7, hm8, hj, hs, hinv, rfl⟩
 obtain ⟨ρ9, rfl⟩ := reopen_ex (uc e3 (uc e4 (uc e5 (uc e6 (uc e7 un)))))
 clear e3 e4 e5 e6 e7
 refine J_sub hm8 ?_
 have hlen := hks.le
 refine J_seq ?_
 refine J_region ?_
 refine JL_pure (v := .bool (decide ((j : Int) < ((kids).length : Int)))) rfl (Pu.lss rfl rfl) ?_
 refine JL_nil ?_
 refine J_seq ?_
 refine J_cond (b := decide ((j : Int) < ((kids).length : Int))) rfl (fun h10 => ?_) (fun h10 => ?_)
 ·skip
  replace h10 := dt h10
  have h10n : j < (kids).length := by omega
  refine J_skip ?_
  refine J_seq ?_
  refine J_block ?_
  refine J_seq ?_
  refine J_region ?_
  refine JL_pure (v := .int .i64 ((j : Int))) rfl (Pu.move rfl) ?_
  obtain ⟨b11, o11, cap11, row11, T11, fr11, cs11, hv11, hb11, hs11, hE11⟩ := hks.get j (by first | assumption | omega | decide | simp)
  refine JL_pure (v := .pointer (some ⟨b11, o11 + j * 36, none⟩)) rfl (Pu.idx j Try.runUnderlying27 ty30 hv11 rfl rfl (by first | assumption | omega | decide | simp)) ?_
  refine JL_run rfl (Pu_load ty30 rfl (At.im hb11) hs11 ?_)
  refine JL_run rfl (Runs_alloc (l := pkT (0) (0) (zS) (.slice none 0 0) (.slice none 0 0)) Try.zeroValue30 rfl fun b12 => ?_)
  refine JL_pure (v := .int .i64 ((j : Int))) rfl (Pu.assign rfl) ?_
  refine JL_run rfl (Runs_storeB 0 (vs := cs11) (l := cs11) ty30 rfl rfl rfl rfl (RT_len hE11) (RT_ok hE11) (spl_a (n := 36) rfl (RT_len hE11)) ?_)
  refine JL_nil ?_
  refine J_seq ?_
  refine J_draw mixed #[0, 0, 0, 0, 8, 0, 56, 124, 255, 511] 8 8 2 rfl (by kernel_rfl) (fun i r13 N13 => match i with | 0 => (r13 0) = .func (.yield l) ⟨[]⟩ ⟨[]⟩ | 1 => (r13 1) = .int .i64 ((j : Int)) | 2 => (r13 2) = .agg ⟨cs11⟩ | 3 => (r13 3) = .pointer (some ⟨bT, 0, none⟩) | 4 => (r13 4) = .int .i64 (kind) | 5 => (r13 5) = .int .i64 ((j : Int)) | 6 => (r13 6) = .int .i64 (more (kind) ((j : Int))) | 7 => (r13 7) = .agg ⟨(cs11) ++ ([.int .i64 (more (kind) ((j : Int)))] : List Value)⟩ | _ => True) ⟨?_, ?_, ?_, ?_, ?_, ?_, ?_, ?_, trivial⟩ ?_
  ·intro ρ r13 N13 B hB hBa hp hr hr0
   have q0 : ρ 0 = .func (.yield l) ⟨[]⟩ ⟨[]⟩ := hr0 0 (by kernel_rfl)
   obtain ⟨ρ14, rfl⟩ := reopen_ex (uc q0 un)
   clear q0
   refine JL_pure (v := .func (.yield l) ⟨[]⟩ ⟨[]⟩) rfl (Pu.move rfl) ?_
   refine JL_nil ?_
   exact ⟨.func (.yield l) ⟨[]⟩ ⟨[]⟩, [], rfl, (Sub.emp Sub.refl), rfl⟩
  ·intro ρ r13 N13 B hB hBa hp hr hr0
   have q3 : ρ 3 = .int .i64 ((j : Int)) := hr0 3 (by kernel_rfl)
   obtain ⟨ρ15, rfl⟩ := reopen_ex (uc q3 un)
   clear q3
   refine JL_pure (v := .int .i64 ((j : Int))) rfl (Pu.move rfl) ?_
   refine JL_nil ?_
   exact ⟨.int .i64 ((j : Int)), [], rfl, (Sub.emp Sub.refl), rfl⟩
  ·intro ρ r13 N13 B hB hBa hp hr hr0
   have q4 : ρ 4 = .pointer (some ⟨b12, 0, none⟩) := hr0 4 (by kernel_rfl)
   obtain ⟨ρ16, rfl⟩ := reopen_ex (uc q4 un)
   clear q4
   refine JL_run rfl (Pu_load ty30 rfl (At.bx 8 (made_old ((hB 0 (by decide)).trans rfl))) (sub_a (RT_len hE11)) ?_)
   refine JL_nil ?_
   exact ⟨.agg ⟨cs11⟩, [], rfl, (Sub.emp Sub.refl), rfl⟩
  ·intro ρ r13 N13 B hB hBa hp hr hr0
   have q1 : ρ 1 = .pointer (some ⟨bT, 0, none⟩) := hr0 1 (by kernel_rfl)
   obtain ⟨ρ17, rfl⟩ := reopen_ex (uc q1 un)
   clear q1
   refine JL_pure (v := .pointer (some ⟨bT, 0, none⟩)) rfl (fa30_0 rfl rfl) ?_
   refine JL_nil ?_
   exact ⟨.pointer (some ⟨bT, 0, none⟩), [], rfl, (Sub.emp Sub.refl), rfl⟩
  ·intro ρ r13 N13 B hB hBa hp hr hr0
   have q18 : ρ 18 = .pointer (some ⟨bT, 0, none⟩) := (hr 3 _ _ (by decide) rfl rfl rfl).trans (hp 3 (by decide) rfl)
   obtain ⟨ρ18, rfl⟩ := reopen_ex (uc q18 un)
   clear q18
   refine JL_run rfl (Pu_load1 ty3 rfl (At.im hT) (pkT_0 ..) ?_)
   refine JL_nil ?_
   exact ⟨.int .i64 (kind), [], rfl, (Sub.emp Sub.refl), rfl⟩
  ·intro ρ r13 N13 B hB hBa hp hr hr0
   have q3 : ρ 3 = .int .i64 ((j : Int)) := hr0 3 (by kernel_rfl)
   obtain ⟨ρ19, rfl⟩ := reopen_ex (uc q3 un)
   clear q3
   refine JL_pure (v := .int .i64 ((j : Int))) rfl (Pu.move rfl) ?_
   refine JL_nil ?_
   exact ⟨.int .i64 ((j : Int)), [], rfl, (Sub.emp Sub.refl), rfl⟩
  ·intro ρ r13 N13 B hB hBa hp hr hr0
   have q19 : ρ 19 = .int .i64 (kind) := (hr 4 _ _ (by decide) rfl rfl rfl).trans (hp 4 (by decide) rfl)
   have q20 : ρ 20 = .int .i64 ((j : Int)) := (hr 5 _ _ (by decide) rfl rfl rfl).trans (hp 5 (by decide) rfl)
   obtain ⟨ρ20, rfl⟩ := reopen_ex (uc q19 (uc q20 un))
   clear q19 q20
   refine JL_call rfl Try.call47 rfl (fun hin => more_ct _ _ _) rfl ?_
   rintro _ _ ⟨rfl, rfl⟩
   refine JL_nil ?_
   exact ⟨.int .i64 (more (kind) ((j : Int))), [], rfl, (Sub.emp Sub.refl), rfl⟩
  ·intro ρ r13 N13 B hB hBa hp hr hr0
   have q17 : ρ 17 = .agg ⟨cs11⟩ := (hr 2 _ _ (by decide) rfl rfl rfl).trans (hp 2 (by decide) rfl)
   have q21 : ρ 21 = .int .i64 (more (kind) ((j : Int))) := (hr 6 _ _ (by decide) rfl rfl rfl).trans (hp 6 (by decide) rfl)
   obtain ⟨ρ21, rfl⟩ := reopen_ex (uc q17 (uc q21 un))
   clear q17 q21
   refine JL_pure (v := .agg ⟨(cs11) ++ ([.int .i64 (more (kind) ((j : Int)))] : List Value)⟩) rfl (Pu.build (pv := [(0, .agg ⟨cs11⟩), (1, .int .i64 (more (kind) ((j : Int))))]) (l := (cs11) ++ ([.int .i64 (more (kind) ((j : Int)))] : List Value)) rfl (bld124_0_1 (RT_len hE11))) ?_
   refine JL_nil ?_
   exact ⟨.agg ⟨(cs11) ++ ([.int .i64 (more (kind) ((j : Int)))] : List Value)⟩, [], rfl, (Sub.emp Sub.refl), rfl⟩
  ·intro ρ r13 N13 hp hr hr0
   have q0 : ρ 0 = .func (.yield l) ⟨[]⟩ ⟨[]⟩ := hr0 0 (by kernel_rfl)
   have q1 : ρ 1 = .pointer (some ⟨bT, 0, none⟩) := hr0 1 (by kernel_rfl)
   have q8 : ρ 8 = ks := hr0 8 (by kernel_rfl)
   have q9 : ρ 9 = .int .i64 (((kids).length : Int)) := hr0 9 (by kernel_rfl)
   have q10 : ρ 10 = .int .i64 ((j : Int)) := hr0 10 (by kernel_rfl)
   have q15 : ρ 15 = .func (.yield l) ⟨[]⟩ ⟨[]⟩ := (hr 0 _ _ (by decide) rfl rfl).trans (hp 0 (by decide))
   have q16 : ρ 16 = .int .i64 ((j : Int)) := (hr 1 _ _ (by decide) rfl rfl).trans (hp 1 (by decide))
   have q22 : ρ 22 = .agg ⟨(cs11) ++ ([.int .i64 (more (kind) ((j : Int)))] : List Value)⟩ := (hr 7 _ _ (by decide) rfl rfl).trans (hp 7 (by decide))
   obtain ⟨ρ22, rfl⟩ := reopen_ex (uc q0 (uc q1 (uc q8 (uc q9 (uc q10 (uc q15 (uc q16 (uc q22 un))))))))
   clear q0 q1 q8 q9 q10 q15 q16 q22
   clear hp hr hr0 
   refine JL_sub (M' := [(N13 0), (N13 1), (N13 2), (N13 3), (N13 4), (N13 5), (N13 6), (N13 7), [(b12, .cells ⟨cs11⟩ 30 (0, 0))], yc s]) Sub.refl ?_
   refine JL_sub (M' := [[(b12, .cells ⟨cs11⟩ 30 (0, 0))], yc s]) (Sd (Sd (Sd (Sd (Sd (Sd (Sd (Sd (Sk (Sk Sub.nil)))))))))) ?_
   show JL _ _ _ [_, _] _ _ _
   refine JL_yield1 1 rfl rfl rfl (fun hin => hy _ _ (hIK j h10n) _ _ _ _ hs (Hle.hu _ _) (RT.mono (Hle.hu _ _) hE11)) rfl ?_
   rintro _ _ ⟨rfl, rfl⟩
   refine JL_pure (v := .bool (!((step ((kids)[j]) (more (kind) ((j : Int))) (s)).1))) rfl (Pu.not rfl) ?_
   refine JL_nil ?_
   refine J_cond (b := !((step ((kids)[j]) (more (kind) ((j : Int))) (s)).1)) rfl (fun h23 => ?_) (fun h23 => ?_)
   ·skip
    replace h23 := nt h23
    refine J_ret ?_
    refine ⟨.tuple ⟨[]⟩, [yc (step ((kids)[j]) (more (kind) ((j : Int))) (s)).2], Ret.none rfl, (Sk Sub.nil), ?_⟩
    rw [dropc h10n, yK, if_neg (by simp [h23])] at hinv
    show _ = _; rw [yP, ← hinv]; rfl
   ·skip
    replace h23 := nf h23
    refine J_skip ?_
    refine J_region ?_
    refine JL_pure (v := .int .i64 (((j + 1 : Nat) : Int))) rfl (Pu.inc rfl rfl (by omega)) ?_
    refine JL_pure (v := .int .i64 (((j + 1 : Nat) : Int))) rfl (Pu.move rfl) ?_
    refine JL_nil ?_
    refine ⟨_, ?_, (j + 1), ((step ((kids)[j]) (more (kind) ((j : Int))) (s)).2), rfl, rfl, rfl, rfl, rfl, (Sk Sub.nil), ?_, ?_, ?_, rfl⟩
    ·omega
    ·omega
    ·exact hI _ _ s hs h23
    ·rw [dropc h10n, yK, if_pos h23] at hinv; exact hinv
 ·skip
  replace h10 := df h10
  have h10n : (kids).length ≤ j := by omega
  refine J_exit _ rfl ?_
  refine J_seq ?_
  refine J_region ?_
  refine JL_pure (v := .pointer (some ⟨bT, 35, none⟩)) rfl (fa30_4 rfl rfl) ?_
  refine JL_run rfl (Pu_load1 ty28 rfl (At.im hT) (pkT_35 ..) ?_)
  obtain ⟨a24, cap24, hv24⟩ := hcv.sl
  have hle24 := hcv.le
  refine JL_pure (v := .int .i64 (((cases).length : Int))) rfl (Pu.lenSl Try.runUnderlying28 hv24) ?_
  refine JL_pure (v := .int .i64 (0)) rfl (Pu.move rfl) ?_
  refine JL_nil ?_
  refine J_block ?_
  have hk1 : yK step kind 0 kids s0 = (true, s) := by rw [← hinv, dropn h10n]; rfl
  refine J_loop (fun k ρ M => ∃ (j : Nat) (s2 : σ), ρ 0 = .func (.yield l) ⟨[]⟩ ⟨[]⟩ ∧ ρ 1 = .pointer (some ⟨bT, 0, none⟩) ∧ ρ 27 = cv ∧ ρ 28 = .int .i64 (((cases).length : Int)) ∧ ρ 29 = .int .i64 ((j : Int)) ∧ Sub [yc s2] M ∧ j ≤ (cases).length ∧ Inv s2 ∧ yC step (cases.drop j) s2 = yC step cases s ∧ k = (cases).length - j) _ ⟨0, s, rfl, rfl, rfl, rfl, rfl, (Sk Sub.nil), Nat.zero_le _, hs, rfl, rfl⟩ ?_
  rintro _ ρ25 _ ⟨j, s2, e26, e27, e28, e29, e30, hm31, hj, hs, hinv, rfl⟩
  obtain ⟨ρ32, rfl⟩ := reopen_ex (uc e26 (uc e27 (uc e28 (uc e29 (uc e30 un)))))
  clear e26 e27 e28 e29 e30
  refine J_sub hm31 ?_
  have hlen := hcv.le
  refine J_seq ?_
  refine J_region ?_
  refine JL_pure (v := .bool (decide ((j : Int) < ((cases).length : Int)))) rfl (Pu.lss rfl rfl) ?_
  refine JL_nil ?_
  refine J_seq ?_
  refine J_cond (b := decide ((j : Int) < ((cases).length : Int))) rfl (fun h33 => ?_) (fun h33 => ?_)
  ·skip
   replace h33 := dt h33
   have h33n : j < (cases).length := by omega
   have hbm := hsz _ (List.getElem_mem h33n)
   have hlenk := hks.le
   refine J_skip ?_
   refine J_seq ?_
   refine J_block ?_
   refine J_seq ?_
   refine J_region ?_
   refine JL_pure (v := .int .i64 ((j : Int))) rfl (Pu.move rfl) ?_
   obtain ⟨b34, o34, cap34, row34, T34, fr34, cs34, hv34, hb34, hs34, hE34⟩ := hcv.get j (by first | assumption | omega | decide | simp)
   obtain ⟨ca34, cb34, rfl, hA34, hB34⟩ := hE34
   refine JL_pure (v := .pointer (some ⟨b34, o34 + j * 71, none⟩)) rfl (Pu.idx j Try.runUnderlying28 ty68 hv34 rfl rfl (by first | assumption | omega | decide | simp)) ?_
   refine JL_run rfl (Pu_load ty68 rfl (At.im hb34) hs34 ?_)
   refine JL_run rfl (Runs_alloc (l := (pkP (0) (0) (zS) (.slice none 0 0)) ++ (pkT (0) (0) (zS) (.slice none 0 0) (.slice none 0 0))) Try.zeroValue68 rfl fun b35 => ?_)
   refine JL_pure (v := .int .i64 ((j : Int))) rfl (Pu.assign rfl) ?_
   refine JL_run rfl (Runs_storeB 0 (vs := (ca34) ++ (cb34)) (l := (ca34) ++ (cb34)) ty68 rfl rfl rfl rfl (len_app (RP_len hA34) (RT_len hB34)) (okc_app (RP_ok hA34) (RT_ok hB34)) (spl_a (n := 71) rfl (len_app (RP_len hA34) (RT_len hB34))) ?_)
   refine JL_nil ?_
   refine J_seq ?_
   obtain ⟨a37, cap37, hv37⟩ := hks.sl
   have hle37 := hks.le
   refine J_draw mixed #[0, 0, 2, 6, 0, 30, 0, 64, 0, 256, 768, 1984, 4095, 8191] 12 12 2 rfl (by kernel_rfl) (fun i r36 N36 => match i with | 0 => (r36 0) = .func (.yield l) ⟨[]⟩ ⟨[]⟩ | 1 => (r36 1) = .pointer (some ⟨bT, 34, none⟩) | 2 => (r36 2) = ks | 3 => (r36 3) = .int .i64 (((kids).length : Int)) | 4 => (r36 4) = .int .i64 ((j : Int)) | 5 => (r36 5) = .int .i64 (((kids).length : Int) + ((j : Int))) | 6 => (r36 6) = .pointer (some ⟨b35, 35, none⟩) | 7 => (r36 7) = .agg ⟨cb34⟩ | 8 => (r36 8) = .pointer (some ⟨b35, 0, none⟩) | 9 => (r36 9) = .agg ⟨ca34⟩ | 10 => (r36 10) = .int .i64 ((binds ((cases)[j].1) : Int)) | 11 => (r36 11) = .agg ⟨(cb34) ++ ([.int .i64 ((binds ((cases)[j].1) : Int))] : List Value)⟩ | _ => True) ⟨?_, ?_, ?_, ?_, ?_, ?_, ?_, ?_, ?_, ?_, ?_, ?_, trivial⟩ ?_
   ·intro ρ r36 N36 B hB hBa hp hr hr0
    have q0 : ρ 0 = .func (.yield l) ⟨[]⟩ ⟨[]⟩ := hr0 0 (by kernel_rfl)
    obtain ⟨ρ38, rfl⟩ := reopen_ex (uc q0 un)
    clear q0
    refine JL_pure (v := .func (.yield l) ⟨[]⟩ ⟨[]⟩) rfl (Pu.move rfl) ?_
    refine JL_nil ?_
    exact ⟨.func (.yield l) ⟨[]⟩ ⟨[]⟩, [], rfl, (Sub.emp Sub.refl), rfl⟩
   ·intro ρ r36 N36 B hB hBa hp hr hr0
    have q1 : ρ 1 = .pointer (some ⟨bT, 0, none⟩) := hr0 1 (by kernel_rfl)
    obtain ⟨ρ39, rfl⟩ := reopen_ex (uc q1 un)
    clear q1
    refine JL_pure (v := .pointer (some ⟨bT, 34, none⟩)) rfl (fa30_3 rfl rfl) ?_
    refine JL_nil ?_
    exact ⟨.pointer (some ⟨bT, 34, none⟩), [], rfl, (Sub.emp Sub.refl), rfl⟩
   ·intro ρ r36 N36 B hB hBa hp hr hr0
    have q35 : ρ 35 = .pointer (some ⟨bT, 34, none⟩) := (hr 1 _ _ (by decide) rfl rfl rfl).trans (hp 1 (by decide) rfl)
    obtain ⟨ρ40, rfl⟩ := reopen_ex (uc q35 un)
    clear q35
    refine JL_run rfl (Pu_load1 ty27 rfl (At.im hT) (pkT_34 ..) ?_)
    refine JL_nil ?_
    exact ⟨ks, [], rfl, (Sub.emp Sub.refl), rfl⟩
   ·intro ρ r36 N36 B hB hBa hp hr hr0
    have q36 : ρ 36 = ks := (hr 2 _ _ (by decide) rfl rfl rfl).trans (hp 2 (by decide) rfl)
    obtain ⟨ρ41, rfl⟩ := reopen_ex (uc q36 un)
    clear q36
    refine JL_pure (v := .int .i64 (((kids).length : Int))) rfl (Pu.lenSl Try.runUnderlying27 hv37) ?_
    refine JL_nil ?_
    exact ⟨.int .i64 (((kids).length : Int)), [], rfl, (Sub.emp Sub.refl), rfl⟩
   ·intro ρ r36 N36 B hB hBa hp hr hr0
    have q5 : ρ 5 = .int .i64 ((j : Int)) := hr0 5 (by kernel_rfl)
    obtain ⟨ρ42, rfl⟩ := reopen_ex (uc q5 un)
    clear q5
    refine JL_pure (v := .int .i64 ((j : Int))) rfl (Pu.move rfl) ?_
    refine JL_nil ?_
    exact ⟨.int .i64 ((j : Int)), [], rfl, (Sub.emp Sub.refl), rfl⟩
   ·intro ρ r36 N36 B hB hBa hp hr hr0
    have q37 : ρ 37 = .int .i64 (((kids).length : Int)) := (hr 3 _ _ (by decide) rfl rfl rfl).trans (hp 3 (by decide) rfl)
    have q38 : ρ 38 = .int .i64 ((j : Int)) := (hr 4 _ _ (by decide) rfl rfl rfl).trans (hp 4 (by decide) rfl)
    obtain ⟨ρ43, rfl⟩ := reopen_ex (uc q37 (uc q38 un))
    clear q37 q38
    refine JL_pure (v := .int .i64 (((kids).length : Int) + ((j : Int)))) rfl (Pu.add64 rfl rfl (by first | omega | (constructor <;> omega))) ?_
    refine JL_nil ?_
    exact ⟨.int .i64 (((kids).length : Int) + ((j : Int))), [], rfl, (Sub.emp Sub.refl), rfl⟩
   ·intro ρ r36 N36 B hB hBa hp hr hr0
    have q6 : ρ 6 = .pointer (some ⟨b35, 0, none⟩) := hr0 6 (by kernel_rfl)
    obtain ⟨ρ44, rfl⟩ := reopen_ex (uc q6 un)
    clear q6
    refine JL_pure (v := .pointer (some ⟨b35, 35, none⟩)) rfl (fa68_1 rfl rfl) ?_
    refine JL_nil ?_
    exact ⟨.pointer (some ⟨b35, 35, none⟩), [], rfl, (Sub.emp Sub.refl), rfl⟩
   ·intro ρ r36 N36 B hB hBa hp hr hr0
    have q40 : ρ 40 = .pointer (some ⟨b35, 35, none⟩) := (hr 6 _ _ (by decide) rfl rfl rfl).trans (hp 6 (by decide) rfl)
    obtain ⟨ρ45, rfl⟩ := reopen_ex (uc q40 un)
    clear q40
    refine JL_run rfl (Pu_load ty30 rfl (At.bx 12 (made_old ((hB 0 (by decide)).trans rfl))) (sub_r (RP_len hA34) (RT_len hB34)) ?_)
    refine JL_nil ?_
    exact ⟨.agg ⟨cb34⟩, [], rfl, (Sub.emp Sub.refl), rfl⟩
   ·intro ρ r36 N36 B hB hBa hp hr hr0
    have q6 : ρ 6 = .pointer (some ⟨b35, 0, none⟩) := hr0 6 (by kernel_rfl)
    obtain ⟨ρ46, rfl⟩ := reopen_ex (uc q6 un)
    clear q6
    refine JL_pure (v := .pointer (some ⟨b35, 0, none⟩)) rfl (fa68_0 rfl rfl) ?_
    refine JL_nil ?_
    exact ⟨.pointer (some ⟨b35, 0, none⟩), [], rfl, (Sub.emp Sub.refl), rfl⟩
   ·intro ρ r36 N36 B hB hBa hp hr hr0
    have q42 : ρ 42 = .pointer (some ⟨b35, 0, none⟩) := (hr 8 _ _ (by decide) rfl rfl rfl).trans (hp 8 (by decide) rfl)
    obtain ⟨ρ47, rfl⟩ := reopen_ex (uc q42 un)
    clear q42
    refine JL_run rfl (Pu_load ty66 rfl (At.bx 12 (made_old ((hB 0 (by decide)).trans rfl))) (sub_l (RP_len hA34)) ?_)
    refine JL_nil ?_
    exact ⟨.agg ⟨ca34⟩, [], rfl, (Sub.emp Sub.refl), rfl⟩
   ·intro ρ r36 N36 B hB hBa hp hr hr0
    have q43 : ρ 43 = .agg ⟨ca34⟩ := (hr 9 _ _ (by decide) rfl rfl rfl).trans (hp 9 (by decide) rfl)
    obtain ⟨ρ48, rfl⟩ := reopen_ex (uc q43 un)
    clear q43
    refine JL_call rfl Try.call49 rfl (fun hin => binds_ct _ _ _ (RP.mono (Hle.hu _ _) hA34) (by omega)) rfl ?_
    rintro _ _ ⟨rfl, rfl⟩
    refine JL_nil ?_
    exact ⟨.int .i64 ((binds ((cases)[j].1) : Int)), [], rfl, (Sub.emp Sub.refl), rfl⟩
   ·intro ρ r36 N36 B hB hBa hp hr hr0
    have q41 : ρ 41 = .agg ⟨cb34⟩ := (hr 7 _ _ (by decide) rfl rfl rfl).trans (hp 7 (by decide) rfl)
    have q44 : ρ 44 = .int .i64 ((binds ((cases)[j].1) : Int)) := (hr 10 _ _ (by decide) rfl rfl rfl).trans (hp 10 (by decide) rfl)
    obtain ⟨ρ49, rfl⟩ := reopen_ex (uc q41 (uc q44 un))
    clear q41 q44
    refine JL_pure (v := .agg ⟨(cb34) ++ ([.int .i64 ((binds ((cases)[j].1) : Int))] : List Value)⟩) rfl (Pu.build (pv := [(0, .agg ⟨cb34⟩), (1, .int .i64 ((binds ((cases)[j].1) : Int)))]) (l := (cb34) ++ ([.int .i64 ((binds ((cases)[j].1) : Int))] : List Value)) rfl (bld124_0_1 (RT_len hB34))) ?_
    refine JL_nil ?_
    exact ⟨.agg ⟨(cb34) ++ ([.int .i64 ((binds ((cases)[j].1) : Int))] : List Value)⟩, [], rfl, (Sub.emp Sub.refl), rfl⟩
   ·intro ρ r36 N36 hp hr hr0
    have q0 : ρ 0 = .func (.yield l) ⟨[]⟩ ⟨[]⟩ := hr0 0 (by kernel_rfl)
    have q1 : ρ 1 = .pointer (some ⟨bT, 0, none⟩) := hr0 1 (by kernel_rfl)
    have q27 : ρ 27 = cv := hr0 27 (by kernel_rfl)
    have q28 : ρ 28 = .int .i64 (((cases).length : Int)) := hr0 28 (by kernel_rfl)
    have q29 : ρ 29 = .int .i64 ((j : Int)) := hr0 29 (by kernel_rfl)
    have q34 : ρ 34 = .func (.yield l) ⟨[]⟩ ⟨[]⟩ := (hr 0 _ _ (by decide) rfl rfl).trans (hp 0 (by decide))
    have q39 : ρ 39 = .int .i64 (((kids).length : Int) + ((j : Int))) := (hr 5 _ _ (by decide) rfl rfl).trans (hp 5 (by decide))
    have q45 : ρ 45 = .agg ⟨(cb34) ++ ([.int .i64 ((binds ((cases)[j].1) : Int))] : List Value)⟩ := (hr 11 _ _ (by decide) rfl rfl).trans (hp 11 (by decide))
    obtain ⟨ρ50, rfl⟩ := reopen_ex (uc q0 (uc q1 (uc q27 (uc q28 (uc q29 (uc q34 (uc q39 (uc q45 un))))))))
    clear q0 q1 q27 q28 q29 q34 q39 q45
    clear hp hr hr0 
    refine JL_sub (M' := [(N36 0), (N36 1), (N36 2), (N36 3), (N36 4), (N36 5), (N36 6), (N36 7), (N36 8), (N36 9), (N36 10), (N36 11), [(b35, .cells ⟨(ca34) ++ (cb34)⟩ 68 (0, 0))], yc s2]) Sub.refl ?_
    refine JL_sub (M' := [[(b35, .cells ⟨(ca34) ++ (cb34)⟩ 68 (0, 0))], yc s2]) (Sd (Sd (Sd (Sd (Sd (Sd (Sd (Sd (Sd (Sd (Sd (Sd (Sk (Sk Sub.nil)))))))))))))) ?_
    show JL _ _ _ [_, _] _ _ _
    refine JL_yield1 1 rfl rfl rfl (fun hin => hy _ _ (hIC j h33n) _ _ _ _ hs (Hle.hu _ _) (RT.mono (Hle.hu _ _) hB34)) rfl ?_
    rintro _ _ ⟨rfl, rfl⟩
    refine JL_pure (v := .bool (!((step ((cases)[j].2) ((binds ((cases)[j].1) : Int)) (s2)).1))) rfl (Pu.not rfl) ?_
    refine JL_nil ?_
    refine J_cond (b := !((step ((cases)[j].2) ((binds ((cases)[j].1) : Int)) (s2)).1)) rfl (fun h51 => ?_) (fun h51 => ?_)
    ·skip
     replace h51 := nt h51
     refine J_ret ?_
     refine ⟨.tuple ⟨[]⟩, [yc (step ((cases)[j].2) ((binds ((cases)[j].1) : Int)) (s2)).2], Ret.none rfl, (Sk Sub.nil), ?_⟩
     rw [dropc h33n, yC, if_neg (by simp [h51])] at hinv
     show _ = _; rw [yP, hk1, if_pos rfl, ← hinv]
    ·skip
     replace h51 := nf h51
     refine J_skip ?_
     refine J_region ?_
     refine JL_pure (v := .int .i64 (((j + 1 : Nat) : Int))) rfl (Pu.inc rfl rfl (by omega)) ?_
     refine JL_pure (v := .int .i64 (((j + 1 : Nat) : Int))) rfl (Pu.move rfl) ?_
     refine JL_nil ?_
     refine ⟨_, ?_, (j + 1), ((step ((cases)[j].2) ((binds ((cases)[j].1) : Int)) (s2)).2), rfl, rfl, rfl, rfl, rfl, (Sk Sub.nil), ?_, ?_, ?_, rfl⟩
     ·omega
     ·omega
     ·exact hI _ _ s2 hs h51
     ·rw [dropc h33n, yC, if_pos h51] at hinv; exact hinv
  ·skip
   replace h33 := df h33
   have h33n : (cases).length ≤ j := by omega
   refine J_exit _ rfl ?_
   refine ⟨.tuple ⟨[]⟩, [yc s2], Ret.none rfl, (Sk Sub.nil), ?_⟩
   show _ = _; rw [yP, hk1, if_pos rfl, ← hinv, dropn h33n]; rfl
end Go.Proofs.Ytmdifonjepggcaa.Hs
/-! Walks, printed by a program of this session's own (gen.py). -/
namespace Go.Proofs.Ytmdifonjepggcaa.Hs
open Go Go.Proofs
set_option maxRecDepth 100000
set_option linter.unusedVariables false
set_option linter.unusedSimpArgs false
attribute [local irreducible] JL J CT wlo
theorem all_ct : ∀ (t : Tm) (d m b : Int) (cs : List Value) (H : Heap) (bD : Nat), RT H cs t → H bD = some (.cells ⟨[.int .i64 d]⟩ 3 (0, 0)) → 0 ≤ b → b + 2 * sizeT t ≤ 1000000 → CT Try.prog 42 ⟨[.agg ⟨[.int .i64 (m), .func (.func 41) ⟨[]⟩ ⟨[.pointer (some ⟨bD, 0, none⟩)]⟩]⟩, .agg ⟨cs⟩, .int .i64 b]⟩ [] H (fun v N => v = .int .i64 (tErr d m b t) ∧ N = []) := by
 intro t
 induction t using Tm.ind with
 | h kind num ref kids cases ih ih' =>
 intro d m b cs H bD ht hD hb0 hb
 obtain ⟨ks, cv, rfl, hk, hn, hks, hcv⟩ := RT_mk.1 ht
 rw [sizeT] at hb
 have hn1 : -9223372036854775808 ≤ num := hn.1
 have hn2 : num ≤ 9223372036854775807 := hn.2
 have ihx : ∀ x mo, (fun x mo => ((∃ (j : Nat) (hj : j < kids.length), x = kids[j]) ∨ ∃ (j : Nat) (hj : j < cases.length), x = cases[j].2) ∧ 0 ≤ mo ∧ mo + 2 * (sizeT x : Int) ≤ 2 * ((1 + sizeTs kids + sizeCs cases : Nat) : Int)) x mo → ∀ (d m b : Int) (cs : List Value) (H : Heap) (bD : Nat), RT H cs x → H bD = some (.cells ⟨[.int .i64 d]⟩ 3 (0, 0)) → 0 ≤ b → b + 2 * sizeT x ≤ 1000000 → CT Try.prog 42 ⟨[.agg ⟨[.int .i64 (m), .func (.func 41) ⟨[]⟩ ⟨[.pointer (some ⟨bD, 0, none⟩)]⟩]⟩, .agg ⟨cs⟩, .int .i64 b]⟩ [] H (fun v N => v = .int .i64 (tErr d m b x) ∧ N = []) := by
  rintro x mo ⟨⟨j, hj, rfl⟩ | ⟨j, hj, rfl⟩, _, _⟩
  ·exact ih _ (List.getElem_mem hj)
  ·exact ih' _ (List.getElem_mem hj)
 refine CT_enter Try.func42 rfl rfl ?_
 refine J_seq ?_
 refine J_region ?_
 refine JL_run rfl (Runs_box (l := [.int .i64 (m), .func (.func 41) ⟨[]⟩ ⟨[.pointer (some ⟨bD, 0, none⟩)]⟩]) rfl rfl fun b1 => ?_)
 refine JL_run rfl (Runs_box (l := pkT (kind) (num) (ref) (ks) (cv)) rfl rfl fun b2 => ?_)
 refine JL_run rfl (Runs_box (l := [.int .i64 (b)]) rfl rfl fun b3 => ?_)
 refine JL_run rfl (Runs_alloc (l := [.int .i64 (0)]) Try.zeroValue33 rfl fun b4 => ?_)
 refine JL_nil ?_
 refine J_seq ?_
 refine J_seq ?_
 refine J_region ?_
 refine JL_run rfl (Pu_load ty94 rfl (At.bx 3 rfl) rfl ?_)
 refine JL_run rfl (Pu_load ty30 rfl (At.bx 2 rfl) (pkT_a ..) ?_)
 refine JL_run rfl (Pu_load1 ty3 rfl (At.bx 1 rfl) rfl ?_)
 refine JL_call rfl Try.call74 rfl (fun hin => chkTerm_ct _ _ _ _ _ _ _ _ _ _ _ bD (RTs.mono (Hle.hu _ _) hks) (RCs.mono (Hle.hu _ _) hcv) (Hle.hu _ _ _ _ hD) hb0 (by omega) hn1 hn2) rfl ?_
 rintro _ _ ⟨rfl, rfl⟩
 refine JL_pure (v := .int .i64 (tHead d m b kind num ref (kids).length (cases).length)) rfl (Pu.assign rfl) ?_
 refine JL_nil ?_
 refine J_seq ?_
 refine J_region ?_
 refine JL_pure (v := .int .i64 (tHead d m b kind num ref (kids).length (cases).length)) rfl (Pu.move rfl) ?_
 refine JL_pure (v := .bool (!decide (tHead d m b kind num ref (kids).length (cases).length = 0))) rfl (Pu.neq rfl rfl) ?_
 refine JL_nil ?_
 refine J_cond (b := !decide (tHead d m b kind num ref (kids).length (cases).length = 0)) rfl (fun h5 => ?_) (fun h5 => ?_)
 ·skip
  replace h5 := nt h5
  replace h5 := df h5
  refine J_seq ?_
  refine J_region ?_
  refine JL_pure (v := .int .i64 (tHead d m b kind num ref (kids).length (cases).length)) rfl (Pu.move rfl) ?_
  refine JL_run rfl (Runs_storeB 0 (vs := [.int .i64 (tHead d m b kind num ref (kids).length (cases).length)]) (l := [.int .i64 (tHead d m b kind num ref (kids).length (cases).length)]) ty33 rfl rfl rfl rfl rfl (okc_cons rfl okc_nil) rfl ?_)
  refine JL_nil ?_
  refine J_ret ?_
  refine ⟨.int .i64 (tHead d m b kind num ref (kids).length (cases).length), [], Ret.one rfl (RV.cell1 ty33 rfl (At.bx 0 rfl) rfl), Sub.nil, ?_⟩
  exact ⟨by rw [tErr, if_neg h5], rfl⟩
 ·skip
  replace h5 := nf h5
  replace h5 := dt h5
  refine J_skip ?_
  refine J_seq ?_
  refine J_seq ?_
  refine J_region ?_
  refine JL_pure (v := .pointer (some ⟨b2, 35, none⟩)) rfl (fa30_4 rfl rfl) ?_
  refine JL_run rfl (Pu_load1 ty28 rfl (At.bx 2 rfl) (pkT_35 ..) ?_)
  obtain ⟨a6, cap6, hv6⟩ := hcv.sl
  have hle6 := hcv.le
  refine JL_pure (v := .int .i64 (((cases).length : Int))) rfl (Pu.lenSl Try.runUnderlying28 hv6) ?_
  refine JL_pure (v := .int .i64 (0)) rfl (Pu.move rfl) ?_
  refine JL_nil ?_
  refine J_block ?_
  have hh0 : tHead d m b kind num ref kids.length cases.length = 0 := h5
  refine J_loop (fun k ρ M => ∃ (j : Nat), ρ 3 = .pointer (some ⟨b1, 0, none⟩) ∧ ρ 4 = .pointer (some ⟨b2, 0, none⟩) ∧ ρ 5 = .pointer (some ⟨b3, 0, none⟩) ∧ ρ 6 = .pointer (some ⟨b4, 0, none⟩) ∧ ρ 22 = cv ∧ ρ 23 = .int .i64 (((cases).length : Int)) ∧ ρ 24 = .int .i64 ((j : Int)) ∧ Sub [[(b4, .cells ⟨[.int .i64 (0)]⟩ 33 (0, 0))], [(b3, .cells ⟨[.int .i64 (b)]⟩ 3 (0, 0))], [(b2, .cells ⟨pkT (kind) (num) (ref) (ks) (cv)⟩ 30 (0, 0))], [(b1, .cells ⟨[.int .i64 (m), .func (.func 41) ⟨[]⟩ ⟨[.pointer (some ⟨bD, 0, none⟩)]⟩]⟩ 94 (0, 0))]] M ∧ j ≤ (cases).length ∧ pErrsC (cases.drop j) = pErrsC cases ∧ k = (cases).length - j) _ ⟨0, rfl, rfl, rfl, rfl, rfl, rfl, rfl, (Sk (Sk (Sk (Sk Sub.nil)))), Nat.zero_le _, rfl, rfl⟩ ?_
  rintro _ ρ7 _ ⟨j, e8, e9, e10, e11, e12, e13, e14, hm15, hj, hinv, rfl⟩
  obtain ⟨ρ16, rfl⟩ := reopen_ex (uc e8 (uc e9 (uc e10 (uc e11 (uc e12 (uc e13 (uc e14 un)))))))
  clear e8 e9 e10 e11 e12 e13 e14
  refine J_sub hm15 ?_
  have hlen := hcv.le
  refine J_seq ?_
  refine J_region ?_
  refine JL_pure (v := .bool (decide ((j : Int) < ((cases).length : Int)))) rfl (Pu.lss rfl rfl) ?_
  refine JL_nil ?_
  refine J_seq ?_
  refine J_cond (b := decide ((j : Int) < ((cases).length : Int))) rfl (fun h17 => ?_) (fun h17 => ?_)
  ·skip
   replace h17 := dt h17
   have h17n : j < (cases).length := by omega
   refine J_skip ?_
   refine J_seq ?_
   refine J_block ?_
   refine J_seq ?_
   refine J_region ?_
   obtain ⟨b18, o18, cap18, row18, T18, fr18, cs18, hv18, hb18, hs18, hE18⟩ := hcv.get j (by first | assumption | omega | decide | simp)
   obtain ⟨ca18, cb18, rfl, hA18, hB18⟩ := hE18
   refine JL_pure (v := .pointer (some ⟨b18, o18 + j * 71, none⟩)) rfl (Pu.idx j Try.runUnderlying28 ty68 hv18 rfl rfl (by first | assumption | omega | decide | simp)) ?_
   refine JL_run rfl (Pu_load ty68 rfl (At.im hb18) hs18 ?_)
   refine JL_run rfl (Runs_alloc (l := (pkP (0) (0) (zS) (.slice none 0 0)) ++ (pkT (0) (0) (zS) (.slice none 0 0) (.slice none 0 0))) Try.zeroValue68 rfl fun b19 => ?_)
   refine JL_run rfl (Runs_storeB 0 (vs := (ca18) ++ (cb18)) (l := (ca18) ++ (cb18)) ty68 rfl rfl rfl rfl (len_app (RP_len hA18) (RT_len hB18)) (okc_app (RP_ok hA18) (RT_ok hB18)) (spl_a (n := 71) rfl (len_app (RP_len hA18) (RT_len hB18))) ?_)
   refine JL_nil ?_
   refine J_seq ?_
   refine J_region ?_
   refine JL_pure (v := .pointer (some ⟨b19, 0, none⟩)) rfl (fa68_0 rfl rfl) ?_
   refine JL_run rfl (Pu_load ty66 rfl (At.bx 0 rfl) (sub_l (RP_len hA18)) ?_)
   refine JL_call rfl Try.call75 rfl (fun hin => patternsError_ct _ _ _ (RP.mono (Hle.hu _ _) hA18)) rfl ?_
   rintro _ _ ⟨rfl, rfl⟩
   refine JL_pure (v := .int .i64 (pErrs ((cases)[j].1))) rfl (Pu.assign rfl) ?_
   refine JL_nil ?_
   refine J_seq ?_
   refine J_region ?_
   refine JL_pure (v := .int .i64 (pErrs ((cases)[j].1))) rfl (Pu.move rfl) ?_
   refine JL_pure (v := .bool (!decide (pErrs ((cases)[j].1) = 0))) rfl (Pu.neq rfl rfl) ?_
   refine JL_nil ?_
   refine J_cond (b := !decide (pErrs ((cases)[j].1) = 0)) rfl (fun h20 => ?_) (fun h20 => ?_)
   ·skip
    replace h20 := nt h20
    replace h20 := df h20
    refine J_seq ?_
    refine J_region ?_
    refine JL_pure (v := .int .i64 (pErrs ((cases)[j].1))) rfl (Pu.move rfl) ?_
    refine JL_run rfl (Runs_storeB 1 (vs := [.int .i64 (pErrs ((cases)[j].1))]) (l := [.int .i64 (pErrs ((cases)[j].1))]) ty33 rfl rfl rfl rfl rfl (okc_cons rfl okc_nil) rfl ?_)
    refine JL_nil ?_
    refine J_ret ?_
    refine ⟨.int .i64 (pErrs ((cases)[j].1)), [], Ret.one rfl (RV.cell1 ty33 rfl (At.bx 1 rfl) rfl), Sub.nil, ?_⟩
    exact ⟨by rw [tErr, if_pos hh0, ← hinv, dropc h17n, pErrsC, if_neg h20, if_neg h20], rfl⟩
   ·skip
    replace h20 := nf h20
    replace h20 := dt h20
    refine J_skip ?_
    refine J_region ?_
    refine JL_pure (v := .int .i64 (((j + 1 : Nat) : Int))) rfl (Pu.inc rfl rfl (by omega)) ?_
    refine JL_pure (v := .int .i64 (((j + 1 : Nat) : Int))) rfl (Pu.move rfl) ?_
    refine JL_nil ?_
    refine ⟨_, ?_, (j + 1), rfl, rfl, rfl, rfl, rfl, rfl, rfl, (Sd (Sk (Sk (Sk (Sk Sub.nil))))), ?_, ?_, rfl⟩
    ·omega
    ·omega
    ·rw [dropc h17n, pErrsC, if_pos h20] at hinv; exact hinv
  ·skip
   replace h17 := df h17
   have h17n : (cases).length ≤ j := by omega
   refine J_exit _ rfl ?_
   refine J_seq ?_
   refine J_seq ?_
   refine J_region ?_
   refine JL_run rfl (Pu_load ty30 rfl (At.bx 2 rfl) (pkT_a ..) ?_)
   refine JL_call rfl Try.call76 rfl (fun hin => parts_ct _ _ rfl) rfl ?_
   rintro _ _ ⟨bT21, rfl, rfl⟩
   refine JL_nil ?_
   refine J_block ?_
   have h1 : pErrsC cases = 0 := by rw [← hinv, dropn h17n]; rfl
   refine J_range (L := [[(bT21, .cells ⟨pkT (kind) (num) (ref) (ks) (cv)⟩ 30 (0, 0))], [(b3, .cells ⟨[.int .i64 (b)]⟩ 3 (0, 0))], [(b2, .cells ⟨pkT (kind) (num) (ref) (ks) (cv)⟩ 30 (0, 0))], [(b1, .cells ⟨[.int .i64 (m), .func (.func 41) ⟨[]⟩ ⟨[.pointer (some ⟨bD, 0, none⟩)]⟩]⟩ 94 (0, 0))]]) (fun e : Int => [[(b4, .cells ⟨[.int .i64 (e)]⟩ 33 (0, 0))]]) (fun e => !decide (e = 0)) 0 (fun e => e = yP (fun x mo _ => (decide (tErr d m (b + mo) x = 0), tErr d m (b + mo) x)) kind kids cases 0) rfl rfl Try.call92 (flatten_pick (i := 1) rfl) ?_ ?_ ?_
   ·intro l yc hY hin
    refine CT.mono (parts1_ct kind num ref ks cv kids cases _ bT21 (RTs.mono (Hle.hu _ _) hks) (RCs.mono (Hle.hu _ _) hcv) (hin 0 _ rfl _ _ List.mem_cons_self) (fun c hc => by have := sizeCs_mem c hc; have := binds_le c.1; omega) (by have := len_sizeTs kids; omega) (by have := len_sizeCs cases; omega) l yc (fun e => e = 0) (fun x mo _ => (decide (tErr d m (b + mo) x = 0), tErr d m (b + mo) x)) 0 rfl (fun x mo => ((∃ (j : Nat) (hj : j < kids.length), x = kids[j]) ∨ ∃ (j : Nat) (hj : j < cases.length), x = cases[j].2) ∧ 0 ≤ mo ∧ mo + 2 * (sizeT x : Int) ≤ 2 * ((1 + sizeTs kids + sizeCs cases : Nat) : Int)) ?_ ?_ (fun x mo s _ h => of_decide_eq_true h) ?_) (fun v N hN => ⟨_, hN, rfl⟩)
    ·intro j hj; have hs1 := sizeTs_mem _ (List.getElem_mem hj); have hm1 := more_le kind j; exact ⟨.inl ⟨j, hj, rfl⟩, by omega, by omega⟩
    ·intro j hj; have hs1 := sizeCs_mem _ (List.getElem_mem hj); have hm1 := binds_le (cases[j]).1; have hp1 := sizeT_pos (cases[j]).2; exact ⟨.inr ⟨j, hj, rfl⟩, by omega, by omega⟩
    intro x mo hit e i a h he hh ra
    subst he
    have hb0x : 0 ≤ b + mo := by have := hit.2.1; omega
    have hb1x : b + mo + 2 * (sizeT x : Int) ≤ 1000000 := by have := hit.2.2; omega
    have hp1 := sizeT_pos x
    refine YT.mono (hY 0 [_, _] h (fun e' => e' = tErr d m (b + mo) x) rfl rfl (RoundOk.mk ?_)) ?_
    ·show J _ _ _ _ [[(b4, .cells ⟨[.int .i64 (0)]⟩ 33 (0, 0))]] _
     refine J_region ?_
     refine JL_run rfl (Runs_alloc (l := (pkT (0) (0) (zS) (.slice none 0 0) (.slice none 0 0)) ++ ([.int .i64 (0)] : List Value)) Try.zeroValue124 rfl fun b22 => ?_)
     refine JL_run rfl (Runs_storeB 0 (vs := (a) ++ ([.int .i64 (mo)] : List Value)) (l := (a) ++ ([.int .i64 (mo)] : List Value)) ty124 rfl rfl rfl rfl (len_app (RT_len ra) rfl) (okc_app (RT_ok ra) (okc_cons rfl okc_nil)) (spl_a (n := 37) rfl (len_app (RT_len ra) rfl)) ?_)
     refine JL_nil ?_
     refine J_block ?_
     refine J_seq ?_
     refine J_region ?_
     refine JL_run rfl (Pu_load ty94 rfl (At.im (hh _ _ (hin 3 _ rfl _ _ List.mem_cons_self))) rfl ?_)
     refine JL_pure (v := .pointer (some ⟨b22, 0, none⟩)) rfl (fa124_0 rfl rfl) ?_
     refine JL_run rfl (Pu_load ty30 rfl (At.bx 0 rfl) (sub_l (RT_len ra)) ?_)
     refine JL_run rfl (Pu_load1 ty3 rfl (At.im (hh _ _ (hin 1 _ rfl _ _ List.mem_cons_self))) rfl ?_)
     refine JL_pure (v := .pointer (some ⟨b22, 36, none⟩)) rfl (fa124_1 rfl rfl) ?_
     refine JL_run rfl (Pu_load1 ty3 rfl (At.bx 0 rfl) (get_r (n := 36) (i := 0) (RT_len ra) rfl) ?_)
     refine JL_pure (v := .int .i64 (b + mo)) rfl (Pu.add64 rfl rfl (by first | omega | (constructor <;> omega))) ?_
     refine JL_call rfl Try.call42 rfl (fun hin => ihx x mo hit d m _ _ _ bD (RT.mono (Hle.hu _ _) ra) (Hle.hu _ _ _ _ (hh _ _ (Hle.hu _ _ _ _ hD))) hb0x hb1x) rfl ?_
     rintro _ _ ⟨rfl, rfl⟩
     refine JL_pure (v := .int .i64 (tErr d m (b + mo) (x))) rfl (Pu.assign rfl) ?_
     refine JL_nil ?_
     refine J_seq ?_
     refine J_region ?_
     refine JL_pure (v := .int .i64 (tErr d m (b + mo) (x))) rfl (Pu.move rfl) ?_
     refine JL_pure (v := .bool (!decide (tErr d m (b + mo) (x) = 0))) rfl (Pu.neq rfl rfl) ?_
     refine JL_nil ?_
     refine J_cond (b := !decide (tErr d m (b + mo) (x) = 0)) rfl (fun h23 => ?_) (fun h23 => ?_)
     ·skip
      replace h23 := nt h23
      replace h23 := df h23
      refine J_seq ?_
      refine J_region ?_
      refine JL_pure (v := .int .i64 (tErr d m (b + mo) (x))) rfl (Pu.move rfl) ?_
      refine JL_run rfl (Runs_storeB 1 (vs := [.int .i64 (tErr d m (b + mo) (x))]) (l := [.int .i64 (tErr d m (b + mo) (x))]) ty33 rfl rfl rfl rfl rfl (okc_cons rfl okc_nil) rfl ?_)
      refine JL_nil ?_
      refine J_ret ?_
      exact ⟨tErr d m (b + mo) (x), by simp [h23], (Sd (Sk Sub.nil)), rfl⟩
     ·skip
      replace h23 := nf h23
      replace h23 := dt h23
      refine J_skip ?_
      exact ⟨0, rfl, (Sd (Sk Sub.nil)), h23.symm⟩
    ·rintro v N ⟨e', rfl, rfl, rfl⟩; exact ⟨by simp, rfl⟩
   ·rintro ef hef hp
    refine J_seq ?_
    refine J_region ?_
    refine JL_run rfl (Runs_storeB 0 (vs := [.int .i64 (0)]) (l := [.int .i64 (0)]) ty33 rfl rfl rfl rfl rfl (okc_cons rfl okc_nil) rfl ?_)
    refine JL_nil ?_
    refine J_ret ?_
    refine ⟨.int .i64 (0), [], Ret.one rfl (RV.cell1 ty33 rfl (At.bx 0 rfl) rfl), Sub.nil, ?_⟩
    rw [yP_err] at hef
    have hp0 : ef = 0 := by simpa using hp
    exact ⟨by rw [tErr, if_pos hh0, if_pos h1, ← hef, hp0], rfl⟩
   ·rintro ef hef hp
    refine ⟨.int .i64 (ef), [], Ret.one rfl (RV.cell1 ty33 rfl (At.bx 0 rfl) rfl), Sub.nil, ?_⟩
    rw [yP_err] at hef
    have hp0 : ¬ ef = 0 := by simpa using hp
    exact ⟨by rw [tErr, if_pos hh0, if_pos h1, ← hef], rfl⟩
end Go.Proofs.Ytmdifonjepggcaa.Hs
/-! Walks, printed by a program of this session's own (gen.py). -/
namespace Go.Proofs.Ytmdifonjepggcaa.Hs
open Go Go.Proofs
set_option maxRecDepth 100000
set_option linter.unusedVariables false
set_option linter.unusedSimpArgs false
attribute [local irreducible] JL J CT wlo
theorem check_ct (t : Tm) (d m : Int) (cs : List Value) (H : Heap) (ht : RT H cs t) : CT Try.prog 14 ⟨[.agg ⟨cs⟩, .int .i64 (d), .int .i64 (m)]⟩ [] H (fun v N => v = .int .i64 (checkT d m t) ∧ N = []) := by
 refine CT_enter Try.func14 rfl rfl ?_
 refine J_seq ?_
 refine J_region ?_
 refine JL_run rfl (Runs_box (l := cs) rfl rfl fun b1 => ?_)
 refine JL_run rfl (Runs_box (l := [.int .i64 (d)]) rfl rfl fun b2 => ?_)
 refine JL_pure (v := .int .i64 (0)) rfl (Pu.assign rfl) ?_
 refine JL_nil ?_
 refine J_seq ?_
 refine J_seq ?_
 refine J_region ?_
 refine JL_pure (v := .agg ⟨[.int .i64 (0)]⟩) rfl (Pu.build (pv := []) (l := [.int .i64 (0)]) rfl bld90_) ?_
 refine JL_run rfl (Runs_box (l := [.int .i64 (0)]) rfl rfl fun b3 => ?_)
 refine JL_run rfl (Pu_load ty30 rfl (At.bx 2 rfl) (sub_a (RT_len ht)) ?_)
 refine JL_call1 0 rfl Try.call40 rfl rfl (fun hin => longT_ct _ _ _ _ _ _ (RT.mono (Hle.hu _ _) ht) (by omega) (by omega) (by omega) (by omega)) rfl ?_
 rintro _ _ ⟨rfl, rfl⟩
 refine JL_nil ?_
 refine J_cond (b := (cnT stL (1) (t) (0)).1) rfl (fun h5 => ?_) (fun h5 => ?_)
 ·skip
  refine J_seq ?_
  refine J_region ?_
  refine JL_pure (v := .int .i64 (11)) rfl (Pu.assign rfl) ?_
  refine JL_nil ?_
  refine J_ret ?_
  refine ⟨.int .i64 (11), [], Ret.one rfl (RV.tmp rfl), Sub.nil, ?_⟩
  exact ⟨by rw [checkT, if_pos (by simp [h5])], rfl⟩
 ·skip
  refine J_skip ?_
  refine J_seq ?_
  refine J_region ?_
  refine JL_pure (v := .int .i64 (m)) rfl (Pu.move rfl) ?_
  refine JL_pure (v := .func (.func 41) ⟨[]⟩ ⟨[.pointer (some ⟨b2, 0, none⟩)]⟩) rfl (Pu.makeFunc rfl rfl) ?_
  refine JL_pure (v := .agg ⟨[.int .i64 (m), .func (.func 41) ⟨[]⟩ ⟨[.pointer (some ⟨b2, 0, none⟩)]⟩]⟩) rfl (Pu.build (pv := [(0, .int .i64 (m)), (1, .func (.func 41) ⟨[]⟩ ⟨[.pointer (some ⟨b2, 0, none⟩)]⟩)]) (l := [.int .i64 (m), .func (.func 41) ⟨[]⟩ ⟨[.pointer (some ⟨b2, 0, none⟩)]⟩]) rfl (bld94_0_1 _ _ _ _)) ?_
  refine JL_run rfl (Runs_alloc (l := [.int .i64 (0), .nilFunc]) Try.zeroValue94 rfl fun b6 => ?_)
  refine JL_run rfl (Runs_storeB 0 (vs := [.int .i64 (m), .func (.func 41) ⟨[]⟩ ⟨[.pointer (some ⟨b2, 0, none⟩)]⟩]) (l := [.int .i64 (m), .func (.func 41) ⟨[]⟩ ⟨[.pointer (some ⟨b2, 0, none⟩)]⟩]) ty94 rfl rfl rfl rfl rfl (okc_cons rfl (okc_cons rfl okc_nil)) rfl ?_)
  refine JL_nil ?_
  refine J_seq ?_
  refine J_region ?_
  refine JL_run rfl (Pu_load ty94 rfl (At.bx 0 rfl) rfl ?_)
  refine JL_run rfl (Pu_load ty30 rfl (At.bx 3 rfl) (sub_a (RT_len ht)) ?_)
  refine JL_call rfl Try.call42 rfl (fun hin => all_ct _ _ _ _ _ _ _ (RT.mono (Hle.hu _ _) ht) (hin 2 _ rfl _ _ List.mem_cons_self) (by decide) (by have e1 := cnT_size t 1 0 h5; have e2 := cnT_le stL_le t 1 0 h5; omega)) rfl ?_
  rintro _ _ ⟨rfl, rfl⟩
  refine JL_pure (v := .int .i64 (tErr d m (0) (t))) rfl (Pu.assign rfl) ?_
  refine JL_nil ?_
  refine J_ret ?_
  refine ⟨.int .i64 (tErr d m (0) (t)), [], Ret.one rfl (RV.tmp rfl), Sub.nil, ?_⟩
  exact ⟨by rw [checkT, if_neg (by simp [h5])], rfl⟩
theorem right_ct (l : List Tm) (v : Value) (H : Heap) (hl : rdS RT 36 H v l) : CT Try.prog 16 ⟨[v]⟩ [] H (fun v N => v = .int .i64 (rightT l) ∧ N = []) := by
 refine CT_enter Try.func16 rfl rfl ?_
 refine J_seq ?_
 refine J_region ?_
 refine JL_pure (v := .int .i64 (0)) rfl (Pu.assign rfl) ?_
 refine JL_nil ?_
 refine J_seq ?_
 refine J_seq ?_
 refine J_region ?_
 refine JL_pure (v := v) rfl (Pu.move rfl) ?_
 obtain ⟨a1, cap1, hv1⟩ := hl.sl
 have hle1 := hl.le
 refine JL_pure (v := .int .i64 (((l).length : Int))) rfl (Pu.lenSl Try.runUnderlying27 hv1) ?_
 refine JL_pure (v := .int .i64 (0)) rfl (Pu.move rfl) ?_
 refine JL_nil ?_
 refine J_block ?_
 refine J_loop (fun k ρ M => ∃ (j : Nat), ρ 2 = .int .i64 (0) ∧ ρ 6 = v ∧ ρ 7 = .int .i64 (((l).length : Int)) ∧ ρ 8 = .int .i64 ((j : Int)) ∧ Sub [] M ∧ j ≤ (l).length ∧ rightT (l.drop j) = rightT l ∧ k = (l).length - j) _ ⟨0, rfl, rfl, rfl, rfl, Sub.nil, Nat.zero_le _, rfl, rfl⟩ ?_
 rintro _ ρ2 _ ⟨j, e3, e4, e5, e6, hm7, hj, hinv, rfl⟩
 obtain ⟨ρ8, rfl⟩ := reopen_ex (uc e3 (uc e4 (uc e5 (uc e6 un))))
 clear e3 e4 e5 e6
 refine J_sub hm7 ?_
 refine J_seq ?_
 refine J_region ?_
 refine JL_pure (v := .bool (decide ((j : Int) < ((l).length : Int)))) rfl (Pu.lss rfl rfl) ?_
 refine JL_nil ?_
 refine J_seq ?_
 refine J_cond (b := decide ((j : Int) < ((l).length : Int))) rfl (fun h9 => ?_) (fun h9 => ?_)
 ·skip
  replace h9 := dt h9
  have h9n : j < (l).length := by omega
  have hlenl := hl.le
  refine J_skip ?_
  refine J_seq ?_
  refine J_block ?_
  refine J_seq ?_
  refine J_region ?_
  obtain ⟨b10, o10, cap10, row10, T10, fr10, cs10, hv10, hb10, hs10, hE10⟩ := hl.get j (by first | assumption | omega | decide | simp)
  refine JL_pure (v := .pointer (some ⟨b10, o10 + j * 36, none⟩)) rfl (Pu.idx j Try.runUnderlying27 ty30 hv10 rfl rfl (by first | assumption | omega | decide | simp)) ?_
  refine JL_run rfl (Pu_load ty30 rfl (At.im hb10) hs10 ?_)
  refine JL_run rfl (Runs_alloc (l := pkT (0) (0) (zS) (.slice none 0 0) (.slice none 0 0)) Try.zeroValue30 rfl fun b11 => ?_)
  refine JL_run rfl (Runs_storeB 0 (vs := cs10) (l := cs10) ty30 rfl rfl rfl rfl (RT_len hE10) (RT_ok hE10) (spl_a (n := 36) rfl (RT_len hE10)) ?_)
  refine JL_nil ?_
  refine J_seq ?_
  refine J_region ?_
  refine JL_run rfl (Pu_load ty30 rfl (At.bx 0 rfl) (sub_a (RT_len hE10)) ?_)
  refine JL_call rfl Try.call14 rfl (fun hin => check_ct _ _ _ _ _ (RT.mono (Hle.hu _ _) hE10)) rfl ?_
  rintro _ _ ⟨rfl, rfl⟩
  refine JL_pure (v := .int .i64 (checkT (60) (8) ((l)[j]))) rfl (Pu.assign rfl) ?_
  refine JL_nil ?_
  refine J_seq ?_
  refine J_region ?_
  refine JL_pure (v := .int .i64 (checkT (60) (8) ((l)[j]))) rfl (Pu.move rfl) ?_
  refine JL_pure (v := .bool (!decide (checkT (60) (8) ((l)[j]) = 0))) rfl (Pu.neq rfl rfl) ?_
  refine JL_nil ?_
  refine J_cond (b := !decide (checkT (60) (8) ((l)[j]) = 0)) rfl (fun h12 => ?_) (fun h12 => ?_)
  ·skip
   replace h12 := nt h12
   replace h12 := df h12
   refine J_seq ?_
   refine J_region ?_
   refine JL_pure (v := .int .i64 (checkT (60) (8) ((l)[j]))) rfl (Pu.move rfl) ?_
   refine JL_pure (v := .int .i64 (checkT (60) (8) ((l)[j]))) rfl (Pu.assign rfl) ?_
   refine JL_nil ?_
   refine J_ret ?_
   refine ⟨.int .i64 (checkT (60) (8) ((l)[j])), [], Ret.one rfl (RV.tmp rfl), Sub.nil, ?_⟩
   exact ⟨by rw [← hinv, dropc h9n, rightT, if_neg h12], rfl⟩
  ·skip
   replace h12 := nf h12
   replace h12 := dt h12
   refine J_skip ?_
   refine J_region ?_
   refine JL_pure (v := .int .i64 (((j + 1 : Nat) : Int))) rfl (Pu.inc rfl rfl (by omega)) ?_
   refine JL_pure (v := .int .i64 (((j + 1 : Nat) : Int))) rfl (Pu.move rfl) ?_
   refine JL_nil ?_
   refine ⟨_, ?_, (j + 1), rfl, rfl, rfl, rfl, Sub.nil, ?_, ?_, rfl⟩
   ·omega
   ·omega
   ·rw [dropc h9n, rightT, if_pos h12] at hinv; exact hinv
 ·skip
  replace h9 := df h9
  have h9n : (l).length ≤ j := by omega
  refine J_exit _ rfl ?_
  refine J_seq ?_
  refine J_region ?_
  refine JL_pure (v := .int .i64 (0)) rfl (Pu.assign rfl) ?_
  refine JL_nil ?_
  refine J_ret ?_
  refine ⟨.int .i64 (0), [], Ret.one rfl (RV.tmp rfl), Sub.nil, ?_⟩
  exact ⟨by rw [← hinv, dropn h9n]; rfl, rfl⟩
end Go.Proofs.Ytmdifonjepggcaa.Hs
/-! Walks, printed by a program of this session's own (gen.py). -/
namespace Go.Proofs.Ytmdifonjepggcaa.Hs
open Go Go.Proofs
set_option maxRecDepth 100000
set_option linter.unusedVariables false
set_option linter.unusedSimpArgs false
attribute [local irreducible] JL J CT wlo
theorem shiftP_ct (t : Tm) (dy fr : Int) (cs : List Value) (H : Heap) (ht : RT H cs t) : CT Try.prog 7 ⟨[.agg ⟨cs⟩, .int .i64 (dy), .int .i64 (fr)]⟩ [] H (fun v N => ∃ cs k, v = .tuple ⟨[.agg ⟨cs⟩, .int .i64 (shiftP t dy fr).2]⟩ ∧ N = [k] ∧ OT (shiftP t dy fr).1 cs k) := by
 refine CT_enter Try.func7 rfl rfl ?_
 refine J_seq ?_
 refine J_region ?_
 refine JL_run rfl (Runs_box (l := cs) rfl rfl fun b1 => ?_)
 refine JL_run rfl (Runs_box (l := [.int .i64 (dy)]) rfl rfl fun b2 => ?_)
 refine JL_run rfl (Runs_box (l := [.int .i64 (fr)]) rfl rfl fun b3 => ?_)
 refine JL_run rfl (Runs_alloc (l := pkT (0) (0) (zS) (.slice none 0 0) (.slice none 0 0)) Try.zeroValue30 rfl fun b4 => ?_)
 refine JL_pure (v := .int .i64 (0)) rfl (Pu.assign rfl) ?_
 refine JL_nil ?_
 refine J_seq ?_
 refine J_seq ?_
 refine J_region ?_
 refine JL_run rfl (Pu_load ty30 rfl (At.bx 3 rfl) (sub_a (RT_len ht)) ?_)
 refine JL_run rfl (Runs_buildSlice (vs := [.agg ⟨cs⟩]) [cs] Try.runUnderlying27 el30 rfl rfl (by intro e he; simp only [List.mem_cons, List.not_mem_nil, or_false] at he; subst he; exact (RT_len ht)) rfl (by decide) fun b5 k5 ho5 hk5 => ?_)
 refine JL_call rfl Try.call16 rfl (fun hin => right_ct _ _ _ (Own.rd1 ho5 (hin 0 _ rfl) (RT.mono (Hle.hu _ _) ht))) rfl ?_
 rintro _ _ ⟨rfl, rfl⟩
 refine JL_pure (v := .int .i64 (rightT [t])) rfl (Pu.assign rfl) ?_
 refine JL_nil ?_
 refine J_seq ?_
 refine J_region ?_
 refine JL_pure (v := .int .i64 (rightT [t])) rfl (Pu.move rfl) ?_
 refine JL_pure (v := .bool (!decide (rightT [t] = 0))) rfl (Pu.neq rfl rfl) ?_
 refine JL_nil ?_
 refine J_cond (b := !decide (rightT [t] = 0)) rfl (fun h6 => ?_) (fun h6 => ?_)
 ·skip
  replace h6 := nt h6
  replace h6 := df h6
  refine J_seq ?_
  refine J_region ?_
  refine JL_pure (v := .agg ⟨pkT (0) (0) (zS) (.slice none 0 0) (.slice none 0 0)⟩) rfl (Pu.build (pv := []) (l := pkT (0) (0) (zS) (.slice none 0 0) (.slice none 0 0)) rfl (bld30_ )) ?_
  refine JL_pure (v := .int .i64 (rightT [t])) rfl (Pu.move rfl) ?_
  refine JL_run rfl (Runs_storeB 1 (vs := pkT (0) (0) (zS) (.slice none 0 0) (.slice none 0 0)) (l := pkT (0) (0) (zS) (.slice none 0 0) (.slice none 0 0)) ty30 rfl rfl rfl rfl rfl (pkT_ok rfl rfl) (pkT_s ..) ?_)
  refine JL_pure (v := .int .i64 (rightT [t])) rfl (Pu.assign rfl) ?_
  refine JL_nil ?_
  refine J_ret ?_
  refine ⟨.tuple ⟨[.agg ⟨pkT (0) (0) (zS) (.slice none 0 0) (.slice none 0 0)⟩, .int .i64 (rightT [t])]⟩, [[]], Ret.two rfl (RV.cell ty30 rfl (At.bx 1 rfl) (pkT_a ..)) (RV.tmp rfl), (Sub.emp Sub.nil), ?_⟩
  have hx : shiftP t dy fr = (zT, rightT [t]) := by simp only [shiftP]; (repeat' split) <;> first | rfl | (exfalso; simp_all; done) | (exfalso; simp_all; omega)
  exact ⟨_, _, by rw [hx], rfl, by rw [hx]; exact OT_zero⟩
 ·skip
  replace h6 := nf h6
  replace h6 := dt h6
  refine J_skip ?_
  refine J_seq ?_
  refine J_cut (fun ρ M => ρ 3 = .pointer (some ⟨b1, 0, none⟩) ∧ ρ 4 = .pointer (some ⟨b2, 0, none⟩) ∧ ρ 5 = .pointer (some ⟨b3, 0, none⟩) ∧ ρ 6 = .pointer (some ⟨b4, 0, none⟩) ∧ ρ 7 = .int .i64 (0) ∧ ρ 21 = .bool ((decide (dy < -60 ∨ 60 < dy)) || (decide (fr < 0 ∨ 60 < fr))) ∧ M = [k5, [(b4, .cells ⟨pkT (0) (0) (zS) (.slice none 0 0) (.slice none 0 0)⟩ 30 (0, 0))], [(b3, .cells ⟨[.int .i64 (fr)]⟩ 3 (0, 0))], [(b2, .cells ⟨[.int .i64 (dy)]⟩ 3 (0, 0))], [(b1, .cells ⟨cs⟩ 30 (0, 0))]]) ?_ ?_
  ·refine J_region ?_
   refine JL_run rfl (Pu_load1 ty3 rfl (At.bx 3 rfl) rfl ?_)
   refine JL_call rfl Try.call17 rfl (fun hin => off_ct _ _ _ _) rfl ?_
   rintro _ _ ⟨rfl, rfl⟩
   refine JL_pure (v := .bool (decide (dy < -60 ∨ 60 < dy))) rfl (Pu.move rfl) ?_
   cases h7 : (decide (dy < -60 ∨ 60 < dy)) with
   | true =>
    replace h7 := dt h7
    refine JL_skip rfl ?_
    refine JL_skip rfl ?_
    refine JL_pure (v := .bool (true)) rfl (Pu.pickT rfl rfl) ?_
    refine JL_nil ?_
    first | exact ⟨rfl, rfl, rfl, rfl, rfl, rfl, rfl⟩ | (exfalso; omega)
   | false =>
    replace h7 := df h7
    refine JL_run rfl (Pu_load1 ty3 rfl (At.bx 2 rfl) rfl ?_)
    refine JL_call rfl Try.call17 rfl (fun hin => off_ct _ _ _ _) rfl ?_
    rintro _ _ ⟨rfl, rfl⟩
    refine JL_pure (v := .bool (decide (fr < 0 ∨ 60 < fr))) rfl (Pu.pickF rfl rfl) ?_
    refine JL_nil ?_
    first | exact ⟨rfl, rfl, rfl, rfl, rfl, rfl, rfl⟩ | (exfalso; omega)
  ·rintro ρ8 _ ⟨e9, e10, e11, e12, e13, e14, rfl⟩
   obtain ⟨ρ15, rfl⟩ := reopen_ex (uc e9 (uc e10 (uc e11 (uc e12 (uc e13 (uc e14 un))))))
   clear e9 e10 e11 e12 e13 e14
   refine J_cond (b := (decide (dy < -60 ∨ 60 < dy)) || (decide (fr < 0 ∨ 60 < fr))) rfl (fun h16 => ?_) (fun h16 => ?_)
   ·skip
    refine J_seq ?_
    refine J_region ?_
    refine JL_pure (v := .agg ⟨pkT (0) (0) (zS) (.slice none 0 0) (.slice none 0 0)⟩) rfl (Pu.build (pv := []) (l := pkT (0) (0) (zS) (.slice none 0 0) (.slice none 0 0)) rfl (bld30_ )) ?_
    refine JL_run rfl (Runs_storeB 1 (vs := pkT (0) (0) (zS) (.slice none 0 0) (.slice none 0 0)) (l := pkT (0) (0) (zS) (.slice none 0 0) (.slice none 0 0)) ty30 rfl rfl rfl rfl rfl (pkT_ok rfl rfl) (pkT_s ..) ?_)
    refine JL_pure (v := .int .i64 (3)) rfl (Pu.assign rfl) ?_
    refine JL_nil ?_
    refine J_ret ?_
    refine ⟨.tuple ⟨[.agg ⟨pkT (0) (0) (zS) (.slice none 0 0) (.slice none 0 0)⟩, .int .i64 (3)]⟩, [[]], Ret.two rfl (RV.cell ty30 rfl (At.bx 1 rfl) (pkT_a ..)) (RV.tmp rfl), (Sub.emp Sub.nil), ?_⟩
    have hx : shiftP t dy fr = (zT, 3) := by simp only [shiftP]; (repeat' split) <;> first | rfl | (exfalso; simp_all; done) | (exfalso; simp_all; omega)
    exact ⟨_, _, by rw [hx], rfl, by rw [hx]; exact OT_zero⟩
   ·skip
    obtain ⟨h16a, h16b⟩ := orF h16
    replace h16a := df h16a
    replace h16b := df h16b
    refine J_skip ?_
    refine J_seq ?_
    refine J_seq ?_
    refine J_region ?_
    refine JL_run rfl (Pu_load ty30 rfl (At.bx 4 rfl) (sub_a (RT_len ht)) ?_)
    refine JL_call rfl Try.call19 rfl (fun hin => freeP_ct _ _ _ (RT.mono (Hle.hu _ _) ht) (by have := (checkT_ok (rightT1 ‹rightT [t] = 0›)).1; omega) (checkT_ok (rightT1 ‹rightT [t] = 0›)).2.1) rfl ?_
    rintro u17 _ ⟨_, k17, hu17, rfl, ho17⟩; subst hu17
    refine JL_pure (v := .func (.func 20) ⟨[]⟩ ⟨[.pointer (some ⟨b3, 0, none⟩), .pointer (some ⟨b2, 0, none⟩)]⟩) rfl (Pu.makeFunc rfl rfl) ?_
    refine JL_call rfl Try.call18 rfl (fun hin => every_ct 20 [] [.pointer (some ⟨b3, 0, none⟩), .pointer (some ⟨b2, 0, none⟩)] Try.call20 (mvOk dy fr) _ _ _ (own_ints ho17 (by have := freeP_len t; omega) (hin 0 _ rfl)) (fun x hx h hh => shiftO_ct x dy fr h b3 b2 (hh _ _ (hin 3 _ rfl _ _ List.mem_cons_self)) (hh _ _ (hin 4 _ rfl _ _ List.mem_cons_self)) (freeP_bound t x hx).1 (by have := (freeP_bound t x hx).2; omega) (by omega) (by omega))) rfl ?_
    rintro _ _ ⟨rfl, rfl⟩
    refine JL_pure (v := .bool (!((freeP (t)).all (mvOk dy fr)))) rfl (Pu.not rfl) ?_
    refine JL_nil ?_
    refine J_cond (b := !((freeP (t)).all (mvOk dy fr))) rfl (fun h18 => ?_) (fun h18 => ?_)
    ·skip
     replace h18 := nt h18
     refine J_seq ?_
     refine J_region ?_
     refine JL_pure (v := .agg ⟨pkT (0) (0) (zS) (.slice none 0 0) (.slice none 0 0)⟩) rfl (Pu.build (pv := []) (l := pkT (0) (0) (zS) (.slice none 0 0) (.slice none 0 0)) rfl (bld30_ )) ?_
     refine JL_run rfl (Runs_storeB 2 (vs := pkT (0) (0) (zS) (.slice none 0 0) (.slice none 0 0)) (l := pkT (0) (0) (zS) (.slice none 0 0) (.slice none 0 0)) ty30 rfl rfl rfl rfl rfl (pkT_ok rfl rfl) (pkT_s ..) ?_)
     refine JL_pure (v := .int .i64 (1)) rfl (Pu.assign rfl) ?_
     refine JL_nil ?_
     refine J_ret ?_
     refine ⟨.tuple ⟨[.agg ⟨pkT (0) (0) (zS) (.slice none 0 0) (.slice none 0 0)⟩, .int .i64 (1)]⟩, [[]], Ret.two rfl (RV.cell ty30 rfl (At.bx 2 rfl) (pkT_a ..)) (RV.tmp rfl), (Sub.emp Sub.nil), ?_⟩
     have hx : shiftP t dy fr = (zT, 1) := by simp only [shiftP]; (repeat' split) <;> first | rfl | (exfalso; simp_all; done) | (exfalso; simp_all; omega)
     exact ⟨_, _, by rw [hx], rfl, by rw [hx]; exact OT_zero⟩
    ·skip
     replace h18 := nf h18
     refine J_skip ?_
     refine J_seq ?_
     refine J_region ?_
     refine JL_run rfl (Pu_load ty30 rfl (At.bx 5 rfl) (sub_a (RT_len ht)) ?_)
     refine JL_run rfl (Pu_load1 ty3 rfl (At.bx 4 rfl) rfl ?_)
     refine JL_run rfl (Pu_load1 ty3 rfl (At.bx 3 rfl) rfl ?_)
     refine JL_call rfl Try.call21 rfl (fun hin => shifted_ct _ _ _ _ _ (RT.mono (Hle.hu _ _) ht) (by have := (checkT_ok (rightT1 ‹rightT [t] = 0›)).1; omega) (checkT_ok (rightT1 ‹rightT [t] = 0›)).2.1 (by omega) (by omega)) rfl ?_
     rintro _ _ ⟨cs19, k19, rfl, rfl, hO19⟩
     refine JL_run rfl (Runs_storeB 3 (vs := cs19) (l := cs19) ty30 rfl rfl rfl rfl hO19.len hO19.ok (spl_a (n := 36) rfl hO19.len) ?_)
     refine JL_pure (v := .int .i64 (0)) rfl (Pu.assign rfl) ?_
     refine JL_nil ?_
     refine J_ret ?_
     refine ⟨.tuple ⟨[.agg ⟨cs19⟩, .int .i64 (0)]⟩, [k19], Ret.two rfl (RV.cell ty30 rfl (At.bx 3 rfl) (sub_a hO19.len)) (RV.tmp rfl), (Sk Sub.nil), ?_⟩
     have hx : shiftP t dy fr = (shT (dy) (fr) (t), 0) := by simp only [shiftP]; (repeat' split) <;> first | rfl | (exfalso; simp_all; done) | (exfalso; simp_all; omega)
     exact ⟨_, _, by rw [hx], rfl, by rw [hx]; exact hO19⟩
theorem freeE_ct (t : Tm) (cs : List Value) (H : Heap) (ht : RT H cs t) : CT Try.prog 34 ⟨[.agg ⟨cs⟩]⟩ [] H (fun v N => ∃ u e k, v = .tuple ⟨[u, .int .i64 e]⟩ ∧ N = [k] ∧ Own 3 1 u (ints (freeE t).1) k ∧ e = (freeE t).2) := by
 refine CT_enter Try.func34 rfl rfl ?_
 refine J_seq ?_
 refine J_region ?_
 refine JL_run rfl (Runs_box (l := cs) rfl rfl fun b1 => ?_)
 refine JL_pure (v := .slice none 0 0) rfl (Pu.assign rfl) ?_
 refine JL_pure (v := .int .i64 (0)) rfl (Pu.assign rfl) ?_
 refine JL_nil ?_
 refine J_seq ?_
 refine J_seq ?_
 refine J_region ?_
 refine JL_run rfl (Pu_load ty30 rfl (At.bx 0 rfl) (sub_a (RT_len ht)) ?_)
 refine JL_run rfl (Runs_buildSlice (vs := [.agg ⟨cs⟩]) [cs] Try.runUnderlying27 el30 rfl rfl (by intro e he; simp only [List.mem_cons, List.not_mem_nil, or_false] at he; subst he; exact (RT_len ht)) rfl (by decide) fun b2 k2 ho2 hk2 => ?_)
 refine JL_call rfl Try.call16 rfl (fun hin => right_ct _ _ _ (Own.rd1 ho2 (hin 0 _ rfl) (RT.mono (Hle.hu _ _) ht))) rfl ?_
 rintro _ _ ⟨rfl, rfl⟩
 refine JL_pure (v := .int .i64 (rightT [t])) rfl (Pu.assign rfl) ?_
 refine JL_nil ?_
 refine J_seq ?_
 refine J_region ?_
 refine JL_pure (v := .int .i64 (rightT [t])) rfl (Pu.move rfl) ?_
 refine JL_pure (v := .bool (!decide (rightT [t] = 0))) rfl (Pu.neq rfl rfl) ?_
 refine JL_nil ?_
 refine J_cond (b := !decide (rightT [t] = 0)) rfl (fun h3 => ?_) (fun h3 => ?_)
 ·skip
  replace h3 := nt h3
  replace h3 := df h3
  refine J_seq ?_
  refine J_region ?_
  refine JL_pure (v := .int .i64 (rightT [t])) rfl (Pu.move rfl) ?_
  refine JL_pure (v := .slice none 0 0) rfl (Pu.assign rfl) ?_
  refine JL_pure (v := .int .i64 (rightT [t])) rfl (Pu.assign rfl) ?_
  refine JL_nil ?_
  refine J_ret ?_
  refine ⟨.tuple ⟨[.slice none 0 0, .int .i64 (rightT [t])]⟩, [[]], Ret.two rfl (RV.tmp rfl) (RV.tmp rfl), (Sub.emp Sub.nil), ?_⟩
  have hx : freeE t = ([], rightT [t]) := by rw [freeE, if_neg (by assumption)]
  exact ⟨_, _, _, rfl, rfl, by rw [hx]; exact Own.nil, by rw [hx]⟩
 ·skip
  replace h3 := nf h3
  replace h3 := dt h3
  refine J_skip ?_
  refine J_seq ?_
  refine J_region ?_
  refine JL_run rfl (Pu_load ty30 rfl (At.bx 1 rfl) (sub_a (RT_len ht)) ?_)
  refine JL_call rfl Try.call19 rfl (fun hin => freeP_ct _ _ _ (RT.mono (Hle.hu _ _) ht) (by have := (checkT_ok (rightT1 ‹rightT [t] = 0›)).1; omega) (checkT_ok (rightT1 ‹rightT [t] = 0›)).2.1) rfl ?_
  rintro u4 _ ⟨_, k4, hu4, rfl, ho4⟩; subst hu4
  refine JL_pure (v := u4) rfl (Pu.assign rfl) ?_
  refine JL_pure (v := .int .i64 (0)) rfl (Pu.assign rfl) ?_
  refine JL_nil ?_
  refine J_ret ?_
  refine ⟨.tuple ⟨[u4, .int .i64 (0)]⟩, [k4], Ret.two rfl (RV.tmp rfl) (RV.tmp rfl), (Sk Sub.nil), ?_⟩
  have hx : freeE t = (freeP t, 0) := by rw [freeE, if_pos (by assumption)]
  exact ⟨_, _, _, rfl, rfl, by rw [hx]; exact ho4, by rw [hx]⟩
theorem substP_ct (t : Tm) (m : Int) (u : Tm) (cs us : List Value) (H : Heap) (ht : RT H cs t) (hu1 : RT H us u) : CT Try.prog 8 ⟨[.agg ⟨cs⟩, .int .i64 (m), .agg ⟨us⟩]⟩ [] H (fun v N => ∃ cs k, v = .tuple ⟨[.agg ⟨cs⟩, .int .i64 (substP t m u).2]⟩ ∧ N = [k] ∧ OT (substP t m u).1 cs k) := by
 refine CT_enter Try.func8 rfl rfl ?_
 refine J_seq ?_
 refine J_region ?_
 refine JL_run rfl (Runs_box (l := cs) rfl rfl fun b1 => ?_)
 refine JL_run rfl (Runs_box (l := [.int .i64 (m)]) rfl rfl fun b2 => ?_)
 refine JL_run rfl (Runs_box (l := us) rfl rfl fun b3 => ?_)
 refine JL_run rfl (Runs_alloc (l := pkT (0) (0) (zS) (.slice none 0 0) (.slice none 0 0)) Try.zeroValue30 rfl fun b4 => ?_)
 refine JL_pure (v := .int .i64 (0)) rfl (Pu.assign rfl) ?_
 refine JL_nil ?_
 refine J_seq ?_
 refine J_seq ?_
 refine J_region ?_
 refine JL_run rfl (Pu_load ty30 rfl (At.bx 3 rfl) (sub_a (RT_len ht)) ?_)
 refine JL_run rfl (Pu_load ty30 rfl (At.bx 1 rfl) (sub_a (RT_len hu1)) ?_)
 refine JL_run rfl (Runs_buildSlice (vs := [.agg ⟨cs⟩, .agg ⟨us⟩]) [cs, us] Try.runUnderlying27 el30 rfl rfl (by intro e he; simp only [List.mem_cons, List.not_mem_nil, or_false] at he; rcases he with rfl | rfl <;> first | exact (RT_len ht) | exact (RT_len hu1)) rfl (by decide) fun b5 k5 ho5 hk5 => ?_)
 refine JL_call rfl Try.call16 rfl (fun hin => right_ct _ _ _ (Own.rd2 ho5 (hin 0 _ rfl) (RT.mono (Hle.hu _ _) ht) (RT.mono (Hle.hu _ _) hu1))) rfl ?_
 rintro _ _ ⟨rfl, rfl⟩
 refine JL_pure (v := .int .i64 (rightT [t, u])) rfl (Pu.assign rfl) ?_
 refine JL_nil ?_
 refine J_seq ?_
 refine J_region ?_
 refine JL_pure (v := .int .i64 (rightT [t, u])) rfl (Pu.move rfl) ?_
 refine JL_pure (v := .bool (!decide (rightT [t, u] = 0))) rfl (Pu.neq rfl rfl) ?_
 refine JL_nil ?_
 refine J_cond (b := !decide (rightT [t, u] = 0)) rfl (fun h6 => ?_) (fun h6 => ?_)
 ·skip
  replace h6 := nt h6
  replace h6 := df h6
  refine J_seq ?_
  refine J_region ?_
  refine JL_pure (v := .agg ⟨pkT (0) (0) (zS) (.slice none 0 0) (.slice none 0 0)⟩) rfl (Pu.build (pv := []) (l := pkT (0) (0) (zS) (.slice none 0 0) (.slice none 0 0)) rfl (bld30_ )) ?_
  refine JL_pure (v := .int .i64 (rightT [t, u])) rfl (Pu.move rfl) ?_
  refine JL_run rfl (Runs_storeB 1 (vs := pkT (0) (0) (zS) (.slice none 0 0) (.slice none 0 0)) (l := pkT (0) (0) (zS) (.slice none 0 0) (.slice none 0 0)) ty30 rfl rfl rfl rfl rfl (pkT_ok rfl rfl) (pkT_s ..) ?_)
  refine JL_pure (v := .int .i64 (rightT [t, u])) rfl (Pu.assign rfl) ?_
  refine JL_nil ?_
  refine J_ret ?_
  refine ⟨.tuple ⟨[.agg ⟨pkT (0) (0) (zS) (.slice none 0 0) (.slice none 0 0)⟩, .int .i64 (rightT [t, u])]⟩, [[]], Ret.two rfl (RV.cell ty30 rfl (At.bx 1 rfl) (pkT_a ..)) (RV.tmp rfl), (Sub.emp Sub.nil), ?_⟩
  have hx : substP t m u = (zT, rightT [t, u]) := by simp only [substP]; (repeat' split) <;> first | rfl | (exfalso; simp_all; done) | (exfalso; simp_all; omega)
  exact ⟨_, _, by rw [hx], rfl, by rw [hx]; exact OT_zero⟩
 ·skip
  replace h6 := nf h6
  replace h6 := dt h6
  refine J_skip ?_
  refine J_seq ?_
  refine J_seq ?_
  refine J_region ?_
  refine JL_run rfl (Pu_load1 ty3 rfl (At.bx 3 rfl) rfl ?_)
  refine JL_call rfl Try.call17 rfl (fun hin => off_ct _ _ _ _) rfl ?_
  rintro _ _ ⟨rfl, rfl⟩
  refine JL_nil ?_
  refine J_cond (b := decide (m < 0 ∨ 59 < m)) rfl (fun h7 => ?_) (fun h7 => ?_)
  ·skip
   replace h7 := dt h7
   refine J_seq ?_
   refine J_region ?_
   refine JL_pure (v := .agg ⟨pkT (0) (0) (zS) (.slice none 0 0) (.slice none 0 0)⟩) rfl (Pu.build (pv := []) (l := pkT (0) (0) (zS) (.slice none 0 0) (.slice none 0 0)) rfl (bld30_ )) ?_
   refine JL_run rfl (Runs_storeB 1 (vs := pkT (0) (0) (zS) (.slice none 0 0) (.slice none 0 0)) (l := pkT (0) (0) (zS) (.slice none 0 0) (.slice none 0 0)) ty30 rfl rfl rfl rfl rfl (pkT_ok rfl rfl) (pkT_s ..) ?_)
   refine JL_pure (v := .int .i64 (3)) rfl (Pu.assign rfl) ?_
   refine JL_nil ?_
   refine J_ret ?_
   refine ⟨.tuple ⟨[.agg ⟨pkT (0) (0) (zS) (.slice none 0 0) (.slice none 0 0)⟩, .int .i64 (3)]⟩, [[]], Ret.two rfl (RV.cell ty30 rfl (At.bx 1 rfl) (pkT_a ..)) (RV.tmp rfl), (Sub.emp Sub.nil), ?_⟩
   have hx : substP t m u = (zT, 3) := by simp only [substP]; (repeat' split) <;> first | rfl | (exfalso; simp_all; done) | (exfalso; simp_all; omega)
   exact ⟨_, _, by rw [hx], rfl, by rw [hx]; exact OT_zero⟩
  ·skip
   replace h7 := df h7
   refine J_skip ?_
   refine J_seq ?_
   refine J_region ?_
   refine JL_pure (v := .func (.func 23) ⟨[]⟩ ⟨[.pointer (some ⟨b2, 0, none⟩), .pointer (some ⟨b3, 0, none⟩)]⟩) rfl (Pu.makeFunc rfl rfl) ?_
   refine JL_pure (v := .agg ⟨[.func (.func 23) ⟨[]⟩ ⟨[.pointer (some ⟨b2, 0, none⟩), .pointer (some ⟨b3, 0, none⟩)]⟩, .func (.func 25) ⟨[]⟩ ⟨[]⟩]⟩) rfl (Pu.build (pv := [(0, .func (.func 23) ⟨[]⟩ ⟨[.pointer (some ⟨b2, 0, none⟩), .pointer (some ⟨b3, 0, none⟩)]⟩), (1, .func (.func 25) ⟨[]⟩ ⟨[]⟩)]) (l := [.func (.func 23) ⟨[]⟩ ⟨[.pointer (some ⟨b2, 0, none⟩), .pointer (some ⟨b3, 0, none⟩)]⟩, .func (.func 25) ⟨[]⟩ ⟨[]⟩]) rfl (bld60_0_1 _ _ _ _ _ _)) ?_
   refine JL_run rfl (Pu_load ty30 rfl (At.bx 4 rfl) (sub_a (RT_len ht)) ?_)
   refine JL_call rfl Try.call26 rfl (fun hin => mapTermP_ct 25 [] [] Try.call25 (fun s => s) 23 [] [.pointer (some ⟨b2, 0, none⟩), .pointer (some ⟨b3, 0, none⟩)] Try.call23 (sbv m u) _ _ _ _ (RT.mono (Hle.hu _ _) ht) (by have := (checkT_ok (rightT2 ‹rightT [t, u] = 0›).1).1; omega) (checkT_ok (rightT2 ‹rightT [t, u] = 0›).1).2.1 (by decide) (by have := (checkT_ok (rightT2 ‹rightT [t, u] = 0›).1).1; omega) (fun s h hh => same_ct s h) (fun n b h hh h1 h2 h3 h4 => substV_ct n b m u _ h b2 b3 (hh _ _ (hin 3 _ rfl _ _ List.mem_cons_self)) (hh _ _ (hin 2 _ rfl _ _ List.mem_cons_self)) (RT.mono (Hle.trans (Hle.hu _ _) hh) hu1) (by have := (checkT_ok (rightT2 ‹rightT [t, u] = 0›).2).1; omega) (checkT_ok (rightT2 ‹rightT [t, u] = 0›).2).2.1 h1 h2 h3 h4)) rfl ?_
   rintro _ _ ⟨cs8, k8, rfl, rfl, hO8⟩
   refine JL_call rfl Try.call22 rfl (fun hin => short_ct _ _ _ (hO8.rd (hin 0 _ rfl))) rfl ?_
   rintro _ _ ⟨rfl, rfl⟩
   refine JL_pure (v := .agg ⟨(if longB (mapQ (fun s => s) (sbv m u) (0) (t)) = true then pkT 0 0 zS (.slice none 0 0) (.slice none 0 0) else cs8)⟩) rfl (Pu.extract rfl rfl) ?_
   refine JL_pure (v := .int .i64 ((if longB (mapQ (fun s => s) (sbv m u) (0) (t)) = true then 11 else 0))) rfl (Pu.extract rfl rfl) ?_
   refine JL_run rfl (Runs_storeB 2 (vs := (if longB (mapQ (fun s => s) (sbv m u) (0) (t)) = true then pkT 0 0 zS (.slice none 0 0) (.slice none 0 0) else cs8)) (l := (if longB (mapQ (fun s => s) (sbv m u) (0) (t)) = true then pkT 0 0 zS (.slice none 0 0) (.slice none 0 0) else cs8)) ty30 rfl rfl rfl rfl (len_ite (n := 36) rfl hO8.len) (okc_ite (pkT_ok rfl rfl) hO8.ok) (spl_a (n := 36) rfl (len_ite (n := 36) rfl hO8.len)) ?_)
   refine JL_pure (v := .int .i64 ((if longB (mapQ (fun s => s) (sbv m u) (0) (t)) = true then 11 else 0))) rfl (Pu.assign rfl) ?_
   refine JL_nil ?_
   refine J_ret ?_
   by_cases hL : longB (mapQ (fun s => s) (sbv m u) (0) (t)) = true
   ·refine ⟨.tuple ⟨[.agg ⟨(if longB (mapQ (fun s => s) (sbv m u) (0) (t)) = true then pkT 0 0 zS (.slice none 0 0) (.slice none 0 0) else cs8)⟩, .int .i64 ((if longB (mapQ (fun s => s) (sbv m u) (0) (t)) = true then 11 else 0))]⟩, [[]], Ret.two rfl (RV.cell ty30 rfl (At.bx 2 rfl) (sub_a (len_ite (n := 36) rfl hO8.len))) (RV.tmp rfl), (Sub.emp Sub.nil), ?_⟩
    have hx : substP t m u = (zT, 11) := by rw [substP, if_pos (by assumption), if_neg (by omega), if_pos (show longB (sbT m u t) = true from hL)]
    exact ⟨_, _, by rw [if_pos hL, if_pos hL, hx], rfl, by rw [hx]; exact OT_zero⟩
   ·refine ⟨.tuple ⟨[.agg ⟨(if longB (mapQ (fun s => s) (sbv m u) (0) (t)) = true then pkT 0 0 zS (.slice none 0 0) (.slice none 0 0) else cs8)⟩, .int .i64 ((if longB (mapQ (fun s => s) (sbv m u) (0) (t)) = true then 11 else 0))]⟩, [k8], Ret.two rfl (RV.cell ty30 rfl (At.bx 2 rfl) (sub_a (len_ite (n := 36) rfl hO8.len))) (RV.tmp rfl), (Sk Sub.nil), ?_⟩
    have hx : substP t m u = (mapQ (fun s => s) (sbv m u) (0) (t), 0) := by rw [substP, if_pos (by assumption), if_neg (by omega), if_neg (show ¬ longB (sbT m u t) = true from hL)]; rfl
    exact ⟨_, _, by rw [if_neg hL, if_neg hL, hx], rfl, by rw [hx]; exact hO8⟩
end Go.Proofs.Ytmdifonjepggcaa.Hs
/-! Walks, printed by a program of this session's own (gen.py). -/
namespace Go.Proofs.Ytmdifonjepggcaa.Hs
open Go Go.Proofs
set_option maxRecDepth 100000
set_option linter.unusedVariables false
set_option linter.unusedSimpArgs false
attribute [local irreducible] JL J CT wlo
theorem eqFuncP_ct (g : Nat) (fs cv : List Value) (hcall : ∀ args w, (callFunc g args).run Try.prog w = .ok (.enter g args) w) (l m : List Pt) (v u : Value) (H : Heap) (hl : rdS RP 35 H v l) (hm : rdS RP 35 H u m) (hg : ∀ x ∈ l, ∀ y ∈ m, ∀ a b h, Hle H h → RP h a x → RP h b y → CT Try.prog g ⟨fs ++ [.agg ⟨a⟩, .agg ⟨b⟩] ++ cv⟩ [] h (fun v N => v = .bool (decide (x = y)) ∧ N = [])) : CT Try.prog 51 ⟨[v, u, .func (.func g) ⟨fs⟩ ⟨cv⟩]⟩ [] H (fun v N => v = .bool (decide (l = m)) ∧ N = []) := by
 refine CT_enter Try.func51 rfl rfl ?_
 refine J_seq ?_
 refine J_region ?_
 refine JL_pure (v := .bool (false)) rfl (Pu.assign rfl) ?_
 refine JL_nil ?_
 refine J_seq ?_
 refine J_seq ?_
 refine J_region ?_
 refine JL_pure (v := v) rfl (Pu.move rfl) ?_
 obtain ⟨a1, cap1, hv1⟩ := hl.sl
 have hle1 := hl.le
 refine JL_pure (v := .int .i64 (((l).length : Int))) rfl (Pu.lenSl Try.runUnderlying64 hv1) ?_
 refine JL_pure (v := u) rfl (Pu.move rfl) ?_
 obtain ⟨a2, cap2, hv2⟩ := hm.sl
 have hle2 := hm.le
 refine JL_pure (v := .int .i64 (((m).length : Int))) rfl (Pu.lenSl Try.runUnderlying64 hv2) ?_
 refine JL_pure (v := .bool (!decide (((l).length : Int) = ((m).length : Int)))) rfl (Pu.neq rfl rfl) ?_
 refine JL_nil ?_
 refine J_cond (b := !decide (((l).length : Int) = ((m).length : Int))) rfl (fun h3 => ?_) (fun h3 => ?_)
 ·skip
  replace h3 := nt h3
  replace h3 := df h3
  refine J_seq ?_
  refine J_region ?_
  refine JL_pure (v := .bool (false)) rfl (Pu.assign rfl) ?_
  refine JL_nil ?_
  refine J_ret ?_
  refine ⟨.bool (false), [], Ret.one rfl (RV.tmp rfl), Sub.nil, ?_⟩
  exact ⟨by rw [decide_eq_false]; intro e; subst e; exact h3 rfl, rfl⟩
 ·skip
  replace h3 := nf h3
  replace h3 := dt h3
  refine J_skip ?_
  refine J_seq ?_
  refine J_seq ?_
  refine J_region ?_
  refine JL_pure (v := v) rfl (Pu.move rfl) ?_
  obtain ⟨a4, cap4, hv4⟩ := hl.sl
  have hle4 := hl.le
  refine JL_pure (v := .int .i64 (((l).length : Int))) rfl (Pu.lenSl Try.runUnderlying64 hv4) ?_
  refine JL_pure (v := .int .i64 (0)) rfl (Pu.move rfl) ?_
  refine JL_nil ?_
  refine J_block ?_
  refine J_loop (fun k ρ M => ∃ (j : Nat), ρ 1 = u ∧ ρ 2 = .func (.func g) ⟨fs⟩ ⟨cv⟩ ∧ ρ 6 = .bool (false) ∧ ρ 15 = v ∧ ρ 16 = .int .i64 (((l).length : Int)) ∧ ρ 17 = .int .i64 ((j : Int)) ∧ Sub [] M ∧ j ≤ (l).length ∧ l.length = m.length ∧ l.take j = m.take j ∧ k = (l).length - j) _ ⟨0, rfl, rfl, rfl, rfl, rfl, rfl, Sub.nil, Nat.zero_le _, (by omega), rfl, rfl⟩ ?_
  rintro _ ρ5 _ ⟨j, e6, e7, e8, e9, e10, e11, hm12, hj, hlen, htake, rfl⟩
  obtain ⟨ρ13, rfl⟩ := reopen_ex (uc e6 (uc e7 (uc e8 (uc e9 (uc e10 (uc e11 un))))))
  clear e6 e7 e8 e9 e10 e11
  refine J_sub hm12 ?_
  refine J_seq ?_
  refine J_region ?_
  refine JL_pure (v := .bool (decide ((j : Int) < ((l).length : Int)))) rfl (Pu.lss rfl rfl) ?_
  refine JL_nil ?_
  refine J_seq ?_
  refine J_cond (b := decide ((j : Int) < ((l).length : Int))) rfl (fun h14 => ?_) (fun h14 => ?_)
  ·skip
   replace h14 := dt h14
   have h14n : j < (l).length := by omega
   have hlenl := hl.le
   have hltm : j < m.length := by omega
   refine J_skip ?_
   refine J_seq ?_
   refine J_block ?_
   refine J_seq ?_
   refine J_region ?_
   refine JL_pure (v := .int .i64 ((j : Int))) rfl (Pu.move rfl) ?_
   obtain ⟨b15, o15, cap15, row15, T15, fr15, cs15, hv15, hb15, hs15, hE15⟩ := hl.get j (by first | assumption | omega | decide | simp)
   refine JL_pure (v := .pointer (some ⟨b15, o15 + j * 35, none⟩)) rfl (Pu.idx j Try.runUnderlying64 ty66 hv15 rfl rfl (by first | assumption | omega | decide | simp)) ?_
   refine JL_run rfl (Pu_load ty66 rfl (At.im hb15) hs15 ?_)
   refine JL_run rfl (Runs_alloc (l := pkP (0) (0) (zS) (.slice none 0 0)) Try.zeroValue66 rfl fun b16 => ?_)
   refine JL_pure (v := .int .i64 ((j : Int))) rfl (Pu.assign rfl) ?_
   refine JL_run rfl (Runs_storeB 0 (vs := cs15) (l := cs15) ty66 rfl rfl rfl rfl (RP_len hE15) (RP_ok hE15) (spl_a (n := 35) rfl (RP_len hE15)) ?_)
   refine JL_nil ?_
   refine J_seq ?_
   refine J_region ?_
   refine JL_pure (v := u) rfl (Pu.move rfl) ?_
   refine JL_pure (v := .int .i64 ((j : Int))) rfl (Pu.move rfl) ?_
   obtain ⟨b17, o17, cap17, row17, T17, fr17, cs17, hv17, hb17, hs17, hE17⟩ := hm.get j (by first | assumption | omega | decide | simp)
   refine JL_pure (v := .pointer (some ⟨b17, o17 + j * 35, none⟩)) rfl (Pu.idx j Try.runUnderlying64 ty66 hv17 rfl rfl (by first | assumption | omega | decide | simp)) ?_
   refine JL_run rfl (Pu_load ty66 rfl (At.im hb17) hs17 ?_)
   refine JL_run rfl (Runs_alloc (l := pkP (0) (0) (zS) (.slice none 0 0)) Try.zeroValue66 rfl fun b18 => ?_)
   refine JL_run rfl (Runs_storeB 0 (vs := cs17) (l := cs17) ty66 rfl rfl rfl rfl (RP_len hE17) (RP_ok hE17) (spl_a (n := 35) rfl (RP_len hE17)) ?_)
   refine JL_nil ?_
   refine J_seq ?_
   refine J_region ?_
   refine JL_pure (v := .func (.func g) ⟨fs⟩ ⟨cv⟩) rfl (Pu.move rfl) ?_
   refine JL_run rfl (Pu_load ty66 rfl (At.bx 1 rfl) (sub_a (RP_len hE15)) ?_)
   refine JL_run rfl (Pu_load ty66 rfl (At.bx 0 rfl) (sub_a (RP_len hE17)) ?_)
   refine JL_call rfl hcall rfl (fun hin => hg _ (List.getElem_mem h14n) _ (List.getElem_mem (by omega)) _ _ _ (Hle.hu _ _) (RP.mono (Hle.hu _ _) hE15) (RP.mono (Hle.hu _ _) hE17)) rfl ?_
   rintro _ _ ⟨rfl, rfl⟩
   refine JL_pure (v := .bool (!(decide (((l)[j]) = ((m)[j]))))) rfl (Pu.not rfl) ?_
   refine JL_nil ?_
   refine J_cond (b := !(decide (((l)[j]) = ((m)[j])))) rfl (fun h19 => ?_) (fun h19 => ?_)
   ·skip
    replace h19 := nt h19
    replace h19 := df h19
    refine J_seq ?_
    refine J_region ?_
    refine JL_pure (v := .bool (false)) rfl (Pu.assign rfl) ?_
    refine JL_nil ?_
    refine J_ret ?_
    refine ⟨.bool (false), [], Ret.one rfl (RV.tmp rfl), Sub.nil, ?_⟩
    exact ⟨by rw [decide_eq_false]; intro e; subst e; exact h19 rfl, rfl⟩
   ·skip
    replace h19 := nf h19
    replace h19 := dt h19
    refine J_skip ?_
    refine J_region ?_
    refine JL_pure (v := .int .i64 (((j + 1 : Nat) : Int))) rfl (Pu.inc rfl rfl (by omega)) ?_
    refine JL_pure (v := .int .i64 (((j + 1 : Nat) : Int))) rfl (Pu.move rfl) ?_
    refine JL_nil ?_
    refine ⟨_, ?_, (j + 1), rfl, rfl, rfl, rfl, rfl, rfl, Sub.nil, ?_, ?_, ?_, rfl⟩
    ·omega
    ·omega
    ·assumption
    ·rw [List.take_succ_eq_append_getElem h14n, List.take_succ_eq_append_getElem (by omega), htake, h19]
  ·skip
   replace h14 := df h14
   have h14n : (l).length ≤ j := by omega
   refine J_exit _ rfl ?_
   refine J_seq ?_
   refine J_region ?_
   refine JL_pure (v := .bool (true)) rfl (Pu.assign rfl) ?_
   refine JL_nil ?_
   refine J_ret ?_
   refine ⟨.bool (true), [], Ret.one rfl (RV.tmp rfl), Sub.nil, ?_⟩
   exact ⟨by rw [decide_eq_true]; have e := htake; rw [List.take_of_length_le h14n, List.take_of_length_le (by omega)] at e; exact e, rfl⟩
theorem eqFuncT_ct (g : Nat) (fs cv : List Value) (hcall : ∀ args w, (callFunc g args).run Try.prog w = .ok (.enter g args) w) (l m : List Tm) (v u : Value) (H : Heap) (hl : rdS RT 36 H v l) (hm : rdS RT 36 H u m) (hg : ∀ x ∈ l, ∀ y ∈ m, ∀ a b h, Hle H h → RT h a x → RT h b y → CT Try.prog g ⟨fs ++ [.agg ⟨a⟩, .agg ⟨b⟩] ++ cv⟩ [] h (fun v N => v = .bool (decide (x = y)) ∧ N = [])) : CT Try.prog 50 ⟨[v, u, .func (.func g) ⟨fs⟩ ⟨cv⟩]⟩ [] H (fun v N => v = .bool (decide (l = m)) ∧ N = []) := by
 refine CT_enter Try.func50 rfl rfl ?_
 refine J_seq ?_
 refine J_region ?_
 refine JL_pure (v := .bool (false)) rfl (Pu.assign rfl) ?_
 refine JL_nil ?_
 refine J_seq ?_
 refine J_seq ?_
 refine J_region ?_
 refine JL_pure (v := v) rfl (Pu.move rfl) ?_
 obtain ⟨a1, cap1, hv1⟩ := hl.sl
 have hle1 := hl.le
 refine JL_pure (v := .int .i64 (((l).length : Int))) rfl (Pu.lenSl Try.runUnderlying27 hv1) ?_
 refine JL_pure (v := u) rfl (Pu.move rfl) ?_
 obtain ⟨a2, cap2, hv2⟩ := hm.sl
 have hle2 := hm.le
 refine JL_pure (v := .int .i64 (((m).length : Int))) rfl (Pu.lenSl Try.runUnderlying27 hv2) ?_
 refine JL_pure (v := .bool (!decide (((l).length : Int) = ((m).length : Int)))) rfl (Pu.neq rfl rfl) ?_
 refine JL_nil ?_
 refine J_cond (b := !decide (((l).length : Int) = ((m).length : Int))) rfl (fun h3 => ?_) (fun h3 => ?_)
 ·skip
  replace h3 := nt h3
  replace h3 := df h3
  refine J_seq ?_
  refine J_region ?_
  refine JL_pure (v := .bool (false)) rfl (Pu.assign rfl) ?_
  refine JL_nil ?_
  refine J_ret ?_
  refine ⟨.bool (false), [], Ret.one rfl (RV.tmp rfl), Sub.nil, ?_⟩
  exact ⟨by rw [decide_eq_false]; intro e; subst e; exact h3 rfl, rfl⟩
 ·skip
  replace h3 := nf h3
  replace h3 := dt h3
  refine J_skip ?_
  refine J_seq ?_
  refine J_seq ?_
  refine J_region ?_
  refine JL_pure (v := v) rfl (Pu.move rfl) ?_
  obtain ⟨a4, cap4, hv4⟩ := hl.sl
  have hle4 := hl.le
  refine JL_pure (v := .int .i64 (((l).length : Int))) rfl (Pu.lenSl Try.runUnderlying27 hv4) ?_
  refine JL_pure (v := .int .i64 (0)) rfl (Pu.move rfl) ?_
  refine JL_nil ?_
  refine J_block ?_
  refine J_loop (fun k ρ M => ∃ (j : Nat), ρ 1 = u ∧ ρ 2 = .func (.func g) ⟨fs⟩ ⟨cv⟩ ∧ ρ 6 = .bool (false) ∧ ρ 15 = v ∧ ρ 16 = .int .i64 (((l).length : Int)) ∧ ρ 17 = .int .i64 ((j : Int)) ∧ Sub [] M ∧ j ≤ (l).length ∧ l.length = m.length ∧ l.take j = m.take j ∧ k = (l).length - j) _ ⟨0, rfl, rfl, rfl, rfl, rfl, rfl, Sub.nil, Nat.zero_le _, (by omega), rfl, rfl⟩ ?_
  rintro _ ρ5 _ ⟨j, e6, e7, e8, e9, e10, e11, hm12, hj, hlen, htake, rfl⟩
  obtain ⟨ρ13, rfl⟩ := reopen_ex (uc e6 (uc e7 (uc e8 (uc e9 (uc e10 (uc e11 un))))))
  clear e6 e7 e8 e9 e10 e11
  refine J_sub hm12 ?_
  refine J_seq ?_
  refine J_region ?_
  refine JL_pure (v := .bool (decide ((j : Int) < ((l).length : Int)))) rfl (Pu.lss rfl rfl) ?_
  refine JL_nil ?_
  refine J_seq ?_
  refine J_cond (b := decide ((j : Int) < ((l).length : Int))) rfl (fun h14 => ?_) (fun h14 => ?_)
  ·skip
   replace h14 := dt h14
   have h14n : j < (l).length := by omega
   have hlenl := hl.le
   have hltm : j < m.length := by omega
   refine J_skip ?_
   refine J_seq ?_
   refine J_block ?_
   refine J_seq ?_
   refine J_region ?_
   refine JL_pure (v := .int .i64 ((j : Int))) rfl (Pu.move rfl) ?_
   obtain ⟨b15, o15, cap15, row15, T15, fr15, cs15, hv15, hb15, hs15, hE15⟩ := hl.get j (by first | assumption | omega | decide | simp)
   refine JL_pure (v := .pointer (some ⟨b15, o15 + j * 36, none⟩)) rfl (Pu.idx j Try.runUnderlying27 ty30 hv15 rfl rfl (by first | assumption | omega | decide | simp)) ?_
   refine JL_run rfl (Pu_load ty30 rfl (At.im hb15) hs15 ?_)
   refine JL_run rfl (Runs_alloc (l := pkT (0) (0) (zS) (.slice none 0 0) (.slice none 0 0)) Try.zeroValue30 rfl fun b16 => ?_)
   refine JL_pure (v := .int .i64 ((j : Int))) rfl (Pu.assign rfl) ?_
   refine JL_run rfl (Runs_storeB 0 (vs := cs15) (l := cs15) ty30 rfl rfl rfl rfl (RT_len hE15) (RT_ok hE15) (spl_a (n := 36) rfl (RT_len hE15)) ?_)
   refine JL_nil ?_
   refine J_seq ?_
   refine J_region ?_
   refine JL_pure (v := u) rfl (Pu.move rfl) ?_
   refine JL_pure (v := .int .i64 ((j : Int))) rfl (Pu.move rfl) ?_
   obtain ⟨b17, o17, cap17, row17, T17, fr17, cs17, hv17, hb17, hs17, hE17⟩ := hm.get j (by first | assumption | omega | decide | simp)
   refine JL_pure (v := .pointer (some ⟨b17, o17 + j * 36, none⟩)) rfl (Pu.idx j Try.runUnderlying27 ty30 hv17 rfl rfl (by first | assumption | omega | decide | simp)) ?_
   refine JL_run rfl (Pu_load ty30 rfl (At.im hb17) hs17 ?_)
   refine JL_run rfl (Runs_alloc (l := pkT (0) (0) (zS) (.slice none 0 0) (.slice none 0 0)) Try.zeroValue30 rfl fun b18 => ?_)
   refine JL_run rfl (Runs_storeB 0 (vs := cs17) (l := cs17) ty30 rfl rfl rfl rfl (RT_len hE17) (RT_ok hE17) (spl_a (n := 36) rfl (RT_len hE17)) ?_)
   refine JL_nil ?_
   refine J_seq ?_
   refine J_region ?_
   refine JL_pure (v := .func (.func g) ⟨fs⟩ ⟨cv⟩) rfl (Pu.move rfl) ?_
   refine JL_run rfl (Pu_load ty30 rfl (At.bx 1 rfl) (sub_a (RT_len hE15)) ?_)
   refine JL_run rfl (Pu_load ty30 rfl (At.bx 0 rfl) (sub_a (RT_len hE17)) ?_)
   refine JL_call rfl hcall rfl (fun hin => hg _ (List.getElem_mem h14n) _ (List.getElem_mem (by omega)) _ _ _ (Hle.hu _ _) (RT.mono (Hle.hu _ _) hE15) (RT.mono (Hle.hu _ _) hE17)) rfl ?_
   rintro _ _ ⟨rfl, rfl⟩
   refine JL_pure (v := .bool (!(decide (((l)[j]) = ((m)[j]))))) rfl (Pu.not rfl) ?_
   refine JL_nil ?_
   refine J_cond (b := !(decide (((l)[j]) = ((m)[j])))) rfl (fun h19 => ?_) (fun h19 => ?_)
   ·skip
    replace h19 := nt h19
    replace h19 := df h19
    refine J_seq ?_
    refine J_region ?_
    refine JL_pure (v := .bool (false)) rfl (Pu.assign rfl) ?_
    refine JL_nil ?_
    refine J_ret ?_
    refine ⟨.bool (false), [], Ret.one rfl (RV.tmp rfl), Sub.nil, ?_⟩
    exact ⟨by rw [decide_eq_false]; intro e; subst e; exact h19 rfl, rfl⟩
   ·skip
    replace h19 := nf h19
    replace h19 := dt h19
    refine J_skip ?_
    refine J_region ?_
    refine JL_pure (v := .int .i64 (((j + 1 : Nat) : Int))) rfl (Pu.inc rfl rfl (by omega)) ?_
    refine JL_pure (v := .int .i64 (((j + 1 : Nat) : Int))) rfl (Pu.move rfl) ?_
    refine JL_nil ?_
    refine ⟨_, ?_, (j + 1), rfl, rfl, rfl, rfl, rfl, rfl, Sub.nil, ?_, ?_, ?_, rfl⟩
    ·omega
    ·omega
    ·assumption
    ·rw [List.take_succ_eq_append_getElem h14n, List.take_succ_eq_append_getElem (by omega), htake, h19]
  ·skip
   replace h14 := df h14
   have h14n : (l).length ≤ j := by omega
   refine J_exit _ rfl ?_
   refine J_seq ?_
   refine J_region ?_
   refine JL_pure (v := .bool (true)) rfl (Pu.assign rfl) ?_
   refine JL_nil ?_
   refine J_ret ?_
   refine ⟨.bool (true), [], Ret.one rfl (RV.tmp rfl), Sub.nil, ?_⟩
   exact ⟨by rw [decide_eq_true]; have e := htake; rw [List.take_of_length_le h14n, List.take_of_length_le (by omega)] at e; exact e, rfl⟩
theorem eqFuncC_ct (g : Nat) (fs cv : List Value) (hcall : ∀ args w, (callFunc g args).run Try.prog w = .ok (.enter g args) w) (l m : List (Pt × Tm)) (v u : Value) (H : Heap) (hl : rdS RC 71 H v l) (hm : rdS RC 71 H u m) (hg : ∀ x ∈ l, ∀ y ∈ m, ∀ a b h, Hle H h → RC h a x → RC h b y → CT Try.prog g ⟨fs ++ [.agg ⟨a⟩, .agg ⟨b⟩] ++ cv⟩ [] h (fun v N => v = .bool (decide (x = y)) ∧ N = [])) : CT Try.prog 28 ⟨[v, u, .func (.func g) ⟨fs⟩ ⟨cv⟩]⟩ [] H (fun v N => v = .bool (decide (l = m)) ∧ N = []) := by
 refine CT_enter Try.func28 rfl rfl ?_
 refine J_seq ?_
 refine J_region ?_
 refine JL_pure (v := .bool (false)) rfl (Pu.assign rfl) ?_
 refine JL_nil ?_
 refine J_seq ?_
 refine J_seq ?_
 refine J_region ?_
 refine JL_pure (v := v) rfl (Pu.move rfl) ?_
 obtain ⟨a1, cap1, hv1⟩ := hl.sl
 have hle1 := hl.le
 refine JL_pure (v := .int .i64 (((l).length : Int))) rfl (Pu.lenSl Try.runUnderlying28 hv1) ?_
 refine JL_pure (v := u) rfl (Pu.move rfl) ?_
 obtain ⟨a2, cap2, hv2⟩ := hm.sl
 have hle2 := hm.le
 refine JL_pure (v := .int .i64 (((m).length : Int))) rfl (Pu.lenSl Try.runUnderlying28 hv2) ?_
 refine JL_pure (v := .bool (!decide (((l).length : Int) = ((m).length : Int)))) rfl (Pu.neq rfl rfl) ?_
 refine JL_nil ?_
 refine J_cond (b := !decide (((l).length : Int) = ((m).length : Int))) rfl (fun h3 => ?_) (fun h3 => ?_)
 ·skip
  replace h3 := nt h3
  replace h3 := df h3
  refine J_seq ?_
  refine J_region ?_
  refine JL_pure (v := .bool (false)) rfl (Pu.assign rfl) ?_
  refine JL_nil ?_
  refine J_ret ?_
  refine ⟨.bool (false), [], Ret.one rfl (RV.tmp rfl), Sub.nil, ?_⟩
  exact ⟨by rw [decide_eq_false]; intro e; subst e; exact h3 rfl, rfl⟩
 ·skip
  replace h3 := nf h3
  replace h3 := dt h3
  refine J_skip ?_
  refine J_seq ?_
  refine J_seq ?_
  refine J_region ?_
  refine JL_pure (v := v) rfl (Pu.move rfl) ?_
  obtain ⟨a4, cap4, hv4⟩ := hl.sl
  have hle4 := hl.le
  refine JL_pure (v := .int .i64 (((l).length : Int))) rfl (Pu.lenSl Try.runUnderlying28 hv4) ?_
  refine JL_pure (v := .int .i64 (0)) rfl (Pu.move rfl) ?_
  refine JL_nil ?_
  refine J_block ?_
  refine J_loop (fun k ρ M => ∃ (j : Nat), ρ 1 = u ∧ ρ 2 = .func (.func g) ⟨fs⟩ ⟨cv⟩ ∧ ρ 6 = .bool (false) ∧ ρ 15 = v ∧ ρ 16 = .int .i64 (((l).length : Int)) ∧ ρ 17 = .int .i64 ((j : Int)) ∧ Sub [] M ∧ j ≤ (l).length ∧ l.length = m.length ∧ l.take j = m.take j ∧ k = (l).length - j) _ ⟨0, rfl, rfl, rfl, rfl, rfl, rfl, Sub.nil, Nat.zero_le _, (by omega), rfl, rfl⟩ ?_
  rintro _ ρ5 _ ⟨j, e6, e7, e8, e9, e10, e11, hm12, hj, hlen, htake, rfl⟩
  obtain ⟨ρ13, rfl⟩ := reopen_ex (uc e6 (uc e7 (uc e8 (uc e9 (uc e10 (uc e11 un))))))
  clear e6 e7 e8 e9 e10 e11
  refine J_sub hm12 ?_
  refine J_seq ?_
  refine J_region ?_
  refine JL_pure (v := .bool (decide ((j : Int) < ((l).length : Int)))) rfl (Pu.lss rfl rfl) ?_
  refine JL_nil ?_
  refine J_seq ?_
  refine J_cond (b := decide ((j : Int) < ((l).length : Int))) rfl (fun h14 => ?_) (fun h14 => ?_)
  ·skip
   replace h14 := dt h14
   have h14n : j < (l).length := by omega
   have hlenl := hl.le
   have hltm : j < m.length := by omega
   refine J_skip ?_
   refine J_seq ?_
   refine J_block ?_
   refine J_seq ?_
   refine J_region ?_
   refine JL_pure (v := .int .i64 ((j : Int))) rfl (Pu.move rfl) ?_
   obtain ⟨b15, o15, cap15, row15, T15, fr15, cs15, hv15, hb15, hs15, hE15⟩ := hl.get j (by first | assumption | omega | decide | simp)
   obtain ⟨ca15, cb15, rfl, hA15, hB15⟩ := hE15
   refine JL_pure (v := .pointer (some ⟨b15, o15 + j * 71, none⟩)) rfl (Pu.idx j Try.runUnderlying28 ty68 hv15 rfl rfl (by first | assumption | omega | decide | simp)) ?_
   refine JL_run rfl (Pu_load ty68 rfl (At.im hb15) hs15 ?_)
   refine JL_run rfl (Runs_alloc (l := (pkP (0) (0) (zS) (.slice none 0 0)) ++ (pkT (0) (0) (zS) (.slice none 0 0) (.slice none 0 0))) Try.zeroValue68 rfl fun b16 => ?_)
   refine JL_pure (v := .int .i64 ((j : Int))) rfl (Pu.assign rfl) ?_
   refine JL_run rfl (Runs_storeB 0 (vs := (ca15) ++ (cb15)) (l := (ca15) ++ (cb15)) ty68 rfl rfl rfl rfl (len_app (RP_len hA15) (RT_len hB15)) (okc_app (RP_ok hA15) (RT_ok hB15)) (spl_a (n := 71) rfl (len_app (RP_len hA15) (RT_len hB15))) ?_)
   refine JL_nil ?_
   refine J_seq ?_
   refine J_region ?_
   refine JL_pure (v := u) rfl (Pu.move rfl) ?_
   refine JL_pure (v := .int .i64 ((j : Int))) rfl (Pu.move rfl) ?_
   obtain ⟨b17, o17, cap17, row17, T17, fr17, cs17, hv17, hb17, hs17, hE17⟩ := hm.get j (by first | assumption | omega | decide | simp)
   obtain ⟨ca17, cb17, rfl, hA17, hB17⟩ := hE17
   refine JL_pure (v := .pointer (some ⟨b17, o17 + j * 71, none⟩)) rfl (Pu.idx j Try.runUnderlying28 ty68 hv17 rfl rfl (by first | assumption | omega | decide | simp)) ?_
   refine JL_run rfl (Pu_load ty68 rfl (At.im hb17) hs17 ?_)
   refine JL_run rfl (Runs_alloc (l := (pkP (0) (0) (zS) (.slice none 0 0)) ++ (pkT (0) (0) (zS) (.slice none 0 0) (.slice none 0 0))) Try.zeroValue68 rfl fun b18 => ?_)
   refine JL_run rfl (Runs_storeB 0 (vs := (ca17) ++ (cb17)) (l := (ca17) ++ (cb17)) ty68 rfl rfl rfl rfl (len_app (RP_len hA17) (RT_len hB17)) (okc_app (RP_ok hA17) (RT_ok hB17)) (spl_a (n := 71) rfl (len_app (RP_len hA17) (RT_len hB17))) ?_)
   refine JL_nil ?_
   refine J_seq ?_
   refine J_region ?_
   refine JL_pure (v := .func (.func g) ⟨fs⟩ ⟨cv⟩) rfl (Pu.move rfl) ?_
   refine JL_run rfl (Pu_load ty68 rfl (At.bx 1 rfl) (sub_a (len_app (RP_len hA15) (RT_len hB15))) ?_)
   refine JL_run rfl (Pu_load ty68 rfl (At.bx 0 rfl) (sub_a (len_app (RP_len hA17) (RT_len hB17))) ?_)
   refine JL_call rfl hcall rfl (fun hin => hg _ (List.getElem_mem h14n) _ (List.getElem_mem (by omega)) _ _ _ (Hle.hu _ _) (RC.mono (Hle.hu _ _) (RC_mk hA15 hB15)) (RC.mono (Hle.hu _ _) (RC_mk hA17 hB17))) rfl ?_
   rintro _ _ ⟨rfl, rfl⟩
   refine JL_pure (v := .bool (!(decide (((l)[j]) = ((m)[j]))))) rfl (Pu.not rfl) ?_
   refine JL_nil ?_
   refine J_cond (b := !(decide (((l)[j]) = ((m)[j])))) rfl (fun h19 => ?_) (fun h19 => ?_)
   ·skip
    replace h19 := nt h19
    replace h19 := df h19
    refine J_seq ?_
    refine J_region ?_
    refine JL_pure (v := .bool (false)) rfl (Pu.assign rfl) ?_
    refine JL_nil ?_
    refine J_ret ?_
    refine ⟨.bool (false), [], Ret.one rfl (RV.tmp rfl), Sub.nil, ?_⟩
    exact ⟨by rw [decide_eq_false]; intro e; subst e; exact h19 rfl, rfl⟩
   ·skip
    replace h19 := nf h19
    replace h19 := dt h19
    refine J_skip ?_
    refine J_region ?_
    refine JL_pure (v := .int .i64 (((j + 1 : Nat) : Int))) rfl (Pu.inc rfl rfl (by omega)) ?_
    refine JL_pure (v := .int .i64 (((j + 1 : Nat) : Int))) rfl (Pu.move rfl) ?_
    refine JL_nil ?_
    refine ⟨_, ?_, (j + 1), rfl, rfl, rfl, rfl, rfl, rfl, Sub.nil, ?_, ?_, ?_, rfl⟩
    ·omega
    ·omega
    ·assumption
    ·rw [List.take_succ_eq_append_getElem h14n, List.take_succ_eq_append_getElem (by omega), htake, h19]
  ·skip
   replace h14 := df h14
   have h14n : (l).length ≤ j := by omega
   refine J_exit _ rfl ?_
   refine J_seq ?_
   refine J_region ?_
   refine JL_pure (v := .bool (true)) rfl (Pu.assign rfl) ?_
   refine JL_nil ?_
   refine J_ret ?_
   refine ⟨.bool (true), [], Ret.one rfl (RV.tmp rfl), Sub.nil, ?_⟩
   exact ⟨by rw [decide_eq_true]; have e := htake; rw [List.take_of_length_le h14n, List.take_of_length_le (by omega)] at e; exact e, rfl⟩
theorem samePattern_ct : ∀ (p q : Pt) (cs ds : List Value) (H : Heap), RP H cs p → RP H ds q → CT Try.prog 30 ⟨[.agg ⟨cs⟩, .agg ⟨ds⟩]⟩ [] H (fun v N => v = .bool (decide (p = q)) ∧ N = []) := by
 intro p
 induction p using Pt.ind with
 | h kind num ref kids ih =>
 intro q cs ds H hp hq
 obtain ⟨ks, rfl, hk, hn, hks⟩ := RP_mk.1 hp
 obtain ⟨ksq, rfl, hkq, hnq, hksq⟩ := RP_open hq
 refine CT_enter Try.func30 rfl rfl ?_
 refine J_seq ?_
 refine J_region ?_
 refine JL_run rfl (Runs_box (l := pkP (kind) (num) (ref) (ks)) rfl rfl fun b1 => ?_)
 refine JL_run rfl (Runs_box (l := pkP (q.kind) (q.num) (q.ref) (ksq)) rfl rfl fun b2 => ?_)
 refine JL_pure (v := .bool (false)) rfl (Pu.assign rfl) ?_
 refine JL_nil ?_
 refine J_cut (fun ρ M => ρ 4 = .bool ((((decide (kind = q.kind)) && (decide (num = q.num))) && (decide (ref = q.ref))) && (decide ((kids) = (q.kids)))) ∧ M = [[(b2, .cells ⟨pkP (q.kind) (q.num) (q.ref) (ksq)⟩ 66 (0, 0))], [(b1, .cells ⟨pkP (kind) (num) (ref) (ks)⟩ 66 (0, 0))]]) ?_ ?_
 ·refine J_region ?_
  refine JL_pure (v := .pointer (some ⟨b1, 0, none⟩)) rfl (fa66_0 rfl rfl) ?_
  refine JL_run rfl (Pu_load1 ty3 rfl (At.bx 1 rfl) (pkP_0 ..) ?_)
  refine JL_pure (v := .pointer (some ⟨b2, 0, none⟩)) rfl (fa66_0 rfl rfl) ?_
  refine JL_run rfl (Pu_load1 ty3 rfl (At.bx 0 rfl) (pkP_0 ..) ?_)
  refine JL_pure (v := .bool (decide (kind = q.kind))) rfl (Pu.eql rfl rfl) ?_
  refine JL_pure (v := .bool (decide (kind = q.kind))) rfl (Pu.move rfl) ?_
  cases h3 : (decide (kind = q.kind)) with
  | true =>
   replace h3 := dt h3
   refine JL_pure (v := .pointer (some ⟨b1, 1, none⟩)) rfl (fa66_1 rfl rfl) ?_
   refine JL_run rfl (Pu_load1 ty3 rfl (At.bx 1 rfl) (pkP_1 ..) ?_)
   refine JL_pure (v := .pointer (some ⟨b2, 1, none⟩)) rfl (fa66_1 rfl rfl) ?_
   refine JL_run rfl (Pu_load1 ty3 rfl (At.bx 0 rfl) (pkP_1 ..) ?_)
   refine JL_pure (v := .bool (decide (num = q.num))) rfl (Pu.eql rfl rfl) ?_
   refine JL_pure (v := .bool (decide (num = q.num))) rfl (Pu.pickT rfl rfl) ?_
   refine JL_pure (v := .bool (decide (num = q.num))) rfl (Pu.move rfl) ?_
   cases h4 : (decide (num = q.num)) with
   | true =>
    replace h4 := dt h4
    refine JL_pure (v := .pointer (some ⟨b1, 2, none⟩)) rfl (fa66_2 rfl rfl) ?_
    refine JL_run rfl (Pu_load ty26 rfl (At.bx 1 rfl) (pkP_2 ..) ?_)
    refine JL_pure (v := .pointer (some ⟨b2, 2, none⟩)) rfl (fa66_2 rfl rfl) ?_
    refine JL_run rfl (Pu_load ty26 rfl (At.bx 0 rfl) (pkP_2 ..) ?_)
    refine JL_pure (v := .bool (decide (ref = q.ref))) rfl (eqS rfl rfl) ?_
    refine JL_pure (v := .bool (decide (ref = q.ref))) rfl (Pu.pickT rfl rfl) ?_
    refine JL_pure (v := .bool (decide (ref = q.ref))) rfl (Pu.move rfl) ?_
    cases h5 : (decide (ref = q.ref)) with
    | true =>
     replace h5 := dt h5
     refine JL_pure (v := .pointer (some ⟨b1, 34, none⟩)) rfl (fa66_3 rfl rfl) ?_
     refine JL_run rfl (Pu_load1 ty64 rfl (At.bx 1 rfl) (pkP_34 ..) ?_)
     refine JL_pure (v := .pointer (some ⟨b2, 34, none⟩)) rfl (fa66_3 rfl rfl) ?_
     refine JL_run rfl (Pu_load1 ty64 rfl (At.bx 0 rfl) (pkP_34 ..) ?_)
     refine JL_call rfl Try.call51 rfl (fun hin => eqFuncP_ct 30 [] [] (fun _ _ => rfl) _ _ _ _ _ (RPs.mono (Hle.hu _ _) hks) (RPs.mono (Hle.hu _ _) hksq) (fun x hx y hy a b h hh ra rb => ih x hx y a b h ra rb)) rfl ?_
     rintro _ _ ⟨rfl, rfl⟩
     refine JL_pure (v := .bool (decide ((kids) = (q.kids)))) rfl (Pu.pickT rfl rfl) ?_
     refine JL_pure (v := .bool (decide ((kids) = (q.kids)))) rfl (Pu.assign rfl) ?_
     refine JL_nil ?_
     first | exact ⟨rfl, rfl⟩ | (exfalso; omega)
    | false =>
     replace h5 := df h5
     refine JL_skip rfl ?_
     refine JL_skip rfl ?_
     refine JL_skip rfl ?_
     refine JL_skip rfl ?_
     refine JL_skip rfl ?_
     refine JL_pure (v := .bool (false)) rfl (Pu.pickF rfl rfl) ?_
     refine JL_pure (v := .bool (false)) rfl (Pu.assign rfl) ?_
     refine JL_nil ?_
     first | exact ⟨rfl, rfl⟩ | (exfalso; omega)
   | false =>
    replace h4 := df h4
    refine JL_skip rfl ?_
    refine JL_skip rfl ?_
    refine JL_skip rfl ?_
    refine JL_skip rfl ?_
    refine JL_skip rfl ?_
    refine JL_pure (v := .bool (false)) rfl (Pu.pickF rfl rfl) ?_
    refine JL_pure (v := .bool (false)) rfl (Pu.move rfl) ?_
    refine JL_skip rfl ?_
    refine JL_skip rfl ?_
    refine JL_skip rfl ?_
    refine JL_skip rfl ?_
    refine JL_skip rfl ?_
    refine JL_pure (v := .bool (false)) rfl (Pu.pickF rfl rfl) ?_
    refine JL_pure (v := .bool (false)) rfl (Pu.assign rfl) ?_
    refine JL_nil ?_
    first | exact ⟨rfl, rfl⟩ | (exfalso; omega)
  | false =>
   replace h3 := df h3
   refine JL_skip rfl ?_
   refine JL_skip rfl ?_
   refine JL_skip rfl ?_
   refine JL_skip rfl ?_
   refine JL_skip rfl ?_
   refine JL_pure (v := .bool (false)) rfl (Pu.pickF rfl rfl) ?_
   refine JL_pure (v := .bool (false)) rfl (Pu.move rfl) ?_
   refine JL_skip rfl ?_
   refine JL_skip rfl ?_
   refine JL_skip rfl ?_
   refine JL_skip rfl ?_
   refine JL_skip rfl ?_
   refine JL_pure (v := .bool (false)) rfl (Pu.pickF rfl rfl) ?_
   refine JL_pure (v := .bool (false)) rfl (Pu.move rfl) ?_
   refine JL_skip rfl ?_
   refine JL_skip rfl ?_
   refine JL_skip rfl ?_
   refine JL_skip rfl ?_
   refine JL_skip rfl ?_
   refine JL_pure (v := .bool (false)) rfl (Pu.pickF rfl rfl) ?_
   refine JL_pure (v := .bool (false)) rfl (Pu.assign rfl) ?_
   refine JL_nil ?_
   first | exact ⟨rfl, rfl⟩ | (exfalso; omega)
 ·rintro ρ6 _ ⟨e7, rfl⟩
  obtain ⟨ρ8, rfl⟩ := reopen_ex (uc e7 un)
  clear e7
  refine J_ret ?_
  refine ⟨.bool ((((decide (kind = q.kind)) && (decide (num = q.num))) && (decide (ref = q.ref))) && (decide ((kids) = (q.kids)))), [], Ret.one rfl (RV.tmp rfl), Sub.nil, ?_⟩
  exact ⟨congrArg Value.bool (eqPd ..), rfl⟩
theorem sameCase_ct : ∀ (c d : Pt × Tm) (a b : List Value) (H : Heap), RC H a c → RC H b d → (∀ h a b, Hle H h → RT h a c.2 → RT h b d.2 → CT Try.prog 9 ⟨[.agg ⟨a⟩, .agg ⟨b⟩]⟩ [] h (fun v N => v = .bool (decide (c.2 = d.2)) ∧ N = [])) → CT Try.prog 29 ⟨[.agg ⟨a⟩, .agg ⟨b⟩]⟩ [] H (fun v N => v = .bool (decide (c = d)) ∧ N = []) := by
 intro c d a b H ⟨ca, cb, e1, ra1, ra2⟩ ⟨da, db, e2, rb1, rb2⟩ hg
 subst e1 e2
 refine CT_enter Try.func29 rfl rfl ?_
 refine J_seq ?_
 refine J_region ?_
 refine JL_run rfl (Runs_box (l := (ca) ++ (cb)) rfl rfl fun b1 => ?_)
 refine JL_run rfl (Runs_box (l := (da) ++ (db)) rfl rfl fun b2 => ?_)
 refine JL_pure (v := .bool (false)) rfl (Pu.assign rfl) ?_
 refine JL_nil ?_
 refine J_cut (fun ρ M => ρ 4 = .bool ((decide ((c.1) = (d.1))) && (decide ((c.2) = (d.2)))) ∧ M = [[(b2, .cells ⟨(da) ++ (db)⟩ 68 (0, 0))], [(b1, .cells ⟨(ca) ++ (cb)⟩ 68 (0, 0))]]) ?_ ?_
 ·refine J_region ?_
  refine JL_pure (v := .pointer (some ⟨b1, 0, none⟩)) rfl (fa68_0 rfl rfl) ?_
  refine JL_run rfl (Pu_load ty66 rfl (At.bx 1 rfl) (sub_l (RP_len ra1)) ?_)
  refine JL_pure (v := .pointer (some ⟨b2, 0, none⟩)) rfl (fa68_0 rfl rfl) ?_
  refine JL_run rfl (Pu_load ty66 rfl (At.bx 0 rfl) (sub_l (RP_len rb1)) ?_)
  refine JL_call rfl Try.call30 rfl (fun hin => samePattern_ct _ _ _ _ _ (RP.mono (Hle.hu _ _) ra1) (RP.mono (Hle.hu _ _) rb1)) rfl ?_
  rintro _ _ ⟨rfl, rfl⟩
  refine JL_pure (v := .bool (decide ((c.1) = (d.1)))) rfl (Pu.move rfl) ?_
  cases h3 : (decide ((c.1) = (d.1))) with
  | true =>
   replace h3 := dt h3
   refine JL_pure (v := .pointer (some ⟨b1, 35, none⟩)) rfl (fa68_1 rfl rfl) ?_
   refine JL_run rfl (Pu_load ty30 rfl (At.bx 1 rfl) (sub_r (RP_len ra1) (RT_len ra2)) ?_)
   refine JL_pure (v := .pointer (some ⟨b2, 35, none⟩)) rfl (fa68_1 rfl rfl) ?_
   refine JL_run rfl (Pu_load ty30 rfl (At.bx 0 rfl) (sub_r (RP_len rb1) (RT_len rb2)) ?_)
   refine JL_call rfl Try.call9 rfl (fun hin => hg _ _ _ (Hle.hu _ _) (RT.mono (Hle.hu _ _) ra2) (RT.mono (Hle.hu _ _) rb2)) rfl ?_
   rintro _ _ ⟨rfl, rfl⟩
   refine JL_pure (v := .bool (decide ((c.2) = (d.2)))) rfl (Pu.pickT rfl rfl) ?_
   refine JL_pure (v := .bool (decide ((c.2) = (d.2)))) rfl (Pu.assign rfl) ?_
   refine JL_nil ?_
   first | exact ⟨rfl, rfl⟩ | (exfalso; omega)
  | false =>
   replace h3 := df h3
   refine JL_skip rfl ?_
   refine JL_skip rfl ?_
   refine JL_skip rfl ?_
   refine JL_skip rfl ?_
   refine JL_skip rfl ?_
   refine JL_pure (v := .bool (false)) rfl (Pu.pickF rfl rfl) ?_
   refine JL_pure (v := .bool (false)) rfl (Pu.assign rfl) ?_
   refine JL_nil ?_
   first | exact ⟨rfl, rfl⟩ | (exfalso; omega)
 ·rintro ρ4 _ ⟨e5, rfl⟩
  obtain ⟨ρ6, rfl⟩ := reopen_ex (uc e5 un)
  clear e5
  refine J_ret ?_
  refine ⟨.bool ((decide ((c.1) = (d.1))) && (decide ((c.2) = (d.2)))), [], Ret.one rfl (RV.tmp rfl), Sub.nil, ?_⟩
  exact ⟨by obtain ⟨c1, c2⟩ := c; obtain ⟨d1, d2⟩ := d; refine congrArg Value.bool ?_; rw [Bool.eq_iff_iff]; simp, rfl⟩
theorem sameTerms_ct : ∀ (l m : List Tm) (v u : Value) (H : Heap) (_ : rdS RT 36 H v l) (_ : rdS RT 36 H u m) (_ : ∀ x ∈ l, ∀ y a b h, Hle H h → RT h a x → RT h b y → CT Try.prog 9 ⟨[.agg ⟨a⟩, .agg ⟨b⟩]⟩ [] h (fun v N => v = .bool (decide (x = y)) ∧ N = [])), CT Try.prog 27 ⟨[v, u]⟩ [] H (fun v N => v = .bool (decide (l = m)) ∧ N = []) := by
 intro l m v u H hl hm hg
 refine CT_enter Try.func27 rfl rfl ?_
 refine J_seq ?_
 refine J_region ?_
 refine JL_pure (v := .bool (false)) rfl (Pu.assign rfl) ?_
 refine JL_nil ?_
 refine J_seq ?_
 refine J_region ?_
 refine JL_pure (v := v) rfl (Pu.move rfl) ?_
 refine JL_pure (v := u) rfl (Pu.move rfl) ?_
 refine JL_call rfl Try.call50 rfl (fun hin => eqFuncT_ct 9 [] [] (fun _ _ => rfl) _ _ _ _ _ (RTs.mono (Hle.hu _ _) hl) (RTs.mono (Hle.hu _ _) hm) (fun x hx y hy a b h hh ra rb => hg x hx y a b h (Hle.trans (Hle.hu _ _) hh) ra rb)) rfl ?_
 rintro _ _ ⟨rfl, rfl⟩
 refine JL_pure (v := .bool (decide ((l) = (m)))) rfl (Pu.assign rfl) ?_
 refine JL_nil ?_
 refine J_ret ?_
 refine ⟨.bool (decide ((l) = (m))), [], Ret.one rfl (RV.tmp rfl), Sub.nil, ?_⟩
 exact ⟨rfl, rfl⟩
theorem sameTerm_ct : ∀ (t u : Tm) (cs ds : List Value) (H : Heap), RT H cs t → RT H ds u → CT Try.prog 9 ⟨[.agg ⟨cs⟩, .agg ⟨ds⟩]⟩ [] H (fun v N => v = .bool (decide (t = u)) ∧ N = []) := by
 intro t
 induction t using Tm.ind with
 | h kind num ref kids cases ih ih' =>
 intro u cs ds H ht hu
 obtain ⟨ks, cv, rfl, hk, hn, hks, hcv⟩ := RT_mk.1 ht
 obtain ⟨ksu, cvu, rfl, hku, hnu, hksu, hcvu⟩ := RT_open hu
 refine CT_enter Try.func9 rfl rfl ?_
 refine J_seq ?_
 refine J_region ?_
 refine JL_run rfl (Runs_box (l := pkT (kind) (num) (ref) (ks) (cv)) rfl rfl fun b1 => ?_)
 refine JL_run rfl (Runs_box (l := pkT (u.kind) (u.num) (u.ref) (ksu) (cvu)) rfl rfl fun b2 => ?_)
 refine JL_pure (v := .bool (false)) rfl (Pu.assign rfl) ?_
 refine JL_nil ?_
 refine J_cut (fun ρ M => ρ 4 = .bool (((((decide (kind = u.kind)) && (decide (num = u.num))) && (decide (ref = u.ref))) && (decide ((kids) = (u.kids)))) && (decide ((cases) = (u.cases)))) ∧ M = [[(b2, .cells ⟨pkT (u.kind) (u.num) (u.ref) (ksu) (cvu)⟩ 30 (0, 0))], [(b1, .cells ⟨pkT (kind) (num) (ref) (ks) (cv)⟩ 30 (0, 0))]]) ?_ ?_
 ·refine J_region ?_
  refine JL_pure (v := .pointer (some ⟨b1, 0, none⟩)) rfl (fa30_0 rfl rfl) ?_
  refine JL_run rfl (Pu_load1 ty3 rfl (At.bx 1 rfl) (pkT_0 ..) ?_)
  refine JL_pure (v := .pointer (some ⟨b2, 0, none⟩)) rfl (fa30_0 rfl rfl) ?_
  refine JL_run rfl (Pu_load1 ty3 rfl (At.bx 0 rfl) (pkT_0 ..) ?_)
  refine JL_pure (v := .bool (decide (kind = u.kind))) rfl (Pu.eql rfl rfl) ?_
  refine JL_pure (v := .bool (decide (kind = u.kind))) rfl (Pu.move rfl) ?_
  cases h3 : (decide (kind = u.kind)) with
  | true =>
   replace h3 := dt h3
   refine JL_pure (v := .pointer (some ⟨b1, 1, none⟩)) rfl (fa30_1 rfl rfl) ?_
   refine JL_run rfl (Pu_load1 ty3 rfl (At.bx 1 rfl) (pkT_1 ..) ?_)
   refine JL_pure (v := .pointer (some ⟨b2, 1, none⟩)) rfl (fa30_1 rfl rfl) ?_
   refine JL_run rfl (Pu_load1 ty3 rfl (At.bx 0 rfl) (pkT_1 ..) ?_)
   refine JL_pure (v := .bool (decide (num = u.num))) rfl (Pu.eql rfl rfl) ?_
   refine JL_pure (v := .bool (decide (num = u.num))) rfl (Pu.pickT rfl rfl) ?_
   refine JL_pure (v := .bool (decide (num = u.num))) rfl (Pu.move rfl) ?_
   cases h4 : (decide (num = u.num)) with
   | true =>
    replace h4 := dt h4
    refine JL_pure (v := .pointer (some ⟨b1, 2, none⟩)) rfl (fa30_2 rfl rfl) ?_
    refine JL_run rfl (Pu_load ty26 rfl (At.bx 1 rfl) (pkT_2 ..) ?_)
    refine JL_pure (v := .pointer (some ⟨b2, 2, none⟩)) rfl (fa30_2 rfl rfl) ?_
    refine JL_run rfl (Pu_load ty26 rfl (At.bx 0 rfl) (pkT_2 ..) ?_)
    refine JL_pure (v := .bool (decide (ref = u.ref))) rfl (eqS rfl rfl) ?_
    refine JL_pure (v := .bool (decide (ref = u.ref))) rfl (Pu.pickT rfl rfl) ?_
    refine JL_pure (v := .bool (decide (ref = u.ref))) rfl (Pu.move rfl) ?_
    cases h5 : (decide (ref = u.ref)) with
    | true =>
     replace h5 := dt h5
     refine JL_pure (v := .pointer (some ⟨b1, 34, none⟩)) rfl (fa30_3 rfl rfl) ?_
     refine JL_run rfl (Pu_load1 ty27 rfl (At.bx 1 rfl) (pkT_34 ..) ?_)
     refine JL_pure (v := .pointer (some ⟨b2, 34, none⟩)) rfl (fa30_3 rfl rfl) ?_
     refine JL_run rfl (Pu_load1 ty27 rfl (At.bx 0 rfl) (pkT_34 ..) ?_)
     refine JL_call rfl Try.call27 rfl (fun hin => sameTerms_ct _ _ _ _ _ (RTs.mono (Hle.hu _ _) hks) (RTs.mono (Hle.hu _ _) hksu) (fun x hx y a b h _ ra rb => ih x hx y a b h ra rb)) rfl ?_
     rintro _ _ ⟨rfl, rfl⟩
     refine JL_pure (v := .bool (decide ((kids) = (u.kids)))) rfl (Pu.pickT rfl rfl) ?_
     refine JL_pure (v := .bool (decide ((kids) = (u.kids)))) rfl (Pu.move rfl) ?_
     cases h6 : (decide ((kids) = (u.kids))) with
     | true =>
      replace h6 := dt h6
      refine JL_pure (v := .pointer (some ⟨b1, 35, none⟩)) rfl (fa30_4 rfl rfl) ?_
      refine JL_run rfl (Pu_load1 ty28 rfl (At.bx 1 rfl) (pkT_35 ..) ?_)
      refine JL_pure (v := .pointer (some ⟨b2, 35, none⟩)) rfl (fa30_4 rfl rfl) ?_
      refine JL_run rfl (Pu_load1 ty28 rfl (At.bx 0 rfl) (pkT_35 ..) ?_)
      refine JL_call rfl Try.call28 rfl (fun hin => eqFuncC_ct 29 [] [] (fun _ _ => rfl) _ _ _ _ _ (RCs.mono (Hle.hu _ _) hcv) (RCs.mono (Hle.hu _ _) hcvu) (fun x hx y hy a b h hh ra rb => sameCase_ct x y a b h ra rb (fun h' a' b' _ r1 r2 => ih' x hx y.2 a' b' h' r1 r2))) rfl ?_
      rintro _ _ ⟨rfl, rfl⟩
      refine JL_pure (v := .bool (decide ((cases) = (u.cases)))) rfl (Pu.pickT rfl rfl) ?_
      refine JL_pure (v := .bool (decide ((cases) = (u.cases)))) rfl (Pu.assign rfl) ?_
      refine JL_nil ?_
      first | exact ⟨rfl, rfl⟩ | (exfalso; omega)
     | false =>
      replace h6 := df h6
      refine JL_skip rfl ?_
      refine JL_skip rfl ?_
      refine JL_skip rfl ?_
      refine JL_skip rfl ?_
      refine JL_skip rfl ?_
      refine JL_pure (v := .bool (false)) rfl (Pu.pickF rfl rfl) ?_
      refine JL_pure (v := .bool (false)) rfl (Pu.assign rfl) ?_
      refine JL_nil ?_
      first | exact ⟨rfl, rfl⟩ | (exfalso; omega)
    | false =>
     replace h5 := df h5
     refine JL_skip rfl ?_
     refine JL_skip rfl ?_
     refine JL_skip rfl ?_
     refine JL_skip rfl ?_
     refine JL_skip rfl ?_
     refine JL_pure (v := .bool (false)) rfl (Pu.pickF rfl rfl) ?_
     refine JL_pure (v := .bool (false)) rfl (Pu.move rfl) ?_
     refine JL_skip rfl ?_
     refine JL_skip rfl ?_
     refine JL_skip rfl ?_
     refine JL_skip rfl ?_
     refine JL_skip rfl ?_
     refine JL_pure (v := .bool (false)) rfl (Pu.pickF rfl rfl) ?_
     refine JL_pure (v := .bool (false)) rfl (Pu.assign rfl) ?_
     refine JL_nil ?_
     first | exact ⟨rfl, rfl⟩ | (exfalso; omega)
   | false =>
    replace h4 := df h4
    refine JL_skip rfl ?_
    refine JL_skip rfl ?_
    refine JL_skip rfl ?_
    refine JL_skip rfl ?_
    refine JL_skip rfl ?_
    refine JL_pure (v := .bool (false)) rfl (Pu.pickF rfl rfl) ?_
    refine JL_pure (v := .bool (false)) rfl (Pu.move rfl) ?_
    refine JL_skip rfl ?_
    refine JL_skip rfl ?_
    refine JL_skip rfl ?_
    refine JL_skip rfl ?_
    refine JL_skip rfl ?_
    refine JL_pure (v := .bool (false)) rfl (Pu.pickF rfl rfl) ?_
    refine JL_pure (v := .bool (false)) rfl (Pu.move rfl) ?_
    refine JL_skip rfl ?_
    refine JL_skip rfl ?_
    refine JL_skip rfl ?_
    refine JL_skip rfl ?_
    refine JL_skip rfl ?_
    refine JL_pure (v := .bool (false)) rfl (Pu.pickF rfl rfl) ?_
    refine JL_pure (v := .bool (false)) rfl (Pu.assign rfl) ?_
    refine JL_nil ?_
    first | exact ⟨rfl, rfl⟩ | (exfalso; omega)
  | false =>
   replace h3 := df h3
   refine JL_skip rfl ?_
   refine JL_skip rfl ?_
   refine JL_skip rfl ?_
   refine JL_skip rfl ?_
   refine JL_skip rfl ?_
   refine JL_pure (v := .bool (false)) rfl (Pu.pickF rfl rfl) ?_
   refine JL_pure (v := .bool (false)) rfl (Pu.move rfl) ?_
   refine JL_skip rfl ?_
   refine JL_skip rfl ?_
   refine JL_skip rfl ?_
   refine JL_skip rfl ?_
   refine JL_skip rfl ?_
   refine JL_pure (v := .bool (false)) rfl (Pu.pickF rfl rfl) ?_
   refine JL_pure (v := .bool (false)) rfl (Pu.move rfl) ?_
   refine JL_skip rfl ?_
   refine JL_skip rfl ?_
   refine JL_skip rfl ?_
   refine JL_skip rfl ?_
   refine JL_skip rfl ?_
   refine JL_pure (v := .bool (false)) rfl (Pu.pickF rfl rfl) ?_
   refine JL_pure (v := .bool (false)) rfl (Pu.move rfl) ?_
   refine JL_skip rfl ?_
   refine JL_skip rfl ?_
   refine JL_skip rfl ?_
   refine JL_skip rfl ?_
   refine JL_skip rfl ?_
   refine JL_pure (v := .bool (false)) rfl (Pu.pickF rfl rfl) ?_
   refine JL_pure (v := .bool (false)) rfl (Pu.assign rfl) ?_
   refine JL_nil ?_
   first | exact ⟨rfl, rfl⟩ | (exfalso; omega)
 ·rintro ρ7 _ ⟨e8, rfl⟩
  obtain ⟨ρ9, rfl⟩ := reopen_ex (uc e8 un)
  clear e8
  refine J_ret ?_
  refine ⟨.bool (((((decide (kind = u.kind)) && (decide (num = u.num))) && (decide (ref = u.ref))) && (decide ((kids) = (u.kids)))) && (decide ((cases) = (u.cases)))), [], Ret.one rfl (RV.tmp rfl), Sub.nil, ?_⟩
  exact ⟨congrArg Value.bool (eqTd ..), rfl⟩
end Go.Proofs.Ytmdifonjepggcaa.Hs
/-! A store of drawn numbers: words on its operations. -/
namespace Go.Proofs.Ytmdifonjepggcaa.Hs
open Go Go.Proofs
set_option maxRecDepth 100000
/-- What a xor of two words is. -/
def xr (a b : Int) : Int := IntKind.u64.wrap ((BitVec.ofInt IntKind.u64.bits a ^^^ BitVec.ofInt IntKind.u64.bits b).toNat : Int)
/-- The next seed. -/
def nx (a : Int) : Int := IntKind.u64.wrap (IntKind.u64.wrap (a * 6364136223846793005) + 1442695040888963407)
theorem wrap_u64 (x : Int) : 0 ≤ IntKind.u64.wrap x ∧ IntKind.u64.wrap x < 18446744073709551616 := by
  have e : IntKind.u64.wrap x = x % 18446744073709551616 := rfl
  rw [e]; omega
theorem nx_range (a : Int) : 0 ≤ (nx a).fdiv 1099511627776 ∧ (nx a).fdiv 1099511627776 < 16777216 := by
  have h := wrap_u64 (IntKind.u64.wrap (a * 6364136223846793005) + 1442695040888963407)
  rw [Int.fdiv_eq_ediv_of_nonneg _ (by decide)]
  unfold nx
  omega
section
variable {P : Program} {e : Operand → Value} {d : Option Nat} {ot : TypeId} {pos : String} {af : Array Edge} {g : Option (Nat × Bool)} {T T' : TypeId} {x y z : Operand} {k : IntKind} {a b : Int} {ats : Array TypeId}
theorem Pu.xor (hx : e x = .int .u64 a) (hy : e y = .int .u64 b) : Pu P e ⟨d, .binOp .xor T x y T', ot, pos, af, g⟩ (.int .u64 (xr a b)) := fun w => by
  simp only [execOp, hx, hy, eqGuard, binOp, Op.intBits]; simp [xr]
theorem Pu.shr {k' : IntKind} (hx : e x = .int k a) (hy : e y = .int k' 40) (hk : min 40 k.bits = 40) : Pu P e ⟨d, .binOp .shr T x y T', ot, pos, af, g⟩ (.int k (a.fdiv 1099511627776)) := fun w => by
  have h40 : (40 : Int).toNat = 40 := rfl
  have hp : (2 : Int) ^ 40 = 1099511627776 := by decide
  simp only [execOp, hx, hy, eqGuard, binOp, Op.shift, h40, hk, hp]; simp
theorem Pu.min2 {v : Int} (hx : e x = .int k a) (hy : e y = .int k b) (hv : (if b < a then b else a) = v) : Pu P e ⟨d, .call { callee := .builtin .min, args := #[x, y], argTypes := ats }, ot, pos, af, g⟩ (.int k v) := fun w => by
  subst hv
  simp [execOp, resolve, invoke, builtin, Builtin.min_, Builtin.min2, hx, hy]
end
/-- what a value holds -/
def ivl : Value → Int
  | .int _ n => n
  | _ => 0
def cll : Value → List Value
  | .agg ⟨l⟩ => l
  | _ => []
def sth (c : Chunk) (i : Nat) : Int := match c with
  | (_, .cells ⟨l⟩ _ _) :: _ => ivl (l.getD i undef)
  | _ => 0
/-- A digest with one byte. -/
def smOne (n : UInt8) : Sm := zS.set 0 n
theorem smOne_cells (n : UInt8) : sC (smOne n) = .int .u8 (n.toNat : Int) :: (sC zS).drop 1 := rfl
theorem w8 {n : Int} (h : 0 ≤ n ∧ n < 256) : IntKind.u8.wrap n = n := by
  have e : IntKind.u8.wrap n = n % 256 := rfl
  rw [e]; omega
theorem bldS1 (n : Int) (h0 : 0 ≤ n) (h1 : n < 256) : ∀ w, (Instr.build 26 ⟨[(0, .int .u8 n)]⟩).run Try.prog w = .ok (.agg ⟨sC (smOne (UInt8.ofNat n.toNat))⟩) w := by
  have e0 : ((UInt8.ofNat n.toNat).toNat : Int) = n := by
    rw [UInt8.toNat_ofNat']; omega
  rw [smOne_cells, e0]
  exact run_buildA Try.zeroValue26 Try.runUnderlying26 Try.sizeOf5 rfl
/-- The digest that cells are. -/
noncomputable def sml (v : Value) : Sm := by
  classical exact if h : ∃ r, v = .agg ⟨sC r⟩ then h.choose else zS
theorem sml_eq (r : Sm) : Value.agg ⟨sC r⟩ = .agg ⟨sC (sml (.agg ⟨sC r⟩))⟩ := by
  have h : ∃ q, Value.agg ⟨sC r⟩ = .agg ⟨sC q⟩ := ⟨r, rfl⟩
  unfold sml
  rw [dif_pos h]
  exact h.choose_spec
theorem bldMk (b : Nat) (n : Int) : ∀ w, (Instr.build 87 ⟨[(0, .pointer (some ⟨b, 0, none⟩)), (1, .int .i64 n)]⟩).run Try.prog w = .ok (.agg ⟨[.pointer (some ⟨b, 0, none⟩), .int .i64 n]⟩) w :=
  run_build Try.zeroValue87 Try.runUnderlying87 pl87 (by kernel_rfl)
theorem bldSt {v : Value} {a : Option Addr} {n c : Nat} (s : Int) (hv : v = .slice a n c) : ∀ w, (Instr.build 45 ⟨[(0, v), (2, .int .u64 s)]⟩).run Try.prog w = .ok (.agg ⟨[v, .int .i64 0, .int .u64 s]⟩) w := by
  subst hv
  exact run_build Try.zeroValue45 Try.runUnderlying45 pl45 (by kernel_rfl)
/-- A slice of bytes with its room. -/
def bytesR (H : Heap) (v : Value) (l : List Int) : Prop := ∃ a cap, v = .slice a l.length cap ∧ l.length ≤ cap ∧ Hs.rdS RB 1 H v l
theorem bytesR.mono {h h' : Heap} (hh : Hle h h') {v : Value} {l : List Int} (q : bytesR h v l) : bytesR h' v l := by
  obtain ⟨a, cap, e, h1, h2⟩ := q
  exact ⟨a, cap, e, h1, RBs.mono hh h2⟩
theorem rd_take {E : Heap → List Value → Int → Prop} {sz : Nat} {h : Heap} {l : List Int} {a : Option Addr} {N cap cap' : Nat} (r : Hs.rdS E sz h (.slice a N cap) l) (n : Nat) (hn : n ≤ l.length) : Hs.rdS E sz h (.slice (if cap = 0 then a else a.map (·.add (0 * sz))) n cap') (l.take n) := by
  have ea : (if cap = 0 then a else a.map (·.add (0 * sz))) = a := by
    cases a with
    | none => simp
    | some a => simp [Addr.add]
  rw [ea]
  have hln : (l.take n).length = n := by rw [List.length_take]; omega
  obtain ⟨a', c', e, h1, h0⟩ := r
  cases e
  refine ⟨a, cap', by rw [hln], by rw [hln]; omega, ?_⟩
  rcases h0 with h0 | ⟨b, o, row, T, fr, e1, e2, e3⟩
  · left; omega
  · right
    refine ⟨b, o, row, T, fr, e1, e2, rows.mk fun i hi => ?_⟩
    rw [List.length_take] at hi
    obtain ⟨cs, h2, h3⟩ := e3.get i (by omega)
    exact ⟨cs, h2, by rw [List.getElem_take]; exact h3⟩
section
variable {c : Cx} {H : Heap} {ρ : Nat → Value} {M : List Chunk} {K : Value → List Chunk → Prop} {d : Option Nat} {ot : TypeId} {pos : String} {af : Array Edge} {g : Option (Nat × Bool)} {x y : Operand}
/-- the first ones of a slice of bytes -/
theorem Runs_sliceTo {T el : TypeId} {k : IntKind} {v : Value} {l : List Int} {H0 : Heap} {n : Nat} (hp : bytesR H0 v l) (hn : n ≤ l.length) (hT : ∀ w, (underlying T).run c.P w = .ok (.slice el) w) (hsz : ∀ w, (sizeOf el).run c.P w = .ok 1 w) (hx : ev c.n ρ x = v) (hy : ev c.n ρ y = .int k ((n : Nat) : Int))
    (h : ∀ u, (∀ h, Hs.rdS RB 1 h v l → Hs.rdS RB 1 h u (l.take n)) → K u M) : Runs c H ⟨d, .slice T x none (some y) none, ot, pos, af, g⟩ ρ M K := fun F w m => by
  obtain ⟨a, cap, rfl, h1, h2⟩ := hp
  refine ⟨_, w, M, .inl ?_, m, h (.slice (if cap = 0 then a else a.map (·.add (0 * 1))) n cap) (fun h' q => rd_take q n hn)⟩
  have : ((n : Int) ≤ (cap : Int)) := by omega
  have h3 : n ≤ cap := by omega
  simp [execOp, Instr.sliceAt, Instr.slice, Instr.sliceBounds, Instr.sliceBound, asIntOf, hx, hy, hT, hsz, Result.andThen, h3]
end
end Go.Proofs.Ytmdifonjepggcaa.Hs
/-! Walks, printed by a program of this session's own (gen.py). -/
namespace Go.Proofs.Ytmdifonjepggcaa.Hs
open Go Go.Proofs
set_option maxRecDepth 100000
set_option linter.unusedVariables false
set_option linter.unusedSimpArgs false
attribute [local irreducible] JL J CT wlo
theorem draw_ct (bS : Nat) (v : Value) (l : List Int) (a s : Int) (H : Heap) (hv : Hs.rdS RB 1 H v l) (ha0 : 0 ≤ a) (ha1 : a ≤ 2000000000) : CT Try.prog 80 ⟨[.pointer (some ⟨bS, 0, none⟩)]⟩ [[(bS, .cells ⟨[v, .int .i64 (a), .int .u64 (s)]⟩ 45 (0, 0))]] H (fun r N => ∃ n a' s', r = .int .i64 n ∧ N = [[(bS, .cells ⟨[v, .int .i64 (a'), .int .u64 (s')]⟩ 45 (0, 0))]] ∧ (0 ≤ n ∧ n < 16777216) ∧ (a ≤ a' ∧ a' ≤ a + 1)) := by
 refine CT_enter Try.func80 rfl rfl ?_
 refine J_seq ?_
 refine J_region ?_
 refine JL_pure (v := .int .i64 (0)) rfl (Pu.assign rfl) ?_
 refine JL_nil ?_
 refine J_seq ?_
 refine J_seq ?_
 refine J_region ?_
 refine JL_pure (v := .pointer (some ⟨bS, 0, none⟩)) rfl (Pu.move rfl) ?_
 refine JL_pure (v := .pointer (some ⟨bS, 0, none⟩)) rfl (Pu.nilCheck rfl) ?_
 refine JL_pure (v := .pointer (some ⟨bS, 0, none⟩)) rfl (fa45_0 rfl rfl) ?_
 refine JL_run rfl (Pu_load1 ty22 rfl (At.bx 0 rfl) rfl ?_)
 obtain ⟨a1, cap1, hv1⟩ := hv.sl
 have hle1 := hv.le
 refine JL_pure (v := .int .i64 (((l).length : Int))) rfl (Pu.lenSl Try.runUnderlying22 hv1) ?_
 refine JL_pure (v := .bool (decide (0 < ((l).length : Int)))) rfl (Pu.gtr rfl rfl) ?_
 refine JL_nil ?_
 refine J_cond (b := decide (0 < ((l).length : Int))) rfl (fun h2 => ?_) (fun h2 => ?_)
 ·skip
  replace h2 := dt h2
  refine J_seq ?_
  obtain ⟨a4, cap4, hv4⟩ := hv.sl
  have hle4 := hv.le
  have hrm5 : 0 ≤ (a) % (((l).length : Int)) ∧ (a) % (((l).length : Int)) < ((l).length : Int) := ⟨Int.emod_nonneg _ (by omega), Int.emod_lt_of_pos _ (by omega)⟩
  obtain ⟨b6, o6, cap6, row6, T6, fr6, cs6, hv6, hb6, hs6, hE6⟩ := hv.get ((a) % (((l).length : Int))).toNat (by first | assumption | omega | decide | simp)
  refine J_draw mixed #[0, 1, 3, 7, 0, 16, 48, 112, 0, 256, 768, 1792, 0, 4096, 12288, 28672, 61440, 130816, 262128, 524272, 1048560, 2097151, 4194303, 8388607, 16777215] 21 21 1 rfl (by kernel_rfl) (fun i r3 N3 => match i with | 0 => (r3 0) = .pointer (some ⟨bS, 0, none⟩) | 1 => (r3 1) = .pointer (some ⟨bS, 0, none⟩) | 2 => (r3 2) = .pointer (some ⟨bS, 2, none⟩) | 3 => (r3 3) = .int .u64 (s) | 4 => (r3 4) = .pointer (some ⟨bS, 0, none⟩) | 5 => (r3 5) = .pointer (some ⟨bS, 0, none⟩) | 6 => (r3 6) = .pointer (some ⟨bS, 0, none⟩) | 7 => (r3 7) = v | 8 => (r3 8) = .pointer (some ⟨bS, 0, none⟩) | 9 => (r3 9) = .pointer (some ⟨bS, 0, none⟩) | 10 => (r3 10) = .pointer (some ⟨bS, 1, none⟩) | 11 => (r3 11) = .int .i64 (a) | 12 => (r3 12) = .pointer (some ⟨bS, 0, none⟩) | 13 => (r3 13) = .pointer (some ⟨bS, 0, none⟩) | 14 => (r3 14) = .pointer (some ⟨bS, 0, none⟩) | 15 => (r3 15) = v | 16 => (r3 16) = .int .i64 (((l).length : Int)) | 17 => (r3 17) = .int .i64 ((a) % (((l).length : Int))) | 18 => (r3 18) = .pointer (some ⟨b6, o6 + ((a) % (((l).length : Int))).toNat * 1, none⟩) | 19 => (r3 19) = .int .u8 ((l)[((a) % (((l).length : Int))).toNat]) | 20 => (r3 20) = .int .u64 (IntKind.u64.wrap ((l)[((a) % (((l).length : Int))).toNat])) | _ => True) ⟨?_, ?_, ?_, ?_, ?_, ?_, ?_, ?_, ?_, ?_, ?_, ?_, ?_, ?_, ?_, ?_, ?_, ?_, ?_, ?_, ?_, trivial⟩ ?_
  ·intro ρ r3 N3 B hB hBa hp hr hr0
   have q0 : ρ 0 = .pointer (some ⟨bS, 0, none⟩) := hr0 0 (by kernel_rfl)
   obtain ⟨ρ7, rfl⟩ := reopen_ex (uc q0 un)
   clear q0
   refine JL_pure (v := .pointer (some ⟨bS, 0, none⟩)) rfl (Pu.move rfl) ?_
   refine JL_nil ?_
   exact ⟨.pointer (some ⟨bS, 0, none⟩), [], rfl, (Sub.emp Sub.refl), rfl⟩
  ·intro ρ r3 N3 B hB hBa hp hr hr0
   have q9 : ρ 9 = .pointer (some ⟨bS, 0, none⟩) := (hr 0 _ _ (by decide) rfl rfl rfl).trans (hp 0 (by decide) rfl)
   obtain ⟨ρ8, rfl⟩ := reopen_ex (uc q9 un)
   clear q9
   refine JL_pure (v := .pointer (some ⟨bS, 0, none⟩)) rfl (Pu.nilCheck rfl) ?_
   refine JL_nil ?_
   exact ⟨.pointer (some ⟨bS, 0, none⟩), [], rfl, (Sub.emp Sub.refl), rfl⟩
  ·intro ρ r3 N3 B hB hBa hp hr hr0
   have q10 : ρ 10 = .pointer (some ⟨bS, 0, none⟩) := (hr 1 _ _ (by decide) rfl rfl rfl).trans (hp 1 (by decide) rfl)
   obtain ⟨ρ9, rfl⟩ := reopen_ex (uc q10 un)
   clear q10
   refine JL_pure (v := .pointer (some ⟨bS, 2, none⟩)) rfl (fa45_2 rfl rfl) ?_
   refine JL_nil ?_
   exact ⟨.pointer (some ⟨bS, 2, none⟩), [], rfl, (Sub.emp Sub.refl), rfl⟩
  ·intro ρ r3 N3 B hB hBa hp hr hr0
   have q11 : ρ 11 = .pointer (some ⟨bS, 2, none⟩) := (hr 2 _ _ (by decide) rfl rfl rfl).trans (hp 2 (by decide) rfl)
   obtain ⟨ρ10, rfl⟩ := reopen_ex (uc q11 un)
   clear q11
   refine JL_run rfl (Pu_load1 ty43 rfl (At.bx 21 (made_old ((hB 0 (by decide)).trans rfl))) rfl ?_)
   refine JL_nil ?_
   exact ⟨.int .u64 (s), [], rfl, (Sub.emp Sub.refl), rfl⟩
  ·intro ρ r3 N3 B hB hBa hp hr hr0
   have q0 : ρ 0 = .pointer (some ⟨bS, 0, none⟩) := hr0 0 (by kernel_rfl)
   obtain ⟨ρ11, rfl⟩ := reopen_ex (uc q0 un)
   clear q0
   refine JL_pure (v := .pointer (some ⟨bS, 0, none⟩)) rfl (Pu.move rfl) ?_
   refine JL_nil ?_
   exact ⟨.pointer (some ⟨bS, 0, none⟩), [], rfl, (Sub.emp Sub.refl), rfl⟩
  ·intro ρ r3 N3 B hB hBa hp hr hr0
   have q13 : ρ 13 = .pointer (some ⟨bS, 0, none⟩) := (hr 4 _ _ (by decide) rfl rfl rfl).trans (hp 4 (by decide) rfl)
   obtain ⟨ρ12, rfl⟩ := reopen_ex (uc q13 un)
   clear q13
   refine JL_pure (v := .pointer (some ⟨bS, 0, none⟩)) rfl (Pu.nilCheck rfl) ?_
   refine JL_nil ?_
   exact ⟨.pointer (some ⟨bS, 0, none⟩), [], rfl, (Sub.emp Sub.refl), rfl⟩
  ·intro ρ r3 N3 B hB hBa hp hr hr0
   have q14 : ρ 14 = .pointer (some ⟨bS, 0, none⟩) := (hr 5 _ _ (by decide) rfl rfl rfl).trans (hp 5 (by decide) rfl)
   obtain ⟨ρ13, rfl⟩ := reopen_ex (uc q14 un)
   clear q14
   refine JL_pure (v := .pointer (some ⟨bS, 0, none⟩)) rfl (fa45_0 rfl rfl) ?_
   refine JL_nil ?_
   exact ⟨.pointer (some ⟨bS, 0, none⟩), [], rfl, (Sub.emp Sub.refl), rfl⟩
  ·intro ρ r3 N3 B hB hBa hp hr hr0
   have q15 : ρ 15 = .pointer (some ⟨bS, 0, none⟩) := (hr 6 _ _ (by decide) rfl rfl rfl).trans (hp 6 (by decide) rfl)
   obtain ⟨ρ14, rfl⟩ := reopen_ex (uc q15 un)
   clear q15
   refine JL_run rfl (Pu_load1 ty22 rfl (At.bx 21 (made_old ((hB 0 (by decide)).trans rfl))) rfl ?_)
   refine JL_nil ?_
   exact ⟨v, [], rfl, (Sub.emp Sub.refl), rfl⟩
  ·intro ρ r3 N3 B hB hBa hp hr hr0
   have q0 : ρ 0 = .pointer (some ⟨bS, 0, none⟩) := hr0 0 (by kernel_rfl)
   obtain ⟨ρ15, rfl⟩ := reopen_ex (uc q0 un)
   clear q0
   refine JL_pure (v := .pointer (some ⟨bS, 0, none⟩)) rfl (Pu.move rfl) ?_
   refine JL_nil ?_
   exact ⟨.pointer (some ⟨bS, 0, none⟩), [], rfl, (Sub.emp Sub.refl), rfl⟩
  ·intro ρ r3 N3 B hB hBa hp hr hr0
   have q17 : ρ 17 = .pointer (some ⟨bS, 0, none⟩) := (hr 8 _ _ (by decide) rfl rfl rfl).trans (hp 8 (by decide) rfl)
   obtain ⟨ρ16, rfl⟩ := reopen_ex (uc q17 un)
   clear q17
   refine JL_pure (v := .pointer (some ⟨bS, 0, none⟩)) rfl (Pu.nilCheck rfl) ?_
   refine JL_nil ?_
   exact ⟨.pointer (some ⟨bS, 0, none⟩), [], rfl, (Sub.emp Sub.refl), rfl⟩
  ·intro ρ r3 N3 B hB hBa hp hr hr0
   have q18 : ρ 18 = .pointer (some ⟨bS, 0, none⟩) := (hr 9 _ _ (by decide) rfl rfl rfl).trans (hp 9 (by decide) rfl)
   obtain ⟨ρ17, rfl⟩ := reopen_ex (uc q18 un)
   clear q18
   refine JL_pure (v := .pointer (some ⟨bS, 1, none⟩)) rfl (fa45_1 rfl rfl) ?_
   refine JL_nil ?_
   exact ⟨.pointer (some ⟨bS, 1, none⟩), [], rfl, (Sub.emp Sub.refl), rfl⟩
  ·intro ρ r3 N3 B hB hBa hp hr hr0
   have q19 : ρ 19 = .pointer (some ⟨bS, 1, none⟩) := (hr 10 _ _ (by decide) rfl rfl rfl).trans (hp 10 (by decide) rfl)
   obtain ⟨ρ18, rfl⟩ := reopen_ex (uc q19 un)
   clear q19
   refine JL_run rfl (Pu_load1 ty3 rfl (At.bx 21 (made_old ((hB 0 (by decide)).trans rfl))) rfl ?_)
   refine JL_nil ?_
   exact ⟨.int .i64 (a), [], rfl, (Sub.emp Sub.refl), rfl⟩
  ·intro ρ r3 N3 B hB hBa hp hr hr0
   have q0 : ρ 0 = .pointer (some ⟨bS, 0, none⟩) := hr0 0 (by kernel_rfl)
   obtain ⟨ρ19, rfl⟩ := reopen_ex (uc q0 un)
   clear q0
   refine JL_pure (v := .pointer (some ⟨bS, 0, none⟩)) rfl (Pu.move rfl) ?_
   refine JL_nil ?_
   exact ⟨.pointer (some ⟨bS, 0, none⟩), [], rfl, (Sub.emp Sub.refl), rfl⟩
  ·intro ρ r3 N3 B hB hBa hp hr hr0
   have q21 : ρ 21 = .pointer (some ⟨bS, 0, none⟩) := (hr 12 _ _ (by decide) rfl rfl rfl).trans (hp 12 (by decide) rfl)
   obtain ⟨ρ20, rfl⟩ := reopen_ex (uc q21 un)
   clear q21
   refine JL_pure (v := .pointer (some ⟨bS, 0, none⟩)) rfl (Pu.nilCheck rfl) ?_
   refine JL_nil ?_
   exact ⟨.pointer (some ⟨bS, 0, none⟩), [], rfl, (Sub.emp Sub.refl), rfl⟩
  ·intro ρ r3 N3 B hB hBa hp hr hr0
   have q22 : ρ 22 = .pointer (some ⟨bS, 0, none⟩) := (hr 13 _ _ (by decide) rfl rfl rfl).trans (hp 13 (by decide) rfl)
   obtain ⟨ρ21, rfl⟩ := reopen_ex (uc q22 un)
   clear q22
   refine JL_pure (v := .pointer (some ⟨bS, 0, none⟩)) rfl (fa45_0 rfl rfl) ?_
   refine JL_nil ?_
   exact ⟨.pointer (some ⟨bS, 0, none⟩), [], rfl, (Sub.emp Sub.refl), rfl⟩
  ·intro ρ r3 N3 B hB hBa hp hr hr0
   have q23 : ρ 23 = .pointer (some ⟨bS, 0, none⟩) := (hr 14 _ _ (by decide) rfl rfl rfl).trans (hp 14 (by decide) rfl)
   obtain ⟨ρ22, rfl⟩ := reopen_ex (uc q23 un)
   clear q23
   refine JL_run rfl (Pu_load1 ty22 rfl (At.bx 21 (made_old ((hB 0 (by decide)).trans rfl))) rfl ?_)
   refine JL_nil ?_
   exact ⟨v, [], rfl, (Sub.emp Sub.refl), rfl⟩
  ·intro ρ r3 N3 B hB hBa hp hr hr0
   have q24 : ρ 24 = v := (hr 15 _ _ (by decide) rfl rfl rfl).trans (hp 15 (by decide) rfl)
   obtain ⟨ρ23, rfl⟩ := reopen_ex (uc q24 un)
   clear q24
   refine JL_pure (v := .int .i64 (((l).length : Int))) rfl (Pu.lenSl Try.runUnderlying22 hv4) ?_
   refine JL_nil ?_
   exact ⟨.int .i64 (((l).length : Int)), [], rfl, (Sub.emp Sub.refl), rfl⟩
  ·intro ρ r3 N3 B hB hBa hp hr hr0
   have q20 : ρ 20 = .int .i64 (a) := (hr 11 _ _ (by decide) rfl rfl rfl).trans (hp 11 (by decide) rfl)
   have q25 : ρ 25 = .int .i64 (((l).length : Int)) := (hr 16 _ _ (by decide) rfl rfl rfl).trans (hp 16 (by decide) rfl)
   obtain ⟨ρ24, rfl⟩ := reopen_ex (uc q20 (uc q25 un))
   clear q20 q25
   refine JL_pure (v := .int .i64 ((a) % (((l).length : Int)))) rfl (Pu.rem rfl rfl (by omega) (Int.tmod_eq_emod_of_nonneg (by omega))) ?_
   refine JL_nil ?_
   exact ⟨.int .i64 ((a) % (((l).length : Int))), [], rfl, (Sub.emp Sub.refl), rfl⟩
  ·intro ρ r3 N3 B hB hBa hp hr hr0
   have q16 : ρ 16 = v := (hr 7 _ _ (by decide) rfl rfl rfl).trans (hp 7 (by decide) rfl)
   have q26 : ρ 26 = .int .i64 ((a) % (((l).length : Int))) := (hr 17 _ _ (by decide) rfl rfl rfl).trans (hp 17 (by decide) rfl)
   obtain ⟨ρ25, rfl⟩ := reopen_ex (uc q16 (uc q26 un))
   clear q16 q26
   refine JL_pure (v := .pointer (some ⟨b6, o6 + ((a) % (((l).length : Int))).toNat * 1, none⟩)) rfl (Pu.idx ((a) % (((l).length : Int))).toNat Try.runUnderlying22 ty5 hv6 rfl (by first | rfl | omega) (by first | assumption | omega | decide | simp)) ?_
   refine JL_nil ?_
   exact ⟨.pointer (some ⟨b6, o6 + ((a) % (((l).length : Int))).toNat * 1, none⟩), [], rfl, (Sub.emp Sub.refl), rfl⟩
  ·intro ρ r3 N3 B hB hBa hp hr hr0
   have q27 : ρ 27 = .pointer (some ⟨b6, o6 + ((a) % (((l).length : Int))).toNat * 1, none⟩) := (hr 18 _ _ (by decide) rfl rfl rfl).trans (hp 18 (by decide) rfl)
   obtain ⟨ρ26, rfl⟩ := reopen_ex (uc q27 un)
   clear q27
   refine JL_run rfl (Pu_load1 ty5 rfl (At.im hb6) (sub_one ((show cs6 = [Value.int .u8 ((l)[((a) % (((l).length : Int))).toNat])] from hE6) ▸ hs6)) ?_)
   refine JL_nil ?_
   exact ⟨.int .u8 ((l)[((a) % (((l).length : Int))).toNat]), [], rfl, (Sub.emp Sub.refl), rfl⟩
  ·intro ρ r3 N3 B hB hBa hp hr hr0
   have q28 : ρ 28 = .int .u8 ((l)[((a) % (((l).length : Int))).toNat]) := (hr 19 _ _ (by decide) rfl rfl rfl).trans (hp 19 (by decide) rfl)
   obtain ⟨ρ27, rfl⟩ := reopen_ex (uc q28 un)
   clear q28
   refine JL_pure (v := .int .u64 (IntKind.u64.wrap ((l)[((a) % (((l).length : Int))).toNat]))) rfl (Pu.conv Try.runUnderlying5 Try.runUnderlying43 rfl rfl) ?_
   refine JL_nil ?_
   exact ⟨.int .u64 (IntKind.u64.wrap ((l)[((a) % (((l).length : Int))).toNat])), [], rfl, (Sub.emp Sub.refl), rfl⟩
  ·intro ρ r3 N3 hp hr hr0
   have q0 : ρ 0 = .pointer (some ⟨bS, 0, none⟩) := hr0 0 (by kernel_rfl)
   have q2 : ρ 2 = .int .i64 (0) := hr0 2 (by kernel_rfl)
   have q9 : ρ 9 = .pointer (some ⟨bS, 0, none⟩) := (hr 0 _ _ (by decide) rfl rfl).trans (hp 0 (by decide))
   have q12 : ρ 12 = .int .u64 (s) := (hr 3 _ _ (by decide) rfl rfl).trans (hp 3 (by decide))
   have q29 : ρ 29 = .int .u64 (IntKind.u64.wrap ((l)[((a) % (((l).length : Int))).toNat])) := (hr 20 _ _ (by decide) rfl rfl).trans (hp 20 (by decide))
   obtain ⟨ρ28, rfl⟩ := reopen_ex (uc q0 (uc q2 (uc q9 (uc q12 (uc q29 un)))))
   clear q0 q2 q9 q12 q29
   clear hp hr hr0 
   refine JL_sub (M' := [(N3 0), (N3 1), (N3 2), (N3 3), (N3 4), (N3 5), (N3 6), (N3 7), (N3 8), (N3 9), (N3 10), (N3 11), (N3 12), (N3 13), (N3 14), (N3 15), (N3 16), (N3 17), (N3 18), (N3 19), (N3 20), [(bS, .cells ⟨[v, .int .i64 (a), .int .u64 (s)]⟩ 45 (0, 0))]]) Sub.refl ?_
   refine JL_sub (M' := [[(bS, .cells ⟨[v, .int .i64 (a), .int .u64 (s)]⟩ 45 (0, 0))]]) (Sd (Sd (Sd (Sd (Sd (Sd (Sd (Sd (Sd (Sd (Sd (Sd (Sd (Sd (Sd (Sd (Sd (Sd (Sd (Sd (Sd (Sk Sub.nil)))))))))))))))))))))) ?_
   show JL _ _ _ [_, _, _, _] _ _ _
   refine JL_pure (v := .int .u64 (xr (s) (IntKind.u64.wrap ((l)[((a) % (((l).length : Int))).toNat])))) rfl (Pu.xor rfl rfl) ?_
   refine JL_pure (v := .pointer (some ⟨bS, 0, none⟩)) rfl (Pu.nilCheck rfl) ?_
   refine JL_pure (v := .pointer (some ⟨bS, 2, none⟩)) rfl (fa45_2 rfl rfl) ?_
   refine JL_run rfl (Runs_storeB 0 (vs := [.int .u64 (xr (s) (IntKind.u64.wrap ((l)[((a) % (((l).length : Int))).toNat])))]) (l := [v, .int .i64 (a), .int .u64 (xr (s) (IntKind.u64.wrap ((l)[((a) % (((l).length : Int))).toNat])))]) ty43 rfl rfl rfl rfl rfl (okc_cons rfl okc_nil) rfl ?_)
   refine JL_nil ?_
   refine J_region ?_
   refine JL_pure (v := .pointer (some ⟨bS, 0, none⟩)) rfl (Pu.move rfl) ?_
   refine JL_pure (v := .pointer (some ⟨bS, 0, none⟩)) rfl (Pu.nilCheck rfl) ?_
   refine JL_pure (v := .pointer (some ⟨bS, 1, none⟩)) rfl (fa45_1 rfl rfl) ?_
   refine JL_run rfl (Pu_load1 ty3 rfl (At.bx 0 rfl) rfl ?_)
   refine JL_pure (v := .int .i64 (a + 1)) rfl (Pu.add64 rfl rfl (by first | omega | (constructor <;> omega))) ?_
   refine JL_pure (v := .pointer (some ⟨bS, 0, none⟩)) rfl (Pu.nilCheck rfl) ?_
   refine JL_pure (v := .pointer (some ⟨bS, 1, none⟩)) rfl (fa45_1 rfl rfl) ?_
   refine JL_run rfl (Runs_storeB 0 (vs := [.int .i64 (a + 1)]) (l := [v, .int .i64 (a + 1), .int .u64 (xr (s) (IntKind.u64.wrap ((l)[((a) % (((l).length : Int))).toNat])))]) ty3 rfl rfl rfl rfl rfl (okc_cons rfl okc_nil) rfl ?_)
   refine JL_nil ?_
   refine J_seq ?_
   refine J_region ?_
   refine JL_pure (v := .pointer (some ⟨bS, 0, none⟩)) rfl (Pu.move rfl) ?_
   refine JL_pure (v := .pointer (some ⟨bS, 0, none⟩)) rfl (Pu.move rfl) ?_
   refine JL_pure (v := .pointer (some ⟨bS, 0, none⟩)) rfl (Pu.nilCheck rfl) ?_
   refine JL_pure (v := .pointer (some ⟨bS, 2, none⟩)) rfl (fa45_2 rfl rfl) ?_
   refine JL_run rfl (Pu_load1 ty43 rfl (At.bx 0 rfl) rfl ?_)
   refine JL_pure (v := .int .u64 (IntKind.u64.wrap (xr (s) (IntKind.u64.wrap ((l)[((a) % (((l).length : Int))).toNat])) * 6364136223846793005))) rfl (Pu.arithM rfl rfl rfl) ?_
   refine JL_pure (v := .int .u64 (nx (xr (s) (IntKind.u64.wrap ((l)[((a) % (((l).length : Int))).toNat]))))) rfl (Pu.arith rfl rfl rfl) ?_
   refine JL_pure (v := .pointer (some ⟨bS, 0, none⟩)) rfl (Pu.nilCheck rfl) ?_
   refine JL_pure (v := .pointer (some ⟨bS, 2, none⟩)) rfl (fa45_2 rfl rfl) ?_
   refine JL_run rfl (Runs_storeB 0 (vs := [.int .u64 (nx (xr (s) (IntKind.u64.wrap ((l)[((a) % (((l).length : Int))).toNat]))))]) (l := [v, .int .i64 (a + 1), .int .u64 (nx (xr (s) (IntKind.u64.wrap ((l)[((a) % (((l).length : Int))).toNat]))))]) ty43 rfl rfl rfl rfl rfl (okc_cons rfl okc_nil) rfl ?_)
   refine JL_nil ?_
   refine J_seq ?_
   refine J_region ?_
   refine JL_pure (v := .pointer (some ⟨bS, 0, none⟩)) rfl (Pu.move rfl) ?_
   refine JL_pure (v := .pointer (some ⟨bS, 0, none⟩)) rfl (Pu.nilCheck rfl) ?_
   refine JL_pure (v := .pointer (some ⟨bS, 2, none⟩)) rfl (fa45_2 rfl rfl) ?_
   refine JL_run rfl (Pu_load1 ty43 rfl (At.bx 0 rfl) rfl ?_)
   have hnx29 := nx_range (xr (s) (IntKind.u64.wrap ((l)[((a) % (((l).length : Int))).toNat])))
   refine JL_pure (v := .int .u64 ((nx (xr (s) (IntKind.u64.wrap ((l)[((a) % (((l).length : Int))).toNat])))).fdiv 1099511627776)) rfl (Pu.shr rfl rfl rfl) ?_
   refine JL_pure (v := .int .i64 ((nx (xr (s) (IntKind.u64.wrap ((l)[((a) % (((l).length : Int))).toNat])))).fdiv 1099511627776)) rfl (Pu.conv Try.runUnderlying43 Try.runUnderlying3 rfl (w64 (by omega))) ?_
   refine JL_pure (v := .int .i64 ((nx (xr (s) (IntKind.u64.wrap ((l)[((a) % (((l).length : Int))).toNat])))).fdiv 1099511627776)) rfl (Pu.assign rfl) ?_
   refine JL_nil ?_
   refine J_ret ?_
   refine ⟨.int .i64 ((nx (xr (s) (IntKind.u64.wrap ((l)[((a) % (((l).length : Int))).toNat])))).fdiv 1099511627776), [[(bS, .cells ⟨[v, .int .i64 (a + 1), .int .u64 (nx (xr (s) (IntKind.u64.wrap ((l)[((a) % (((l).length : Int))).toNat]))))]⟩ 45 (0, 0))]], Ret.one rfl (RV.tmp rfl), (Sk Sub.nil), ?_⟩
   exact ⟨_, _, _, rfl, rfl, by omega, by omega⟩
 ·skip
  replace h2 := df h2
  refine J_skip ?_
  refine J_seq ?_
  refine J_region ?_
  refine JL_pure (v := .pointer (some ⟨bS, 0, none⟩)) rfl (Pu.move rfl) ?_
  refine JL_pure (v := .pointer (some ⟨bS, 0, none⟩)) rfl (Pu.move rfl) ?_
  refine JL_pure (v := .pointer (some ⟨bS, 0, none⟩)) rfl (Pu.nilCheck rfl) ?_
  refine JL_pure (v := .pointer (some ⟨bS, 2, none⟩)) rfl (fa45_2 rfl rfl) ?_
  refine JL_run rfl (Pu_load1 ty43 rfl (At.bx 0 rfl) rfl ?_)
  refine JL_pure (v := .int .u64 (IntKind.u64.wrap (s * 6364136223846793005))) rfl (Pu.arithM rfl rfl rfl) ?_
  refine JL_pure (v := .int .u64 (nx (s))) rfl (Pu.arith rfl rfl rfl) ?_
  refine JL_pure (v := .pointer (some ⟨bS, 0, none⟩)) rfl (Pu.nilCheck rfl) ?_
  refine JL_pure (v := .pointer (some ⟨bS, 2, none⟩)) rfl (fa45_2 rfl rfl) ?_
  refine JL_run rfl (Runs_storeB 0 (vs := [.int .u64 (nx (s))]) (l := [v, .int .i64 (a), .int .u64 (nx (s))]) ty43 rfl rfl rfl rfl rfl (okc_cons rfl okc_nil) rfl ?_)
  refine JL_nil ?_
  refine J_seq ?_
  refine J_region ?_
  refine JL_pure (v := .pointer (some ⟨bS, 0, none⟩)) rfl (Pu.move rfl) ?_
  refine JL_pure (v := .pointer (some ⟨bS, 0, none⟩)) rfl (Pu.nilCheck rfl) ?_
  refine JL_pure (v := .pointer (some ⟨bS, 2, none⟩)) rfl (fa45_2 rfl rfl) ?_
  refine JL_run rfl (Pu_load1 ty43 rfl (At.bx 0 rfl) rfl ?_)
  have hnx30 := nx_range (s)
  refine JL_pure (v := .int .u64 ((nx (s)).fdiv 1099511627776)) rfl (Pu.shr rfl rfl rfl) ?_
  refine JL_pure (v := .int .i64 ((nx (s)).fdiv 1099511627776)) rfl (Pu.conv Try.runUnderlying43 Try.runUnderlying3 rfl (w64 (by omega))) ?_
  refine JL_pure (v := .int .i64 ((nx (s)).fdiv 1099511627776)) rfl (Pu.assign rfl) ?_
  refine JL_nil ?_
  refine J_ret ?_
  refine ⟨.int .i64 ((nx (s)).fdiv 1099511627776), [[(bS, .cells ⟨[v, .int .i64 (a), .int .u64 (nx (s))]⟩ 45 (0, 0))]], Ret.one rfl (RV.tmp rfl), (Sk Sub.nil), ?_⟩
  exact ⟨_, _, _, rfl, rfl, by omega, by omega⟩
theorem less_ct (bS : Nat) (v : Value) (l : List Int) (a s : Int) (H : Heap) (hv : Hs.rdS RB 1 H v l) (ha0 : 0 ≤ a) (ha1 : a ≤ 2000000000) (m : Int) : CT Try.prog 56 ⟨[.pointer (some ⟨bS, 0, none⟩), .int .i64 (m)]⟩ [[(bS, .cells ⟨[v, .int .i64 (a), .int .u64 (s)]⟩ 45 (0, 0))]] H (fun r N => ∃ n a' s', r = .int .i64 n ∧ N = [[(bS, .cells ⟨[v, .int .i64 (a'), .int .u64 (s')]⟩ 45 (0, 0))]] ∧ (0 ≤ n ∧ (0 < m → n < m) ∧ (m ≤ 0 → n = 0)) ∧ (a ≤ a' ∧ a' ≤ a + 1)) := by
 refine CT_enter Try.func56 rfl rfl ?_
 refine J_seq ?_
 refine J_region ?_
 refine JL_pure (v := .int .i64 (0)) rfl (Pu.assign rfl) ?_
 refine JL_nil ?_
 refine J_seq ?_
 refine J_seq ?_
 refine J_region ?_
 refine JL_pure (v := .int .i64 (m)) rfl (Pu.move rfl) ?_
 refine JL_pure (v := .bool (decide (m ≤ 0))) rfl (Pu.leq rfl rfl) ?_
 refine JL_nil ?_
 refine J_cond (b := decide (m ≤ 0)) rfl (fun h1 => ?_) (fun h1 => ?_)
 ·skip
  replace h1 := dt h1
  refine J_seq ?_
  refine J_region ?_
  refine JL_pure (v := .int .i64 (0)) rfl (Pu.assign rfl) ?_
  refine JL_nil ?_
  refine J_ret ?_
  refine ⟨.int .i64 (0), [[(bS, .cells ⟨[v, .int .i64 (a), .int .u64 (s)]⟩ 45 (0, 0))]], Ret.one rfl (RV.tmp rfl), (Sk Sub.nil), ?_⟩
  exact ⟨_, _, _, rfl, rfl, by omega, by omega⟩
 ·skip
  replace h1 := df h1
  refine J_skip ?_
  refine J_seq ?_
  refine J_region ?_
  refine JL_pure (v := .pointer (some ⟨bS, 0, none⟩)) rfl (Pu.move rfl) ?_
  refine JL_call1 0 rfl Try.call80 rfl rfl (fun hin => draw_ct _ _ _ _ _ _ (RBs.mono (Hle.hu _ _) hv) (by omega) (by omega)) rfl ?_
  rintro _ _ ⟨n2, a2, s2, rfl, rfl, hn2, ha2⟩
  refine JL_pure (v := .int .i64 (m)) rfl (Pu.move rfl) ?_
  have hrm3 : 0 ≤ (n2) % (m) ∧ (n2) % (m) < m := ⟨Int.emod_nonneg _ (by omega), Int.emod_lt_of_pos _ (by omega)⟩
  refine JL_pure (v := .int .i64 ((n2) % (m))) rfl (Pu.rem rfl rfl (by omega) (Int.tmod_eq_emod_of_nonneg (by omega))) ?_
  refine JL_pure (v := .int .i64 ((n2) % (m))) rfl (Pu.assign rfl) ?_
  refine JL_nil ?_
  refine J_ret ?_
  refine ⟨.int .i64 ((n2) % (m)), [[(bS, .cells ⟨[v, .int .i64 (a2), .int .u64 (s2)]⟩ 45 (0, 0))]], Ret.one rfl (RV.tmp rfl), (Sk Sub.nil), ?_⟩
  exact ⟨_, _, _, rfl, rfl, by omega, by omega⟩
theorem from_ct (bS : Nat) (v : Value) (l : List Int) (a s : Int) (H : Heap) (hv : Hs.rdS RB 1 H v l) (ha0 : 0 ≤ a) (ha1 : a ≤ 2000000000) (lo hi : Int) (h0 : -1000 ≤ lo) (h1 : lo ≤ hi) (h2 : hi ≤ 1000) : CT Try.prog 62 ⟨[.pointer (some ⟨bS, 0, none⟩), .int .i64 (lo), .int .i64 (hi)]⟩ [[(bS, .cells ⟨[v, .int .i64 (a), .int .u64 (s)]⟩ 45 (0, 0))]] H (fun r N => ∃ n a' s', r = .int .i64 n ∧ N = [[(bS, .cells ⟨[v, .int .i64 (a'), .int .u64 (s')]⟩ 45 (0, 0))]] ∧ (lo ≤ n ∧ n ≤ hi) ∧ (a ≤ a' ∧ a' ≤ a + 1)) := by
 refine CT_enter Try.func62 rfl rfl ?_
 refine J_seq ?_
 refine J_region ?_
 refine JL_pure (v := .int .i64 (0)) rfl (Pu.assign rfl) ?_
 refine JL_nil ?_
 refine J_seq ?_
 refine J_region ?_
 refine JL_pure (v := .int .i64 (lo)) rfl (Pu.move rfl) ?_
 refine JL_pure (v := .pointer (some ⟨bS, 0, none⟩)) rfl (Pu.move rfl) ?_
 refine JL_pure (v := .int .i64 (hi)) rfl (Pu.move rfl) ?_
 refine JL_pure (v := .int .i64 (lo)) rfl (Pu.move rfl) ?_
 refine JL_pure (v := .int .i64 (hi - lo)) rfl (Pu.sub64 rfl rfl (by first | omega | (constructor <;> omega))) ?_
 refine JL_pure (v := .int .i64 (hi - lo + 1)) rfl (Pu.add64 rfl rfl (by first | omega | (constructor <;> omega))) ?_
 refine JL_call1 0 rfl Try.call56 rfl rfl (fun hin => less_ct _ _ _ _ _ _ (RBs.mono (Hle.hu _ _) hv) (by omega) (by omega) _) rfl ?_
 rintro _ _ ⟨n1, a1, s1, rfl, rfl, hn1, ha1⟩
 refine JL_pure (v := .int .i64 (lo + n1)) rfl (Pu.add64 rfl rfl (by first | omega | (constructor <;> omega))) ?_
 refine JL_pure (v := .int .i64 (lo + n1)) rfl (Pu.assign rfl) ?_
 refine JL_nil ?_
 refine J_ret ?_
 refine ⟨.int .i64 (lo + n1), [[(bS, .cells ⟨[v, .int .i64 (a1), .int .u64 (s1)]⟩ 45 (0, 0))]], Ret.one rfl (RV.tmp rfl), (Sk Sub.nil), ?_⟩
 exact ⟨_, _, _, rfl, rfl, by omega, by omega⟩
theorem sum_ct (bS : Nat) (v : Value) (l : List Int) (a s : Int) (H : Heap) (hv : Hs.rdS RB 1 H v l) (ha0 : 0 ≤ a) (ha1 : a ≤ 2000000000) (f m : Int) (h0 : 0 ≤ f) (h1 : 1 ≤ m) (h2 : f + m ≤ 256) : CT Try.prog 59 ⟨[.pointer (some ⟨bS, 0, none⟩), .int .i64 (f), .int .i64 (m)]⟩ [[(bS, .cells ⟨[v, .int .i64 (a), .int .u64 (s)]⟩ 45 (0, 0))]] H (fun r N => ∃ n a' s', r = .agg ⟨sC n⟩ ∧ N = [[(bS, .cells ⟨[v, .int .i64 (a'), .int .u64 (s')]⟩ 45 (0, 0))]] ∧ (a ≤ a' ∧ a' ≤ a + 1)) := by
 refine CT_enter Try.func59 rfl rfl ?_
 refine J_seq ?_
 refine J_region ?_
 refine JL_run rfl (Runs_alloc (l := sC (zS)) Try.zeroValue26 rfl fun b1 => ?_)
 refine JL_nil ?_
 refine J_seq ?_
 refine J_region ?_
 refine JL_pure (v := .pointer (some ⟨bS, 0, none⟩)) rfl (Pu.move rfl) ?_
 refine JL_pure (v := .int .i64 (f)) rfl (Pu.move rfl) ?_
 refine JL_pure (v := .int .i64 (f)) rfl (Pu.move rfl) ?_
 refine JL_pure (v := .int .i64 (m)) rfl (Pu.move rfl) ?_
 refine JL_pure (v := .int .i64 (f + m)) rfl (Pu.add64 rfl rfl (by first | omega | (constructor <;> omega))) ?_
 refine JL_pure (v := .int .i64 (f + m - 1)) rfl (Pu.sub64 rfl rfl (by first | omega | (constructor <;> omega))) ?_
 refine JL_call1 1 rfl Try.call62 rfl rfl (fun hin => from_ct _ _ _ _ _ _ (RBs.mono (Hle.hu _ _) hv) (by omega) (by omega) _ _ (by omega) (by omega) (by omega)) rfl ?_
 rintro _ _ ⟨n2, a2, s2, rfl, rfl, hn2, ha2⟩
 refine JL_pure (v := .int .u8 (n2)) rfl (Pu.conv Try.runUnderlying3 Try.runUnderlying5 rfl (w8 (by omega))) ?_
 refine JL_pure (v := .agg ⟨sC (smOne (UInt8.ofNat (n2).toNat))⟩) rfl (Pu.build (pv := [(0, .int .u8 (n2))]) (l := sC (smOne (UInt8.ofNat (n2).toNat))) rfl (bldS1 _ (by omega) (by omega))) ?_
 refine JL_run rfl (Runs_storeB 1 (vs := sC (smOne (UInt8.ofNat (n2).toNat))) (l := sC (smOne (UInt8.ofNat (n2).toNat))) ty26 rfl rfl rfl rfl rfl (sC_ok _) (spl_a rfl rfl) ?_)
 refine JL_nil ?_
 refine J_ret ?_
 refine ⟨.agg ⟨sC (smOne (UInt8.ofNat (n2).toNat))⟩, [[(bS, .cells ⟨[v, .int .i64 (a2), .int .u64 (s2)]⟩ 45 (0, 0))]], Ret.one rfl (RV.cell ty26 rfl (At.bx 1 rfl) (sub_a rfl)), (Sk Sub.nil), ?_⟩
 exact ⟨_, _, _, rfl, rfl, by omega⟩
theorem pc_ct (f : Sm) (n : Int) (sa : Option Addr) (sn sc : Nat) (H : Heap) : CT Try.prog 81 ⟨[.agg ⟨sC (f)⟩, .int .i64 (n), .slice sa sn sc]⟩ [] H (fun r N => r = .agg ⟨pkP 3 n f (.slice sa sn sc)⟩ ∧ N = []) := by
 refine CT_enter Try.func81 rfl rfl ?_
 refine J_seq ?_
 refine J_region ?_
 refine JL_run rfl (Runs_box (l := sC (f)) rfl rfl fun b1 => ?_)
 refine JL_run rfl (Runs_alloc (l := pkP (0) (0) (zS) (.slice none 0 0)) Try.zeroValue66 rfl fun b2 => ?_)
 refine JL_nil ?_
 refine J_seq ?_
 refine J_region ?_
 refine JL_run rfl (Pu_load ty26 rfl (At.bx 1 rfl) (sub_a rfl) ?_)
 refine JL_pure (v := .int .i64 (n)) rfl (Pu.move rfl) ?_
 refine JL_pure (v := .slice sa sn sc) rfl (Pu.move rfl) ?_
 refine JL_pure (v := .agg ⟨pkP (3) (n) (f) (.slice sa sn sc)⟩) rfl (Pu.build (pv := [(0, .int .i64 (3)), (2, .agg ⟨sC (f)⟩), (1, .int .i64 (n)), (3, .slice sa sn sc)]) (l := pkP (3) (n) (f) (.slice sa sn sc)) rfl (bld66_0_2_1_3 _ _ _ _ _ _)) ?_
 refine JL_run rfl (Runs_storeB 0 (vs := pkP (3) (n) (f) (.slice sa sn sc)) (l := pkP (3) (n) (f) (.slice sa sn sc)) ty66 rfl rfl rfl rfl rfl (pkP_ok rfl) (pkP_s ..) ?_)
 refine JL_nil ?_
 refine J_ret ?_
 refine ⟨.agg ⟨pkP (3) (n) (f) (.slice sa sn sc)⟩, [], Ret.one rfl (RV.cell ty66 rfl (At.bx 0 rfl) (pkP_a ..)), Sub.nil, ?_⟩
 exact ⟨rfl, rfl⟩
theorem pn_ct (n : Int) (H : Heap) : CT Try.prog 82 ⟨[.int .i64 (n)]⟩ [] H (fun r N => r = .agg ⟨pkP 2 n zS (.slice none 0 0)⟩ ∧ N = []) := by
 refine CT_enter Try.func82 rfl rfl ?_
 refine J_seq ?_
 refine J_region ?_
 refine JL_run rfl (Runs_alloc (l := pkP (0) (0) (zS) (.slice none 0 0)) Try.zeroValue66 rfl fun b1 => ?_)
 refine JL_nil ?_
 refine J_seq ?_
 refine J_region ?_
 refine JL_pure (v := .int .i64 (n)) rfl (Pu.move rfl) ?_
 refine JL_pure (v := .agg ⟨pkP (2) (n) (zS) (.slice none 0 0)⟩) rfl (Pu.build (pv := [(0, .int .i64 (2)), (1, .int .i64 (n))]) (l := pkP (2) (n) (zS) (.slice none 0 0)) rfl (bld66_0_1 _ _)) ?_
 refine JL_run rfl (Runs_storeB 0 (vs := pkP (2) (n) (zS) (.slice none 0 0)) (l := pkP (2) (n) (zS) (.slice none 0 0)) ty66 rfl rfl rfl rfl rfl (pkP_ok rfl) (pkP_s ..) ?_)
 refine JL_nil ?_
 refine J_ret ?_
 refine ⟨.agg ⟨pkP (2) (n) (zS) (.slice none 0 0)⟩, [], Ret.one rfl (RV.cell ty66 rfl (At.bx 0 rfl) (pkP_a ..)), Sub.nil, ?_⟩
 exact ⟨rfl, rfl⟩
theorem any_ct  (H : Heap) : CT Try.prog 83 ⟨[]⟩ [] H (fun r N => r = .agg ⟨pkP 1 0 zS (.slice none 0 0)⟩ ∧ N = []) := by
 refine CT_enter Try.func83 rfl rfl ?_
 refine J_seq ?_
 refine J_region ?_
 refine JL_run rfl (Runs_alloc (l := pkP (0) (0) (zS) (.slice none 0 0)) Try.zeroValue66 rfl fun b1 => ?_)
 refine JL_nil ?_
 refine J_seq ?_
 refine J_region ?_
 refine JL_pure (v := .agg ⟨pkP (1) (0) (zS) (.slice none 0 0)⟩) rfl (Pu.build (pv := [(0, .int .i64 (1))]) (l := pkP (1) (0) (zS) (.slice none 0 0)) rfl (bld66_0 _)) ?_
 refine JL_run rfl (Runs_storeB 0 (vs := pkP (1) (0) (zS) (.slice none 0 0)) (l := pkP (1) (0) (zS) (.slice none 0 0)) ty66 rfl rfl rfl rfl rfl (pkP_ok rfl) (pkP_s ..) ?_)
 refine JL_nil ?_
 refine J_ret ?_
 refine ⟨.agg ⟨pkP (1) (0) (zS) (.slice none 0 0)⟩, [], Ret.one rfl (RV.cell ty66 rfl (At.bx 0 rfl) (pkP_a ..)), Sub.nil, ?_⟩
 exact ⟨rfl, rfl⟩
theorem co_ct (f : Sm) (n : Int) (sa : Option Addr) (sn sc : Nat) (H : Heap) : CT Try.prog 68 ⟨[.agg ⟨sC (f)⟩, .int .i64 (n), .slice sa sn sc]⟩ [] H (fun r N => r = .agg ⟨pkT 8 n f (.slice sa sn sc) (.slice none 0 0)⟩ ∧ N = []) := by
 refine CT_enter Try.func68 rfl rfl ?_
 refine J_seq ?_
 refine J_region ?_
 refine JL_run rfl (Runs_box (l := sC (f)) rfl rfl fun b1 => ?_)
 refine JL_run rfl (Runs_alloc (l := pkT (0) (0) (zS) (.slice none 0 0) (.slice none 0 0)) Try.zeroValue30 rfl fun b2 => ?_)
 refine JL_nil ?_
 refine J_seq ?_
 refine J_region ?_
 refine JL_run rfl (Pu_load ty26 rfl (At.bx 1 rfl) (sub_a rfl) ?_)
 refine JL_pure (v := .int .i64 (n)) rfl (Pu.move rfl) ?_
 refine JL_pure (v := .slice sa sn sc) rfl (Pu.move rfl) ?_
 refine JL_pure (v := .agg ⟨pkT (8) (n) (f) (.slice sa sn sc) (.slice none 0 0)⟩) rfl (Pu.build (pv := [(0, .int .i64 (8)), (2, .agg ⟨sC (f)⟩), (1, .int .i64 (n)), (3, .slice sa sn sc)]) (l := pkT (8) (n) (f) (.slice sa sn sc) (.slice none 0 0)) rfl (bld30_0_2_1_3 _ _ _ _ _ _)) ?_
 refine JL_run rfl (Runs_storeB 0 (vs := pkT (8) (n) (f) (.slice sa sn sc) (.slice none 0 0)) (l := pkT (8) (n) (f) (.slice sa sn sc) (.slice none 0 0)) ty30 rfl rfl rfl rfl rfl (pkT_ok rfl rfl) (pkT_s ..) ?_)
 refine JL_nil ?_
 refine J_ret ?_
 refine ⟨.agg ⟨pkT (8) (n) (f) (.slice sa sn sc) (.slice none 0 0)⟩, [], Ret.one rfl (RV.cell ty30 rfl (At.bx 0 rfl) (pkT_a ..)), Sub.nil, ?_⟩
 exact ⟨rfl, rfl⟩
theorem se_ct (n : Int) (H : Heap) : CT Try.prog 57 ⟨[.int .i64 (n)]⟩ [] H (fun r N => r = .agg ⟨pkT 7 n zS (.slice none 0 0) (.slice none 0 0)⟩ ∧ N = []) := by
 refine CT_enter Try.func57 rfl rfl ?_
 refine J_seq ?_
 refine J_region ?_
 refine JL_run rfl (Runs_alloc (l := pkT (0) (0) (zS) (.slice none 0 0) (.slice none 0 0)) Try.zeroValue30 rfl fun b1 => ?_)
 refine JL_nil ?_
 refine J_seq ?_
 refine J_region ?_
 refine JL_pure (v := .int .i64 (n)) rfl (Pu.move rfl) ?_
 refine JL_pure (v := .agg ⟨pkT (7) (n) (zS) (.slice none 0 0) (.slice none 0 0)⟩) rfl (Pu.build (pv := [(0, .int .i64 (7)), (1, .int .i64 (n))]) (l := pkT (7) (n) (zS) (.slice none 0 0) (.slice none 0 0)) rfl (bld30_0_1 _ _)) ?_
 refine JL_run rfl (Runs_storeB 0 (vs := pkT (7) (n) (zS) (.slice none 0 0) (.slice none 0 0)) (l := pkT (7) (n) (zS) (.slice none 0 0) (.slice none 0 0)) ty30 rfl rfl rfl rfl rfl (pkT_ok rfl rfl) (pkT_s ..) ?_)
 refine JL_nil ?_
 refine J_ret ?_
 refine ⟨.agg ⟨pkT (7) (n) (zS) (.slice none 0 0) (.slice none 0 0)⟩, [], Ret.one rfl (RV.cell ty30 rfl (At.bx 0 rfl) (pkT_a ..)), Sub.nil, ?_⟩
 exact ⟨rfl, rfl⟩
theorem de_ct (f : Sm) (H : Heap) : CT Try.prog 58 ⟨[.agg ⟨sC (f)⟩]⟩ [] H (fun r N => r = .agg ⟨pkT 6 0 f (.slice none 0 0) (.slice none 0 0)⟩ ∧ N = []) := by
 refine CT_enter Try.func58 rfl rfl ?_
 refine J_seq ?_
 refine J_region ?_
 refine JL_run rfl (Runs_box (l := sC (f)) rfl rfl fun b1 => ?_)
 refine JL_run rfl (Runs_alloc (l := pkT (0) (0) (zS) (.slice none 0 0) (.slice none 0 0)) Try.zeroValue30 rfl fun b2 => ?_)
 refine JL_nil ?_
 refine J_seq ?_
 refine J_region ?_
 refine JL_run rfl (Pu_load ty26 rfl (At.bx 1 rfl) (sub_a rfl) ?_)
 refine JL_pure (v := .agg ⟨pkT (6) (0) (f) (.slice none 0 0) (.slice none 0 0)⟩) rfl (Pu.build (pv := [(0, .int .i64 (6)), (2, .agg ⟨sC (f)⟩)]) (l := pkT (6) (0) (f) (.slice none 0 0) (.slice none 0 0)) rfl (bld30_0_2 _ _)) ?_
 refine JL_run rfl (Runs_storeB 0 (vs := pkT (6) (0) (f) (.slice none 0 0) (.slice none 0 0)) (l := pkT (6) (0) (f) (.slice none 0 0) (.slice none 0 0)) ty30 rfl rfl rfl rfl rfl (pkT_ok rfl rfl) (pkT_s ..) ?_)
 refine JL_nil ?_
 refine J_ret ?_
 refine ⟨.agg ⟨pkT (6) (0) (f) (.slice none 0 0) (.slice none 0 0)⟩, [], Ret.one rfl (RV.cell ty30 rfl (At.bx 0 rfl) (pkT_a ..)), Sub.nil, ?_⟩
 exact ⟨rfl, rfl⟩
end Go.Proofs.Ytmdifonjepggcaa.Hs
/-! Walks, printed by a program of this session's own (gen.py). -/
namespace Go.Proofs.Ytmdifonjepggcaa.Hs
open Go Go.Proofs
set_option maxRecDepth 100000
set_option linter.unusedVariables false
set_option linter.unusedSimpArgs false
attribute [local irreducible] JL J CT wlo
theorem pattern_ct : ∀ (dp : Nat) (bS : Nat) (v : Value) (l : List Int) (a s d : Int) (H : Heap), d = (dp : Int) → dp ≤ 2 → Hs.rdS RB 1 H v l → 0 ≤ a → a + ((dz dp : Nat) : Int) ≤ 1900000000 → CT Try.prog 65 ⟨[.pointer (some ⟨bS, 0, none⟩), .int .i64 d]⟩ [[(bS, .cells ⟨[v, .int .i64 (a), .int .u64 (s)]⟩ 45 (0, 0))]] H (fun r N => ∃ p cs k a' s', r = .agg ⟨cs⟩ ∧ N = [[(bS, .cells ⟨[v, .int .i64 (a'), .int .u64 (s')]⟩ 45 (0, 0))], k] ∧ OP p cs k ∧ (pErrR p = 0 ∧ sizeP p ≤ pz (dp)) ∧ (a ≤ a' ∧ a' ≤ a + ((dz (dp) : Nat) : Int))) := by
 intro dp
 induction dp using Nat.strongRecOn with
 | _ dp ih =>
 intro bS v l a s d H hd hdp hv ha0 ha1
 have hdz := dz_le (show dp - 1 ≤ 2 by omega)
 have hdz2 := dz_ge dp
 refine CT_enter Try.func65 rfl rfl ?_
 refine J_seq ?_
 refine J_region ?_
 refine JL_run rfl (Runs_alloc (l := pkP (0) (0) (zS) (.slice none 0 0)) Try.zeroValue66 rfl fun b1 => ?_)
 refine JL_nil ?_
 refine J_seq ?_
 refine J_seq ?_
 refine J_region ?_
 refine JL_pure (v := .pointer (some ⟨bS, 0, none⟩)) rfl (Pu.move rfl) ?_
 refine JL_call1 1 rfl Try.call56 rfl rfl (fun hin => less_ct _ _ _ _ _ _ (RBs.mono (Hle.hu _ _) hv) (by omega) (by omega) _) rfl ?_
 rintro _ _ ⟨n2, a2, s2, rfl, rfl, hn2, ha2⟩
 refine JL_pure (v := .int .i64 (n2)) rfl (Pu.assign rfl) ?_
 refine JL_nil ?_
 refine J_block ?_
 refine J_cut (fun ρ M => ρ 0 = .pointer (some ⟨bS, 0, none⟩) ∧ ρ 1 = .int .i64 (d) ∧ ρ 4 = .pointer (some ⟨b1, 0, none⟩) ∧ ρ 5 = .int .i64 (n2) ∧ ρ 9 = .bool ((decide (0 < d)) && (decide (n2 < 3))) ∧ M = [[(bS, .cells ⟨[v, .int .i64 (a2), .int .u64 (s2)]⟩ 45 (0, 0))], [(b1, .cells ⟨pkP (0) (0) (zS) (.slice none 0 0)⟩ 66 (0, 0))]]) ?_ ?_
 ·refine J_region ?_
  refine JL_pure (v := .int .i64 (d)) rfl (Pu.move rfl) ?_
  refine JL_pure (v := .bool (decide (0 < d))) rfl (Pu.gtr rfl rfl) ?_
  refine JL_pure (v := .bool (decide (0 < d))) rfl (Pu.move rfl) ?_
  cases h3 : (decide (0 < d)) with
  | true =>
   replace h3 := dt h3
   refine JL_pure (v := .int .i64 (n2)) rfl (Pu.move rfl) ?_
   refine JL_pure (v := .bool (decide (n2 < 3))) rfl (Pu.lss rfl rfl) ?_
   refine JL_pure (v := .bool (decide (n2 < 3))) rfl (Pu.pickT rfl rfl) ?_
   refine JL_pure (v := .bool (decide (n2 < 3))) rfl (Pu.assign rfl) ?_
   refine JL_nil ?_
   first | exact ⟨rfl, rfl, rfl, rfl, rfl, rfl⟩ | (exfalso; omega)
  | false =>
   replace h3 := df h3
   refine JL_skip rfl ?_
   refine JL_skip rfl ?_
   refine JL_pure (v := .bool (false)) rfl (Pu.pickF rfl rfl) ?_
   refine JL_pure (v := .bool (false)) rfl (Pu.assign rfl) ?_
   refine JL_nil ?_
   first | exact ⟨rfl, rfl, rfl, rfl, rfl, rfl⟩ | (exfalso; omega)
 ·rintro ρ4 _ ⟨e5, e6, e7, e8, e9, rfl⟩
  obtain ⟨ρ10, rfl⟩ := reopen_ex (uc e5 (uc e6 (uc e7 (uc e8 (uc e9 un)))))
  clear e5 e6 e7 e8 e9
  refine J_cond (b := (decide (0 < d)) && (decide (n2 < 3))) rfl (fun h11 => ?_) (fun h11 => ?_)
  ·skip
   obtain ⟨h11a, h11b⟩ := andT h11
   replace h11a := dt h11a
   replace h11b := dt h11b
   refine J_seq ?_
   refine J_region ?_
   refine JL_pure (v := .pointer (some ⟨bS, 0, none⟩)) rfl (Pu.move rfl) ?_
   refine JL_call1 0 rfl Try.call59 rfl rfl (fun hin => sum_ct _ _ _ _ _ _ (RBs.mono (Hle.hu _ _) hv) (by omega) (by omega) _ _ (by omega) (by omega) (by omega)) rfl ?_
   rintro _ _ ⟨n12, a12, s12, rfl, rfl, ha12⟩
   refine JL_pure (v := .pointer (some ⟨bS, 0, none⟩)) rfl (Pu.move rfl) ?_
   refine JL_call1 0 rfl Try.call56 rfl rfl (fun hin => less_ct _ _ _ _ _ _ (RBs.mono (Hle.hu _ _) hv) (by omega) (by omega) _) rfl ?_
   rintro _ _ ⟨n13, a13, s13, rfl, rfl, hn13, ha13⟩
   refine JL_call rfl Try.call81 rfl (fun hin => pc_ct _ _ none 0 0 _) rfl ?_
   rintro _ _ ⟨rfl, rfl⟩
   refine JL_run rfl (Runs_alloc (l := pkP (0) (0) (zS) (.slice none 0 0)) Try.zeroValue66 rfl fun b14 => ?_)
   refine JL_run rfl (Runs_storeB 0 (vs := pkP (3) (n13) (n12) (.slice none 0 0)) (l := pkP (3) (n13) (n12) (.slice none 0 0)) ty66 rfl rfl rfl rfl rfl (pkP_ok rfl) (pkP_s ..) ?_)
   refine JL_nil ?_
   refine J_seq ?_
   refine J_seq ?_
   refine J_region ?_
   refine JL_pure (v := .pointer (some ⟨bS, 0, none⟩)) rfl (Pu.move rfl) ?_
   refine JL_call1 1 rfl Try.call56 rfl rfl (fun hin => less_ct _ _ _ _ _ _ (RBs.mono (Hle.hu _ _) hv) (by omega) (by omega) _) rfl ?_
   rintro _ _ ⟨n15, a15, s15, rfl, rfl, hn15, ha15⟩
   refine JL_pure (v := .int .i64 (0)) rfl (Pu.move rfl) ?_
   refine JL_nil ?_
   refine J_block ?_
   refine J_loop (fun k ρ M => ∃ (j : Nat) (ps : List Pt) (w : Value) (es : List (List Value)) (k1 k2 : Chunk) (aw sw : Int), ρ 0 = .pointer (some ⟨bS, 0, none⟩) ∧ ρ 1 = .int .i64 (d) ∧ ρ 4 = .pointer (some ⟨b1, 0, none⟩) ∧ ρ 6 = .pointer (some ⟨b14, 0, none⟩) ∧ ρ 22 = .int .i64 (n15) ∧ ρ 23 = .int .i64 ((j : Int)) ∧ Sub [[(b14, .cells ⟨pkP (3) (n13) (n12) (w)⟩ 66 (0, 0))], k1, k2, [(bS, .cells ⟨[v, .int .i64 (aw), .int .u64 (sw)]⟩ 45 (0, 0))], [(b1, .cells ⟨pkP (0) (0) (zS) (.slice none 0 0)⟩ 66 (0, 0))]] M ∧ (j : Int) ≤ n15 ∧ Own 66 35 w es k1 ∧ OPs ps es k2 ∧ ps.length = j ∧ pErrRL ps = 0 ∧ sizePs ps ≤ j * pz (dp - 1) ∧ (a15 ≤ aw ∧ aw ≤ a15 + ((j * dz (dp - 1) : Nat) : Int)) ∧ k = (n15).toNat - j) _ ⟨0, [], (.slice none 0 0), [], [], [], (a15), (s15), rfl, rfl, rfl, rfl, rfl, rfl, (Sub.cons 1 rfl (Sub.emp (Sub.emp (Sk (Sk Sub.nil))))), (by omega), Own.nil, OPs.nil, rfl, rfl, by simp [sizePs], by omega, rfl⟩ ?_
   rintro _ ρ16 _ ⟨j, ps, w, es, k1, k2, aw, sw, e17, e18, e19, e20, e21, e22, hm23, hj, how, hopw, hpl, hpe, hps, hpa, rfl⟩
   obtain ⟨ρ24, rfl⟩ := reopen_ex (uc e17 (uc e18 (uc e19 (uc e20 (uc e21 (uc e22 un))))))
   clear e17 e18 e19 e20 e21 e22
   refine J_sub hm23 ?_
   refine J_seq ?_
   refine J_region ?_
   refine JL_pure (v := .bool (decide ((j : Int) < n15))) rfl (Pu.lss rfl rfl) ?_
   refine JL_nil ?_
   refine J_seq ?_
   refine J_cond (b := decide ((j : Int) < n15)) rfl (fun h25 => ?_) (fun h25 => ?_)
   ·skip
    replace h25 := dt h25
    have helw := OPs_len hopw
    have hmd := Nat.mul_le_mul_right (dz (dp - 1)) (show j + 1 ≤ 2 by omega)
    rw [Nat.succ_mul] at hmd
    have hmd2 := dz_pos (show 0 < dp by omega)
    refine J_skip ?_
    refine J_seq ?_
    refine J_block ?_
    refine J_drawM mixed #[0, 1, 0, 0, 8, 28, 60, 127, 255, 511] 7 3 [5] rfl (by kernel_rfl) (by decide) rfl (by kernel_rfl) (fun i r26 N26 => match i with | 0 => (r26 0) = .pointer (some ⟨b14, 34, none⟩) | 1 => (r26 1) = w | 2 => (r26 2) = .pointer (some ⟨bS, 0, none⟩) | 3 => (r26 3) = .int .i64 (d) | 4 => (r26 4) = .int .i64 (d - 1) | 5 => (r26 5) = .agg ⟨(cll (r26 5))⟩ ∧ (cll (r26 5)).length = 35 ∧ okc (cll (r26 5)) ∧ ∃ pM kM aM sM, (N26 5) = [(bS, .cells ⟨[v, .int .i64 aM, .int .u64 sM]⟩ 45 (0, 0))] ++ kM ∧ OP pM (cll (r26 5)) kM ∧ (pErrR pM = 0 ∧ sizeP pM ≤ pz (dp - 1)) ∧ (aw ≤ aM ∧ aM ≤ aw + ((dz (dp - 1) : Nat) : Int)) | 6 => (r26 6) = .slice (some ⟨(sblk (r26 6)), 0, none⟩) 1 1 ∧ (N26 6) = [(sblk (r26 6), .cells ⟨List.flatten [(cll (r26 5))]⟩ 66 (0, 0))] ∧ Own 66 35 (.slice (some ⟨(sblk (r26 6)), 0, none⟩) 1 1) [(cll (r26 5))] (N26 6) | _ => True) ⟨?_, ?_, ?_, ?_, ?_, ?_, ?_, trivial⟩ ?_
    ·intro ρ r26 N26 B hB hBa hp hr hr0
     have q6 : ρ 6 = .pointer (some ⟨b14, 0, none⟩) := hr0 6 (by kernel_rfl)
     obtain ⟨ρ27, rfl⟩ := reopen_ex (uc q6 un)
     clear q6
     refine JL_pure (v := .pointer (some ⟨b14, 34, none⟩)) rfl (fa66_3 rfl rfl) ?_
     refine JL_nil ?_
     exact ⟨.pointer (some ⟨b14, 34, none⟩), [], rfl, (Sub.emp Sub.refl), rfl⟩
    ·intro ρ r26 N26 B hB hBa hp hr hr0
     have p0 : (r26 0) = .pointer (some ⟨b14, 34, none⟩) := hp 0 (by decide) rfl
     have q25 : ρ 25 = .pointer (some ⟨b14, 34, none⟩) := (hr 0 _ _ (by decide) rfl rfl rfl).trans p0
     obtain ⟨ρ28, rfl⟩ := reopen_ex (uc q25 un)
     clear q25
     refine JL_run rfl (Pu_load1 ty64 rfl (At.bx 7 (made_old ((hB 0 (by decide)).trans rfl))) (pkP_34 ..) ?_)
     refine JL_nil ?_
     exact ⟨w, [], rfl, (Sub.emp Sub.refl), rfl⟩
    ·intro ρ r26 N26 B hB hBa hp hr hr0
     have q0 : ρ 0 = .pointer (some ⟨bS, 0, none⟩) := hr0 0 (by kernel_rfl)
     obtain ⟨ρ29, rfl⟩ := reopen_ex (uc q0 un)
     clear q0
     refine JL_pure (v := .pointer (some ⟨bS, 0, none⟩)) rfl (Pu.move rfl) ?_
     refine JL_nil ?_
     exact ⟨.pointer (some ⟨bS, 0, none⟩), [], rfl, (Sub.emp Sub.refl), rfl⟩
    ·intro ρ r26 N26 B hB hBa hp hr hr0
     have q1 : ρ 1 = .int .i64 (d) := hr0 1 (by kernel_rfl)
     obtain ⟨ρ30, rfl⟩ := reopen_ex (uc q1 un)
     clear q1
     refine JL_pure (v := .int .i64 (d)) rfl (Pu.move rfl) ?_
     refine JL_nil ?_
     exact ⟨.int .i64 (d), [], rfl, (Sub.emp Sub.refl), rfl⟩
    ·intro ρ r26 N26 B hB hBa hp hr hr0
     have p3 : (r26 3) = .int .i64 (d) := hp 3 (by decide) rfl
     have q28 : ρ 28 = .int .i64 (d) := (hr 3 _ _ (by decide) rfl rfl rfl).trans p3
     obtain ⟨ρ31, rfl⟩ := reopen_ex (uc q28 un)
     clear q28
     refine JL_pure (v := .int .i64 (d - 1)) rfl (Pu.sub64 rfl rfl (by first | omega | (constructor <;> omega))) ?_
     refine JL_nil ?_
     exact ⟨.int .i64 (d - 1), [], rfl, (Sub.emp Sub.refl), rfl⟩
    ·intro ρ r26 N26 B hB hBa hp hr hr0
     have p2 : (r26 2) = .pointer (some ⟨bS, 0, none⟩) := hp 2 (by decide) rfl
     have p4 : (r26 4) = .int .i64 (d - 1) := hp 4 (by decide) rfl
     have q27 : ρ 27 = .pointer (some ⟨bS, 0, none⟩) := (hr 2 _ _ (by decide) rfl rfl rfl).trans p2
     have q29 : ρ 29 = .int .i64 (d - 1) := (hr 4 _ _ (by decide) rfl rfl rfl).trans p4
     obtain ⟨ρ32, rfl⟩ := reopen_ex (uc q27 (uc q29 un))
     clear q27 q29
     have hB2 := hBa rfl
     change B = [[(b14, .cells ⟨pkP (3) (n13) (n12) (w)⟩ 66 (0, 0))], k1, k2, [(bS, .cells ⟨[v, .int .i64 (aw), .int .u64 (sw)]⟩ 45 (0, 0))], [(b1, .cells ⟨pkP (0) (0) (zS) (.slice none 0 0)⟩ 66 (0, 0))]] at hB2
     subst hB2
     refine JL_sub (M' := [(N26 0), (N26 1), (N26 2), (N26 3), (N26 4), [], (N26 6), [(b14, .cells ⟨pkP (3) (n13) (n12) (w)⟩ 66 (0, 0))], k1, k2, [(bS, .cells ⟨[v, .int .i64 (aw), .int .u64 (sw)]⟩ 45 (0, 0))], [(b1, .cells ⟨pkP (0) (0) (zS) (.slice none 0 0)⟩ 66 (0, 0))]]) Sub.refl ?_
     refine JL_call1 10 rfl Try.call65 rfl rfl (fun hin => ih (dp - 1) (by omega) _ _ _ _ _ _ _ (by omega) (by omega) (RBs.mono (Hle.hu _ _) hv) (by omega) (by omega)) rfl ?_
     rintro _ _ ⟨p33_, cs33, k33, a33, s33, rfl, rfl, hO33, hg33, ha33⟩
     have hbl33 := binds_le p33_
     refine JL_nil ?_
     exact ⟨.agg ⟨cs33⟩, ([(bS, .cells ⟨[v, .int .i64 (a33), .int .u64 (s33)]⟩ 45 (0, 0))]) ++ (k33), rfl, (Sub.flat (M' := [(N26 0), (N26 1), (N26 2), (N26 3), (N26 4), [], (N26 6), [(b14, .cells ⟨pkP (3) (n13) (n12) (w)⟩ 66 (0, 0))], k1, k2, ([(bS, .cells ⟨[v, .int .i64 (a33), .int .u64 (s33)]⟩ 45 (0, 0))]) ++ (k33), [(b1, .cells ⟨pkP (0) (0) (zS) (.slice none 0 0)⟩ 66 (0, 0))]]) (Sub.cons 2 rfl (Sub.cons 2 rfl (Sub.cons 2 rfl (Sub.cons 2 rfl (Sub.cons 2 rfl (Sub.emp (Sub.cons 3 rfl (Sub.cons 3 rfl (Sub.cons 3 rfl (Sub.cons 3 rfl (Sub.join (Sk (Sk (Sd (Sk Sub.nil))))))))))))))) rfl), ⟨rfl, hO33.len, hO33.ok, p33_, k33, a33, s33, rfl, hO33, hg33, ha33⟩⟩
    ·intro ρ r26 N26 B hB hBa hp hr hr0
     have p5 : (r26 5) = .agg ⟨(cll (r26 5))⟩ ∧ (cll (r26 5)).length = 35 ∧ okc (cll (r26 5)) ∧ ∃ pM kM aM sM, (N26 5) = [(bS, .cells ⟨[v, .int .i64 aM, .int .u64 sM]⟩ 45 (0, 0))] ++ kM ∧ OP pM (cll (r26 5)) kM ∧ (pErrR pM = 0 ∧ sizeP pM ≤ pz (dp - 1)) ∧ (aw ≤ aM ∧ aM ≤ aw + ((dz (dp - 1) : Nat) : Int)) := hp 5 (by decide) rfl
     have q30 : ρ 30 = .agg ⟨(cll (r26 5))⟩ := (hr 5 _ _ (by decide) rfl rfl rfl).trans p5.1
     obtain ⟨ρ34, rfl⟩ := reopen_ex (uc q30 un)
     clear q30
     refine JL_run rfl (Runs_buildSlice (vs := [.agg ⟨(cll (r26 5))⟩]) [(cll (r26 5))] Try.runUnderlying64 el66 rfl rfl (by intro e he; simp only [List.mem_cons, List.not_mem_nil, or_false] at he; subst he; exact p5.2.1) rfl (by decide) fun b35 k35 ho35 hk35 => ?_)
     refine JL_nil ?_
     exact ⟨.slice (some ⟨b35, 0, none⟩) 1 1, k35, rfl, Sub.refl, ⟨rfl, hk35, ho35⟩⟩
    ·intro ρ r26 N26 hp hr hr0
     have p5 : (r26 5) = .agg ⟨(cll (r26 5))⟩ ∧ (cll (r26 5)).length = 35 ∧ okc (cll (r26 5)) ∧ ∃ pM kM aM sM, (N26 5) = [(bS, .cells ⟨[v, .int .i64 aM, .int .u64 sM]⟩ 45 (0, 0))] ++ kM ∧ OP pM (cll (r26 5)) kM ∧ (pErrR pM = 0 ∧ sizeP pM ≤ pz (dp - 1)) ∧ (aw ≤ aM ∧ aM ≤ aw + ((dz (dp - 1) : Nat) : Int)) := hp 5 (by decide)
     have p6 : (r26 6) = .slice (some ⟨(sblk (r26 6)), 0, none⟩) 1 1 ∧ (N26 6) = [(sblk (r26 6), .cells ⟨List.flatten [(cll (r26 5))]⟩ 66 (0, 0))] ∧ Own 66 35 (.slice (some ⟨(sblk (r26 6)), 0, none⟩) 1 1) [(cll (r26 5))] (N26 6) := hp 6 (by decide)
     have q0 : ρ 0 = .pointer (some ⟨bS, 0, none⟩) := hr0 0 (by kernel_rfl)
     have q1 : ρ 1 = .int .i64 (d) := hr0 1 (by kernel_rfl)
     have q4 : ρ 4 = .pointer (some ⟨b1, 0, none⟩) := hr0 4 (by kernel_rfl)
     have q6 : ρ 6 = .pointer (some ⟨b14, 0, none⟩) := hr0 6 (by kernel_rfl)
     have q22 : ρ 22 = .int .i64 (n15) := hr0 22 (by kernel_rfl)
     have q23 : ρ 23 = .int .i64 ((j : Int)) := hr0 23 (by kernel_rfl)
     have q26 : ρ 26 = w := (hr 1 _ _ (by decide) rfl rfl).trans (hp 1 (by decide))
     have q31 : ρ 31 = .slice (some ⟨(sblk (r26 6)), 0, none⟩) 1 1 := (hr 6 _ _ (by decide) rfl rfl).trans p6.1
     obtain ⟨ρ36, rfl⟩ := reopen_ex (uc q0 (uc q1 (uc q4 (uc q6 (uc q22 (uc q23 (uc q26 (uc q31 un))))))))
     clear q0 q1 q4 q6 q22 q23 q26 q31
     have p26_5 := p5; have p26_6 := p6
     clear hp hr hr0 p5 p6
     refine JL_sub (M' := [(N26 0), (N26 1), (N26 2), (N26 3), (N26 4), [], (N26 6), [(b14, .cells ⟨pkP (3) (n13) (n12) (w)⟩ 66 (0, 0))], k1, k2, (N26 5), [(b1, .cells ⟨pkP (0) (0) (zS) (.slice none 0 0)⟩ 66 (0, 0))]]) Sub.refl ?_
     obtain ⟨pM26_5, kM26_5, aM26_5, sM26_5, hNM26_5, hOM26_5, hgM26_5, haM26_5⟩ := p26_5.2.2.2
     refine JL_sub (M' := [(N26 6), [(b14, .cells ⟨pkP (3) (n13) (n12) (w)⟩ 66 (0, 0))], k1, k2, [(bS, .cells ⟨[v, .int .i64 (aM26_5), .int .u64 (sM26_5)]⟩ 45 (0, 0))] ++ kM26_5, [(b1, .cells ⟨pkP (0) (0) (zS) (.slice none 0 0)⟩ 66 (0, 0))]]) (Sd (Sd (Sd (Sd (Sd (Sd (Sk (Sk (Sk (Sk (Se hNM26_5 (Sk Sub.nil)))))))))))) ?_
     refine JL_sub (M' := [(N26 6), [(b14, .cells ⟨pkP (3) (n13) (n12) (w)⟩ 66 (0, 0))], k1, k2, [(bS, .cells ⟨[v, .int .i64 (aM26_5), .int .u64 (sM26_5)]⟩ 45 (0, 0))], kM26_5, [(b1, .cells ⟨pkP (0) (0) (zS) (.slice none 0 0)⟩ 66 (0, 0))]]) (Sub.flat Sub.refl (by simp)) ?_
     show JL _ _ _ [_, _, _] _ _ _
     have hlens37 : ∀ e ∈ ([(cll (r26 5))] : List (List Value)), List.length e = 35 := by
      intro e he; simp only [List.mem_cons, List.not_mem_nil, or_false] at he
      rcases he with rfl
      ·exact p26_5.2.1
     have hoks37 : ∀ e ∈ ([(cll (r26 5))] : List (List Value)), okc e := by
      intro e he; simp only [List.mem_cons, List.not_mem_nil, or_false] at he
      rcases he with rfl
      ·exact p26_5.2.2.1
     refine JL_run rfl (Runs_append (i := 2) (n := 1) (es' := [(cll (r26 5))]) Try.runUnderlying64 Try.runUnderlying64 (Or.inl rfl) el66 rfl rfl rfl how (fun F w m => Src.row (((At.k 0 rfl (by rw [p26_6.2.1]; exact List.mem_cons_self))).heap m) (sub_a (flatten_len hlens37))) rfl hlens37 hoks37 (by decide) (by omega) fun v37 k37 ho37 => ?_)
     refine JL_pure (v := .pointer (some ⟨b14, 34, none⟩)) rfl (fa66_3 rfl rfl) ?_
     refine JL_run rfl (Runs_storeB 1 (vs := [v37]) (l := pkP (3) (n13) (n12) (v37)) ty64 rfl rfl rfl (cells_one ho37.one) rfl (okc_cons ho37.one okc_nil) (pkP_s34 ..) ?_)
     refine JL_nil ?_
     refine J_region ?_
     refine JL_pure (v := .int .i64 (((j + 1 : Nat) : Int))) rfl (Pu.inc rfl rfl (by omega)) ?_
     refine JL_pure (v := .int .i64 (((j + 1 : Nat) : Int))) rfl (Pu.move rfl) ?_
     refine JL_nil ?_
     refine ⟨_, ?_, (j + 1), (ps ++ [pM26_5]), (v37), (es ++ [(cll (r26 5))]), (k37), ((k2) ++ (kM26_5)), (aM26_5), (sM26_5), rfl, rfl, rfl, rfl, rfl, rfl, (Sd (Sk (Sk (Sub.join (Sk (Sub.cons 1 rfl (Sk (Sk Sub.nil)))))))), ?_, ?_, ?_, ?_, ?_, ?_, ?_, rfl⟩
     ·omega
     ·omega
     ·exact ho37
     ·exact OPs.snoc hOM26_5 hopw
     ·simp; omega
     ·exact pErrRL_snoc hpe hgM26_5.1
     ·have := hgM26_5.2; rw [sizePs_snoc, Nat.succ_mul]; omega
     ·have := haM26_5; rw [Nat.succ_mul]; omega
   ·skip
    replace h25 := df h25
    refine J_exit _ rfl ?_
    refine J_seq ?_
    refine J_region ?_
    refine JL_run rfl (Pu_load ty66 rfl (At.bx 0 rfl) (pkP_a ..) ?_)
    refine JL_run rfl (Runs_storeB 4 (vs := pkP (3) (n13) (n12) (w)) (l := pkP (3) (n13) (n12) (w)) ty66 rfl rfl rfl rfl rfl (pkP_ok how.one) (pkP_s ..) ?_)
    refine JL_nil ?_
    refine J_ret ?_
    refine ⟨.agg ⟨pkP (3) (n13) (n12) (w)⟩, [[(bS, .cells ⟨[v, .int .i64 (aw), .int .u64 (sw)]⟩ 45 (0, 0))], k1 ++ k2], Ret.one rfl (RV.cell ty66 rfl (At.bx 4 rfl) (pkP_a ..)), (Sd (Sub.cons 2 rfl (Sub.join (Sk (Sk Sub.nil))))), ?_⟩
    have hmz := Nat.mul_le_mul_right (pz (dp - 1)) (show j ≤ 2 by omega)
    have hmd := Nat.mul_le_mul_right (dz (dp - 1)) (show j ≤ 2 by omega)
    have e1 := pz_pos (show 0 < dp by omega)
    have e2 := dz_pos (show 0 < dp by omega)
    exact ⟨.mk 3 (n13) (n12) ps, _, _, _, _, rfl, rfl, OP_mk.2 ⟨w, es, k1, k2, rfl, by unfold inI; omega, by unfold inI; omega, how, hopw, rfl, by omega⟩, ⟨pErrR_con (by omega) (by omega) (by omega) hpe, by rw [sizeP]; omega⟩, by omega⟩
  ·skip
   refine J_seq ?_
   refine J_region ?_
   refine JL_pure (v := .int .i64 (n2)) rfl (Pu.move rfl) ?_
   refine JL_pure (v := .bool (decide (n2 = 3))) rfl (Pu.eql rfl rfl) ?_
   refine JL_pure (v := .bool (decide (n2 = 3))) rfl (Pu.assign rfl) ?_
   refine JL_nil ?_
   refine J_cond (b := decide (n2 = 3)) rfl (fun h38 => ?_) (fun h38 => ?_)
   ·skip
    replace h38 := dt h38
    refine J_seq ?_
    refine J_region ?_
    refine JL_pure (v := .pointer (some ⟨bS, 0, none⟩)) rfl (Pu.move rfl) ?_
    refine JL_call1 0 rfl Try.call56 rfl rfl (fun hin => less_ct _ _ _ _ _ _ (RBs.mono (Hle.hu _ _) hv) (by omega) (by omega) _) rfl ?_
    rintro _ _ ⟨n39, a39, s39, rfl, rfl, hn39, ha39⟩
    refine JL_call rfl Try.call82 rfl (fun hin => pn_ct _ _) rfl ?_
    rintro _ _ ⟨rfl, rfl⟩
    refine JL_run rfl (Runs_storeB 1 (vs := pkP (2) (n39) (zS) (.slice none 0 0)) (l := pkP (2) (n39) (zS) (.slice none 0 0)) ty66 rfl rfl rfl rfl rfl (pkP_ok rfl) (pkP_s ..) ?_)
    refine JL_nil ?_
    refine J_ret ?_
    refine ⟨.agg ⟨pkP (2) (n39) (zS) (.slice none 0 0)⟩, [[(bS, .cells ⟨[v, .int .i64 (a39), .int .u64 (s39)]⟩ 45 (0, 0))], []], Ret.one rfl (RV.cell ty66 rfl (At.bx 1 rfl) (pkP_a ..)), (Sk (Sub.emp Sub.nil)), ?_⟩
    have e1 := pz_ge dp
    have e2 := dz_ge dp
    exact ⟨.mk 2 (n39) zS [], _, _, _, _, rfl, rfl, OP_leaf (by unfold inI; omega) (by unfold inI; omega), ⟨pErrR_num (by omega) (by omega), by simp [sizeP, sizePs]; omega⟩, by omega⟩
   ·skip
    replace h38 := df h38
    refine J_skip ?_
    refine J_seq ?_
    refine J_region ?_
    refine JL_call rfl Try.call83 rfl (fun hin => any_ct _) rfl ?_
    rintro _ _ ⟨rfl, rfl⟩
    refine JL_run rfl (Runs_storeB 1 (vs := pkP (1) (0) (zS) (.slice none 0 0)) (l := pkP (1) (0) (zS) (.slice none 0 0)) ty66 rfl rfl rfl rfl rfl (pkP_ok rfl) (pkP_s ..) ?_)
    refine JL_nil ?_
    refine J_ret ?_
    refine ⟨.agg ⟨pkP (1) (0) (zS) (.slice none 0 0)⟩, [[(bS, .cells ⟨[v, .int .i64 (a2), .int .u64 (s2)]⟩ 45 (0, 0))], []], Ret.one rfl (RV.cell ty66 rfl (At.bx 1 rfl) (pkP_a ..)), (Sk (Sub.emp Sub.nil)), ?_⟩
    have e1 := pz_ge dp
    have e2 := dz_ge dp
    exact ⟨.mk 1 (0) zS [], _, _, _, _, rfl, rfl, OP_leaf (by unfold inI; omega) (by unfold inI; omega), ⟨pErrR_any, by simp [sizeP, sizePs]; omega⟩, by omega⟩
theorem bindsK_ct : ∀ (p : Pt) (cs : List Value) (H : Heap), RP H cs p → pErrR p = 0 → binds p ≤ 1000000 → CT Try.prog 67 ⟨[.agg ⟨cs⟩]⟩ [] H (fun v N => v = .int .i64 (binds p : Int) ∧ N = []) := by
 intro p
 induction p using Pt.ind with
 | h kind num ref kids ih =>
 intro cs H hp hpe hb
 obtain ⟨ks, rfl, hk, hn, hks⟩ := RP_mk.1 hp
 obtain ⟨hpl, hpk⟩ := pErrR_open hpe
 have hpm := pErrRL_mem hpl
 rw [binds] at hb ⊢
 refine CT_enter Try.func67 rfl rfl ?_
 refine J_seq ?_
 refine J_region ?_
 refine JL_run rfl (Runs_box (l := pkP (kind) (num) (ref) (ks)) rfl rfl fun b1 => ?_)
 refine JL_pure (v := .int .i64 (0)) rfl (Pu.assign rfl) ?_
 refine JL_nil ?_
 refine J_seq ?_
 refine J_seq ?_
 refine J_region ?_
 refine JL_pure (v := .pointer (some ⟨b1, 0, none⟩)) rfl (fa66_0 rfl rfl) ?_
 refine JL_run rfl (Pu_load1 ty3 rfl (At.bx 0 rfl) (pkP_0 ..) ?_)
 refine JL_pure (v := .bool (decide (kind = 1))) rfl (Pu.eql rfl rfl) ?_
 refine JL_nil ?_
 refine J_cond (b := decide (kind = 1)) rfl (fun h2 => ?_) (fun h2 => ?_)
 ·skip
  replace h2 := dt h2
  refine J_seq ?_
  refine J_region ?_
  refine JL_pure (v := .int .i64 (1)) rfl (Pu.assign rfl) ?_
  refine JL_nil ?_
  refine J_ret ?_
  refine ⟨.int .i64 (1), [], Ret.one rfl (RV.tmp rfl), Sub.nil, ?_⟩
  exact ⟨by rw [if_pos (by assumption)]; rfl, rfl⟩
 ·skip
  replace h2 := df h2
  refine J_skip ?_
  refine J_seq ?_
  refine J_region ?_
  refine JL_pure (v := .int .i64 (0)) rfl (Pu.assign rfl) ?_
  refine JL_nil ?_
  refine J_seq ?_
  refine J_seq ?_
  refine J_region ?_
  refine JL_pure (v := .pointer (some ⟨b1, 0, none⟩)) rfl (fa66_0 rfl rfl) ?_
  refine JL_run rfl (Pu_load1 ty3 rfl (At.bx 0 rfl) (pkP_0 ..) ?_)
  refine JL_pure (v := .bool (decide (kind = 3))) rfl (Pu.eql rfl rfl) ?_
  refine JL_nil ?_
  refine J_cond (b := decide (kind = 3)) rfl (fun h3 => ?_) (fun h3 => ?_)
  ·skip
   replace h3 := dt h3
   refine J_seq ?_
   refine J_region ?_
   refine JL_pure (v := .pointer (some ⟨b1, 34, none⟩)) rfl (fa66_3 rfl rfl) ?_
   refine JL_run rfl (Pu_load1 ty64 rfl (At.bx 0 rfl) (pkP_34 ..) ?_)
   obtain ⟨a4, cap4, hv4⟩ := hks.sl
   have hle4 := hks.le
   refine JL_pure (v := .int .i64 (((kids).length : Int))) rfl (Pu.lenSl Try.runUnderlying64 hv4) ?_
   refine JL_pure (v := .int .i64 (0)) rfl (Pu.move rfl) ?_
   refine JL_nil ?_
   refine J_block ?_
   refine J_loop (fun k ρ M => ∃ (j : Nat), ρ 2 = .int .i64 (0) ∧ ρ 3 = .int .i64 ((bindsL (kids.take j) : Int)) ∧ ρ 13 = ks ∧ ρ 14 = .int .i64 (((kids).length : Int)) ∧ ρ 15 = .int .i64 ((j : Int)) ∧ Sub [[(b1, .cells ⟨pkP (kind) (num) (ref) (ks)⟩ 66 (0, 0))]] M ∧ j ≤ (kids).length ∧ k = (kids).length - j) _ ⟨0, rfl, rfl, rfl, rfl, rfl, (Sk Sub.nil), Nat.zero_le _, rfl⟩ ?_
   rintro _ ρ5 _ ⟨j, e6, e7, e8, e9, e10, hm11, hj, rfl⟩
   obtain ⟨ρ12, rfl⟩ := reopen_ex (uc e6 (uc e7 (uc e8 (uc e9 (uc e10 un)))))
   clear e6 e7 e8 e9 e10
   refine J_sub hm11 ?_
   have hlen := hks.le
   refine J_seq ?_
   refine J_region ?_
   refine JL_pure (v := .bool (decide ((j : Int) < ((kids).length : Int)))) rfl (Pu.lss rfl rfl) ?_
   refine JL_nil ?_
   refine J_seq ?_
   refine J_cond (b := decide ((j : Int) < ((kids).length : Int))) rfl (fun h13 => ?_) (fun h13 => ?_)
   ·skip
    replace h13 := dt h13
    have h13n : j < (kids).length := by omega
    have hm1 := binds_mem kids _ (List.getElem_mem h13n)
    have hm2 := bindsL_take kids _ h13n
    have hm3 := bindsL_take_le kids (j + 1)
    rw [if_neg (by assumption)] at hb
    refine J_skip ?_
    refine J_seq ?_
    refine J_block ?_
    refine J_seq ?_
    refine J_region ?_
    obtain ⟨b14, o14, cap14, row14, T14, fr14, cs14, hv14, hb14, hs14, hE14⟩ := hks.get j (by first | assumption | omega | decide | simp)
    refine JL_pure (v := .pointer (some ⟨b14, o14 + j * 35, none⟩)) rfl (Pu.idx j Try.runUnderlying64 ty66 hv14 rfl rfl (by first | assumption | omega | decide | simp)) ?_
    refine JL_run rfl (Pu_load ty66 rfl (At.im hb14) hs14 ?_)
    refine JL_run rfl (Runs_alloc (l := pkP (0) (0) (zS) (.slice none 0 0)) Try.zeroValue66 rfl fun b15 => ?_)
    refine JL_run rfl (Runs_storeB 0 (vs := cs14) (l := cs14) ty66 rfl rfl rfl rfl (RP_len hE14) (RP_ok hE14) (spl_a (n := 35) rfl (RP_len hE14)) ?_)
    refine JL_nil ?_
    refine J_region ?_
    refine JL_pure (v := .int .i64 ((bindsL (kids.take j) : Int))) rfl (Pu.move rfl) ?_
    refine JL_run rfl (Pu_load ty66 rfl (At.bx 0 rfl) (sub_a (RP_len hE14)) ?_)
    refine JL_call rfl Try.call67 rfl (fun hin => ih _ (List.getElem_mem h13n) _ _ (RP.mono (Hle.hu _ _) hE14) (hpm _ (List.getElem_mem h13n)) (by omega)) rfl ?_
    rintro _ _ ⟨rfl, rfl⟩
    refine JL_pure (v := .int .i64 ((bindsL (kids.take j) : Int) + ((binds ((kids)[j]) : Int)))) rfl (Pu.add64 rfl rfl (by first | omega | (constructor <;> omega))) ?_
    refine JL_pure (v := .int .i64 ((bindsL (kids.take j) : Int) + ((binds ((kids)[j]) : Int)))) rfl (Pu.assign rfl) ?_
    refine JL_nil ?_
    refine J_region ?_
    refine JL_pure (v := .int .i64 (((j + 1 : Nat) : Int))) rfl (Pu.inc rfl rfl (by omega)) ?_
    refine JL_pure (v := .int .i64 (((j + 1 : Nat) : Int))) rfl (Pu.move rfl) ?_
    refine JL_nil ?_
    refine ⟨_, ?_, (j + 1), rfl, (ieq rfl (by omega)), rfl, rfl, rfl, (Sd (Sk Sub.nil)), ?_, rfl⟩
    ·omega
    ·omega
   ·skip
    replace h13 := df h13
    have h13n : (kids).length ≤ j := by omega
    refine J_exit _ rfl ?_
    refine J_seq ?_
    refine J_region ?_
    refine JL_pure (v := .int .i64 ((bindsL (kids.take j) : Int))) rfl (Pu.move rfl) ?_
    refine JL_pure (v := .int .i64 ((bindsL (kids.take j) : Int))) rfl (Pu.assign rfl) ?_
    refine JL_nil ?_
    refine J_ret ?_
    refine ⟨.int .i64 ((bindsL (kids.take j) : Int)), [], Ret.one rfl (RV.tmp rfl), Sub.nil, ?_⟩
    exact ⟨by rw [if_neg (by assumption), List.take_of_length_le h13n], rfl⟩
  ·skip
   replace h3 := df h3
   refine J_skip ?_
   refine J_seq ?_
   refine J_region ?_
   refine JL_pure (v := .int .i64 (0)) rfl (Pu.move rfl) ?_
   refine JL_pure (v := .int .i64 (0)) rfl (Pu.assign rfl) ?_
   refine JL_nil ?_
   refine J_ret ?_
   refine ⟨.int .i64 (0), [], Ret.one rfl (RV.tmp rfl), Sub.nil, ?_⟩
   obtain rfl : kids = [] := by rcases hpk with e | e | e; exact absurd e (by assumption); exact absurd e (by assumption); exact e.2
   exact ⟨by rw [if_neg (by assumption)]; rfl, rfl⟩
end Go.Proofs.Ytmdifonjepggcaa.Hs
