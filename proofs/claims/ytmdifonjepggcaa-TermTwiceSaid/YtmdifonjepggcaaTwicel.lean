import Derived.Test.YtmdifonjepggcaaTwicek
/-! Walks, printed by a program of this session's own (gen.py). -/
namespace Go.Proofs.Ytmdifonjepggcaa.Hs
open Go Go.Proofs
set_option maxRecDepth 100000
set_option linter.unusedVariables false
set_option linter.unusedSimpArgs false
attribute [local irreducible] JL J CT wlo
set_option maxHeartbeats 4000000 in
theorem scoped_ct : ∀ (q : Nat) (bM bS : Nat) (v : Value) (l : List Int) (L a s d m : Int) (H : Heap), L.toNat = q → Hs.rdS RB 1 H v l → 0 ≤ a → a + 400 * L ≤ 1000000 → -200 ≤ L → L ≤ 60 → 0 ≤ d → d + 10 * L ≤ 10000 → 0 ≤ m → m ≤ 8 → CT Try.prog 39 ⟨[.pointer (some ⟨bM, 0, none⟩), .int .i64 d, .int .i64 m]⟩ [([(bM, .cells ⟨[.pointer (some ⟨bS, 0, none⟩), .int .i64 (L)]⟩ 87 (0, 0))]) ++ ([(bS, .cells ⟨[v, .int .i64 (a), .int .u64 (s)]⟩ 45 (0, 0))])] H (fun r N => ∃ t cs k l' a' s', r = .agg ⟨cs⟩ ∧ N = [([(bM, .cells ⟨[.pointer (some ⟨bS, 0, none⟩), .int .i64 (l')]⟩ 87 (0, 0))]) ++ ([(bS, .cells ⟨[v, .int .i64 (a'), .int .u64 (s')]⟩ 45 (0, 0))]), k] ∧ OT t cs k ∧ (nErr (d) m 0 t = 0 ∧ (sizeT t : Int) ≤ 20 * (L - l')) ∧ (l' ≤ L - 1 ∧ (L ≤ 1 → l' = L - 1) ∧ (1 ≤ L → -3 * (L - 1) ≤ l')) ∧ (a ≤ a' ∧ a' ≤ a + 100 * (L - l'))) := by
 intro q
 induction q using Nat.strongRecOn with
 | _ q ih =>
 intro bM bS v l L a s d m H hq hv ha0 ha1 hL0 hL1 hd0 hd1 hm0 hm1
 have hdz20 : dz 2 = 20 := rfl
 have hpz7 : pz 2 = 7 := rfl
 refine CT_enter Try.func39 rfl rfl ?_
 refine J_sub (M' := [[(bM, .cells ⟨[.pointer (some ⟨bS, 0, none⟩), .int .i64 (L)]⟩ 87 (0, 0))], [(bS, .cells ⟨[v, .int .i64 (a), .int .u64 (s)]⟩ 45 (0, 0))]]) (Sub.flat Sub.refl (by simp)) ?_
 refine J_seq ?_
 refine J_region ?_
 refine JL_run rfl (Runs_box (l := [.pointer (some ⟨bM, 0, none⟩)]) rfl rfl fun b1 => ?_)
 refine JL_run rfl (Runs_box (l := [.int .i64 (d)]) rfl rfl fun b2 => ?_)
 refine JL_run rfl (Runs_box (l := [.int .i64 (m)]) rfl rfl fun b3 => ?_)
 refine JL_run rfl (Runs_alloc (l := pkT (0) (0) (zS) (.slice none 0 0) (.slice none 0 0)) Try.zeroValue30 rfl fun b4 => ?_)
 refine JL_nil ?_
 refine J_seq ?_
 refine J_region ?_
 refine JL_run rfl (Pu_load1 ty85 rfl (At.bx 3 rfl) rfl ?_)
 refine JL_pure (v := .pointer (some ⟨bM, 0, none⟩)) rfl (Pu.nilCheck rfl) ?_
 refine JL_pure (v := .pointer (some ⟨bM, 1, none⟩)) rfl (fa87_1 rfl rfl) ?_
 refine JL_run rfl (Pu_load1 ty3 rfl (At.bx 4 rfl) rfl ?_)
 refine JL_pure (v := .int .i64 (L - 1)) rfl (Pu.sub64 rfl rfl (by first | omega | (constructor <;> omega))) ?_
 refine JL_pure (v := .pointer (some ⟨bM, 0, none⟩)) rfl (Pu.nilCheck rfl) ?_
 refine JL_pure (v := .pointer (some ⟨bM, 1, none⟩)) rfl (fa87_1 rfl rfl) ?_
 refine JL_run rfl (Runs_storeB 4 (vs := [.int .i64 (L - 1)]) (l := [.pointer (some ⟨bS, 0, none⟩), .int .i64 (L - 1)]) ty3 rfl rfl rfl rfl rfl (okc_cons rfl okc_nil) rfl ?_)
 refine JL_nil ?_
 refine J_seq ?_
 refine J_region ?_
 refine JL_pure (v := .func (.func 55) ⟨[]⟩ ⟨[.pointer (some ⟨b1, 0, none⟩), .pointer (some ⟨b2, 0, none⟩), .pointer (some ⟨b3, 0, none⟩)]⟩) rfl (Pu.makeFunc rfl rfl) ?_
 refine JL_pure (v := .func (.func 55) ⟨[]⟩ ⟨[.pointer (some ⟨b1, 0, none⟩), .pointer (some ⟨b2, 0, none⟩), .pointer (some ⟨b3, 0, none⟩)]⟩) rfl (Pu.assign rfl) ?_
 refine JL_nil ?_
 refine J_seq ?_
 refine J_region ?_
 refine JL_run rfl (Pu_load1 ty85 rfl (At.bx 3 rfl) rfl ?_)
 refine JL_pure (v := .pointer (some ⟨bM, 0, none⟩)) rfl (Pu.nilCheck rfl) ?_
 refine JL_pure (v := .pointer (some ⟨bM, 0, none⟩)) rfl (fa87_0 rfl rfl) ?_
 refine JL_run rfl (Pu_load1 ty23 rfl (At.bx 4 rfl) rfl ?_)
 refine JL_call1 5 rfl Try.call56 rfl rfl (fun hin => less_ct _ _ _ _ _ _ (RBs.mono (Hle.hu _ _) hv) (by omega) (by omega) _) rfl ?_
 rintro _ _ ⟨n5, a5, s5, rfl, rfl, hn5, ha5⟩
 refine JL_pure (v := .int .i64 (n5)) rfl (Pu.assign rfl) ?_
 refine JL_nil ?_
 refine J_seq ?_
 refine J_seq ?_
 refine J_region ?_
 refine JL_run rfl (Pu_load1 ty85 rfl (At.bx 4 rfl) rfl ?_)
 refine JL_pure (v := .pointer (some ⟨bM, 0, none⟩)) rfl (Pu.nilCheck rfl) ?_
 refine JL_pure (v := .pointer (some ⟨bM, 1, none⟩)) rfl (fa87_1 rfl rfl) ?_
 refine JL_run rfl (Pu_load1 ty3 rfl (At.bx 5 rfl) rfl ?_)
 refine JL_pure (v := .bool (decide (L - 1 ≤ 0))) rfl (Pu.leq rfl rfl) ?_
 refine JL_nil ?_
 refine J_weak (N := fun ρ M => ∃ (kj aj sj : Int), (0 ≤ kj ∧ kj < 14 ∧ (L - 1 ≤ 0 → kj < 4)) ∧ (a ≤ aj ∧ aj ≤ a + 2) ∧ ρ 3 = .pointer (some ⟨b1, 0, none⟩) ∧ ρ 4 = .pointer (some ⟨b2, 0, none⟩) ∧ ρ 5 = .pointer (some ⟨b3, 0, none⟩) ∧ ρ 6 = .pointer (some ⟨b4, 0, none⟩) ∧ ρ 7 = .func (.func 55) ⟨[]⟩ ⟨[.pointer (some ⟨b1, 0, none⟩), .pointer (some ⟨b2, 0, none⟩), .pointer (some ⟨b3, 0, none⟩)]⟩ ∧ ρ 8 = .int .i64 (kj) ∧ M = [[(bS, .cells ⟨[v, .int .i64 (aj), .int .u64 (sj)]⟩ 45 (0, 0))], [(b4, .cells ⟨pkT (0) (0) (zS) (.slice none 0 0) (.slice none 0 0)⟩ 30 (0, 0))], [(b3, .cells ⟨[.int .i64 (m)]⟩ 3 (0, 0))], [(b2, .cells ⟨[.int .i64 (d)]⟩ 3 (0, 0))], [(b1, .cells ⟨[.pointer (some ⟨bM, 0, none⟩)]⟩ 85 (0, 0))], [(bM, .cells ⟨[.pointer (some ⟨bS, 0, none⟩), .int .i64 (L - 1)]⟩ 87 (0, 0))]]) ?_ ?_
 ·skip
  refine J_cond (b := decide (L - 1 ≤ 0)) rfl (fun h6 => ?_) (fun h6 => ?_)
  ·skip
   replace h6 := dt h6
   refine J_region ?_
   refine JL_run rfl (Pu_load1 ty85 rfl (At.bx 4 rfl) rfl ?_)
   refine JL_pure (v := .pointer (some ⟨bM, 0, none⟩)) rfl (Pu.nilCheck rfl) ?_
   refine JL_pure (v := .pointer (some ⟨bM, 0, none⟩)) rfl (fa87_0 rfl rfl) ?_
   refine JL_run rfl (Pu_load1 ty23 rfl (At.bx 5 rfl) rfl ?_)
   refine JL_call1 0 rfl Try.call56 rfl rfl (fun hin => less_ct _ _ _ _ _ _ (RBs.mono (Hle.hu _ _) hv) (by omega) (by omega) _) rfl ?_
   rintro _ _ ⟨n7, a7, s7, rfl, rfl, hn7, ha7⟩
   refine JL_pure (v := .int .i64 (n7)) rfl (Pu.assign rfl) ?_
   refine JL_nil ?_
   exact ⟨(n7), (a7), (s7), (by omega), (by omega), rfl, rfl, rfl, rfl, rfl, rfl, rfl⟩
  ·skip
   replace h6 := df h6
   refine J_skip ?_
   exact ⟨(n5), (a5), (s5), (by omega), (by omega), rfl, rfl, rfl, rfl, rfl, rfl, rfl⟩
 ·rintro ρ8 _ ⟨kj, aj, sj, hkj, haj, e9, e10, e11, e12, e13, e14, rfl⟩
  obtain ⟨ρ15, rfl⟩ := reopen_ex (uc e9 (uc e10 (uc e11 (uc e12 (uc e13 (uc e14 un))))))
  clear e9 e10 e11 e12 e13 e14
  refine J_seq ?_
  refine J_block ?_
  refine J_cut (fun ρ M => ρ 3 = .pointer (some ⟨b1, 0, none⟩) ∧ ρ 4 = .pointer (some ⟨b2, 0, none⟩) ∧ ρ 5 = .pointer (some ⟨b3, 0, none⟩) ∧ ρ 6 = .pointer (some ⟨b4, 0, none⟩) ∧ ρ 7 = .func (.func 55) ⟨[]⟩ ⟨[.pointer (some ⟨b1, 0, none⟩), .pointer (some ⟨b2, 0, none⟩), .pointer (some ⟨b3, 0, none⟩)]⟩ ∧ ρ 8 = .int .i64 (kj) ∧ ρ 36 = .bool ((decide (kj = 0)) && (decide (0 < d))) ∧ M = [[(bS, .cells ⟨[v, .int .i64 (aj), .int .u64 (sj)]⟩ 45 (0, 0))], [(b4, .cells ⟨pkT (0) (0) (zS) (.slice none 0 0) (.slice none 0 0)⟩ 30 (0, 0))], [(b3, .cells ⟨[.int .i64 (m)]⟩ 3 (0, 0))], [(b2, .cells ⟨[.int .i64 (d)]⟩ 3 (0, 0))], [(b1, .cells ⟨[.pointer (some ⟨bM, 0, none⟩)]⟩ 85 (0, 0))], [(bM, .cells ⟨[.pointer (some ⟨bS, 0, none⟩), .int .i64 (L - 1)]⟩ 87 (0, 0))]]) ?_ ?_
  ·refine J_region ?_
   refine JL_pure (v := .int .i64 (kj)) rfl (Pu.move rfl) ?_
   refine JL_pure (v := .bool (decide (kj = 0))) rfl (Pu.eql rfl rfl) ?_
   refine JL_pure (v := .bool (decide (kj = 0))) rfl (Pu.move rfl) ?_
   cases h16 : (decide (kj = 0)) with
   | true =>
    replace h16 := dt h16
    refine JL_run rfl (Pu_load1 ty3 rfl (At.bx 3 rfl) rfl ?_)
    refine JL_pure (v := .bool (decide (0 < d))) rfl (Pu.gtr rfl rfl) ?_
    refine JL_pure (v := .bool (decide (0 < d))) rfl (Pu.pickT rfl rfl) ?_
    refine JL_pure (v := .bool (decide (0 < d))) rfl (Pu.assign rfl) ?_
    refine JL_nil ?_
    first | exact ⟨rfl, rfl, rfl, rfl, rfl, rfl, rfl, rfl⟩ | (exfalso; omega)
   | false =>
    replace h16 := df h16
    refine JL_skip rfl ?_
    refine JL_skip rfl ?_
    refine JL_pure (v := .bool (false)) rfl (Pu.pickF rfl rfl) ?_
    refine JL_pure (v := .bool (false)) rfl (Pu.assign rfl) ?_
    refine JL_nil ?_
    first | exact ⟨rfl, rfl, rfl, rfl, rfl, rfl, rfl, rfl⟩ | (exfalso; omega)
  ·rintro ρ17 _ ⟨e18, e19, e20, e21, e22, e23, e24, rfl⟩
   obtain ⟨ρ25, rfl⟩ := reopen_ex (uc e18 (uc e19 (uc e20 (uc e21 (uc e22 (uc e23 (uc e24 un)))))))
   clear e18 e19 e20 e21 e22 e23 e24
   refine J_cond (b := (decide (kj = 0)) && (decide (0 < d))) rfl (fun h26 => ?_) (fun h26 => ?_)
   ·skip
    obtain ⟨h26a, h26b⟩ := andT h26
    replace h26a := dt h26a
    replace h26b := dt h26b
    refine J_seq ?_
    refine J_draw mixed #[0, 1, 3, 7, 0, 31, 63, 127] 5 5 6 rfl (by kernel_rfl) (fun i r27 N27 => match i with | 0 => (r27 0) = .pointer (some ⟨bM, 0, none⟩) | 1 => (r27 1) = .pointer (some ⟨bM, 0, none⟩) | 2 => (r27 2) = .pointer (some ⟨bM, 0, none⟩) | 3 => (r27 3) = .pointer (some ⟨bS, 0, none⟩) | 4 => (r27 4) = .int .i64 (d) | _ => True) ⟨?_, ?_, ?_, ?_, ?_, trivial⟩ ?_
    ·intro ρ r27 N27 B hB hBa hp hr hr0
     have q3 : ρ 3 = .pointer (some ⟨b1, 0, none⟩) := hr0 3 (by kernel_rfl)
     obtain ⟨ρ28, rfl⟩ := reopen_ex (uc q3 un)
     clear q3
     refine JL_run rfl (Pu_load1 ty85 rfl (At.bx 9 (made_old ((hB 4 (by decide)).trans rfl))) rfl ?_)
     refine JL_nil ?_
     exact ⟨.pointer (some ⟨bM, 0, none⟩), [], rfl, (Sub.emp Sub.refl), rfl⟩
    ·intro ρ r27 N27 B hB hBa hp hr hr0
     have q43 : ρ 43 = .pointer (some ⟨bM, 0, none⟩) := (hr 0 _ _ (by decide) rfl rfl rfl).trans (hp 0 (by decide) rfl)
     obtain ⟨ρ29, rfl⟩ := reopen_ex (uc q43 un)
     clear q43
     refine JL_pure (v := .pointer (some ⟨bM, 0, none⟩)) rfl (Pu.nilCheck rfl) ?_
     refine JL_nil ?_
     exact ⟨.pointer (some ⟨bM, 0, none⟩), [], rfl, (Sub.emp Sub.refl), rfl⟩
    ·intro ρ r27 N27 B hB hBa hp hr hr0
     have q44 : ρ 44 = .pointer (some ⟨bM, 0, none⟩) := (hr 1 _ _ (by decide) rfl rfl rfl).trans (hp 1 (by decide) rfl)
     obtain ⟨ρ30, rfl⟩ := reopen_ex (uc q44 un)
     clear q44
     refine JL_pure (v := .pointer (some ⟨bM, 0, none⟩)) rfl (fa87_0 rfl rfl) ?_
     refine JL_nil ?_
     exact ⟨.pointer (some ⟨bM, 0, none⟩), [], rfl, (Sub.emp Sub.refl), rfl⟩
    ·intro ρ r27 N27 B hB hBa hp hr hr0
     have q45 : ρ 45 = .pointer (some ⟨bM, 0, none⟩) := (hr 2 _ _ (by decide) rfl rfl rfl).trans (hp 2 (by decide) rfl)
     obtain ⟨ρ31, rfl⟩ := reopen_ex (uc q45 un)
     clear q45
     refine JL_run rfl (Pu_load1 ty23 rfl (At.bx 10 (made_old ((hB 5 (by decide)).trans rfl))) rfl ?_)
     refine JL_nil ?_
     exact ⟨.pointer (some ⟨bS, 0, none⟩), [], rfl, (Sub.emp Sub.refl), rfl⟩
    ·intro ρ r27 N27 B hB hBa hp hr hr0
     have q4 : ρ 4 = .pointer (some ⟨b2, 0, none⟩) := hr0 4 (by kernel_rfl)
     obtain ⟨ρ32, rfl⟩ := reopen_ex (uc q4 un)
     clear q4
     refine JL_run rfl (Pu_load1 ty3 rfl (At.bx 8 (made_old ((hB 3 (by decide)).trans rfl))) rfl ?_)
     refine JL_nil ?_
     exact ⟨.int .i64 (d), [], rfl, (Sub.emp Sub.refl), rfl⟩
    ·intro ρ r27 N27 hp hr hr0
     have q3 : ρ 3 = .pointer (some ⟨b1, 0, none⟩) := hr0 3 (by kernel_rfl)
     have q6 : ρ 6 = .pointer (some ⟨b4, 0, none⟩) := hr0 6 (by kernel_rfl)
     have q7 : ρ 7 = .func (.func 55) ⟨[]⟩ ⟨[.pointer (some ⟨b1, 0, none⟩), .pointer (some ⟨b2, 0, none⟩), .pointer (some ⟨b3, 0, none⟩)]⟩ := hr0 7 (by kernel_rfl)
     have q46 : ρ 46 = .pointer (some ⟨bS, 0, none⟩) := (hr 3 _ _ (by decide) rfl rfl).trans (hp 3 (by decide))
     have q47 : ρ 47 = .int .i64 (d) := (hr 4 _ _ (by decide) rfl rfl).trans (hp 4 (by decide))
     obtain ⟨ρ33, rfl⟩ := reopen_ex (uc q3 (uc q6 (uc q7 (uc q46 (uc q47 un)))))
     clear q3 q6 q7 q46 q47
     clear hp hr hr0 
     refine JL_sub (M' := [(N27 0), (N27 1), (N27 2), (N27 3), (N27 4), [(bS, .cells ⟨[v, .int .i64 (aj), .int .u64 (sj)]⟩ 45 (0, 0))], [(b4, .cells ⟨pkT (0) (0) (zS) (.slice none 0 0) (.slice none 0 0)⟩ 30 (0, 0))], [(b3, .cells ⟨[.int .i64 (m)]⟩ 3 (0, 0))], [(b2, .cells ⟨[.int .i64 (d)]⟩ 3 (0, 0))], [(b1, .cells ⟨[.pointer (some ⟨bM, 0, none⟩)]⟩ 85 (0, 0))], [(bM, .cells ⟨[.pointer (some ⟨bS, 0, none⟩), .int .i64 (L - 1)]⟩ 87 (0, 0))]]) Sub.refl ?_
     refine JL_sub (M' := [[(bS, .cells ⟨[v, .int .i64 (aj), .int .u64 (sj)]⟩ 45 (0, 0))], [(b4, .cells ⟨pkT (0) (0) (zS) (.slice none 0 0) (.slice none 0 0)⟩ 30 (0, 0))], [(b3, .cells ⟨[.int .i64 (m)]⟩ 3 (0, 0))], [(b2, .cells ⟨[.int .i64 (d)]⟩ 3 (0, 0))], [(b1, .cells ⟨[.pointer (some ⟨bM, 0, none⟩)]⟩ 85 (0, 0))], [(bM, .cells ⟨[.pointer (some ⟨bS, 0, none⟩), .int .i64 (L - 1)]⟩ 87 (0, 0))]]) (Sd (Sd (Sd (Sd (Sd (Sk (Sk (Sk (Sk (Sk (Sk Sub.nil))))))))))) ?_
     show JL _ _ _ [_, _, _] _ _ _
     refine JL_call1 0 rfl Try.call56 rfl rfl (fun hin => less_ct _ _ _ _ _ _ (RBs.mono (Hle.hu _ _) hv) (by omega) (by omega) _) rfl ?_
     rintro _ _ ⟨n34, a34, s34, rfl, rfl, hn34, ha34⟩
     refine JL_call rfl Try.call33 rfl (fun hin => va_ct _ _ (by unfold inI; omega)) rfl ?_
     rintro _ _ ⟨cs35, k35, rfl, rfl, hO35⟩
     refine JL_run rfl (Runs_storeB 2 (vs := cs35) (l := cs35) ty30 rfl rfl rfl rfl hO35.len hO35.ok (spl_a (n := 36) rfl hO35.len) ?_)
     refine JL_nil ?_
     refine J_ret ?_
     refine ⟨.agg ⟨cs35⟩, [([(bM, .cells ⟨[.pointer (some ⟨bS, 0, none⟩), .int .i64 (L - 1)]⟩ 87 (0, 0))]) ++ ([(bS, .cells ⟨[v, .int .i64 (a34), .int .u64 (s34)]⟩ 45 (0, 0))]), k35], Ret.one rfl (RV.cell ty30 rfl (At.bx 2 rfl) (sub_a hO35.len)), (Sub.join (Sub.cons 6 rfl (Sub.cons 1 rfl (Sk Sub.nil)))), ?_⟩
     exact ⟨eVa (n34), _, _, _, _, _, rfl, rfl, hO35, ⟨nErr_var (by omega) (by omega), by simp only [eVa, eNu, sizeT, sizeTs, sizeCs]; omega⟩, by omega, by omega⟩
   ·skip
    refine J_cut (fun ρ M => ρ 3 = .pointer (some ⟨b1, 0, none⟩) ∧ ρ 5 = .pointer (some ⟨b3, 0, none⟩) ∧ ρ 6 = .pointer (some ⟨b4, 0, none⟩) ∧ ρ 7 = .func (.func 55) ⟨[]⟩ ⟨[.pointer (some ⟨b1, 0, none⟩), .pointer (some ⟨b2, 0, none⟩), .pointer (some ⟨b3, 0, none⟩)]⟩ ∧ ρ 8 = .int .i64 (kj) ∧ ρ 50 = .bool ((decide (kj = 1)) && (decide (0 < m))) ∧ M = [[(bS, .cells ⟨[v, .int .i64 (aj), .int .u64 (sj)]⟩ 45 (0, 0))], [(b4, .cells ⟨pkT (0) (0) (zS) (.slice none 0 0) (.slice none 0 0)⟩ 30 (0, 0))], [(b3, .cells ⟨[.int .i64 (m)]⟩ 3 (0, 0))], [(b2, .cells ⟨[.int .i64 (d)]⟩ 3 (0, 0))], [(b1, .cells ⟨[.pointer (some ⟨bM, 0, none⟩)]⟩ 85 (0, 0))], [(bM, .cells ⟨[.pointer (some ⟨bS, 0, none⟩), .int .i64 (L - 1)]⟩ 87 (0, 0))]]) ?_ ?_
    ·refine J_region ?_
     refine JL_pure (v := .int .i64 (kj)) rfl (Pu.move rfl) ?_
     refine JL_pure (v := .bool (decide (kj = 1))) rfl (Pu.eql rfl rfl) ?_
     refine JL_pure (v := .bool (decide (kj = 1))) rfl (Pu.move rfl) ?_
     cases h36 : (decide (kj = 1)) with
     | true =>
      replace h36 := dt h36
      refine JL_run rfl (Pu_load1 ty3 rfl (At.bx 2 rfl) rfl ?_)
      refine JL_pure (v := .bool (decide (0 < m))) rfl (Pu.gtr rfl rfl) ?_
      refine JL_pure (v := .bool (decide (0 < m))) rfl (Pu.pickT rfl rfl) ?_
      refine JL_pure (v := .bool (decide (0 < m))) rfl (Pu.assign rfl) ?_
      refine JL_nil ?_
      first | exact ⟨rfl, rfl, rfl, rfl, rfl, rfl, rfl⟩ | (exfalso; omega)
     | false =>
      replace h36 := df h36
      refine JL_skip rfl ?_
      refine JL_skip rfl ?_
      refine JL_pure (v := .bool (false)) rfl (Pu.pickF rfl rfl) ?_
      refine JL_pure (v := .bool (false)) rfl (Pu.assign rfl) ?_
      refine JL_nil ?_
      first | exact ⟨rfl, rfl, rfl, rfl, rfl, rfl, rfl⟩ | (exfalso; omega)
    ·rintro ρ37 _ ⟨e38, e39, e40, e41, e42, e43, rfl⟩
     obtain ⟨ρ44, rfl⟩ := reopen_ex (uc e38 (uc e39 (uc e40 (uc e41 (uc e42 (uc e43 un))))))
     clear e38 e39 e40 e41 e42 e43
     refine J_cond (b := (decide (kj = 1)) && (decide (0 < m))) rfl (fun h45 => ?_) (fun h45 => ?_)
     ·skip
      obtain ⟨h45a, h45b⟩ := andT h45
      replace h45a := dt h45a
      replace h45b := dt h45b
      refine J_seq ?_
      refine J_draw mixed #[0, 1, 3, 7, 0, 31, 63, 127] 5 5 6 rfl (by kernel_rfl) (fun i r46 N46 => match i with | 0 => (r46 0) = .pointer (some ⟨bM, 0, none⟩) | 1 => (r46 1) = .pointer (some ⟨bM, 0, none⟩) | 2 => (r46 2) = .pointer (some ⟨bM, 0, none⟩) | 3 => (r46 3) = .pointer (some ⟨bS, 0, none⟩) | 4 => (r46 4) = .int .i64 (m) | _ => True) ⟨?_, ?_, ?_, ?_, ?_, trivial⟩ ?_
      ·intro ρ r46 N46 B hB hBa hp hr hr0
       have q3 : ρ 3 = .pointer (some ⟨b1, 0, none⟩) := hr0 3 (by kernel_rfl)
       obtain ⟨ρ47, rfl⟩ := reopen_ex (uc q3 un)
       clear q3
       refine JL_run rfl (Pu_load1 ty85 rfl (At.bx 9 (made_old ((hB 4 (by decide)).trans rfl))) rfl ?_)
       refine JL_nil ?_
       exact ⟨.pointer (some ⟨bM, 0, none⟩), [], rfl, (Sub.emp Sub.refl), rfl⟩
      ·intro ρ r46 N46 B hB hBa hp hr hr0
       have q57 : ρ 57 = .pointer (some ⟨bM, 0, none⟩) := (hr 0 _ _ (by decide) rfl rfl rfl).trans (hp 0 (by decide) rfl)
       obtain ⟨ρ48, rfl⟩ := reopen_ex (uc q57 un)
       clear q57
       refine JL_pure (v := .pointer (some ⟨bM, 0, none⟩)) rfl (Pu.nilCheck rfl) ?_
       refine JL_nil ?_
       exact ⟨.pointer (some ⟨bM, 0, none⟩), [], rfl, (Sub.emp Sub.refl), rfl⟩
      ·intro ρ r46 N46 B hB hBa hp hr hr0
       have q58 : ρ 58 = .pointer (some ⟨bM, 0, none⟩) := (hr 1 _ _ (by decide) rfl rfl rfl).trans (hp 1 (by decide) rfl)
       obtain ⟨ρ49, rfl⟩ := reopen_ex (uc q58 un)
       clear q58
       refine JL_pure (v := .pointer (some ⟨bM, 0, none⟩)) rfl (fa87_0 rfl rfl) ?_
       refine JL_nil ?_
       exact ⟨.pointer (some ⟨bM, 0, none⟩), [], rfl, (Sub.emp Sub.refl), rfl⟩
      ·intro ρ r46 N46 B hB hBa hp hr hr0
       have q59 : ρ 59 = .pointer (some ⟨bM, 0, none⟩) := (hr 2 _ _ (by decide) rfl rfl rfl).trans (hp 2 (by decide) rfl)
       obtain ⟨ρ50, rfl⟩ := reopen_ex (uc q59 un)
       clear q59
       refine JL_run rfl (Pu_load1 ty23 rfl (At.bx 10 (made_old ((hB 5 (by decide)).trans rfl))) rfl ?_)
       refine JL_nil ?_
       exact ⟨.pointer (some ⟨bS, 0, none⟩), [], rfl, (Sub.emp Sub.refl), rfl⟩
      ·intro ρ r46 N46 B hB hBa hp hr hr0
       have q5 : ρ 5 = .pointer (some ⟨b3, 0, none⟩) := hr0 5 (by kernel_rfl)
       obtain ⟨ρ51, rfl⟩ := reopen_ex (uc q5 un)
       clear q5
       refine JL_run rfl (Pu_load1 ty3 rfl (At.bx 7 (made_old ((hB 2 (by decide)).trans rfl))) rfl ?_)
       refine JL_nil ?_
       exact ⟨.int .i64 (m), [], rfl, (Sub.emp Sub.refl), rfl⟩
      ·intro ρ r46 N46 hp hr hr0
       have q3 : ρ 3 = .pointer (some ⟨b1, 0, none⟩) := hr0 3 (by kernel_rfl)
       have q6 : ρ 6 = .pointer (some ⟨b4, 0, none⟩) := hr0 6 (by kernel_rfl)
       have q7 : ρ 7 = .func (.func 55) ⟨[]⟩ ⟨[.pointer (some ⟨b1, 0, none⟩), .pointer (some ⟨b2, 0, none⟩), .pointer (some ⟨b3, 0, none⟩)]⟩ := hr0 7 (by kernel_rfl)
       have q60 : ρ 60 = .pointer (some ⟨bS, 0, none⟩) := (hr 3 _ _ (by decide) rfl rfl).trans (hp 3 (by decide))
       have q61 : ρ 61 = .int .i64 (m) := (hr 4 _ _ (by decide) rfl rfl).trans (hp 4 (by decide))
       obtain ⟨ρ52, rfl⟩ := reopen_ex (uc q3 (uc q6 (uc q7 (uc q60 (uc q61 un)))))
       clear q3 q6 q7 q60 q61
       clear hp hr hr0 
       refine JL_sub (M' := [(N46 0), (N46 1), (N46 2), (N46 3), (N46 4), [(bS, .cells ⟨[v, .int .i64 (aj), .int .u64 (sj)]⟩ 45 (0, 0))], [(b4, .cells ⟨pkT (0) (0) (zS) (.slice none 0 0) (.slice none 0 0)⟩ 30 (0, 0))], [(b3, .cells ⟨[.int .i64 (m)]⟩ 3 (0, 0))], [(b2, .cells ⟨[.int .i64 (d)]⟩ 3 (0, 0))], [(b1, .cells ⟨[.pointer (some ⟨bM, 0, none⟩)]⟩ 85 (0, 0))], [(bM, .cells ⟨[.pointer (some ⟨bS, 0, none⟩), .int .i64 (L - 1)]⟩ 87 (0, 0))]]) Sub.refl ?_
       refine JL_sub (M' := [[(bS, .cells ⟨[v, .int .i64 (aj), .int .u64 (sj)]⟩ 45 (0, 0))], [(b4, .cells ⟨pkT (0) (0) (zS) (.slice none 0 0) (.slice none 0 0)⟩ 30 (0, 0))], [(b3, .cells ⟨[.int .i64 (m)]⟩ 3 (0, 0))], [(b2, .cells ⟨[.int .i64 (d)]⟩ 3 (0, 0))], [(b1, .cells ⟨[.pointer (some ⟨bM, 0, none⟩)]⟩ 85 (0, 0))], [(bM, .cells ⟨[.pointer (some ⟨bS, 0, none⟩), .int .i64 (L - 1)]⟩ 87 (0, 0))]]) (Sd (Sd (Sd (Sd (Sd (Sk (Sk (Sk (Sk (Sk (Sk Sub.nil))))))))))) ?_
       show JL _ _ _ [_, _, _] _ _ _
       refine JL_call1 0 rfl Try.call56 rfl rfl (fun hin => less_ct _ _ _ _ _ _ (RBs.mono (Hle.hu _ _) hv) (by omega) (by omega) _) rfl ?_
       rintro _ _ ⟨n53, a53, s53, rfl, rfl, hn53, ha53⟩
       refine JL_call rfl Try.call57 rfl (fun hin => se_ct _ _) rfl ?_
       rintro _ _ ⟨rfl, rfl⟩
       refine JL_run rfl (Runs_storeB 1 (vs := pkT (7) (n53) (zS) (.slice none 0 0) (.slice none 0 0)) (l := pkT (7) (n53) (zS) (.slice none 0 0) (.slice none 0 0)) ty30 rfl rfl rfl rfl rfl (pkT_ok rfl rfl) (pkT_s ..) ?_)
       refine JL_nil ?_
       refine J_ret ?_
       refine ⟨.agg ⟨pkT (7) (n53) (zS) (.slice none 0 0) (.slice none 0 0)⟩, [([(bM, .cells ⟨[.pointer (some ⟨bS, 0, none⟩), .int .i64 (L - 1)]⟩ 87 (0, 0))]) ++ ([(bS, .cells ⟨[v, .int .i64 (a53), .int .u64 (s53)]⟩ 45 (0, 0))]), []], Ret.one rfl (RV.cell ty30 rfl (At.bx 1 rfl) (pkT_a ..)), (Sub.join (Sub.cons 5 rfl (Sk (Sub.emp Sub.nil)))), ?_⟩
       exact ⟨.mk 7 (n53) zS [] [], _, _, _, _, _, rfl, rfl, OT_leaf (by unfold inI; omega) (by unfold inI; omega), ⟨nErr_self (by omega) (by omega), by simp only [eVa, eNu, sizeT, sizeTs, sizeCs]; omega⟩, by omega, by omega⟩
     ·skip
      refine J_seq ?_
      refine J_region ?_
      refine JL_pure (v := .int .i64 (kj)) rfl (Pu.move rfl) ?_
      refine JL_pure (v := .bool (decide (kj = 2))) rfl (Pu.eql rfl rfl) ?_
      refine JL_pure (v := .bool (decide (kj = 2))) rfl (Pu.assign rfl) ?_
      refine JL_nil ?_
      refine J_cond (b := decide (kj = 2)) rfl (fun h54 => ?_) (fun h54 => ?_)
      ·skip
       replace h54 := dt h54
       refine J_seq ?_
       refine J_region ?_
       refine JL_run rfl (Pu_load1 ty85 rfl (At.bx 4 rfl) rfl ?_)
       refine JL_pure (v := .pointer (some ⟨bM, 0, none⟩)) rfl (Pu.nilCheck rfl) ?_
       refine JL_pure (v := .pointer (some ⟨bM, 0, none⟩)) rfl (fa87_0 rfl rfl) ?_
       refine JL_run rfl (Pu_load1 ty23 rfl (At.bx 5 rfl) rfl ?_)
       refine JL_call1 0 rfl Try.call59 rfl rfl (fun hin => sum_ct _ _ _ _ _ _ (RBs.mono (Hle.hu _ _) hv) (by omega) (by omega) _ _ (by omega) (by omega) (by omega)) rfl ?_
       rintro _ _ ⟨n55, a55, s55, rfl, rfl, ha55⟩
       refine JL_call rfl Try.call58 rfl (fun hin => de_ct _ _) rfl ?_
       rintro _ _ ⟨rfl, rfl⟩
       refine JL_run rfl (Runs_storeB 1 (vs := pkT (6) (0) (n55) (.slice none 0 0) (.slice none 0 0)) (l := pkT (6) (0) (n55) (.slice none 0 0) (.slice none 0 0)) ty30 rfl rfl rfl rfl rfl (pkT_ok rfl rfl) (pkT_s ..) ?_)
       refine JL_nil ?_
       refine J_ret ?_
       refine ⟨.agg ⟨pkT (6) (0) (n55) (.slice none 0 0) (.slice none 0 0)⟩, [([(bM, .cells ⟨[.pointer (some ⟨bS, 0, none⟩), .int .i64 (L - 1)]⟩ 87 (0, 0))]) ++ ([(bS, .cells ⟨[v, .int .i64 (a55), .int .u64 (s55)]⟩ 45 (0, 0))]), []], Ret.one rfl (RV.cell ty30 rfl (At.bx 1 rfl) (pkT_a ..)), (Sub.join (Sub.cons 5 rfl (Sk (Sub.emp Sub.nil)))), ?_⟩
       exact ⟨.mk 6 0 (n55) [] [], _, _, _, _, _, rfl, rfl, OT_leaf (by unfold inI; omega) (by unfold inI; omega), ⟨nErr_def, by simp only [eVa, eNu, sizeT, sizeTs, sizeCs]; omega⟩, by omega, by omega⟩
      ·skip
       replace h54 := df h54
       refine J_seq ?_
       refine J_region ?_
       refine JL_pure (v := .int .i64 (kj)) rfl (Pu.move rfl) ?_
       refine JL_pure (v := .bool (decide (kj < 4))) rfl (Pu.lss rfl rfl) ?_
       refine JL_pure (v := .bool (decide (kj < 4))) rfl (Pu.assign rfl) ?_
       refine JL_nil ?_
       refine J_cond (b := decide (kj < 4)) rfl (fun h56 => ?_) (fun h56 => ?_)
       ·skip
        replace h56 := dt h56
        refine J_seq ?_
        refine J_region ?_
        refine JL_run rfl (Pu_load1 ty85 rfl (At.bx 4 rfl) rfl ?_)
        refine JL_pure (v := .pointer (some ⟨bM, 0, none⟩)) rfl (Pu.nilCheck rfl) ?_
        refine JL_pure (v := .pointer (some ⟨bM, 0, none⟩)) rfl (fa87_0 rfl rfl) ?_
        refine JL_run rfl (Pu_load1 ty23 rfl (At.bx 5 rfl) rfl ?_)
        refine JL_call1 0 rfl Try.call56 rfl rfl (fun hin => less_ct _ _ _ _ _ _ (RBs.mono (Hle.hu _ _) hv) (by omega) (by omega) _) rfl ?_
        rintro _ _ ⟨n57, a57, s57, rfl, rfl, hn57, ha57⟩
        refine JL_call rfl Try.call15 rfl (fun hin => nu_ct _ _ (by unfold inI; omega)) rfl ?_
        rintro _ _ ⟨cs58, k58, rfl, rfl, hO58⟩
        refine JL_run rfl (Runs_storeB 2 (vs := cs58) (l := cs58) ty30 rfl rfl rfl rfl hO58.len hO58.ok (spl_a (n := 36) rfl hO58.len) ?_)
        refine JL_nil ?_
        refine J_ret ?_
        refine ⟨.agg ⟨cs58⟩, [([(bM, .cells ⟨[.pointer (some ⟨bS, 0, none⟩), .int .i64 (L - 1)]⟩ 87 (0, 0))]) ++ ([(bS, .cells ⟨[v, .int .i64 (a57), .int .u64 (s57)]⟩ 45 (0, 0))]), k58], Ret.one rfl (RV.cell ty30 rfl (At.bx 2 rfl) (sub_a hO58.len)), (Sub.join (Sub.cons 6 rfl (Sub.cons 1 rfl (Sk Sub.nil)))), ?_⟩
        exact ⟨eNu (n57), _, _, _, _, _, rfl, rfl, hO58, ⟨nErr_nat (by omega) (by omega), by simp only [eVa, eNu, sizeT, sizeTs, sizeCs]; omega⟩, by omega, by omega⟩
       ·skip
        replace h56 := df h56
        refine J_seq ?_
        refine J_region ?_
        refine JL_pure (v := .int .i64 (kj)) rfl (Pu.move rfl) ?_
        refine JL_pure (v := .bool (decide (kj = 4))) rfl (Pu.eql rfl rfl) ?_
        refine JL_pure (v := .bool (decide (kj = 4))) rfl (Pu.assign rfl) ?_
        refine JL_nil ?_
        refine J_cond (b := decide (kj = 4)) rfl (fun h59 => ?_) (fun h59 => ?_)
        ·skip
         replace h59 := dt h59
         refine J_seq ?_
         refine J_region ?_
         refine JL_pure (v := .func (.func 55) ⟨[]⟩ ⟨[.pointer (some ⟨b1, 0, none⟩), .pointer (some ⟨b2, 0, none⟩), .pointer (some ⟨b3, 0, none⟩)]⟩) rfl (Pu.move rfl) ?_
         refine JL_sub (M' := [([(bM, .cells ⟨[.pointer (some ⟨bS, 0, none⟩), .int .i64 (L - 1)]⟩ 87 (0, 0))]) ++ ([(bS, .cells ⟨[v, .int .i64 (aj), .int .u64 (sj)]⟩ 45 (0, 0))]), [(b4, .cells ⟨pkT (0) (0) (zS) (.slice none 0 0) (.slice none 0 0)⟩ 30 (0, 0))], [(b3, .cells ⟨[.int .i64 (m)]⟩ 3 (0, 0))], [(b2, .cells ⟨[.int .i64 (d)]⟩ 3 (0, 0))], [(b1, .cells ⟨[.pointer (some ⟨bM, 0, none⟩)]⟩ 85 (0, 0))]]) (Sub.join (Sub.cons 5 rfl (Sk (Sk (Sk (Sk (Sk Sub.nil))))))) ?_
         refine JL_call1 0 rfl Try.call55 rfl rfl (fun hin => one_ct _ _ _ _ _ _ _ _ _ _ _ _ _ _ (RBs.mono (Hle.hu _ _) hv) (hin 3 _ rfl _ _ List.mem_cons_self) (hin 2 _ rfl _ _ List.mem_cons_self) (hin 1 _ rfl _ _ List.mem_cons_self) (by omega) (by omega) (by omega) (by omega) (fun h hh => ih _ (by omega) _ _ _ _ _ _ _ _ _ _ rfl (RBs.mono hh (RBs.mono (Hle.hu _ _) hv)) (by omega) (by omega) (by omega) (by omega) (by omega) (by omega) (by omega) (by omega))) rfl ?_
         rintro _ _ ⟨t60, cs60, k60, l60, a60, s60, rfl, rfl, hO60, ⟨hn60, hz60⟩, hl60, ha60⟩
         refine JL_sub (M' := [[(bM, .cells ⟨[.pointer (some ⟨bS, 0, none⟩), .int .i64 (l60)]⟩ 87 (0, 0))], [(bS, .cells ⟨[v, .int .i64 (a60), .int .u64 (s60)]⟩ 45 (0, 0))], k60, [(b4, .cells ⟨pkT (0) (0) (zS) (.slice none 0 0) (.slice none 0 0)⟩ 30 (0, 0))], [(b3, .cells ⟨[.int .i64 (m)]⟩ 3 (0, 0))], [(b2, .cells ⟨[.int .i64 (d)]⟩ 3 (0, 0))], [(b1, .cells ⟨[.pointer (some ⟨bM, 0, none⟩)]⟩ 85 (0, 0))]]) (Sub.flat Sub.refl (by simp)) ?_
         refine JL_call rfl Try.call31 rfl (fun hin => laD_ct _ hO60.len hO60.ok _) rfl ?_
         rintro _ _ ⟨sv61, k61, rfl, rfl, ho61⟩
         refine JL_run rfl (Runs_storeB 4 (vs := pkT (3) (0) (zS) (sv61) (.slice none 0 0)) (l := pkT (3) (0) (zS) (sv61) (.slice none 0 0)) ty30 rfl rfl rfl rfl rfl (pkT_ok ho61.one rfl) (pkT_s ..) ?_)
         refine JL_nil ?_
         refine J_ret ?_
         refine ⟨.agg ⟨pkT (3) (0) (zS) (sv61) (.slice none 0 0)⟩, [([(bM, .cells ⟨[.pointer (some ⟨bS, 0, none⟩), .int .i64 (l60)]⟩ 87 (0, 0))]) ++ ([(bS, .cells ⟨[v, .int .i64 (a60), .int .u64 (s60)]⟩ 45 (0, 0))]), (k61) ++ (k60)], Ret.one rfl (RV.cell ty30 rfl (At.bx 4 rfl) (pkT_a ..)), (Sub.join (Sub.cons 1 rfl (Sub.cons 1 rfl (Sub.join (Sk (Sk Sub.nil)))))), ?_⟩
         exact ⟨.mk 3 (0) (zS) [t60] [], _, _, _, _, _, rfl, rfl, OT_row (by unfold inI; omega) (by unfold inI; omega) ho61 (OTs1 hO60) (by simp), ⟨nErr_lam hn60, by simp only [eVa, eNu, sizeT, sizeTs, sizeCs]; omega⟩, by omega, by omega⟩
        ·skip
         replace h59 := df h59
         refine J_seq ?_
         refine J_seq ?_
         refine J_region ?_
         refine JL_pure (v := .int .i64 (kj)) rfl (Pu.move rfl) ?_
         refine JL_pure (v := .bool (decide (kj = 5))) rfl (Pu.eql rfl rfl) ?_
         refine JL_pure (v := .bool (decide (kj = 5))) rfl (Pu.assign rfl) ?_
         refine JL_nil ?_
         refine J_cond (b := decide (kj = 5)) rfl (fun h62 => ?_) (fun h62 => ?_)
         ·skip
          replace h62 := dt h62
          refine J_skip ?_
          refine J_cond (b := decide (kj = 5)) rfl (fun _ => ?_) (fun h63 => absurd h62 (df h63))
          refine J_seq ?_
          refine J_region ?_
          refine JL_pure (v := .func (.func 55) ⟨[]⟩ ⟨[.pointer (some ⟨b1, 0, none⟩), .pointer (some ⟨b2, 0, none⟩), .pointer (some ⟨b3, 0, none⟩)]⟩) rfl (Pu.move rfl) ?_
          refine JL_sub (M' := [([(bM, .cells ⟨[.pointer (some ⟨bS, 0, none⟩), .int .i64 (L - 1)]⟩ 87 (0, 0))]) ++ ([(bS, .cells ⟨[v, .int .i64 (aj), .int .u64 (sj)]⟩ 45 (0, 0))]), [(b4, .cells ⟨pkT (0) (0) (zS) (.slice none 0 0) (.slice none 0 0)⟩ 30 (0, 0))], [(b3, .cells ⟨[.int .i64 (m)]⟩ 3 (0, 0))], [(b2, .cells ⟨[.int .i64 (d)]⟩ 3 (0, 0))], [(b1, .cells ⟨[.pointer (some ⟨bM, 0, none⟩)]⟩ 85 (0, 0))]]) (Sub.join (Sub.cons 5 rfl (Sk (Sk (Sk (Sk (Sk Sub.nil))))))) ?_
          refine JL_call1 0 rfl Try.call55 rfl rfl (fun hin => one_ct _ _ _ _ _ _ _ _ _ _ _ _ _ _ (RBs.mono (Hle.hu _ _) hv) (hin 3 _ rfl _ _ List.mem_cons_self) (hin 2 _ rfl _ _ List.mem_cons_self) (hin 1 _ rfl _ _ List.mem_cons_self) (by omega) (by omega) (by omega) (by omega) (fun h hh => ih _ (by omega) _ _ _ _ _ _ _ _ _ _ rfl (RBs.mono hh (RBs.mono (Hle.hu _ _) hv)) (by omega) (by omega) (by omega) (by omega) (by omega) (by omega) (by omega) (by omega))) rfl ?_
          rintro _ _ ⟨t64, cs64, k64, l64, a64, s64, rfl, rfl, hO64, ⟨hn64, hz64⟩, hl64, ha64⟩
          refine JL_sub (M' := [[(bM, .cells ⟨[.pointer (some ⟨bS, 0, none⟩), .int .i64 (l64)]⟩ 87 (0, 0))], [(bS, .cells ⟨[v, .int .i64 (a64), .int .u64 (s64)]⟩ 45 (0, 0))], k64, [(b4, .cells ⟨pkT (0) (0) (zS) (.slice none 0 0) (.slice none 0 0)⟩ 30 (0, 0))], [(b3, .cells ⟨[.int .i64 (m)]⟩ 3 (0, 0))], [(b2, .cells ⟨[.int .i64 (d)]⟩ 3 (0, 0))], [(b1, .cells ⟨[.pointer (some ⟨bM, 0, none⟩)]⟩ 85 (0, 0))]]) (Sub.flat Sub.refl (by simp)) ?_
          refine JL_pure (v := .func (.func 55) ⟨[]⟩ ⟨[.pointer (some ⟨b1, 0, none⟩), .pointer (some ⟨b2, 0, none⟩), .pointer (some ⟨b3, 0, none⟩)]⟩) rfl (Pu.move rfl) ?_
          refine JL_sub (M' := [([(bM, .cells ⟨[.pointer (some ⟨bS, 0, none⟩), .int .i64 (l64)]⟩ 87 (0, 0))]) ++ ([(bS, .cells ⟨[v, .int .i64 (a64), .int .u64 (s64)]⟩ 45 (0, 0))]), k64, [(b4, .cells ⟨pkT (0) (0) (zS) (.slice none 0 0) (.slice none 0 0)⟩ 30 (0, 0))], [(b3, .cells ⟨[.int .i64 (m)]⟩ 3 (0, 0))], [(b2, .cells ⟨[.int .i64 (d)]⟩ 3 (0, 0))], [(b1, .cells ⟨[.pointer (some ⟨bM, 0, none⟩)]⟩ 85 (0, 0))]]) (Sub.join (Sk (Sk (Sk (Sk (Sk (Sk (Sk Sub.nil)))))))) ?_
          refine JL_call1 0 rfl Try.call55 rfl rfl (fun hin => one_ct _ _ _ _ _ _ _ _ _ _ _ _ _ _ (RBs.mono (Hle.hu _ _) hv) (hin 4 _ rfl _ _ List.mem_cons_self) (hin 3 _ rfl _ _ List.mem_cons_self) (hin 2 _ rfl _ _ List.mem_cons_self) (by omega) (by omega) (by omega) (by omega) (fun h hh => ih _ (by omega) _ _ _ _ _ _ _ _ _ _ rfl (RBs.mono hh (RBs.mono (Hle.hu _ _) hv)) (by omega) (by omega) (by omega) (by omega) (by omega) (by omega) (by omega) (by omega))) rfl ?_
          rintro _ _ ⟨t65, cs65, k65, l65, a65, s65, rfl, rfl, hO65, ⟨hn65, hz65⟩, hl65, ha65⟩
          refine JL_sub (M' := [[(bM, .cells ⟨[.pointer (some ⟨bS, 0, none⟩), .int .i64 (l65)]⟩ 87 (0, 0))], [(bS, .cells ⟨[v, .int .i64 (a65), .int .u64 (s65)]⟩ 45 (0, 0))], k65, k64, [(b4, .cells ⟨pkT (0) (0) (zS) (.slice none 0 0) (.slice none 0 0)⟩ 30 (0, 0))], [(b3, .cells ⟨[.int .i64 (m)]⟩ 3 (0, 0))], [(b2, .cells ⟨[.int .i64 (d)]⟩ 3 (0, 0))], [(b1, .cells ⟨[.pointer (some ⟨bM, 0, none⟩)]⟩ 85 (0, 0))]]) (Sub.flat Sub.refl (by simp)) ?_
          refine JL_call rfl Try.call32 rfl (fun hin => apD_ct _ hO64.len hO64.ok _ hO65.len hO65.ok _) rfl ?_
          rintro _ _ ⟨sv66, k66, rfl, rfl, ho66⟩
          refine JL_run rfl (Runs_storeB 5 (vs := pkT (4) (0) (zS) (sv66) (.slice none 0 0)) (l := pkT (4) (0) (zS) (sv66) (.slice none 0 0)) ty30 rfl rfl rfl rfl rfl (pkT_ok ho66.one rfl) (pkT_s ..) ?_)
          refine JL_nil ?_
          refine J_ret ?_
          refine ⟨.agg ⟨pkT (4) (0) (zS) (sv66) (.slice none 0 0)⟩, [([(bM, .cells ⟨[.pointer (some ⟨bS, 0, none⟩), .int .i64 (l65)]⟩ 87 (0, 0))]) ++ ([(bS, .cells ⟨[v, .int .i64 (a65), .int .u64 (s65)]⟩ 45 (0, 0))]), (k66) ++ ((k64) ++ (k65))], Ret.one rfl (RV.cell ty30 rfl (At.bx 5 rfl) (pkT_a ..)), (Sub.join (Sub.cons 1 rfl (Sub.cons 1 rfl (Sub.join3 (Sk (Sub.cons 1 rfl (Sk Sub.nil))))))), ?_⟩
          exact ⟨.mk 4 (0) (zS) [t64, t65] [], _, _, _, _, _, rfl, rfl, OT_row (by unfold inI; omega) (by unfold inI; omega) ho66 (OTs2 hO64 hO65) (by simp), ⟨nErr_app (by simpa using hn64) (by simpa using hn65), by simp only [eVa, eNu, sizeT, sizeTs, sizeCs]; omega⟩, by omega, by omega⟩
         ·skip
          replace h62 := df h62
          refine J_region ?_
          refine JL_pure (v := .int .i64 (kj)) rfl (Pu.move rfl) ?_
          refine JL_pure (v := .bool (decide (kj = 6))) rfl (Pu.eql rfl rfl) ?_
          refine JL_pure (v := .bool (decide (kj = 6))) rfl (Pu.assign rfl) ?_
          refine JL_nil ?_
          refine J_cond (b := decide (kj = 6)) rfl (fun h67 => ?_) (fun h67 => ?_)
          ·skip
           replace h67 := dt h67
           refine J_seq ?_
           refine J_region ?_
           refine JL_pure (v := .func (.func 55) ⟨[]⟩ ⟨[.pointer (some ⟨b1, 0, none⟩), .pointer (some ⟨b2, 0, none⟩), .pointer (some ⟨b3, 0, none⟩)]⟩) rfl (Pu.move rfl) ?_
           refine JL_sub (M' := [([(bM, .cells ⟨[.pointer (some ⟨bS, 0, none⟩), .int .i64 (L - 1)]⟩ 87 (0, 0))]) ++ ([(bS, .cells ⟨[v, .int .i64 (aj), .int .u64 (sj)]⟩ 45 (0, 0))]), [(b4, .cells ⟨pkT (0) (0) (zS) (.slice none 0 0) (.slice none 0 0)⟩ 30 (0, 0))], [(b3, .cells ⟨[.int .i64 (m)]⟩ 3 (0, 0))], [(b2, .cells ⟨[.int .i64 (d)]⟩ 3 (0, 0))], [(b1, .cells ⟨[.pointer (some ⟨bM, 0, none⟩)]⟩ 85 (0, 0))]]) (Sub.join (Sub.cons 5 rfl (Sk (Sk (Sk (Sk (Sk Sub.nil))))))) ?_
           refine JL_call1 0 rfl Try.call55 rfl rfl (fun hin => one_ct _ _ _ _ _ _ _ _ _ _ _ _ _ _ (RBs.mono (Hle.hu _ _) hv) (hin 3 _ rfl _ _ List.mem_cons_self) (hin 2 _ rfl _ _ List.mem_cons_self) (hin 1 _ rfl _ _ List.mem_cons_self) (by omega) (by omega) (by omega) (by omega) (fun h hh => ih _ (by omega) _ _ _ _ _ _ _ _ _ _ rfl (RBs.mono hh (RBs.mono (Hle.hu _ _) hv)) (by omega) (by omega) (by omega) (by omega) (by omega) (by omega) (by omega) (by omega))) rfl ?_
           rintro _ _ ⟨t68, cs68, k68, l68, a68, s68, rfl, rfl, hO68, ⟨hn68, hz68⟩, hl68, ha68⟩
           refine JL_sub (M' := [[(bM, .cells ⟨[.pointer (some ⟨bS, 0, none⟩), .int .i64 (l68)]⟩ 87 (0, 0))], [(bS, .cells ⟨[v, .int .i64 (a68), .int .u64 (s68)]⟩ 45 (0, 0))], k68, [(b4, .cells ⟨pkT (0) (0) (zS) (.slice none 0 0) (.slice none 0 0)⟩ 30 (0, 0))], [(b3, .cells ⟨[.int .i64 (m)]⟩ 3 (0, 0))], [(b2, .cells ⟨[.int .i64 (d)]⟩ 3 (0, 0))], [(b1, .cells ⟨[.pointer (some ⟨bM, 0, none⟩)]⟩ 85 (0, 0))]]) (Sub.flat Sub.refl (by simp)) ?_
           refine JL_pure (v := .func (.func 55) ⟨[]⟩ ⟨[.pointer (some ⟨b1, 0, none⟩), .pointer (some ⟨b2, 0, none⟩), .pointer (some ⟨b3, 0, none⟩)]⟩) rfl (Pu.move rfl) ?_
           refine JL_sub (M' := [([(bM, .cells ⟨[.pointer (some ⟨bS, 0, none⟩), .int .i64 (l68)]⟩ 87 (0, 0))]) ++ ([(bS, .cells ⟨[v, .int .i64 (a68), .int .u64 (s68)]⟩ 45 (0, 0))]), k68, [(b4, .cells ⟨pkT (0) (0) (zS) (.slice none 0 0) (.slice none 0 0)⟩ 30 (0, 0))], [(b3, .cells ⟨[.int .i64 (m)]⟩ 3 (0, 0))], [(b2, .cells ⟨[.int .i64 (d)]⟩ 3 (0, 0))], [(b1, .cells ⟨[.pointer (some ⟨bM, 0, none⟩)]⟩ 85 (0, 0))]]) (Sub.join (Sk (Sk (Sk (Sk (Sk (Sk (Sk Sub.nil)))))))) ?_
           refine JL_call1 0 rfl Try.call55 rfl rfl (fun hin => one_ct _ _ _ _ _ _ _ _ _ _ _ _ _ _ (RBs.mono (Hle.hu _ _) hv) (hin 4 _ rfl _ _ List.mem_cons_self) (hin 3 _ rfl _ _ List.mem_cons_self) (hin 2 _ rfl _ _ List.mem_cons_self) (by omega) (by omega) (by omega) (by omega) (fun h hh => ih _ (by omega) _ _ _ _ _ _ _ _ _ _ rfl (RBs.mono hh (RBs.mono (Hle.hu _ _) hv)) (by omega) (by omega) (by omega) (by omega) (by omega) (by omega) (by omega) (by omega))) rfl ?_
           rintro _ _ ⟨t69, cs69, k69, l69, a69, s69, rfl, rfl, hO69, ⟨hn69, hz69⟩, hl69, ha69⟩
           refine JL_sub (M' := [[(bM, .cells ⟨[.pointer (some ⟨bS, 0, none⟩), .int .i64 (l69)]⟩ 87 (0, 0))], [(bS, .cells ⟨[v, .int .i64 (a69), .int .u64 (s69)]⟩ 45 (0, 0))], k69, k68, [(b4, .cells ⟨pkT (0) (0) (zS) (.slice none 0 0) (.slice none 0 0)⟩ 30 (0, 0))], [(b3, .cells ⟨[.int .i64 (m)]⟩ 3 (0, 0))], [(b2, .cells ⟨[.int .i64 (d)]⟩ 3 (0, 0))], [(b1, .cells ⟨[.pointer (some ⟨bM, 0, none⟩)]⟩ 85 (0, 0))]]) (Sub.flat Sub.refl (by simp)) ?_
           refine JL_call rfl Try.call32 rfl (fun hin => apD_ct _ hO68.len hO68.ok _ hO69.len hO69.ok _) rfl ?_
           rintro _ _ ⟨sv70, k70, rfl, rfl, ho70⟩
           refine JL_run rfl (Runs_storeB 5 (vs := pkT (4) (0) (zS) (sv70) (.slice none 0 0)) (l := pkT (4) (0) (zS) (sv70) (.slice none 0 0)) ty30 rfl rfl rfl rfl rfl (pkT_ok ho70.one rfl) (pkT_s ..) ?_)
           refine JL_nil ?_
           refine J_ret ?_
           refine ⟨.agg ⟨pkT (4) (0) (zS) (sv70) (.slice none 0 0)⟩, [([(bM, .cells ⟨[.pointer (some ⟨bS, 0, none⟩), .int .i64 (l69)]⟩ 87 (0, 0))]) ++ ([(bS, .cells ⟨[v, .int .i64 (a69), .int .u64 (s69)]⟩ 45 (0, 0))]), (k70) ++ ((k68) ++ (k69))], Ret.one rfl (RV.cell ty30 rfl (At.bx 5 rfl) (pkT_a ..)), (Sub.join (Sub.cons 1 rfl (Sub.cons 1 rfl (Sub.join3 (Sk (Sub.cons 1 rfl (Sk Sub.nil))))))), ?_⟩
           exact ⟨.mk 4 (0) (zS) [t68, t69] [], _, _, _, _, _, rfl, rfl, OT_row (by unfold inI; omega) (by unfold inI; omega) ho70 (OTs2 hO68 hO69) (by simp), ⟨nErr_app (by simpa using hn68) (by simpa using hn69), by simp only [eVa, eNu, sizeT, sizeTs, sizeCs]; omega⟩, by omega, by omega⟩
          ·skip
           replace h67 := df h67
           refine J_seq ?_
           refine J_region ?_
           refine JL_pure (v := .int .i64 (kj)) rfl (Pu.move rfl) ?_
           refine JL_pure (v := .bool (decide (kj = 7))) rfl (Pu.eql rfl rfl) ?_
           refine JL_pure (v := .bool (decide (kj = 7))) rfl (Pu.assign rfl) ?_
           refine JL_nil ?_
           refine J_cond (b := decide (kj = 7)) rfl (fun h71 => ?_) (fun h71 => ?_)
           ·skip
            replace h71 := dt h71
            refine J_seq ?_
            refine J_region ?_
            refine JL_pure (v := .func (.func 55) ⟨[]⟩ ⟨[.pointer (some ⟨b1, 0, none⟩), .pointer (some ⟨b2, 0, none⟩), .pointer (some ⟨b3, 0, none⟩)]⟩) rfl (Pu.move rfl) ?_
            refine JL_sub (M' := [([(bM, .cells ⟨[.pointer (some ⟨bS, 0, none⟩), .int .i64 (L - 1)]⟩ 87 (0, 0))]) ++ ([(bS, .cells ⟨[v, .int .i64 (aj), .int .u64 (sj)]⟩ 45 (0, 0))]), [(b4, .cells ⟨pkT (0) (0) (zS) (.slice none 0 0) (.slice none 0 0)⟩ 30 (0, 0))], [(b3, .cells ⟨[.int .i64 (m)]⟩ 3 (0, 0))], [(b2, .cells ⟨[.int .i64 (d)]⟩ 3 (0, 0))], [(b1, .cells ⟨[.pointer (some ⟨bM, 0, none⟩)]⟩ 85 (0, 0))]]) (Sub.join (Sub.cons 5 rfl (Sk (Sk (Sk (Sk (Sk Sub.nil))))))) ?_
            refine JL_call1 0 rfl Try.call55 rfl rfl (fun hin => one_ct _ _ _ _ _ _ _ _ _ _ _ _ _ _ (RBs.mono (Hle.hu _ _) hv) (hin 3 _ rfl _ _ List.mem_cons_self) (hin 2 _ rfl _ _ List.mem_cons_self) (hin 1 _ rfl _ _ List.mem_cons_self) (by omega) (by omega) (by omega) (by omega) (fun h hh => ih _ (by omega) _ _ _ _ _ _ _ _ _ _ rfl (RBs.mono hh (RBs.mono (Hle.hu _ _) hv)) (by omega) (by omega) (by omega) (by omega) (by omega) (by omega) (by omega) (by omega))) rfl ?_
            rintro _ _ ⟨t72, cs72, k72, l72, a72, s72, rfl, rfl, hO72, ⟨hn72, hz72⟩, hl72, ha72⟩
            refine JL_sub (M' := [[(bM, .cells ⟨[.pointer (some ⟨bS, 0, none⟩), .int .i64 (l72)]⟩ 87 (0, 0))], [(bS, .cells ⟨[v, .int .i64 (a72), .int .u64 (s72)]⟩ 45 (0, 0))], k72, [(b4, .cells ⟨pkT (0) (0) (zS) (.slice none 0 0) (.slice none 0 0)⟩ 30 (0, 0))], [(b3, .cells ⟨[.int .i64 (m)]⟩ 3 (0, 0))], [(b2, .cells ⟨[.int .i64 (d)]⟩ 3 (0, 0))], [(b1, .cells ⟨[.pointer (some ⟨bM, 0, none⟩)]⟩ 85 (0, 0))]]) (Sub.flat Sub.refl (by simp)) ?_
            refine JL_pure (v := .func (.func 55) ⟨[]⟩ ⟨[.pointer (some ⟨b1, 0, none⟩), .pointer (some ⟨b2, 0, none⟩), .pointer (some ⟨b3, 0, none⟩)]⟩) rfl (Pu.move rfl) ?_
            refine JL_sub (M' := [([(bM, .cells ⟨[.pointer (some ⟨bS, 0, none⟩), .int .i64 (l72)]⟩ 87 (0, 0))]) ++ ([(bS, .cells ⟨[v, .int .i64 (a72), .int .u64 (s72)]⟩ 45 (0, 0))]), k72, [(b4, .cells ⟨pkT (0) (0) (zS) (.slice none 0 0) (.slice none 0 0)⟩ 30 (0, 0))], [(b3, .cells ⟨[.int .i64 (m)]⟩ 3 (0, 0))], [(b2, .cells ⟨[.int .i64 (d)]⟩ 3 (0, 0))], [(b1, .cells ⟨[.pointer (some ⟨bM, 0, none⟩)]⟩ 85 (0, 0))]]) (Sub.join (Sk (Sk (Sk (Sk (Sk (Sk (Sk Sub.nil)))))))) ?_
            refine JL_call1 0 rfl Try.call55 rfl rfl (fun hin => one_ct _ _ _ _ _ _ _ _ _ _ _ _ _ _ (RBs.mono (Hle.hu _ _) hv) (hin 4 _ rfl _ _ List.mem_cons_self) (hin 3 _ rfl _ _ List.mem_cons_self) (hin 2 _ rfl _ _ List.mem_cons_self) (by omega) (by omega) (by omega) (by omega) (fun h hh => ih _ (by omega) _ _ _ _ _ _ _ _ _ _ rfl (RBs.mono hh (RBs.mono (Hle.hu _ _) hv)) (by omega) (by omega) (by omega) (by omega) (by omega) (by omega) (by omega) (by omega))) rfl ?_
            rintro _ _ ⟨t73, cs73, k73, l73, a73, s73, rfl, rfl, hO73, ⟨hn73, hz73⟩, hl73, ha73⟩
            refine JL_sub (M' := [[(bM, .cells ⟨[.pointer (some ⟨bS, 0, none⟩), .int .i64 (l73)]⟩ 87 (0, 0))], [(bS, .cells ⟨[v, .int .i64 (a73), .int .u64 (s73)]⟩ 45 (0, 0))], k73, k72, [(b4, .cells ⟨pkT (0) (0) (zS) (.slice none 0 0) (.slice none 0 0)⟩ 30 (0, 0))], [(b3, .cells ⟨[.int .i64 (m)]⟩ 3 (0, 0))], [(b2, .cells ⟨[.int .i64 (d)]⟩ 3 (0, 0))], [(b1, .cells ⟨[.pointer (some ⟨bM, 0, none⟩)]⟩ 85 (0, 0))]]) (Sub.flat Sub.refl (by simp)) ?_
            refine JL_call rfl Try.call60 rfl (fun hin => leD_ct _ hO72.len hO72.ok _ hO73.len hO73.ok _) rfl ?_
            rintro _ _ ⟨sv74, k74, rfl, rfl, ho74⟩
            refine JL_run rfl (Runs_storeB 5 (vs := pkT (5) (0) (zS) (sv74) (.slice none 0 0)) (l := pkT (5) (0) (zS) (sv74) (.slice none 0 0)) ty30 rfl rfl rfl rfl rfl (pkT_ok ho74.one rfl) (pkT_s ..) ?_)
            refine JL_nil ?_
            refine J_ret ?_
            refine ⟨.agg ⟨pkT (5) (0) (zS) (sv74) (.slice none 0 0)⟩, [([(bM, .cells ⟨[.pointer (some ⟨bS, 0, none⟩), .int .i64 (l73)]⟩ 87 (0, 0))]) ++ ([(bS, .cells ⟨[v, .int .i64 (a73), .int .u64 (s73)]⟩ 45 (0, 0))]), (k74) ++ ((k72) ++ (k73))], Ret.one rfl (RV.cell ty30 rfl (At.bx 5 rfl) (pkT_a ..)), (Sub.join (Sub.cons 1 rfl (Sub.cons 1 rfl (Sub.join3 (Sk (Sub.cons 1 rfl (Sk Sub.nil))))))), ?_⟩
            exact ⟨.mk 5 (0) (zS) [t72, t73] [], _, _, _, _, _, rfl, rfl, OT_row (by unfold inI; omega) (by unfold inI; omega) ho74 (OTs2 hO72 hO73) (by simp), ⟨nErr_let (by simpa using hn72) hn73, by simp only [eVa, eNu, sizeT, sizeTs, sizeCs]; omega⟩, by omega, by omega⟩
           ·skip
            replace h71 := df h71
            refine J_seq ?_
            refine J_region ?_
            refine JL_pure (v := .int .i64 (kj)) rfl (Pu.move rfl) ?_
            refine JL_pure (v := .bool (decide (kj = 8))) rfl (Pu.eql rfl rfl) ?_
            refine JL_pure (v := .bool (decide (kj = 8))) rfl (Pu.assign rfl) ?_
            refine JL_nil ?_
            refine J_cond (b := decide (kj = 8)) rfl (fun h75 => ?_) (fun h75 => ?_)
            ·skip
             replace h75 := dt h75
             refine J_seq ?_
             refine J_region ?_
             refine JL_run rfl (Pu_load1 ty85 rfl (At.bx 4 rfl) rfl ?_)
             refine JL_pure (v := .pointer (some ⟨bM, 0, none⟩)) rfl (Pu.nilCheck rfl) ?_
             refine JL_pure (v := .pointer (some ⟨bM, 0, none⟩)) rfl (fa87_0 rfl rfl) ?_
             refine JL_run rfl (Pu_load1 ty23 rfl (At.bx 5 rfl) rfl ?_)
             refine JL_call1 0 rfl Try.call62 rfl rfl (fun hin => from_ct _ _ _ _ _ _ (RBs.mono (Hle.hu _ _) hv) (by omega) (by omega) _ _ (by omega) (by omega) (by omega)) rfl ?_
             rintro _ _ ⟨n76, a76, s76, rfl, rfl, hn76, ha76⟩
             refine JL_pure (v := .func (.func 55) ⟨[]⟩ ⟨[.pointer (some ⟨b1, 0, none⟩), .pointer (some ⟨b2, 0, none⟩), .pointer (some ⟨b3, 0, none⟩)]⟩) rfl (Pu.move rfl) ?_
             refine JL_sub (M' := [([(bM, .cells ⟨[.pointer (some ⟨bS, 0, none⟩), .int .i64 (L - 1)]⟩ 87 (0, 0))]) ++ ([(bS, .cells ⟨[v, .int .i64 (a76), .int .u64 (s76)]⟩ 45 (0, 0))]), [(b4, .cells ⟨pkT (0) (0) (zS) (.slice none 0 0) (.slice none 0 0)⟩ 30 (0, 0))], [(b3, .cells ⟨[.int .i64 (m)]⟩ 3 (0, 0))], [(b2, .cells ⟨[.int .i64 (d)]⟩ 3 (0, 0))], [(b1, .cells ⟨[.pointer (some ⟨bM, 0, none⟩)]⟩ 85 (0, 0))]]) (Sub.join (Sub.cons 5 rfl (Sk (Sk (Sk (Sk (Sk Sub.nil))))))) ?_
             refine JL_call1 0 rfl Try.call55 rfl rfl (fun hin => one_ct _ _ _ _ _ _ _ _ _ _ _ _ _ _ (RBs.mono (Hle.hu _ _) hv) (hin 3 _ rfl _ _ List.mem_cons_self) (hin 2 _ rfl _ _ List.mem_cons_self) (hin 1 _ rfl _ _ List.mem_cons_self) (by omega) (by omega) (by omega) (by omega) (fun h hh => ih _ (by omega) _ _ _ _ _ _ _ _ _ _ rfl (RBs.mono hh (RBs.mono (Hle.hu _ _) hv)) (by omega) (by omega) (by omega) (by omega) (by omega) (by omega) (by omega) (by omega))) rfl ?_
             rintro _ _ ⟨t77, cs77, k77, l77, a77, s77, rfl, rfl, hO77, ⟨hn77, hz77⟩, hl77, ha77⟩
             refine JL_sub (M' := [[(bM, .cells ⟨[.pointer (some ⟨bS, 0, none⟩), .int .i64 (l77)]⟩ 87 (0, 0))], [(bS, .cells ⟨[v, .int .i64 (a77), .int .u64 (s77)]⟩ 45 (0, 0))], k77, [(b4, .cells ⟨pkT (0) (0) (zS) (.slice none 0 0) (.slice none 0 0)⟩ 30 (0, 0))], [(b3, .cells ⟨[.int .i64 (m)]⟩ 3 (0, 0))], [(b2, .cells ⟨[.int .i64 (d)]⟩ 3 (0, 0))], [(b1, .cells ⟨[.pointer (some ⟨bM, 0, none⟩)]⟩ 85 (0, 0))]]) (Sub.flat Sub.refl (by simp)) ?_
             refine JL_pure (v := .func (.func 55) ⟨[]⟩ ⟨[.pointer (some ⟨b1, 0, none⟩), .pointer (some ⟨b2, 0, none⟩), .pointer (some ⟨b3, 0, none⟩)]⟩) rfl (Pu.move rfl) ?_
             refine JL_sub (M' := [([(bM, .cells ⟨[.pointer (some ⟨bS, 0, none⟩), .int .i64 (l77)]⟩ 87 (0, 0))]) ++ ([(bS, .cells ⟨[v, .int .i64 (a77), .int .u64 (s77)]⟩ 45 (0, 0))]), k77, [(b4, .cells ⟨pkT (0) (0) (zS) (.slice none 0 0) (.slice none 0 0)⟩ 30 (0, 0))], [(b3, .cells ⟨[.int .i64 (m)]⟩ 3 (0, 0))], [(b2, .cells ⟨[.int .i64 (d)]⟩ 3 (0, 0))], [(b1, .cells ⟨[.pointer (some ⟨bM, 0, none⟩)]⟩ 85 (0, 0))]]) (Sub.join (Sk (Sk (Sk (Sk (Sk (Sk (Sk Sub.nil)))))))) ?_
             refine JL_call1 0 rfl Try.call55 rfl rfl (fun hin => one_ct _ _ _ _ _ _ _ _ _ _ _ _ _ _ (RBs.mono (Hle.hu _ _) hv) (hin 4 _ rfl _ _ List.mem_cons_self) (hin 3 _ rfl _ _ List.mem_cons_self) (hin 2 _ rfl _ _ List.mem_cons_self) (by omega) (by omega) (by omega) (by omega) (fun h hh => ih _ (by omega) _ _ _ _ _ _ _ _ _ _ rfl (RBs.mono hh (RBs.mono (Hle.hu _ _) hv)) (by omega) (by omega) (by omega) (by omega) (by omega) (by omega) (by omega) (by omega))) rfl ?_
             rintro _ _ ⟨t78, cs78, k78, l78, a78, s78, rfl, rfl, hO78, ⟨hn78, hz78⟩, hl78, ha78⟩
             refine JL_sub (M' := [[(bM, .cells ⟨[.pointer (some ⟨bS, 0, none⟩), .int .i64 (l78)]⟩ 87 (0, 0))], [(bS, .cells ⟨[v, .int .i64 (a78), .int .u64 (s78)]⟩ 45 (0, 0))], k78, k77, [(b4, .cells ⟨pkT (0) (0) (zS) (.slice none 0 0) (.slice none 0 0)⟩ 30 (0, 0))], [(b3, .cells ⟨[.int .i64 (m)]⟩ 3 (0, 0))], [(b2, .cells ⟨[.int .i64 (d)]⟩ 3 (0, 0))], [(b1, .cells ⟨[.pointer (some ⟨bM, 0, none⟩)]⟩ 85 (0, 0))]]) (Sub.flat Sub.refl (by simp)) ?_
             refine JL_call rfl Try.call61 rfl (fun hin => prD_ct _ _ hO77.len hO77.ok _ hO78.len hO78.ok _) rfl ?_
             rintro _ _ ⟨sv79, k79, rfl, rfl, ho79⟩
             refine JL_run rfl (Runs_storeB 5 (vs := pkT (10) (n76) (zS) (sv79) (.slice none 0 0)) (l := pkT (10) (n76) (zS) (sv79) (.slice none 0 0)) ty30 rfl rfl rfl rfl rfl (pkT_ok ho79.one rfl) (pkT_s ..) ?_)
             refine JL_nil ?_
             refine J_ret ?_
             refine ⟨.agg ⟨pkT (10) (n76) (zS) (sv79) (.slice none 0 0)⟩, [([(bM, .cells ⟨[.pointer (some ⟨bS, 0, none⟩), .int .i64 (l78)]⟩ 87 (0, 0))]) ++ ([(bS, .cells ⟨[v, .int .i64 (a78), .int .u64 (s78)]⟩ 45 (0, 0))]), (k79) ++ ((k77) ++ (k78))], Ret.one rfl (RV.cell ty30 rfl (At.bx 5 rfl) (pkT_a ..)), (Sub.join (Sub.cons 1 rfl (Sub.cons 1 rfl (Sub.join3 (Sk (Sub.cons 1 rfl (Sk Sub.nil))))))), ?_⟩
             exact ⟨.mk 10 (n76) (zS) [t77, t78] [], _, _, _, _, _, rfl, rfl, OT_row (by unfold inI; omega) (by unfold inI; omega) ho79 (OTs2 hO77 hO78) (by simp), ⟨nErr_prim (by omega) (by omega) (by simpa using hn77) (by simpa using hn78), by simp only [eVa, eNu, sizeT, sizeTs, sizeCs]; omega⟩, by omega, by omega⟩
            ·skip
             replace h75 := df h75
             refine J_seq ?_
             refine J_region ?_
             refine JL_pure (v := .int .i64 (kj)) rfl (Pu.move rfl) ?_
             refine JL_pure (v := .bool (decide (kj = 9))) rfl (Pu.eql rfl rfl) ?_
             refine JL_pure (v := .bool (decide (kj = 9))) rfl (Pu.assign rfl) ?_
             refine JL_nil ?_
             refine J_cond (b := decide (kj = 9)) rfl (fun h80 => ?_) (fun h80 => ?_)
             ·skip
              replace h80 := dt h80
              refine J_seq ?_
              refine J_drawM mixed #[0, 1, 3, 7, 15, 0, 32, 96, 224, 511, 0, 2047, 4095, 8191] 11 0 [4, 9] rfl (by kernel_rfl) (by decide) rfl (by kernel_rfl) (fun i r81 N81 => match i with | 0 => (r81 0) = .pointer (some ⟨bM, 0, none⟩) | 1 => (r81 1) = .pointer (some ⟨bM, 0, none⟩) | 2 => (r81 2) = .pointer (some ⟨bM, 0, none⟩) | 3 => (r81 3) = .pointer (some ⟨bS, 0, none⟩) | 4 => (r81 4) = .agg ⟨sC ((sml (r81 4)))⟩ ∧ (N81 4) = [(bS, .cells ⟨[v, .int .i64 ((sth (N81 4) 1)), .int .u64 ((sth (N81 4) 2))]⟩ 45 (0, 0))] ∧ (aj ≤ sth (N81 4) 1 ∧ sth (N81 4) 1 ≤ aj + 1) | 5 => (r81 5) = .pointer (some ⟨bM, 0, none⟩) | 6 => (r81 6) = .pointer (some ⟨bM, 0, none⟩) | 7 => (r81 7) = .pointer (some ⟨bM, 0, none⟩) | 8 => (r81 8) = .pointer (some ⟨bS, 0, none⟩) | 9 => (r81 9) = .int .i64 ((ivl (r81 9))) ∧ (N81 9) = [(bS, .cells ⟨[v, .int .i64 ((sth (N81 9) 1)), .int .u64 ((sth (N81 9) 2))]⟩ 45 (0, 0))] ∧ (0 ≤ (ivl (r81 9)) ∧ ((0 : Int) < 2 → (ivl (r81 9)) < 2) ∧ ((2 : Int) ≤ 0 → (ivl (r81 9)) = 0)) ∧ ((sth (N81 4) 1) ≤ sth (N81 9) 1 ∧ sth (N81 9) 1 ≤ (sth (N81 4) 1) + 1) | 10 => (r81 10) = .func (.func 55) ⟨[]⟩ ⟨[.pointer (some ⟨b1, 0, none⟩), .pointer (some ⟨b2, 0, none⟩), .pointer (some ⟨b3, 0, none⟩)]⟩ | _ => True) ⟨?_, ?_, ?_, ?_, ?_, ?_, ?_, ?_, ?_, ?_, ?_, trivial⟩ ?_
              ·intro ρ r81 N81 B hB hBa hp hr hr0
               have q3 : ρ 3 = .pointer (some ⟨b1, 0, none⟩) := hr0 3 (by kernel_rfl)
               obtain ⟨ρ82, rfl⟩ := reopen_ex (uc q3 un)
               clear q3
               refine JL_run rfl (Pu_load1 ty85 rfl (At.bx 15 (made_old ((hB 4 (by decide)).trans rfl))) rfl ?_)
               refine JL_nil ?_
               exact ⟨.pointer (some ⟨bM, 0, none⟩), [], rfl, (Sub.emp Sub.refl), rfl⟩
              ·intro ρ r81 N81 B hB hBa hp hr hr0
               have p0 : (r81 0) = .pointer (some ⟨bM, 0, none⟩) := hp 0 (by decide) rfl
               have q122 : ρ 122 = .pointer (some ⟨bM, 0, none⟩) := (hr 0 _ _ (by decide) rfl rfl rfl).trans p0
               obtain ⟨ρ83, rfl⟩ := reopen_ex (uc q122 un)
               clear q122
               refine JL_pure (v := .pointer (some ⟨bM, 0, none⟩)) rfl (Pu.nilCheck rfl) ?_
               refine JL_nil ?_
               exact ⟨.pointer (some ⟨bM, 0, none⟩), [], rfl, (Sub.emp Sub.refl), rfl⟩
              ·intro ρ r81 N81 B hB hBa hp hr hr0
               have p1 : (r81 1) = .pointer (some ⟨bM, 0, none⟩) := hp 1 (by decide) rfl
               have q123 : ρ 123 = .pointer (some ⟨bM, 0, none⟩) := (hr 1 _ _ (by decide) rfl rfl rfl).trans p1
               obtain ⟨ρ84, rfl⟩ := reopen_ex (uc q123 un)
               clear q123
               refine JL_pure (v := .pointer (some ⟨bM, 0, none⟩)) rfl (fa87_0 rfl rfl) ?_
               refine JL_nil ?_
               exact ⟨.pointer (some ⟨bM, 0, none⟩), [], rfl, (Sub.emp Sub.refl), rfl⟩
              ·intro ρ r81 N81 B hB hBa hp hr hr0
               have p2 : (r81 2) = .pointer (some ⟨bM, 0, none⟩) := hp 2 (by decide) rfl
               have q124 : ρ 124 = .pointer (some ⟨bM, 0, none⟩) := (hr 2 _ _ (by decide) rfl rfl rfl).trans p2
               obtain ⟨ρ85, rfl⟩ := reopen_ex (uc q124 un)
               clear q124
               refine JL_run rfl (Pu_load1 ty23 rfl (At.bx 16 (made_old ((hB 5 (by decide)).trans rfl))) rfl ?_)
               refine JL_nil ?_
               exact ⟨.pointer (some ⟨bS, 0, none⟩), [], rfl, (Sub.emp Sub.refl), rfl⟩
              ·intro ρ r81 N81 B hB hBa hp hr hr0
               have p3 : (r81 3) = .pointer (some ⟨bS, 0, none⟩) := hp 3 (by decide) rfl
               have q125 : ρ 125 = .pointer (some ⟨bS, 0, none⟩) := (hr 3 _ _ (by decide) rfl rfl rfl).trans p3
               obtain ⟨ρ86, rfl⟩ := reopen_ex (uc q125 un)
               clear q125
               have hB2 := hBa rfl
               change B = [[(bS, .cells ⟨[v, .int .i64 (aj), .int .u64 (sj)]⟩ 45 (0, 0))], [(b4, .cells ⟨pkT (0) (0) (zS) (.slice none 0 0) (.slice none 0 0)⟩ 30 (0, 0))], [(b3, .cells ⟨[.int .i64 (m)]⟩ 3 (0, 0))], [(b2, .cells ⟨[.int .i64 (d)]⟩ 3 (0, 0))], [(b1, .cells ⟨[.pointer (some ⟨bM, 0, none⟩)]⟩ 85 (0, 0))], [(bM, .cells ⟨[.pointer (some ⟨bS, 0, none⟩), .int .i64 (L - 1)]⟩ 87 (0, 0))]] at hB2
               subst hB2
               refine JL_sub (M' := [(N81 0), (N81 1), (N81 2), (N81 3), [], (N81 5), (N81 6), (N81 7), (N81 8), [], (N81 10), [(bS, .cells ⟨[v, .int .i64 (aj), .int .u64 (sj)]⟩ 45 (0, 0))], [(b4, .cells ⟨pkT (0) (0) (zS) (.slice none 0 0) (.slice none 0 0)⟩ 30 (0, 0))], [(b3, .cells ⟨[.int .i64 (m)]⟩ 3 (0, 0))], [(b2, .cells ⟨[.int .i64 (d)]⟩ 3 (0, 0))], [(b1, .cells ⟨[.pointer (some ⟨bM, 0, none⟩)]⟩ 85 (0, 0))], [(bM, .cells ⟨[.pointer (some ⟨bS, 0, none⟩), .int .i64 (L - 1)]⟩ 87 (0, 0))]]) Sub.refl ?_
               refine JL_call1 11 rfl Try.call59 rfl rfl (fun hin => sum_ct _ _ _ _ _ _ (RBs.mono (Hle.hu _ _) hv) (by omega) (by omega) _ _ (by omega) (by omega) (by omega)) rfl ?_
               rintro _ _ ⟨n87, a87, s87, rfl, rfl, ha87⟩
               refine JL_nil ?_
               exact ⟨.agg ⟨sC (n87)⟩, [(bS, .cells ⟨[v, .int .i64 (a87), .int .u64 (s87)]⟩ 45 (0, 0))], rfl, (Sub.flat (M' := [(N81 0), (N81 1), (N81 2), (N81 3), [], (N81 5), (N81 6), (N81 7), (N81 8), [], (N81 10), [(bS, .cells ⟨[v, .int .i64 (a87), .int .u64 (s87)]⟩ 45 (0, 0))], [(b4, .cells ⟨pkT (0) (0) (zS) (.slice none 0 0) (.slice none 0 0)⟩ 30 (0, 0))], [(b3, .cells ⟨[.int .i64 (m)]⟩ 3 (0, 0))], [(b2, .cells ⟨[.int .i64 (d)]⟩ 3 (0, 0))], [(b1, .cells ⟨[.pointer (some ⟨bM, 0, none⟩)]⟩ 85 (0, 0))], [(bM, .cells ⟨[.pointer (some ⟨bS, 0, none⟩), .int .i64 (L - 1)]⟩ 87 (0, 0))]]) (Sub.cons 1 rfl (Sub.cons 1 rfl (Sub.cons 1 rfl (Sub.cons 1 rfl (Sub.emp (Sub.cons 2 rfl (Sub.cons 2 rfl (Sub.cons 2 rfl (Sub.cons 2 rfl (Sub.emp (Sub.cons 3 rfl (Sk (Sd (Sd (Sk (Sk (Sk (Sk (Sk Sub.nil))))))))))))))))))) rfl), ⟨sml_eq _, rfl, ha87⟩⟩
              ·intro ρ r81 N81 B hB hBa hp hr hr0
               have q3 : ρ 3 = .pointer (some ⟨b1, 0, none⟩) := hr0 3 (by kernel_rfl)
               obtain ⟨ρ88, rfl⟩ := reopen_ex (uc q3 un)
               clear q3
               refine JL_run rfl (Pu_load1 ty85 rfl (At.bx 15 (made_old ((hB 4 (by decide)).trans rfl))) rfl ?_)
               refine JL_nil ?_
               exact ⟨.pointer (some ⟨bM, 0, none⟩), [], rfl, (Sub.emp Sub.refl), rfl⟩
              ·intro ρ r81 N81 B hB hBa hp hr hr0
               have p5 : (r81 5) = .pointer (some ⟨bM, 0, none⟩) := hp 5 (by decide) rfl
               have q127 : ρ 127 = .pointer (some ⟨bM, 0, none⟩) := (hr 5 _ _ (by decide) rfl rfl rfl).trans p5
               obtain ⟨ρ89, rfl⟩ := reopen_ex (uc q127 un)
               clear q127
               refine JL_pure (v := .pointer (some ⟨bM, 0, none⟩)) rfl (Pu.nilCheck rfl) ?_
               refine JL_nil ?_
               exact ⟨.pointer (some ⟨bM, 0, none⟩), [], rfl, (Sub.emp Sub.refl), rfl⟩
              ·intro ρ r81 N81 B hB hBa hp hr hr0
               have p6 : (r81 6) = .pointer (some ⟨bM, 0, none⟩) := hp 6 (by decide) rfl
               have q128 : ρ 128 = .pointer (some ⟨bM, 0, none⟩) := (hr 6 _ _ (by decide) rfl rfl rfl).trans p6
               obtain ⟨ρ90, rfl⟩ := reopen_ex (uc q128 un)
               clear q128
               refine JL_pure (v := .pointer (some ⟨bM, 0, none⟩)) rfl (fa87_0 rfl rfl) ?_
               refine JL_nil ?_
               exact ⟨.pointer (some ⟨bM, 0, none⟩), [], rfl, (Sub.emp Sub.refl), rfl⟩
              ·intro ρ r81 N81 B hB hBa hp hr hr0
               have p7 : (r81 7) = .pointer (some ⟨bM, 0, none⟩) := hp 7 (by decide) rfl
               have q129 : ρ 129 = .pointer (some ⟨bM, 0, none⟩) := (hr 7 _ _ (by decide) rfl rfl rfl).trans p7
               obtain ⟨ρ91, rfl⟩ := reopen_ex (uc q129 un)
               clear q129
               refine JL_run rfl (Pu_load1 ty23 rfl (At.bx 16 (made_old ((hB 5 (by decide)).trans rfl))) rfl ?_)
               refine JL_nil ?_
               exact ⟨.pointer (some ⟨bS, 0, none⟩), [], rfl, (Sub.emp Sub.refl), rfl⟩
              ·intro ρ r81 N81 B hB hBa hp hr hr0
               have p4 : (r81 4) = .agg ⟨sC ((sml (r81 4)))⟩ ∧ (N81 4) = [(bS, .cells ⟨[v, .int .i64 ((sth (N81 4) 1)), .int .u64 ((sth (N81 4) 2))]⟩ 45 (0, 0))] ∧ (aj ≤ sth (N81 4) 1 ∧ sth (N81 4) 1 ≤ aj + 1) := hp 4 (by decide) rfl
               have p8 : (r81 8) = .pointer (some ⟨bS, 0, none⟩) := hp 8 (by decide) rfl
               have q130 : ρ 130 = .pointer (some ⟨bS, 0, none⟩) := (hr 8 _ _ (by decide) rfl rfl rfl).trans p8
               obtain ⟨ρ92, rfl⟩ := reopen_ex (uc q130 un)
               clear q130
               have hB2 := hBa rfl
               change B = [(N81 4), [(b4, .cells ⟨pkT (0) (0) (zS) (.slice none 0 0) (.slice none 0 0)⟩ 30 (0, 0))], [(b3, .cells ⟨[.int .i64 (m)]⟩ 3 (0, 0))], [(b2, .cells ⟨[.int .i64 (d)]⟩ 3 (0, 0))], [(b1, .cells ⟨[.pointer (some ⟨bM, 0, none⟩)]⟩ 85 (0, 0))], [(bM, .cells ⟨[.pointer (some ⟨bS, 0, none⟩), .int .i64 (L - 1)]⟩ 87 (0, 0))]] at hB2
               subst hB2
               refine JL_sub (M' := [(N81 0), (N81 1), (N81 2), (N81 3), [], (N81 5), (N81 6), (N81 7), (N81 8), [], (N81 10), (N81 4), [(b4, .cells ⟨pkT (0) (0) (zS) (.slice none 0 0) (.slice none 0 0)⟩ 30 (0, 0))], [(b3, .cells ⟨[.int .i64 (m)]⟩ 3 (0, 0))], [(b2, .cells ⟨[.int .i64 (d)]⟩ 3 (0, 0))], [(b1, .cells ⟨[.pointer (some ⟨bM, 0, none⟩)]⟩ 85 (0, 0))], [(bM, .cells ⟨[.pointer (some ⟨bS, 0, none⟩), .int .i64 (L - 1)]⟩ 87 (0, 0))]]) Sub.refl ?_
               refine JL_sub (M' := [(N81 0), (N81 1), (N81 2), (N81 3), [], (N81 5), (N81 6), (N81 7), (N81 8), [], (N81 10), [(bS, .cells ⟨[v, .int .i64 ((sth (N81 4) 1)), .int .u64 ((sth (N81 4) 2))]⟩ 45 (0, 0))], [(b4, .cells ⟨pkT (0) (0) (zS) (.slice none 0 0) (.slice none 0 0)⟩ 30 (0, 0))], [(b3, .cells ⟨[.int .i64 (m)]⟩ 3 (0, 0))], [(b2, .cells ⟨[.int .i64 (d)]⟩ 3 (0, 0))], [(b1, .cells ⟨[.pointer (some ⟨bM, 0, none⟩)]⟩ 85 (0, 0))], [(bM, .cells ⟨[.pointer (some ⟨bS, 0, none⟩), .int .i64 (L - 1)]⟩ 87 (0, 0))]]) (Sk (Sk (Sk (Sk (Sub.emp (Sd (Sk (Sk (Sk (Sk (Sub.emp (Sd (Sk (Se p4.2.1 (Sk (Sk (Sk (Sk (Sk Sub.nil))))))))))))))))))) ?_
               refine JL_call1 11 rfl Try.call56 rfl rfl (fun hin => less_ct _ _ _ _ _ _ (RBs.mono (Hle.hu _ _) hv) (by omega) (by omega) _) rfl ?_
               rintro _ _ ⟨n93, a93, s93, rfl, rfl, hn93, ha93⟩
               refine JL_nil ?_
               exact ⟨.int .i64 (n93), [(bS, .cells ⟨[v, .int .i64 (a93), .int .u64 (s93)]⟩ 45 (0, 0))], rfl, (Sub.flat (M' := [(N81 0), (N81 1), (N81 2), (N81 3), [], (N81 5), (N81 6), (N81 7), (N81 8), [], (N81 10), [(bS, .cells ⟨[v, .int .i64 (a93), .int .u64 (s93)]⟩ 45 (0, 0))], [(b4, .cells ⟨pkT (0) (0) (zS) (.slice none 0 0) (.slice none 0 0)⟩ 30 (0, 0))], [(b3, .cells ⟨[.int .i64 (m)]⟩ 3 (0, 0))], [(b2, .cells ⟨[.int .i64 (d)]⟩ 3 (0, 0))], [(b1, .cells ⟨[.pointer (some ⟨bM, 0, none⟩)]⟩ 85 (0, 0))], [(bM, .cells ⟨[.pointer (some ⟨bS, 0, none⟩), .int .i64 (L - 1)]⟩ 87 (0, 0))]]) (Sub.cons 1 rfl (Sub.cons 1 rfl (Sub.cons 1 rfl (Sub.cons 1 rfl (Sub.emp (Sub.cons 2 rfl (Sub.cons 2 rfl (Sub.cons 2 rfl (Sub.cons 2 rfl (Sub.emp (Sub.cons 3 rfl (Sk (Sd (Sd (Sk (Sk (Sk (Sk (Sk Sub.nil))))))))))))))))))) rfl), ⟨rfl, rfl, hn93, ha93⟩⟩
              ·intro ρ r81 N81 B hB hBa hp hr hr0
               have q7 : ρ 7 = .func (.func 55) ⟨[]⟩ ⟨[.pointer (some ⟨b1, 0, none⟩), .pointer (some ⟨b2, 0, none⟩), .pointer (some ⟨b3, 0, none⟩)]⟩ := hr0 7 (by kernel_rfl)
               obtain ⟨ρ94, rfl⟩ := reopen_ex (uc q7 un)
               clear q7
               refine JL_pure (v := .func (.func 55) ⟨[]⟩ ⟨[.pointer (some ⟨b1, 0, none⟩), .pointer (some ⟨b2, 0, none⟩), .pointer (some ⟨b3, 0, none⟩)]⟩) rfl (Pu.move rfl) ?_
               refine JL_nil ?_
               exact ⟨.func (.func 55) ⟨[]⟩ ⟨[.pointer (some ⟨b1, 0, none⟩), .pointer (some ⟨b2, 0, none⟩), .pointer (some ⟨b3, 0, none⟩)]⟩, [], rfl, (Sub.emp Sub.refl), rfl⟩
              ·intro ρ r81 N81 hp hr hr0
               have p4 : (r81 4) = .agg ⟨sC ((sml (r81 4)))⟩ ∧ (N81 4) = [(bS, .cells ⟨[v, .int .i64 ((sth (N81 4) 1)), .int .u64 ((sth (N81 4) 2))]⟩ 45 (0, 0))] ∧ (aj ≤ sth (N81 4) 1 ∧ sth (N81 4) 1 ≤ aj + 1) := hp 4 (by decide)
               have p9 : (r81 9) = .int .i64 ((ivl (r81 9))) ∧ (N81 9) = [(bS, .cells ⟨[v, .int .i64 ((sth (N81 9) 1)), .int .u64 ((sth (N81 9) 2))]⟩ 45 (0, 0))] ∧ (0 ≤ (ivl (r81 9)) ∧ ((0 : Int) < 2 → (ivl (r81 9)) < 2) ∧ ((2 : Int) ≤ 0 → (ivl (r81 9)) = 0)) ∧ ((sth (N81 4) 1) ≤ sth (N81 9) 1 ∧ sth (N81 9) 1 ≤ (sth (N81 4) 1) + 1) := hp 9 (by decide)
               have q3 : ρ 3 = .pointer (some ⟨b1, 0, none⟩) := hr0 3 (by kernel_rfl)
               have q6 : ρ 6 = .pointer (some ⟨b4, 0, none⟩) := hr0 6 (by kernel_rfl)
               have q7 : ρ 7 = .func (.func 55) ⟨[]⟩ ⟨[.pointer (some ⟨b1, 0, none⟩), .pointer (some ⟨b2, 0, none⟩), .pointer (some ⟨b3, 0, none⟩)]⟩ := hr0 7 (by kernel_rfl)
               have q126 : ρ 126 = .agg ⟨sC ((sml (r81 4)))⟩ := (hr 4 _ _ (by decide) rfl rfl).trans p4.1
               have q131 : ρ 131 = .int .i64 ((ivl (r81 9))) := (hr 9 _ _ (by decide) rfl rfl).trans p9.1
               have q132 : ρ 132 = .func (.func 55) ⟨[]⟩ ⟨[.pointer (some ⟨b1, 0, none⟩), .pointer (some ⟨b2, 0, none⟩), .pointer (some ⟨b3, 0, none⟩)]⟩ := (hr 10 _ _ (by decide) rfl rfl).trans (hp 10 (by decide))
               obtain ⟨ρ95, rfl⟩ := reopen_ex (uc q3 (uc q6 (uc q7 (uc q126 (uc q131 (uc q132 un))))))
               clear q3 q6 q7 q126 q131 q132
               have p81_4 := p4; have p81_9 := p9
               clear hp hr hr0 p4 p9
               refine JL_sub (M' := [(N81 0), (N81 1), (N81 2), (N81 3), [], (N81 5), (N81 6), (N81 7), (N81 8), [], (N81 10), (N81 9), [(b4, .cells ⟨pkT (0) (0) (zS) (.slice none 0 0) (.slice none 0 0)⟩ 30 (0, 0))], [(b3, .cells ⟨[.int .i64 (m)]⟩ 3 (0, 0))], [(b2, .cells ⟨[.int .i64 (d)]⟩ 3 (0, 0))], [(b1, .cells ⟨[.pointer (some ⟨bM, 0, none⟩)]⟩ 85 (0, 0))], [(bM, .cells ⟨[.pointer (some ⟨bS, 0, none⟩), .int .i64 (L - 1)]⟩ 87 (0, 0))]]) Sub.refl ?_
               refine JL_sub (M' := [[(bS, .cells ⟨[v, .int .i64 ((sth (N81 9) 1)), .int .u64 ((sth (N81 9) 2))]⟩ 45 (0, 0))], [(b4, .cells ⟨pkT (0) (0) (zS) (.slice none 0 0) (.slice none 0 0)⟩ 30 (0, 0))], [(b3, .cells ⟨[.int .i64 (m)]⟩ 3 (0, 0))], [(b2, .cells ⟨[.int .i64 (d)]⟩ 3 (0, 0))], [(b1, .cells ⟨[.pointer (some ⟨bM, 0, none⟩)]⟩ 85 (0, 0))], [(bM, .cells ⟨[.pointer (some ⟨bS, 0, none⟩), .int .i64 (L - 1)]⟩ 87 (0, 0))]]) (Sd (Sd (Sd (Sd (Sd (Sd (Sd (Sd (Sd (Sd (Sd (Se p81_9.2.1 (Sk (Sk (Sk (Sk (Sk Sub.nil))))))))))))))))) ?_
               refine JL_sub (M' := [[(bS, .cells ⟨[v, .int .i64 ((sth (N81 9) 1)), .int .u64 ((sth (N81 9) 2))]⟩ 45 (0, 0))], [(b4, .cells ⟨pkT (0) (0) (zS) (.slice none 0 0) (.slice none 0 0)⟩ 30 (0, 0))], [(b3, .cells ⟨[.int .i64 (m)]⟩ 3 (0, 0))], [(b2, .cells ⟨[.int .i64 (d)]⟩ 3 (0, 0))], [(b1, .cells ⟨[.pointer (some ⟨bM, 0, none⟩)]⟩ 85 (0, 0))], [(bM, .cells ⟨[.pointer (some ⟨bS, 0, none⟩), .int .i64 (L - 1)]⟩ 87 (0, 0))]]) (Sub.flat Sub.refl (by simp)) ?_
               show JL _ _ _ [_, _, _] _ _ _
               refine JL_sub (M' := [([(bM, .cells ⟨[.pointer (some ⟨bS, 0, none⟩), .int .i64 (L - 1)]⟩ 87 (0, 0))]) ++ ([(bS, .cells ⟨[v, .int .i64 ((sth (N81 9) 1)), .int .u64 ((sth (N81 9) 2))]⟩ 45 (0, 0))]), [(b4, .cells ⟨pkT (0) (0) (zS) (.slice none 0 0) (.slice none 0 0)⟩ 30 (0, 0))], [(b3, .cells ⟨[.int .i64 (m)]⟩ 3 (0, 0))], [(b2, .cells ⟨[.int .i64 (d)]⟩ 3 (0, 0))], [(b1, .cells ⟨[.pointer (some ⟨bM, 0, none⟩)]⟩ 85 (0, 0))]]) (Sub.join (Sub.cons 5 rfl (Sk (Sk (Sk (Sk (Sk Sub.nil))))))) ?_
               refine JL_call1 0 rfl Try.call55 rfl rfl (fun hin => one_ct _ _ _ _ _ _ _ _ _ _ _ _ _ _ (RBs.mono (Hle.hu _ _) hv) (hin 3 _ rfl _ _ List.mem_cons_self) (hin 2 _ rfl _ _ List.mem_cons_self) (hin 1 _ rfl _ _ List.mem_cons_self) (by omega) (by omega) (by omega) (by omega) (fun h hh => ih _ (by omega) _ _ _ _ _ _ _ _ _ _ rfl (RBs.mono hh (RBs.mono (Hle.hu _ _) hv)) (by omega) (by omega) (by omega) (by omega) (by omega) (by omega) (by omega) (by omega))) rfl ?_
               rintro _ _ ⟨t96, cs96, k96, l96, a96, s96, rfl, rfl, hO96, ⟨hn96, hz96⟩, hl96, ha96⟩
               refine JL_sub (M' := [[(bM, .cells ⟨[.pointer (some ⟨bS, 0, none⟩), .int .i64 (l96)]⟩ 87 (0, 0))], [(bS, .cells ⟨[v, .int .i64 (a96), .int .u64 (s96)]⟩ 45 (0, 0))], k96, [(b4, .cells ⟨pkT (0) (0) (zS) (.slice none 0 0) (.slice none 0 0)⟩ 30 (0, 0))], [(b3, .cells ⟨[.int .i64 (m)]⟩ 3 (0, 0))], [(b2, .cells ⟨[.int .i64 (d)]⟩ 3 (0, 0))], [(b1, .cells ⟨[.pointer (some ⟨bM, 0, none⟩)]⟩ 85 (0, 0))]]) (Sub.flat Sub.refl (by simp)) ?_
               refine JL_call rfl Try.call63 rfl (fun hin => askD_ct _ _ _ hO96.len hO96.ok _) rfl ?_
               rintro _ _ ⟨sv97, k97, rfl, rfl, ho97⟩
               refine JL_run rfl (Runs_storeB 4 (vs := pkT (11) ((ivl (r81 9))) ((sml (r81 4))) (sv97) (.slice none 0 0)) (l := pkT (11) ((ivl (r81 9))) ((sml (r81 4))) (sv97) (.slice none 0 0)) ty30 rfl rfl rfl rfl rfl (pkT_ok ho97.one rfl) (pkT_s ..) ?_)
               refine JL_nil ?_
               refine J_ret ?_
               refine ⟨.agg ⟨pkT (11) ((ivl (r81 9))) ((sml (r81 4))) (sv97) (.slice none 0 0)⟩, [([(bM, .cells ⟨[.pointer (some ⟨bS, 0, none⟩), .int .i64 (l96)]⟩ 87 (0, 0))]) ++ ([(bS, .cells ⟨[v, .int .i64 (a96), .int .u64 (s96)]⟩ 45 (0, 0))]), (k97) ++ (k96)], Ret.one rfl (RV.cell ty30 rfl (At.bx 4 rfl) (pkT_a ..)), (Sub.join (Sub.cons 1 rfl (Sub.cons 1 rfl (Sub.join (Sk (Sk Sub.nil)))))), ?_⟩
               exact ⟨.mk 11 ((ivl (r81 9))) ((sml (r81 4))) [t96] [], _, _, _, _, _, rfl, rfl, OT_row (by unfold inI; omega) (by unfold inI; omega) ho97 (OTs1 hO96) (by simp), ⟨nErr_ask (by omega) (by omega) (by simpa using hn96), by simp only [eVa, eNu, sizeT, sizeTs, sizeCs]; omega⟩, by omega, by omega⟩
             ·skip
              replace h80 := df h80
              refine J_seq ?_
              refine J_region ?_
              refine JL_pure (v := .int .i64 (kj)) rfl (Pu.move rfl) ?_
              refine JL_pure (v := .bool (decide (kj = 10))) rfl (Pu.eql rfl rfl) ?_
              refine JL_pure (v := .bool (decide (kj = 10))) rfl (Pu.assign rfl) ?_
              refine JL_nil ?_
              refine J_cond (b := decide (kj = 10)) rfl (fun h98 => ?_) (fun h98 => ?_)
              ·skip
               replace h98 := dt h98
               refine J_seq ?_
               refine J_region ?_
               refine JL_run rfl (Pu_load1 ty85 rfl (At.bx 4 rfl) rfl ?_)
               refine JL_pure (v := .pointer (some ⟨bM, 0, none⟩)) rfl (Pu.nilCheck rfl) ?_
               refine JL_pure (v := .pointer (some ⟨bM, 0, none⟩)) rfl (fa87_0 rfl rfl) ?_
               refine JL_run rfl (Pu_load1 ty23 rfl (At.bx 5 rfl) rfl ?_)
               refine JL_call1 0 rfl Try.call59 rfl rfl (fun hin => sum_ct _ _ _ _ _ _ (RBs.mono (Hle.hu _ _) hv) (by omega) (by omega) _ _ (by omega) (by omega) (by omega)) rfl ?_
               rintro _ _ ⟨n99, a99, s99, rfl, rfl, ha99⟩
               refine JL_pure (v := .func (.func 55) ⟨[]⟩ ⟨[.pointer (some ⟨b1, 0, none⟩), .pointer (some ⟨b2, 0, none⟩), .pointer (some ⟨b3, 0, none⟩)]⟩) rfl (Pu.move rfl) ?_
               refine JL_sub (M' := [([(bM, .cells ⟨[.pointer (some ⟨bS, 0, none⟩), .int .i64 (L - 1)]⟩ 87 (0, 0))]) ++ ([(bS, .cells ⟨[v, .int .i64 (a99), .int .u64 (s99)]⟩ 45 (0, 0))]), [(b4, .cells ⟨pkT (0) (0) (zS) (.slice none 0 0) (.slice none 0 0)⟩ 30 (0, 0))], [(b3, .cells ⟨[.int .i64 (m)]⟩ 3 (0, 0))], [(b2, .cells ⟨[.int .i64 (d)]⟩ 3 (0, 0))], [(b1, .cells ⟨[.pointer (some ⟨bM, 0, none⟩)]⟩ 85 (0, 0))]]) (Sub.join (Sub.cons 5 rfl (Sk (Sk (Sk (Sk (Sk Sub.nil))))))) ?_
               refine JL_call1 0 rfl Try.call55 rfl rfl (fun hin => one_ct _ _ _ _ _ _ _ _ _ _ _ _ _ _ (RBs.mono (Hle.hu _ _) hv) (hin 3 _ rfl _ _ List.mem_cons_self) (hin 2 _ rfl _ _ List.mem_cons_self) (hin 1 _ rfl _ _ List.mem_cons_self) (by omega) (by omega) (by omega) (by omega) (fun h hh => ih _ (by omega) _ _ _ _ _ _ _ _ _ _ rfl (RBs.mono hh (RBs.mono (Hle.hu _ _) hv)) (by omega) (by omega) (by omega) (by omega) (by omega) (by omega) (by omega) (by omega))) rfl ?_
               rintro _ _ ⟨t100, cs100, k100, l100, a100, s100, rfl, rfl, hO100, ⟨hn100, hz100⟩, hl100, ha100⟩
               refine JL_sub (M' := [[(bM, .cells ⟨[.pointer (some ⟨bS, 0, none⟩), .int .i64 (l100)]⟩ 87 (0, 0))], [(bS, .cells ⟨[v, .int .i64 (a100), .int .u64 (s100)]⟩ 45 (0, 0))], k100, [(b4, .cells ⟨pkT (0) (0) (zS) (.slice none 0 0) (.slice none 0 0)⟩ 30 (0, 0))], [(b3, .cells ⟨[.int .i64 (m)]⟩ 3 (0, 0))], [(b2, .cells ⟨[.int .i64 (d)]⟩ 3 (0, 0))], [(b1, .cells ⟨[.pointer (some ⟨bM, 0, none⟩)]⟩ 85 (0, 0))]]) (Sub.flat Sub.refl (by simp)) ?_
               refine JL_pure (v := .func (.func 55) ⟨[]⟩ ⟨[.pointer (some ⟨b1, 0, none⟩), .pointer (some ⟨b2, 0, none⟩), .pointer (some ⟨b3, 0, none⟩)]⟩) rfl (Pu.move rfl) ?_
               refine JL_sub (M' := [([(bM, .cells ⟨[.pointer (some ⟨bS, 0, none⟩), .int .i64 (l100)]⟩ 87 (0, 0))]) ++ ([(bS, .cells ⟨[v, .int .i64 (a100), .int .u64 (s100)]⟩ 45 (0, 0))]), k100, [(b4, .cells ⟨pkT (0) (0) (zS) (.slice none 0 0) (.slice none 0 0)⟩ 30 (0, 0))], [(b3, .cells ⟨[.int .i64 (m)]⟩ 3 (0, 0))], [(b2, .cells ⟨[.int .i64 (d)]⟩ 3 (0, 0))], [(b1, .cells ⟨[.pointer (some ⟨bM, 0, none⟩)]⟩ 85 (0, 0))]]) (Sub.join (Sk (Sk (Sk (Sk (Sk (Sk (Sk Sub.nil)))))))) ?_
               refine JL_call1 0 rfl Try.call55 rfl rfl (fun hin => one_ct _ _ _ _ _ _ _ _ _ _ _ _ _ _ (RBs.mono (Hle.hu _ _) hv) (hin 4 _ rfl _ _ List.mem_cons_self) (hin 3 _ rfl _ _ List.mem_cons_self) (hin 2 _ rfl _ _ List.mem_cons_self) (by omega) (by omega) (by omega) (by omega) (fun h hh => ih _ (by omega) _ _ _ _ _ _ _ _ _ _ rfl (RBs.mono hh (RBs.mono (Hle.hu _ _) hv)) (by omega) (by omega) (by omega) (by omega) (by omega) (by omega) (by omega) (by omega))) rfl ?_
               rintro _ _ ⟨t101, cs101, k101, l101, a101, s101, rfl, rfl, hO101, ⟨hn101, hz101⟩, hl101, ha101⟩
               refine JL_sub (M' := [[(bM, .cells ⟨[.pointer (some ⟨bS, 0, none⟩), .int .i64 (l101)]⟩ 87 (0, 0))], [(bS, .cells ⟨[v, .int .i64 (a101), .int .u64 (s101)]⟩ 45 (0, 0))], k101, k100, [(b4, .cells ⟨pkT (0) (0) (zS) (.slice none 0 0) (.slice none 0 0)⟩ 30 (0, 0))], [(b3, .cells ⟨[.int .i64 (m)]⟩ 3 (0, 0))], [(b2, .cells ⟨[.int .i64 (d)]⟩ 3 (0, 0))], [(b1, .cells ⟨[.pointer (some ⟨bM, 0, none⟩)]⟩ 85 (0, 0))]]) (Sub.flat Sub.refl (by simp)) ?_
               refine JL_run rfl (Runs_buildSlice (vs := [.agg ⟨cs100⟩, .agg ⟨cs101⟩]) [cs100, cs101] Try.runUnderlying27 el30 rfl rfl (by intro e he; simp only [List.mem_cons, List.not_mem_nil, or_false] at he; rcases he with rfl | rfl <;> first | exact hO100.len | exact hO101.len) rfl (by decide) fun b102 k102 ho102 hk102 => ?_)
               refine JL_call rfl Try.call38 rfl (fun hin => ha_ct _ _ _ _ _) rfl ?_
               rintro _ _ ⟨rfl, rfl⟩
               refine JL_run rfl (Runs_alloc (l := pkT (0) (0) (zS) (.slice none 0 0) (.slice none 0 0)) Try.zeroValue30 rfl fun b103 => ?_)
               refine JL_run rfl (Runs_storeB 0 (vs := pkT (12) (0) (n99) (.slice (some ⟨b102, 0, none⟩) 2 2) (.slice none 0 0)) (l := pkT (12) (0) (n99) (.slice (some ⟨b102, 0, none⟩) 2 2) (.slice none 0 0)) ty30 rfl rfl rfl rfl rfl (pkT_ok rfl rfl) (pkT_s ..) ?_)
               refine JL_nil ?_
               refine J_seq ?_
               refine J_seq ?_
               refine J_region ?_
               refine JL_run rfl (Pu_load1 ty85 rfl (At.bx 9 rfl) rfl ?_)
               refine JL_pure (v := .pointer (some ⟨bM, 0, none⟩)) rfl (Pu.nilCheck rfl) ?_
               refine JL_pure (v := .pointer (some ⟨bM, 0, none⟩)) rfl (fa87_0 rfl rfl) ?_
               refine JL_run rfl (Pu_load1 ty23 rfl (At.bx 2 rfl) rfl ?_)
               refine JL_call1 3 rfl Try.call56 rfl rfl (fun hin => less_ct _ _ _ _ _ _ (RBs.mono (Hle.hu _ _) hv) (by omega) (by omega) _) rfl ?_
               rintro _ _ ⟨n104, a104, s104, rfl, rfl, hn104, ha104⟩
               refine JL_pure (v := .int .i64 (0)) rfl (Pu.move rfl) ?_
               refine JL_nil ?_
               refine J_block ?_
               refine J_loop (fun k ρ M => ∃ (j : Nat) (ts : List Tm) (w : Value) (es : List (List Value)) (k1 k2 : Chunk) (lw aw sw : Int), ρ 3 = .pointer (some ⟨b1, 0, none⟩) ∧ ρ 6 = .pointer (some ⟨b4, 0, none⟩) ∧ ρ 7 = .func (.func 55) ⟨[]⟩ ⟨[.pointer (some ⟨b1, 0, none⟩), .pointer (some ⟨b2, 0, none⟩), .pointer (some ⟨b3, 0, none⟩)]⟩ ∧ ρ 9 = .pointer (some ⟨b103, 0, none⟩) ∧ ρ 153 = .int .i64 (n104) ∧ ρ 154 = .int .i64 ((j : Int)) ∧ Sub [[(b103, .cells ⟨pkT (12) (0) (n99) (w) (.slice none 0 0)⟩ 30 (0, 0))], k1, k2, [(bM, .cells ⟨[.pointer (some ⟨bS, 0, none⟩), .int .i64 (lw)]⟩ 87 (0, 0))], [(bS, .cells ⟨[v, .int .i64 (aw), .int .u64 (sw)]⟩ 45 (0, 0))], [(b4, .cells ⟨pkT (0) (0) (zS) (.slice none 0 0) (.slice none 0 0)⟩ 30 (0, 0))], [(b3, .cells ⟨[.int .i64 (m)]⟩ 3 (0, 0))], [(b2, .cells ⟨[.int .i64 (d)]⟩ 3 (0, 0))], [(b1, .cells ⟨[.pointer (some ⟨bM, 0, none⟩)]⟩ 85 (0, 0))]] M ∧ (j : Int) ≤ n104 ∧ Own 30 36 w es k1 ∧ OTs ts es k2 ∧ ts.length = j + 2 ∧ nErrK d m 0 12 0 ts = 0 ∧ (sizeTs ts : Int) ≤ 20 * (L - 1 - lw) ∧ (lw ≤ L - 1 ∧ -3 * (L - 2) - ((j : Int) + 1) ≤ lw ∧ lw ≤ L - 2) ∧ (a ≤ aw ∧ aw ≤ a + 100 * (L - 1 - lw) + 10) ∧ k = (n104).toNat - j) _ ⟨0, [t100, t101], (.slice (some ⟨b102, 0, none⟩) 2 2), ([cs100, cs101]), (k102), ((k100) ++ (k101)), (l101), (a104), (s104), rfl, rfl, rfl, rfl, rfl, rfl, (Sub.cons 1 rfl (Sub.cons 1 rfl (Sub.join (Sub.cons 3 rfl (Sub.cons 2 rfl (Sub.cons 1 rfl (Sk (Sk (Sk (Sk (Sk Sub.nil))))))))))), (by omega), ho102, (OTs2 hO100 hO101), rfl, (nErrK_han (by simpa using hn100) hn101), (by simp only [sizeTs]; omega), (by omega), (by omega), rfl⟩ ?_
               rintro _ ρ105 _ ⟨j, ts, w, es, k1, k2, lw, aw, sw, e106, e107, e108, e109, e110, e111, hm112, hj, how, hopw, hpl, hpe, hps, hpb, hpa, rfl⟩
               obtain ⟨ρ113, rfl⟩ := reopen_ex (uc e106 (uc e107 (uc e108 (uc e109 (uc e110 (uc e111 un))))))
               clear e106 e107 e108 e109 e110 e111
               refine J_sub hm112 ?_
               refine J_seq ?_
               refine J_region ?_
               refine JL_pure (v := .bool (decide ((j : Int) < n104))) rfl (Pu.lss rfl rfl) ?_
               refine JL_nil ?_
               refine J_seq ?_
               refine J_cond (b := decide ((j : Int) < n104)) rfl (fun h114 => ?_) (fun h114 => ?_)
               ·skip
                replace h114 := dt h114
                have helw := OTs_len hopw
                refine J_skip ?_
                refine J_seq ?_
                refine J_block ?_
                refine J_sub (M' := [([(bM, .cells ⟨[.pointer (some ⟨bS, 0, none⟩), .int .i64 (lw)]⟩ 87 (0, 0))]) ++ ([(bS, .cells ⟨[v, .int .i64 (aw), .int .u64 (sw)]⟩ 45 (0, 0))]), [(b103, .cells ⟨pkT (12) (0) (n99) (w) (.slice none 0 0)⟩ 30 (0, 0))], k1, k2, [(b4, .cells ⟨pkT (0) (0) (zS) (.slice none 0 0) (.slice none 0 0)⟩ 30 (0, 0))], [(b3, .cells ⟨[.int .i64 (m)]⟩ 3 (0, 0))], [(b2, .cells ⟨[.int .i64 (d)]⟩ 3 (0, 0))], [(b1, .cells ⟨[.pointer (some ⟨bM, 0, none⟩)]⟩ 85 (0, 0))]]) (Sub.join (Sub.cons 3 rfl (Sub.cons 3 rfl (Sk (Sk (Sk (Sk (Sk (Sk (Sk Sub.nil)))))))))) ?_
                refine J_drawM mixed #[0, 1, 0, 4, 12, 31, 63, 127] 5 0 [3] rfl (by kernel_rfl) (by decide) rfl (by kernel_rfl) (fun i r115 N115 => match i with | 0 => (r115 0) = .pointer (some ⟨b103, 34, none⟩) | 1 => (r115 1) = w | 2 => (r115 2) = .func (.func 55) ⟨[]⟩ ⟨[.pointer (some ⟨b1, 0, none⟩), .pointer (some ⟨b2, 0, none⟩), .pointer (some ⟨b3, 0, none⟩)]⟩ | 3 => (r115 3) = .agg ⟨(cll (r115 3))⟩ ∧ (cll (r115 3)).length = 36 ∧ okc (cll (r115 3)) ∧ ∃ tM kM lM aM sM, (N115 3) = ([(bM, .cells ⟨[.pointer (some ⟨bS, 0, none⟩), .int .i64 (lM)]⟩ 87 (0, 0))]) ++ (([(bS, .cells ⟨[v, .int .i64 (aM), .int .u64 (sM)]⟩ 45 (0, 0))]) ++ (kM)) ∧ OT tM (cll (r115 3)) kM ∧ (nErr (d + 2) m 0 tM = 0 ∧ (sizeT tM : Int) ≤ 20 * (lw - lM)) ∧ (lM ≤ lw - 1 ∧ (lw ≤ 1 → lM = lw - 1) ∧ (1 ≤ lw → -3 * (lw - 1) ≤ lM)) ∧ (aw ≤ aM ∧ aM ≤ aw + 100 * (lw - lM)) | 4 => (r115 4) = .slice (some ⟨(sblk (r115 4)), 0, none⟩) 1 1 ∧ (N115 4) = [(sblk (r115 4), .cells ⟨List.flatten [(cll (r115 3))]⟩ 30 (0, 0))] ∧ Own 30 36 (.slice (some ⟨(sblk (r115 4)), 0, none⟩) 1 1) [(cll (r115 3))] (N115 4) | _ => True) ⟨?_, ?_, ?_, ?_, ?_, trivial⟩ ?_
                ·intro ρ r115 N115 B hB hBa hp hr hr0
                 have q9 : ρ 9 = .pointer (some ⟨b103, 0, none⟩) := hr0 9 (by kernel_rfl)
                 obtain ⟨ρ116, rfl⟩ := reopen_ex (uc q9 un)
                 clear q9
                 refine JL_pure (v := .pointer (some ⟨b103, 34, none⟩)) rfl (fa30_3 rfl rfl) ?_
                 refine JL_nil ?_
                 exact ⟨.pointer (some ⟨b103, 34, none⟩), [], rfl, (Sub.emp Sub.refl), rfl⟩
                ·intro ρ r115 N115 B hB hBa hp hr hr0
                 have p0 : (r115 0) = .pointer (some ⟨b103, 34, none⟩) := hp 0 (by decide) rfl
                 have q156 : ρ 156 = .pointer (some ⟨b103, 34, none⟩) := (hr 0 _ _ (by decide) rfl rfl rfl).trans p0
                 obtain ⟨ρ117, rfl⟩ := reopen_ex (uc q156 un)
                 clear q156
                 refine JL_run rfl (Pu_load1 ty27 rfl (At.bx 6 (made_old ((hB 1 (by decide)).trans rfl))) (pkT_34 ..) ?_)
                 refine JL_nil ?_
                 exact ⟨w, [], rfl, (Sub.emp Sub.refl), rfl⟩
                ·intro ρ r115 N115 B hB hBa hp hr hr0
                 have q7 : ρ 7 = .func (.func 55) ⟨[]⟩ ⟨[.pointer (some ⟨b1, 0, none⟩), .pointer (some ⟨b2, 0, none⟩), .pointer (some ⟨b3, 0, none⟩)]⟩ := hr0 7 (by kernel_rfl)
                 obtain ⟨ρ118, rfl⟩ := reopen_ex (uc q7 un)
                 clear q7
                 refine JL_pure (v := .func (.func 55) ⟨[]⟩ ⟨[.pointer (some ⟨b1, 0, none⟩), .pointer (some ⟨b2, 0, none⟩), .pointer (some ⟨b3, 0, none⟩)]⟩) rfl (Pu.move rfl) ?_
                 refine JL_nil ?_
                 exact ⟨.func (.func 55) ⟨[]⟩ ⟨[.pointer (some ⟨b1, 0, none⟩), .pointer (some ⟨b2, 0, none⟩), .pointer (some ⟨b3, 0, none⟩)]⟩, [], rfl, (Sub.emp Sub.refl), rfl⟩
                ·intro ρ r115 N115 B hB hBa hp hr hr0
                 have p2 : (r115 2) = .func (.func 55) ⟨[]⟩ ⟨[.pointer (some ⟨b1, 0, none⟩), .pointer (some ⟨b2, 0, none⟩), .pointer (some ⟨b3, 0, none⟩)]⟩ := hp 2 (by decide) rfl
                 have q158 : ρ 158 = .func (.func 55) ⟨[]⟩ ⟨[.pointer (some ⟨b1, 0, none⟩), .pointer (some ⟨b2, 0, none⟩), .pointer (some ⟨b3, 0, none⟩)]⟩ := (hr 2 _ _ (by decide) rfl rfl rfl).trans p2
                 obtain ⟨ρ119, rfl⟩ := reopen_ex (uc q158 un)
                 clear q158
                 have hB2 := hBa rfl
                 change B = [([(bM, .cells ⟨[.pointer (some ⟨bS, 0, none⟩), .int .i64 (lw)]⟩ 87 (0, 0))]) ++ ([(bS, .cells ⟨[v, .int .i64 (aw), .int .u64 (sw)]⟩ 45 (0, 0))]), [(b103, .cells ⟨pkT (12) (0) (n99) (w) (.slice none 0 0)⟩ 30 (0, 0))], k1, k2, [(b4, .cells ⟨pkT (0) (0) (zS) (.slice none 0 0) (.slice none 0 0)⟩ 30 (0, 0))], [(b3, .cells ⟨[.int .i64 (m)]⟩ 3 (0, 0))], [(b2, .cells ⟨[.int .i64 (d)]⟩ 3 (0, 0))], [(b1, .cells ⟨[.pointer (some ⟨bM, 0, none⟩)]⟩ 85 (0, 0))]] at hB2
                 subst hB2
                 refine JL_sub (M' := [(N115 0), (N115 1), (N115 2), [], (N115 4), ([(bM, .cells ⟨[.pointer (some ⟨bS, 0, none⟩), .int .i64 (lw)]⟩ 87 (0, 0))]) ++ ([(bS, .cells ⟨[v, .int .i64 (aw), .int .u64 (sw)]⟩ 45 (0, 0))]), [(b103, .cells ⟨pkT (12) (0) (n99) (w) (.slice none 0 0)⟩ 30 (0, 0))], k1, k2, [(b4, .cells ⟨pkT (0) (0) (zS) (.slice none 0 0) (.slice none 0 0)⟩ 30 (0, 0))], [(b3, .cells ⟨[.int .i64 (m)]⟩ 3 (0, 0))], [(b2, .cells ⟨[.int .i64 (d)]⟩ 3 (0, 0))], [(b1, .cells ⟨[.pointer (some ⟨bM, 0, none⟩)]⟩ 85 (0, 0))]]) Sub.refl ?_
                 refine JL_call1 5 rfl Try.call55 rfl rfl (fun hin => one_ct _ _ _ _ _ _ _ _ _ _ _ _ _ _ (RBs.mono (Hle.hu _ _) hv) (hin 11 _ rfl _ _ List.mem_cons_self) (hin 10 _ rfl _ _ List.mem_cons_self) (hin 9 _ rfl _ _ List.mem_cons_self) (by omega) (by omega) (by omega) (by omega) (fun h hh => ih _ (by omega) _ _ _ _ _ _ _ _ _ _ rfl (RBs.mono hh (RBs.mono (Hle.hu _ _) hv)) (by omega) (by omega) (by omega) (by omega) (by omega) (by omega) (by omega) (by omega))) rfl ?_
                 rintro _ _ ⟨t120, cs120, k120, l120, a120, s120, rfl, rfl, hO120, ⟨hn120, hz120⟩, hl120, ha120⟩
                 refine JL_sub (M' := [[(bM, .cells ⟨[.pointer (some ⟨bS, 0, none⟩), .int .i64 (l120)]⟩ 87 (0, 0))], [(bS, .cells ⟨[v, .int .i64 (a120), .int .u64 (s120)]⟩ 45 (0, 0))], k120, (N115 0), (N115 1), (N115 2), [], (N115 4), [(b103, .cells ⟨pkT (12) (0) (n99) (w) (.slice none 0 0)⟩ 30 (0, 0))], k1, k2, [(b4, .cells ⟨pkT (0) (0) (zS) (.slice none 0 0) (.slice none 0 0)⟩ 30 (0, 0))], [(b3, .cells ⟨[.int .i64 (m)]⟩ 3 (0, 0))], [(b2, .cells ⟨[.int .i64 (d)]⟩ 3 (0, 0))], [(b1, .cells ⟨[.pointer (some ⟨bM, 0, none⟩)]⟩ 85 (0, 0))]]) (Sub.flat Sub.refl (by simp)) ?_
                 refine JL_nil ?_
                 exact ⟨.agg ⟨cs120⟩, ([(bM, .cells ⟨[.pointer (some ⟨bS, 0, none⟩), .int .i64 (l120)]⟩ 87 (0, 0))]) ++ (([(bS, .cells ⟨[v, .int .i64 (a120), .int .u64 (s120)]⟩ 45 (0, 0))]) ++ (k120)), rfl, (Sub.flat (M' := [(N115 0), (N115 1), (N115 2), [], (N115 4), ([(bM, .cells ⟨[.pointer (some ⟨bS, 0, none⟩), .int .i64 (l120)]⟩ 87 (0, 0))]) ++ (([(bS, .cells ⟨[v, .int .i64 (a120), .int .u64 (s120)]⟩ 45 (0, 0))]) ++ (k120)), [(b103, .cells ⟨pkT (12) (0) (n99) (w) (.slice none 0 0)⟩ 30 (0, 0))], k1, k2, [(b4, .cells ⟨pkT (0) (0) (zS) (.slice none 0 0) (.slice none 0 0)⟩ 30 (0, 0))], [(b3, .cells ⟨[.int .i64 (m)]⟩ 3 (0, 0))], [(b2, .cells ⟨[.int .i64 (d)]⟩ 3 (0, 0))], [(b1, .cells ⟨[.pointer (some ⟨bM, 0, none⟩)]⟩ 85 (0, 0))]]) (Sub.cons 3 rfl (Sub.cons 3 rfl (Sub.cons 3 rfl (Sub.emp (Sub.cons 4 rfl (Sub.join3 (Sk (Sk (Sk (Sd (Sk (Sk (Sk (Sk (Sk (Sk (Sk Sub.nil))))))))))))))))) rfl), ⟨rfl, hO120.len, hO120.ok, t120, k120, l120, a120, s120, rfl, hO120, ⟨hn120, hz120⟩, hl120, ha120⟩⟩
                ·intro ρ r115 N115 B hB hBa hp hr hr0
                 have p3 : (r115 3) = .agg ⟨(cll (r115 3))⟩ ∧ (cll (r115 3)).length = 36 ∧ okc (cll (r115 3)) ∧ ∃ tM kM lM aM sM, (N115 3) = ([(bM, .cells ⟨[.pointer (some ⟨bS, 0, none⟩), .int .i64 (lM)]⟩ 87 (0, 0))]) ++ (([(bS, .cells ⟨[v, .int .i64 (aM), .int .u64 (sM)]⟩ 45 (0, 0))]) ++ (kM)) ∧ OT tM (cll (r115 3)) kM ∧ (nErr (d + 2) m 0 tM = 0 ∧ (sizeT tM : Int) ≤ 20 * (lw - lM)) ∧ (lM ≤ lw - 1 ∧ (lw ≤ 1 → lM = lw - 1) ∧ (1 ≤ lw → -3 * (lw - 1) ≤ lM)) ∧ (aw ≤ aM ∧ aM ≤ aw + 100 * (lw - lM)) := hp 3 (by decide) rfl
                 have q159 : ρ 159 = .agg ⟨(cll (r115 3))⟩ := (hr 3 _ _ (by decide) rfl rfl rfl).trans p3.1
                 obtain ⟨ρ121, rfl⟩ := reopen_ex (uc q159 un)
                 clear q159
                 refine JL_run rfl (Runs_buildSlice (vs := [.agg ⟨(cll (r115 3))⟩]) [(cll (r115 3))] Try.runUnderlying27 el30 rfl rfl (by intro e he; simp only [List.mem_cons, List.not_mem_nil, or_false] at he; subst he; exact p3.2.1) rfl (by decide) fun b122 k122 ho122 hk122 => ?_)
                 refine JL_nil ?_
                 exact ⟨.slice (some ⟨b122, 0, none⟩) 1 1, k122, rfl, Sub.refl, ⟨rfl, hk122, ho122⟩⟩
                ·intro ρ r115 N115 hp hr hr0
                 have p3 : (r115 3) = .agg ⟨(cll (r115 3))⟩ ∧ (cll (r115 3)).length = 36 ∧ okc (cll (r115 3)) ∧ ∃ tM kM lM aM sM, (N115 3) = ([(bM, .cells ⟨[.pointer (some ⟨bS, 0, none⟩), .int .i64 (lM)]⟩ 87 (0, 0))]) ++ (([(bS, .cells ⟨[v, .int .i64 (aM), .int .u64 (sM)]⟩ 45 (0, 0))]) ++ (kM)) ∧ OT tM (cll (r115 3)) kM ∧ (nErr (d + 2) m 0 tM = 0 ∧ (sizeT tM : Int) ≤ 20 * (lw - lM)) ∧ (lM ≤ lw - 1 ∧ (lw ≤ 1 → lM = lw - 1) ∧ (1 ≤ lw → -3 * (lw - 1) ≤ lM)) ∧ (aw ≤ aM ∧ aM ≤ aw + 100 * (lw - lM)) := hp 3 (by decide)
                 have p4 : (r115 4) = .slice (some ⟨(sblk (r115 4)), 0, none⟩) 1 1 ∧ (N115 4) = [(sblk (r115 4), .cells ⟨List.flatten [(cll (r115 3))]⟩ 30 (0, 0))] ∧ Own 30 36 (.slice (some ⟨(sblk (r115 4)), 0, none⟩) 1 1) [(cll (r115 3))] (N115 4) := hp 4 (by decide)
                 have q3 : ρ 3 = .pointer (some ⟨b1, 0, none⟩) := hr0 3 (by kernel_rfl)
                 have q6 : ρ 6 = .pointer (some ⟨b4, 0, none⟩) := hr0 6 (by kernel_rfl)
                 have q7 : ρ 7 = .func (.func 55) ⟨[]⟩ ⟨[.pointer (some ⟨b1, 0, none⟩), .pointer (some ⟨b2, 0, none⟩), .pointer (some ⟨b3, 0, none⟩)]⟩ := hr0 7 (by kernel_rfl)
                 have q9 : ρ 9 = .pointer (some ⟨b103, 0, none⟩) := hr0 9 (by kernel_rfl)
                 have q153 : ρ 153 = .int .i64 (n104) := hr0 153 (by kernel_rfl)
                 have q154 : ρ 154 = .int .i64 ((j : Int)) := hr0 154 (by kernel_rfl)
                 have q157 : ρ 157 = w := (hr 1 _ _ (by decide) rfl rfl).trans (hp 1 (by decide))
                 have q160 : ρ 160 = .slice (some ⟨(sblk (r115 4)), 0, none⟩) 1 1 := (hr 4 _ _ (by decide) rfl rfl).trans p4.1
                 obtain ⟨ρ123, rfl⟩ := reopen_ex (uc q3 (uc q6 (uc q7 (uc q9 (uc q153 (uc q154 (uc q157 (uc q160 un))))))))
                 clear q3 q6 q7 q9 q153 q154 q157 q160
                 have p115_3 := p3; have p115_4 := p4
                 clear hp hr hr0 p3 p4
                 refine JL_sub (M' := [(N115 0), (N115 1), (N115 2), [], (N115 4), (N115 3), [(b103, .cells ⟨pkT (12) (0) (n99) (w) (.slice none 0 0)⟩ 30 (0, 0))], k1, k2, [(b4, .cells ⟨pkT (0) (0) (zS) (.slice none 0 0) (.slice none 0 0)⟩ 30 (0, 0))], [(b3, .cells ⟨[.int .i64 (m)]⟩ 3 (0, 0))], [(b2, .cells ⟨[.int .i64 (d)]⟩ 3 (0, 0))], [(b1, .cells ⟨[.pointer (some ⟨bM, 0, none⟩)]⟩ 85 (0, 0))]]) Sub.refl ?_
                 obtain ⟨tM115_3, kM115_3, lM115_3, aM115_3, sM115_3, hNM115_3, hOM115_3, ⟨hnM115_3, hzM115_3⟩, hlM115_3, haM115_3⟩ := p115_3.2.2.2
                 refine JL_sub (M' := [(N115 4), ([(bM, .cells ⟨[.pointer (some ⟨bS, 0, none⟩), .int .i64 (lM115_3)]⟩ 87 (0, 0))]) ++ (([(bS, .cells ⟨[v, .int .i64 (aM115_3), .int .u64 (sM115_3)]⟩ 45 (0, 0))]) ++ (kM115_3)), [(b103, .cells ⟨pkT (12) (0) (n99) (w) (.slice none 0 0)⟩ 30 (0, 0))], k1, k2, [(b4, .cells ⟨pkT (0) (0) (zS) (.slice none 0 0) (.slice none 0 0)⟩ 30 (0, 0))], [(b3, .cells ⟨[.int .i64 (m)]⟩ 3 (0, 0))], [(b2, .cells ⟨[.int .i64 (d)]⟩ 3 (0, 0))], [(b1, .cells ⟨[.pointer (some ⟨bM, 0, none⟩)]⟩ 85 (0, 0))]]) (Sd (Sd (Sd (Sd (Sk (Se hNM115_3 (Sk (Sk (Sk (Sk (Sk (Sk (Sk Sub.nil))))))))))))) ?_
                 refine JL_sub (M' := [(N115 4), [(bM, .cells ⟨[.pointer (some ⟨bS, 0, none⟩), .int .i64 (lM115_3)]⟩ 87 (0, 0))], [(bS, .cells ⟨[v, .int .i64 (aM115_3), .int .u64 (sM115_3)]⟩ 45 (0, 0))], kM115_3, [(b103, .cells ⟨pkT (12) (0) (n99) (w) (.slice none 0 0)⟩ 30 (0, 0))], k1, k2, [(b4, .cells ⟨pkT (0) (0) (zS) (.slice none 0 0) (.slice none 0 0)⟩ 30 (0, 0))], [(b3, .cells ⟨[.int .i64 (m)]⟩ 3 (0, 0))], [(b2, .cells ⟨[.int .i64 (d)]⟩ 3 (0, 0))], [(b1, .cells ⟨[.pointer (some ⟨bM, 0, none⟩)]⟩ 85 (0, 0))]]) (Sub.flat Sub.refl (by simp)) ?_
                 show JL _ _ _ [_, _, _] _ _ _
                 have hlens124 : ∀ e ∈ ([(cll (r115 3))] : List (List Value)), List.length e = 36 := by
                  intro e he; simp only [List.mem_cons, List.not_mem_nil, or_false] at he
                  rcases he with rfl
                  ·exact p115_3.2.1
                 have hoks124 : ∀ e ∈ ([(cll (r115 3))] : List (List Value)), okc e := by
                  intro e he; simp only [List.mem_cons, List.not_mem_nil, or_false] at he
                  rcases he with rfl
                  ·exact p115_3.2.2.1
                 refine JL_run rfl (Runs_append (i := 5) (n := 1) (es' := [(cll (r115 3))]) Try.runUnderlying27 Try.runUnderlying27 (Or.inl rfl) el30 rfl rfl rfl how (fun F w m => Src.row (((At.k 0 rfl (by rw [p115_4.2.1]; exact List.mem_cons_self))).heap m) (sub_a (flatten_len hlens124))) rfl hlens124 hoks124 (by decide) (by omega) fun v124 k124 ho124 => ?_)
                 refine JL_pure (v := .pointer (some ⟨b103, 34, none⟩)) rfl (fa30_3 rfl rfl) ?_
                 refine JL_run rfl (Runs_storeB 4 (vs := [v124]) (l := pkT (12) (0) (n99) (v124) (.slice none 0 0)) ty27 rfl rfl rfl (cells_one ho124.one) rfl (okc_cons ho124.one okc_nil) (pkT_s34 ..) ?_)
                 refine JL_nil ?_
                 refine J_region ?_
                 refine JL_pure (v := .int .i64 (((j + 1 : Nat) : Int))) rfl (Pu.inc rfl rfl (by omega)) ?_
                 refine JL_pure (v := .int .i64 (((j + 1 : Nat) : Int))) rfl (Pu.move rfl) ?_
                 refine JL_nil ?_
                 refine ⟨_, ?_, (j + 1), (ts ++ [tM115_3]), (v124), (es ++ [(cll (r115 3))]), (k124), ((k2) ++ (kM115_3)), (lM115_3), (aM115_3), (sM115_3), rfl, rfl, rfl, rfl, rfl, rfl, (Sd (Sub.cons 3 rfl (Sub.cons 3 rfl (Sub.join (Sub.cons 3 rfl (Sub.cons 2 rfl (Sk (Sk (Sk (Sk (Sk (Sk Sub.nil)))))))))))), ?_, ?_, ?_, ?_, ?_, ?_, ?_, ?_, rfl⟩
                 ·omega
                 ·omega
                 ·exact ho124
                 ·exact OTs.snoc hOM115_3 hopw
                 ·simp; omega
                 ·exact nErrK_han_snoc (by omega) hpe hnM115_3
                 ·rw [sizeTs_snoc]; omega
                 ·omega
                 ·omega
               ·skip
                replace h114 := df h114
                refine J_exit _ rfl ?_
                refine J_seq ?_
                refine J_region ?_
                refine JL_run rfl (Pu_load ty30 rfl (At.bx 0 rfl) (pkT_a ..) ?_)
                refine JL_run rfl (Runs_storeB 5 (vs := pkT (12) (0) (n99) (w) (.slice none 0 0)) (l := pkT (12) (0) (n99) (w) (.slice none 0 0)) ty30 rfl rfl rfl rfl rfl (pkT_ok how.one rfl) (pkT_s ..) ?_)
                refine JL_nil ?_
                refine J_ret ?_
                refine ⟨.agg ⟨pkT (12) (0) (n99) (w) (.slice none 0 0)⟩, [([(bM, .cells ⟨[.pointer (some ⟨bS, 0, none⟩), .int .i64 (lw)]⟩ 87 (0, 0))]) ++ ([(bS, .cells ⟨[v, .int .i64 (aw), .int .u64 (sw)]⟩ 45 (0, 0))]), (k1) ++ (k2)], Ret.one rfl (RV.cell ty30 rfl (At.bx 5 rfl) (pkT_a ..)), (Sub.join (Sd (Sub.cons 2 rfl (Sub.cons 2 rfl (Sub.join (Sk (Sk Sub.nil))))))), ?_⟩
                exact ⟨.mk 12 (0) (n99) ts [], _, _, _, _, _, rfl, rfl, OT_row (by unfold inI; omega) (by unfold inI; omega) how hopw (by omega), ⟨nErr_han (by omega) (by omega) hpe, by simp only [eVa, eNu, sizeT, sizeTs, sizeCs]; omega⟩, by omega, by omega⟩
              ·skip
               replace h98 := df h98
               refine J_seq ?_
               refine J_region ?_
               refine JL_pure (v := .int .i64 (kj)) rfl (Pu.move rfl) ?_
               refine JL_pure (v := .bool (decide (kj = 11))) rfl (Pu.eql rfl rfl) ?_
               refine JL_pure (v := .bool (decide (kj = 11))) rfl (Pu.assign rfl) ?_
               refine JL_nil ?_
               refine J_cond (b := decide (kj = 11)) rfl (fun h125 => ?_) (fun h125 => ?_)
               ·skip
                replace h125 := dt h125
                refine J_seq ?_
                refine J_region ?_
                refine JL_pure (v := .func (.func 55) ⟨[]⟩ ⟨[.pointer (some ⟨b1, 0, none⟩), .pointer (some ⟨b2, 0, none⟩), .pointer (some ⟨b3, 0, none⟩)]⟩) rfl (Pu.move rfl) ?_
                refine JL_sub (M' := [([(bM, .cells ⟨[.pointer (some ⟨bS, 0, none⟩), .int .i64 (L - 1)]⟩ 87 (0, 0))]) ++ ([(bS, .cells ⟨[v, .int .i64 (aj), .int .u64 (sj)]⟩ 45 (0, 0))]), [(b4, .cells ⟨pkT (0) (0) (zS) (.slice none 0 0) (.slice none 0 0)⟩ 30 (0, 0))], [(b3, .cells ⟨[.int .i64 (m)]⟩ 3 (0, 0))], [(b2, .cells ⟨[.int .i64 (d)]⟩ 3 (0, 0))], [(b1, .cells ⟨[.pointer (some ⟨bM, 0, none⟩)]⟩ 85 (0, 0))]]) (Sub.join (Sub.cons 5 rfl (Sk (Sk (Sk (Sk (Sk Sub.nil))))))) ?_
                refine JL_call1 0 rfl Try.call55 rfl rfl (fun hin => one_ct _ _ _ _ _ _ _ _ _ _ _ _ _ _ (RBs.mono (Hle.hu _ _) hv) (hin 3 _ rfl _ _ List.mem_cons_self) (hin 2 _ rfl _ _ List.mem_cons_self) (hin 1 _ rfl _ _ List.mem_cons_self) (by omega) (by omega) (by omega) (by omega) (fun h hh => ih _ (by omega) _ _ _ _ _ _ _ _ _ _ rfl (RBs.mono hh (RBs.mono (Hle.hu _ _) hv)) (by omega) (by omega) (by omega) (by omega) (by omega) (by omega) (by omega) (by omega))) rfl ?_
                rintro _ _ ⟨t126, cs126, k126, l126, a126, s126, rfl, rfl, hO126, ⟨hn126, hz126⟩, hl126, ha126⟩
                refine JL_sub (M' := [[(bM, .cells ⟨[.pointer (some ⟨bS, 0, none⟩), .int .i64 (l126)]⟩ 87 (0, 0))], [(bS, .cells ⟨[v, .int .i64 (a126), .int .u64 (s126)]⟩ 45 (0, 0))], k126, [(b4, .cells ⟨pkT (0) (0) (zS) (.slice none 0 0) (.slice none 0 0)⟩ 30 (0, 0))], [(b3, .cells ⟨[.int .i64 (m)]⟩ 3 (0, 0))], [(b2, .cells ⟨[.int .i64 (d)]⟩ 3 (0, 0))], [(b1, .cells ⟨[.pointer (some ⟨bM, 0, none⟩)]⟩ 85 (0, 0))]]) (Sub.flat Sub.refl (by simp)) ?_
                refine JL_call rfl Try.call64 rfl (fun hin => maD_ct _ hO126.len hO126.ok none 0 0 _) rfl ?_
                rintro _ _ ⟨sv127, k127, rfl, rfl, ho127⟩
                refine JL_run rfl (Runs_alloc (l := pkT (0) (0) (zS) (.slice none 0 0) (.slice none 0 0)) Try.zeroValue30 rfl fun b128 => ?_)
                refine JL_run rfl (Runs_storeB 0 (vs := pkT (9) (0) (zS) (sv127) (.slice none 0 0)) (l := pkT (9) (0) (zS) (sv127) (.slice none 0 0)) ty30 rfl rfl rfl rfl rfl (pkT_ok ho127.one rfl) (pkT_s ..) ?_)
                refine JL_nil ?_
                refine J_seq ?_
                refine J_seq ?_
                refine J_region ?_
                refine JL_run rfl (Pu_load1 ty85 rfl (At.bx 8 rfl) rfl ?_)
                refine JL_pure (v := .pointer (some ⟨bM, 0, none⟩)) rfl (Pu.nilCheck rfl) ?_
                refine JL_pure (v := .pointer (some ⟨bM, 0, none⟩)) rfl (fa87_0 rfl rfl) ?_
                refine JL_run rfl (Pu_load1 ty23 rfl (At.bx 2 rfl) rfl ?_)
                refine JL_call1 3 rfl Try.call56 rfl rfl (fun hin => less_ct _ _ _ _ _ _ (RBs.mono (Hle.hu _ _) hv) (by omega) (by omega) _) rfl ?_
                rintro _ _ ⟨n129, a129, s129, rfl, rfl, hn129, ha129⟩
                refine JL_pure (v := .int .i64 (0)) rfl (Pu.move rfl) ?_
                refine JL_nil ?_
                refine J_block ?_
                refine J_loop (fun k ρ M => ∃ (j : Nat) (cs5 : List (Pt × Tm)) (w : Value) (es : List (List Value)) (k1 k2 : Chunk) (lw aw sw : Int), ρ 3 = .pointer (some ⟨b1, 0, none⟩) ∧ ρ 6 = .pointer (some ⟨b4, 0, none⟩) ∧ ρ 7 = .func (.func 55) ⟨[]⟩ ⟨[.pointer (some ⟨b1, 0, none⟩), .pointer (some ⟨b2, 0, none⟩), .pointer (some ⟨b3, 0, none⟩)]⟩ ∧ ρ 10 = .pointer (some ⟨b128, 0, none⟩) ∧ ρ 175 = .int .i64 (n129) ∧ ρ 176 = .int .i64 ((j : Int)) ∧ Sub [[(b128, .cells ⟨pkT (9) (0) (zS) (sv127) (w)⟩ 30 (0, 0))], k1, k2, [(bM, .cells ⟨[.pointer (some ⟨bS, 0, none⟩), .int .i64 (lw)]⟩ 87 (0, 0))], [(bS, .cells ⟨[v, .int .i64 (aw), .int .u64 (sw)]⟩ 45 (0, 0))], k127, k126, [(b4, .cells ⟨pkT (0) (0) (zS) (.slice none 0 0) (.slice none 0 0)⟩ 30 (0, 0))], [(b3, .cells ⟨[.int .i64 (m)]⟩ 3 (0, 0))], [(b2, .cells ⟨[.int .i64 (d)]⟩ 3 (0, 0))], [(b1, .cells ⟨[.pointer (some ⟨bM, 0, none⟩)]⟩ 85 (0, 0))]] M ∧ (j : Int) ≤ n129 ∧ Own 68 71 w es k1 ∧ OCs cs5 es k2 ∧ cs5.length = j ∧ pErrRC cs5 = 0 ∧ nErrC d m 0 cs5 = 0 ∧ (sizeCs cs5 : Int) + (sizeT t126 : Int) ≤ 20 * (L - 1 - lw) + 7 * (j : Int) ∧ (lw ≤ L - 1 ∧ -3 * (L - 2) - ((j : Int) + 0) ≤ lw ∧ lw ≤ L - 2) ∧ (a ≤ aw ∧ aw ≤ a + 100 * (L - 1 - lw) + (10 + 21 * (j : Int))) ∧ k = (n129).toNat - j) _ ⟨0, [], (.slice none 0 0), ([]), ([]), ([]), (l126), (a129), (s129), rfl, rfl, rfl, rfl, rfl, rfl, (Sub.cons 1 rfl (Sub.emp (Sub.emp (Sub.cons 2 rfl (Sk (Sk (Sk (Sk (Sk (Sk (Sk Sub.nil))))))))))), (by omega), Own.nil, OCs.nil, rfl, (by simp [pErrRC]), (by simp [nErrC]), (by simp only [sizeCs]; omega), (by omega), (by omega), rfl⟩ ?_
                rintro _ ρ130 _ ⟨j, cs5, w, es, k1, k2, lw, aw, sw, e131, e132, e133, e134, e135, e136, hm137, hj, how, hopw, hpl, hpe, hpc, hps, hpb, hpa, rfl⟩
                obtain ⟨ρ138, rfl⟩ := reopen_ex (uc e131 (uc e132 (uc e133 (uc e134 (uc e135 (uc e136 un))))))
                clear e131 e132 e133 e134 e135 e136
                refine J_sub hm137 ?_
                refine J_seq ?_
                refine J_region ?_
                refine JL_pure (v := .bool (decide ((j : Int) < n129))) rfl (Pu.lss rfl rfl) ?_
                refine JL_nil ?_
                refine J_seq ?_
                refine J_cond (b := decide ((j : Int) < n129)) rfl (fun h139 => ?_) (fun h139 => ?_)
                ·skip
                 replace h139 := dt h139
                 have helw := OCs_len hopw
                 refine J_skip ?_
                 refine J_seq ?_
                 refine J_block ?_
                 refine J_seq ?_
                 refine J_region ?_
                 refine JL_run rfl (Pu_load1 ty85 rfl (At.bx 10 rfl) rfl ?_)
                 refine JL_pure (v := .pointer (some ⟨bM, 0, none⟩)) rfl (Pu.nilCheck rfl) ?_
                 refine JL_pure (v := .pointer (some ⟨bM, 0, none⟩)) rfl (fa87_0 rfl rfl) ?_
                 refine JL_run rfl (Pu_load1 ty23 rfl (At.bx 3 rfl) rfl ?_)
                 refine JL_call1 4 rfl Try.call65 rfl rfl (fun hin => pattern_ct 2 _ _ _ _ _ _ _ rfl (by decide) (RBs.mono (Hle.hu _ _) hv) (by omega) (by omega)) rfl ?_
                 rintro _ _ ⟨p140_, cs140, k140, a140, s140, rfl, rfl, hO140, hg140, ha140⟩
                 have hbl140 := binds_le p140_
                 refine JL_run rfl (Runs_alloc (l := pkP (0) (0) (zS) (.slice none 0 0)) Try.zeroValue66 rfl fun b141 => ?_)
                 refine JL_run rfl (Runs_storeB 0 (vs := cs140) (l := cs140) ty66 rfl rfl rfl rfl hO140.len hO140.ok (spl_a (n := 35) rfl hO140.len) ?_)
                 refine JL_nil ?_
                 refine J_sub (M' := [([(bM, .cells ⟨[.pointer (some ⟨bS, 0, none⟩), .int .i64 (lw)]⟩ 87 (0, 0))]) ++ ([(bS, .cells ⟨[v, .int .i64 (a140), .int .u64 (s140)]⟩ 45 (0, 0))]), [(b141, .cells ⟨cs140⟩ 66 (0, 0))], k140, [(b128, .cells ⟨pkT (9) (0) (zS) (sv127) (w)⟩ 30 (0, 0))], k1, k2, k127, k126, [(b4, .cells ⟨pkT (0) (0) (zS) (.slice none 0 0) (.slice none 0 0)⟩ 30 (0, 0))], [(b3, .cells ⟨[.int .i64 (m)]⟩ 3 (0, 0))], [(b2, .cells ⟨[.int .i64 (d)]⟩ 3 (0, 0))], [(b1, .cells ⟨[.pointer (some ⟨bM, 0, none⟩)]⟩ 85 (0, 0))]]) (Sub.join (Sub.cons 6 rfl (Sub.cons 1 rfl (Sk (Sk (Sk (Sk (Sk (Sk (Sk (Sk (Sk (Sk (Sk Sub.nil)))))))))))))) ?_
                 refine J_drawM mixed #[0, 1, 0, 0, 0, 16, 56, 124, 252, 511, 1023, 2047] 9 0 [6] rfl (by kernel_rfl) (by decide) rfl (by kernel_rfl) (fun i r142 N142 => match i with | 0 => (r142 0) = .pointer (some ⟨b128, 35, none⟩) | 1 => (r142 1) = w | 2 => (r142 2) = .agg ⟨cs140⟩ | 3 => (r142 3) = .func (.func 55) ⟨[]⟩ ⟨[.pointer (some ⟨b1, 0, none⟩), .pointer (some ⟨b2, 0, none⟩), .pointer (some ⟨b3, 0, none⟩)]⟩ | 4 => (r142 4) = .agg ⟨cs140⟩ | 5 => (r142 5) = .int .i64 ((binds (p140_) : Int)) | 6 => (r142 6) = .agg ⟨(cll (r142 6))⟩ ∧ (cll (r142 6)).length = 36 ∧ okc (cll (r142 6)) ∧ ∃ tM kM lM aM sM, (N142 6) = ([(bM, .cells ⟨[.pointer (some ⟨bS, 0, none⟩), .int .i64 (lM)]⟩ 87 (0, 0))]) ++ (([(bS, .cells ⟨[v, .int .i64 (aM), .int .u64 (sM)]⟩ 45 (0, 0))]) ++ (kM)) ∧ OT tM (cll (r142 6)) kM ∧ (nErr (d + ((binds (p140_) : Int))) m 0 tM = 0 ∧ (sizeT tM : Int) ≤ 20 * (lw - lM)) ∧ (lM ≤ lw - 1 ∧ (lw ≤ 1 → lM = lw - 1) ∧ (1 ≤ lw → -3 * (lw - 1) ≤ lM)) ∧ (a140 ≤ aM ∧ aM ≤ a140 + 100 * (lw - lM)) | 7 => (r142 7) = .agg ⟨(cs140) ++ ((cll (r142 6)))⟩ | 8 => (r142 8) = .slice (some ⟨(sblk (r142 8)), 0, none⟩) 1 1 ∧ (N142 8) = [(sblk (r142 8), .cells ⟨List.flatten [(cs140) ++ ((cll (r142 6)))]⟩ 68 (0, 0))] ∧ Own 68 71 (.slice (some ⟨(sblk (r142 8)), 0, none⟩) 1 1) [(cs140) ++ ((cll (r142 6)))] (N142 8) | _ => True) ⟨?_, ?_, ?_, ?_, ?_, ?_, ?_, ?_, ?_, trivial⟩ ?_
                 ·intro ρ r142 N142 B hB hBa hp hr hr0
                  have q10 : ρ 10 = .pointer (some ⟨b128, 0, none⟩) := hr0 10 (by kernel_rfl)
                  obtain ⟨ρ143, rfl⟩ := reopen_ex (uc q10 un)
                  clear q10
                  refine JL_pure (v := .pointer (some ⟨b128, 35, none⟩)) rfl (fa30_4 rfl rfl) ?_
                  refine JL_nil ?_
                  exact ⟨.pointer (some ⟨b128, 35, none⟩), [], rfl, (Sub.emp Sub.refl), rfl⟩
                 ·intro ρ r142 N142 B hB hBa hp hr hr0
                  have p0 : (r142 0) = .pointer (some ⟨b128, 35, none⟩) := hp 0 (by decide) rfl
                  have q183 : ρ 183 = .pointer (some ⟨b128, 35, none⟩) := (hr 0 _ _ (by decide) rfl rfl rfl).trans p0
                  obtain ⟨ρ144, rfl⟩ := reopen_ex (uc q183 un)
                  clear q183
                  refine JL_run rfl (Pu_load1 ty28 rfl (At.bx 12 (made_old ((hB 3 (by decide)).trans rfl))) (pkT_35 ..) ?_)
                  refine JL_nil ?_
                  exact ⟨w, [], rfl, (Sub.emp Sub.refl), rfl⟩
                 ·intro ρ r142 N142 B hB hBa hp hr hr0
                  have q11 : ρ 11 = .pointer (some ⟨b141, 0, none⟩) := hr0 11 (by kernel_rfl)
                  obtain ⟨ρ145, rfl⟩ := reopen_ex (uc q11 un)
                  clear q11
                  refine JL_run rfl (Pu_load ty66 rfl (At.bx 10 (made_old ((hB 1 (by decide)).trans rfl))) (sub_a hO140.len) ?_)
                  refine JL_nil ?_
                  exact ⟨.agg ⟨cs140⟩, [], rfl, (Sub.emp Sub.refl), rfl⟩
                 ·intro ρ r142 N142 B hB hBa hp hr hr0
                  have q7 : ρ 7 = .func (.func 55) ⟨[]⟩ ⟨[.pointer (some ⟨b1, 0, none⟩), .pointer (some ⟨b2, 0, none⟩), .pointer (some ⟨b3, 0, none⟩)]⟩ := hr0 7 (by kernel_rfl)
                  obtain ⟨ρ146, rfl⟩ := reopen_ex (uc q7 un)
                  clear q7
                  refine JL_pure (v := .func (.func 55) ⟨[]⟩ ⟨[.pointer (some ⟨b1, 0, none⟩), .pointer (some ⟨b2, 0, none⟩), .pointer (some ⟨b3, 0, none⟩)]⟩) rfl (Pu.move rfl) ?_
                  refine JL_nil ?_
                  exact ⟨.func (.func 55) ⟨[]⟩ ⟨[.pointer (some ⟨b1, 0, none⟩), .pointer (some ⟨b2, 0, none⟩), .pointer (some ⟨b3, 0, none⟩)]⟩, [], rfl, (Sub.emp Sub.refl), rfl⟩
                 ·intro ρ r142 N142 B hB hBa hp hr hr0
                  have q11 : ρ 11 = .pointer (some ⟨b141, 0, none⟩) := hr0 11 (by kernel_rfl)
                  obtain ⟨ρ147, rfl⟩ := reopen_ex (uc q11 un)
                  clear q11
                  refine JL_run rfl (Pu_load ty66 rfl (At.bx 10 (made_old ((hB 1 (by decide)).trans rfl))) (sub_a hO140.len) ?_)
                  refine JL_nil ?_
                  exact ⟨.agg ⟨cs140⟩, [], rfl, (Sub.emp Sub.refl), rfl⟩
                 ·intro ρ r142 N142 B hB hBa hp hr hr0
                  have p4 : (r142 4) = .agg ⟨cs140⟩ := hp 4 (by decide) rfl
                  have q187 : ρ 187 = .agg ⟨cs140⟩ := (hr 4 _ _ (by decide) rfl rfl rfl).trans p4
                  obtain ⟨ρ148, rfl⟩ := reopen_ex (uc q187 un)
                  clear q187
                  refine JL_call rfl Try.call67 rfl (fun hin => bindsK_ct _ _ _ (hO140.rd (hin 11 _ (made_old ((hB 2 (by decide)).trans rfl)))) hg140.1 (by have e := binds_le p140_; have e2 := hg140.2; simp [pz] at e2; omega)) rfl ?_
                  rintro _ _ ⟨rfl, rfl⟩
                  refine JL_nil ?_
                  exact ⟨.int .i64 ((binds (p140_) : Int)), [], rfl, (Sub.emp Sub.refl), rfl⟩
                 ·intro ρ r142 N142 B hB hBa hp hr hr0
                  have p3 : (r142 3) = .func (.func 55) ⟨[]⟩ ⟨[.pointer (some ⟨b1, 0, none⟩), .pointer (some ⟨b2, 0, none⟩), .pointer (some ⟨b3, 0, none⟩)]⟩ := hp 3 (by decide) rfl
                  have p5 : (r142 5) = .int .i64 ((binds (p140_) : Int)) := hp 5 (by decide) rfl
                  have q186 : ρ 186 = .func (.func 55) ⟨[]⟩ ⟨[.pointer (some ⟨b1, 0, none⟩), .pointer (some ⟨b2, 0, none⟩), .pointer (some ⟨b3, 0, none⟩)]⟩ := (hr 3 _ _ (by decide) rfl rfl rfl).trans p3
                  have q188 : ρ 188 = .int .i64 ((binds (p140_) : Int)) := (hr 5 _ _ (by decide) rfl rfl rfl).trans p5
                  obtain ⟨ρ149, rfl⟩ := reopen_ex (uc q186 (uc q188 un))
                  clear q186 q188
                  have hB2 := hBa rfl
                  change B = [([(bM, .cells ⟨[.pointer (some ⟨bS, 0, none⟩), .int .i64 (lw)]⟩ 87 (0, 0))]) ++ ([(bS, .cells ⟨[v, .int .i64 (a140), .int .u64 (s140)]⟩ 45 (0, 0))]), [(b141, .cells ⟨cs140⟩ 66 (0, 0))], k140, [(b128, .cells ⟨pkT (9) (0) (zS) (sv127) (w)⟩ 30 (0, 0))], k1, k2, k127, k126, [(b4, .cells ⟨pkT (0) (0) (zS) (.slice none 0 0) (.slice none 0 0)⟩ 30 (0, 0))], [(b3, .cells ⟨[.int .i64 (m)]⟩ 3 (0, 0))], [(b2, .cells ⟨[.int .i64 (d)]⟩ 3 (0, 0))], [(b1, .cells ⟨[.pointer (some ⟨bM, 0, none⟩)]⟩ 85 (0, 0))]] at hB2
                  subst hB2
                  refine JL_sub (M' := [(N142 0), (N142 1), (N142 2), (N142 3), (N142 4), (N142 5), [], (N142 7), (N142 8), ([(bM, .cells ⟨[.pointer (some ⟨bS, 0, none⟩), .int .i64 (lw)]⟩ 87 (0, 0))]) ++ ([(bS, .cells ⟨[v, .int .i64 (a140), .int .u64 (s140)]⟩ 45 (0, 0))]), [(b141, .cells ⟨cs140⟩ 66 (0, 0))], k140, [(b128, .cells ⟨pkT (9) (0) (zS) (sv127) (w)⟩ 30 (0, 0))], k1, k2, k127, k126, [(b4, .cells ⟨pkT (0) (0) (zS) (.slice none 0 0) (.slice none 0 0)⟩ 30 (0, 0))], [(b3, .cells ⟨[.int .i64 (m)]⟩ 3 (0, 0))], [(b2, .cells ⟨[.int .i64 (d)]⟩ 3 (0, 0))], [(b1, .cells ⟨[.pointer (some ⟨bM, 0, none⟩)]⟩ 85 (0, 0))]]) Sub.refl ?_
                  refine JL_call1 9 rfl Try.call55 rfl rfl (fun hin => one_ct _ _ _ _ _ _ _ _ _ _ _ _ _ _ (RBs.mono (Hle.hu _ _) hv) (hin 19 _ rfl _ _ List.mem_cons_self) (hin 18 _ rfl _ _ List.mem_cons_self) (hin 17 _ rfl _ _ List.mem_cons_self) (by omega) (by omega) (by omega) (by omega) (fun h hh => ih _ (by omega) _ _ _ _ _ _ _ _ _ _ rfl (RBs.mono hh (RBs.mono (Hle.hu _ _) hv)) (by omega) (by omega) (by omega) (by omega) (by omega) (by omega) (by omega) (by omega))) rfl ?_
                  rintro _ _ ⟨t150, cs150, k150, l150, a150, s150, rfl, rfl, hO150, ⟨hn150, hz150⟩, hl150, ha150⟩
                  refine JL_sub (M' := [[(bM, .cells ⟨[.pointer (some ⟨bS, 0, none⟩), .int .i64 (l150)]⟩ 87 (0, 0))], [(bS, .cells ⟨[v, .int .i64 (a150), .int .u64 (s150)]⟩ 45 (0, 0))], k150, (N142 0), (N142 1), (N142 2), (N142 3), (N142 4), (N142 5), [], (N142 7), (N142 8), [(b141, .cells ⟨cs140⟩ 66 (0, 0))], k140, [(b128, .cells ⟨pkT (9) (0) (zS) (sv127) (w)⟩ 30 (0, 0))], k1, k2, k127, k126, [(b4, .cells ⟨pkT (0) (0) (zS) (.slice none 0 0) (.slice none 0 0)⟩ 30 (0, 0))], [(b3, .cells ⟨[.int .i64 (m)]⟩ 3 (0, 0))], [(b2, .cells ⟨[.int .i64 (d)]⟩ 3 (0, 0))], [(b1, .cells ⟨[.pointer (some ⟨bM, 0, none⟩)]⟩ 85 (0, 0))]]) (Sub.flat Sub.refl (by simp)) ?_
                  refine JL_nil ?_
                  exact ⟨.agg ⟨cs150⟩, ([(bM, .cells ⟨[.pointer (some ⟨bS, 0, none⟩), .int .i64 (l150)]⟩ 87 (0, 0))]) ++ (([(bS, .cells ⟨[v, .int .i64 (a150), .int .u64 (s150)]⟩ 45 (0, 0))]) ++ (k150)), rfl, (Sub.flat (M' := [(N142 0), (N142 1), (N142 2), (N142 3), (N142 4), (N142 5), [], (N142 7), (N142 8), ([(bM, .cells ⟨[.pointer (some ⟨bS, 0, none⟩), .int .i64 (l150)]⟩ 87 (0, 0))]) ++ (([(bS, .cells ⟨[v, .int .i64 (a150), .int .u64 (s150)]⟩ 45 (0, 0))]) ++ (k150)), [(b141, .cells ⟨cs140⟩ 66 (0, 0))], k140, [(b128, .cells ⟨pkT (9) (0) (zS) (sv127) (w)⟩ 30 (0, 0))], k1, k2, k127, k126, [(b4, .cells ⟨pkT (0) (0) (zS) (.slice none 0 0) (.slice none 0 0)⟩ 30 (0, 0))], [(b3, .cells ⟨[.int .i64 (m)]⟩ 3 (0, 0))], [(b2, .cells ⟨[.int .i64 (d)]⟩ 3 (0, 0))], [(b1, .cells ⟨[.pointer (some ⟨bM, 0, none⟩)]⟩ 85 (0, 0))]]) (Sub.cons 3 rfl (Sub.cons 3 rfl (Sub.cons 3 rfl (Sub.cons 3 rfl (Sub.cons 3 rfl (Sub.cons 3 rfl (Sub.emp (Sub.cons 4 rfl (Sub.cons 4 rfl (Sub.join3 (Sk (Sk (Sk (Sd (Sk (Sk (Sk (Sk (Sk (Sk (Sk (Sk (Sk (Sk (Sk Sub.nil))))))))))))))))))))))))) rfl), ⟨rfl, hO150.len, hO150.ok, t150, k150, l150, a150, s150, rfl, hO150, ⟨hn150, hz150⟩, hl150, ha150⟩⟩
                 ·intro ρ r142 N142 B hB hBa hp hr hr0
                  have p2 : (r142 2) = .agg ⟨cs140⟩ := hp 2 (by decide) rfl
                  have p6 : (r142 6) = .agg ⟨(cll (r142 6))⟩ ∧ (cll (r142 6)).length = 36 ∧ okc (cll (r142 6)) ∧ ∃ tM kM lM aM sM, (N142 6) = ([(bM, .cells ⟨[.pointer (some ⟨bS, 0, none⟩), .int .i64 (lM)]⟩ 87 (0, 0))]) ++ (([(bS, .cells ⟨[v, .int .i64 (aM), .int .u64 (sM)]⟩ 45 (0, 0))]) ++ (kM)) ∧ OT tM (cll (r142 6)) kM ∧ (nErr (d + ((binds (p140_) : Int))) m 0 tM = 0 ∧ (sizeT tM : Int) ≤ 20 * (lw - lM)) ∧ (lM ≤ lw - 1 ∧ (lw ≤ 1 → lM = lw - 1) ∧ (1 ≤ lw → -3 * (lw - 1) ≤ lM)) ∧ (a140 ≤ aM ∧ aM ≤ a140 + 100 * (lw - lM)) := hp 6 (by decide) rfl
                  have q185 : ρ 185 = .agg ⟨cs140⟩ := (hr 2 _ _ (by decide) rfl rfl rfl).trans p2
                  have q189 : ρ 189 = .agg ⟨(cll (r142 6))⟩ := (hr 6 _ _ (by decide) rfl rfl rfl).trans p6.1
                  obtain ⟨ρ151, rfl⟩ := reopen_ex (uc q185 (uc q189 un))
                  clear q185 q189
                  refine JL_call rfl Try.call66 rfl (fun hin => caD_ct _ _ hO140.len hO140.ok p6.2.1 p6.2.2.1 _) rfl ?_
                  rintro _ _ ⟨rfl, rfl⟩
                  refine JL_nil ?_
                  exact ⟨.agg ⟨(cs140) ++ ((cll (r142 6)))⟩, [], rfl, (Sub.emp Sub.refl), rfl⟩
                 ·intro ρ r142 N142 B hB hBa hp hr hr0
                  have p6 : (r142 6) = .agg ⟨(cll (r142 6))⟩ ∧ (cll (r142 6)).length = 36 ∧ okc (cll (r142 6)) ∧ ∃ tM kM lM aM sM, (N142 6) = ([(bM, .cells ⟨[.pointer (some ⟨bS, 0, none⟩), .int .i64 (lM)]⟩ 87 (0, 0))]) ++ (([(bS, .cells ⟨[v, .int .i64 (aM), .int .u64 (sM)]⟩ 45 (0, 0))]) ++ (kM)) ∧ OT tM (cll (r142 6)) kM ∧ (nErr (d + ((binds (p140_) : Int))) m 0 tM = 0 ∧ (sizeT tM : Int) ≤ 20 * (lw - lM)) ∧ (lM ≤ lw - 1 ∧ (lw ≤ 1 → lM = lw - 1) ∧ (1 ≤ lw → -3 * (lw - 1) ≤ lM)) ∧ (a140 ≤ aM ∧ aM ≤ a140 + 100 * (lw - lM)) := hp 6 (by decide) rfl
                  have p7 : (r142 7) = .agg ⟨(cs140) ++ ((cll (r142 6)))⟩ := hp 7 (by decide) rfl
                  have q190 : ρ 190 = .agg ⟨(cs140) ++ ((cll (r142 6)))⟩ := (hr 7 _ _ (by decide) rfl rfl rfl).trans p7
                  obtain ⟨ρ152, rfl⟩ := reopen_ex (uc q190 un)
                  clear q190
                  refine JL_run rfl (Runs_buildSlice (vs := [.agg ⟨(cs140) ++ ((cll (r142 6)))⟩]) [(cs140) ++ ((cll (r142 6)))] Try.runUnderlying28 el68 rfl rfl (by intro e he; simp only [List.mem_cons, List.not_mem_nil, or_false] at he; subst he; exact (len_app hO140.len p6.2.1)) rfl (by decide) fun b153 k153 ho153 hk153 => ?_)
                  refine JL_nil ?_
                  exact ⟨.slice (some ⟨b153, 0, none⟩) 1 1, k153, rfl, Sub.refl, ⟨rfl, hk153, ho153⟩⟩
                 ·intro ρ r142 N142 hp hr hr0
                  have p6 : (r142 6) = .agg ⟨(cll (r142 6))⟩ ∧ (cll (r142 6)).length = 36 ∧ okc (cll (r142 6)) ∧ ∃ tM kM lM aM sM, (N142 6) = ([(bM, .cells ⟨[.pointer (some ⟨bS, 0, none⟩), .int .i64 (lM)]⟩ 87 (0, 0))]) ++ (([(bS, .cells ⟨[v, .int .i64 (aM), .int .u64 (sM)]⟩ 45 (0, 0))]) ++ (kM)) ∧ OT tM (cll (r142 6)) kM ∧ (nErr (d + ((binds (p140_) : Int))) m 0 tM = 0 ∧ (sizeT tM : Int) ≤ 20 * (lw - lM)) ∧ (lM ≤ lw - 1 ∧ (lw ≤ 1 → lM = lw - 1) ∧ (1 ≤ lw → -3 * (lw - 1) ≤ lM)) ∧ (a140 ≤ aM ∧ aM ≤ a140 + 100 * (lw - lM)) := hp 6 (by decide)
                  have p8 : (r142 8) = .slice (some ⟨(sblk (r142 8)), 0, none⟩) 1 1 ∧ (N142 8) = [(sblk (r142 8), .cells ⟨List.flatten [(cs140) ++ ((cll (r142 6)))]⟩ 68 (0, 0))] ∧ Own 68 71 (.slice (some ⟨(sblk (r142 8)), 0, none⟩) 1 1) [(cs140) ++ ((cll (r142 6)))] (N142 8) := hp 8 (by decide)
                  have q3 : ρ 3 = .pointer (some ⟨b1, 0, none⟩) := hr0 3 (by kernel_rfl)
                  have q6 : ρ 6 = .pointer (some ⟨b4, 0, none⟩) := hr0 6 (by kernel_rfl)
                  have q7 : ρ 7 = .func (.func 55) ⟨[]⟩ ⟨[.pointer (some ⟨b1, 0, none⟩), .pointer (some ⟨b2, 0, none⟩), .pointer (some ⟨b3, 0, none⟩)]⟩ := hr0 7 (by kernel_rfl)
                  have q10 : ρ 10 = .pointer (some ⟨b128, 0, none⟩) := hr0 10 (by kernel_rfl)
                  have q175 : ρ 175 = .int .i64 (n129) := hr0 175 (by kernel_rfl)
                  have q176 : ρ 176 = .int .i64 ((j : Int)) := hr0 176 (by kernel_rfl)
                  have q184 : ρ 184 = w := (hr 1 _ _ (by decide) rfl rfl).trans (hp 1 (by decide))
                  have q191 : ρ 191 = .slice (some ⟨(sblk (r142 8)), 0, none⟩) 1 1 := (hr 8 _ _ (by decide) rfl rfl).trans p8.1
                  obtain ⟨ρ154, rfl⟩ := reopen_ex (uc q3 (uc q6 (uc q7 (uc q10 (uc q175 (uc q176 (uc q184 (uc q191 un))))))))
                  clear q3 q6 q7 q10 q175 q176 q184 q191
                  have p142_6 := p6; have p142_8 := p8
                  clear hp hr hr0 p6 p8
                  refine JL_sub (M' := [(N142 0), (N142 1), (N142 2), (N142 3), (N142 4), (N142 5), [], (N142 7), (N142 8), (N142 6), [(b141, .cells ⟨cs140⟩ 66 (0, 0))], k140, [(b128, .cells ⟨pkT (9) (0) (zS) (sv127) (w)⟩ 30 (0, 0))], k1, k2, k127, k126, [(b4, .cells ⟨pkT (0) (0) (zS) (.slice none 0 0) (.slice none 0 0)⟩ 30 (0, 0))], [(b3, .cells ⟨[.int .i64 (m)]⟩ 3 (0, 0))], [(b2, .cells ⟨[.int .i64 (d)]⟩ 3 (0, 0))], [(b1, .cells ⟨[.pointer (some ⟨bM, 0, none⟩)]⟩ 85 (0, 0))]]) Sub.refl ?_
                  obtain ⟨tM142_6, kM142_6, lM142_6, aM142_6, sM142_6, hNM142_6, hOM142_6, ⟨hnM142_6, hzM142_6⟩, hlM142_6, haM142_6⟩ := p142_6.2.2.2
                  refine JL_sub (M' := [(N142 8), ([(bM, .cells ⟨[.pointer (some ⟨bS, 0, none⟩), .int .i64 (lM142_6)]⟩ 87 (0, 0))]) ++ (([(bS, .cells ⟨[v, .int .i64 (aM142_6), .int .u64 (sM142_6)]⟩ 45 (0, 0))]) ++ (kM142_6)), [(b141, .cells ⟨cs140⟩ 66 (0, 0))], k140, [(b128, .cells ⟨pkT (9) (0) (zS) (sv127) (w)⟩ 30 (0, 0))], k1, k2, k127, k126, [(b4, .cells ⟨pkT (0) (0) (zS) (.slice none 0 0) (.slice none 0 0)⟩ 30 (0, 0))], [(b3, .cells ⟨[.int .i64 (m)]⟩ 3 (0, 0))], [(b2, .cells ⟨[.int .i64 (d)]⟩ 3 (0, 0))], [(b1, .cells ⟨[.pointer (some ⟨bM, 0, none⟩)]⟩ 85 (0, 0))]]) (Sd (Sd (Sd (Sd (Sd (Sd (Sd (Sd (Sk (Se hNM142_6 (Sk (Sk (Sk (Sk (Sk (Sk (Sk (Sk (Sk (Sk (Sk Sub.nil))))))))))))))))))))) ?_
                  refine JL_sub (M' := [(N142 8), [(bM, .cells ⟨[.pointer (some ⟨bS, 0, none⟩), .int .i64 (lM142_6)]⟩ 87 (0, 0))], [(bS, .cells ⟨[v, .int .i64 (aM142_6), .int .u64 (sM142_6)]⟩ 45 (0, 0))], kM142_6, [(b141, .cells ⟨cs140⟩ 66 (0, 0))], k140, [(b128, .cells ⟨pkT (9) (0) (zS) (sv127) (w)⟩ 30 (0, 0))], k1, k2, k127, k126, [(b4, .cells ⟨pkT (0) (0) (zS) (.slice none 0 0) (.slice none 0 0)⟩ 30 (0, 0))], [(b3, .cells ⟨[.int .i64 (m)]⟩ 3 (0, 0))], [(b2, .cells ⟨[.int .i64 (d)]⟩ 3 (0, 0))], [(b1, .cells ⟨[.pointer (some ⟨bM, 0, none⟩)]⟩ 85 (0, 0))]]) (Sub.flat Sub.refl (by simp)) ?_
                  show JL _ _ _ [_, _, _] _ _ _
                  have hlens155 : ∀ e ∈ ([(cs140) ++ ((cll (r142 6)))] : List (List Value)), List.length e = 71 := by
                   intro e he; simp only [List.mem_cons, List.not_mem_nil, or_false] at he
                   rcases he with rfl
                   ·exact (len_app hO140.len p142_6.2.1)
                  have hoks155 : ∀ e ∈ ([(cs140) ++ ((cll (r142 6)))] : List (List Value)), okc e := by
                   intro e he; simp only [List.mem_cons, List.not_mem_nil, or_false] at he
                   rcases he with rfl
                   ·exact (okc_app hO140.ok p142_6.2.2.1)
                  refine JL_run rfl (Runs_append (i := 7) (n := 1) (es' := [(cs140) ++ ((cll (r142 6)))]) Try.runUnderlying28 Try.runUnderlying28 (Or.inl rfl) el68 rfl rfl rfl how (fun F w m => Src.row (((At.k 0 rfl (by rw [p142_8.2.1]; exact List.mem_cons_self))).heap m) (sub_a (flatten_len hlens155))) rfl hlens155 hoks155 (by decide) (by omega) fun v155 k155 ho155 => ?_)
                  refine JL_pure (v := .pointer (some ⟨b128, 35, none⟩)) rfl (fa30_4 rfl rfl) ?_
                  refine JL_run rfl (Runs_storeB 6 (vs := [v155]) (l := pkT (9) (0) (zS) (sv127) (v155)) ty28 rfl rfl rfl (cells_one ho155.one) rfl (okc_cons ho155.one okc_nil) (pkT_s35 ..) ?_)
                  refine JL_nil ?_
                  refine J_region ?_
                  refine JL_pure (v := .int .i64 (((j + 1 : Nat) : Int))) rfl (Pu.inc rfl rfl (by omega)) ?_
                  refine JL_pure (v := .int .i64 (((j + 1 : Nat) : Int))) rfl (Pu.move rfl) ?_
                  refine JL_nil ?_
                  refine ⟨_, ?_, (j + 1), (cs5 ++ [(p140_, tM142_6)]), (v155), (es ++ [(cs140) ++ ((cll (r142 6)))]), (k155), ((k2) ++ ((k140) ++ (kM142_6))), (lM142_6), (aM142_6), (sM142_6), rfl, rfl, rfl, rfl, rfl, rfl, (Sd (Sub.cons 5 rfl (Sub.cons 5 rfl (Sub.join3 (Sub.cons 5 rfl (Sub.cons 4 rfl (Sub.cons 2 rfl (Sk (Sk (Sd (Sk (Sk (Sk (Sk (Sk (Sk Sub.nil)))))))))))))))), ?_, ?_, ?_, ?_, ?_, ?_, ?_, ?_, ?_, rfl⟩
                  ·omega
                  ·omega
                  ·exact ho155
                  ·exact OCs.snoc hO140 hOM142_6 hopw
                  ·simp; omega
                  ·exact pErrRC_snoc hpe hg140.1
                  ·exact nErrC_mat hpc hnM142_6
                  ·have := hg140.2; rw [sizeCs_snoc]; simp [pz] at this; omega
                  ·omega
                  ·omega
                ·skip
                 replace h139 := df h139
                 refine J_exit _ rfl ?_
                 refine J_seq ?_
                 refine J_region ?_
                 refine JL_run rfl (Pu_load ty30 rfl (At.bx 0 rfl) (pkT_a ..) ?_)
                 refine JL_run rfl (Runs_storeB 7 (vs := pkT (9) (0) (zS) (sv127) (w)) (l := pkT (9) (0) (zS) (sv127) (w)) ty30 rfl rfl rfl rfl rfl (pkT_ok ho127.one how.one) (pkT_s ..) ?_)
                 refine JL_nil ?_
                 refine J_ret ?_
                 refine ⟨.agg ⟨pkT (9) (0) (zS) (sv127) (w)⟩, [([(bM, .cells ⟨[.pointer (some ⟨bS, 0, none⟩), .int .i64 (lw)]⟩ 87 (0, 0))]) ++ ([(bS, .cells ⟨[v, .int .i64 (aw), .int .u64 (sw)]⟩ 45 (0, 0))]), (k127) ++ ((k126) ++ ((k1) ++ (k2)))], Ret.one rfl (RV.cell ty30 rfl (At.bx 7 rfl) (pkT_a ..)), (Sub.join (Sd (Sub.cons 2 rfl (Sub.cons 2 rfl (Sub.join4 (Sub.cons 2 rfl (Sub.cons 2 rfl (Sk (Sk Sub.nil))))))))), ?_⟩
                 exact ⟨.mk 9 0 zS [t126] cs5, _, _, _, _, _, rfl, rfl, OT_mk.2 ⟨_, w, _, es, _, _, k1, k2, rfl, (by unfold inI; omega), (by unfold inI; omega), ho127, OTs1 hO126, how, hopw, rfl, by simp, by omega⟩, ⟨nErr_mat (by omega) (by simpa using hn126) hpe hpc, by simp only [eVa, eNu, sizeT, sizeTs, sizeCs]; omega⟩, by omega, by omega⟩
               ·skip
                replace h125 := df h125
                refine J_skip ?_
                refine J_seq ?_
                refine J_drawM mixed #[0, 1, 3, 7, 15, 0, 32, 96, 224, 511, 1023, 0, 4095] 12 0 [4, 9] rfl (by kernel_rfl) (by decide) rfl (by kernel_rfl) (fun i r156 N156 => match i with | 0 => (r156 0) = .pointer (some ⟨bM, 0, none⟩) | 1 => (r156 1) = .pointer (some ⟨bM, 0, none⟩) | 2 => (r156 2) = .pointer (some ⟨bM, 0, none⟩) | 3 => (r156 3) = .pointer (some ⟨bS, 0, none⟩) | 4 => (r156 4) = .agg ⟨sC ((sml (r156 4)))⟩ ∧ (N156 4) = [(bS, .cells ⟨[v, .int .i64 ((sth (N156 4) 1)), .int .u64 ((sth (N156 4) 2))]⟩ 45 (0, 0))] ∧ (aj ≤ sth (N156 4) 1 ∧ sth (N156 4) 1 ≤ aj + 1) | 5 => (r156 5) = .pointer (some ⟨bM, 0, none⟩) | 6 => (r156 6) = .pointer (some ⟨bM, 0, none⟩) | 7 => (r156 7) = .pointer (some ⟨bM, 0, none⟩) | 8 => (r156 8) = .pointer (some ⟨bS, 0, none⟩) | 9 => (r156 9) = .int .i64 ((ivl (r156 9))) ∧ (N156 9) = [(bS, .cells ⟨[v, .int .i64 ((sth (N156 9) 1)), .int .u64 ((sth (N156 9) 2))]⟩ 45 (0, 0))] ∧ (0 ≤ (ivl (r156 9)) ∧ ((0 : Int) < 3 → (ivl (r156 9)) < 3) ∧ ((3 : Int) ≤ 0 → (ivl (r156 9)) = 0)) ∧ ((sth (N156 4) 1) ≤ sth (N156 9) 1 ∧ sth (N156 9) 1 ≤ (sth (N156 4) 1) + 1) | 10 => (r156 10) = .agg ⟨pkT (8) ((ivl (r156 9))) ((sml (r156 4))) (.slice none 0 0) (.slice none 0 0)⟩ | 11 => (r156 11) = .pointer (some ⟨(pblk (r156 11)), 0, none⟩) ∧ (N156 11) = [((pblk (r156 11)), .cells ⟨pkT (0) (0) (zS) (.slice none 0 0) (.slice none 0 0)⟩ 30 (0, 0))] | _ => True) ⟨?_, ?_, ?_, ?_, ?_, ?_, ?_, ?_, ?_, ?_, ?_, ?_, trivial⟩ ?_
                ·intro ρ r156 N156 B hB hBa hp hr hr0
                 have q3 : ρ 3 = .pointer (some ⟨b1, 0, none⟩) := hr0 3 (by kernel_rfl)
                 obtain ⟨ρ157, rfl⟩ := reopen_ex (uc q3 un)
                 clear q3
                 refine JL_run rfl (Pu_load1 ty85 rfl (At.bx 16 (made_old ((hB 4 (by decide)).trans rfl))) rfl ?_)
                 refine JL_nil ?_
                 exact ⟨.pointer (some ⟨bM, 0, none⟩), [], rfl, (Sub.emp Sub.refl), rfl⟩
                ·intro ρ r156 N156 B hB hBa hp hr hr0
                 have p0 : (r156 0) = .pointer (some ⟨bM, 0, none⟩) := hp 0 (by decide) rfl
                 have q196 : ρ 196 = .pointer (some ⟨bM, 0, none⟩) := (hr 0 _ _ (by decide) rfl rfl rfl).trans p0
                 obtain ⟨ρ158, rfl⟩ := reopen_ex (uc q196 un)
                 clear q196
                 refine JL_pure (v := .pointer (some ⟨bM, 0, none⟩)) rfl (Pu.nilCheck rfl) ?_
                 refine JL_nil ?_
                 exact ⟨.pointer (some ⟨bM, 0, none⟩), [], rfl, (Sub.emp Sub.refl), rfl⟩
                ·intro ρ r156 N156 B hB hBa hp hr hr0
                 have p1 : (r156 1) = .pointer (some ⟨bM, 0, none⟩) := hp 1 (by decide) rfl
                 have q197 : ρ 197 = .pointer (some ⟨bM, 0, none⟩) := (hr 1 _ _ (by decide) rfl rfl rfl).trans p1
                 obtain ⟨ρ159, rfl⟩ := reopen_ex (uc q197 un)
                 clear q197
                 refine JL_pure (v := .pointer (some ⟨bM, 0, none⟩)) rfl (fa87_0 rfl rfl) ?_
                 refine JL_nil ?_
                 exact ⟨.pointer (some ⟨bM, 0, none⟩), [], rfl, (Sub.emp Sub.refl), rfl⟩
                ·intro ρ r156 N156 B hB hBa hp hr hr0
                 have p2 : (r156 2) = .pointer (some ⟨bM, 0, none⟩) := hp 2 (by decide) rfl
                 have q198 : ρ 198 = .pointer (some ⟨bM, 0, none⟩) := (hr 2 _ _ (by decide) rfl rfl rfl).trans p2
                 obtain ⟨ρ160, rfl⟩ := reopen_ex (uc q198 un)
                 clear q198
                 refine JL_run rfl (Pu_load1 ty23 rfl (At.bx 17 (made_old ((hB 5 (by decide)).trans rfl))) rfl ?_)
                 refine JL_nil ?_
                 exact ⟨.pointer (some ⟨bS, 0, none⟩), [], rfl, (Sub.emp Sub.refl), rfl⟩
                ·intro ρ r156 N156 B hB hBa hp hr hr0
                 have p3 : (r156 3) = .pointer (some ⟨bS, 0, none⟩) := hp 3 (by decide) rfl
                 have q199 : ρ 199 = .pointer (some ⟨bS, 0, none⟩) := (hr 3 _ _ (by decide) rfl rfl rfl).trans p3
                 obtain ⟨ρ161, rfl⟩ := reopen_ex (uc q199 un)
                 clear q199
                 have hB2 := hBa rfl
                 change B = [[(bS, .cells ⟨[v, .int .i64 (aj), .int .u64 (sj)]⟩ 45 (0, 0))], [(b4, .cells ⟨pkT (0) (0) (zS) (.slice none 0 0) (.slice none 0 0)⟩ 30 (0, 0))], [(b3, .cells ⟨[.int .i64 (m)]⟩ 3 (0, 0))], [(b2, .cells ⟨[.int .i64 (d)]⟩ 3 (0, 0))], [(b1, .cells ⟨[.pointer (some ⟨bM, 0, none⟩)]⟩ 85 (0, 0))], [(bM, .cells ⟨[.pointer (some ⟨bS, 0, none⟩), .int .i64 (L - 1)]⟩ 87 (0, 0))]] at hB2
                 subst hB2
                 refine JL_sub (M' := [(N156 0), (N156 1), (N156 2), (N156 3), [], (N156 5), (N156 6), (N156 7), (N156 8), [], (N156 10), (N156 11), [(bS, .cells ⟨[v, .int .i64 (aj), .int .u64 (sj)]⟩ 45 (0, 0))], [(b4, .cells ⟨pkT (0) (0) (zS) (.slice none 0 0) (.slice none 0 0)⟩ 30 (0, 0))], [(b3, .cells ⟨[.int .i64 (m)]⟩ 3 (0, 0))], [(b2, .cells ⟨[.int .i64 (d)]⟩ 3 (0, 0))], [(b1, .cells ⟨[.pointer (some ⟨bM, 0, none⟩)]⟩ 85 (0, 0))], [(bM, .cells ⟨[.pointer (some ⟨bS, 0, none⟩), .int .i64 (L - 1)]⟩ 87 (0, 0))]]) Sub.refl ?_
                 refine JL_call1 12 rfl Try.call59 rfl rfl (fun hin => sum_ct _ _ _ _ _ _ (RBs.mono (Hle.hu _ _) hv) (by omega) (by omega) _ _ (by omega) (by omega) (by omega)) rfl ?_
                 rintro _ _ ⟨n162, a162, s162, rfl, rfl, ha162⟩
                 refine JL_nil ?_
                 exact ⟨.agg ⟨sC (n162)⟩, [(bS, .cells ⟨[v, .int .i64 (a162), .int .u64 (s162)]⟩ 45 (0, 0))], rfl, (Sub.flat (M' := [(N156 0), (N156 1), (N156 2), (N156 3), [], (N156 5), (N156 6), (N156 7), (N156 8), [], (N156 10), (N156 11), [(bS, .cells ⟨[v, .int .i64 (a162), .int .u64 (s162)]⟩ 45 (0, 0))], [(b4, .cells ⟨pkT (0) (0) (zS) (.slice none 0 0) (.slice none 0 0)⟩ 30 (0, 0))], [(b3, .cells ⟨[.int .i64 (m)]⟩ 3 (0, 0))], [(b2, .cells ⟨[.int .i64 (d)]⟩ 3 (0, 0))], [(b1, .cells ⟨[.pointer (some ⟨bM, 0, none⟩)]⟩ 85 (0, 0))], [(bM, .cells ⟨[.pointer (some ⟨bS, 0, none⟩), .int .i64 (L - 1)]⟩ 87 (0, 0))]]) (Sub.cons 1 rfl (Sub.cons 1 rfl (Sub.cons 1 rfl (Sub.cons 1 rfl (Sub.emp (Sub.cons 2 rfl (Sub.cons 2 rfl (Sub.cons 2 rfl (Sub.cons 2 rfl (Sub.emp (Sub.cons 3 rfl (Sub.cons 3 rfl (Sk (Sd (Sd (Sk (Sk (Sk (Sk (Sk Sub.nil)))))))))))))))))))) rfl), ⟨sml_eq _, rfl, ha162⟩⟩
                ·intro ρ r156 N156 B hB hBa hp hr hr0
                 have q3 : ρ 3 = .pointer (some ⟨b1, 0, none⟩) := hr0 3 (by kernel_rfl)
                 obtain ⟨ρ163, rfl⟩ := reopen_ex (uc q3 un)
                 clear q3
                 refine JL_run rfl (Pu_load1 ty85 rfl (At.bx 16 (made_old ((hB 4 (by decide)).trans rfl))) rfl ?_)
                 refine JL_nil ?_
                 exact ⟨.pointer (some ⟨bM, 0, none⟩), [], rfl, (Sub.emp Sub.refl), rfl⟩
                ·intro ρ r156 N156 B hB hBa hp hr hr0
                 have p5 : (r156 5) = .pointer (some ⟨bM, 0, none⟩) := hp 5 (by decide) rfl
                 have q201 : ρ 201 = .pointer (some ⟨bM, 0, none⟩) := (hr 5 _ _ (by decide) rfl rfl rfl).trans p5
                 obtain ⟨ρ164, rfl⟩ := reopen_ex (uc q201 un)
                 clear q201
                 refine JL_pure (v := .pointer (some ⟨bM, 0, none⟩)) rfl (Pu.nilCheck rfl) ?_
                 refine JL_nil ?_
                 exact ⟨.pointer (some ⟨bM, 0, none⟩), [], rfl, (Sub.emp Sub.refl), rfl⟩
                ·intro ρ r156 N156 B hB hBa hp hr hr0
                 have p6 : (r156 6) = .pointer (some ⟨bM, 0, none⟩) := hp 6 (by decide) rfl
                 have q202 : ρ 202 = .pointer (some ⟨bM, 0, none⟩) := (hr 6 _ _ (by decide) rfl rfl rfl).trans p6
                 obtain ⟨ρ165, rfl⟩ := reopen_ex (uc q202 un)
                 clear q202
                 refine JL_pure (v := .pointer (some ⟨bM, 0, none⟩)) rfl (fa87_0 rfl rfl) ?_
                 refine JL_nil ?_
                 exact ⟨.pointer (some ⟨bM, 0, none⟩), [], rfl, (Sub.emp Sub.refl), rfl⟩
                ·intro ρ r156 N156 B hB hBa hp hr hr0
                 have p7 : (r156 7) = .pointer (some ⟨bM, 0, none⟩) := hp 7 (by decide) rfl
                 have q203 : ρ 203 = .pointer (some ⟨bM, 0, none⟩) := (hr 7 _ _ (by decide) rfl rfl rfl).trans p7
                 obtain ⟨ρ166, rfl⟩ := reopen_ex (uc q203 un)
                 clear q203
                 refine JL_run rfl (Pu_load1 ty23 rfl (At.bx 17 (made_old ((hB 5 (by decide)).trans rfl))) rfl ?_)
                 refine JL_nil ?_
                 exact ⟨.pointer (some ⟨bS, 0, none⟩), [], rfl, (Sub.emp Sub.refl), rfl⟩
                ·intro ρ r156 N156 B hB hBa hp hr hr0
                 have p4 : (r156 4) = .agg ⟨sC ((sml (r156 4)))⟩ ∧ (N156 4) = [(bS, .cells ⟨[v, .int .i64 ((sth (N156 4) 1)), .int .u64 ((sth (N156 4) 2))]⟩ 45 (0, 0))] ∧ (aj ≤ sth (N156 4) 1 ∧ sth (N156 4) 1 ≤ aj + 1) := hp 4 (by decide) rfl
                 have p8 : (r156 8) = .pointer (some ⟨bS, 0, none⟩) := hp 8 (by decide) rfl
                 have q204 : ρ 204 = .pointer (some ⟨bS, 0, none⟩) := (hr 8 _ _ (by decide) rfl rfl rfl).trans p8
                 obtain ⟨ρ167, rfl⟩ := reopen_ex (uc q204 un)
                 clear q204
                 have hB2 := hBa rfl
                 change B = [(N156 4), [(b4, .cells ⟨pkT (0) (0) (zS) (.slice none 0 0) (.slice none 0 0)⟩ 30 (0, 0))], [(b3, .cells ⟨[.int .i64 (m)]⟩ 3 (0, 0))], [(b2, .cells ⟨[.int .i64 (d)]⟩ 3 (0, 0))], [(b1, .cells ⟨[.pointer (some ⟨bM, 0, none⟩)]⟩ 85 (0, 0))], [(bM, .cells ⟨[.pointer (some ⟨bS, 0, none⟩), .int .i64 (L - 1)]⟩ 87 (0, 0))]] at hB2
                 subst hB2
                 refine JL_sub (M' := [(N156 0), (N156 1), (N156 2), (N156 3), [], (N156 5), (N156 6), (N156 7), (N156 8), [], (N156 10), (N156 11), (N156 4), [(b4, .cells ⟨pkT (0) (0) (zS) (.slice none 0 0) (.slice none 0 0)⟩ 30 (0, 0))], [(b3, .cells ⟨[.int .i64 (m)]⟩ 3 (0, 0))], [(b2, .cells ⟨[.int .i64 (d)]⟩ 3 (0, 0))], [(b1, .cells ⟨[.pointer (some ⟨bM, 0, none⟩)]⟩ 85 (0, 0))], [(bM, .cells ⟨[.pointer (some ⟨bS, 0, none⟩), .int .i64 (L - 1)]⟩ 87 (0, 0))]]) Sub.refl ?_
                 refine JL_sub (M' := [(N156 0), (N156 1), (N156 2), (N156 3), [], (N156 5), (N156 6), (N156 7), (N156 8), [], (N156 10), (N156 11), [(bS, .cells ⟨[v, .int .i64 ((sth (N156 4) 1)), .int .u64 ((sth (N156 4) 2))]⟩ 45 (0, 0))], [(b4, .cells ⟨pkT (0) (0) (zS) (.slice none 0 0) (.slice none 0 0)⟩ 30 (0, 0))], [(b3, .cells ⟨[.int .i64 (m)]⟩ 3 (0, 0))], [(b2, .cells ⟨[.int .i64 (d)]⟩ 3 (0, 0))], [(b1, .cells ⟨[.pointer (some ⟨bM, 0, none⟩)]⟩ 85 (0, 0))], [(bM, .cells ⟨[.pointer (some ⟨bS, 0, none⟩), .int .i64 (L - 1)]⟩ 87 (0, 0))]]) (Sk (Sk (Sk (Sk (Sub.emp (Sd (Sk (Sk (Sk (Sk (Sub.emp (Sd (Sk (Sk (Se p4.2.1 (Sk (Sk (Sk (Sk (Sk Sub.nil)))))))))))))))))))) ?_
                 refine JL_call1 12 rfl Try.call56 rfl rfl (fun hin => less_ct _ _ _ _ _ _ (RBs.mono (Hle.hu _ _) hv) (by omega) (by omega) _) rfl ?_
                 rintro _ _ ⟨n168, a168, s168, rfl, rfl, hn168, ha168⟩
                 refine JL_nil ?_
                 exact ⟨.int .i64 (n168), [(bS, .cells ⟨[v, .int .i64 (a168), .int .u64 (s168)]⟩ 45 (0, 0))], rfl, (Sub.flat (M' := [(N156 0), (N156 1), (N156 2), (N156 3), [], (N156 5), (N156 6), (N156 7), (N156 8), [], (N156 10), (N156 11), [(bS, .cells ⟨[v, .int .i64 (a168), .int .u64 (s168)]⟩ 45 (0, 0))], [(b4, .cells ⟨pkT (0) (0) (zS) (.slice none 0 0) (.slice none 0 0)⟩ 30 (0, 0))], [(b3, .cells ⟨[.int .i64 (m)]⟩ 3 (0, 0))], [(b2, .cells ⟨[.int .i64 (d)]⟩ 3 (0, 0))], [(b1, .cells ⟨[.pointer (some ⟨bM, 0, none⟩)]⟩ 85 (0, 0))], [(bM, .cells ⟨[.pointer (some ⟨bS, 0, none⟩), .int .i64 (L - 1)]⟩ 87 (0, 0))]]) (Sub.cons 1 rfl (Sub.cons 1 rfl (Sub.cons 1 rfl (Sub.cons 1 rfl (Sub.emp (Sub.cons 2 rfl (Sub.cons 2 rfl (Sub.cons 2 rfl (Sub.cons 2 rfl (Sub.emp (Sub.cons 3 rfl (Sub.cons 3 rfl (Sk (Sd (Sd (Sk (Sk (Sk (Sk (Sk Sub.nil)))))))))))))))))))) rfl), ⟨rfl, rfl, hn168, ha168⟩⟩
                ·intro ρ r156 N156 B hB hBa hp hr hr0
                 have p4 : (r156 4) = .agg ⟨sC ((sml (r156 4)))⟩ ∧ (N156 4) = [(bS, .cells ⟨[v, .int .i64 ((sth (N156 4) 1)), .int .u64 ((sth (N156 4) 2))]⟩ 45 (0, 0))] ∧ (aj ≤ sth (N156 4) 1 ∧ sth (N156 4) 1 ≤ aj + 1) := hp 4 (by decide) rfl
                 have p9 : (r156 9) = .int .i64 ((ivl (r156 9))) ∧ (N156 9) = [(bS, .cells ⟨[v, .int .i64 ((sth (N156 9) 1)), .int .u64 ((sth (N156 9) 2))]⟩ 45 (0, 0))] ∧ (0 ≤ (ivl (r156 9)) ∧ ((0 : Int) < 3 → (ivl (r156 9)) < 3) ∧ ((3 : Int) ≤ 0 → (ivl (r156 9)) = 0)) ∧ ((sth (N156 4) 1) ≤ sth (N156 9) 1 ∧ sth (N156 9) 1 ≤ (sth (N156 4) 1) + 1) := hp 9 (by decide) rfl
                 have q200 : ρ 200 = .agg ⟨sC ((sml (r156 4)))⟩ := (hr 4 _ _ (by decide) rfl rfl rfl).trans p4.1
                 have q205 : ρ 205 = .int .i64 ((ivl (r156 9))) := (hr 9 _ _ (by decide) rfl rfl rfl).trans p9.1
                 obtain ⟨ρ169, rfl⟩ := reopen_ex (uc q200 (uc q205 un))
                 clear q200 q205
                 refine JL_call rfl Try.call68 rfl (fun hin => co_ct _ _ none 0 0 _) rfl ?_
                 rintro _ _ ⟨rfl, rfl⟩
                 refine JL_nil ?_
                 exact ⟨.agg ⟨pkT (8) ((ivl (r156 9))) ((sml (r156 4))) (.slice none 0 0) (.slice none 0 0)⟩, [], rfl, (Sub.emp Sub.refl), rfl⟩
                ·intro ρ r156 N156 B hB hBa hp hr hr0
                 refine JL_run rfl (Runs_alloc (l := pkT (0) (0) (zS) (.slice none 0 0) (.slice none 0 0)) Try.zeroValue30 rfl fun b170 => ?_)
                 refine JL_nil ?_
                 exact ⟨.pointer (some ⟨b170, 0, none⟩), [(b170, .cells ⟨pkT (0) (0) (zS) (.slice none 0 0) (.slice none 0 0)⟩ 30 (0, 0))], rfl, Sub.refl, ⟨rfl, rfl⟩⟩
                ·intro ρ r156 N156 hp hr hr0
                 have p4 : (r156 4) = .agg ⟨sC ((sml (r156 4)))⟩ ∧ (N156 4) = [(bS, .cells ⟨[v, .int .i64 ((sth (N156 4) 1)), .int .u64 ((sth (N156 4) 2))]⟩ 45 (0, 0))] ∧ (aj ≤ sth (N156 4) 1 ∧ sth (N156 4) 1 ≤ aj + 1) := hp 4 (by decide)
                 have p9 : (r156 9) = .int .i64 ((ivl (r156 9))) ∧ (N156 9) = [(bS, .cells ⟨[v, .int .i64 ((sth (N156 9) 1)), .int .u64 ((sth (N156 9) 2))]⟩ 45 (0, 0))] ∧ (0 ≤ (ivl (r156 9)) ∧ ((0 : Int) < 3 → (ivl (r156 9)) < 3) ∧ ((3 : Int) ≤ 0 → (ivl (r156 9)) = 0)) ∧ ((sth (N156 4) 1) ≤ sth (N156 9) 1 ∧ sth (N156 9) 1 ≤ (sth (N156 4) 1) + 1) := hp 9 (by decide)
                 have p11 : (r156 11) = .pointer (some ⟨(pblk (r156 11)), 0, none⟩) ∧ (N156 11) = [((pblk (r156 11)), .cells ⟨pkT (0) (0) (zS) (.slice none 0 0) (.slice none 0 0)⟩ 30 (0, 0))] := hp 11 (by decide)
                 have q3 : ρ 3 = .pointer (some ⟨b1, 0, none⟩) := hr0 3 (by kernel_rfl)
                 have q6 : ρ 6 = .pointer (some ⟨b4, 0, none⟩) := hr0 6 (by kernel_rfl)
                 have q7 : ρ 7 = .func (.func 55) ⟨[]⟩ ⟨[.pointer (some ⟨b1, 0, none⟩), .pointer (some ⟨b2, 0, none⟩), .pointer (some ⟨b3, 0, none⟩)]⟩ := hr0 7 (by kernel_rfl)
                 have q12 : ρ 12 = .pointer (some ⟨(pblk (r156 11)), 0, none⟩) := (hr 11 _ _ (by decide) rfl rfl).trans p11.1
                 have q206 : ρ 206 = .agg ⟨pkT (8) ((ivl (r156 9))) ((sml (r156 4))) (.slice none 0 0) (.slice none 0 0)⟩ := (hr 10 _ _ (by decide) rfl rfl).trans (hp 10 (by decide))
                 obtain ⟨ρ171, rfl⟩ := reopen_ex (uc q3 (uc q6 (uc q7 (uc q12 (uc q206 un)))))
                 clear q3 q6 q7 q12 q206
                 have p156_4 := p4; have p156_9 := p9; have p156_11 := p11
                 clear hp hr hr0 p4 p9 p11
                 refine JL_sub (M' := [(N156 0), (N156 1), (N156 2), (N156 3), [], (N156 5), (N156 6), (N156 7), (N156 8), [], (N156 10), (N156 11), (N156 9), [(b4, .cells ⟨pkT (0) (0) (zS) (.slice none 0 0) (.slice none 0 0)⟩ 30 (0, 0))], [(b3, .cells ⟨[.int .i64 (m)]⟩ 3 (0, 0))], [(b2, .cells ⟨[.int .i64 (d)]⟩ 3 (0, 0))], [(b1, .cells ⟨[.pointer (some ⟨bM, 0, none⟩)]⟩ 85 (0, 0))], [(bM, .cells ⟨[.pointer (some ⟨bS, 0, none⟩), .int .i64 (L - 1)]⟩ 87 (0, 0))]]) Sub.refl ?_
                 refine JL_sub (M' := [[((pblk (r156 11)), .cells ⟨pkT (0) (0) (zS) (.slice none 0 0) (.slice none 0 0)⟩ 30 (0, 0))], [(bS, .cells ⟨[v, .int .i64 ((sth (N156 9) 1)), .int .u64 ((sth (N156 9) 2))]⟩ 45 (0, 0))], [(b4, .cells ⟨pkT (0) (0) (zS) (.slice none 0 0) (.slice none 0 0)⟩ 30 (0, 0))], [(b3, .cells ⟨[.int .i64 (m)]⟩ 3 (0, 0))], [(b2, .cells ⟨[.int .i64 (d)]⟩ 3 (0, 0))], [(b1, .cells ⟨[.pointer (some ⟨bM, 0, none⟩)]⟩ 85 (0, 0))], [(bM, .cells ⟨[.pointer (some ⟨bS, 0, none⟩), .int .i64 (L - 1)]⟩ 87 (0, 0))]]) (Sd (Sd (Sd (Sd (Sd (Sd (Sd (Sd (Sd (Sd (Sd (Se p156_11.2 (Se p156_9.2.1 (Sk (Sk (Sk (Sk (Sk Sub.nil)))))))))))))))))) ?_
                 refine JL_sub (M' := [[((pblk (r156 11)), .cells ⟨pkT (0) (0) (zS) (.slice none 0 0) (.slice none 0 0)⟩ 30 (0, 0))], [(bS, .cells ⟨[v, .int .i64 ((sth (N156 9) 1)), .int .u64 ((sth (N156 9) 2))]⟩ 45 (0, 0))], [(b4, .cells ⟨pkT (0) (0) (zS) (.slice none 0 0) (.slice none 0 0)⟩ 30 (0, 0))], [(b3, .cells ⟨[.int .i64 (m)]⟩ 3 (0, 0))], [(b2, .cells ⟨[.int .i64 (d)]⟩ 3 (0, 0))], [(b1, .cells ⟨[.pointer (some ⟨bM, 0, none⟩)]⟩ 85 (0, 0))], [(bM, .cells ⟨[.pointer (some ⟨bS, 0, none⟩), .int .i64 (L - 1)]⟩ 87 (0, 0))]]) (Sub.flat Sub.refl (by simp)) ?_
                 show JL _ _ _ [_] _ _ _
                 refine JL_run rfl (Runs_storeB 0 (vs := pkT (8) ((ivl (r156 9))) ((sml (r156 4))) (.slice none 0 0) (.slice none 0 0)) (l := pkT (8) ((ivl (r156 9))) ((sml (r156 4))) (.slice none 0 0) (.slice none 0 0)) ty30 rfl rfl rfl rfl rfl (pkT_ok rfl rfl) (pkT_s ..) ?_)
                 refine JL_nil ?_
                 refine J_seq ?_
                 refine J_seq ?_
                 refine J_region ?_
                 refine JL_run rfl (Pu_load1 ty85 rfl (At.bx 5 rfl) rfl ?_)
                 refine JL_pure (v := .pointer (some ⟨bM, 0, none⟩)) rfl (Pu.nilCheck rfl) ?_
                 refine JL_pure (v := .pointer (some ⟨bM, 0, none⟩)) rfl (fa87_0 rfl rfl) ?_
                 refine JL_run rfl (Pu_load1 ty23 rfl (At.bx 6 rfl) rfl ?_)
                 refine JL_call1 1 rfl Try.call56 rfl rfl (fun hin => less_ct _ _ _ _ _ _ (RBs.mono (Hle.hu _ _) hv) (by omega) (by omega) _) rfl ?_
                 rintro _ _ ⟨n172, a172, s172, rfl, rfl, hn172, ha172⟩
                 refine JL_pure (v := .int .i64 (0)) rfl (Pu.move rfl) ?_
                 refine JL_nil ?_
                 refine J_block ?_
                 refine J_loop (fun k ρ M => ∃ (j : Nat) (ts : List Tm) (w : Value) (es : List (List Value)) (k1 k2 : Chunk) (lw aw sw : Int), ρ 6 = .pointer (some ⟨b4, 0, none⟩) ∧ ρ 7 = .func (.func 55) ⟨[]⟩ ⟨[.pointer (some ⟨b1, 0, none⟩), .pointer (some ⟨b2, 0, none⟩), .pointer (some ⟨b3, 0, none⟩)]⟩ ∧ ρ 12 = .pointer (some ⟨(pblk (r156 11)), 0, none⟩) ∧ ρ 211 = .int .i64 (n172) ∧ ρ 212 = .int .i64 ((j : Int)) ∧ Sub [[((pblk (r156 11)), .cells ⟨pkT (8) ((ivl (r156 9))) ((sml (r156 4))) (w) (.slice none 0 0)⟩ 30 (0, 0))], k1, k2, [(bM, .cells ⟨[.pointer (some ⟨bS, 0, none⟩), .int .i64 (lw)]⟩ 87 (0, 0))], [(bS, .cells ⟨[v, .int .i64 (aw), .int .u64 (sw)]⟩ 45 (0, 0))], [(b4, .cells ⟨pkT (0) (0) (zS) (.slice none 0 0) (.slice none 0 0)⟩ 30 (0, 0))], [(b3, .cells ⟨[.int .i64 (m)]⟩ 3 (0, 0))], [(b2, .cells ⟨[.int .i64 (d)]⟩ 3 (0, 0))], [(b1, .cells ⟨[.pointer (some ⟨bM, 0, none⟩)]⟩ 85 (0, 0))]] M ∧ (j : Int) ≤ n172 ∧ Own 30 36 w es k1 ∧ OTs ts es k2 ∧ ts.length = j ∧ nErrK d m 0 8 0 ts = 0 ∧ (sizeTs ts : Int) ≤ 20 * (L - 1 - lw) ∧ (lw ≤ L - 1 ∧ -3 * (L - 2) - ((j : Int) + -1) ≤ lw) ∧ (a ≤ aw ∧ aw ≤ a + 100 * (L - 1 - lw) + 10) ∧ k = (n172).toNat - j) _ ⟨0, [], (.slice none 0 0), ([]), ([]), ([]), (L - 1), (a172), (s172), rfl, rfl, rfl, rfl, rfl, (Sub.cons 1 rfl (Sub.emp (Sub.emp (Sub.cons 5 rfl (Sk (Sk (Sk (Sk (Sk Sub.nil))))))))), (by omega), Own.nil, OTs.nil, rfl, (by simp [nErrK]), (by simp only [sizeTs]; omega), (by omega), (by omega), rfl⟩ ?_
                 rintro _ ρ173 _ ⟨j, ts, w, es, k1, k2, lw, aw, sw, e174, e175, e176, e177, e178, hm179, hj, how, hopw, hpl, hpe, hps, hpb, hpa, rfl⟩
                 obtain ⟨ρ180, rfl⟩ := reopen_ex (uc e174 (uc e175 (uc e176 (uc e177 (uc e178 un)))))
                 clear e174 e175 e176 e177 e178
                 refine J_sub hm179 ?_
                 refine J_seq ?_
                 refine J_region ?_
                 refine JL_pure (v := .bool (decide ((j : Int) < n172))) rfl (Pu.lss rfl rfl) ?_
                 refine JL_nil ?_
                 refine J_seq ?_
                 refine J_cond (b := decide ((j : Int) < n172)) rfl (fun h181 => ?_) (fun h181 => ?_)
                 ·skip
                  replace h181 := dt h181
                  have helw := OTs_len hopw
                  refine J_skip ?_
                  refine J_seq ?_
                  refine J_block ?_
                  refine J_sub (M' := [([(bM, .cells ⟨[.pointer (some ⟨bS, 0, none⟩), .int .i64 (lw)]⟩ 87 (0, 0))]) ++ ([(bS, .cells ⟨[v, .int .i64 (aw), .int .u64 (sw)]⟩ 45 (0, 0))]), [((pblk (r156 11)), .cells ⟨pkT (8) ((ivl (r156 9))) ((sml (r156 4))) (w) (.slice none 0 0)⟩ 30 (0, 0))], k1, k2, [(b4, .cells ⟨pkT (0) (0) (zS) (.slice none 0 0) (.slice none 0 0)⟩ 30 (0, 0))], [(b3, .cells ⟨[.int .i64 (m)]⟩ 3 (0, 0))], [(b2, .cells ⟨[.int .i64 (d)]⟩ 3 (0, 0))], [(b1, .cells ⟨[.pointer (some ⟨bM, 0, none⟩)]⟩ 85 (0, 0))]]) (Sub.join (Sub.cons 3 rfl (Sub.cons 3 rfl (Sk (Sk (Sk (Sk (Sk (Sk (Sk Sub.nil)))))))))) ?_
                  refine J_drawM mixed #[0, 1, 0, 4, 12, 31, 63, 127] 5 0 [3] rfl (by kernel_rfl) (by decide) rfl (by kernel_rfl) (fun i r182 N182 => match i with | 0 => (r182 0) = .pointer (some ⟨(pblk (r156 11)), 34, none⟩) | 1 => (r182 1) = w | 2 => (r182 2) = .func (.func 55) ⟨[]⟩ ⟨[.pointer (some ⟨b1, 0, none⟩), .pointer (some ⟨b2, 0, none⟩), .pointer (some ⟨b3, 0, none⟩)]⟩ | 3 => (r182 3) = .agg ⟨(cll (r182 3))⟩ ∧ (cll (r182 3)).length = 36 ∧ okc (cll (r182 3)) ∧ ∃ tM kM lM aM sM, (N182 3) = ([(bM, .cells ⟨[.pointer (some ⟨bS, 0, none⟩), .int .i64 (lM)]⟩ 87 (0, 0))]) ++ (([(bS, .cells ⟨[v, .int .i64 (aM), .int .u64 (sM)]⟩ 45 (0, 0))]) ++ (kM)) ∧ OT tM (cll (r182 3)) kM ∧ (nErr (d + 0) m 0 tM = 0 ∧ (sizeT tM : Int) ≤ 20 * (lw - lM)) ∧ (lM ≤ lw - 1 ∧ (lw ≤ 1 → lM = lw - 1) ∧ (1 ≤ lw → -3 * (lw - 1) ≤ lM)) ∧ (aw ≤ aM ∧ aM ≤ aw + 100 * (lw - lM)) | 4 => (r182 4) = .slice (some ⟨(sblk (r182 4)), 0, none⟩) 1 1 ∧ (N182 4) = [(sblk (r182 4), .cells ⟨List.flatten [(cll (r182 3))]⟩ 30 (0, 0))] ∧ Own 30 36 (.slice (some ⟨(sblk (r182 4)), 0, none⟩) 1 1) [(cll (r182 3))] (N182 4) | _ => True) ⟨?_, ?_, ?_, ?_, ?_, trivial⟩ ?_
                  ·intro ρ r182 N182 B hB hBa hp hr hr0
                   have q12 : ρ 12 = .pointer (some ⟨(pblk (r156 11)), 0, none⟩) := hr0 12 (by kernel_rfl)
                   obtain ⟨ρ183, rfl⟩ := reopen_ex (uc q12 un)
                   clear q12
                   refine JL_pure (v := .pointer (some ⟨(pblk (r156 11)), 34, none⟩)) rfl (fa30_3 rfl rfl) ?_
                   refine JL_nil ?_
                   exact ⟨.pointer (some ⟨(pblk (r156 11)), 34, none⟩), [], rfl, (Sub.emp Sub.refl), rfl⟩
                  ·intro ρ r182 N182 B hB hBa hp hr hr0
                   have p0 : (r182 0) = .pointer (some ⟨(pblk (r156 11)), 34, none⟩) := hp 0 (by decide) rfl
                   have q214 : ρ 214 = .pointer (some ⟨(pblk (r156 11)), 34, none⟩) := (hr 0 _ _ (by decide) rfl rfl rfl).trans p0
                   obtain ⟨ρ184, rfl⟩ := reopen_ex (uc q214 un)
                   clear q214
                   refine JL_run rfl (Pu_load1 ty27 rfl (At.bx 6 (made_old ((hB 1 (by decide)).trans rfl))) (pkT_34 ..) ?_)
                   refine JL_nil ?_
                   exact ⟨w, [], rfl, (Sub.emp Sub.refl), rfl⟩
                  ·intro ρ r182 N182 B hB hBa hp hr hr0
                   have q7 : ρ 7 = .func (.func 55) ⟨[]⟩ ⟨[.pointer (some ⟨b1, 0, none⟩), .pointer (some ⟨b2, 0, none⟩), .pointer (some ⟨b3, 0, none⟩)]⟩ := hr0 7 (by kernel_rfl)
                   obtain ⟨ρ185, rfl⟩ := reopen_ex (uc q7 un)
                   clear q7
                   refine JL_pure (v := .func (.func 55) ⟨[]⟩ ⟨[.pointer (some ⟨b1, 0, none⟩), .pointer (some ⟨b2, 0, none⟩), .pointer (some ⟨b3, 0, none⟩)]⟩) rfl (Pu.move rfl) ?_
                   refine JL_nil ?_
                   exact ⟨.func (.func 55) ⟨[]⟩ ⟨[.pointer (some ⟨b1, 0, none⟩), .pointer (some ⟨b2, 0, none⟩), .pointer (some ⟨b3, 0, none⟩)]⟩, [], rfl, (Sub.emp Sub.refl), rfl⟩
                  ·intro ρ r182 N182 B hB hBa hp hr hr0
                   have p2 : (r182 2) = .func (.func 55) ⟨[]⟩ ⟨[.pointer (some ⟨b1, 0, none⟩), .pointer (some ⟨b2, 0, none⟩), .pointer (some ⟨b3, 0, none⟩)]⟩ := hp 2 (by decide) rfl
                   have q216 : ρ 216 = .func (.func 55) ⟨[]⟩ ⟨[.pointer (some ⟨b1, 0, none⟩), .pointer (some ⟨b2, 0, none⟩), .pointer (some ⟨b3, 0, none⟩)]⟩ := (hr 2 _ _ (by decide) rfl rfl rfl).trans p2
                   obtain ⟨ρ186, rfl⟩ := reopen_ex (uc q216 un)
                   clear q216
                   have hB2 := hBa rfl
                   change B = [([(bM, .cells ⟨[.pointer (some ⟨bS, 0, none⟩), .int .i64 (lw)]⟩ 87 (0, 0))]) ++ ([(bS, .cells ⟨[v, .int .i64 (aw), .int .u64 (sw)]⟩ 45 (0, 0))]), [((pblk (r156 11)), .cells ⟨pkT (8) ((ivl (r156 9))) ((sml (r156 4))) (w) (.slice none 0 0)⟩ 30 (0, 0))], k1, k2, [(b4, .cells ⟨pkT (0) (0) (zS) (.slice none 0 0) (.slice none 0 0)⟩ 30 (0, 0))], [(b3, .cells ⟨[.int .i64 (m)]⟩ 3 (0, 0))], [(b2, .cells ⟨[.int .i64 (d)]⟩ 3 (0, 0))], [(b1, .cells ⟨[.pointer (some ⟨bM, 0, none⟩)]⟩ 85 (0, 0))]] at hB2
                   subst hB2
                   refine JL_sub (M' := [(N182 0), (N182 1), (N182 2), [], (N182 4), ([(bM, .cells ⟨[.pointer (some ⟨bS, 0, none⟩), .int .i64 (lw)]⟩ 87 (0, 0))]) ++ ([(bS, .cells ⟨[v, .int .i64 (aw), .int .u64 (sw)]⟩ 45 (0, 0))]), [((pblk (r156 11)), .cells ⟨pkT (8) ((ivl (r156 9))) ((sml (r156 4))) (w) (.slice none 0 0)⟩ 30 (0, 0))], k1, k2, [(b4, .cells ⟨pkT (0) (0) (zS) (.slice none 0 0) (.slice none 0 0)⟩ 30 (0, 0))], [(b3, .cells ⟨[.int .i64 (m)]⟩ 3 (0, 0))], [(b2, .cells ⟨[.int .i64 (d)]⟩ 3 (0, 0))], [(b1, .cells ⟨[.pointer (some ⟨bM, 0, none⟩)]⟩ 85 (0, 0))]]) Sub.refl ?_
                   refine JL_call1 5 rfl Try.call55 rfl rfl (fun hin => one_ct _ _ _ _ _ _ _ _ _ _ _ _ _ _ (RBs.mono (Hle.hu _ _) hv) (hin 11 _ rfl _ _ List.mem_cons_self) (hin 10 _ rfl _ _ List.mem_cons_self) (hin 9 _ rfl _ _ List.mem_cons_self) (by omega) (by omega) (by omega) (by omega) (fun h hh => ih _ (by omega) _ _ _ _ _ _ _ _ _ _ rfl (RBs.mono hh (RBs.mono (Hle.hu _ _) hv)) (by omega) (by omega) (by omega) (by omega) (by omega) (by omega) (by omega) (by omega))) rfl ?_
                   rintro _ _ ⟨t187, cs187, k187, l187, a187, s187, rfl, rfl, hO187, ⟨hn187, hz187⟩, hl187, ha187⟩
                   refine JL_sub (M' := [[(bM, .cells ⟨[.pointer (some ⟨bS, 0, none⟩), .int .i64 (l187)]⟩ 87 (0, 0))], [(bS, .cells ⟨[v, .int .i64 (a187), .int .u64 (s187)]⟩ 45 (0, 0))], k187, (N182 0), (N182 1), (N182 2), [], (N182 4), [((pblk (r156 11)), .cells ⟨pkT (8) ((ivl (r156 9))) ((sml (r156 4))) (w) (.slice none 0 0)⟩ 30 (0, 0))], k1, k2, [(b4, .cells ⟨pkT (0) (0) (zS) (.slice none 0 0) (.slice none 0 0)⟩ 30 (0, 0))], [(b3, .cells ⟨[.int .i64 (m)]⟩ 3 (0, 0))], [(b2, .cells ⟨[.int .i64 (d)]⟩ 3 (0, 0))], [(b1, .cells ⟨[.pointer (some ⟨bM, 0, none⟩)]⟩ 85 (0, 0))]]) (Sub.flat Sub.refl (by simp)) ?_
                   refine JL_nil ?_
                   exact ⟨.agg ⟨cs187⟩, ([(bM, .cells ⟨[.pointer (some ⟨bS, 0, none⟩), .int .i64 (l187)]⟩ 87 (0, 0))]) ++ (([(bS, .cells ⟨[v, .int .i64 (a187), .int .u64 (s187)]⟩ 45 (0, 0))]) ++ (k187)), rfl, (Sub.flat (M' := [(N182 0), (N182 1), (N182 2), [], (N182 4), ([(bM, .cells ⟨[.pointer (some ⟨bS, 0, none⟩), .int .i64 (l187)]⟩ 87 (0, 0))]) ++ (([(bS, .cells ⟨[v, .int .i64 (a187), .int .u64 (s187)]⟩ 45 (0, 0))]) ++ (k187)), [((pblk (r156 11)), .cells ⟨pkT (8) ((ivl (r156 9))) ((sml (r156 4))) (w) (.slice none 0 0)⟩ 30 (0, 0))], k1, k2, [(b4, .cells ⟨pkT (0) (0) (zS) (.slice none 0 0) (.slice none 0 0)⟩ 30 (0, 0))], [(b3, .cells ⟨[.int .i64 (m)]⟩ 3 (0, 0))], [(b2, .cells ⟨[.int .i64 (d)]⟩ 3 (0, 0))], [(b1, .cells ⟨[.pointer (some ⟨bM, 0, none⟩)]⟩ 85 (0, 0))]]) (Sub.cons 3 rfl (Sub.cons 3 rfl (Sub.cons 3 rfl (Sub.emp (Sub.cons 4 rfl (Sub.join3 (Sk (Sk (Sk (Sd (Sk (Sk (Sk (Sk (Sk (Sk (Sk Sub.nil))))))))))))))))) rfl), ⟨rfl, hO187.len, hO187.ok, t187, k187, l187, a187, s187, rfl, hO187, ⟨hn187, hz187⟩, hl187, ha187⟩⟩
                  ·intro ρ r182 N182 B hB hBa hp hr hr0
                   have p3 : (r182 3) = .agg ⟨(cll (r182 3))⟩ ∧ (cll (r182 3)).length = 36 ∧ okc (cll (r182 3)) ∧ ∃ tM kM lM aM sM, (N182 3) = ([(bM, .cells ⟨[.pointer (some ⟨bS, 0, none⟩), .int .i64 (lM)]⟩ 87 (0, 0))]) ++ (([(bS, .cells ⟨[v, .int .i64 (aM), .int .u64 (sM)]⟩ 45 (0, 0))]) ++ (kM)) ∧ OT tM (cll (r182 3)) kM ∧ (nErr (d + 0) m 0 tM = 0 ∧ (sizeT tM : Int) ≤ 20 * (lw - lM)) ∧ (lM ≤ lw - 1 ∧ (lw ≤ 1 → lM = lw - 1) ∧ (1 ≤ lw → -3 * (lw - 1) ≤ lM)) ∧ (aw ≤ aM ∧ aM ≤ aw + 100 * (lw - lM)) := hp 3 (by decide) rfl
                   have q217 : ρ 217 = .agg ⟨(cll (r182 3))⟩ := (hr 3 _ _ (by decide) rfl rfl rfl).trans p3.1
                   obtain ⟨ρ188, rfl⟩ := reopen_ex (uc q217 un)
                   clear q217
                   refine JL_run rfl (Runs_buildSlice (vs := [.agg ⟨(cll (r182 3))⟩]) [(cll (r182 3))] Try.runUnderlying27 el30 rfl rfl (by intro e he; simp only [List.mem_cons, List.not_mem_nil, or_false] at he; subst he; exact p3.2.1) rfl (by decide) fun b189 k189 ho189 hk189 => ?_)
                   refine JL_nil ?_
                   exact ⟨.slice (some ⟨b189, 0, none⟩) 1 1, k189, rfl, Sub.refl, ⟨rfl, hk189, ho189⟩⟩
                  ·intro ρ r182 N182 hp hr hr0
                   have p3 : (r182 3) = .agg ⟨(cll (r182 3))⟩ ∧ (cll (r182 3)).length = 36 ∧ okc (cll (r182 3)) ∧ ∃ tM kM lM aM sM, (N182 3) = ([(bM, .cells ⟨[.pointer (some ⟨bS, 0, none⟩), .int .i64 (lM)]⟩ 87 (0, 0))]) ++ (([(bS, .cells ⟨[v, .int .i64 (aM), .int .u64 (sM)]⟩ 45 (0, 0))]) ++ (kM)) ∧ OT tM (cll (r182 3)) kM ∧ (nErr (d + 0) m 0 tM = 0 ∧ (sizeT tM : Int) ≤ 20 * (lw - lM)) ∧ (lM ≤ lw - 1 ∧ (lw ≤ 1 → lM = lw - 1) ∧ (1 ≤ lw → -3 * (lw - 1) ≤ lM)) ∧ (aw ≤ aM ∧ aM ≤ aw + 100 * (lw - lM)) := hp 3 (by decide)
                   have p4 : (r182 4) = .slice (some ⟨(sblk (r182 4)), 0, none⟩) 1 1 ∧ (N182 4) = [(sblk (r182 4), .cells ⟨List.flatten [(cll (r182 3))]⟩ 30 (0, 0))] ∧ Own 30 36 (.slice (some ⟨(sblk (r182 4)), 0, none⟩) 1 1) [(cll (r182 3))] (N182 4) := hp 4 (by decide)
                   have q6 : ρ 6 = .pointer (some ⟨b4, 0, none⟩) := hr0 6 (by kernel_rfl)
                   have q7 : ρ 7 = .func (.func 55) ⟨[]⟩ ⟨[.pointer (some ⟨b1, 0, none⟩), .pointer (some ⟨b2, 0, none⟩), .pointer (some ⟨b3, 0, none⟩)]⟩ := hr0 7 (by kernel_rfl)
                   have q12 : ρ 12 = .pointer (some ⟨(pblk (r156 11)), 0, none⟩) := hr0 12 (by kernel_rfl)
                   have q211 : ρ 211 = .int .i64 (n172) := hr0 211 (by kernel_rfl)
                   have q212 : ρ 212 = .int .i64 ((j : Int)) := hr0 212 (by kernel_rfl)
                   have q215 : ρ 215 = w := (hr 1 _ _ (by decide) rfl rfl).trans (hp 1 (by decide))
                   have q218 : ρ 218 = .slice (some ⟨(sblk (r182 4)), 0, none⟩) 1 1 := (hr 4 _ _ (by decide) rfl rfl).trans p4.1
                   obtain ⟨ρ190, rfl⟩ := reopen_ex (uc q6 (uc q7 (uc q12 (uc q211 (uc q212 (uc q215 (uc q218 un)))))))
                   clear q6 q7 q12 q211 q212 q215 q218
                   have p182_3 := p3; have p182_4 := p4
                   clear hp hr hr0 p3 p4
                   refine JL_sub (M' := [(N182 0), (N182 1), (N182 2), [], (N182 4), (N182 3), [((pblk (r156 11)), .cells ⟨pkT (8) ((ivl (r156 9))) ((sml (r156 4))) (w) (.slice none 0 0)⟩ 30 (0, 0))], k1, k2, [(b4, .cells ⟨pkT (0) (0) (zS) (.slice none 0 0) (.slice none 0 0)⟩ 30 (0, 0))], [(b3, .cells ⟨[.int .i64 (m)]⟩ 3 (0, 0))], [(b2, .cells ⟨[.int .i64 (d)]⟩ 3 (0, 0))], [(b1, .cells ⟨[.pointer (some ⟨bM, 0, none⟩)]⟩ 85 (0, 0))]]) Sub.refl ?_
                   obtain ⟨tM182_3, kM182_3, lM182_3, aM182_3, sM182_3, hNM182_3, hOM182_3, ⟨hnM182_3, hzM182_3⟩, hlM182_3, haM182_3⟩ := p182_3.2.2.2
                   refine JL_sub (M' := [(N182 4), ([(bM, .cells ⟨[.pointer (some ⟨bS, 0, none⟩), .int .i64 (lM182_3)]⟩ 87 (0, 0))]) ++ (([(bS, .cells ⟨[v, .int .i64 (aM182_3), .int .u64 (sM182_3)]⟩ 45 (0, 0))]) ++ (kM182_3)), [((pblk (r156 11)), .cells ⟨pkT (8) ((ivl (r156 9))) ((sml (r156 4))) (w) (.slice none 0 0)⟩ 30 (0, 0))], k1, k2, [(b4, .cells ⟨pkT (0) (0) (zS) (.slice none 0 0) (.slice none 0 0)⟩ 30 (0, 0))], [(b3, .cells ⟨[.int .i64 (m)]⟩ 3 (0, 0))], [(b2, .cells ⟨[.int .i64 (d)]⟩ 3 (0, 0))], [(b1, .cells ⟨[.pointer (some ⟨bM, 0, none⟩)]⟩ 85 (0, 0))]]) (Sd (Sd (Sd (Sd (Sk (Se hNM182_3 (Sk (Sk (Sk (Sk (Sk (Sk (Sk Sub.nil))))))))))))) ?_
                   refine JL_sub (M' := [(N182 4), [(bM, .cells ⟨[.pointer (some ⟨bS, 0, none⟩), .int .i64 (lM182_3)]⟩ 87 (0, 0))], [(bS, .cells ⟨[v, .int .i64 (aM182_3), .int .u64 (sM182_3)]⟩ 45 (0, 0))], kM182_3, [((pblk (r156 11)), .cells ⟨pkT (8) ((ivl (r156 9))) ((sml (r156 4))) (w) (.slice none 0 0)⟩ 30 (0, 0))], k1, k2, [(b4, .cells ⟨pkT (0) (0) (zS) (.slice none 0 0) (.slice none 0 0)⟩ 30 (0, 0))], [(b3, .cells ⟨[.int .i64 (m)]⟩ 3 (0, 0))], [(b2, .cells ⟨[.int .i64 (d)]⟩ 3 (0, 0))], [(b1, .cells ⟨[.pointer (some ⟨bM, 0, none⟩)]⟩ 85 (0, 0))]]) (Sub.flat Sub.refl (by simp)) ?_
                   show JL _ _ _ [_, _, _] _ _ _
                   have hlens191 : ∀ e ∈ ([(cll (r182 3))] : List (List Value)), List.length e = 36 := by
                    intro e he; simp only [List.mem_cons, List.not_mem_nil, or_false] at he
                    rcases he with rfl
                    ·exact p182_3.2.1
                   have hoks191 : ∀ e ∈ ([(cll (r182 3))] : List (List Value)), okc e := by
                    intro e he; simp only [List.mem_cons, List.not_mem_nil, or_false] at he
                    rcases he with rfl
                    ·exact p182_3.2.2.1
                   refine JL_run rfl (Runs_append (i := 5) (n := 1) (es' := [(cll (r182 3))]) Try.runUnderlying27 Try.runUnderlying27 (Or.inl rfl) el30 rfl rfl rfl how (fun F w m => Src.row (((At.k 0 rfl (by rw [p182_4.2.1]; exact List.mem_cons_self))).heap m) (sub_a (flatten_len hlens191))) rfl hlens191 hoks191 (by decide) (by omega) fun v191 k191 ho191 => ?_)
                   refine JL_pure (v := .pointer (some ⟨(pblk (r156 11)), 34, none⟩)) rfl (fa30_3 rfl rfl) ?_
                   refine JL_run rfl (Runs_storeB 4 (vs := [v191]) (l := pkT (8) ((ivl (r156 9))) ((sml (r156 4))) (v191) (.slice none 0 0)) ty27 rfl rfl rfl (cells_one ho191.one) rfl (okc_cons ho191.one okc_nil) (pkT_s34 ..) ?_)
                   refine JL_nil ?_
                   refine J_region ?_
                   refine JL_pure (v := .int .i64 (((j + 1 : Nat) : Int))) rfl (Pu.inc rfl rfl (by omega)) ?_
                   refine JL_pure (v := .int .i64 (((j + 1 : Nat) : Int))) rfl (Pu.move rfl) ?_
                   refine JL_nil ?_
                   refine ⟨_, ?_, (j + 1), (ts ++ [tM182_3]), (v191), (es ++ [(cll (r182 3))]), (k191), ((k2) ++ (kM182_3)), (lM182_3), (aM182_3), (sM182_3), rfl, rfl, rfl, rfl, rfl, (Sd (Sub.cons 3 rfl (Sub.cons 3 rfl (Sub.join (Sub.cons 3 rfl (Sub.cons 2 rfl (Sk (Sk (Sk (Sk (Sk (Sk Sub.nil)))))))))))), ?_, ?_, ?_, ?_, ?_, ?_, ?_, ?_, rfl⟩
                   ·omega
                   ·omega
                   ·exact ho191
                   ·exact OTs.snoc hOM182_3 hopw
                   ·simp; omega
                   ·exact nErrK_con hpe (by simpa using hnM182_3)
                   ·rw [sizeTs_snoc]; omega
                   ·omega
                   ·omega
                 ·skip
                  replace h181 := df h181
                  refine J_exit _ rfl ?_
                  refine J_seq ?_
                  refine J_region ?_
                  refine JL_run rfl (Pu_load ty30 rfl (At.bx 0 rfl) (pkT_a ..) ?_)
                  refine JL_run rfl (Runs_storeB 5 (vs := pkT (8) ((ivl (r156 9))) ((sml (r156 4))) (w) (.slice none 0 0)) (l := pkT (8) ((ivl (r156 9))) ((sml (r156 4))) (w) (.slice none 0 0)) ty30 rfl rfl rfl rfl rfl (pkT_ok how.one rfl) (pkT_s ..) ?_)
                  refine JL_nil ?_
                  refine J_ret ?_
                  refine ⟨.agg ⟨pkT (8) ((ivl (r156 9))) ((sml (r156 4))) (w) (.slice none 0 0)⟩, [([(bM, .cells ⟨[.pointer (some ⟨bS, 0, none⟩), .int .i64 (lw)]⟩ 87 (0, 0))]) ++ ([(bS, .cells ⟨[v, .int .i64 (aw), .int .u64 (sw)]⟩ 45 (0, 0))]), (k1) ++ (k2)], Ret.one rfl (RV.cell ty30 rfl (At.bx 5 rfl) (pkT_a ..)), (Sub.join (Sd (Sub.cons 2 rfl (Sub.cons 2 rfl (Sub.join (Sk (Sk Sub.nil))))))), ?_⟩
                  exact ⟨.mk 8 ((ivl (r156 9))) ((sml (r156 4))) ts [], _, _, _, _, _, rfl, rfl, OT_row (by unfold inI; omega) (by unfold inI; omega) how hopw (by omega), ⟨nErr_con (by omega) (by omega) (by omega) hpe, by simp only [eVa, eNu, sizeT, sizeTs, sizeCs]; omega⟩, by omega, by omega⟩
end Go.Proofs.Ytmdifonjepggcaa.Hs
/-! Walks, printed by a program of this session's own (gen.py). -/
namespace Go.Proofs.Ytmdifonjepggcaa.Hs
open Go Go.Proofs
set_option maxRecDepth 100000
set_option linter.unusedVariables false
set_option linter.unusedSimpArgs false
attribute [local irreducible] JL J CT wlo
theorem cloneB_ct (v : Value) (l : List Int) (H : Heap) (hl : Hs.rdS RB 1 H v l) (hz : l.length ≤ 1000) : CT Try.prog 12 ⟨[v]⟩ [] H (fun r N => ∃ k, N = [k] ∧ Own 5 1 r (byts l) k) := by
 refine CT_enter Try.func12 rfl rfl ?_
 refine J_seq ?_
 refine J_region ?_
 refine JL_pure (v := .slice none 0 0) rfl (Pu.assign rfl) ?_
 refine JL_nil ?_
 refine J_seq ?_
 refine J_seq ?_
 refine J_region ?_
 refine JL_pure (v := v) rfl (Pu.move rfl) ?_
 obtain ⟨a1, cap1, hv1⟩ := hl.sl
 have hle1 := hl.le
 refine JL_pure (v := .bool (a1.isNone)) rfl (Pu.eqlNil Try.runUnderlying22 hv1 rfl) ?_
 refine JL_nil ?_
 refine J_cond (b := a1.isNone) rfl (fun h2 => ?_) (fun h2 => ?_)
 ·skip
  refine J_seq ?_
  refine J_region ?_
  refine JL_pure (v := .slice none 0 0) rfl (Pu.assign rfl) ?_
  refine JL_nil ?_
  refine J_ret ?_
  refine ⟨.slice none 0 0, [[]], Ret.one rfl (RV.tmp rfl), (Sub.emp Sub.nil), ?_⟩
  obtain rfl : l = [] := rd_none hl hv1 h2
  exact ⟨_, rfl, Own.nil⟩
 ·skip
  refine J_skip ?_
  refine J_seq ?_
  refine J_region ?_
  refine JL_run rfl (Runs_buildSlice (vs := []) [] Try.runUnderlying22 el5 rfl rfl (by intro e he; cases he) rfl (by decide) fun b3 k3 ho3 hk3 => ?_)
  refine JL_pure (v := v) rfl (Pu.move rfl) ?_
  refine JL_run rfl (Runs_append (i := 0) (n := (l).length) (es' := byts (l)) Try.runUnderlying22 Try.runUnderlying22 (Or.inl rfl) el5 rfl rfl rfl ho3 (fun F w m => byts_src hl w _ m) (byts_len _) (byts_len1 _) (byts_ok _) (by decide) (by simp; omega) fun v4 k4 ho4 => ?_)
  refine JL_pure (v := v4) rfl (Pu.assign rfl) ?_
  refine JL_nil ?_
  refine J_ret ?_
  refine ⟨v4, [k4], Ret.one rfl (RV.tmp rfl), (Sk Sub.nil), ?_⟩
  exact ⟨_, rfl, ho4⟩
theorem of_ct (v : Value) (l : List Int) (H : Heap) (hb : bytesR H v l) (hv : Hs.rdS RB 1 H v l) : CT Try.prog 5 ⟨[v]⟩ [] H (fun r N => ∃ bS u k s l', r = .pointer (some ⟨bS, 0, none⟩) ∧ N = [[(bS, .cells ⟨[u, .int .i64 0, .int .u64 s]⟩ 45 (0, 0))], k] ∧ u.oneCell' = true ∧ ∀ h, Has k h → Hs.rdS RB 1 h u l') := by
 refine CT_enter Try.func5 rfl rfl ?_
 refine J_seq ?_
 refine J_region ?_
 refine JL_pure (v := (.pointer none)) rfl (Pu.assign rfl) ?_
 refine JL_nil ?_
 refine J_seq ?_
 refine J_region ?_
 refine JL_pure (v := v) rfl (Pu.move rfl) ?_
 refine JL_pure (v := v) rfl (Pu.move rfl) ?_
 obtain ⟨a1, cap1, hv1⟩ := hv.sl
 have hle1 := hv.le
 refine JL_pure (v := .int .i64 (((l).length : Int))) rfl (Pu.lenSl Try.runUnderlying22 hv1) ?_
 refine JL_pure (v := .int .i64 (((min (l).length 300 : Nat) : Int))) rfl (Pu.min2 rfl rfl (by split <;> omega)) ?_
 refine JL_run rfl (Runs_sliceTo (n := min (l).length 300) hb (by omega) Try.runUnderlying22 Try.sizeOf5 rfl rfl fun u2 hu2 => ?_)
 have hr2 := hu2 H hv
 refine JL_call rfl Try.call12 rfl (fun hin => cloneB_ct _ _ _ (RBs.mono (Hle.hu _ _) hr2) (by rw [List.length_take]; omega)) rfl ?_
 rintro u3 _ ⟨k3, rfl, ho3⟩
 obtain ⟨a4, cap4, hv4⟩ := ho3.sl
 refine JL_pure (v := .agg ⟨[u3, .int .i64 (0), .int .u64 (88172645463325252)]⟩) rfl (Pu.build (pv := [(0, u3), (2, .int .u64 (88172645463325252))]) (l := [u3, .int .i64 0, .int .u64 (88172645463325252)]) rfl (bldSt _ hv4)) ?_
 refine JL_run rfl (Runs_box (l := [u3, .int .i64 (0), .int .u64 (88172645463325252)]) rfl rfl fun b5 => ?_)
 refine JL_pure (v := .pointer (some ⟨b5, 0, none⟩)) rfl (Pu.assign rfl) ?_
 refine JL_nil ?_
 refine J_ret ?_
 refine ⟨.pointer (some ⟨b5, 0, none⟩), [[(b5, .cells ⟨[u3, .int .i64 (0), .int .u64 (88172645463325252)]⟩ 45 (0, 0))], k3], Ret.one rfl (RV.tmp rfl), (Sk (Sk Sub.nil)), ?_⟩
 exact ⟨_, _, _, _, l.take (min l.length 300), rfl, rfl, ho3.one, fun h hh => own_byts ho3 (by rw [List.length_take]; omega) hh⟩
end Go.Proofs.Ytmdifonjepggcaa.Hs
/-! Walks, printed by a program of this session's own (gen.py). -/
namespace Go.Proofs.Ytmdifonjepggcaa.Hs
open Go Go.Proofs
set_option maxRecDepth 100000
set_option linter.unusedVariables false
set_option linter.unusedSimpArgs false
attribute [local irreducible] JL J CT wlo
theorem scopedS_ct (bS : Nat) (v : Value) (l : List Int) (a s : Int) (H : Heap) (hv : Hs.rdS RB 1 H v l) (ha0 : 0 ≤ a) (ha1 : a ≤ 2000000000) (d m z : Int) (hz0 : 1 ≤ z) (hz1 : z ≤ 60) (ha2 : a + 400 * z ≤ 1000000) (hd0 : 0 ≤ d) (hd1 : d + 10 * z ≤ 10000) (hm0 : 0 ≤ m) (hm1 : m ≤ 8) : CT Try.prog 13 ⟨[.pointer (some ⟨bS, 0, none⟩), .int .i64 (d), .int .i64 (m), .int .i64 (z)]⟩ [[(bS, .cells ⟨[v, .int .i64 (a), .int .u64 (s)]⟩ 45 (0, 0))]] H (fun r N => ∃ t cs k a' s', r = .agg ⟨cs⟩ ∧ N = [[(bS, .cells ⟨[v, .int .i64 (a'), .int .u64 (s')]⟩ 45 (0, 0))], k] ∧ OT t cs k ∧ (nErr d m 0 t = 0 ∧ (sizeT t : Int) ≤ 80 * z) ∧ (a ≤ a' ∧ a' ≤ a + 400 * z)) := by
 refine CT_enter Try.func13 rfl rfl ?_
 refine J_seq ?_
 refine J_region ?_
 refine JL_run rfl (Runs_alloc (l := pkT (0) (0) (zS) (.slice none 0 0) (.slice none 0 0)) Try.zeroValue30 rfl fun b1 => ?_)
 refine JL_nil ?_
 refine J_seq ?_
 refine J_region ?_
 refine JL_pure (v := .pointer (some ⟨bS, 0, none⟩)) rfl (Pu.move rfl) ?_
 refine JL_pure (v := .int .i64 (z)) rfl (Pu.move rfl) ?_
 refine JL_pure (v := .agg ⟨[.pointer (some ⟨bS, 0, none⟩), .int .i64 (z)]⟩) rfl (Pu.build (pv := [(0, .pointer (some ⟨bS, 0, none⟩)), (1, .int .i64 (z))]) (l := [.pointer (some ⟨bS, 0, none⟩), .int .i64 (z)]) rfl (bldMk _ _)) ?_
 refine JL_run rfl (Runs_box (l := [.pointer (some ⟨bS, 0, none⟩), .int .i64 (z)]) rfl rfl fun b2 => ?_)
 refine JL_pure (v := .pointer (some ⟨b2, 0, none⟩)) rfl (Pu.assign rfl) ?_
 refine JL_nil ?_
 refine J_seq ?_
 refine J_region ?_
 refine JL_pure (v := .pointer (some ⟨b2, 0, none⟩)) rfl (Pu.move rfl) ?_
 refine JL_pure (v := .int .i64 (d)) rfl (Pu.move rfl) ?_
 refine JL_pure (v := .int .i64 (m)) rfl (Pu.move rfl) ?_
 refine JL_sub (M' := [([(b2, .cells ⟨[.pointer (some ⟨bS, 0, none⟩), .int .i64 (z)]⟩ 87 (0, 0))]) ++ ([(bS, .cells ⟨[v, .int .i64 (a), .int .u64 (s)]⟩ 45 (0, 0))]), [(b1, .cells ⟨pkT (0) (0) (zS) (.slice none 0 0) (.slice none 0 0)⟩ 30 (0, 0))]]) (Sub.join (Sk (Sub.cons 1 rfl (Sk Sub.nil)))) ?_
 refine JL_call1 0 rfl Try.call39 rfl rfl (fun hin => scoped_ct _ _ _ _ _ _ _ _ _ _ _ rfl (RBs.mono (Hle.hu _ _) hv) (by omega) (by omega) (by omega) (by omega) (by omega) (by omega) (by omega) (by omega)) rfl ?_
 rintro _ _ ⟨t3, cs3, k3, l3, a3, s3, rfl, rfl, hO3, ⟨hn3, hz3⟩, hl3, ha3⟩
 refine JL_sub (M' := [[(b2, .cells ⟨[.pointer (some ⟨bS, 0, none⟩), .int .i64 (l3)]⟩ 87 (0, 0))], [(bS, .cells ⟨[v, .int .i64 (a3), .int .u64 (s3)]⟩ 45 (0, 0))], k3, [(b1, .cells ⟨pkT (0) (0) (zS) (.slice none 0 0) (.slice none 0 0)⟩ 30 (0, 0))]]) (Sub.flat Sub.refl (by simp)) ?_
 refine JL_run rfl (Runs_storeB 3 (vs := cs3) (l := cs3) ty30 rfl rfl rfl rfl hO3.len hO3.ok (spl_a (n := 36) rfl hO3.len) ?_)
 refine JL_nil ?_
 refine J_ret ?_
 refine ⟨.agg ⟨cs3⟩, [[(bS, .cells ⟨[v, .int .i64 (a3), .int .u64 (s3)]⟩ 45 (0, 0))], k3], Ret.one rfl (RV.cell ty30 rfl (At.bx 3 rfl) (sub_a hO3.len)), (Sd (Sk (Sk Sub.nil))), ?_⟩
 exact ⟨_, _, _, _, _, rfl, rfl, hO3, ⟨hn3, by omega⟩, by omega⟩
theorem drawn_ct (bS : Nat) (v : Value) (l : List Int) (a s : Int) (H : Heap) (hv : Hs.rdS RB 1 H v l) (ha0 : 0 ≤ a) (ha1 : a ≤ 2000000000) (d z : Int) (hz0 : 1 ≤ z) (hz1 : z ≤ 60) (ha2 : a + 400 * z ≤ 1000000) (hd0 : 0 ≤ d) (hd1 : d + 10 * z ≤ 10000) : CT Try.prog 6 ⟨[.pointer (some ⟨bS, 0, none⟩), .int .i64 (d), .int .i64 (z)]⟩ [[(bS, .cells ⟨[v, .int .i64 (a), .int .u64 (s)]⟩ 45 (0, 0))]] H (fun r N => ∃ t cs k a' s', r = .tuple ⟨[.agg ⟨cs⟩, .bool true]⟩ ∧ N = [[(bS, .cells ⟨[v, .int .i64 (a'), .int .u64 (s')]⟩ 45 (0, 0))], k] ∧ OT t cs k ∧ checkR d 2 t = 0 ∧ (a ≤ a' ∧ a' ≤ a + 400 * z)) := by
 refine CT_enter Try.func6 rfl rfl ?_
 refine J_seq ?_
 refine J_region ?_
 refine JL_run rfl (Runs_alloc (l := pkT (0) (0) (zS) (.slice none 0 0) (.slice none 0 0)) Try.zeroValue30 rfl fun b1 => ?_)
 refine JL_pure (v := .bool (false)) rfl (Pu.assign rfl) ?_
 refine JL_nil ?_
 refine J_seq ?_
 refine J_region ?_
 refine JL_pure (v := .pointer (some ⟨bS, 0, none⟩)) rfl (Pu.move rfl) ?_
 refine JL_pure (v := .int .i64 (d)) rfl (Pu.move rfl) ?_
 refine JL_pure (v := .int .i64 (z)) rfl (Pu.move rfl) ?_
 refine JL_call1 1 rfl Try.call13 rfl rfl (fun hin => scopedS_ct _ _ _ _ _ _ (RBs.mono (Hle.hu _ _) hv) (by omega) (by omega) _ _ _ (by omega) (by omega) (by omega) (by omega) (by omega) (by omega) (by omega)) rfl ?_
 rintro _ _ ⟨t2, cs2, k2, a2, s2, rfl, rfl, hO2, hg2, ha2⟩
 refine JL_run rfl (Runs_alloc (l := pkT (0) (0) (zS) (.slice none 0 0) (.slice none 0 0)) Try.zeroValue30 rfl fun b3 => ?_)
 refine JL_run rfl (Runs_storeB 0 (vs := cs2) (l := cs2) ty30 rfl rfl rfl rfl hO2.len hO2.ok (spl_a (n := 36) rfl hO2.len) ?_)
 refine JL_nil ?_
 refine J_seq ?_
 refine J_seq ?_
 refine J_region ?_
 refine JL_run rfl (Pu_load ty30 rfl (At.bx 0 rfl) (sub_a hO2.len) ?_)
 refine JL_pure (v := .int .i64 (d)) rfl (Pu.move rfl) ?_
 refine JL_call rfl Try.call14 rfl (fun hin => check_ct _ _ _ _ _ (hO2.rd (hin 2 _ rfl))) rfl ?_
 rintro _ _ ⟨rfl, rfl⟩
 refine JL_pure (v := .bool (decide (checkT (d) (2) (t2) = 11))) rfl (Pu.eql rfl rfl) ?_
 refine JL_nil ?_
 refine J_cond (b := decide (checkT (d) (2) (t2) = 11)) rfl (fun h4 => ?_) (fun h4 => ?_)
 ·skip
  replace h4 := dt h4
  refine J_region ?_
  refine JL_call rfl Try.call15 rfl (fun hin => nu_ct _ _ (by unfold inI; omega)) rfl ?_
  rintro _ _ ⟨cs5, k5, rfl, rfl, hO5⟩
  refine JL_run rfl (Runs_storeB 1 (vs := cs5) (l := cs5) ty30 rfl rfl rfl rfl hO5.len hO5.ok (spl_a (n := 36) hO2.len hO5.len) ?_)
  refine JL_nil ?_
  refine J_seq ?_
  refine J_draw mixed #[0, 0, 0, 6, 14, 15, 63] 6 5 4 rfl (by kernel_rfl) (fun i r6 N6 => match i with | 0 => (r6 0) = .agg ⟨cs5⟩ | 1 => (r6 1) = .agg ⟨cs5⟩ | 2 => (r6 2) = .int .i64 (d) | 3 => (r6 3) = .int .i64 (checkT (d) (2) (eNu (1))) | 4 => (r6 4) = .bool (decide (checkT (d) (2) (eNu (1)) = 0)) | 5 => (N6 5) = [(b1, .cells ⟨cs5⟩ 30 (0, 0))] | _ => True) ⟨?_, ?_, ?_, ?_, ?_, ?_, trivial⟩ ?_
  ·intro ρ r6 N6 B hB hBa hp hr hr0
   have q8 : ρ 8 = .pointer (some ⟨b3, 0, none⟩) := hr0 8 (by kernel_rfl)
   obtain ⟨ρ7, rfl⟩ := reopen_ex (uc q8 un)
   clear q8
   refine JL_run rfl (Pu_load ty30 rfl (At.bx 7 (made_old ((hB 1 (by decide)).trans rfl))) (sub_a hO5.len) ?_)
   refine JL_nil ?_
   exact ⟨.agg ⟨cs5⟩, [], rfl, (Sub.emp Sub.refl), rfl⟩
  ·intro ρ r6 N6 B hB hBa hp hr hr0
   have q8 : ρ 8 = .pointer (some ⟨b3, 0, none⟩) := hr0 8 (by kernel_rfl)
   obtain ⟨ρ8, rfl⟩ := reopen_ex (uc q8 un)
   clear q8
   refine JL_run rfl (Pu_load ty30 rfl (At.bx 7 (made_old ((hB 1 (by decide)).trans rfl))) (sub_a hO5.len) ?_)
   refine JL_nil ?_
   exact ⟨.agg ⟨cs5⟩, [], rfl, (Sub.emp Sub.refl), rfl⟩
  ·intro ρ r6 N6 B hB hBa hp hr hr0
   have q1 : ρ 1 = .int .i64 (d) := hr0 1 (by kernel_rfl)
   obtain ⟨ρ9, rfl⟩ := reopen_ex (uc q1 un)
   clear q1
   refine JL_pure (v := .int .i64 (d)) rfl (Pu.move rfl) ?_
   refine JL_nil ?_
   exact ⟨.int .i64 (d), [], rfl, (Sub.emp Sub.refl), rfl⟩
  ·intro ρ r6 N6 B hB hBa hp hr hr0
   have q19 : ρ 19 = .agg ⟨cs5⟩ := (hr 1 _ _ (by decide) rfl rfl rfl).trans (hp 1 (by decide) rfl)
   have q20 : ρ 20 = .int .i64 (d) := (hr 2 _ _ (by decide) rfl rfl rfl).trans (hp 2 (by decide) rfl)
   obtain ⟨ρ10, rfl⟩ := reopen_ex (uc q19 (uc q20 un))
   clear q19 q20
   refine JL_call rfl Try.call14 rfl (fun hin => check_ct _ _ _ _ _ (hO5.rd (hin 6 _ (made_old ((hB 0 (by decide)).trans rfl))))) rfl ?_
   rintro _ _ ⟨rfl, rfl⟩
   refine JL_nil ?_
   exact ⟨.int .i64 (checkT (d) (2) (eNu (1))), [], rfl, (Sub.emp Sub.refl), rfl⟩
  ·intro ρ r6 N6 B hB hBa hp hr hr0
   have q21 : ρ 21 = .int .i64 (checkT (d) (2) (eNu (1))) := (hr 3 _ _ (by decide) rfl rfl rfl).trans (hp 3 (by decide) rfl)
   obtain ⟨ρ11, rfl⟩ := reopen_ex (uc q21 un)
   clear q21
   refine JL_pure (v := .bool (decide (checkT (d) (2) (eNu (1)) = 0))) rfl (Pu.eql rfl rfl) ?_
   refine JL_nil ?_
   exact ⟨.bool (decide (checkT (d) (2) (eNu (1)) = 0)), [], rfl, (Sub.emp Sub.refl), rfl⟩
  ·intro ρ r6 N6 B hB hBa hp hr hr0
   have q6 : ρ 6 = .pointer (some ⟨b1, 0, none⟩) := hr0 6 (by kernel_rfl)
   have q18 : ρ 18 = .agg ⟨cs5⟩ := (hr 0 _ _ (by decide) rfl rfl rfl).trans (hp 0 (by decide) rfl)
   obtain ⟨ρ12, rfl⟩ := reopen_ex (uc q6 (uc q18 un))
   clear q6 q18
   obtain rfl := hBa rfl
   refine JL_run rfl (Runs_storeB 10 (vs := cs5) (l := cs5) ty30 rfl rfl rfl rfl hO5.len hO5.ok (spl_a (n := 36) rfl hO5.len) ?_)
   refine JL_nil ?_
   exact ⟨undef, [(b1, .cells ⟨cs5⟩ 30 (0, 0))], rfl, (Sub_setB (k := 6) (a := 5) (p := 4)), rfl⟩
  ·intro ρ r6 N6 hp hr hr0
   have p5 : (N6 5) = [(b1, .cells ⟨cs5⟩ 30 (0, 0))] := hp 5 (by decide)
   have q6 : ρ 6 = .pointer (some ⟨b1, 0, none⟩) := hr0 6 (by kernel_rfl)
   have q7 : ρ 7 = .bool (false) := hr0 7 (by kernel_rfl)
   have q22 : ρ 22 = .bool (decide (checkT (d) (2) (eNu (1)) = 0)) := (hr 4 _ _ (by decide) rfl rfl).trans (hp 4 (by decide))
   obtain ⟨ρ13, rfl⟩ := reopen_ex (uc q6 (uc q7 (uc q22 un)))
   clear q6 q7 q22
   have p6_5 := p5
   clear hp hr hr0 p5
   refine JL_sub (M' := [(N6 0), (N6 1), (N6 2), (N6 3), (N6 4), [], k5, [(b3, .cells ⟨cs5⟩ 30 (0, 0))], [(bS, .cells ⟨[v, .int .i64 (a2), .int .u64 (s2)]⟩ 45 (0, 0))], k2, (N6 5)]) Sub.refl ?_
   refine JL_sub (M' := [k5, [(b3, .cells ⟨cs5⟩ 30 (0, 0))], [(bS, .cells ⟨[v, .int .i64 (a2), .int .u64 (s2)]⟩ 45 (0, 0))], k2, [(b1, .cells ⟨cs5⟩ 30 (0, 0))]]) (Sd (Sd (Sd (Sd (Sd (Sd (Sk (Sk (Sk (Sk (Se p6_5 Sub.nil))))))))))) ?_
   show JL _ _ _ [_] _ _ _
   refine JL_pure (v := .bool (decide (checkT (d) (2) (eNu (1)) = 0))) rfl (Pu.assign rfl) ?_
   refine JL_nil ?_
   refine J_ret ?_
   refine ⟨.tuple ⟨[.agg ⟨cs5⟩, .bool (decide (checkT (d) (2) (eNu (1)) = 0))]⟩, [[(bS, .cells ⟨[v, .int .i64 (a2), .int .u64 (s2)]⟩ 45 (0, 0))], k5], Ret.two rfl (RV.cell ty30 rfl (At.bx 4 rfl) (sub_a hO5.len)) (RV.tmp rfl), (Sub.cons 2 rfl (Sk Sub.nil)), ?_⟩
   exact ⟨_, _, _, _, _, by rw [decide_eq_true drawn_nu], rfl, hO5, by rw [← check_eq]; exact drawn_nu, by omega⟩
 ·skip
  replace h4 := df h4
  refine J_skip ?_
  refine J_seq ?_
  refine J_draw mixed #[0, 0, 0, 6, 14, 15, 63] 6 5 3 rfl (by kernel_rfl) (fun i r14 N14 => match i with | 0 => (r14 0) = .agg ⟨cs2⟩ | 1 => (r14 1) = .agg ⟨cs2⟩ | 2 => (r14 2) = .int .i64 (d) | 3 => (r14 3) = .int .i64 (checkT (d) (2) (t2)) | 4 => (r14 4) = .bool (decide (checkT (d) (2) (t2) = 0)) | 5 => (N14 5) = [(b1, .cells ⟨cs2⟩ 30 (0, 0))] | _ => True) ⟨?_, ?_, ?_, ?_, ?_, ?_, trivial⟩ ?_
  ·intro ρ r14 N14 B hB hBa hp hr hr0
   have q8 : ρ 8 = .pointer (some ⟨b3, 0, none⟩) := hr0 8 (by kernel_rfl)
   obtain ⟨ρ15, rfl⟩ := reopen_ex (uc q8 un)
   clear q8
   refine JL_run rfl (Pu_load ty30 rfl (At.bx 6 (made_old ((hB 0 (by decide)).trans rfl))) (sub_a hO2.len) ?_)
   refine JL_nil ?_
   exact ⟨.agg ⟨cs2⟩, [], rfl, (Sub.emp Sub.refl), rfl⟩
  ·intro ρ r14 N14 B hB hBa hp hr hr0
   have q8 : ρ 8 = .pointer (some ⟨b3, 0, none⟩) := hr0 8 (by kernel_rfl)
   obtain ⟨ρ16, rfl⟩ := reopen_ex (uc q8 un)
   clear q8
   refine JL_run rfl (Pu_load ty30 rfl (At.bx 6 (made_old ((hB 0 (by decide)).trans rfl))) (sub_a hO2.len) ?_)
   refine JL_nil ?_
   exact ⟨.agg ⟨cs2⟩, [], rfl, (Sub.emp Sub.refl), rfl⟩
  ·intro ρ r14 N14 B hB hBa hp hr hr0
   have q1 : ρ 1 = .int .i64 (d) := hr0 1 (by kernel_rfl)
   obtain ⟨ρ17, rfl⟩ := reopen_ex (uc q1 un)
   clear q1
   refine JL_pure (v := .int .i64 (d)) rfl (Pu.move rfl) ?_
   refine JL_nil ?_
   exact ⟨.int .i64 (d), [], rfl, (Sub.emp Sub.refl), rfl⟩
  ·intro ρ r14 N14 B hB hBa hp hr hr0
   have q19 : ρ 19 = .agg ⟨cs2⟩ := (hr 1 _ _ (by decide) rfl rfl rfl).trans (hp 1 (by decide) rfl)
   have q20 : ρ 20 = .int .i64 (d) := (hr 2 _ _ (by decide) rfl rfl rfl).trans (hp 2 (by decide) rfl)
   obtain ⟨ρ18, rfl⟩ := reopen_ex (uc q19 (uc q20 un))
   clear q19 q20
   refine JL_call rfl Try.call14 rfl (fun hin => check_ct _ _ _ _ _ (hO2.rd (hin 8 _ (made_old ((hB 2 (by decide)).trans rfl))))) rfl ?_
   rintro _ _ ⟨rfl, rfl⟩
   refine JL_nil ?_
   exact ⟨.int .i64 (checkT (d) (2) (t2)), [], rfl, (Sub.emp Sub.refl), rfl⟩
  ·intro ρ r14 N14 B hB hBa hp hr hr0
   have q21 : ρ 21 = .int .i64 (checkT (d) (2) (t2)) := (hr 3 _ _ (by decide) rfl rfl rfl).trans (hp 3 (by decide) rfl)
   obtain ⟨ρ19, rfl⟩ := reopen_ex (uc q21 un)
   clear q21
   refine JL_pure (v := .bool (decide (checkT (d) (2) (t2) = 0))) rfl (Pu.eql rfl rfl) ?_
   refine JL_nil ?_
   exact ⟨.bool (decide (checkT (d) (2) (t2) = 0)), [], rfl, (Sub.emp Sub.refl), rfl⟩
  ·intro ρ r14 N14 B hB hBa hp hr hr0
   have q6 : ρ 6 = .pointer (some ⟨b1, 0, none⟩) := hr0 6 (by kernel_rfl)
   have q18 : ρ 18 = .agg ⟨cs2⟩ := (hr 0 _ _ (by decide) rfl rfl rfl).trans (hp 0 (by decide) rfl)
   obtain ⟨ρ20, rfl⟩ := reopen_ex (uc q6 (uc q18 un))
   clear q6 q18
   obtain rfl := hBa rfl
   refine JL_run rfl (Runs_storeB 9 (vs := cs2) (l := cs2) ty30 rfl rfl rfl rfl hO2.len hO2.ok (spl_a (n := 36) rfl hO2.len) ?_)
   refine JL_nil ?_
   exact ⟨undef, [(b1, .cells ⟨cs2⟩ 30 (0, 0))], rfl, (Sub_setB (k := 6) (a := 5) (p := 3)), rfl⟩
  ·intro ρ r14 N14 hp hr hr0
   have p5 : (N14 5) = [(b1, .cells ⟨cs2⟩ 30 (0, 0))] := hp 5 (by decide)
   have q6 : ρ 6 = .pointer (some ⟨b1, 0, none⟩) := hr0 6 (by kernel_rfl)
   have q7 : ρ 7 = .bool (false) := hr0 7 (by kernel_rfl)
   have q22 : ρ 22 = .bool (decide (checkT (d) (2) (t2) = 0)) := (hr 4 _ _ (by decide) rfl rfl).trans (hp 4 (by decide))
   obtain ⟨ρ21, rfl⟩ := reopen_ex (uc q6 (uc q7 (uc q22 un)))
   clear q6 q7 q22
   have p14_5 := p5
   clear hp hr hr0 p5
   refine JL_sub (M' := [(N14 0), (N14 1), (N14 2), (N14 3), (N14 4), [], [(b3, .cells ⟨cs2⟩ 30 (0, 0))], [(bS, .cells ⟨[v, .int .i64 (a2), .int .u64 (s2)]⟩ 45 (0, 0))], k2, (N14 5)]) Sub.refl ?_
   refine JL_sub (M' := [[(b3, .cells ⟨cs2⟩ 30 (0, 0))], [(bS, .cells ⟨[v, .int .i64 (a2), .int .u64 (s2)]⟩ 45 (0, 0))], k2, [(b1, .cells ⟨cs2⟩ 30 (0, 0))]]) (Sd (Sd (Sd (Sd (Sd (Sd (Sk (Sk (Sk (Se p14_5 Sub.nil)))))))))) ?_
   show JL _ _ _ [_] _ _ _
   refine JL_pure (v := .bool (decide (checkT (d) (2) (t2) = 0))) rfl (Pu.assign rfl) ?_
   refine JL_nil ?_
   refine J_ret ?_
   refine ⟨.tuple ⟨[.agg ⟨cs2⟩, .bool (decide (checkT (d) (2) (t2) = 0))]⟩, [[(bS, .cells ⟨[v, .int .i64 (a2), .int .u64 (s2)]⟩ 45 (0, 0))], k2], Ret.two rfl (RV.cell ty30 rfl (At.bx 3 rfl) (sub_a hO2.len)) (RV.tmp rfl), (Sd (Sk (Sk Sub.nil))), ?_⟩
   exact ⟨_, _, _, _, _, by rw [decide_eq_true (drawn_ok hg2.1 h4)], rfl, hO2, by rw [← check_eq]; exact (drawn_ok hg2.1 h4), by omega⟩
end Go.Proofs.Ytmdifonjepggcaa.Hs
/-! Walks, printed by a program of this session's own (gen.py). -/
namespace Go.Proofs.Ytmdifonjepggcaa.Hs
open Go Go.Proofs
set_option maxRecDepth 100000
set_option linter.unusedVariables false
set_option linter.unusedSimpArgs false
attribute [local irreducible] JL J CT wlo
set_option maxHeartbeats 8000000 in
theorem awake_ct (H : Heap) : CT Try.prog 10 ⟨[]⟩ [] H (fun v N => v = .bool true ∧ N = []) := by
 refine CT_enter Try.func10 rfl rfl ?_
 refine J_seq ?_
 refine J_region ?_
 refine JL_pure (v := .bool (false)) rfl (Pu.assign rfl) ?_
 refine JL_nil ?_
 refine J_seq ?_
 refine J_cond (b := false) rfl (fun h => absurd h (by simp)) (fun _ => ?_)
 refine J_skip ?_
 refine J_seq ?_
 refine J_region ?_
 refine JL_call rfl Try.call33 rfl (fun hin => va_ct _ _ (by unfold inI; omega)) rfl ?_
 rintro _ _ ⟨cs1, k1, rfl, rfl, hO1⟩
 refine JL_call rfl Try.call33 rfl (fun hin => va_ct _ _ (by unfold inI; omega)) rfl ?_
 rintro _ _ ⟨cs2, k2, rfl, rfl, hO2⟩
 refine JL_call rfl Try.call32 rfl (fun hin => ap_ct _ _ hO1.len hO1.ok _ hO2.len hO2.ok) rfl ?_
 rintro _ _ ⟨cs3, k3, rfl, rfl, hC3⟩
 replace hC3 : ((cs3).length = 36 ∧ okc (cs3) ∧ ∀ h, Has (k3) h → RT h (cs1) (eVa (0)) → RT h (cs2) (eVa (1)) → RT h (cs3) (eAp (eVa (0)) (eVa (1)))) := ⟨hC3.1, hC3.2.1, hC3.2.2 (eVa (0)) (eVa (1))⟩
 refine JL_call rfl Try.call31 rfl (fun hin => la_ct _ _ hC3.1 hC3.2.1) rfl ?_
 rintro _ _ ⟨cs4, k4, rfl, rfl, hC4⟩
 replace hC4 : ((cs4).length = 36 ∧ okc (cs4) ∧ ∀ h, Has (k4) h → RT h (cs3) (eAp (eVa (0)) (eVa (1))) → RT h (cs4) (eLa (eAp (eVa (0)) (eVa (1))))) := ⟨hC4.1, hC4.2.1, hC4.2.2 (eAp (eVa (0)) (eVa (1)))⟩
 refine JL_run rfl (Runs_alloc (l := pkT (0) (0) (zS) (.slice none 0 0) (.slice none 0 0)) Try.zeroValue30 rfl fun b5 => ?_)
 refine JL_run rfl (Runs_storeB 0 (vs := cs4) (l := cs4) ty30 rfl rfl rfl rfl hC4.1 hC4.2.1 (spl_a (n := 36) rfl hC4.1) ?_)
 refine JL_nil ?_
 refine J_seq ?_
 refine J_region ?_
 refine JL_run rfl (Pu_load ty30 rfl (At.bx 0 rfl) (sub_a hC4.1) ?_)
 refine JL_call rfl Try.call34 rfl (fun hin => freeE_ct eLam _ _ (hC4.2.2 _ (hin 1 _ rfl) (hC3.2.2 _ (hin 2 _ rfl) (hO1.rd (hin 4 _ rfl)) (hO2.rd (hin 3 _ rfl))))) rfl ?_
 rintro _ _ ⟨u6, e6, k6, rfl, rfl, ho6, he6⟩
 rw [free_lam] at ho6 he6
 replace ho6 : Own 3 1 u6 (ints ([0])) k6 := ho6
 obtain rfl : e6 = 0 := he6
 refine JL_pure (v := .tuple ⟨[u6, .int .i64 (0)]⟩) rfl (Pu.move rfl) ?_
 refine JL_pure (v := u6) rfl (Pu.extract rfl rfl) ?_
 refine JL_pure (v := .int .i64 (0)) rfl (Pu.extract rfl rfl) ?_
 refine JL_pure (v := u6) rfl (Pu.assign rfl) ?_
 refine JL_pure (v := .int .i64 (0)) rfl (Pu.assign rfl) ?_
 refine JL_nil ?_
 refine J_seq ?_
 refine J_drawC mixed #[0, 0, 3, 7, 15, 15, 0, 95, 255] 8 7 6 rfl (by kernel_rfl) rfl rfl (by kernel_rfl) (by kernel_rfl) (fun i r7 N7 => match i with | 0 => (r7 0) = .agg ⟨cs4⟩ | 1 => (r7 1) = .agg ⟨(cel (r7 1))⟩ ∧ OT (eNu (5)) (cel (r7 1)) (N7 1) | 2 => (r7 2) = .tuple ⟨[.agg ⟨(tcel (r7 2))⟩, .int .i64 0]⟩ ∧ OT (eLa (eAp (eVa 0) (eNu 5))) (tcel (r7 2)) (N7 2) | 3 => (r7 3) = .tuple ⟨[.agg ⟨(tcel (r7 2))⟩, .int .i64 (0)]⟩ | 4 => (r7 4) = .agg ⟨(tcel (r7 2))⟩ | 5 => (r7 5) = .int .i64 (0) | 6 => (r7 6) = .pointer (some ⟨(pblk (r7 6)), 0, none⟩) ∧ ∃ X : List Value, X.length = 36 ∧ (N7 6) = [((pblk (r7 6)), .cells ⟨X⟩ 30 (0, 0))] | 7 => (N7 6) = [((pblk (r7 6)), .cells ⟨(tcel (r7 2))⟩ 30 (0, 0))] | _ => True) ⟨?_, ?_, ?_, ?_, ?_, ?_, ?_, ?_, trivial⟩ ?_
 ·intro ρ r7 N7 hp hr hr0
  have q1 : ρ 1 = .pointer (some ⟨b5, 0, none⟩) := hr0 1 (by kernel_rfl)
  obtain ⟨ρ8, rfl⟩ := reopen_ex (uc q1 un)
  clear q1
  refine JL_run rfl (Pu_load ty30 rfl (At.bx 9 (made_old (j := 1) rfl)) (sub_a hC4.1) ?_)
  refine JL_nil ?_
  exact ⟨.agg ⟨cs4⟩, [], rfl, (Sub.emp Sub.refl), rfl, fun h => absurd h (by decide)⟩
 ·intro ρ r7 N7 hp hr hr0
  refine JL_call rfl Try.call15 rfl (fun hin => nu_ct _ _ (by unfold inI; omega)) rfl ?_
  rintro _ _ ⟨cs9, k9, rfl, rfl, hO9⟩
  refine JL_nil ?_
  exact ⟨.agg ⟨cs9⟩, k9, rfl, Sub.refl, ⟨rfl, hO9⟩, fun h => absurd h (by decide)⟩
 ·intro ρ r7 N7 hp hr hr0
  have p1 : (r7 1) = .agg ⟨(cel (r7 1))⟩ ∧ OT (eNu (5)) (cel (r7 1)) (N7 1) := hp 1 (by decide) rfl
  have q24 : ρ 24 = .agg ⟨cs4⟩ := (hr 0 _ _ (by decide) rfl rfl rfl).trans (hp 0 (by decide) rfl)
  have q25 : ρ 25 = .agg ⟨(cel (r7 1))⟩ := (hr 1 _ _ (by decide) rfl rfl rfl).trans p1.1
  obtain ⟨ρ10, rfl⟩ := reopen_ex (uc q24 (uc q25 un))
  clear q24 q25
  refine JL_call rfl Try.call8 rfl (fun hin => ble_at (substP_ct eLam 0 (eNu (5)) _ _ _ (hC4.2.2 _ (hin 10 _ (made_old (j := 2) rfl)) (hC3.2.2 _ (hin 11 _ (made_old (j := 3) rfl)) (hO1.rd (hin 13 _ (made_old (j := 5) rfl))) (hO2.rd (hin 12 _ (made_old (j := 4) rfl))))) (p1.2.rd (hin 1 _ (made_new rfl rfl)))) five_lam) rfl ?_
  rintro _ _ ⟨cs11, k11, rfl, rfl, hO11⟩
  refine JL_nil ?_
  exact ⟨.tuple ⟨[.agg ⟨cs11⟩, .int .i64 (0)]⟩, k11, rfl, Sub.refl, ⟨rfl, hO11⟩, fun h => absurd h (by decide)⟩
 ·intro ρ r7 N7 hp hr hr0
  have q26 : ρ 26 = .tuple ⟨[.agg ⟨(tcel (r7 2))⟩, .int .i64 (0)]⟩ := (hr 2 _ _ (by decide) rfl rfl rfl).trans (hp 2 (by decide) rfl).1
  obtain ⟨ρ12, rfl⟩ := reopen_ex (uc q26 un)
  clear q26
  refine JL_pure (v := .tuple ⟨[.agg ⟨(tcel (r7 2))⟩, .int .i64 (0)]⟩) rfl (Pu.move rfl) ?_
  refine JL_nil ?_
  exact ⟨.tuple ⟨[.agg ⟨(tcel (r7 2))⟩, .int .i64 (0)]⟩, [], rfl, (Sub.emp Sub.refl), rfl, fun h => absurd h (by decide)⟩
 ·intro ρ r7 N7 hp hr hr0
  have q23 : ρ 23 = .tuple ⟨[.agg ⟨(tcel (r7 2))⟩, .int .i64 (0)]⟩ := (hr 3 _ _ (by decide) rfl rfl rfl).trans (hp 3 (by decide) rfl)
  obtain ⟨ρ13, rfl⟩ := reopen_ex (uc q23 un)
  clear q23
  refine JL_pure (v := .agg ⟨(tcel (r7 2))⟩) rfl (Pu.extract rfl rfl) ?_
  refine JL_nil ?_
  exact ⟨.agg ⟨(tcel (r7 2))⟩, [], rfl, (Sub.emp Sub.refl), rfl, fun h => absurd h (by decide)⟩
 ·intro ρ r7 N7 hp hr hr0
  have q23 : ρ 23 = .tuple ⟨[.agg ⟨(tcel (r7 2))⟩, .int .i64 (0)]⟩ := (hr 3 _ _ (by decide) rfl rfl rfl).trans (hp 3 (by decide) rfl)
  obtain ⟨ρ14, rfl⟩ := reopen_ex (uc q23 un)
  clear q23
  refine JL_pure (v := .int .i64 (0)) rfl (Pu.extract rfl rfl) ?_
  refine JL_nil ?_
  exact ⟨.int .i64 (0), [], rfl, (Sub.emp Sub.refl), rfl, fun h => absurd h (by decide)⟩
 ·intro ρ r7 N7 hp hr hr0
  refine JL_run rfl (Runs_alloc (l := pkT (0) (0) (zS) (.slice none 0 0) (.slice none 0 0)) Try.zeroValue30 rfl fun b15 => ?_)
  refine JL_nil ?_
  exact ⟨.pointer (some ⟨b15, 0, none⟩), [(b15, .cells ⟨pkT (0) (0) (zS) (.slice none 0 0) (.slice none 0 0)⟩ 30 (0, 0))], rfl, Sub.refl, ⟨rfl, _, rfl, rfl⟩, fun h => absurd h (by decide)⟩
 ·intro ρ r7 N7 hp hr hr0
  have p2 : (r7 2) = .tuple ⟨[.agg ⟨(tcel (r7 2))⟩, .int .i64 0]⟩ ∧ OT (eLa (eAp (eVa 0) (eNu 5))) (tcel (r7 2)) (N7 2) := hp 2 (by decide) rfl
  have p6 : (r7 6) = .pointer (some ⟨(pblk (r7 6)), 0, none⟩) ∧ ∃ X : List Value, X.length = 36 ∧ (N7 6) = [((pblk (r7 6)), .cells ⟨X⟩ 30 (0, 0))] := hp 6 (by decide) rfl
  have q4 : ρ 4 = .pointer (some ⟨(pblk (r7 6)), 0, none⟩) := (hr 6 _ _ (by decide) rfl rfl rfl).trans p6.1
  have q27 : ρ 27 = .agg ⟨(tcel (r7 2))⟩ := (hr 4 _ _ (by decide) rfl rfl rfl).trans (hp 4 (by decide) rfl)
  obtain ⟨ρ16, rfl⟩ := reopen_ex (uc q4 (uc q27 un))
  clear q4 q27
  obtain ⟨hrC, X, hX, hNC⟩ := p6
  refine JL_run rfl (Runs_storeB 6 (vs := (tcel (r7 2))) (l := (tcel (r7 2))) ty30 rfl ((made_new rfl rfl).trans (congrArg some hNC)) rfl rfl p2.2.len p2.2.ok (spl_a (n := 36) hX p2.2.len) ?_)
  refine JL_nil ?_
  exact ⟨undef, [((pblk (r7 6)), .cells ⟨(tcel (r7 2))⟩ 30 (0, 0))], rfl, Sub.refl, rfl, fun _ => ⟨hrC, _, p2.2.len, rfl⟩⟩
 ·intro ρ r7 N7 hNa hp hr hr0
  have p1 : (r7 1) = .agg ⟨(cel (r7 1))⟩ ∧ OT (eNu (5)) (cel (r7 1)) (N7 1) := hp 1 (by decide)
  have p2 : (r7 2) = .tuple ⟨[.agg ⟨(tcel (r7 2))⟩, .int .i64 0]⟩ ∧ OT (eLa (eAp (eVa 0) (eNu 5))) (tcel (r7 2)) (N7 2) := hp 2 (by decide)
  have p6 : (r7 6) = .pointer (some ⟨(pblk (r7 6)), 0, none⟩) ∧ ∃ X : List Value, X.length = 36 ∧ (N7 6) = [((pblk (r7 6)), .cells ⟨X⟩ 30 (0, 0))] := hp 6 (by decide)
  have p7 : (N7 6) = [((pblk (r7 6)), .cells ⟨(tcel (r7 2))⟩ 30 (0, 0))] := hp 7 (by decide)
  have q0 : ρ 0 = .bool (false) := hr0 0 (by kernel_rfl)
  have q1 : ρ 1 = .pointer (some ⟨b5, 0, none⟩) := hr0 1 (by kernel_rfl)
  have q2 : ρ 2 = u6 := hr0 2 (by kernel_rfl)
  have q3 : ρ 3 = .int .i64 (0) := hr0 3 (by kernel_rfl)
  have q4 : ρ 4 = .pointer (some ⟨(pblk (r7 6)), 0, none⟩) := (hr 6 _ _ (by decide) rfl rfl).trans p6.1
  have q28 : ρ 28 = .int .i64 (0) := (hr 5 _ _ (by decide) rfl rfl).trans (hp 5 (by decide))
  obtain ⟨ρ17, rfl⟩ := reopen_ex (uc q0 (uc q1 (uc q2 (uc q3 (uc q4 (uc q28 un))))))
  clear q0 q1 q2 q3 q4 q28
  have p7_1 := p1; have p7_2 := p2; have p7_6 := p6; have p7_7 := p7
  clear hp hr hr0 p1 p2 p6 p7
  refine JL_sub (M' := [(N7 0), (N7 1), (N7 2), (N7 3), (N7 4), (N7 5), (N7 6), (N7 7), k6, [(b5, .cells ⟨cs4⟩ 30 (0, 0))], k4, k3, k2, k1]) Sub.refl ?_
  refine JL_sub (M' := [(N7 1), (N7 2), [((pblk (r7 6)), .cells ⟨(tcel (r7 2))⟩ 30 (0, 0))], k6, [(b5, .cells ⟨cs4⟩ 30 (0, 0))], k4, k3, k2, k1]) (Sd (Sk (Sk (Sd (Sd (Sd (Se p7_7 (Sd (Sk (Sk (Sk (Sk (Sk (Sk Sub.nil)))))))))))))) ?_
  show JL _ _ _ [_] _ _ _
  refine JL_pure (v := .int .i64 (0)) rfl (Pu.assign rfl) ?_
  refine JL_nil ?_
  refine J_seq ?_
  refine J_drawC mixed #[0, 0, 3, 7, 15, 15, 0, 95, 255] 8 7 6 rfl (by kernel_rfl) rfl rfl (by kernel_rfl) (by kernel_rfl) (fun i r18 N18 => match i with | 0 => (r18 0) = .agg ⟨cs4⟩ | 1 => (r18 1) = .agg ⟨(cel (r18 1))⟩ ∧ OT (eVa (3)) (cel (r18 1)) (N18 1) | 2 => (r18 2) = .tuple ⟨[.agg ⟨(tcel (r18 2))⟩, .int .i64 0]⟩ ∧ OT (eLa (eAp (eVa 0) (eVa 4))) (tcel (r18 2)) (N18 2) | 3 => (r18 3) = .tuple ⟨[.agg ⟨(tcel (r18 2))⟩, .int .i64 (0)]⟩ | 4 => (r18 4) = .agg ⟨(tcel (r18 2))⟩ | 5 => (r18 5) = .int .i64 (0) | 6 => (r18 6) = .pointer (some ⟨(pblk (r18 6)), 0, none⟩) ∧ ∃ X : List Value, X.length = 36 ∧ (N18 6) = [((pblk (r18 6)), .cells ⟨X⟩ 30 (0, 0))] | 7 => (N18 6) = [((pblk (r18 6)), .cells ⟨(tcel (r18 2))⟩ 30 (0, 0))] | _ => True) ⟨?_, ?_, ?_, ?_, ?_, ?_, ?_, ?_, trivial⟩ ?_
  ·intro ρ r18 N18 hp hr hr0
   have q1 : ρ 1 = .pointer (some ⟨b5, 0, none⟩) := hr0 1 (by kernel_rfl)
   obtain ⟨ρ19, rfl⟩ := reopen_ex (uc q1 un)
   clear q1
   refine JL_run rfl (Pu_load ty30 rfl (At.bx 12 (made_old (j := 4) rfl)) (sub_a hC4.1) ?_)
   refine JL_nil ?_
   exact ⟨.agg ⟨cs4⟩, [], rfl, (Sub.emp Sub.refl), rfl, fun h => absurd h (by decide)⟩
  ·intro ρ r18 N18 hp hr hr0
   refine JL_call rfl Try.call33 rfl (fun hin => va_ct _ _ (by unfold inI; omega)) rfl ?_
   rintro _ _ ⟨cs20, k20, rfl, rfl, hO20⟩
   refine JL_nil ?_
   exact ⟨.agg ⟨cs20⟩, k20, rfl, Sub.refl, ⟨rfl, hO20⟩, fun h => absurd h (by decide)⟩
  ·intro ρ r18 N18 hp hr hr0
   have p1 : (r18 1) = .agg ⟨(cel (r18 1))⟩ ∧ OT (eVa (3)) (cel (r18 1)) (N18 1) := hp 1 (by decide) rfl
   have q30 : ρ 30 = .agg ⟨cs4⟩ := (hr 0 _ _ (by decide) rfl rfl rfl).trans (hp 0 (by decide) rfl)
   have q31 : ρ 31 = .agg ⟨(cel (r18 1))⟩ := (hr 1 _ _ (by decide) rfl rfl rfl).trans p1.1
   obtain ⟨ρ21, rfl⟩ := reopen_ex (uc q30 (uc q31 un))
   clear q30 q31
   refine JL_call rfl Try.call8 rfl (fun hin => ble_at (substP_ct eLam 0 (eVa (3)) _ _ _ (hC4.2.2 _ (hin 13 _ (made_old (j := 5) rfl)) (hC3.2.2 _ (hin 14 _ (made_old (j := 6) rfl)) (hO1.rd (hin 16 _ (made_old (j := 8) rfl))) (hO2.rd (hin 15 _ (made_old (j := 7) rfl))))) (p1.2.rd (hin 1 _ (made_new rfl rfl)))) three_lam) rfl ?_
   rintro _ _ ⟨cs22, k22, rfl, rfl, hO22⟩
   refine JL_nil ?_
   exact ⟨.tuple ⟨[.agg ⟨cs22⟩, .int .i64 (0)]⟩, k22, rfl, Sub.refl, ⟨rfl, hO22⟩, fun h => absurd h (by decide)⟩
  ·intro ρ r18 N18 hp hr hr0
   have q32 : ρ 32 = .tuple ⟨[.agg ⟨(tcel (r18 2))⟩, .int .i64 (0)]⟩ := (hr 2 _ _ (by decide) rfl rfl rfl).trans (hp 2 (by decide) rfl).1
   obtain ⟨ρ23, rfl⟩ := reopen_ex (uc q32 un)
   clear q32
   refine JL_pure (v := .tuple ⟨[.agg ⟨(tcel (r18 2))⟩, .int .i64 (0)]⟩) rfl (Pu.move rfl) ?_
   refine JL_nil ?_
   exact ⟨.tuple ⟨[.agg ⟨(tcel (r18 2))⟩, .int .i64 (0)]⟩, [], rfl, (Sub.emp Sub.refl), rfl, fun h => absurd h (by decide)⟩
  ·intro ρ r18 N18 hp hr hr0
   have q29 : ρ 29 = .tuple ⟨[.agg ⟨(tcel (r18 2))⟩, .int .i64 (0)]⟩ := (hr 3 _ _ (by decide) rfl rfl rfl).trans (hp 3 (by decide) rfl)
   obtain ⟨ρ24, rfl⟩ := reopen_ex (uc q29 un)
   clear q29
   refine JL_pure (v := .agg ⟨(tcel (r18 2))⟩) rfl (Pu.extract rfl rfl) ?_
   refine JL_nil ?_
   exact ⟨.agg ⟨(tcel (r18 2))⟩, [], rfl, (Sub.emp Sub.refl), rfl, fun h => absurd h (by decide)⟩
  ·intro ρ r18 N18 hp hr hr0
   have q29 : ρ 29 = .tuple ⟨[.agg ⟨(tcel (r18 2))⟩, .int .i64 (0)]⟩ := (hr 3 _ _ (by decide) rfl rfl rfl).trans (hp 3 (by decide) rfl)
   obtain ⟨ρ25, rfl⟩ := reopen_ex (uc q29 un)
   clear q29
   refine JL_pure (v := .int .i64 (0)) rfl (Pu.extract rfl rfl) ?_
   refine JL_nil ?_
   exact ⟨.int .i64 (0), [], rfl, (Sub.emp Sub.refl), rfl, fun h => absurd h (by decide)⟩
  ·intro ρ r18 N18 hp hr hr0
   refine JL_run rfl (Runs_alloc (l := pkT (0) (0) (zS) (.slice none 0 0) (.slice none 0 0)) Try.zeroValue30 rfl fun b26 => ?_)
   refine JL_nil ?_
   exact ⟨.pointer (some ⟨b26, 0, none⟩), [(b26, .cells ⟨pkT (0) (0) (zS) (.slice none 0 0) (.slice none 0 0)⟩ 30 (0, 0))], rfl, Sub.refl, ⟨rfl, _, rfl, rfl⟩, fun h => absurd h (by decide)⟩
  ·intro ρ r18 N18 hp hr hr0
   have p2 : (r18 2) = .tuple ⟨[.agg ⟨(tcel (r18 2))⟩, .int .i64 0]⟩ ∧ OT (eLa (eAp (eVa 0) (eVa 4))) (tcel (r18 2)) (N18 2) := hp 2 (by decide) rfl
   have p6 : (r18 6) = .pointer (some ⟨(pblk (r18 6)), 0, none⟩) ∧ ∃ X : List Value, X.length = 36 ∧ (N18 6) = [((pblk (r18 6)), .cells ⟨X⟩ 30 (0, 0))] := hp 6 (by decide) rfl
   have q6 : ρ 6 = .pointer (some ⟨(pblk (r18 6)), 0, none⟩) := (hr 6 _ _ (by decide) rfl rfl rfl).trans p6.1
   have q33 : ρ 33 = .agg ⟨(tcel (r18 2))⟩ := (hr 4 _ _ (by decide) rfl rfl rfl).trans (hp 4 (by decide) rfl)
   obtain ⟨ρ27, rfl⟩ := reopen_ex (uc q6 (uc q33 un))
   clear q6 q33
   obtain ⟨hrC, X, hX, hNC⟩ := p6
   refine JL_run rfl (Runs_storeB 6 (vs := (tcel (r18 2))) (l := (tcel (r18 2))) ty30 rfl ((made_new rfl rfl).trans (congrArg some hNC)) rfl rfl p2.2.len p2.2.ok (spl_a (n := 36) hX p2.2.len) ?_)
   refine JL_nil ?_
   exact ⟨undef, [((pblk (r18 6)), .cells ⟨(tcel (r18 2))⟩ 30 (0, 0))], rfl, Sub.refl, rfl, fun _ => ⟨hrC, _, p2.2.len, rfl⟩⟩
  ·intro ρ r18 N18 hNa hp hr hr0
   have p1 : (r18 1) = .agg ⟨(cel (r18 1))⟩ ∧ OT (eVa (3)) (cel (r18 1)) (N18 1) := hp 1 (by decide)
   have p2 : (r18 2) = .tuple ⟨[.agg ⟨(tcel (r18 2))⟩, .int .i64 0]⟩ ∧ OT (eLa (eAp (eVa 0) (eVa 4))) (tcel (r18 2)) (N18 2) := hp 2 (by decide)
   have p6 : (r18 6) = .pointer (some ⟨(pblk (r18 6)), 0, none⟩) ∧ ∃ X : List Value, X.length = 36 ∧ (N18 6) = [((pblk (r18 6)), .cells ⟨X⟩ 30 (0, 0))] := hp 6 (by decide)
   have p7 : (N18 6) = [((pblk (r18 6)), .cells ⟨(tcel (r18 2))⟩ 30 (0, 0))] := hp 7 (by decide)
   have q0 : ρ 0 = .bool (false) := hr0 0 (by kernel_rfl)
   have q1 : ρ 1 = .pointer (some ⟨b5, 0, none⟩) := hr0 1 (by kernel_rfl)
   have q2 : ρ 2 = u6 := hr0 2 (by kernel_rfl)
   have q3 : ρ 3 = .int .i64 (0) := hr0 3 (by kernel_rfl)
   have q4 : ρ 4 = .pointer (some ⟨(pblk (r7 6)), 0, none⟩) := hr0 4 (by kernel_rfl)
   have q5 : ρ 5 = .int .i64 (0) := hr0 5 (by kernel_rfl)
   have q6 : ρ 6 = .pointer (some ⟨(pblk (r18 6)), 0, none⟩) := (hr 6 _ _ (by decide) rfl rfl).trans p6.1
   have q34 : ρ 34 = .int .i64 (0) := (hr 5 _ _ (by decide) rfl rfl).trans (hp 5 (by decide))
   obtain ⟨ρ28, rfl⟩ := reopen_ex (uc q0 (uc q1 (uc q2 (uc q3 (uc q4 (uc q5 (uc q6 (uc q34 un))))))))
   clear q0 q1 q2 q3 q4 q5 q6 q34
   have p18_1 := p1; have p18_2 := p2; have p18_6 := p6; have p18_7 := p7
   clear hp hr hr0 p1 p2 p6 p7
   refine JL_sub (M' := [(N18 0), (N18 1), (N18 2), (N18 3), (N18 4), (N18 5), (N18 6), (N18 7), (N7 1), (N7 2), [((pblk (r7 6)), .cells ⟨(tcel (r7 2))⟩ 30 (0, 0))], k6, [(b5, .cells ⟨cs4⟩ 30 (0, 0))], k4, k3, k2, k1]) Sub.refl ?_
   refine JL_sub (M' := [(N18 1), (N18 2), [((pblk (r18 6)), .cells ⟨(tcel (r18 2))⟩ 30 (0, 0))], (N7 1), (N7 2), [((pblk (r7 6)), .cells ⟨(tcel (r7 2))⟩ 30 (0, 0))], k6, [(b5, .cells ⟨cs4⟩ 30 (0, 0))], k4, k3, k2, k1]) (Sd (Sk (Sk (Sd (Sd (Sd (Se p18_7 (Sd (Sk (Sk (Sk (Sk (Sk (Sk (Sk (Sk (Sk Sub.nil))))))))))))))))) ?_
   show JL _ _ _ [_] _ _ _
   refine JL_pure (v := .int .i64 (0)) rfl (Pu.assign rfl) ?_
   refine JL_nil ?_
   refine J_seq ?_
   refine J_region ?_
   refine JL_run rfl (Pu_load ty30 rfl (At.bx 7 rfl) (sub_a hC4.1) ?_)
   refine JL_call rfl Try.call7 rfl (fun hin => ble_at (shiftP_ct (eLam) (2) (0) _ _ (hC4.2.2 _ (hin 8 _ rfl) (hC3.2.2 _ (hin 9 _ rfl) (hO1.rd (hin 11 _ rfl)) (hO2.rd (hin 10 _ rfl))))) up_lam) rfl ?_
   rintro _ _ ⟨cs29, k29, rfl, rfl, hO29⟩
   refine JL_pure (v := .tuple ⟨[.agg ⟨cs29⟩, .int .i64 (0)]⟩) rfl (Pu.move rfl) ?_
   refine JL_pure (v := .agg ⟨cs29⟩) rfl (Pu.extract rfl rfl) ?_
   refine JL_pure (v := .int .i64 (0)) rfl (Pu.extract rfl rfl) ?_
   refine JL_run rfl (Runs_alloc (l := pkT (0) (0) (zS) (.slice none 0 0) (.slice none 0 0)) Try.zeroValue30 rfl fun b30 => ?_)
   refine JL_run rfl (Runs_storeB 0 (vs := cs29) (l := cs29) ty30 rfl rfl rfl rfl hO29.len hO29.ok (spl_a (n := 36) rfl hO29.len) ?_)
   refine JL_pure (v := .int .i64 (0)) rfl (Pu.assign rfl) ?_
   refine JL_nil ?_
   refine J_seq ?_
   refine J_region ?_
   refine JL_call rfl Try.call33 rfl (fun hin => va_ct _ _ (by unfold inI; omega)) rfl ?_
   rintro _ _ ⟨cs31, k31, rfl, rfl, hO31⟩
   refine JL_call rfl Try.call7 rfl (fun hin => ble_at (shiftP_ct (eVa 0) (-1) (0) _ _ (hO31.rd (hin 0 _ rfl))) down_va) rfl ?_
   rintro _ _ ⟨cs32, k32, rfl, rfl, hO32⟩
   refine JL_pure (v := .tuple ⟨[.agg ⟨cs32⟩, .int .i64 (1)]⟩) rfl (Pu.move rfl) ?_
   refine JL_pure (v := .agg ⟨cs32⟩) rfl (Pu.extract rfl rfl) ?_
   refine JL_pure (v := .int .i64 (1)) rfl (Pu.extract rfl rfl) ?_
   refine JL_run rfl (Runs_alloc (l := pkT (0) (0) (zS) (.slice none 0 0) (.slice none 0 0)) Try.zeroValue30 rfl fun b33 => ?_)
   refine JL_run rfl (Runs_storeB 0 (vs := cs32) (l := cs32) ty30 rfl rfl rfl rfl hO32.len hO32.ok (spl_a (n := 36) rfl hO32.len) ?_)
   refine JL_pure (v := .int .i64 (1)) rfl (Pu.assign rfl) ?_
   refine JL_nil ?_
   refine J_seq ?_
   refine J_region ?_
   refine JL_call rfl Try.call33 rfl (fun hin => va_ct _ _ (by unfold inI; omega)) rfl ?_
   rintro _ _ ⟨cs34, k34, rfl, rfl, hO34⟩
   refine JL_call rfl Try.call31 rfl (fun hin => la_ct _ _ hO34.len hO34.ok) rfl ?_
   rintro _ _ ⟨cs35, k35, rfl, rfl, hC35⟩
   replace hC35 : ((cs35).length = 36 ∧ okc (cs35) ∧ ∀ h, Has (k35) h → RT h (cs34) (eVa (1)) → RT h (cs35) (eLa (eVa (1)))) := ⟨hC35.1, hC35.2.1, hC35.2.2 (eVa (1))⟩
   refine JL_call rfl Try.call31 rfl (fun hin => la_ct _ _ hC35.1 hC35.2.1) rfl ?_
   rintro _ _ ⟨cs36, k36, rfl, rfl, hC36⟩
   replace hC36 : ((cs36).length = 36 ∧ okc (cs36) ∧ ∀ h, Has (k36) h → RT h (cs35) (eLa (eVa (1))) → RT h (cs36) (eLa (eLa (eVa (1))))) := ⟨hC36.1, hC36.2.1, hC36.2.2 (eLa (eVa (1)))⟩
   refine JL_run rfl (Runs_buildSlice (vs := [.string (ltr 0)]) [[.string (ltr 0)]] Try.runUnderlying75 el9 rfl rfl (by intro e he; simp only [List.mem_cons, List.not_mem_nil, or_false] at he; subst he; exact rfl) rfl (by decide) fun b37 k37 ho37 hk37 => ?_)
   refine JL_call rfl Try.call35 rfl (fun hin => nameE_ct _ _ _ (hC36.2.2 _ (hin 1 _ rfl) (hC35.2.2 _ (hin 2 _ rfl) (hO34.rd (hin 3 _ rfl)))) (own_strs (l := [ltr 0]) ho37 (by simp) (hin 0 _ rfl))) rfl ?_
   rintro _ _ ⟨_, _, rfl, rfl, nk38, nn38, nr38, ns38, nks38, ncv38, ne38, nk138, nk238, nk338, rfl, hone38, hon38, hok38, ⟨mk38, mn38, mr38, ms38, mks38, mcv38, me38, mk138, mk238, mk338, rfl, hmone38, hom38, hmk38, _, rfl⟩, rfl⟩
   refine JL_sub (M' := [nk138, nk238, mk138, mk238, mk338, k37, k36, k35, k34, [(b33, .cells ⟨cs32⟩ 30 (0, 0))], k32, k31, [(b30, .cells ⟨cs29⟩ 30 (0, 0))], k29, (N18 1), (N18 2), [((pblk (r18 6)), .cells ⟨(tcel (r18 2))⟩ 30 (0, 0))], (N7 1), (N7 2), [((pblk (r7 6)), .cells ⟨(tcel (r7 2))⟩ 30 (0, 0))], k6, [(b5, .cells ⟨cs4⟩ 30 (0, 0))], k4, k3, k2, k1]) (Sub.flat Sub.refl (by simp)) ?_
   refine JL_pure (v := .tuple ⟨[.agg ⟨(pkT (nk38) (nn38) (nr38) (ns38) (nks38)) ++ ([ncv38] : List Value)⟩, .int .i64 (0)]⟩) rfl (Pu.move rfl) ?_
   refine JL_pure (v := .agg ⟨(pkT (nk38) (nn38) (nr38) (ns38) (nks38)) ++ ([ncv38] : List Value)⟩) rfl (Pu.extract rfl rfl) ?_
   refine JL_pure (v := .int .i64 (0)) rfl (Pu.extract rfl rfl) ?_
   refine JL_run rfl (Runs_alloc (l := (pkT (0) (0) (zS) (.slice none 0 0) (.slice none 0 0)) ++ ([.slice none 0 0] : List Value)) Try.zeroValue79 rfl fun b39 => ?_)
   refine JL_run rfl (Runs_storeB 0 (vs := (pkT (nk38) (nn38) (nr38) (ns38) (nks38)) ++ ([ncv38] : List Value)) (l := (pkT (nk38) (nn38) (nr38) (ns38) (nks38)) ++ ([ncv38] : List Value)) ty79 rfl rfl rfl rfl rfl (okc_app (pkT_ok hon38.one hok38.one) (okc_cons hone38 okc_nil)) (spl_a (n := 37) rfl rfl) ?_)
   refine JL_pure (v := .int .i64 (0)) rfl (Pu.assign rfl) ?_
   refine JL_nil ?_
   refine J_seq ?_
   obtain ⟨b42, cap42, row42, hv42, hm42, hs42⟩ := hok38.at' (j := 0) rfl
   refine J_draw mixed #[0, 1, 3, 7, 15, 31, 63, 127, 255, 511, 1023, 2047, 4095, 8191, 16383, 32767, 65535, 131071, 262143, 524287, 1048575, 2097151, 4194303, 8388607, 8388607, 33554431, 67108863, 134217727, 268435455, 268435455, 805306367, 1879048191, 4026531839, 8589934591, 17179869183, 34359738367, 68719476735, 68719476735, 206158430207, 481036337151, 1030792151039, 2199023255551, 4398046511103, 8796093022207, 17592186044415, 17592186044415, 52776558133247, 123145302310911, 263882790666239, 562949953421311, 1125899906842623, 2251799813685247, 4503599627370495, 9007199254740991, 4503599627370495, 36028797018963967, 72057594037927935, 144115188075855871, 288230376151711743, 576460752303423487, 1152921504606846975, 2305843009213693951, 4611686018427387903, 9223372036854775807, 18446744073709551615, 36893488147419103231, 73786976294838206463, 147573952589676412927, 295147905179352825855, 18446744073709551615, 1180591620717411303423, 2361183241434822606847, 4722366482869645213695, 9444732965739290427391, 9444732965739290427391, 28334198897217871282175, 66113130760175032991743, 151115727451828646838271, 302231454903657293676543, 604462909807314587353087, 1208925819614629174706175, 2417851639229258349412351, 4835703278458516698824703, 4835703278458516698824703, 14507109835375550096474111, 38685626227668133590597631, 77371252455336267181195263, 154742504910672534362390527, 309485009821345068724781055, 618970019642690137449562111] 85 85 27 rfl (by kernel_rfl) (fun i r40 N40 => match i with | 0 => (r40 0) = .int .i64 (0) | 1 => (r40 1) = .bool (true) | 2 => (r40 2) = .bool (true) | 3 => (r40 3) = .int .i64 (0) | 4 => (r40 4) = .bool (true) | 5 => (r40 5) = .bool (true) | 6 => (r40 6) = .bool (true) | 7 => (r40 7) = .int .i64 (0) | 8 => (r40 8) = .bool (true) | 9 => (r40 9) = .bool (true) | 10 => (r40 10) = .bool (true) | 11 => (r40 11) = .int .i64 (0) | 12 => (r40 12) = .bool (true) | 13 => (r40 13) = .bool (true) | 14 => (r40 14) = .bool (true) | 15 => (r40 15) = .int .i64 (1) | 16 => (r40 16) = .bool (true) | 17 => (r40 17) = .bool (true) | 18 => (r40 18) = .bool (true) | 19 => (r40 19) = .int .i64 (0) | 20 => (r40 20) = .bool (true) | 21 => (r40 21) = .bool (true) | 22 => (r40 22) = .bool (true) | 23 => (r40 23) = u6 | 24 => (r40 24) = .slice (some ⟨(sblk (r40 24)), 0, none⟩) 1 1 ∧ (N40 24) = [(sblk (r40 24), .cells ⟨List.flatten [[.int .i64 (0)]]⟩ 3 (0, 0))] ∧ Own 3 1 (.slice (some ⟨(sblk (r40 24)), 0, none⟩) 1 1) [[.int .i64 (0)]] (N40 24) | 25 => (r40 25) = .bool (true) | 26 => (r40 26) = .bool (true) | 27 => (r40 27) = .bool (true) | 28 => (r40 28) = .agg ⟨(tcel (r7 2))⟩ | 29 => (r40 29) = .agg ⟨(cel (r40 29))⟩ ∧ OT (eVa (0)) (cel (r40 29)) (N40 29) | 30 => (r40 30) = .agg ⟨(cel (r40 30))⟩ ∧ OT (eNu (5)) (cel (r40 30)) (N40 30) | 31 => (r40 31) = .agg ⟨(cel (r40 31))⟩ ∧ (((cel (r40 31))).length = 36 ∧ okc ((cel (r40 31))) ∧ ∀ h, Has ((N40 31)) h → RT h ((cel (r40 29))) (eVa (0)) → RT h ((cel (r40 30))) (eNu (5)) → RT h ((cel (r40 31))) (eAp (eVa (0)) (eNu (5)))) | 32 => (r40 32) = .agg ⟨(cel (r40 32))⟩ ∧ (((cel (r40 32))).length = 36 ∧ okc ((cel (r40 32))) ∧ ∀ h, Has ((N40 32)) h → RT h ((cel (r40 31))) (eAp (eVa (0)) (eNu (5))) → RT h ((cel (r40 32))) (eLa (eAp (eVa (0)) (eNu (5))))) | 33 => (r40 33) = .bool (true) | 34 => (r40 34) = .bool (true) | 35 => (r40 35) = .bool (true) | 36 => (r40 36) = .agg ⟨(tcel (r18 2))⟩ | 37 => (r40 37) = .agg ⟨(cel (r40 37))⟩ ∧ OT (eVa (0)) (cel (r40 37)) (N40 37) | 38 => (r40 38) = .agg ⟨(cel (r40 38))⟩ ∧ OT (eVa (4)) (cel (r40 38)) (N40 38) | 39 => (r40 39) = .agg ⟨(cel (r40 39))⟩ ∧ (((cel (r40 39))).length = 36 ∧ okc ((cel (r40 39))) ∧ ∀ h, Has ((N40 39)) h → RT h ((cel (r40 37))) (eVa (0)) → RT h ((cel (r40 38))) (eVa (4)) → RT h ((cel (r40 39))) (eAp (eVa (0)) (eVa (4)))) | 40 => (r40 40) = .agg ⟨(cel (r40 40))⟩ ∧ (((cel (r40 40))).length = 36 ∧ okc ((cel (r40 40))) ∧ ∀ h, Has ((N40 40)) h → RT h ((cel (r40 39))) (eAp (eVa (0)) (eVa (4))) → RT h ((cel (r40 40))) (eLa (eAp (eVa (0)) (eVa (4))))) | 41 => (r40 41) = .bool (true) | 42 => (r40 42) = .bool (true) | 43 => (r40 43) = .bool (true) | 44 => (r40 44) = .agg ⟨cs29⟩ | 45 => (r40 45) = .agg ⟨(cel (r40 45))⟩ ∧ OT (eVa (0)) (cel (r40 45)) (N40 45) | 46 => (r40 46) = .agg ⟨(cel (r40 46))⟩ ∧ OT (eVa (3)) (cel (r40 46)) (N40 46) | 47 => (r40 47) = .agg ⟨(cel (r40 47))⟩ ∧ (((cel (r40 47))).length = 36 ∧ okc ((cel (r40 47))) ∧ ∀ h, Has ((N40 47)) h → RT h ((cel (r40 45))) (eVa (0)) → RT h ((cel (r40 46))) (eVa (3)) → RT h ((cel (r40 47))) (eAp (eVa (0)) (eVa (3)))) | 48 => (r40 48) = .agg ⟨(cel (r40 48))⟩ ∧ (((cel (r40 48))).length = 36 ∧ okc ((cel (r40 48))) ∧ ∀ h, Has ((N40 48)) h → RT h ((cel (r40 47))) (eAp (eVa (0)) (eVa (3))) → RT h ((cel (r40 48))) (eLa (eAp (eVa (0)) (eVa (3))))) | 49 => (r40 49) = .bool (true) | 50 => (r40 50) = .bool (true) | 51 => (r40 51) = .bool (true) | 52 => (r40 52) = .pointer (some ⟨b39, 34, none⟩) | 53 => (r40 53) = ns38 | 54 => (r40 54) = .slice (some ⟨(sblk (r40 54)), 0, none⟩) 1 1 ∧ (N40 54) = [(sblk (r40 54), .cells ⟨List.flatten [[.string (ltr 1)]]⟩ 9 (0, 0))] ∧ Own 9 1 (.slice (some ⟨(sblk (r40 54)), 0, none⟩) 1 1) [[.string (ltr 1)]] (N40 54) | 55 => (r40 55) = .bool (true) | 56 => (r40 56) = .bool (true) | 57 => (r40 57) = .bool (true) | 58 => (r40 58) = .pointer (some ⟨b39, 35, none⟩) | 59 => (r40 59) = nks38 | 60 => (r40 60) = .int .i64 (1) | 61 => (r40 61) = .bool (true) | 62 => (r40 62) = .bool (true) | 63 => (r40 63) = .bool (true) | 64 => (r40 64) = .pointer (some ⟨b39, 35, none⟩) | 65 => (r40 65) = nks38 | 66 => (r40 66) = .pointer (some ⟨b42, 0 + 0 * 37, none⟩) | 67 => (r40 67) = .pointer (some ⟨b42, 0 + 0 * 37 + 34, none⟩) | 68 => (r40 68) = ms38 | 69 => (r40 69) = .slice (some ⟨(sblk (r40 69)), 0, none⟩) 1 1 ∧ (N40 69) = [(sblk (r40 69), .cells ⟨List.flatten [[.string (ltr 2)]]⟩ 9 (0, 0))] ∧ Own 9 1 (.slice (some ⟨(sblk (r40 69)), 0, none⟩) 1 1) [[.string (ltr 2)]] (N40 69) | 70 => (r40 70) = .bool (true) | 71 => (r40 71) = .bool (true) | 72 => (r40 72) = .bool (true) | 73 => (r40 73) = .agg ⟨sC (zS)⟩ | 74 => (r40 74) = .agg ⟨(cel (r40 74))⟩ ∧ OT (eNu (1)) (cel (r40 74)) (N40 74) | 75 => (r40 75) = .agg ⟨(cel (r40 75))⟩ ∧ OT (eVa (0)) (cel (r40 75)) (N40 75) | 76 => (r40 76) = .slice (some ⟨(sblk (r40 76)), 0, none⟩) 2 2 ∧ (N40 76) = [(sblk (r40 76), .cells ⟨List.flatten [(cel (r40 74)), (cel (r40 75))]⟩ 30 (0, 0))] ∧ Own 30 36 (.slice (some ⟨(sblk (r40 76)), 0, none⟩) 2 2) [(cel (r40 74)), (cel (r40 75))] (N40 76) | 77 => (r40 77) = .agg ⟨pkT (12) (0) (zS) (.slice (some ⟨(sblk (r40 76)), 0, none⟩) 2 2) (.slice none 0 0)⟩ | 78 => (r40 78) = .int .i64 (0) | 79 => (r40 79) = .bool (true) | 80 => (r40 80) = .bool (true) | 81 => (r40 81) = .bool (true) | 82 => (r40 82) = .agg ⟨sC (zS)⟩ | 83 => (r40 83) = .agg ⟨(cel (r40 83))⟩ ∧ OT (eNu (1)) (cel (r40 83)) (N40 83) | 84 => (r40 84) = .slice (some ⟨(sblk (r40 84)), 0, none⟩) 1 1 ∧ (N40 84) = [(sblk (r40 84), .cells ⟨List.flatten [(cel (r40 83))]⟩ 30 (0, 0))] ∧ Own 30 36 (.slice (some ⟨(sblk (r40 84)), 0, none⟩) 1 1) [(cel (r40 83))] (N40 84) | _ => True) ⟨?_, ?_, ?_, ?_, ?_, ?_, ?_, ?_, ?_, ?_, ?_, ?_, ?_, ?_, ?_, ?_, ?_, ?_, ?_, ?_, ?_, ?_, ?_, ?_, ?_, ?_, ?_, ?_, ?_, ?_, ?_, ?_, ?_, ?_, ?_, ?_, ?_, ?_, ?_, ?_, ?_, ?_, ?_, ?_, ?_, ?_, ?_, ?_, ?_, ?_, ?_, ?_, ?_, ?_, ?_, ?_, ?_, ?_, ?_, ?_, ?_, ?_, ?_, ?_, ?_, ?_, ?_, ?_, ?_, ?_, ?_, ?_, ?_, ?_, ?_, ?_, ?_, ?_, ?_, ?_, ?_, ?_, ?_, ?_, ?_, trivial⟩ ?_
   ·intro ρ r40 N40 B hB hBa hp hr hr0
    have q3 : ρ 3 = .int .i64 (0) := hr0 3 (by kernel_rfl)
    obtain ⟨ρ43, rfl⟩ := reopen_ex (uc q3 un)
    clear q3
    refine JL_pure (v := .int .i64 (0)) rfl (Pu.move rfl) ?_
    refine JL_nil ?_
    exact ⟨.int .i64 (0), [], rfl, (Sub.emp Sub.refl), rfl⟩
   ·intro ρ r40 N40 B hB hBa hp hr hr0
    have q53 : ρ 53 = .int .i64 (0) := (hr 0 _ _ (by decide) rfl rfl rfl).trans (hp 0 (by decide) rfl)
    obtain ⟨ρ44, rfl⟩ := reopen_ex (uc q53 un)
    clear q53
    refine JL_pure (v := .bool (true)) rfl (show Pu _ _ _ (.bool (decide ((0 : Int) = 0))) from Pu.eql rfl rfl) ?_
    refine JL_nil ?_
    exact ⟨.bool (true), [], rfl, (Sub.emp Sub.refl), rfl⟩
   ·intro ρ r40 N40 B hB hBa hp hr hr0
    have q54 : ρ 54 = .bool (true) := (hr 1 _ _ (by decide) rfl rfl rfl).trans (hp 1 (by decide) rfl)
    obtain ⟨ρ45, rfl⟩ := reopen_ex (uc q54 un)
    clear q54
    refine JL_pure (v := .bool (true)) rfl (Pu.move rfl) ?_
    refine JL_nil ?_
    exact ⟨.bool (true), [], rfl, (Sub.emp Sub.refl), rfl⟩
   ·intro ρ r40 N40 B hB hBa hp hr hr0
    have q5 : ρ 5 = .int .i64 (0) := hr0 5 (by kernel_rfl)
    have q55 : ρ 55 = .bool (true) := (hr 2 _ _ (by decide) rfl rfl rfl).trans (hp 2 (by decide) rfl)
    obtain ⟨ρ46, rfl⟩ := reopen_ex (uc q5 (uc q55 un))
    clear q5 q55
    refine JL_pure (v := .int .i64 (0)) rfl (Pu.move rfl) ?_
    refine JL_nil ?_
    exact ⟨.int .i64 (0), [], rfl, (Sub.emp Sub.refl), rfl⟩
   ·intro ρ r40 N40 B hB hBa hp hr hr0
    have q55 : ρ 55 = .bool (true) := (hr 2 _ _ (by decide) rfl rfl rfl).trans (hp 2 (by decide) rfl)
    have q56 : ρ 56 = .int .i64 (0) := (hr 3 _ _ (by decide) rfl rfl rfl).trans (hp 3 (by decide) rfl)
    obtain ⟨ρ47, rfl⟩ := reopen_ex (uc q55 (uc q56 un))
    clear q55 q56
    refine JL_pure (v := .bool (true)) rfl (show Pu _ _ _ (.bool (decide ((0 : Int) = 0))) from Pu.eql rfl rfl) ?_
    refine JL_nil ?_
    exact ⟨.bool (true), [], rfl, (Sub.emp Sub.refl), rfl⟩
   ·intro ρ r40 N40 B hB hBa hp hr hr0
    have q55 : ρ 55 = .bool (true) := (hr 2 _ _ (by decide) rfl rfl rfl).trans (hp 2 (by decide) rfl)
    have q57 : ρ 57 = .bool (true) := (hr 4 _ _ (by decide) rfl rfl rfl).trans (hp 4 (by decide) rfl)
    obtain ⟨ρ48, rfl⟩ := reopen_ex (uc q55 (uc q57 un))
    clear q55 q57
    refine JL_pure (v := .bool (true)) rfl (Pu.pickT rfl rfl) ?_
    refine JL_nil ?_
    exact ⟨.bool (true), [], rfl, (Sub.emp Sub.refl), rfl⟩
   ·intro ρ r40 N40 B hB hBa hp hr hr0
    have q58 : ρ 58 = .bool (true) := (hr 5 _ _ (by decide) rfl rfl rfl).trans (hp 5 (by decide) rfl)
    obtain ⟨ρ49, rfl⟩ := reopen_ex (uc q58 un)
    clear q58
    refine JL_pure (v := .bool (true)) rfl (Pu.move rfl) ?_
    refine JL_nil ?_
    exact ⟨.bool (true), [], rfl, (Sub.emp Sub.refl), rfl⟩
   ·intro ρ r40 N40 B hB hBa hp hr hr0
    have q7 : ρ 7 = .int .i64 (0) := hr0 7 (by kernel_rfl)
    have q59 : ρ 59 = .bool (true) := (hr 6 _ _ (by decide) rfl rfl rfl).trans (hp 6 (by decide) rfl)
    obtain ⟨ρ50, rfl⟩ := reopen_ex (uc q7 (uc q59 un))
    clear q7 q59
    refine JL_pure (v := .int .i64 (0)) rfl (Pu.move rfl) ?_
    refine JL_nil ?_
    exact ⟨.int .i64 (0), [], rfl, (Sub.emp Sub.refl), rfl⟩
   ·intro ρ r40 N40 B hB hBa hp hr hr0
    have q59 : ρ 59 = .bool (true) := (hr 6 _ _ (by decide) rfl rfl rfl).trans (hp 6 (by decide) rfl)
    have q60 : ρ 60 = .int .i64 (0) := (hr 7 _ _ (by decide) rfl rfl rfl).trans (hp 7 (by decide) rfl)
    obtain ⟨ρ51, rfl⟩ := reopen_ex (uc q59 (uc q60 un))
    clear q59 q60
    refine JL_pure (v := .bool (true)) rfl (show Pu _ _ _ (.bool (decide ((0 : Int) = 0))) from Pu.eql rfl rfl) ?_
    refine JL_nil ?_
    exact ⟨.bool (true), [], rfl, (Sub.emp Sub.refl), rfl⟩
   ·intro ρ r40 N40 B hB hBa hp hr hr0
    have q59 : ρ 59 = .bool (true) := (hr 6 _ _ (by decide) rfl rfl rfl).trans (hp 6 (by decide) rfl)
    have q61 : ρ 61 = .bool (true) := (hr 8 _ _ (by decide) rfl rfl rfl).trans (hp 8 (by decide) rfl)
    obtain ⟨ρ52, rfl⟩ := reopen_ex (uc q59 (uc q61 un))
    clear q59 q61
    refine JL_pure (v := .bool (true)) rfl (Pu.pickT rfl rfl) ?_
    refine JL_nil ?_
    exact ⟨.bool (true), [], rfl, (Sub.emp Sub.refl), rfl⟩
   ·intro ρ r40 N40 B hB hBa hp hr hr0
    have q62 : ρ 62 = .bool (true) := (hr 9 _ _ (by decide) rfl rfl rfl).trans (hp 9 (by decide) rfl)
    obtain ⟨ρ53, rfl⟩ := reopen_ex (uc q62 un)
    clear q62
    refine JL_pure (v := .bool (true)) rfl (Pu.move rfl) ?_
    refine JL_nil ?_
    exact ⟨.bool (true), [], rfl, (Sub.emp Sub.refl), rfl⟩
   ·intro ρ r40 N40 B hB hBa hp hr hr0
    have q9 : ρ 9 = .int .i64 (0) := hr0 9 (by kernel_rfl)
    have q63 : ρ 63 = .bool (true) := (hr 10 _ _ (by decide) rfl rfl rfl).trans (hp 10 (by decide) rfl)
    obtain ⟨ρ54, rfl⟩ := reopen_ex (uc q9 (uc q63 un))
    clear q9 q63
    refine JL_pure (v := .int .i64 (0)) rfl (Pu.move rfl) ?_
    refine JL_nil ?_
    exact ⟨.int .i64 (0), [], rfl, (Sub.emp Sub.refl), rfl⟩
   ·intro ρ r40 N40 B hB hBa hp hr hr0
    have q63 : ρ 63 = .bool (true) := (hr 10 _ _ (by decide) rfl rfl rfl).trans (hp 10 (by decide) rfl)
    have q64 : ρ 64 = .int .i64 (0) := (hr 11 _ _ (by decide) rfl rfl rfl).trans (hp 11 (by decide) rfl)
    obtain ⟨ρ55, rfl⟩ := reopen_ex (uc q63 (uc q64 un))
    clear q63 q64
    refine JL_pure (v := .bool (true)) rfl (show Pu _ _ _ (.bool (decide ((0 : Int) = 0))) from Pu.eql rfl rfl) ?_
    refine JL_nil ?_
    exact ⟨.bool (true), [], rfl, (Sub.emp Sub.refl), rfl⟩
   ·intro ρ r40 N40 B hB hBa hp hr hr0
    have q63 : ρ 63 = .bool (true) := (hr 10 _ _ (by decide) rfl rfl rfl).trans (hp 10 (by decide) rfl)
    have q65 : ρ 65 = .bool (true) := (hr 12 _ _ (by decide) rfl rfl rfl).trans (hp 12 (by decide) rfl)
    obtain ⟨ρ56, rfl⟩ := reopen_ex (uc q63 (uc q65 un))
    clear q63 q65
    refine JL_pure (v := .bool (true)) rfl (Pu.pickT rfl rfl) ?_
    refine JL_nil ?_
    exact ⟨.bool (true), [], rfl, (Sub.emp Sub.refl), rfl⟩
   ·intro ρ r40 N40 B hB hBa hp hr hr0
    have q66 : ρ 66 = .bool (true) := (hr 13 _ _ (by decide) rfl rfl rfl).trans (hp 13 (by decide) rfl)
    obtain ⟨ρ57, rfl⟩ := reopen_ex (uc q66 un)
    clear q66
    refine JL_pure (v := .bool (true)) rfl (Pu.move rfl) ?_
    refine JL_nil ?_
    exact ⟨.bool (true), [], rfl, (Sub.emp Sub.refl), rfl⟩
   ·intro ρ r40 N40 B hB hBa hp hr hr0
    have q11 : ρ 11 = .int .i64 (1) := hr0 11 (by kernel_rfl)
    have q67 : ρ 67 = .bool (true) := (hr 14 _ _ (by decide) rfl rfl rfl).trans (hp 14 (by decide) rfl)
    obtain ⟨ρ58, rfl⟩ := reopen_ex (uc q11 (uc q67 un))
    clear q11 q67
    refine JL_pure (v := .int .i64 (1)) rfl (Pu.move rfl) ?_
    refine JL_nil ?_
    exact ⟨.int .i64 (1), [], rfl, (Sub.emp Sub.refl), rfl⟩
   ·intro ρ r40 N40 B hB hBa hp hr hr0
    have q67 : ρ 67 = .bool (true) := (hr 14 _ _ (by decide) rfl rfl rfl).trans (hp 14 (by decide) rfl)
    have q68 : ρ 68 = .int .i64 (1) := (hr 15 _ _ (by decide) rfl rfl rfl).trans (hp 15 (by decide) rfl)
    obtain ⟨ρ59, rfl⟩ := reopen_ex (uc q67 (uc q68 un))
    clear q67 q68
    refine JL_pure (v := .bool (true)) rfl (show Pu _ _ _ (.bool (decide ((1 : Int) = 1))) from Pu.eql rfl rfl) ?_
    refine JL_nil ?_
    exact ⟨.bool (true), [], rfl, (Sub.emp Sub.refl), rfl⟩
   ·intro ρ r40 N40 B hB hBa hp hr hr0
    have q67 : ρ 67 = .bool (true) := (hr 14 _ _ (by decide) rfl rfl rfl).trans (hp 14 (by decide) rfl)
    have q69 : ρ 69 = .bool (true) := (hr 16 _ _ (by decide) rfl rfl rfl).trans (hp 16 (by decide) rfl)
    obtain ⟨ρ60, rfl⟩ := reopen_ex (uc q67 (uc q69 un))
    clear q67 q69
    refine JL_pure (v := .bool (true)) rfl (Pu.pickT rfl rfl) ?_
    refine JL_nil ?_
    exact ⟨.bool (true), [], rfl, (Sub.emp Sub.refl), rfl⟩
   ·intro ρ r40 N40 B hB hBa hp hr hr0
    have q70 : ρ 70 = .bool (true) := (hr 17 _ _ (by decide) rfl rfl rfl).trans (hp 17 (by decide) rfl)
    obtain ⟨ρ61, rfl⟩ := reopen_ex (uc q70 un)
    clear q70
    refine JL_pure (v := .bool (true)) rfl (Pu.move rfl) ?_
    refine JL_nil ?_
    exact ⟨.bool (true), [], rfl, (Sub.emp Sub.refl), rfl⟩
   ·intro ρ r40 N40 B hB hBa hp hr hr0
    have q13 : ρ 13 = .int .i64 (0) := hr0 13 (by kernel_rfl)
    have q71 : ρ 71 = .bool (true) := (hr 18 _ _ (by decide) rfl rfl rfl).trans (hp 18 (by decide) rfl)
    obtain ⟨ρ62, rfl⟩ := reopen_ex (uc q13 (uc q71 un))
    clear q13 q71
    refine JL_pure (v := .int .i64 (0)) rfl (Pu.move rfl) ?_
    refine JL_nil ?_
    exact ⟨.int .i64 (0), [], rfl, (Sub.emp Sub.refl), rfl⟩
   ·intro ρ r40 N40 B hB hBa hp hr hr0
    have q71 : ρ 71 = .bool (true) := (hr 18 _ _ (by decide) rfl rfl rfl).trans (hp 18 (by decide) rfl)
    have q72 : ρ 72 = .int .i64 (0) := (hr 19 _ _ (by decide) rfl rfl rfl).trans (hp 19 (by decide) rfl)
    obtain ⟨ρ63, rfl⟩ := reopen_ex (uc q71 (uc q72 un))
    clear q71 q72
    refine JL_pure (v := .bool (true)) rfl (show Pu _ _ _ (.bool (decide ((0 : Int) = 0))) from Pu.eql rfl rfl) ?_
    refine JL_nil ?_
    exact ⟨.bool (true), [], rfl, (Sub.emp Sub.refl), rfl⟩
   ·intro ρ r40 N40 B hB hBa hp hr hr0
    have q71 : ρ 71 = .bool (true) := (hr 18 _ _ (by decide) rfl rfl rfl).trans (hp 18 (by decide) rfl)
    have q73 : ρ 73 = .bool (true) := (hr 20 _ _ (by decide) rfl rfl rfl).trans (hp 20 (by decide) rfl)
    obtain ⟨ρ64, rfl⟩ := reopen_ex (uc q71 (uc q73 un))
    clear q71 q73
    refine JL_pure (v := .bool (true)) rfl (Pu.pickT rfl rfl) ?_
    refine JL_nil ?_
    exact ⟨.bool (true), [], rfl, (Sub.emp Sub.refl), rfl⟩
   ·intro ρ r40 N40 B hB hBa hp hr hr0
    have q74 : ρ 74 = .bool (true) := (hr 21 _ _ (by decide) rfl rfl rfl).trans (hp 21 (by decide) rfl)
    obtain ⟨ρ65, rfl⟩ := reopen_ex (uc q74 un)
    clear q74
    refine JL_pure (v := .bool (true)) rfl (Pu.move rfl) ?_
    refine JL_nil ?_
    exact ⟨.bool (true), [], rfl, (Sub.emp Sub.refl), rfl⟩
   ·intro ρ r40 N40 B hB hBa hp hr hr0
    have q2 : ρ 2 = u6 := hr0 2 (by kernel_rfl)
    have q75 : ρ 75 = .bool (true) := (hr 22 _ _ (by decide) rfl rfl rfl).trans (hp 22 (by decide) rfl)
    obtain ⟨ρ66, rfl⟩ := reopen_ex (uc q2 (uc q75 un))
    clear q2 q75
    refine JL_pure (v := u6) rfl (Pu.move rfl) ?_
    refine JL_nil ?_
    exact ⟨u6, [], rfl, (Sub.emp Sub.refl), rfl⟩
   ·intro ρ r40 N40 B hB hBa hp hr hr0
    have q75 : ρ 75 = .bool (true) := (hr 22 _ _ (by decide) rfl rfl rfl).trans (hp 22 (by decide) rfl)
    obtain ⟨ρ67, rfl⟩ := reopen_ex (uc q75 un)
    clear q75
    refine JL_run rfl (Runs_buildSlice (vs := [.int .i64 (0)]) [[.int .i64 (0)]] Try.runUnderlying52 el3 rfl rfl (by intro e he; simp only [List.mem_cons, List.not_mem_nil, or_false] at he; subst he; exact rfl) rfl (by decide) fun b68 k68 ho68 hk68 => ?_)
    refine JL_nil ?_
    exact ⟨.slice (some ⟨b68, 0, none⟩) 1 1, k68, rfl, Sub.refl, ⟨rfl, hk68, ho68⟩⟩
   ·intro ρ r40 N40 B hB hBa hp hr hr0
    have p24 : (r40 24) = .slice (some ⟨(sblk (r40 24)), 0, none⟩) 1 1 ∧ (N40 24) = [(sblk (r40 24), .cells ⟨List.flatten [[.int .i64 (0)]]⟩ 3 (0, 0))] ∧ Own 3 1 (.slice (some ⟨(sblk (r40 24)), 0, none⟩) 1 1) [[.int .i64 (0)]] (N40 24) := hp 24 (by decide) rfl
    have q75 : ρ 75 = .bool (true) := (hr 22 _ _ (by decide) rfl rfl rfl).trans (hp 22 (by decide) rfl)
    have q76 : ρ 76 = u6 := (hr 23 _ _ (by decide) rfl rfl rfl).trans (hp 23 (by decide) rfl)
    have q77 : ρ 77 = .slice (some ⟨(sblk (r40 24)), 0, none⟩) 1 1 := (hr 24 _ _ (by decide) rfl rfl rfl).trans p24.1
    obtain ⟨ρ69, rfl⟩ := reopen_ex (uc q75 (uc q76 (uc q77 un)))
    clear q75 q76 q77
    refine JL_call rfl Try.call36 rfl (fun hin => bool_r (r := true) (equalI_ct _ _ _ _ _ (own_ints ho6 (by simp) (hin 106 _ (made_old ((hB 21 (by decide)).trans rfl)))) (own_ints (l := [0]) p24.2.2 (by simp) (hin 24 _ (made_new rfl rfl)))) (eqL_true rfl)) rfl ?_
    rintro _ _ ⟨rfl, rfl⟩
    refine JL_nil ?_
    exact ⟨.bool (true), [], rfl, (Sub.emp Sub.refl), rfl⟩
   ·intro ρ r40 N40 B hB hBa hp hr hr0
    have q75 : ρ 75 = .bool (true) := (hr 22 _ _ (by decide) rfl rfl rfl).trans (hp 22 (by decide) rfl)
    have q78 : ρ 78 = .bool (true) := (hr 25 _ _ (by decide) rfl rfl rfl).trans (hp 25 (by decide) rfl)
    obtain ⟨ρ70, rfl⟩ := reopen_ex (uc q75 (uc q78 un))
    clear q75 q78
    refine JL_pure (v := .bool (true)) rfl (Pu.pickT rfl rfl) ?_
    refine JL_nil ?_
    exact ⟨.bool (true), [], rfl, (Sub.emp Sub.refl), rfl⟩
   ·intro ρ r40 N40 B hB hBa hp hr hr0
    have q79 : ρ 79 = .bool (true) := (hr 26 _ _ (by decide) rfl rfl rfl).trans (hp 26 (by decide) rfl)
    obtain ⟨ρ71, rfl⟩ := reopen_ex (uc q79 un)
    clear q79
    refine JL_pure (v := .bool (true)) rfl (Pu.move rfl) ?_
    refine JL_nil ?_
    exact ⟨.bool (true), [], rfl, (Sub.emp Sub.refl), rfl⟩
   ·intro ρ r40 N40 B hB hBa hp hr hr0
    have q4 : ρ 4 = .pointer (some ⟨(pblk (r7 6)), 0, none⟩) := hr0 4 (by kernel_rfl)
    have q80 : ρ 80 = .bool (true) := (hr 27 _ _ (by decide) rfl rfl rfl).trans (hp 27 (by decide) rfl)
    obtain ⟨ρ72, rfl⟩ := reopen_ex (uc q4 (uc q80 un))
    clear q4 q80
    refine JL_run rfl (Pu_load ty30 rfl (At.bx 105 (made_old ((hB 20 (by decide)).trans rfl))) (sub_a p7_2.2.len) ?_)
    refine JL_nil ?_
    exact ⟨.agg ⟨(tcel (r7 2))⟩, [], rfl, (Sub.emp Sub.refl), rfl⟩
   ·intro ρ r40 N40 B hB hBa hp hr hr0
    have q80 : ρ 80 = .bool (true) := (hr 27 _ _ (by decide) rfl rfl rfl).trans (hp 27 (by decide) rfl)
    obtain ⟨ρ73, rfl⟩ := reopen_ex (uc q80 un)
    clear q80
    refine JL_call rfl Try.call33 rfl (fun hin => va_ct _ _ (by unfold inI; omega)) rfl ?_
    rintro _ _ ⟨cs74, k74, rfl, rfl, hO74⟩
    refine JL_nil ?_
    exact ⟨.agg ⟨cs74⟩, k74, rfl, Sub.refl, ⟨rfl, hO74⟩⟩
   ·intro ρ r40 N40 B hB hBa hp hr hr0
    have q80 : ρ 80 = .bool (true) := (hr 27 _ _ (by decide) rfl rfl rfl).trans (hp 27 (by decide) rfl)
    obtain ⟨ρ75, rfl⟩ := reopen_ex (uc q80 un)
    clear q80
    refine JL_call rfl Try.call15 rfl (fun hin => nu_ct _ _ (by unfold inI; omega)) rfl ?_
    rintro _ _ ⟨cs76, k76, rfl, rfl, hO76⟩
    refine JL_nil ?_
    exact ⟨.agg ⟨cs76⟩, k76, rfl, Sub.refl, ⟨rfl, hO76⟩⟩
   ·intro ρ r40 N40 B hB hBa hp hr hr0
    have p29 : (r40 29) = .agg ⟨(cel (r40 29))⟩ ∧ OT (eVa (0)) (cel (r40 29)) (N40 29) := hp 29 (by decide) rfl
    have p30 : (r40 30) = .agg ⟨(cel (r40 30))⟩ ∧ OT (eNu (5)) (cel (r40 30)) (N40 30) := hp 30 (by decide) rfl
    have q80 : ρ 80 = .bool (true) := (hr 27 _ _ (by decide) rfl rfl rfl).trans (hp 27 (by decide) rfl)
    have q82 : ρ 82 = .agg ⟨(cel (r40 29))⟩ := (hr 29 _ _ (by decide) rfl rfl rfl).trans p29.1
    have q83 : ρ 83 = .agg ⟨(cel (r40 30))⟩ := (hr 30 _ _ (by decide) rfl rfl rfl).trans p30.1
    obtain ⟨ρ77, rfl⟩ := reopen_ex (uc q80 (uc q82 (uc q83 un)))
    clear q80 q82 q83
    refine JL_call rfl Try.call32 rfl (fun hin => ap_ct _ _ p29.2.len p29.2.ok _ p30.2.len p30.2.ok) rfl ?_
    rintro _ _ ⟨cs78, k78, rfl, rfl, hC78⟩
    replace hC78 : ((cs78).length = 36 ∧ okc (cs78) ∧ ∀ h, Has (k78) h → RT h ((cel (r40 29))) (eVa (0)) → RT h ((cel (r40 30))) (eNu (5)) → RT h (cs78) (eAp (eVa (0)) (eNu (5)))) := ⟨hC78.1, hC78.2.1, hC78.2.2 (eVa (0)) (eNu (5))⟩
    refine JL_nil ?_
    exact ⟨.agg ⟨cs78⟩, k78, rfl, Sub.refl, ⟨rfl, hC78⟩⟩
   ·intro ρ r40 N40 B hB hBa hp hr hr0
    have p31 : (r40 31) = .agg ⟨(cel (r40 31))⟩ ∧ (((cel (r40 31))).length = 36 ∧ okc ((cel (r40 31))) ∧ ∀ h, Has ((N40 31)) h → RT h ((cel (r40 29))) (eVa (0)) → RT h ((cel (r40 30))) (eNu (5)) → RT h ((cel (r40 31))) (eAp (eVa (0)) (eNu (5)))) := hp 31 (by decide) rfl
    have q80 : ρ 80 = .bool (true) := (hr 27 _ _ (by decide) rfl rfl rfl).trans (hp 27 (by decide) rfl)
    have q84 : ρ 84 = .agg ⟨(cel (r40 31))⟩ := (hr 31 _ _ (by decide) rfl rfl rfl).trans p31.1
    obtain ⟨ρ79, rfl⟩ := reopen_ex (uc q80 (uc q84 un))
    clear q80 q84
    refine JL_call rfl Try.call31 rfl (fun hin => la_ct _ _ p31.2.1 p31.2.2.1) rfl ?_
    rintro _ _ ⟨cs80, k80, rfl, rfl, hC80⟩
    replace hC80 : ((cs80).length = 36 ∧ okc (cs80) ∧ ∀ h, Has (k80) h → RT h ((cel (r40 31))) (eAp (eVa (0)) (eNu (5))) → RT h (cs80) (eLa (eAp (eVa (0)) (eNu (5))))) := ⟨hC80.1, hC80.2.1, hC80.2.2 (eAp (eVa (0)) (eNu (5)))⟩
    refine JL_nil ?_
    exact ⟨.agg ⟨cs80⟩, k80, rfl, Sub.refl, ⟨rfl, hC80⟩⟩
   ·intro ρ r40 N40 B hB hBa hp hr hr0
    have p29 : (r40 29) = .agg ⟨(cel (r40 29))⟩ ∧ OT (eVa (0)) (cel (r40 29)) (N40 29) := hp 29 (by decide) rfl
    have p30 : (r40 30) = .agg ⟨(cel (r40 30))⟩ ∧ OT (eNu (5)) (cel (r40 30)) (N40 30) := hp 30 (by decide) rfl
    have p31 : (r40 31) = .agg ⟨(cel (r40 31))⟩ ∧ (((cel (r40 31))).length = 36 ∧ okc ((cel (r40 31))) ∧ ∀ h, Has ((N40 31)) h → RT h ((cel (r40 29))) (eVa (0)) → RT h ((cel (r40 30))) (eNu (5)) → RT h ((cel (r40 31))) (eAp (eVa (0)) (eNu (5)))) := hp 31 (by decide) rfl
    have p32 : (r40 32) = .agg ⟨(cel (r40 32))⟩ ∧ (((cel (r40 32))).length = 36 ∧ okc ((cel (r40 32))) ∧ ∀ h, Has ((N40 32)) h → RT h ((cel (r40 31))) (eAp (eVa (0)) (eNu (5))) → RT h ((cel (r40 32))) (eLa (eAp (eVa (0)) (eNu (5))))) := hp 32 (by decide) rfl
    have q80 : ρ 80 = .bool (true) := (hr 27 _ _ (by decide) rfl rfl rfl).trans (hp 27 (by decide) rfl)
    have q81 : ρ 81 = .agg ⟨(tcel (r7 2))⟩ := (hr 28 _ _ (by decide) rfl rfl rfl).trans (hp 28 (by decide) rfl)
    have q85 : ρ 85 = .agg ⟨(cel (r40 32))⟩ := (hr 32 _ _ (by decide) rfl rfl rfl).trans p32.1
    obtain ⟨ρ81, rfl⟩ := reopen_ex (uc q80 (uc q81 (uc q85 un)))
    clear q80 q81 q85
    refine JL_call rfl Try.call9 rfl (fun hin => bool_r (r := true) (sameTerm_ct _ _ _ _ _ (p7_2.2.rd (hin 104 _ (made_old ((hB 19 (by decide)).trans rfl)))) (p32.2.2.2 _ (hin 32 _ (made_new rfl rfl)) (p31.2.2.2 _ (hin 31 _ (made_new rfl rfl)) (p29.2.rd (hin 29 _ (made_new rfl rfl))) (p30.2.rd (hin 30 _ (made_new rfl rfl)))))) (decide_eq_true rfl)) rfl ?_
    rintro _ _ ⟨rfl, rfl⟩
    refine JL_nil ?_
    exact ⟨.bool (true), [], rfl, (Sub.emp Sub.refl), rfl⟩
   ·intro ρ r40 N40 B hB hBa hp hr hr0
    have q80 : ρ 80 = .bool (true) := (hr 27 _ _ (by decide) rfl rfl rfl).trans (hp 27 (by decide) rfl)
    have q86 : ρ 86 = .bool (true) := (hr 33 _ _ (by decide) rfl rfl rfl).trans (hp 33 (by decide) rfl)
    obtain ⟨ρ82, rfl⟩ := reopen_ex (uc q80 (uc q86 un))
    clear q80 q86
    refine JL_pure (v := .bool (true)) rfl (Pu.pickT rfl rfl) ?_
    refine JL_nil ?_
    exact ⟨.bool (true), [], rfl, (Sub.emp Sub.refl), rfl⟩
   ·intro ρ r40 N40 B hB hBa hp hr hr0
    have q87 : ρ 87 = .bool (true) := (hr 34 _ _ (by decide) rfl rfl rfl).trans (hp 34 (by decide) rfl)
    obtain ⟨ρ83, rfl⟩ := reopen_ex (uc q87 un)
    clear q87
    refine JL_pure (v := .bool (true)) rfl (Pu.move rfl) ?_
    refine JL_nil ?_
    exact ⟨.bool (true), [], rfl, (Sub.emp Sub.refl), rfl⟩
   ·intro ρ r40 N40 B hB hBa hp hr hr0
    have q6 : ρ 6 = .pointer (some ⟨(pblk (r18 6)), 0, none⟩) := hr0 6 (by kernel_rfl)
    have q88 : ρ 88 = .bool (true) := (hr 35 _ _ (by decide) rfl rfl rfl).trans (hp 35 (by decide) rfl)
    obtain ⟨ρ84, rfl⟩ := reopen_ex (uc q6 (uc q88 un))
    clear q6 q88
    refine JL_run rfl (Pu_load ty30 rfl (At.bx 102 (made_old ((hB 17 (by decide)).trans rfl))) (sub_a p18_2.2.len) ?_)
    refine JL_nil ?_
    exact ⟨.agg ⟨(tcel (r18 2))⟩, [], rfl, (Sub.emp Sub.refl), rfl⟩
   ·intro ρ r40 N40 B hB hBa hp hr hr0
    have q88 : ρ 88 = .bool (true) := (hr 35 _ _ (by decide) rfl rfl rfl).trans (hp 35 (by decide) rfl)
    obtain ⟨ρ85, rfl⟩ := reopen_ex (uc q88 un)
    clear q88
    refine JL_call rfl Try.call33 rfl (fun hin => va_ct _ _ (by unfold inI; omega)) rfl ?_
    rintro _ _ ⟨cs86, k86, rfl, rfl, hO86⟩
    refine JL_nil ?_
    exact ⟨.agg ⟨cs86⟩, k86, rfl, Sub.refl, ⟨rfl, hO86⟩⟩
   ·intro ρ r40 N40 B hB hBa hp hr hr0
    have q88 : ρ 88 = .bool (true) := (hr 35 _ _ (by decide) rfl rfl rfl).trans (hp 35 (by decide) rfl)
    obtain ⟨ρ87, rfl⟩ := reopen_ex (uc q88 un)
    clear q88
    refine JL_call rfl Try.call33 rfl (fun hin => va_ct _ _ (by unfold inI; omega)) rfl ?_
    rintro _ _ ⟨cs88, k88, rfl, rfl, hO88⟩
    refine JL_nil ?_
    exact ⟨.agg ⟨cs88⟩, k88, rfl, Sub.refl, ⟨rfl, hO88⟩⟩
   ·intro ρ r40 N40 B hB hBa hp hr hr0
    have p37 : (r40 37) = .agg ⟨(cel (r40 37))⟩ ∧ OT (eVa (0)) (cel (r40 37)) (N40 37) := hp 37 (by decide) rfl
    have p38 : (r40 38) = .agg ⟨(cel (r40 38))⟩ ∧ OT (eVa (4)) (cel (r40 38)) (N40 38) := hp 38 (by decide) rfl
    have q88 : ρ 88 = .bool (true) := (hr 35 _ _ (by decide) rfl rfl rfl).trans (hp 35 (by decide) rfl)
    have q90 : ρ 90 = .agg ⟨(cel (r40 37))⟩ := (hr 37 _ _ (by decide) rfl rfl rfl).trans p37.1
    have q91 : ρ 91 = .agg ⟨(cel (r40 38))⟩ := (hr 38 _ _ (by decide) rfl rfl rfl).trans p38.1
    obtain ⟨ρ89, rfl⟩ := reopen_ex (uc q88 (uc q90 (uc q91 un)))
    clear q88 q90 q91
    refine JL_call rfl Try.call32 rfl (fun hin => ap_ct _ _ p37.2.len p37.2.ok _ p38.2.len p38.2.ok) rfl ?_
    rintro _ _ ⟨cs90, k90, rfl, rfl, hC90⟩
    replace hC90 : ((cs90).length = 36 ∧ okc (cs90) ∧ ∀ h, Has (k90) h → RT h ((cel (r40 37))) (eVa (0)) → RT h ((cel (r40 38))) (eVa (4)) → RT h (cs90) (eAp (eVa (0)) (eVa (4)))) := ⟨hC90.1, hC90.2.1, hC90.2.2 (eVa (0)) (eVa (4))⟩
    refine JL_nil ?_
    exact ⟨.agg ⟨cs90⟩, k90, rfl, Sub.refl, ⟨rfl, hC90⟩⟩
   ·intro ρ r40 N40 B hB hBa hp hr hr0
    have p39 : (r40 39) = .agg ⟨(cel (r40 39))⟩ ∧ (((cel (r40 39))).length = 36 ∧ okc ((cel (r40 39))) ∧ ∀ h, Has ((N40 39)) h → RT h ((cel (r40 37))) (eVa (0)) → RT h ((cel (r40 38))) (eVa (4)) → RT h ((cel (r40 39))) (eAp (eVa (0)) (eVa (4)))) := hp 39 (by decide) rfl
    have q88 : ρ 88 = .bool (true) := (hr 35 _ _ (by decide) rfl rfl rfl).trans (hp 35 (by decide) rfl)
    have q92 : ρ 92 = .agg ⟨(cel (r40 39))⟩ := (hr 39 _ _ (by decide) rfl rfl rfl).trans p39.1
    obtain ⟨ρ91, rfl⟩ := reopen_ex (uc q88 (uc q92 un))
    clear q88 q92
    refine JL_call rfl Try.call31 rfl (fun hin => la_ct _ _ p39.2.1 p39.2.2.1) rfl ?_
    rintro _ _ ⟨cs92, k92, rfl, rfl, hC92⟩
    replace hC92 : ((cs92).length = 36 ∧ okc (cs92) ∧ ∀ h, Has (k92) h → RT h ((cel (r40 39))) (eAp (eVa (0)) (eVa (4))) → RT h (cs92) (eLa (eAp (eVa (0)) (eVa (4))))) := ⟨hC92.1, hC92.2.1, hC92.2.2 (eAp (eVa (0)) (eVa (4)))⟩
    refine JL_nil ?_
    exact ⟨.agg ⟨cs92⟩, k92, rfl, Sub.refl, ⟨rfl, hC92⟩⟩
   ·intro ρ r40 N40 B hB hBa hp hr hr0
    have p37 : (r40 37) = .agg ⟨(cel (r40 37))⟩ ∧ OT (eVa (0)) (cel (r40 37)) (N40 37) := hp 37 (by decide) rfl
    have p38 : (r40 38) = .agg ⟨(cel (r40 38))⟩ ∧ OT (eVa (4)) (cel (r40 38)) (N40 38) := hp 38 (by decide) rfl
    have p39 : (r40 39) = .agg ⟨(cel (r40 39))⟩ ∧ (((cel (r40 39))).length = 36 ∧ okc ((cel (r40 39))) ∧ ∀ h, Has ((N40 39)) h → RT h ((cel (r40 37))) (eVa (0)) → RT h ((cel (r40 38))) (eVa (4)) → RT h ((cel (r40 39))) (eAp (eVa (0)) (eVa (4)))) := hp 39 (by decide) rfl
    have p40 : (r40 40) = .agg ⟨(cel (r40 40))⟩ ∧ (((cel (r40 40))).length = 36 ∧ okc ((cel (r40 40))) ∧ ∀ h, Has ((N40 40)) h → RT h ((cel (r40 39))) (eAp (eVa (0)) (eVa (4))) → RT h ((cel (r40 40))) (eLa (eAp (eVa (0)) (eVa (4))))) := hp 40 (by decide) rfl
    have q88 : ρ 88 = .bool (true) := (hr 35 _ _ (by decide) rfl rfl rfl).trans (hp 35 (by decide) rfl)
    have q89 : ρ 89 = .agg ⟨(tcel (r18 2))⟩ := (hr 36 _ _ (by decide) rfl rfl rfl).trans (hp 36 (by decide) rfl)
    have q93 : ρ 93 = .agg ⟨(cel (r40 40))⟩ := (hr 40 _ _ (by decide) rfl rfl rfl).trans p40.1
    obtain ⟨ρ93, rfl⟩ := reopen_ex (uc q88 (uc q89 (uc q93 un)))
    clear q88 q89 q93
    refine JL_call rfl Try.call9 rfl (fun hin => bool_r (r := true) (sameTerm_ct _ _ _ _ _ (p18_2.2.rd (hin 101 _ (made_old ((hB 16 (by decide)).trans rfl)))) (p40.2.2.2 _ (hin 40 _ (made_new rfl rfl)) (p39.2.2.2 _ (hin 39 _ (made_new rfl rfl)) (p37.2.rd (hin 37 _ (made_new rfl rfl))) (p38.2.rd (hin 38 _ (made_new rfl rfl)))))) (decide_eq_true rfl)) rfl ?_
    rintro _ _ ⟨rfl, rfl⟩
    refine JL_nil ?_
    exact ⟨.bool (true), [], rfl, (Sub.emp Sub.refl), rfl⟩
   ·intro ρ r40 N40 B hB hBa hp hr hr0
    have q88 : ρ 88 = .bool (true) := (hr 35 _ _ (by decide) rfl rfl rfl).trans (hp 35 (by decide) rfl)
    have q94 : ρ 94 = .bool (true) := (hr 41 _ _ (by decide) rfl rfl rfl).trans (hp 41 (by decide) rfl)
    obtain ⟨ρ94, rfl⟩ := reopen_ex (uc q88 (uc q94 un))
    clear q88 q94
    refine JL_pure (v := .bool (true)) rfl (Pu.pickT rfl rfl) ?_
    refine JL_nil ?_
    exact ⟨.bool (true), [], rfl, (Sub.emp Sub.refl), rfl⟩
   ·intro ρ r40 N40 B hB hBa hp hr hr0
    have q95 : ρ 95 = .bool (true) := (hr 42 _ _ (by decide) rfl rfl rfl).trans (hp 42 (by decide) rfl)
    obtain ⟨ρ95, rfl⟩ := reopen_ex (uc q95 un)
    clear q95
    refine JL_pure (v := .bool (true)) rfl (Pu.move rfl) ?_
    refine JL_nil ?_
    exact ⟨.bool (true), [], rfl, (Sub.emp Sub.refl), rfl⟩
   ·intro ρ r40 N40 B hB hBa hp hr hr0
    have q8 : ρ 8 = .pointer (some ⟨b30, 0, none⟩) := hr0 8 (by kernel_rfl)
    have q96 : ρ 96 = .bool (true) := (hr 43 _ _ (by decide) rfl rfl rfl).trans (hp 43 (by decide) rfl)
    obtain ⟨ρ96, rfl⟩ := reopen_ex (uc q8 (uc q96 un))
    clear q8 q96
    refine JL_run rfl (Pu_load ty30 rfl (At.bx 98 (made_old ((hB 13 (by decide)).trans rfl))) (sub_a hO29.len) ?_)
    refine JL_nil ?_
    exact ⟨.agg ⟨cs29⟩, [], rfl, (Sub.emp Sub.refl), rfl⟩
   ·intro ρ r40 N40 B hB hBa hp hr hr0
    have q96 : ρ 96 = .bool (true) := (hr 43 _ _ (by decide) rfl rfl rfl).trans (hp 43 (by decide) rfl)
    obtain ⟨ρ97, rfl⟩ := reopen_ex (uc q96 un)
    clear q96
    refine JL_call rfl Try.call33 rfl (fun hin => va_ct _ _ (by unfold inI; omega)) rfl ?_
    rintro _ _ ⟨cs98, k98, rfl, rfl, hO98⟩
    refine JL_nil ?_
    exact ⟨.agg ⟨cs98⟩, k98, rfl, Sub.refl, ⟨rfl, hO98⟩⟩
   ·intro ρ r40 N40 B hB hBa hp hr hr0
    have q96 : ρ 96 = .bool (true) := (hr 43 _ _ (by decide) rfl rfl rfl).trans (hp 43 (by decide) rfl)
    obtain ⟨ρ99, rfl⟩ := reopen_ex (uc q96 un)
    clear q96
    refine JL_call rfl Try.call33 rfl (fun hin => va_ct _ _ (by unfold inI; omega)) rfl ?_
    rintro _ _ ⟨cs100, k100, rfl, rfl, hO100⟩
    refine JL_nil ?_
    exact ⟨.agg ⟨cs100⟩, k100, rfl, Sub.refl, ⟨rfl, hO100⟩⟩
   ·intro ρ r40 N40 B hB hBa hp hr hr0
    have p45 : (r40 45) = .agg ⟨(cel (r40 45))⟩ ∧ OT (eVa (0)) (cel (r40 45)) (N40 45) := hp 45 (by decide) rfl
    have p46 : (r40 46) = .agg ⟨(cel (r40 46))⟩ ∧ OT (eVa (3)) (cel (r40 46)) (N40 46) := hp 46 (by decide) rfl
    have q96 : ρ 96 = .bool (true) := (hr 43 _ _ (by decide) rfl rfl rfl).trans (hp 43 (by decide) rfl)
    have q98 : ρ 98 = .agg ⟨(cel (r40 45))⟩ := (hr 45 _ _ (by decide) rfl rfl rfl).trans p45.1
    have q99 : ρ 99 = .agg ⟨(cel (r40 46))⟩ := (hr 46 _ _ (by decide) rfl rfl rfl).trans p46.1
    obtain ⟨ρ101, rfl⟩ := reopen_ex (uc q96 (uc q98 (uc q99 un)))
    clear q96 q98 q99
    refine JL_call rfl Try.call32 rfl (fun hin => ap_ct _ _ p45.2.len p45.2.ok _ p46.2.len p46.2.ok) rfl ?_
    rintro _ _ ⟨cs102, k102, rfl, rfl, hC102⟩
    replace hC102 : ((cs102).length = 36 ∧ okc (cs102) ∧ ∀ h, Has (k102) h → RT h ((cel (r40 45))) (eVa (0)) → RT h ((cel (r40 46))) (eVa (3)) → RT h (cs102) (eAp (eVa (0)) (eVa (3)))) := ⟨hC102.1, hC102.2.1, hC102.2.2 (eVa (0)) (eVa (3))⟩
    refine JL_nil ?_
    exact ⟨.agg ⟨cs102⟩, k102, rfl, Sub.refl, ⟨rfl, hC102⟩⟩
   ·intro ρ r40 N40 B hB hBa hp hr hr0
    have p47 : (r40 47) = .agg ⟨(cel (r40 47))⟩ ∧ (((cel (r40 47))).length = 36 ∧ okc ((cel (r40 47))) ∧ ∀ h, Has ((N40 47)) h → RT h ((cel (r40 45))) (eVa (0)) → RT h ((cel (r40 46))) (eVa (3)) → RT h ((cel (r40 47))) (eAp (eVa (0)) (eVa (3)))) := hp 47 (by decide) rfl
    have q96 : ρ 96 = .bool (true) := (hr 43 _ _ (by decide) rfl rfl rfl).trans (hp 43 (by decide) rfl)
    have q100 : ρ 100 = .agg ⟨(cel (r40 47))⟩ := (hr 47 _ _ (by decide) rfl rfl rfl).trans p47.1
    obtain ⟨ρ103, rfl⟩ := reopen_ex (uc q96 (uc q100 un))
    clear q96 q100
    refine JL_call rfl Try.call31 rfl (fun hin => la_ct _ _ p47.2.1 p47.2.2.1) rfl ?_
    rintro _ _ ⟨cs104, k104, rfl, rfl, hC104⟩
    replace hC104 : ((cs104).length = 36 ∧ okc (cs104) ∧ ∀ h, Has (k104) h → RT h ((cel (r40 47))) (eAp (eVa (0)) (eVa (3))) → RT h (cs104) (eLa (eAp (eVa (0)) (eVa (3))))) := ⟨hC104.1, hC104.2.1, hC104.2.2 (eAp (eVa (0)) (eVa (3)))⟩
    refine JL_nil ?_
    exact ⟨.agg ⟨cs104⟩, k104, rfl, Sub.refl, ⟨rfl, hC104⟩⟩
   ·intro ρ r40 N40 B hB hBa hp hr hr0
    have p45 : (r40 45) = .agg ⟨(cel (r40 45))⟩ ∧ OT (eVa (0)) (cel (r40 45)) (N40 45) := hp 45 (by decide) rfl
    have p46 : (r40 46) = .agg ⟨(cel (r40 46))⟩ ∧ OT (eVa (3)) (cel (r40 46)) (N40 46) := hp 46 (by decide) rfl
    have p47 : (r40 47) = .agg ⟨(cel (r40 47))⟩ ∧ (((cel (r40 47))).length = 36 ∧ okc ((cel (r40 47))) ∧ ∀ h, Has ((N40 47)) h → RT h ((cel (r40 45))) (eVa (0)) → RT h ((cel (r40 46))) (eVa (3)) → RT h ((cel (r40 47))) (eAp (eVa (0)) (eVa (3)))) := hp 47 (by decide) rfl
    have p48 : (r40 48) = .agg ⟨(cel (r40 48))⟩ ∧ (((cel (r40 48))).length = 36 ∧ okc ((cel (r40 48))) ∧ ∀ h, Has ((N40 48)) h → RT h ((cel (r40 47))) (eAp (eVa (0)) (eVa (3))) → RT h ((cel (r40 48))) (eLa (eAp (eVa (0)) (eVa (3))))) := hp 48 (by decide) rfl
    have q96 : ρ 96 = .bool (true) := (hr 43 _ _ (by decide) rfl rfl rfl).trans (hp 43 (by decide) rfl)
    have q97 : ρ 97 = .agg ⟨cs29⟩ := (hr 44 _ _ (by decide) rfl rfl rfl).trans (hp 44 (by decide) rfl)
    have q101 : ρ 101 = .agg ⟨(cel (r40 48))⟩ := (hr 48 _ _ (by decide) rfl rfl rfl).trans p48.1
    obtain ⟨ρ105, rfl⟩ := reopen_ex (uc q96 (uc q97 (uc q101 un)))
    clear q96 q97 q101
    refine JL_call rfl Try.call9 rfl (fun hin => bool_r (r := true) (sameTerm_ct _ _ _ _ _ (hO29.rd (hin 99 _ (made_old ((hB 14 (by decide)).trans rfl)))) (p48.2.2.2 _ (hin 48 _ (made_new rfl rfl)) (p47.2.2.2 _ (hin 47 _ (made_new rfl rfl)) (p45.2.rd (hin 45 _ (made_new rfl rfl))) (p46.2.rd (hin 46 _ (made_new rfl rfl)))))) (decide_eq_true rfl)) rfl ?_
    rintro _ _ ⟨rfl, rfl⟩
    refine JL_nil ?_
    exact ⟨.bool (true), [], rfl, (Sub.emp Sub.refl), rfl⟩
   ·intro ρ r40 N40 B hB hBa hp hr hr0
    have q96 : ρ 96 = .bool (true) := (hr 43 _ _ (by decide) rfl rfl rfl).trans (hp 43 (by decide) rfl)
    have q102 : ρ 102 = .bool (true) := (hr 49 _ _ (by decide) rfl rfl rfl).trans (hp 49 (by decide) rfl)
    obtain ⟨ρ106, rfl⟩ := reopen_ex (uc q96 (uc q102 un))
    clear q96 q102
    refine JL_pure (v := .bool (true)) rfl (Pu.pickT rfl rfl) ?_
    refine JL_nil ?_
    exact ⟨.bool (true), [], rfl, (Sub.emp Sub.refl), rfl⟩
   ·intro ρ r40 N40 B hB hBa hp hr hr0
    have q103 : ρ 103 = .bool (true) := (hr 50 _ _ (by decide) rfl rfl rfl).trans (hp 50 (by decide) rfl)
    obtain ⟨ρ107, rfl⟩ := reopen_ex (uc q103 un)
    clear q103
    refine JL_pure (v := .bool (true)) rfl (Pu.move rfl) ?_
    refine JL_nil ?_
    exact ⟨.bool (true), [], rfl, (Sub.emp Sub.refl), rfl⟩
   ·intro ρ r40 N40 B hB hBa hp hr hr0
    have q12 : ρ 12 = .pointer (some ⟨b39, 0, none⟩) := hr0 12 (by kernel_rfl)
    have q104 : ρ 104 = .bool (true) := (hr 51 _ _ (by decide) rfl rfl rfl).trans (hp 51 (by decide) rfl)
    obtain ⟨ρ108, rfl⟩ := reopen_ex (uc q12 (uc q104 un))
    clear q12 q104
    refine JL_pure (v := .pointer (some ⟨b39, 34, none⟩)) rfl (fa79_3 rfl rfl) ?_
    refine JL_nil ?_
    exact ⟨.pointer (some ⟨b39, 34, none⟩), [], rfl, (Sub.emp Sub.refl), rfl⟩
   ·intro ρ r40 N40 B hB hBa hp hr hr0
    have q104 : ρ 104 = .bool (true) := (hr 51 _ _ (by decide) rfl rfl rfl).trans (hp 51 (by decide) rfl)
    have q105 : ρ 105 = .pointer (some ⟨b39, 34, none⟩) := (hr 52 _ _ (by decide) rfl rfl rfl).trans (hp 52 (by decide) rfl)
    obtain ⟨ρ109, rfl⟩ := reopen_ex (uc q104 (uc q105 un))
    clear q104 q105
    refine JL_run rfl (Pu_load1 ty75 rfl (At.bx 85 (made_old ((hB 0 (by decide)).trans rfl))) (get_l (pkT_34 ..)) ?_)
    refine JL_nil ?_
    exact ⟨ns38, [], rfl, (Sub.emp Sub.refl), rfl⟩
   ·intro ρ r40 N40 B hB hBa hp hr hr0
    have q104 : ρ 104 = .bool (true) := (hr 51 _ _ (by decide) rfl rfl rfl).trans (hp 51 (by decide) rfl)
    obtain ⟨ρ110, rfl⟩ := reopen_ex (uc q104 un)
    clear q104
    refine JL_run rfl (Runs_buildSlice (vs := [.string (ltr 1)]) [[.string (ltr 1)]] Try.runUnderlying75 el9 rfl rfl (by intro e he; simp only [List.mem_cons, List.not_mem_nil, or_false] at he; subst he; exact rfl) rfl (by decide) fun b111 k111 ho111 hk111 => ?_)
    refine JL_nil ?_
    exact ⟨.slice (some ⟨b111, 0, none⟩) 1 1, k111, rfl, Sub.refl, ⟨rfl, hk111, ho111⟩⟩
   ·intro ρ r40 N40 B hB hBa hp hr hr0
    have p54 : (r40 54) = .slice (some ⟨(sblk (r40 54)), 0, none⟩) 1 1 ∧ (N40 54) = [(sblk (r40 54), .cells ⟨List.flatten [[.string (ltr 1)]]⟩ 9 (0, 0))] ∧ Own 9 1 (.slice (some ⟨(sblk (r40 54)), 0, none⟩) 1 1) [[.string (ltr 1)]] (N40 54) := hp 54 (by decide) rfl
    have q104 : ρ 104 = .bool (true) := (hr 51 _ _ (by decide) rfl rfl rfl).trans (hp 51 (by decide) rfl)
    have q106 : ρ 106 = ns38 := (hr 53 _ _ (by decide) rfl rfl rfl).trans (hp 53 (by decide) rfl)
    have q107 : ρ 107 = .slice (some ⟨(sblk (r40 54)), 0, none⟩) 1 1 := (hr 54 _ _ (by decide) rfl rfl rfl).trans p54.1
    obtain ⟨ρ112, rfl⟩ := reopen_ex (uc q104 (uc q106 (uc q107 un)))
    clear q104 q106 q107
    refine JL_call rfl Try.call37 rfl (fun hin => bool_r (r := true) (equalS_ct _ _ _ _ _ (own_strs hon38 (by simp) (hin 86 _ (made_old ((hB 1 (by decide)).trans rfl)))) (own_strs (l := [ltr 1]) p54.2.2 (by simp) (hin 54 _ (made_new rfl rfl)))) (eqL_true rfl)) rfl ?_
    rintro _ _ ⟨rfl, rfl⟩
    refine JL_nil ?_
    exact ⟨.bool (true), [], rfl, (Sub.emp Sub.refl), rfl⟩
   ·intro ρ r40 N40 B hB hBa hp hr hr0
    have q104 : ρ 104 = .bool (true) := (hr 51 _ _ (by decide) rfl rfl rfl).trans (hp 51 (by decide) rfl)
    have q108 : ρ 108 = .bool (true) := (hr 55 _ _ (by decide) rfl rfl rfl).trans (hp 55 (by decide) rfl)
    obtain ⟨ρ113, rfl⟩ := reopen_ex (uc q104 (uc q108 un))
    clear q104 q108
    refine JL_pure (v := .bool (true)) rfl (Pu.pickT rfl rfl) ?_
    refine JL_nil ?_
    exact ⟨.bool (true), [], rfl, (Sub.emp Sub.refl), rfl⟩
   ·intro ρ r40 N40 B hB hBa hp hr hr0
    have q109 : ρ 109 = .bool (true) := (hr 56 _ _ (by decide) rfl rfl rfl).trans (hp 56 (by decide) rfl)
    obtain ⟨ρ114, rfl⟩ := reopen_ex (uc q109 un)
    clear q109
    refine JL_pure (v := .bool (true)) rfl (Pu.move rfl) ?_
    refine JL_nil ?_
    exact ⟨.bool (true), [], rfl, (Sub.emp Sub.refl), rfl⟩
   ·intro ρ r40 N40 B hB hBa hp hr hr0
    have q12 : ρ 12 = .pointer (some ⟨b39, 0, none⟩) := hr0 12 (by kernel_rfl)
    have q110 : ρ 110 = .bool (true) := (hr 57 _ _ (by decide) rfl rfl rfl).trans (hp 57 (by decide) rfl)
    obtain ⟨ρ115, rfl⟩ := reopen_ex (uc q12 (uc q110 un))
    clear q12 q110
    refine JL_pure (v := .pointer (some ⟨b39, 35, none⟩)) rfl (fa79_4 rfl rfl) ?_
    refine JL_nil ?_
    exact ⟨.pointer (some ⟨b39, 35, none⟩), [], rfl, (Sub.emp Sub.refl), rfl⟩
   ·intro ρ r40 N40 B hB hBa hp hr hr0
    have q110 : ρ 110 = .bool (true) := (hr 57 _ _ (by decide) rfl rfl rfl).trans (hp 57 (by decide) rfl)
    have q111 : ρ 111 = .pointer (some ⟨b39, 35, none⟩) := (hr 58 _ _ (by decide) rfl rfl rfl).trans (hp 58 (by decide) rfl)
    obtain ⟨ρ116, rfl⟩ := reopen_ex (uc q110 (uc q111 un))
    clear q110 q111
    refine JL_run rfl (Pu_load1 ty76 rfl (At.bx 85 (made_old ((hB 0 (by decide)).trans rfl))) (get_l (pkT_35 ..)) ?_)
    refine JL_nil ?_
    exact ⟨nks38, [], rfl, (Sub.emp Sub.refl), rfl⟩
   ·intro ρ r40 N40 B hB hBa hp hr hr0
    have q110 : ρ 110 = .bool (true) := (hr 57 _ _ (by decide) rfl rfl rfl).trans (hp 57 (by decide) rfl)
    have q112 : ρ 112 = nks38 := (hr 59 _ _ (by decide) rfl rfl rfl).trans (hp 59 (by decide) rfl)
    obtain ⟨ρ117, rfl⟩ := reopen_ex (uc q110 (uc q112 un))
    clear q110 q112
    obtain ⟨a118, cap118, hv118⟩ := hok38.sl
    rw [(rfl : List.length [_] = 1)] at hv118
    refine JL_pure (v := .int .i64 (1)) rfl (Pu.lenSl Try.runUnderlying76 hv118) ?_
    refine JL_nil ?_
    exact ⟨.int .i64 (1), [], rfl, (Sub.emp Sub.refl), rfl⟩
   ·intro ρ r40 N40 B hB hBa hp hr hr0
    have q110 : ρ 110 = .bool (true) := (hr 57 _ _ (by decide) rfl rfl rfl).trans (hp 57 (by decide) rfl)
    have q113 : ρ 113 = .int .i64 (1) := (hr 60 _ _ (by decide) rfl rfl rfl).trans (hp 60 (by decide) rfl)
    obtain ⟨ρ119, rfl⟩ := reopen_ex (uc q110 (uc q113 un))
    clear q110 q113
    refine JL_pure (v := .bool (true)) rfl (show Pu _ _ _ (.bool (decide ((1 : Int) = 1))) from Pu.eql rfl rfl) ?_
    refine JL_nil ?_
    exact ⟨.bool (true), [], rfl, (Sub.emp Sub.refl), rfl⟩
   ·intro ρ r40 N40 B hB hBa hp hr hr0
    have q110 : ρ 110 = .bool (true) := (hr 57 _ _ (by decide) rfl rfl rfl).trans (hp 57 (by decide) rfl)
    have q114 : ρ 114 = .bool (true) := (hr 61 _ _ (by decide) rfl rfl rfl).trans (hp 61 (by decide) rfl)
    obtain ⟨ρ120, rfl⟩ := reopen_ex (uc q110 (uc q114 un))
    clear q110 q114
    refine JL_pure (v := .bool (true)) rfl (Pu.pickT rfl rfl) ?_
    refine JL_nil ?_
    exact ⟨.bool (true), [], rfl, (Sub.emp Sub.refl), rfl⟩
   ·intro ρ r40 N40 B hB hBa hp hr hr0
    have q115 : ρ 115 = .bool (true) := (hr 62 _ _ (by decide) rfl rfl rfl).trans (hp 62 (by decide) rfl)
    obtain ⟨ρ121, rfl⟩ := reopen_ex (uc q115 un)
    clear q115
    refine JL_pure (v := .bool (true)) rfl (Pu.move rfl) ?_
    refine JL_nil ?_
    exact ⟨.bool (true), [], rfl, (Sub.emp Sub.refl), rfl⟩
   ·intro ρ r40 N40 B hB hBa hp hr hr0
    have q12 : ρ 12 = .pointer (some ⟨b39, 0, none⟩) := hr0 12 (by kernel_rfl)
    have q116 : ρ 116 = .bool (true) := (hr 63 _ _ (by decide) rfl rfl rfl).trans (hp 63 (by decide) rfl)
    obtain ⟨ρ122, rfl⟩ := reopen_ex (uc q12 (uc q116 un))
    clear q12 q116
    refine JL_pure (v := .pointer (some ⟨b39, 35, none⟩)) rfl (fa79_4 rfl rfl) ?_
    refine JL_nil ?_
    exact ⟨.pointer (some ⟨b39, 35, none⟩), [], rfl, (Sub.emp Sub.refl), rfl⟩
   ·intro ρ r40 N40 B hB hBa hp hr hr0
    have q116 : ρ 116 = .bool (true) := (hr 63 _ _ (by decide) rfl rfl rfl).trans (hp 63 (by decide) rfl)
    have q117 : ρ 117 = .pointer (some ⟨b39, 35, none⟩) := (hr 64 _ _ (by decide) rfl rfl rfl).trans (hp 64 (by decide) rfl)
    obtain ⟨ρ123, rfl⟩ := reopen_ex (uc q116 (uc q117 un))
    clear q116 q117
    refine JL_run rfl (Pu_load1 ty76 rfl (At.bx 85 (made_old ((hB 0 (by decide)).trans rfl))) (get_l (pkT_35 ..)) ?_)
    refine JL_nil ?_
    exact ⟨nks38, [], rfl, (Sub.emp Sub.refl), rfl⟩
   ·intro ρ r40 N40 B hB hBa hp hr hr0
    have q116 : ρ 116 = .bool (true) := (hr 63 _ _ (by decide) rfl rfl rfl).trans (hp 63 (by decide) rfl)
    have q118 : ρ 118 = nks38 := (hr 65 _ _ (by decide) rfl rfl rfl).trans (hp 65 (by decide) rfl)
    obtain ⟨ρ124, rfl⟩ := reopen_ex (uc q116 (uc q118 un))
    clear q116 q118
    refine JL_pure (v := .pointer (some ⟨b42, 0 + 0 * 37, none⟩)) rfl (Pu.idx 0 Try.runUnderlying76 ty79 hv42 rfl rfl (by simp)) ?_
    refine JL_nil ?_
    exact ⟨.pointer (some ⟨b42, 0 + 0 * 37, none⟩), [], rfl, (Sub.emp Sub.refl), rfl⟩
   ·intro ρ r40 N40 B hB hBa hp hr hr0
    have q116 : ρ 116 = .bool (true) := (hr 63 _ _ (by decide) rfl rfl rfl).trans (hp 63 (by decide) rfl)
    have q119 : ρ 119 = .pointer (some ⟨b42, 0 + 0 * 37, none⟩) := (hr 66 _ _ (by decide) rfl rfl rfl).trans (hp 66 (by decide) rfl)
    obtain ⟨ρ125, rfl⟩ := reopen_ex (uc q116 (uc q119 un))
    clear q116 q119
    refine JL_pure (v := .pointer (some ⟨b42, 0 + 0 * 37 + 34, none⟩)) rfl (fa79_3 rfl rfl) ?_
    refine JL_nil ?_
    exact ⟨.pointer (some ⟨b42, 0 + 0 * 37 + 34, none⟩), [], rfl, (Sub.emp Sub.refl), rfl⟩
   ·intro ρ r40 N40 B hB hBa hp hr hr0
    have q116 : ρ 116 = .bool (true) := (hr 63 _ _ (by decide) rfl rfl rfl).trans (hp 63 (by decide) rfl)
    have q120 : ρ 120 = .pointer (some ⟨b42, 0 + 0 * 37 + 34, none⟩) := (hr 67 _ _ (by decide) rfl rfl rfl).trans (hp 67 (by decide) rfl)
    obtain ⟨ρ126, rfl⟩ := reopen_ex (uc q116 (uc q120 un))
    clear q116 q120
    refine JL_run rfl (Pu_load1 ty75 rfl (At.k 87 (made_old ((hB 2 (by decide)).trans rfl)) hm42) (sub_get hs42 (get_l (pkT_34 ..))) ?_)
    refine JL_nil ?_
    exact ⟨ms38, [], rfl, (Sub.emp Sub.refl), rfl⟩
   ·intro ρ r40 N40 B hB hBa hp hr hr0
    have q116 : ρ 116 = .bool (true) := (hr 63 _ _ (by decide) rfl rfl rfl).trans (hp 63 (by decide) rfl)
    obtain ⟨ρ127, rfl⟩ := reopen_ex (uc q116 un)
    clear q116
    refine JL_run rfl (Runs_buildSlice (vs := [.string (ltr 2)]) [[.string (ltr 2)]] Try.runUnderlying75 el9 rfl rfl (by intro e he; simp only [List.mem_cons, List.not_mem_nil, or_false] at he; subst he; exact rfl) rfl (by decide) fun b128 k128 ho128 hk128 => ?_)
    refine JL_nil ?_
    exact ⟨.slice (some ⟨b128, 0, none⟩) 1 1, k128, rfl, Sub.refl, ⟨rfl, hk128, ho128⟩⟩
   ·intro ρ r40 N40 B hB hBa hp hr hr0
    have p69 : (r40 69) = .slice (some ⟨(sblk (r40 69)), 0, none⟩) 1 1 ∧ (N40 69) = [(sblk (r40 69), .cells ⟨List.flatten [[.string (ltr 2)]]⟩ 9 (0, 0))] ∧ Own 9 1 (.slice (some ⟨(sblk (r40 69)), 0, none⟩) 1 1) [[.string (ltr 2)]] (N40 69) := hp 69 (by decide) rfl
    have q116 : ρ 116 = .bool (true) := (hr 63 _ _ (by decide) rfl rfl rfl).trans (hp 63 (by decide) rfl)
    have q121 : ρ 121 = ms38 := (hr 68 _ _ (by decide) rfl rfl rfl).trans (hp 68 (by decide) rfl)
    have q122 : ρ 122 = .slice (some ⟨(sblk (r40 69)), 0, none⟩) 1 1 := (hr 69 _ _ (by decide) rfl rfl rfl).trans p69.1
    obtain ⟨ρ129, rfl⟩ := reopen_ex (uc q116 (uc q121 (uc q122 un)))
    clear q116 q121 q122
    refine JL_call rfl Try.call37 rfl (fun hin => bool_r (r := true) (equalS_ct _ _ _ _ _ (own_strs hom38 (by simp) (hin 88 _ (made_old ((hB 3 (by decide)).trans rfl)))) (own_strs (l := [ltr 2]) p69.2.2 (by simp) (hin 69 _ (made_new rfl rfl)))) (eqL_true rfl)) rfl ?_
    rintro _ _ ⟨rfl, rfl⟩
    refine JL_nil ?_
    exact ⟨.bool (true), [], rfl, (Sub.emp Sub.refl), rfl⟩
   ·intro ρ r40 N40 B hB hBa hp hr hr0
    have q116 : ρ 116 = .bool (true) := (hr 63 _ _ (by decide) rfl rfl rfl).trans (hp 63 (by decide) rfl)
    have q123 : ρ 123 = .bool (true) := (hr 70 _ _ (by decide) rfl rfl rfl).trans (hp 70 (by decide) rfl)
    obtain ⟨ρ130, rfl⟩ := reopen_ex (uc q116 (uc q123 un))
    clear q116 q123
    refine JL_pure (v := .bool (true)) rfl (Pu.pickT rfl rfl) ?_
    refine JL_nil ?_
    exact ⟨.bool (true), [], rfl, (Sub.emp Sub.refl), rfl⟩
   ·intro ρ r40 N40 B hB hBa hp hr hr0
    have q124 : ρ 124 = .bool (true) := (hr 71 _ _ (by decide) rfl rfl rfl).trans (hp 71 (by decide) rfl)
    obtain ⟨ρ131, rfl⟩ := reopen_ex (uc q124 un)
    clear q124
    refine JL_pure (v := .bool (true)) rfl (Pu.move rfl) ?_
    refine JL_nil ?_
    exact ⟨.bool (true), [], rfl, (Sub.emp Sub.refl), rfl⟩
   ·intro ρ r40 N40 B hB hBa hp hr hr0
    have q125 : ρ 125 = .bool (true) := (hr 72 _ _ (by decide) rfl rfl rfl).trans (hp 72 (by decide) rfl)
    obtain ⟨ρ132, rfl⟩ := reopen_ex (uc q125 un)
    clear q125
    refine JL_pure (v := .agg ⟨sC (zS)⟩) rfl (Pu.build (pv := []) (l := sC (zS)) rfl bld26_) ?_
    refine JL_nil ?_
    exact ⟨.agg ⟨sC (zS)⟩, [], rfl, (Sub.emp Sub.refl), rfl⟩
   ·intro ρ r40 N40 B hB hBa hp hr hr0
    have q125 : ρ 125 = .bool (true) := (hr 72 _ _ (by decide) rfl rfl rfl).trans (hp 72 (by decide) rfl)
    obtain ⟨ρ133, rfl⟩ := reopen_ex (uc q125 un)
    clear q125
    refine JL_call rfl Try.call15 rfl (fun hin => nu_ct _ _ (by unfold inI; omega)) rfl ?_
    rintro _ _ ⟨cs134, k134, rfl, rfl, hO134⟩
    refine JL_nil ?_
    exact ⟨.agg ⟨cs134⟩, k134, rfl, Sub.refl, ⟨rfl, hO134⟩⟩
   ·intro ρ r40 N40 B hB hBa hp hr hr0
    have q125 : ρ 125 = .bool (true) := (hr 72 _ _ (by decide) rfl rfl rfl).trans (hp 72 (by decide) rfl)
    obtain ⟨ρ135, rfl⟩ := reopen_ex (uc q125 un)
    clear q125
    refine JL_call rfl Try.call33 rfl (fun hin => va_ct _ _ (by unfold inI; omega)) rfl ?_
    rintro _ _ ⟨cs136, k136, rfl, rfl, hO136⟩
    refine JL_nil ?_
    exact ⟨.agg ⟨cs136⟩, k136, rfl, Sub.refl, ⟨rfl, hO136⟩⟩
   ·intro ρ r40 N40 B hB hBa hp hr hr0
    have p74 : (r40 74) = .agg ⟨(cel (r40 74))⟩ ∧ OT (eNu (1)) (cel (r40 74)) (N40 74) := hp 74 (by decide) rfl
    have p75 : (r40 75) = .agg ⟨(cel (r40 75))⟩ ∧ OT (eVa (0)) (cel (r40 75)) (N40 75) := hp 75 (by decide) rfl
    have q125 : ρ 125 = .bool (true) := (hr 72 _ _ (by decide) rfl rfl rfl).trans (hp 72 (by decide) rfl)
    have q127 : ρ 127 = .agg ⟨(cel (r40 74))⟩ := (hr 74 _ _ (by decide) rfl rfl rfl).trans p74.1
    have q128 : ρ 128 = .agg ⟨(cel (r40 75))⟩ := (hr 75 _ _ (by decide) rfl rfl rfl).trans p75.1
    obtain ⟨ρ137, rfl⟩ := reopen_ex (uc q125 (uc q127 (uc q128 un)))
    clear q125 q127 q128
    refine JL_run rfl (Runs_buildSlice (vs := [.agg ⟨(cel (r40 74))⟩, .agg ⟨(cel (r40 75))⟩]) [(cel (r40 74)), (cel (r40 75))] Try.runUnderlying27 el30 rfl rfl (by intro e he; simp only [List.mem_cons, List.not_mem_nil, or_false] at he; rcases he with rfl | rfl <;> first | exact p74.2.len | exact p75.2.len) rfl (by decide) fun b138 k138 ho138 hk138 => ?_)
    refine JL_nil ?_
    exact ⟨.slice (some ⟨b138, 0, none⟩) 2 2, k138, rfl, Sub.refl, ⟨rfl, hk138, ho138⟩⟩
   ·intro ρ r40 N40 B hB hBa hp hr hr0
    have q125 : ρ 125 = .bool (true) := (hr 72 _ _ (by decide) rfl rfl rfl).trans (hp 72 (by decide) rfl)
    have q126 : ρ 126 = .agg ⟨sC (zS)⟩ := (hr 73 _ _ (by decide) rfl rfl rfl).trans (hp 73 (by decide) rfl)
    have q129 : ρ 129 = .slice (some ⟨(sblk (r40 76)), 0, none⟩) 2 2 := (hr 76 _ _ (by decide) rfl rfl rfl).trans (hp 76 (by decide) rfl).1
    obtain ⟨ρ139, rfl⟩ := reopen_ex (uc q125 (uc q126 (uc q129 un)))
    clear q125 q126 q129
    refine JL_call rfl Try.call38 rfl (fun hin => ha_ct _ _ _ _ _) rfl ?_
    rintro _ _ ⟨rfl, rfl⟩
    refine JL_nil ?_
    exact ⟨.agg ⟨pkT (12) (0) (zS) (.slice (some ⟨(sblk (r40 76)), 0, none⟩) 2 2) (.slice none 0 0)⟩, [], rfl, (Sub.emp Sub.refl), rfl⟩
   ·intro ρ r40 N40 B hB hBa hp hr hr0
    have p74 : (r40 74) = .agg ⟨(cel (r40 74))⟩ ∧ OT (eNu (1)) (cel (r40 74)) (N40 74) := hp 74 (by decide) rfl
    have p75 : (r40 75) = .agg ⟨(cel (r40 75))⟩ ∧ OT (eVa (0)) (cel (r40 75)) (N40 75) := hp 75 (by decide) rfl
    have p76 : (r40 76) = .slice (some ⟨(sblk (r40 76)), 0, none⟩) 2 2 ∧ (N40 76) = [(sblk (r40 76), .cells ⟨List.flatten [(cel (r40 74)), (cel (r40 75))]⟩ 30 (0, 0))] ∧ Own 30 36 (.slice (some ⟨(sblk (r40 76)), 0, none⟩) 2 2) [(cel (r40 74)), (cel (r40 75))] (N40 76) := hp 76 (by decide) rfl
    have q125 : ρ 125 = .bool (true) := (hr 72 _ _ (by decide) rfl rfl rfl).trans (hp 72 (by decide) rfl)
    have q130 : ρ 130 = .agg ⟨pkT (12) (0) (zS) (.slice (some ⟨(sblk (r40 76)), 0, none⟩) 2 2) (.slice none 0 0)⟩ := (hr 77 _ _ (by decide) rfl rfl rfl).trans (hp 77 (by decide) rfl)
    obtain ⟨ρ140, rfl⟩ := reopen_ex (uc q125 (uc q130 un))
    clear q125 q130
    refine JL_call rfl Try.call14 rfl (fun hin => int_r (r := 0) (check_ct (.mk 12 0 zS [eNu (1), eVa (0)] []) 0 0 _ _ (RT_mk.2 ⟨_, _, rfl, (by unfold inI; omega), (by unfold inI; omega), (Own.rd2 p76.2.2 (hin 76 _ (made_new rfl rfl)) (p74.2.rd (hin 74 _ (made_new rfl rfl))) (p75.2.rd (hin 75 _ (made_new rfl rfl)))), Hs.rdS.nil⟩)) check_h2) rfl ?_
    rintro _ _ ⟨rfl, rfl⟩
    refine JL_nil ?_
    exact ⟨.int .i64 (0), [], rfl, (Sub.emp Sub.refl), rfl⟩
   ·intro ρ r40 N40 B hB hBa hp hr hr0
    have q125 : ρ 125 = .bool (true) := (hr 72 _ _ (by decide) rfl rfl rfl).trans (hp 72 (by decide) rfl)
    have q131 : ρ 131 = .int .i64 (0) := (hr 78 _ _ (by decide) rfl rfl rfl).trans (hp 78 (by decide) rfl)
    obtain ⟨ρ141, rfl⟩ := reopen_ex (uc q125 (uc q131 un))
    clear q125 q131
    refine JL_pure (v := .bool (true)) rfl (show Pu _ _ _ (.bool (decide ((0 : Int) = 0))) from Pu.eql rfl rfl) ?_
    refine JL_nil ?_
    exact ⟨.bool (true), [], rfl, (Sub.emp Sub.refl), rfl⟩
   ·intro ρ r40 N40 B hB hBa hp hr hr0
    have q125 : ρ 125 = .bool (true) := (hr 72 _ _ (by decide) rfl rfl rfl).trans (hp 72 (by decide) rfl)
    have q132 : ρ 132 = .bool (true) := (hr 79 _ _ (by decide) rfl rfl rfl).trans (hp 79 (by decide) rfl)
    obtain ⟨ρ142, rfl⟩ := reopen_ex (uc q125 (uc q132 un))
    clear q125 q132
    refine JL_pure (v := .bool (true)) rfl (Pu.pickT rfl rfl) ?_
    refine JL_nil ?_
    exact ⟨.bool (true), [], rfl, (Sub.emp Sub.refl), rfl⟩
   ·intro ρ r40 N40 B hB hBa hp hr hr0
    have q133 : ρ 133 = .bool (true) := (hr 80 _ _ (by decide) rfl rfl rfl).trans (hp 80 (by decide) rfl)
    obtain ⟨ρ143, rfl⟩ := reopen_ex (uc q133 un)
    clear q133
    refine JL_pure (v := .bool (true)) rfl (Pu.move rfl) ?_
    refine JL_nil ?_
    exact ⟨.bool (true), [], rfl, (Sub.emp Sub.refl), rfl⟩
   ·intro ρ r40 N40 B hB hBa hp hr hr0
    have q134 : ρ 134 = .bool (true) := (hr 81 _ _ (by decide) rfl rfl rfl).trans (hp 81 (by decide) rfl)
    obtain ⟨ρ144, rfl⟩ := reopen_ex (uc q134 un)
    clear q134
    refine JL_pure (v := .agg ⟨sC (zS)⟩) rfl (Pu.build (pv := []) (l := sC (zS)) rfl bld26_) ?_
    refine JL_nil ?_
    exact ⟨.agg ⟨sC (zS)⟩, [], rfl, (Sub.emp Sub.refl), rfl⟩
   ·intro ρ r40 N40 B hB hBa hp hr hr0
    have q134 : ρ 134 = .bool (true) := (hr 81 _ _ (by decide) rfl rfl rfl).trans (hp 81 (by decide) rfl)
    obtain ⟨ρ145, rfl⟩ := reopen_ex (uc q134 un)
    clear q134
    refine JL_call rfl Try.call15 rfl (fun hin => nu_ct _ _ (by unfold inI; omega)) rfl ?_
    rintro _ _ ⟨cs146, k146, rfl, rfl, hO146⟩
    refine JL_nil ?_
    exact ⟨.agg ⟨cs146⟩, k146, rfl, Sub.refl, ⟨rfl, hO146⟩⟩
   ·intro ρ r40 N40 B hB hBa hp hr hr0
    have p83 : (r40 83) = .agg ⟨(cel (r40 83))⟩ ∧ OT (eNu (1)) (cel (r40 83)) (N40 83) := hp 83 (by decide) rfl
    have q134 : ρ 134 = .bool (true) := (hr 81 _ _ (by decide) rfl rfl rfl).trans (hp 81 (by decide) rfl)
    have q136 : ρ 136 = .agg ⟨(cel (r40 83))⟩ := (hr 83 _ _ (by decide) rfl rfl rfl).trans p83.1
    obtain ⟨ρ147, rfl⟩ := reopen_ex (uc q134 (uc q136 un))
    clear q134 q136
    refine JL_run rfl (Runs_buildSlice (vs := [.agg ⟨(cel (r40 83))⟩]) [(cel (r40 83))] Try.runUnderlying27 el30 rfl rfl (by intro e he; simp only [List.mem_cons, List.not_mem_nil, or_false] at he; subst he; exact p83.2.len) rfl (by decide) fun b148 k148 ho148 hk148 => ?_)
    refine JL_nil ?_
    exact ⟨.slice (some ⟨b148, 0, none⟩) 1 1, k148, rfl, Sub.refl, ⟨rfl, hk148, ho148⟩⟩
   ·intro ρ r40 N40 hp hr hr0
    have p24 : (r40 24) = .slice (some ⟨(sblk (r40 24)), 0, none⟩) 1 1 ∧ (N40 24) = [(sblk (r40 24), .cells ⟨List.flatten [[.int .i64 (0)]]⟩ 3 (0, 0))] ∧ Own 3 1 (.slice (some ⟨(sblk (r40 24)), 0, none⟩) 1 1) [[.int .i64 (0)]] (N40 24) := hp 24 (by decide)
    have p29 : (r40 29) = .agg ⟨(cel (r40 29))⟩ ∧ OT (eVa (0)) (cel (r40 29)) (N40 29) := hp 29 (by decide)
    have p30 : (r40 30) = .agg ⟨(cel (r40 30))⟩ ∧ OT (eNu (5)) (cel (r40 30)) (N40 30) := hp 30 (by decide)
    have p31 : (r40 31) = .agg ⟨(cel (r40 31))⟩ ∧ (((cel (r40 31))).length = 36 ∧ okc ((cel (r40 31))) ∧ ∀ h, Has ((N40 31)) h → RT h ((cel (r40 29))) (eVa (0)) → RT h ((cel (r40 30))) (eNu (5)) → RT h ((cel (r40 31))) (eAp (eVa (0)) (eNu (5)))) := hp 31 (by decide)
    have p32 : (r40 32) = .agg ⟨(cel (r40 32))⟩ ∧ (((cel (r40 32))).length = 36 ∧ okc ((cel (r40 32))) ∧ ∀ h, Has ((N40 32)) h → RT h ((cel (r40 31))) (eAp (eVa (0)) (eNu (5))) → RT h ((cel (r40 32))) (eLa (eAp (eVa (0)) (eNu (5))))) := hp 32 (by decide)
    have p37 : (r40 37) = .agg ⟨(cel (r40 37))⟩ ∧ OT (eVa (0)) (cel (r40 37)) (N40 37) := hp 37 (by decide)
    have p38 : (r40 38) = .agg ⟨(cel (r40 38))⟩ ∧ OT (eVa (4)) (cel (r40 38)) (N40 38) := hp 38 (by decide)
    have p39 : (r40 39) = .agg ⟨(cel (r40 39))⟩ ∧ (((cel (r40 39))).length = 36 ∧ okc ((cel (r40 39))) ∧ ∀ h, Has ((N40 39)) h → RT h ((cel (r40 37))) (eVa (0)) → RT h ((cel (r40 38))) (eVa (4)) → RT h ((cel (r40 39))) (eAp (eVa (0)) (eVa (4)))) := hp 39 (by decide)
    have p40 : (r40 40) = .agg ⟨(cel (r40 40))⟩ ∧ (((cel (r40 40))).length = 36 ∧ okc ((cel (r40 40))) ∧ ∀ h, Has ((N40 40)) h → RT h ((cel (r40 39))) (eAp (eVa (0)) (eVa (4))) → RT h ((cel (r40 40))) (eLa (eAp (eVa (0)) (eVa (4))))) := hp 40 (by decide)
    have p45 : (r40 45) = .agg ⟨(cel (r40 45))⟩ ∧ OT (eVa (0)) (cel (r40 45)) (N40 45) := hp 45 (by decide)
    have p46 : (r40 46) = .agg ⟨(cel (r40 46))⟩ ∧ OT (eVa (3)) (cel (r40 46)) (N40 46) := hp 46 (by decide)
    have p47 : (r40 47) = .agg ⟨(cel (r40 47))⟩ ∧ (((cel (r40 47))).length = 36 ∧ okc ((cel (r40 47))) ∧ ∀ h, Has ((N40 47)) h → RT h ((cel (r40 45))) (eVa (0)) → RT h ((cel (r40 46))) (eVa (3)) → RT h ((cel (r40 47))) (eAp (eVa (0)) (eVa (3)))) := hp 47 (by decide)
    have p48 : (r40 48) = .agg ⟨(cel (r40 48))⟩ ∧ (((cel (r40 48))).length = 36 ∧ okc ((cel (r40 48))) ∧ ∀ h, Has ((N40 48)) h → RT h ((cel (r40 47))) (eAp (eVa (0)) (eVa (3))) → RT h ((cel (r40 48))) (eLa (eAp (eVa (0)) (eVa (3))))) := hp 48 (by decide)
    have p54 : (r40 54) = .slice (some ⟨(sblk (r40 54)), 0, none⟩) 1 1 ∧ (N40 54) = [(sblk (r40 54), .cells ⟨List.flatten [[.string (ltr 1)]]⟩ 9 (0, 0))] ∧ Own 9 1 (.slice (some ⟨(sblk (r40 54)), 0, none⟩) 1 1) [[.string (ltr 1)]] (N40 54) := hp 54 (by decide)
    have p69 : (r40 69) = .slice (some ⟨(sblk (r40 69)), 0, none⟩) 1 1 ∧ (N40 69) = [(sblk (r40 69), .cells ⟨List.flatten [[.string (ltr 2)]]⟩ 9 (0, 0))] ∧ Own 9 1 (.slice (some ⟨(sblk (r40 69)), 0, none⟩) 1 1) [[.string (ltr 2)]] (N40 69) := hp 69 (by decide)
    have p74 : (r40 74) = .agg ⟨(cel (r40 74))⟩ ∧ OT (eNu (1)) (cel (r40 74)) (N40 74) := hp 74 (by decide)
    have p75 : (r40 75) = .agg ⟨(cel (r40 75))⟩ ∧ OT (eVa (0)) (cel (r40 75)) (N40 75) := hp 75 (by decide)
    have p76 : (r40 76) = .slice (some ⟨(sblk (r40 76)), 0, none⟩) 2 2 ∧ (N40 76) = [(sblk (r40 76), .cells ⟨List.flatten [(cel (r40 74)), (cel (r40 75))]⟩ 30 (0, 0))] ∧ Own 30 36 (.slice (some ⟨(sblk (r40 76)), 0, none⟩) 2 2) [(cel (r40 74)), (cel (r40 75))] (N40 76) := hp 76 (by decide)
    have p83 : (r40 83) = .agg ⟨(cel (r40 83))⟩ ∧ OT (eNu (1)) (cel (r40 83)) (N40 83) := hp 83 (by decide)
    have p84 : (r40 84) = .slice (some ⟨(sblk (r40 84)), 0, none⟩) 1 1 ∧ (N40 84) = [(sblk (r40 84), .cells ⟨List.flatten [(cel (r40 83))]⟩ 30 (0, 0))] ∧ Own 30 36 (.slice (some ⟨(sblk (r40 84)), 0, none⟩) 1 1) [(cel (r40 83))] (N40 84) := hp 84 (by decide)
    have q0 : ρ 0 = .bool (false) := hr0 0 (by kernel_rfl)
    have q134 : ρ 134 = .bool (true) := (hr 81 _ _ (by decide) rfl rfl).trans (hp 81 (by decide))
    have q135 : ρ 135 = .agg ⟨sC (zS)⟩ := (hr 82 _ _ (by decide) rfl rfl).trans (hp 82 (by decide))
    have q137 : ρ 137 = .slice (some ⟨(sblk (r40 84)), 0, none⟩) 1 1 := (hr 84 _ _ (by decide) rfl rfl).trans p84.1
    obtain ⟨ρ149, rfl⟩ := reopen_ex (uc q0 (uc q134 (uc q135 (uc q137 un))))
    clear q0 q134 q135 q137
    have p40_24 := p24; have p40_29 := p29; have p40_30 := p30; have p40_31 := p31; have p40_32 := p32; have p40_37 := p37; have p40_38 := p38; have p40_39 := p39; have p40_40 := p40; have p40_45 := p45; have p40_46 := p46; have p40_47 := p47; have p40_48 := p48; have p40_54 := p54; have p40_69 := p69; have p40_74 := p74; have p40_75 := p75; have p40_76 := p76; have p40_83 := p83; have p40_84 := p84
    clear hp hr hr0 p24 p29 p30 p31 p32 p37 p38 p39 p40 p45 p46 p47 p48 p54 p69 p74 p75 p76 p83 p84
    refine JL_sub (M' := [(N40 0), (N40 1), (N40 2), (N40 3), (N40 4), (N40 5), (N40 6), (N40 7), (N40 8), (N40 9), (N40 10), (N40 11), (N40 12), (N40 13), (N40 14), (N40 15), (N40 16), (N40 17), (N40 18), (N40 19), (N40 20), (N40 21), (N40 22), (N40 23), (N40 24), (N40 25), (N40 26), (N40 27), (N40 28), (N40 29), (N40 30), (N40 31), (N40 32), (N40 33), (N40 34), (N40 35), (N40 36), (N40 37), (N40 38), (N40 39), (N40 40), (N40 41), (N40 42), (N40 43), (N40 44), (N40 45), (N40 46), (N40 47), (N40 48), (N40 49), (N40 50), (N40 51), (N40 52), (N40 53), (N40 54), (N40 55), (N40 56), (N40 57), (N40 58), (N40 59), (N40 60), (N40 61), (N40 62), (N40 63), (N40 64), (N40 65), (N40 66), (N40 67), (N40 68), (N40 69), (N40 70), (N40 71), (N40 72), (N40 73), (N40 74), (N40 75), (N40 76), (N40 77), (N40 78), (N40 79), (N40 80), (N40 81), (N40 82), (N40 83), (N40 84), [(b39, .cells ⟨(pkT (nk38) (nn38) (nr38) (ns38) (nks38)) ++ ([ncv38] : List Value)⟩ 79 (0, 0))], nk138, nk238, mk138, mk238, mk338, k37, k36, k35, k34, [(b33, .cells ⟨cs32⟩ 30 (0, 0))], k32, k31, [(b30, .cells ⟨cs29⟩ 30 (0, 0))], k29, (N18 1), (N18 2), [((pblk (r18 6)), .cells ⟨(tcel (r18 2))⟩ 30 (0, 0))], (N7 1), (N7 2), [((pblk (r7 6)), .cells ⟨(tcel (r7 2))⟩ 30 (0, 0))], k6, [(b5, .cells ⟨cs4⟩ 30 (0, 0))], k4, k3, k2, k1]) Sub.refl ?_
    refine JL_sub (M' := [(N40 83), (N40 84)]) (Sd (Sd (Sd (Sd (Sd (Sd (Sd (Sd (Sd (Sd (Sd (Sd (Sd (Sd (Sd (Sd (Sd (Sd (Sd (Sd (Sd (Sd (Sd (Sd (Sd (Sd (Sd (Sd (Sd (Sd (Sd (Sd (Sd (Sd (Sd (Sd (Sd (Sd (Sd (Sd (Sd (Sd (Sd (Sd (Sd (Sd (Sd (Sd (Sd (Sd (Sd (Sd (Sd (Sd (Sd (Sd (Sd (Sd (Sd (Sd (Sd (Sd (Sd (Sd (Sd (Sd (Sd (Sd (Sd (Sd (Sd (Sd (Sd (Sd (Sd (Sd (Sd (Sd (Sd (Sd (Sd (Sd (Sd (Sk (Sk Sub.nil))))))))))))))))))))))))))))))))))))))))))))))))))))))))))))))))))))))))))))))))))))) ?_
    show JL _ _ _ [_, _, _, _, _] _ _ _
    refine JL_call rfl Try.call38 rfl (fun hin => ha_ct _ _ _ _ _) rfl ?_
    rintro _ _ ⟨rfl, rfl⟩
    refine JL_call rfl Try.call14 rfl (fun hin => int_r (r := 2) (check_ct (.mk 12 0 zS [eNu (1)] []) 0 0 _ _ (RT_mk.2 ⟨_, _, rfl, (by unfold inI; omega), (by unfold inI; omega), (Own.rd1 p40_84.2.2 (hin 1 _ rfl) (p40_83.2.rd (hin 0 _ rfl))), Hs.rdS.nil⟩)) check_h1) rfl ?_
    rintro _ _ ⟨rfl, rfl⟩
    refine JL_pure (v := .bool (true)) rfl (show Pu _ _ _ (.bool (decide ((2 : Int) = 2))) from Pu.eql rfl rfl) ?_
    refine JL_pure (v := .bool (true)) rfl (Pu.pickT rfl rfl) ?_
    refine JL_pure (v := .bool (true)) rfl (Pu.assign rfl) ?_
    refine JL_nil ?_
    refine J_ret ?_
    refine ⟨.bool (true), [], Ret.one rfl (RV.tmp rfl), Sub.nil, ?_⟩
    exact ⟨rfl, rfl⟩
end Go.Proofs.Ytmdifonjepggcaa.Hs
