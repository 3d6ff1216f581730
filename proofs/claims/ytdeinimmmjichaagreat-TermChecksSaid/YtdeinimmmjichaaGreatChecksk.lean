import Derived.Test.YtdeinimmmjichaaGreatChecksj
/-! Walks, printed by a program of this session's own (gen.py). -/
namespace Go.Proofs.YtdeinimmmjichaaGreat.Hs
open Go Go.Proofs
set_option maxRecDepth 100000
set_option linter.unusedVariables false
set_option linter.unusedSimpArgs false
attribute [local irreducible] JL J CT wlo
set_option maxHeartbeats 1000000 in
theorem mapTerm_ct : ∀ (gr : Nat) (frs crs : List Value) (hcallr : ∀ args w, (callFunc gr args).run Tryz.prog w = .ok (.enter gr args) w) (rf : Sm → Sm) (gv : Nat) (fvs cvs : List Value) (hcallv : ∀ args w, (callFunc gv args).run Tryz.prog w = .ok (.enter gv args) w) (σ : Type) (Sc : σ → Chunk) (Inv : σ → Prop) (vf : Int → Int → σ → Tm × σ) (hI : ∀ n b s, Inv s → Inv (vf n b s).2) (t : Tm) (b : Int) (s : σ) (cs : List Value) (H : Heap), RT H cs t → sizeT t ≤ 1000000 → vOK t → 0 ≤ b → b + 2 * sizeT t ≤ 2000000 → Inv s → (∀ s h, Hle H h → CT Tryz.prog gr ⟨frs ++ [.agg ⟨sC s⟩] ++ crs⟩ [] h (fun v N => v = .agg ⟨sC (rf s)⟩ ∧ N = [])) → (∀ (n b : Int) (s : σ) (h : Heap), Hle H h → Inv s → 0 ≤ n → n ≤ 2000000 → 0 ≤ b → b ≤ 2000000 → CT Tryz.prog gv ⟨fvs ++ [.int .i64 n, .int .i64 b] ++ cvs⟩ [Sc s] h (fun v N => ∃ cs k, v = .agg ⟨cs⟩ ∧ N = [k, Sc (vf n b s).2] ∧ OT (vf n b s).1 cs k)) → CT Tryz.prog 81 ⟨[.agg ⟨[.func (.func gv) ⟨fvs⟩ ⟨cvs⟩, .func (.func gr) ⟨frs⟩ ⟨crs⟩]⟩, .agg ⟨cs⟩, .int .i64 b]⟩ [Sc s] H (fun v N => ∃ cs k, v = .agg ⟨cs⟩ ∧ N = [k, Sc (mapT rf vf b t s).2] ∧ OT (mapT rf vf b t s).1 cs k) := by
 intro gr frs crs hcallr rf gv fvs cvs hcallv σ Sc Inv vf hI t
 induction t using Tm.ind with
 | h kind num ref kids cases ih ih' =>
 intro b s cs H ht hz hv hb0 hb hs hgr hgv
 rw [sizeT] at hz hb
 rw [vOK] at hv
 have hv1 : ¬ kind = 1 ∨ (0 ≤ num ∧ num ≤ 2000000) := by by_cases h : kind = 1; exact .inr (hv.1 h); exact .inl h
 have hlk := len_sizeTs kids
 have hlc := len_sizeCs cases
 obtain ⟨ks, cv, rfl, hk, hn, hks, hcv⟩ := RT_mk.1 ht
 have hn1 : -9223372036854775808 ≤ num := hn.1
 have hn2 : num ≤ 9223372036854775807 := hn.2
 refine CT_enter Tryz.func81 rfl rfl ?_
 refine J_seq ?_
 refine J_region ?_
 refine JL_run rfl (Runs_box (l := [.func (.func gv) ⟨fvs⟩ ⟨cvs⟩, .func (.func gr) ⟨frs⟩ ⟨crs⟩]) rfl rfl fun b1 => ?_)
 refine JL_run rfl (Runs_box (l := pkT (kind) (num) (ref) (ks) (cv)) rfl rfl fun b2 => ?_)
 refine JL_run rfl (Runs_alloc (l := pkT (0) (0) (zS) (.slice none 0 0) (.slice none 0 0)) Tryz.zeroValue27 rfl fun b3 => ?_)
 refine JL_nil ?_
 refine J_seq ?_
 refine J_cut (fun ρ M => ρ 2 = .int .i64 (b) ∧ ρ 3 = .pointer (some ⟨b1, 0, none⟩) ∧ ρ 4 = .pointer (some ⟨b2, 0, none⟩) ∧ ρ 6 = .pointer (some ⟨b3, 0, none⟩) ∧ ρ 20 = .bool ((decide (kind = 1)) && (decide (b ≤ num))) ∧ M = [[(b3, .cells ⟨pkT (0) (0) (zS) (.slice none 0 0) (.slice none 0 0)⟩ 27 (0, 0))], [(b2, .cells ⟨pkT (kind) (num) (ref) (ks) (cv)⟩ 27 (0, 0))], [(b1, .cells ⟨[.func (.func gv) ⟨fvs⟩ ⟨cvs⟩, .func (.func gr) ⟨frs⟩ ⟨crs⟩]⟩ 118 (0, 0))], Sc s]) ?_ ?_
 ·refine J_region ?_
  refine JL_pure (v := .pointer (some ⟨b2, 0, none⟩)) rfl (fa27_0 rfl rfl) ?_
  refine JL_run rfl (Pu_load1 ty3 rfl (At.bx 1 rfl) (pkT_0 ..) ?_)
  refine JL_pure (v := .bool (decide (kind = 1))) rfl (Pu.eql rfl rfl) ?_
  refine JL_pure (v := .bool (decide (kind = 1))) rfl (Pu.move rfl) ?_
  cases h4 : (decide (kind = 1)) with
  | true =>
   replace h4 := dt h4
   refine JL_pure (v := .pointer (some ⟨b2, 1, none⟩)) rfl (fa27_1 rfl rfl) ?_
   refine JL_run rfl (Pu_load1 ty3 rfl (At.bx 1 rfl) (pkT_1 ..) ?_)
   refine JL_pure (v := .int .i64 (b)) rfl (Pu.move rfl) ?_
   refine JL_pure (v := .bool (decide (b ≤ num))) rfl (Pu.geq rfl rfl) ?_
   refine JL_pure (v := .bool (decide (b ≤ num))) rfl (Pu.pickT rfl rfl) ?_
   refine JL_nil ?_
   first | exact ⟨rfl, rfl, rfl, rfl, rfl, rfl⟩ | (exfalso; omega)
  | false =>
   replace h4 := df h4
   refine JL_skip rfl ?_
   refine JL_skip rfl ?_
   refine JL_skip rfl ?_
   refine JL_skip rfl ?_
   refine JL_pure (v := .bool (false)) rfl (Pu.pickF rfl rfl) ?_
   refine JL_nil ?_
   first | exact ⟨rfl, rfl, rfl, rfl, rfl, rfl⟩ | (exfalso; omega)
 ·rintro ρ5 _ ⟨e6, e7, e8, e9, e10, rfl⟩
  obtain ⟨ρ11, rfl⟩ := reopen_ex (uc e6 (uc e7 (uc e8 (uc e9 (uc e10 un)))))
  clear e6 e7 e8 e9 e10
  refine J_cond (b := (decide (kind = 1)) && (decide (b ≤ num))) rfl (fun h12 => ?_) (fun h12 => ?_)
  ·skip
   obtain ⟨h12a, h12b⟩ := andT h12
   replace h12a := dt h12a
   replace h12b := dt h12b
   refine J_seq ?_
   refine J_region ?_
   refine JL_pure (v := .pointer (some ⟨b1, 0, none⟩)) rfl (fa118_0 rfl rfl) ?_
   refine JL_run rfl (Pu_load1 ty115 rfl (At.bx 2 rfl) rfl ?_)
   refine JL_pure (v := .pointer (some ⟨b2, 1, none⟩)) rfl (fa27_1 rfl rfl) ?_
   refine JL_run rfl (Pu_load1 ty3 rfl (At.bx 1 rfl) (pkT_1 ..) ?_)
   refine JL_pure (v := .int .i64 (b)) rfl (Pu.move rfl) ?_
   refine JL_pure (v := .int .i64 (num - b)) rfl (Pu.sub64 rfl rfl (by first | omega | (constructor <;> omega))) ?_
   refine JL_pure (v := .int .i64 (b)) rfl (Pu.move rfl) ?_
   refine JL_call1 3 rfl hcallv rfl rfl (fun hin => hgv _ _ _ _ (Hle.hu _ _) hs (by omega) (by omega) (by omega) (by omega)) rfl ?_
   rintro _ _ ⟨cs13, k13, rfl, rfl, hO13⟩
   refine JL_run rfl (Runs_storeB 2 (vs := cs13) (l := cs13) ty27 rfl rfl rfl rfl hO13.len hO13.ok (spl_a (n := 36) rfl hO13.len) ?_)
   refine JL_nil ?_
   refine J_ret ?_
   refine ⟨.agg ⟨cs13⟩, [k13, Sc ((vf (num - b) (b) s).2)], Ret.one rfl (RV.cell ty27 rfl (At.bx 2 rfl) (sub_a hO13.len)), (Sk (Sk Sub.nil)), ?_⟩
   have hx : kind = 1 ∧ b ≤ num := ⟨h12a, h12b⟩
   exact ⟨_, _, rfl, by rw [mapT, if_pos hx], by rw [mapT, if_pos hx]; exact hO13⟩
  ·skip
   refine J_skip ?_
   refine J_seq ?_
   refine J_draw mixed #[0, 1, 0, 4, 0, 16, 0, 64, 240, 511, 0, 2047] 11 11 4 rfl (by kernel_rfl) (fun i r14 N14 => match i with | 0 => (r14 0) = .pointer (some ⟨b2, 0, none⟩) | 1 => (r14 1) = .int .i64 (kind) | 2 => (r14 2) = .pointer (some ⟨b2, 1, none⟩) | 3 => (r14 3) = .int .i64 (num) | 4 => (r14 4) = .pointer (some ⟨b1, 1, none⟩) | 5 => (r14 5) = .func (.func gr) ⟨frs⟩ ⟨crs⟩ | 6 => (r14 6) = .pointer (some ⟨b2, 2, none⟩) | 7 => (r14 7) = .agg ⟨sC (ref)⟩ | 8 => (r14 8) = .agg ⟨sC (rf (ref))⟩ | 9 => (r14 9) = .agg ⟨pkT (kind) (num) (rf (ref)) (.slice none 0 0) (.slice none 0 0)⟩ | 10 => (r14 10) = .pointer (some ⟨(pblk (r14 10)), 0, none⟩) ∧ (N14 10) = [((pblk (r14 10)), .cells ⟨pkT (0) (0) (zS) (.slice none 0 0) (.slice none 0 0)⟩ 27 (0, 0))] | _ => True) ⟨?_, ?_, ?_, ?_, ?_, ?_, ?_, ?_, ?_, ?_, ?_, trivial⟩ ?_
   ·intro ρ r14 N14 B hB hBa hp hr hr0
    have q4 : ρ 4 = .pointer (some ⟨b2, 0, none⟩) := hr0 4 (by kernel_rfl)
    obtain ⟨ρ15, rfl⟩ := reopen_ex (uc q4 un)
    clear q4
    refine JL_pure (v := .pointer (some ⟨b2, 0, none⟩)) rfl (fa27_0 rfl rfl) ?_
    refine JL_nil ?_
    exact ⟨.pointer (some ⟨b2, 0, none⟩), [], rfl, (Sub.emp Sub.refl), rfl⟩
   ·intro ρ r14 N14 B hB hBa hp hr hr0
    have q29 : ρ 29 = .pointer (some ⟨b2, 0, none⟩) := (hr 0 _ _ (by decide) rfl rfl rfl).trans (hp 0 (by decide) rfl)
    obtain ⟨ρ16, rfl⟩ := reopen_ex (uc q29 un)
    clear q29
    refine JL_run rfl (Pu_load1 ty3 rfl (At.bx 12 (made_old ((hB 1 (by decide)).trans rfl))) (pkT_0 ..) ?_)
    refine JL_nil ?_
    exact ⟨.int .i64 (kind), [], rfl, (Sub.emp Sub.refl), rfl⟩
   ·intro ρ r14 N14 B hB hBa hp hr hr0
    have q4 : ρ 4 = .pointer (some ⟨b2, 0, none⟩) := hr0 4 (by kernel_rfl)
    obtain ⟨ρ17, rfl⟩ := reopen_ex (uc q4 un)
    clear q4
    refine JL_pure (v := .pointer (some ⟨b2, 1, none⟩)) rfl (fa27_1 rfl rfl) ?_
    refine JL_nil ?_
    exact ⟨.pointer (some ⟨b2, 1, none⟩), [], rfl, (Sub.emp Sub.refl), rfl⟩
   ·intro ρ r14 N14 B hB hBa hp hr hr0
    have q31 : ρ 31 = .pointer (some ⟨b2, 1, none⟩) := (hr 2 _ _ (by decide) rfl rfl rfl).trans (hp 2 (by decide) rfl)
    obtain ⟨ρ18, rfl⟩ := reopen_ex (uc q31 un)
    clear q31
    refine JL_run rfl (Pu_load1 ty3 rfl (At.bx 12 (made_old ((hB 1 (by decide)).trans rfl))) (pkT_1 ..) ?_)
    refine JL_nil ?_
    exact ⟨.int .i64 (num), [], rfl, (Sub.emp Sub.refl), rfl⟩
   ·intro ρ r14 N14 B hB hBa hp hr hr0
    have q3 : ρ 3 = .pointer (some ⟨b1, 0, none⟩) := hr0 3 (by kernel_rfl)
    obtain ⟨ρ19, rfl⟩ := reopen_ex (uc q3 un)
    clear q3
    refine JL_pure (v := .pointer (some ⟨b1, 1, none⟩)) rfl (fa118_1 rfl rfl) ?_
    refine JL_nil ?_
    exact ⟨.pointer (some ⟨b1, 1, none⟩), [], rfl, (Sub.emp Sub.refl), rfl⟩
   ·intro ρ r14 N14 B hB hBa hp hr hr0
    have q33 : ρ 33 = .pointer (some ⟨b1, 1, none⟩) := (hr 4 _ _ (by decide) rfl rfl rfl).trans (hp 4 (by decide) rfl)
    obtain ⟨ρ20, rfl⟩ := reopen_ex (uc q33 un)
    clear q33
    refine JL_run rfl (Pu_load1 ty116 rfl (At.bx 13 (made_old ((hB 2 (by decide)).trans rfl))) rfl ?_)
    refine JL_nil ?_
    exact ⟨.func (.func gr) ⟨frs⟩ ⟨crs⟩, [], rfl, (Sub.emp Sub.refl), rfl⟩
   ·intro ρ r14 N14 B hB hBa hp hr hr0
    have q4 : ρ 4 = .pointer (some ⟨b2, 0, none⟩) := hr0 4 (by kernel_rfl)
    obtain ⟨ρ21, rfl⟩ := reopen_ex (uc q4 un)
    clear q4
    refine JL_pure (v := .pointer (some ⟨b2, 2, none⟩)) rfl (fa27_2 rfl rfl) ?_
    refine JL_nil ?_
    exact ⟨.pointer (some ⟨b2, 2, none⟩), [], rfl, (Sub.emp Sub.refl), rfl⟩
   ·intro ρ r14 N14 B hB hBa hp hr hr0
    have q35 : ρ 35 = .pointer (some ⟨b2, 2, none⟩) := (hr 6 _ _ (by decide) rfl rfl rfl).trans (hp 6 (by decide) rfl)
    obtain ⟨ρ22, rfl⟩ := reopen_ex (uc q35 un)
    clear q35
    refine JL_run rfl (Pu_load ty23 rfl (At.bx 12 (made_old ((hB 1 (by decide)).trans rfl))) (pkT_2 ..) ?_)
    refine JL_nil ?_
    exact ⟨.agg ⟨sC (ref)⟩, [], rfl, (Sub.emp Sub.refl), rfl⟩
   ·intro ρ r14 N14 B hB hBa hp hr hr0
    have q34 : ρ 34 = .func (.func gr) ⟨frs⟩ ⟨crs⟩ := (hr 5 _ _ (by decide) rfl rfl rfl).trans (hp 5 (by decide) rfl)
    have q36 : ρ 36 = .agg ⟨sC (ref)⟩ := (hr 7 _ _ (by decide) rfl rfl rfl).trans (hp 7 (by decide) rfl)
    obtain ⟨ρ23, rfl⟩ := reopen_ex (uc q34 (uc q36 un))
    clear q34 q36
    refine JL_call rfl hcallr rfl (fun hin => hgr _ _ (Hle.hu _ _)) rfl ?_
    rintro _ _ ⟨rfl, rfl⟩
    refine JL_nil ?_
    exact ⟨.agg ⟨sC (rf (ref))⟩, [], rfl, (Sub.emp Sub.refl), rfl⟩
   ·intro ρ r14 N14 B hB hBa hp hr hr0
    have q30 : ρ 30 = .int .i64 (kind) := (hr 1 _ _ (by decide) rfl rfl rfl).trans (hp 1 (by decide) rfl)
    have q32 : ρ 32 = .int .i64 (num) := (hr 3 _ _ (by decide) rfl rfl rfl).trans (hp 3 (by decide) rfl)
    have q37 : ρ 37 = .agg ⟨sC (rf (ref))⟩ := (hr 8 _ _ (by decide) rfl rfl rfl).trans (hp 8 (by decide) rfl)
    obtain ⟨ρ24, rfl⟩ := reopen_ex (uc q30 (uc q32 (uc q37 un)))
    clear q30 q32 q37
    refine JL_pure (v := .agg ⟨pkT (kind) (num) (rf (ref)) (.slice none 0 0) (.slice none 0 0)⟩) rfl (Pu.build (pv := [(0, .int .i64 (kind)), (1, .int .i64 (num)), (2, .agg ⟨sC (rf (ref))⟩)]) (l := pkT (kind) (num) (rf (ref)) (.slice none 0 0) (.slice none 0 0)) rfl (bld27_0_1_2 _ _ _)) ?_
    refine JL_nil ?_
    exact ⟨.agg ⟨pkT (kind) (num) (rf (ref)) (.slice none 0 0) (.slice none 0 0)⟩, [], rfl, (Sub.emp Sub.refl), rfl⟩
   ·intro ρ r14 N14 B hB hBa hp hr hr0
    refine JL_run rfl (Runs_alloc (l := pkT (0) (0) (zS) (.slice none 0 0) (.slice none 0 0)) Tryz.zeroValue27 rfl fun b25 => ?_)
    refine JL_nil ?_
    exact ⟨.pointer (some ⟨b25, 0, none⟩), [(b25, .cells ⟨pkT (0) (0) (zS) (.slice none 0 0) (.slice none 0 0)⟩ 27 (0, 0))], rfl, Sub.refl, ⟨rfl, rfl⟩⟩
   ·intro ρ r14 N14 hp hr hr0
    have p10 : (r14 10) = .pointer (some ⟨(pblk (r14 10)), 0, none⟩) ∧ (N14 10) = [((pblk (r14 10)), .cells ⟨pkT (0) (0) (zS) (.slice none 0 0) (.slice none 0 0)⟩ 27 (0, 0))] := hp 10 (by decide)
    have q2 : ρ 2 = .int .i64 (b) := hr0 2 (by kernel_rfl)
    have q3 : ρ 3 = .pointer (some ⟨b1, 0, none⟩) := hr0 3 (by kernel_rfl)
    have q4 : ρ 4 = .pointer (some ⟨b2, 0, none⟩) := hr0 4 (by kernel_rfl)
    have q6 : ρ 6 = .pointer (some ⟨b3, 0, none⟩) := hr0 6 (by kernel_rfl)
    have q7 : ρ 7 = .pointer (some ⟨(pblk (r14 10)), 0, none⟩) := (hr 10 _ _ (by decide) rfl rfl).trans p10.1
    have q38 : ρ 38 = .agg ⟨pkT (kind) (num) (rf (ref)) (.slice none 0 0) (.slice none 0 0)⟩ := (hr 9 _ _ (by decide) rfl rfl).trans (hp 9 (by decide))
    obtain ⟨ρ26, rfl⟩ := reopen_ex (uc q2 (uc q3 (uc q4 (uc q6 (uc q7 (uc q38 un))))))
    clear q2 q3 q4 q6 q7 q38
    have p14_10 := p10
    clear hp hr hr0 p10
    refine JL_sub (M' := [(N14 0), (N14 1), (N14 2), (N14 3), (N14 4), (N14 5), (N14 6), (N14 7), (N14 8), (N14 9), (N14 10), [(b3, .cells ⟨pkT (0) (0) (zS) (.slice none 0 0) (.slice none 0 0)⟩ 27 (0, 0))], [(b2, .cells ⟨pkT (kind) (num) (ref) (ks) (cv)⟩ 27 (0, 0))], [(b1, .cells ⟨[.func (.func gv) ⟨fvs⟩ ⟨cvs⟩, .func (.func gr) ⟨frs⟩ ⟨crs⟩]⟩ 118 (0, 0))], Sc s]) Sub.refl ?_
    refine JL_sub (M' := [[((pblk (r14 10)), .cells ⟨pkT (0) (0) (zS) (.slice none 0 0) (.slice none 0 0)⟩ 27 (0, 0))], [(b3, .cells ⟨pkT (0) (0) (zS) (.slice none 0 0) (.slice none 0 0)⟩ 27 (0, 0))], [(b2, .cells ⟨pkT (kind) (num) (ref) (ks) (cv)⟩ 27 (0, 0))], [(b1, .cells ⟨[.func (.func gv) ⟨fvs⟩ ⟨cvs⟩, .func (.func gr) ⟨frs⟩ ⟨crs⟩]⟩ 118 (0, 0))], Sc s]) (Sd (Sd (Sd (Sd (Sd (Sd (Sd (Sd (Sd (Sd (Se p14_10.2 (Sk (Sk (Sk (Sk Sub.nil))))))))))))))) ?_
    show JL _ _ _ [_] _ _ _
    refine JL_run rfl (Runs_storeB 0 (vs := pkT (kind) (num) (rf (ref)) (.slice none 0 0) (.slice none 0 0)) (l := pkT (kind) (num) (rf (ref)) (.slice none 0 0) (.slice none 0 0)) ty27 rfl rfl rfl rfl rfl (pkT_ok rfl rfl) (pkT_s ..) ?_)
    refine JL_nil ?_
    refine J_seq ?_
    refine J_region ?_
    refine JL_pure (v := .pointer (some ⟨b2, 34, none⟩)) rfl (fa27_3 rfl rfl) ?_
    refine JL_run rfl (Pu_load1 ty24 rfl (At.bx 2 rfl) (pkT_34 ..) ?_)
    obtain ⟨a27, cap27, hv27⟩ := hks.sl
    have hle27 := hks.le
    refine JL_pure (v := .int .i64 (((kids).length : Int))) rfl (Pu.lenSl Tryz.runUnderlying24 hv27) ?_
    refine JL_run rfl (Runs_makeO ((kids).length) Tryz.runUnderlying24 el27 rfl rfl rfl rfl (by omega) (by omega) fun v28 k28 ho28 => ?_)
    refine JL_pure (v := .pointer (some ⟨(pblk (r14 10)), 34, none⟩)) rfl (fa27_3 rfl rfl) ?_
    refine JL_run rfl (Runs_storeB 1 (vs := [v28]) (l := pkT (kind) (num) (rf (ref)) (v28) (.slice none 0 0)) ty24 rfl rfl rfl (cells_one ho28.one) rfl (okc_cons ho28.one okc_nil) (pkT_s34 ..) ?_)
    refine JL_nil ?_
    refine J_seq ?_
    refine J_region ?_
    refine JL_pure (v := .pointer (some ⟨(pblk (r14 10)), 34, none⟩)) rfl (fa27_3 rfl rfl) ?_
    refine JL_run rfl (Pu_load1 ty24 rfl (At.bx 1 rfl) (pkT_34 ..) ?_)
    refine JL_pure (v := .pointer (some ⟨b2, 34, none⟩)) rfl (fa27_3 rfl rfl) ?_
    refine JL_run rfl (Pu_load1 ty24 rfl (At.bx 3 rfl) (pkT_34 ..) ?_)
    obtain ⟨es29, he29, hH29, hl29, hok29, hsr29⟩ := kids_src (P := Tryz.prog) hks
    refine JL_run rfl (Runs_copy (i := 0) (n := (kids).length) (m := (kids).length) (es' := es29) Tryz.runUnderlying24 el27 rfl rfl rfl ho28 (fun F w m => hsr29 w _ m) he29 (by simp) hl29 hok29 rfl fun kc29 hc29 => ?_)
    refine JL_nil ?_
    refine J_seq ?_
    refine J_seq ?_
    refine J_region ?_
    refine JL_pure (v := .pointer (some ⟨(pblk (r14 10)), 34, none⟩)) rfl (fa27_3 rfl rfl) ?_
    refine JL_run rfl (Pu_load1 ty24 rfl (At.bx 1 rfl) (pkT_34 ..) ?_)
    obtain ⟨a30, cap30, hv30⟩ := hc29.sl
    rw [he29] at hv30
    refine JL_pure (v := .int .i64 (((kids).length : Int))) rfl (Pu.lenSl Tryz.runUnderlying24 hv30) ?_
    refine JL_pure (v := .int .i64 (0)) rfl (Pu.move rfl) ?_
    refine JL_nil ?_
    refine J_block ?_
    have hneg : ¬ (kind = 1 ∧ b ≤ num) := by intro hh; simp [hh.1, hh.2] at h12
    refine J_loop (fun k ρ M => ∃ (j : Nat) (es : List (List Value)) (k1 k2 : Chunk) (s1 : σ), ρ 2 = .int .i64 (b) ∧ ρ 3 = .pointer (some ⟨b1, 0, none⟩) ∧ ρ 4 = .pointer (some ⟨b2, 0, none⟩) ∧ ρ 6 = .pointer (some ⟨b3, 0, none⟩) ∧ ρ 7 = .pointer (some ⟨(pblk (r14 10)), 0, none⟩) ∧ ρ 50 = v28 ∧ ρ 51 = .int .i64 (((kids).length : Int)) ∧ ρ 52 = .int .i64 ((j : Int)) ∧ Sub [[((pblk (r14 10)), .cells ⟨pkT (kind) (num) (rf (ref)) (v28) (.slice none 0 0)⟩ 27 (0, 0))], k1, k2, Sc s1, [(b3, .cells ⟨pkT (0) (0) (zS) (.slice none 0 0) (.slice none 0 0)⟩ 27 (0, 0))], [(b2, .cells ⟨pkT (kind) (num) (ref) (ks) (cv)⟩ 27 (0, 0))], [(b1, .cells ⟨[.func (.func gv) ⟨fvs⟩ ⟨cvs⟩, .func (.func gr) ⟨frs⟩ ⟨crs⟩]⟩ 118 (0, 0))]] M ∧ j ≤ (kids).length ∧ Own 27 36 v28 es k1 ∧ Half H kids (mapTs rf vf b kind 0 (kids.take j) s).1 j es k2 ∧ Inv s1 ∧ (mapTs rf vf b kind 0 (kids.take j) s).2 = s1 ∧ k = (kids).length - j) _ ⟨0, es29, kc29, [], s, rfl, rfl, rfl, rfl, rfl, rfl, rfl, rfl, (Sub.cons 1 rfl (Sk (Sub.emp (Sub.cons 3 rfl (Sk (Sk (Sk Sub.nil))))))), Nat.zero_le _, hc29, hH29, hs, rfl, rfl⟩ ?_
    rintro _ ρ31 _ ⟨j, es, k1, k2, s1, e32, e33, e34, e35, e36, e37, e38, e39, hm40, hj, ho, hH, hs1, hsq, rfl⟩
    obtain ⟨ρ41, rfl⟩ := reopen_ex (uc e32 (uc e33 (uc e34 (uc e35 (uc e36 (uc e37 (uc e38 (uc e39 un))))))))
    clear e32 e33 e34 e35 e36 e37 e38 e39
    refine J_sub hm40 ?_
    refine J_seq ?_
    refine J_region ?_
    refine JL_pure (v := .bool (decide ((j : Int) < ((kids).length : Int)))) rfl (Pu.lss rfl rfl) ?_
    refine JL_nil ?_
    refine J_seq ?_
    refine J_cond (b := decide ((j : Int) < ((kids).length : Int))) rfl (fun h42 => ?_) (fun h42 => ?_)
    ·skip
     replace h42 := dt h42
     have h42n : j < (kids).length := by omega
     have hz1 := sizeTs_mem _ (List.getElem_mem h42n)
     have hm1 := more_le kind j
     refine J_skip ?_
     refine J_seq ?_
     refine J_block ?_
     refine J_seq ?_
     refine J_region ?_
     refine JL_pure (v := .int .i64 ((j : Int))) rfl (Pu.move rfl) ?_
     obtain ⟨b43, cap43, row43, e43, hv43, hm43, hs43, hE43⟩ := hH.at ho h42n
     refine JL_pure (v := .pointer (some ⟨b43, 0 + j * 36, none⟩)) rfl (Pu.idx j Tryz.runUnderlying24 ty27 hv43 rfl rfl (by rw [hH.1]; exact h42n)) ?_
     refine JL_run rfl (Pu_load ty27 rfl (At.k 1 rfl hm43) hs43 ?_)
     refine JL_run rfl (Runs_alloc (l := pkT (0) (0) (zS) (.slice none 0 0) (.slice none 0 0)) Tryz.zeroValue27 rfl fun b44 => ?_)
     refine JL_pure (v := .int .i64 ((j : Int))) rfl (Pu.assign rfl) ?_
     refine JL_run rfl (Runs_storeB 0 (vs := e43) (l := e43) ty27 rfl rfl rfl rfl (RT_len hE43) (RT_ok hE43) (spl_a (n := 36) rfl (RT_len hE43)) ?_)
     refine JL_nil ?_
     refine J_draw mixed #[0, 1, 0, 0, 0, 0, 0, 64, 0, 448, 992, 2040, 4095, 8191] 12 11 4 rfl (by kernel_rfl) (fun i r45 N45 => match i with | 0 => (r45 0) = .pointer (some ⟨(pblk (r14 10)), 34, none⟩) | 1 => (r45 1) = v28 | 2 => (r45 2) = .int .i64 ((j : Int)) | 3 => (r45 3) = .agg ⟨[.func (.func gv) ⟨fvs⟩ ⟨cvs⟩, .func (.func gr) ⟨frs⟩ ⟨crs⟩]⟩ | 4 => (r45 4) = .agg ⟨e43⟩ | 5 => (r45 5) = .int .i64 (b) | 6 => (r45 6) = .pointer (some ⟨b2, 0, none⟩) | 7 => (r45 7) = .int .i64 (kind) | 8 => (r45 8) = .int .i64 ((j : Int)) | 9 => (r45 9) = .int .i64 (more (kind) ((j : Int))) | 10 => (r45 10) = .int .i64 (b + (more (kind) ((j : Int)))) | 11 => XT ((mapT rf vf (b + (more (kind) ((j : Int)))) ((kids)[j]) s1).1) (r45 11) (N45 11) (Sc ((mapT rf vf (b + (more (kind) ((j : Int)))) ((kids)[j]) s1).2)) | _ => True) ⟨?_, ?_, ?_, ?_, ?_, ?_, ?_, ?_, ?_, ?_, ?_, ?_, trivial⟩ ?_
     ·intro ρ r45 N45 B hB hBa hp hr hr0
      have q7 : ρ 7 = .pointer (some ⟨(pblk (r14 10)), 0, none⟩) := hr0 7 (by kernel_rfl)
      obtain ⟨ρ46, rfl⟩ := reopen_ex (uc q7 un)
      clear q7
      refine JL_pure (v := .pointer (some ⟨(pblk (r14 10)), 34, none⟩)) rfl (fa27_3 rfl rfl) ?_
      refine JL_nil ?_
      exact ⟨.pointer (some ⟨(pblk (r14 10)), 34, none⟩), [], rfl, (Sub.emp Sub.refl), rfl⟩
     ·intro ρ r45 N45 B hB hBa hp hr hr0
      have q57 : ρ 57 = .pointer (some ⟨(pblk (r14 10)), 34, none⟩) := (hr 0 _ _ (by decide) rfl rfl rfl).trans (hp 0 (by decide) rfl)
      obtain ⟨ρ47, rfl⟩ := reopen_ex (uc q57 un)
      clear q57
      refine JL_run rfl (Pu_load1 ty24 rfl (At.bx 13 (made_old ((hB 1 (by decide)).trans rfl))) (pkT_34 ..) ?_)
      refine JL_nil ?_
      exact ⟨v28, [], rfl, (Sub.emp Sub.refl), rfl⟩
     ·intro ρ r45 N45 B hB hBa hp hr hr0
      have q8 : ρ 8 = .int .i64 ((j : Int)) := hr0 8 (by kernel_rfl)
      obtain ⟨ρ48, rfl⟩ := reopen_ex (uc q8 un)
      clear q8
      refine JL_pure (v := .int .i64 ((j : Int))) rfl (Pu.move rfl) ?_
      refine JL_nil ?_
      exact ⟨.int .i64 ((j : Int)), [], rfl, (Sub.emp Sub.refl), rfl⟩
     ·intro ρ r45 N45 B hB hBa hp hr hr0
      have q3 : ρ 3 = .pointer (some ⟨b1, 0, none⟩) := hr0 3 (by kernel_rfl)
      obtain ⟨ρ49, rfl⟩ := reopen_ex (uc q3 un)
      clear q3
      refine JL_run rfl (Pu_load ty118 rfl (At.bx 19 (made_old ((hB 7 (by decide)).trans rfl))) rfl ?_)
      refine JL_nil ?_
      exact ⟨.agg ⟨[.func (.func gv) ⟨fvs⟩ ⟨cvs⟩, .func (.func gr) ⟨frs⟩ ⟨crs⟩]⟩, [], rfl, (Sub.emp Sub.refl), rfl⟩
     ·intro ρ r45 N45 B hB hBa hp hr hr0
      have q9 : ρ 9 = .pointer (some ⟨b44, 0, none⟩) := hr0 9 (by kernel_rfl)
      obtain ⟨ρ50, rfl⟩ := reopen_ex (uc q9 un)
      clear q9
      refine JL_run rfl (Pu_load ty27 rfl (At.bx 12 (made_old ((hB 0 (by decide)).trans rfl))) (sub_a (RT_len hE43)) ?_)
      refine JL_nil ?_
      exact ⟨.agg ⟨e43⟩, [], rfl, (Sub.emp Sub.refl), rfl⟩
     ·intro ρ r45 N45 B hB hBa hp hr hr0
      have q2 : ρ 2 = .int .i64 (b) := hr0 2 (by kernel_rfl)
      obtain ⟨ρ51, rfl⟩ := reopen_ex (uc q2 un)
      clear q2
      refine JL_pure (v := .int .i64 (b)) rfl (Pu.move rfl) ?_
      refine JL_nil ?_
      exact ⟨.int .i64 (b), [], rfl, (Sub.emp Sub.refl), rfl⟩
     ·intro ρ r45 N45 B hB hBa hp hr hr0
      have q4 : ρ 4 = .pointer (some ⟨b2, 0, none⟩) := hr0 4 (by kernel_rfl)
      obtain ⟨ρ52, rfl⟩ := reopen_ex (uc q4 un)
      clear q4
      refine JL_pure (v := .pointer (some ⟨b2, 0, none⟩)) rfl (fa27_0 rfl rfl) ?_
      refine JL_nil ?_
      exact ⟨.pointer (some ⟨b2, 0, none⟩), [], rfl, (Sub.emp Sub.refl), rfl⟩
     ·intro ρ r45 N45 B hB hBa hp hr hr0
      have q63 : ρ 63 = .pointer (some ⟨b2, 0, none⟩) := (hr 6 _ _ (by decide) rfl rfl rfl).trans (hp 6 (by decide) rfl)
      obtain ⟨ρ53, rfl⟩ := reopen_ex (uc q63 un)
      clear q63
      refine JL_run rfl (Pu_load1 ty3 rfl (At.bx 18 (made_old ((hB 6 (by decide)).trans rfl))) (pkT_0 ..) ?_)
      refine JL_nil ?_
      exact ⟨.int .i64 (kind), [], rfl, (Sub.emp Sub.refl), rfl⟩
     ·intro ρ r45 N45 B hB hBa hp hr hr0
      have q8 : ρ 8 = .int .i64 ((j : Int)) := hr0 8 (by kernel_rfl)
      obtain ⟨ρ54, rfl⟩ := reopen_ex (uc q8 un)
      clear q8
      refine JL_pure (v := .int .i64 ((j : Int))) rfl (Pu.move rfl) ?_
      refine JL_nil ?_
      exact ⟨.int .i64 ((j : Int)), [], rfl, (Sub.emp Sub.refl), rfl⟩
     ·intro ρ r45 N45 B hB hBa hp hr hr0
      have q64 : ρ 64 = .int .i64 (kind) := (hr 7 _ _ (by decide) rfl rfl rfl).trans (hp 7 (by decide) rfl)
      have q65 : ρ 65 = .int .i64 ((j : Int)) := (hr 8 _ _ (by decide) rfl rfl rfl).trans (hp 8 (by decide) rfl)
      obtain ⟨ρ55, rfl⟩ := reopen_ex (uc q64 (uc q65 un))
      clear q64 q65
      refine JL_call rfl Tryz.call101 rfl (fun hin => more_ct _ _ _) rfl ?_
      rintro _ _ ⟨rfl, rfl⟩
      refine JL_nil ?_
      exact ⟨.int .i64 (more (kind) ((j : Int))), [], rfl, (Sub.emp Sub.refl), rfl⟩
     ·intro ρ r45 N45 B hB hBa hp hr hr0
      have q62 : ρ 62 = .int .i64 (b) := (hr 5 _ _ (by decide) rfl rfl rfl).trans (hp 5 (by decide) rfl)
      have q66 : ρ 66 = .int .i64 (more (kind) ((j : Int))) := (hr 9 _ _ (by decide) rfl rfl rfl).trans (hp 9 (by decide) rfl)
      obtain ⟨ρ56, rfl⟩ := reopen_ex (uc q62 (uc q66 un))
      clear q62 q66
      refine JL_pure (v := .int .i64 (b + (more (kind) ((j : Int))))) rfl (Pu.add64 rfl rfl (by first | omega | (constructor <;> omega))) ?_
      refine JL_nil ?_
      exact ⟨.int .i64 (b + (more (kind) ((j : Int)))), [], rfl, (Sub.emp Sub.refl), rfl⟩
     ·intro ρ r45 N45 B hB hBa hp hr hr0
      have q60 : ρ 60 = .agg ⟨[.func (.func gv) ⟨fvs⟩ ⟨cvs⟩, .func (.func gr) ⟨frs⟩ ⟨crs⟩]⟩ := (hr 3 _ _ (by decide) rfl rfl rfl).trans (hp 3 (by decide) rfl)
      have q61 : ρ 61 = .agg ⟨e43⟩ := (hr 4 _ _ (by decide) rfl rfl rfl).trans (hp 4 (by decide) rfl)
      have q67 : ρ 67 = .int .i64 (b + (more (kind) ((j : Int)))) := (hr 10 _ _ (by decide) rfl rfl rfl).trans (hp 10 (by decide) rfl)
      obtain ⟨ρ57, rfl⟩ := reopen_ex (uc q60 (uc q61 (uc q67 un)))
      clear q60 q61 q67
      obtain rfl := hBa rfl
      refine JL_sub (M' := [(N45 0), (N45 1), (N45 2), (N45 3), (N45 4), (N45 5), (N45 6), (N45 7), (N45 8), (N45 9), (N45 10), [], [(b44, .cells ⟨e43⟩ 27 (0, 0))], [((pblk (r14 10)), .cells ⟨pkT (kind) (num) (rf (ref)) (v28) (.slice none 0 0)⟩ 27 (0, 0))], k1, k2, Sc s1, [(b3, .cells ⟨pkT (0) (0) (zS) (.slice none 0 0) (.slice none 0 0)⟩ 27 (0, 0))], [(b2, .cells ⟨pkT (kind) (num) (ref) (ks) (cv)⟩ 27 (0, 0))], [(b1, .cells ⟨[.func (.func gv) ⟨fvs⟩ ⟨cvs⟩, .func (.func gr) ⟨frs⟩ ⟨crs⟩]⟩ 118 (0, 0))]]) Sub.refl ?_
      refine JL_call1 16 rfl Tryz.call81 rfl rfl (fun hin => ih _ (List.getElem_mem h42n) _ _ _ _ (RT.mono (Hle.hu _ _) hE43) (by omega) (vOKs_mem hv.2.1 _ (List.getElem_mem h42n)) (by omega) (by omega) hs1 (fun s h hh => hgr s h (Hle.trans (Hle.hu _ _) hh)) (fun n b s h hh => hgv n b s h (Hle.trans (Hle.hu _ _) hh))) rfl ?_
      rintro _ _ ⟨cs58, k58, rfl, rfl, hO58⟩
      refine JL_nil ?_
      exact ⟨.agg ⟨cs58⟩, (k58) ++ (Sc ((mapT rf vf (b + (more (kind) ((j : Int)))) ((kids)[j]) s1).2)), rfl, (Sub_setX (p := 4) rfl), ⟨k58, rfl, rfl, hO58⟩⟩
     ·intro ρ r45 N45 hp hr hr0
      have p11 : XT ((mapT rf vf (b + (more (kind) ((j : Int)))) ((kids)[j]) s1).1) (r45 11) (N45 11) (Sc ((mapT rf vf (b + (more (kind) ((j : Int)))) ((kids)[j]) s1).2)) := hp 11 (by decide)
      have q2 : ρ 2 = .int .i64 (b) := hr0 2 (by kernel_rfl)
      have q3 : ρ 3 = .pointer (some ⟨b1, 0, none⟩) := hr0 3 (by kernel_rfl)
      have q4 : ρ 4 = .pointer (some ⟨b2, 0, none⟩) := hr0 4 (by kernel_rfl)
      have q6 : ρ 6 = .pointer (some ⟨b3, 0, none⟩) := hr0 6 (by kernel_rfl)
      have q7 : ρ 7 = .pointer (some ⟨(pblk (r14 10)), 0, none⟩) := hr0 7 (by kernel_rfl)
      have q50 : ρ 50 = v28 := hr0 50 (by kernel_rfl)
      have q51 : ρ 51 = .int .i64 (((kids).length : Int)) := hr0 51 (by kernel_rfl)
      have q52 : ρ 52 = .int .i64 ((j : Int)) := hr0 52 (by kernel_rfl)
      have q58 : ρ 58 = v28 := (hr 1 _ _ (by decide) rfl rfl).trans (hp 1 (by decide))
      have q59 : ρ 59 = .int .i64 ((j : Int)) := (hr 2 _ _ (by decide) rfl rfl).trans (hp 2 (by decide))
      have q68 : ρ 68 = .agg ⟨(cel (r45 11))⟩ := (hr 11 _ _ (by decide) rfl rfl).trans p11.v
      obtain ⟨ρ59, rfl⟩ := reopen_ex (uc q2 (uc q3 (uc q4 (uc q6 (uc q7 (uc q50 (uc q51 (uc q52 (uc q58 (uc q59 (uc q68 un)))))))))))
      clear q2 q3 q4 q6 q7 q50 q51 q52 q58 q59 q68
      have p45_11 := p11
      clear hp hr hr0 p11
      obtain ⟨kT45, hv45, hN45, hO45⟩ := id p45_11
      refine JL_sub (M' := [(N45 0), (N45 1), (N45 2), (N45 3), (N45 4), (N45 5), (N45 6), (N45 7), (N45 8), (N45 9), (N45 10), [], [(b44, .cells ⟨e43⟩ 27 (0, 0))], [((pblk (r14 10)), .cells ⟨pkT (kind) (num) (rf (ref)) (v28) (.slice none 0 0)⟩ 27 (0, 0))], k1, k2, (N45 11), [(b3, .cells ⟨pkT (0) (0) (zS) (.slice none 0 0) (.slice none 0 0)⟩ 27 (0, 0))], [(b2, .cells ⟨pkT (kind) (num) (ref) (ks) (cv)⟩ 27 (0, 0))], [(b1, .cells ⟨[.func (.func gv) ⟨fvs⟩ ⟨cvs⟩, .func (.func gr) ⟨frs⟩ ⟨crs⟩]⟩ 118 (0, 0))]]) Sub.refl ?_
      refine JL_sub (M' := [(N45 11), [(b44, .cells ⟨e43⟩ 27 (0, 0))], [((pblk (r14 10)), .cells ⟨pkT (kind) (num) (rf (ref)) (v28) (.slice none 0 0)⟩ 27 (0, 0))], k1, k2, [(b3, .cells ⟨pkT (0) (0) (zS) (.slice none 0 0) (.slice none 0 0)⟩ 27 (0, 0))], [(b2, .cells ⟨pkT (kind) (num) (ref) (ks) (cv)⟩ 27 (0, 0))], [(b1, .cells ⟨[.func (.func gv) ⟨fvs⟩ ⟨cvs⟩, .func (.func gr) ⟨frs⟩ ⟨crs⟩]⟩ 118 (0, 0))]]) (Sd (Sd (Sd (Sd (Sd (Sd (Sd (Sd (Sd (Sd (Sd (Sd (Sub.cons 4 rfl (Sk (Sk (Sk (Sk (Sk (Sk (Sk Sub.nil)))))))))))))))))))) ?_
      refine JL_sub (M' := [kT45, Sc ((mapT rf vf (b + (more (kind) ((j : Int)))) ((kids)[j]) s1).2), [(b44, .cells ⟨e43⟩ 27 (0, 0))], [((pblk (r14 10)), .cells ⟨pkT (kind) (num) (rf (ref)) (v28) (.slice none 0 0)⟩ 27 (0, 0))], k1, k2, [(b3, .cells ⟨pkT (0) (0) (zS) (.slice none 0 0) (.slice none 0 0)⟩ 27 (0, 0))], [(b2, .cells ⟨pkT (kind) (num) (ref) (ks) (cv)⟩ 27 (0, 0))], [(b1, .cells ⟨[.func (.func gv) ⟨fvs⟩ ⟨cvs⟩, .func (.func gr) ⟨frs⟩ ⟨crs⟩]⟩ 118 (0, 0))]]) (Sub.split (Sub.cons 0 (congrArg some hN45) Sub.refl)) ?_
      show JL _ _ _ [_, _] _ _ _
      obtain ⟨b60, cap60, row60, e60, hv60, hm60, hs60, hE60⟩ := hH.at ho h42n
      refine JL_pure (v := .pointer (some ⟨b60, 0 + j * 36, none⟩)) rfl (Pu.idx j Tryz.runUnderlying24 ty27 hv60 rfl rfl (by rw [hH.1]; exact h42n)) ?_
      refine JL_run rfl (Runs_storeOwn (i := 4) (j := j) (b := b60) ty27 rfl ho ⟨_, _, hv60⟩ rfl (by rw [hH.1]; exact h42n) rfl rfl p45_11.len p45_11.ok fun k61 ho61 => ?_)
      refine JL_nil ?_
      refine J_region ?_
      refine JL_pure (v := .int .i64 (((j + 1 : Nat) : Int))) rfl (Pu.inc rfl rfl (by omega)) ?_
      refine JL_pure (v := .int .i64 (((j + 1 : Nat) : Int))) rfl (Pu.move rfl) ?_
      refine JL_nil ?_
      refine ⟨_, ?_, (j + 1), (es.set j ((cel (r45 11)))), (k61), (k2 ++ kT45), ((mapT rf vf (b + (more (kind) ((j : Int)))) ((kids)[j]) s1).2), rfl, rfl, rfl, rfl, rfl, rfl, rfl, rfl, (Sub.cons 3 rfl (Sub.cons 3 rfl (Sub.join (Sub.cons 3 rfl (Sk (Sk (Sd (Sk (Sk (Sk Sub.nil)))))))))), ?_, ?_, ?_, ?_, ?_, rfl⟩
      ·omega
      ·omega
      ·exact ho61
      ·rw [mapTs_take0 rf vf b kind kids j s h42n, hsq]; exact hH.step h42n hO45
      ·exact mapT_inv hI _ _ _ hs1
      ·rw [mapTs_take0 rf vf b kind kids j s h42n, hsq]
    ·skip
     replace h42 := df h42
     have h42n : (kids).length ≤ j := by omega
     refine J_exit _ rfl ?_
     refine J_seq ?_
     refine J_seq ?_
     refine J_region ?_
     refine JL_pure (v := .pointer (some ⟨b2, 35, none⟩)) rfl (fa27_4 rfl rfl) ?_
     refine JL_run rfl (Pu_load1 ty25 rfl (At.bx 5 rfl) (pkT_35 ..) ?_)
     obtain ⟨a62, cap62, hv62⟩ := hcv.sl
     have hle62 := hcv.le
     refine JL_pure (v := .int .i64 (((cases).length : Int))) rfl (Pu.lenSl Tryz.runUnderlying25 hv62) ?_
     refine JL_pure (v := .int .i64 (0)) rfl (Pu.move rfl) ?_
     refine JL_nil ?_
     refine J_block ?_
     have hjk := h42n
     rw [List.take_of_length_le hjk] at hsq hH
     refine J_loop (fun k ρ M => ∃ (j : Nat) (w : Value) (es2 : List (List Value)) (k3 k4 : Chunk) (s2 : σ), ρ 2 = .int .i64 (b) ∧ ρ 3 = .pointer (some ⟨b1, 0, none⟩) ∧ ρ 6 = .pointer (some ⟨b3, 0, none⟩) ∧ ρ 7 = .pointer (some ⟨(pblk (r14 10)), 0, none⟩) ∧ ρ 72 = cv ∧ ρ 73 = .int .i64 (((cases).length : Int)) ∧ ρ 74 = .int .i64 ((j : Int)) ∧ Sub [[((pblk (r14 10)), .cells ⟨pkT (kind) (num) (rf (ref)) (v28) (w)⟩ 27 (0, 0))], k3, k4, Sc s2, k1, k2, [(b3, .cells ⟨pkT (0) (0) (zS) (.slice none 0 0) (.slice none 0 0)⟩ 27 (0, 0))], [(b2, .cells ⟨pkT (kind) (num) (ref) (ks) (cv)⟩ 27 (0, 0))], [(b1, .cells ⟨[.func (.func gv) ⟨fvs⟩ ⟨cvs⟩, .func (.func gr) ⟨frs⟩ ⟨crs⟩]⟩ 118 (0, 0))]] M ∧ j ≤ (cases).length ∧ Own 34 71 w es2 k3 ∧ OCs (mapCs rf vf b (cases.take j) s1).1 es2 k4 ∧ Inv s2 ∧ (mapCs rf vf b (cases.take j) s1).2 = s2 ∧ k = (cases).length - j) _ ⟨0, (.slice none 0 0), [], [], [], s1, rfl, rfl, rfl, rfl, rfl, rfl, rfl, (Sk (Sub.emp (Sub.emp (Sub.cons 2 rfl (Sk (Sk (Sk (Sk (Sk Sub.nil))))))))), Nat.zero_le _, Own.nil, OCs.nil, hs1, rfl, rfl⟩ ?_
     rintro _ ρ63 _ ⟨j, w, es2, k3, k4, s2, e64, e65, e66, e67, e68, e69, e70, hm71, hj, how, hopw, hs2, hsq2, rfl⟩
     obtain ⟨ρ72, rfl⟩ := reopen_ex (uc e64 (uc e65 (uc e66 (uc e67 (uc e68 (uc e69 (uc e70 un)))))))
     clear e64 e65 e66 e67 e68 e69 e70
     refine J_sub hm71 ?_
     refine J_seq ?_
     refine J_region ?_
     refine JL_pure (v := .bool (decide ((j : Int) < ((cases).length : Int)))) rfl (Pu.lss rfl rfl) ?_
     refine JL_nil ?_
     refine J_seq ?_
     refine J_cond (b := decide ((j : Int) < ((cases).length : Int))) rfl (fun h73 => ?_) (fun h73 => ?_)
     ·skip
      replace h73 := dt h73
      have h73n : j < (cases).length := by omega
      have helw := OCs_len hopw
      rw [mapCs_len, List.length_take] at helw
      have hz1 := sizeCs_mem _ (List.getElem_mem h73n)
      have hm1 := binds_le (cases[j]).1
      refine J_skip ?_
      refine J_seq ?_
      refine J_block ?_
      refine J_seq ?_
      refine J_region ?_
      obtain ⟨b74, o74, cap74, row74, T74, fr74, cs74, hv74, hb74, hs74, hE74⟩ := hcv.get j (by first | assumption | omega | decide | simp)
      obtain ⟨ca74, cb74, rfl, hA74, hB74⟩ := hE74
      refine JL_pure (v := .pointer (some ⟨b74, o74 + j * 71, none⟩)) rfl (Pu.idx j Tryz.runUnderlying25 ty34 hv74 rfl rfl (by first | assumption | omega | decide | simp)) ?_
      refine JL_run rfl (Pu_load ty34 rfl (At.im hb74) hs74 ?_)
      refine JL_run rfl (Runs_alloc (l := (pkP (0) (0) (zS) (.slice none 0 0)) ++ (pkT (0) (0) (zS) (.slice none 0 0) (.slice none 0 0))) Tryz.zeroValue34 rfl fun b75 => ?_)
      refine JL_run rfl (Runs_storeB 0 (vs := (ca74) ++ (cb74)) (l := (ca74) ++ (cb74)) ty34 rfl rfl rfl rfl (len_app (RP_len hA74) (RT_len hB74)) (okc_app (RP_ok hA74) (RT_ok hB74)) (spl_a (n := 71) rfl (len_app (RP_len hA74) (RT_len hB74))) ?_)
      refine JL_nil ?_
      refine J_draw mixed #[0, 1, 0, 0, 8, 28, 0, 0, 128, 0, 0, 1024, 3132, 7740, 16380, 32764, 65532, 131071, 262143, 524287] 17 14 4 rfl (by kernel_rfl) (fun i r76 N76 => match i with | 0 => (r76 0) = .pointer (some ⟨(pblk (r14 10)), 35, none⟩) | 1 => (r76 1) = w | 2 => (r76 2) = .agg ⟨[.func (.func gv) ⟨fvs⟩ ⟨cvs⟩, .func (.func gr) ⟨frs⟩ ⟨crs⟩]⟩ | 3 => (r76 3) = .pointer (some ⟨b75, 0, none⟩) | 4 => (r76 4) = .agg ⟨ca74⟩ | 5 => (r76 5) = .agg ⟨(cel (r76 5))⟩ ∧ OP (mapP rf ((cases)[j].1)) (cel (r76 5)) (N76 5) | 6 => (r76 6) = .agg ⟨[.func (.func gv) ⟨fvs⟩ ⟨cvs⟩, .func (.func gr) ⟨frs⟩ ⟨crs⟩]⟩ | 7 => (r76 7) = .pointer (some ⟨b75, 35, none⟩) | 8 => (r76 8) = .agg ⟨cb74⟩ | 9 => (r76 9) = .int .i64 (b) | 10 => (r76 10) = .pointer (some ⟨b75, 0, none⟩) | 11 => (r76 11) = .agg ⟨ca74⟩ | 12 => (r76 12) = .int .i64 ((binds ((cases)[j].1) : Int)) | 13 => (r76 13) = .int .i64 (b + ((binds ((cases)[j].1) : Int))) | 14 => XT ((mapT rf vf (b + ((binds ((cases)[j].1) : Int))) ((cases)[j].2) s2).1) (r76 14) (N76 14) (Sc ((mapT rf vf (b + ((binds ((cases)[j].1) : Int))) ((cases)[j].2) s2).2)) | 15 => (r76 15) = .agg ⟨((cel (r76 5))) ++ ((cel (r76 14)))⟩ | 16 => (r76 16) = .slice (some ⟨(sblk (r76 16)), 0, none⟩) 1 1 ∧ (N76 16) = [(sblk (r76 16), .cells ⟨List.flatten [((cel (r76 5))) ++ ((cel (r76 14)))]⟩ 34 (0, 0))] ∧ Own 34 71 (.slice (some ⟨(sblk (r76 16)), 0, none⟩) 1 1) [((cel (r76 5))) ++ ((cel (r76 14)))] (N76 16) | _ => True) ⟨?_, ?_, ?_, ?_, ?_, ?_, ?_, ?_, ?_, ?_, ?_, ?_, ?_, ?_, ?_, ?_, ?_, trivial⟩ ?_
      ·intro ρ r76 N76 B hB hBa hp hr hr0
       have q7 : ρ 7 = .pointer (some ⟨(pblk (r14 10)), 0, none⟩) := hr0 7 (by kernel_rfl)
       obtain ⟨ρ77, rfl⟩ := reopen_ex (uc q7 un)
       clear q7
       refine JL_pure (v := .pointer (some ⟨(pblk (r14 10)), 35, none⟩)) rfl (fa27_4 rfl rfl) ?_
       refine JL_nil ?_
       exact ⟨.pointer (some ⟨(pblk (r14 10)), 35, none⟩), [], rfl, (Sub.emp Sub.refl), rfl⟩
      ·intro ρ r76 N76 B hB hBa hp hr hr0
       have q78 : ρ 78 = .pointer (some ⟨(pblk (r14 10)), 35, none⟩) := (hr 0 _ _ (by decide) rfl rfl rfl).trans (hp 0 (by decide) rfl)
       obtain ⟨ρ78, rfl⟩ := reopen_ex (uc q78 un)
       clear q78
       refine JL_run rfl (Pu_load1 ty25 rfl (At.bx 18 (made_old ((hB 1 (by decide)).trans rfl))) (pkT_35 ..) ?_)
       refine JL_nil ?_
       exact ⟨w, [], rfl, (Sub.emp Sub.refl), rfl⟩
      ·intro ρ r76 N76 B hB hBa hp hr hr0
       have q3 : ρ 3 = .pointer (some ⟨b1, 0, none⟩) := hr0 3 (by kernel_rfl)
       obtain ⟨ρ79, rfl⟩ := reopen_ex (uc q3 un)
       clear q3
       refine JL_run rfl (Pu_load ty118 rfl (At.bx 26 (made_old ((hB 9 (by decide)).trans rfl))) rfl ?_)
       refine JL_nil ?_
       exact ⟨.agg ⟨[.func (.func gv) ⟨fvs⟩ ⟨cvs⟩, .func (.func gr) ⟨frs⟩ ⟨crs⟩]⟩, [], rfl, (Sub.emp Sub.refl), rfl⟩
      ·intro ρ r76 N76 B hB hBa hp hr hr0
       have q11 : ρ 11 = .pointer (some ⟨b75, 0, none⟩) := hr0 11 (by kernel_rfl)
       obtain ⟨ρ80, rfl⟩ := reopen_ex (uc q11 un)
       clear q11
       refine JL_pure (v := .pointer (some ⟨b75, 0, none⟩)) rfl (fa34_0 rfl rfl) ?_
       refine JL_nil ?_
       exact ⟨.pointer (some ⟨b75, 0, none⟩), [], rfl, (Sub.emp Sub.refl), rfl⟩
      ·intro ρ r76 N76 B hB hBa hp hr hr0
       have q81 : ρ 81 = .pointer (some ⟨b75, 0, none⟩) := (hr 3 _ _ (by decide) rfl rfl rfl).trans (hp 3 (by decide) rfl)
       obtain ⟨ρ81, rfl⟩ := reopen_ex (uc q81 un)
       clear q81
       refine JL_run rfl (Pu_load ty30 rfl (At.bx 17 (made_old ((hB 0 (by decide)).trans rfl))) (sub_l (RP_len hA74)) ?_)
       refine JL_nil ?_
       exact ⟨.agg ⟨ca74⟩, [], rfl, (Sub.emp Sub.refl), rfl⟩
      ·intro ρ r76 N76 B hB hBa hp hr hr0
       have q80 : ρ 80 = .agg ⟨[.func (.func gv) ⟨fvs⟩ ⟨cvs⟩, .func (.func gr) ⟨frs⟩ ⟨crs⟩]⟩ := (hr 2 _ _ (by decide) rfl rfl rfl).trans (hp 2 (by decide) rfl)
       have q82 : ρ 82 = .agg ⟨ca74⟩ := (hr 4 _ _ (by decide) rfl rfl rfl).trans (hp 4 (by decide) rfl)
       obtain ⟨ρ82, rfl⟩ := reopen_ex (uc q80 (uc q82 un))
       clear q80 q82
       refine JL_call rfl Tryz.call103 rfl (fun hin => mapPattern_ct gr frs crs hcallr rf _ rfl _ _ _ (RP.mono (Hle.hu _ _) hA74) (fun s h hh => hgr s h (Hle.trans (Hle.hu _ _) hh)) (by omega)) rfl ?_
       rintro _ _ ⟨cs83, k83, rfl, rfl, hO83⟩
       refine JL_nil ?_
       exact ⟨.agg ⟨cs83⟩, k83, rfl, Sub.refl, ⟨rfl, hO83⟩⟩
      ·intro ρ r76 N76 B hB hBa hp hr hr0
       have q3 : ρ 3 = .pointer (some ⟨b1, 0, none⟩) := hr0 3 (by kernel_rfl)
       obtain ⟨ρ84, rfl⟩ := reopen_ex (uc q3 un)
       clear q3
       refine JL_run rfl (Pu_load ty118 rfl (At.bx 26 (made_old ((hB 9 (by decide)).trans rfl))) rfl ?_)
       refine JL_nil ?_
       exact ⟨.agg ⟨[.func (.func gv) ⟨fvs⟩ ⟨cvs⟩, .func (.func gr) ⟨frs⟩ ⟨crs⟩]⟩, [], rfl, (Sub.emp Sub.refl), rfl⟩
      ·intro ρ r76 N76 B hB hBa hp hr hr0
       have q11 : ρ 11 = .pointer (some ⟨b75, 0, none⟩) := hr0 11 (by kernel_rfl)
       obtain ⟨ρ85, rfl⟩ := reopen_ex (uc q11 un)
       clear q11
       refine JL_pure (v := .pointer (some ⟨b75, 35, none⟩)) rfl (fa34_1 rfl rfl) ?_
       refine JL_nil ?_
       exact ⟨.pointer (some ⟨b75, 35, none⟩), [], rfl, (Sub.emp Sub.refl), rfl⟩
      ·intro ρ r76 N76 B hB hBa hp hr hr0
       have q85 : ρ 85 = .pointer (some ⟨b75, 35, none⟩) := (hr 7 _ _ (by decide) rfl rfl rfl).trans (hp 7 (by decide) rfl)
       obtain ⟨ρ86, rfl⟩ := reopen_ex (uc q85 un)
       clear q85
       refine JL_run rfl (Pu_load ty27 rfl (At.bx 17 (made_old ((hB 0 (by decide)).trans rfl))) (sub_r (RP_len hA74) (RT_len hB74)) ?_)
       refine JL_nil ?_
       exact ⟨.agg ⟨cb74⟩, [], rfl, (Sub.emp Sub.refl), rfl⟩
      ·intro ρ r76 N76 B hB hBa hp hr hr0
       have q2 : ρ 2 = .int .i64 (b) := hr0 2 (by kernel_rfl)
       obtain ⟨ρ87, rfl⟩ := reopen_ex (uc q2 un)
       clear q2
       refine JL_pure (v := .int .i64 (b)) rfl (Pu.move rfl) ?_
       refine JL_nil ?_
       exact ⟨.int .i64 (b), [], rfl, (Sub.emp Sub.refl), rfl⟩
      ·intro ρ r76 N76 B hB hBa hp hr hr0
       have q11 : ρ 11 = .pointer (some ⟨b75, 0, none⟩) := hr0 11 (by kernel_rfl)
       obtain ⟨ρ88, rfl⟩ := reopen_ex (uc q11 un)
       clear q11
       refine JL_pure (v := .pointer (some ⟨b75, 0, none⟩)) rfl (fa34_0 rfl rfl) ?_
       refine JL_nil ?_
       exact ⟨.pointer (some ⟨b75, 0, none⟩), [], rfl, (Sub.emp Sub.refl), rfl⟩
      ·intro ρ r76 N76 B hB hBa hp hr hr0
       have q88 : ρ 88 = .pointer (some ⟨b75, 0, none⟩) := (hr 10 _ _ (by decide) rfl rfl rfl).trans (hp 10 (by decide) rfl)
       obtain ⟨ρ89, rfl⟩ := reopen_ex (uc q88 un)
       clear q88
       refine JL_run rfl (Pu_load ty30 rfl (At.bx 17 (made_old ((hB 0 (by decide)).trans rfl))) (sub_l (RP_len hA74)) ?_)
       refine JL_nil ?_
       exact ⟨.agg ⟨ca74⟩, [], rfl, (Sub.emp Sub.refl), rfl⟩
      ·intro ρ r76 N76 B hB hBa hp hr hr0
       have q89 : ρ 89 = .agg ⟨ca74⟩ := (hr 11 _ _ (by decide) rfl rfl rfl).trans (hp 11 (by decide) rfl)
       obtain ⟨ρ90, rfl⟩ := reopen_ex (uc q89 un)
       clear q89
       refine JL_call rfl Tryz.call53 rfl (fun hin => binds_ct _ _ _ (RP.mono (Hle.hu _ _) hA74) (by omega)) rfl ?_
       rintro _ _ ⟨rfl, rfl⟩
       refine JL_nil ?_
       exact ⟨.int .i64 ((binds ((cases)[j].1) : Int)), [], rfl, (Sub.emp Sub.refl), rfl⟩
      ·intro ρ r76 N76 B hB hBa hp hr hr0
       have q87 : ρ 87 = .int .i64 (b) := (hr 9 _ _ (by decide) rfl rfl rfl).trans (hp 9 (by decide) rfl)
       have q90 : ρ 90 = .int .i64 ((binds ((cases)[j].1) : Int)) := (hr 12 _ _ (by decide) rfl rfl rfl).trans (hp 12 (by decide) rfl)
       obtain ⟨ρ91, rfl⟩ := reopen_ex (uc q87 (uc q90 un))
       clear q87 q90
       refine JL_pure (v := .int .i64 (b + ((binds ((cases)[j].1) : Int)))) rfl (Pu.add64 rfl rfl (by first | omega | (constructor <;> omega))) ?_
       refine JL_nil ?_
       exact ⟨.int .i64 (b + ((binds ((cases)[j].1) : Int))), [], rfl, (Sub.emp Sub.refl), rfl⟩
      ·intro ρ r76 N76 B hB hBa hp hr hr0
       have q84 : ρ 84 = .agg ⟨[.func (.func gv) ⟨fvs⟩ ⟨cvs⟩, .func (.func gr) ⟨frs⟩ ⟨crs⟩]⟩ := (hr 6 _ _ (by decide) rfl rfl rfl).trans (hp 6 (by decide) rfl)
       have q86 : ρ 86 = .agg ⟨cb74⟩ := (hr 8 _ _ (by decide) rfl rfl rfl).trans (hp 8 (by decide) rfl)
       have q91 : ρ 91 = .int .i64 (b + ((binds ((cases)[j].1) : Int))) := (hr 13 _ _ (by decide) rfl rfl rfl).trans (hp 13 (by decide) rfl)
       obtain ⟨ρ92, rfl⟩ := reopen_ex (uc q84 (uc q86 (uc q91 un)))
       clear q84 q86 q91
       obtain rfl := hBa rfl
       refine JL_sub (M' := [(N76 0), (N76 1), (N76 2), (N76 3), (N76 4), (N76 5), (N76 6), (N76 7), (N76 8), (N76 9), (N76 10), (N76 11), (N76 12), (N76 13), [], (N76 15), (N76 16), [(b75, .cells ⟨(ca74) ++ (cb74)⟩ 34 (0, 0))], [((pblk (r14 10)), .cells ⟨pkT (kind) (num) (rf (ref)) (v28) (w)⟩ 27 (0, 0))], k3, k4, Sc s2, k1, k2, [(b3, .cells ⟨pkT (0) (0) (zS) (.slice none 0 0) (.slice none 0 0)⟩ 27 (0, 0))], [(b2, .cells ⟨pkT (kind) (num) (ref) (ks) (cv)⟩ 27 (0, 0))], [(b1, .cells ⟨[.func (.func gv) ⟨fvs⟩ ⟨cvs⟩, .func (.func gr) ⟨frs⟩ ⟨crs⟩]⟩ 118 (0, 0))]]) Sub.refl ?_
       refine JL_call1 21 rfl Tryz.call81 rfl rfl (fun hin => ih' _ (List.getElem_mem h73n) _ _ _ _ (RT.mono (Hle.hu _ _) hB74) (by omega) (vOKc_mem hv.2.2 _ (List.getElem_mem h73n)) (by omega) (by omega) hs2 (fun s h hh => hgr s h (Hle.trans (Hle.hu _ _) hh)) (fun n b s h hh => hgv n b s h (Hle.trans (Hle.hu _ _) hh))) rfl ?_
       rintro _ _ ⟨cs93, k93, rfl, rfl, hO93⟩
       refine JL_nil ?_
       exact ⟨.agg ⟨cs93⟩, (k93) ++ (Sc ((mapT rf vf (b + ((binds ((cases)[j].1) : Int))) ((cases)[j].2) s2).2)), rfl, (Sub_setX (p := 4) rfl), ⟨k93, rfl, rfl, hO93⟩⟩
      ·intro ρ r76 N76 B hB hBa hp hr hr0
       have p5 : (r76 5) = .agg ⟨(cel (r76 5))⟩ ∧ OP (mapP rf ((cases)[j].1)) (cel (r76 5)) (N76 5) := hp 5 (by decide) rfl
       have p14 : XT ((mapT rf vf (b + ((binds ((cases)[j].1) : Int))) ((cases)[j].2) s2).1) (r76 14) (N76 14) (Sc ((mapT rf vf (b + ((binds ((cases)[j].1) : Int))) ((cases)[j].2) s2).2)) := hp 14 (by decide) rfl
       have q83 : ρ 83 = .agg ⟨(cel (r76 5))⟩ := (hr 5 _ _ (by decide) rfl rfl rfl).trans p5.1
       have q92 : ρ 92 = .agg ⟨(cel (r76 14))⟩ := (hr 14 _ _ (by decide) rfl rfl rfl).trans p14.v
       obtain ⟨ρ94, rfl⟩ := reopen_ex (uc q83 (uc q92 un))
       clear q83 q92
       refine JL_pure (v := .agg ⟨((cel (r76 5))) ++ ((cel (r76 14)))⟩) rfl (Pu.build (pv := [(0, .agg ⟨(cel (r76 5))⟩), (1, .agg ⟨(cel (r76 14))⟩)]) (l := ((cel (r76 5))) ++ ((cel (r76 14)))) rfl (bld34_0_1 p5.2.len p14.len)) ?_
       refine JL_nil ?_
       exact ⟨.agg ⟨((cel (r76 5))) ++ ((cel (r76 14)))⟩, [], rfl, (Sub.emp Sub.refl), rfl⟩
      ·intro ρ r76 N76 B hB hBa hp hr hr0
       have p5 : (r76 5) = .agg ⟨(cel (r76 5))⟩ ∧ OP (mapP rf ((cases)[j].1)) (cel (r76 5)) (N76 5) := hp 5 (by decide) rfl
       have p14 : XT ((mapT rf vf (b + ((binds ((cases)[j].1) : Int))) ((cases)[j].2) s2).1) (r76 14) (N76 14) (Sc ((mapT rf vf (b + ((binds ((cases)[j].1) : Int))) ((cases)[j].2) s2).2)) := hp 14 (by decide) rfl
       have q93 : ρ 93 = .agg ⟨((cel (r76 5))) ++ ((cel (r76 14)))⟩ := (hr 15 _ _ (by decide) rfl rfl rfl).trans (hp 15 (by decide) rfl)
       obtain ⟨ρ95, rfl⟩ := reopen_ex (uc q93 un)
       clear q93
       refine JL_run rfl (Runs_buildSlice (vs := [.agg ⟨((cel (r76 5))) ++ ((cel (r76 14)))⟩]) [((cel (r76 5))) ++ ((cel (r76 14)))] Tryz.runUnderlying25 el34 rfl rfl (by intro e he; simp only [List.mem_cons, List.not_mem_nil, or_false] at he; subst he; exact (len_app p5.2.len p14.len)) rfl (by decide) fun b96 k96 ho96 hk96 => ?_)
       refine JL_nil ?_
       exact ⟨.slice (some ⟨b96, 0, none⟩) 1 1, k96, rfl, Sub.refl, ⟨rfl, hk96, ho96⟩⟩
      ·intro ρ r76 N76 hp hr hr0
       have p5 : (r76 5) = .agg ⟨(cel (r76 5))⟩ ∧ OP (mapP rf ((cases)[j].1)) (cel (r76 5)) (N76 5) := hp 5 (by decide)
       have p14 : XT ((mapT rf vf (b + ((binds ((cases)[j].1) : Int))) ((cases)[j].2) s2).1) (r76 14) (N76 14) (Sc ((mapT rf vf (b + ((binds ((cases)[j].1) : Int))) ((cases)[j].2) s2).2)) := hp 14 (by decide)
       have p16 : (r76 16) = .slice (some ⟨(sblk (r76 16)), 0, none⟩) 1 1 ∧ (N76 16) = [(sblk (r76 16), .cells ⟨List.flatten [((cel (r76 5))) ++ ((cel (r76 14)))]⟩ 34 (0, 0))] ∧ Own 34 71 (.slice (some ⟨(sblk (r76 16)), 0, none⟩) 1 1) [((cel (r76 5))) ++ ((cel (r76 14)))] (N76 16) := hp 16 (by decide)
       have q2 : ρ 2 = .int .i64 (b) := hr0 2 (by kernel_rfl)
       have q3 : ρ 3 = .pointer (some ⟨b1, 0, none⟩) := hr0 3 (by kernel_rfl)
       have q6 : ρ 6 = .pointer (some ⟨b3, 0, none⟩) := hr0 6 (by kernel_rfl)
       have q7 : ρ 7 = .pointer (some ⟨(pblk (r14 10)), 0, none⟩) := hr0 7 (by kernel_rfl)
       have q72 : ρ 72 = cv := hr0 72 (by kernel_rfl)
       have q73 : ρ 73 = .int .i64 (((cases).length : Int)) := hr0 73 (by kernel_rfl)
       have q74 : ρ 74 = .int .i64 ((j : Int)) := hr0 74 (by kernel_rfl)
       have q79 : ρ 79 = w := (hr 1 _ _ (by decide) rfl rfl).trans (hp 1 (by decide))
       have q94 : ρ 94 = .slice (some ⟨(sblk (r76 16)), 0, none⟩) 1 1 := (hr 16 _ _ (by decide) rfl rfl).trans p16.1
       obtain ⟨ρ97, rfl⟩ := reopen_ex (uc q2 (uc q3 (uc q6 (uc q7 (uc q72 (uc q73 (uc q74 (uc q79 (uc q94 un)))))))))
       clear q2 q3 q6 q7 q72 q73 q74 q79 q94
       have p76_5 := p5; have p76_14 := p14; have p76_16 := p16
       clear hp hr hr0 p5 p14 p16
       obtain ⟨kT76, hv76, hN76, hO76⟩ := id p76_14
       refine JL_sub (M' := [(N76 0), (N76 1), (N76 2), (N76 3), (N76 4), (N76 5), (N76 6), (N76 7), (N76 8), (N76 9), (N76 10), (N76 11), (N76 12), (N76 13), [], (N76 15), (N76 16), [(b75, .cells ⟨(ca74) ++ (cb74)⟩ 34 (0, 0))], [((pblk (r14 10)), .cells ⟨pkT (kind) (num) (rf (ref)) (v28) (w)⟩ 27 (0, 0))], k3, k4, (N76 14), k1, k2, [(b3, .cells ⟨pkT (0) (0) (zS) (.slice none 0 0) (.slice none 0 0)⟩ 27 (0, 0))], [(b2, .cells ⟨pkT (kind) (num) (ref) (ks) (cv)⟩ 27 (0, 0))], [(b1, .cells ⟨[.func (.func gv) ⟨fvs⟩ ⟨cvs⟩, .func (.func gr) ⟨frs⟩ ⟨crs⟩]⟩ 118 (0, 0))]]) Sub.refl ?_
       refine JL_sub (M' := [(N76 14), (N76 5), (N76 16), [(b75, .cells ⟨(ca74) ++ (cb74)⟩ 34 (0, 0))], [((pblk (r14 10)), .cells ⟨pkT (kind) (num) (rf (ref)) (v28) (w)⟩ 27 (0, 0))], k3, k4, k1, k2, [(b3, .cells ⟨pkT (0) (0) (zS) (.slice none 0 0) (.slice none 0 0)⟩ 27 (0, 0))], [(b2, .cells ⟨pkT (kind) (num) (ref) (ks) (cv)⟩ 27 (0, 0))], [(b1, .cells ⟨[.func (.func gv) ⟨fvs⟩ ⟨cvs⟩, .func (.func gr) ⟨frs⟩ ⟨crs⟩]⟩ 118 (0, 0))]]) (Sd (Sd (Sd (Sd (Sd (Sub.cons 16 rfl (Sk (Sd (Sd (Sd (Sd (Sd (Sd (Sd (Sd (Sd (Sd (Sk (Sk (Sk (Sk (Sk (Sk (Sk (Sk (Sk (Sk Sub.nil))))))))))))))))))))))))))) ?_
       refine JL_sub (M' := [kT76, Sc ((mapT rf vf (b + ((binds ((cases)[j].1) : Int))) ((cases)[j].2) s2).2), (N76 5), (N76 16), [(b75, .cells ⟨(ca74) ++ (cb74)⟩ 34 (0, 0))], [((pblk (r14 10)), .cells ⟨pkT (kind) (num) (rf (ref)) (v28) (w)⟩ 27 (0, 0))], k3, k4, k1, k2, [(b3, .cells ⟨pkT (0) (0) (zS) (.slice none 0 0) (.slice none 0 0)⟩ 27 (0, 0))], [(b2, .cells ⟨pkT (kind) (num) (ref) (ks) (cv)⟩ 27 (0, 0))], [(b1, .cells ⟨[.func (.func gv) ⟨fvs⟩ ⟨cvs⟩, .func (.func gr) ⟨frs⟩ ⟨crs⟩]⟩ 118 (0, 0))]]) (Sub.split (Sub.cons 0 (congrArg some hN76) Sub.refl)) ?_
       show JL _ _ _ [_, _, _] _ _ _
       have hlens98 : ∀ e ∈ ([((cel (r76 5))) ++ ((cel (r76 14)))] : List (List Value)), List.length e = 71 := by
        intro e he; simp only [List.mem_cons, List.not_mem_nil, or_false] at he
        rcases he with rfl
        ·exact (len_app p76_5.2.len p76_14.len)
       have hoks98 : ∀ e ∈ ([((cel (r76 5))) ++ ((cel (r76 14)))] : List (List Value)), okc e := by
        intro e he; simp only [List.mem_cons, List.not_mem_nil, or_false] at he
        rcases he with rfl
        ·exact (okc_app p76_5.2.ok p76_14.ok)
       refine JL_run rfl (Runs_append (i := 6) (n := 1) (es' := [((cel (r76 5))) ++ ((cel (r76 14)))]) Tryz.runUnderlying25 Tryz.runUnderlying25 (Or.inl rfl) el34 rfl rfl rfl how (fun F w m => Src.row (((At.k 3 rfl (by rw [p76_16.2.1]; exact List.mem_cons_self))).heap m) (sub_a (flatten_len hlens98))) rfl hlens98 hoks98 (by decide) (by omega) fun v98 k98 ho98 => ?_)
       refine JL_pure (v := .pointer (some ⟨(pblk (r14 10)), 35, none⟩)) rfl (fa27_4 rfl rfl) ?_
       refine JL_run rfl (Runs_storeB 5 (vs := [v98]) (l := pkT (kind) (num) (rf (ref)) (v28) (v98)) ty25 rfl rfl rfl (cells_one ho98.one) rfl (okc_cons ho98.one okc_nil) (pkT_s35 ..) ?_)
       refine JL_nil ?_
       refine J_region ?_
       refine JL_pure (v := .int .i64 (((j + 1 : Nat) : Int))) rfl (Pu.inc rfl rfl (by omega)) ?_
       refine JL_pure (v := .int .i64 (((j + 1 : Nat) : Int))) rfl (Pu.move rfl) ?_
       refine JL_nil ?_
       refine ⟨_, ?_, (j + 1), (v98), (es2 ++ [((cel (r76 5))) ++ ((cel (r76 14)))]), (k98), ((k4) ++ (((N76 5)) ++ (kT76))), ((mapT rf vf (b + ((binds ((cases)[j].1) : Int))) ((cases)[j].2) s2).2), rfl, rfl, rfl, rfl, rfl, rfl, rfl, (Sub.cons 5 rfl (Sub.cons 5 rfl (Sub.join3 (Sub.cons 5 rfl (Sub.cons 2 rfl (Sk (Sk (Sd (Sd (Sk (Sk (Sk (Sk (Sk Sub.nil)))))))))))))), ?_, ?_, ?_, ?_, ?_, rfl⟩
       ·omega
       ·omega
       ·exact ho98
       ·rw [mapCs_take rf vf b cases j s1 h73n, hsq2]; exact OCs.snoc p76_5.2 hO76 hopw
       ·exact mapT_inv hI _ _ _ hs2
       ·rw [mapCs_take rf vf b cases j s1 h73n, hsq2]
     ·skip
      replace h73 := df h73
      have h73n : (cases).length ≤ j := by omega
      refine J_exit _ rfl ?_
      refine J_seq ?_
      refine J_region ?_
      refine JL_run rfl (Pu_load ty27 rfl (At.bx 0 rfl) (pkT_a ..) ?_)
      refine JL_run rfl (Runs_storeB 6 (vs := pkT (kind) (num) (rf (ref)) (v28) (w)) (l := pkT (kind) (num) (rf (ref)) (v28) (w)) ty27 rfl rfl rfl rfl rfl (pkT_ok ho.one how.one) (pkT_s ..) ?_)
      refine JL_nil ?_
      refine J_ret ?_
      refine ⟨.agg ⟨pkT (kind) (num) (rf (ref)) (v28) (w)⟩, [k1 ++ (k2 ++ (k3 ++ k4)), Sc s2], Ret.one rfl (RV.cell ty27 rfl (At.bx 6 rfl) (pkT_a ..)), (Sub.join4 (Sd (Sub.cons 3 rfl (Sub.cons 3 rfl (Sk (Sk (Sk Sub.nil))))))), ?_⟩
      rw [List.take_of_length_le h73n] at hopw hsq2
      exact ⟨_, _, rfl, by rw [mapT, if_neg hneg, hsq, hsq2], by rw [mapT, if_neg hneg, hsq]; exact OT_mk.2 ⟨_, w, es, es2, k1, k2, k3, k4, rfl, hk, hn, ho, hH.done hjk, how, hopw, rfl, by rw [mapTs_len]; exact hks.le, by rw [mapCs_len]; exact hcv.le⟩⟩
end Go.Proofs.YtdeinimmmjichaaGreat.Hs
/-! Walks, printed by a program of this session's own (gen.py). -/
namespace Go.Proofs.YtdeinimmmjichaaGreat.Hs
open Go Go.Proofs
set_option maxRecDepth 100000
set_option linter.unusedVariables false
set_option linter.unusedSimpArgs false
attribute [local irreducible] JL J CT wlo
theorem idxI_ct (g : Nat) (fs cv : List Value) (hcall : ∀ args w, (callFunc g args).run Tryz.prog w = .ok (.enter g args) w) (pr : Int → Bool) (l : List Int) (v : Value) (H : Heap) (hl : rdS RI 1 H v l) (hg : ∀ x ∈ l, ∀ h, Hle H h → CT Tryz.prog g ⟨fs ++ [.int .i64 x] ++ cv⟩ [] h (fun v N => v = .bool (pr x) ∧ N = [])) : CT Tryz.prog 113 ⟨[v, .func (.func g) ⟨fs⟩ ⟨cv⟩]⟩ [] H (fun v N => v = .int .i64 (fstI pr l 0) ∧ N = []) := by
 refine CT_enter Tryz.func113 rfl rfl ?_
 refine J_seq ?_
 refine J_region ?_
 refine JL_pure (v := .int .i64 (0)) rfl (Pu.assign rfl) ?_
 refine JL_nil ?_
 refine J_seq ?_
 refine J_seq ?_
 refine J_region ?_
 refine JL_pure (v := v) rfl (Pu.move rfl) ?_
 obtain ⟨a1, cap1, hv1⟩ := hl.sl
 have hle1 := hl.le
 refine JL_pure (v := .int .i64 (((l).length : Int))) rfl (Pu.lenSl Tryz.runUnderlying43 hv1) ?_
 refine JL_pure (v := .int .i64 (0)) rfl (Pu.move rfl) ?_
 refine JL_nil ?_
 refine J_block ?_
 refine J_loop (fun k ρ M => ∃ (j : Nat), ρ 0 = v ∧ ρ 1 = .func (.func g) ⟨fs⟩ ⟨cv⟩ ∧ ρ 4 = .int .i64 (0) ∧ ρ 7 = .int .i64 (((l).length : Int)) ∧ ρ 8 = .int .i64 ((j : Int)) ∧ Sub [] M ∧ j ≤ (l).length ∧ fstI pr (l.drop j) j = fstI pr l 0 ∧ k = (l).length - j) _ ⟨0, rfl, rfl, rfl, rfl, rfl, Sub.nil, Nat.zero_le _, rfl, rfl⟩ ?_
 rintro _ ρ2 _ ⟨j, e3, e4, e5, e6, e7, hm8, hj, hinv, rfl⟩
 obtain ⟨ρ9, rfl⟩ := reopen_ex (uc e3 (uc e4 (uc e5 (uc e6 (uc e7 un)))))
 clear e3 e4 e5 e6 e7
 refine J_sub hm8 ?_
 refine J_seq ?_
 refine J_region ?_
 refine JL_pure (v := .bool (decide ((j : Int) < ((l).length : Int)))) rfl (Pu.lss rfl rfl) ?_
 refine JL_nil ?_
 refine J_seq ?_
 refine J_cond (b := decide ((j : Int) < ((l).length : Int))) rfl (fun h10 => ?_) (fun h10 => ?_)
 ·skip
  replace h10 := dt h10
  have h10n : j < (l).length := by omega
  have hlenl := hl.le
  refine J_skip ?_
  refine J_seq ?_
  refine J_block ?_
  refine J_seq ?_
  refine J_region ?_
  refine JL_pure (v := .int .i64 ((j : Int))) rfl (Pu.move rfl) ?_
  refine JL_pure (v := .int .i64 ((j : Int))) rfl (Pu.assign rfl) ?_
  refine JL_nil ?_
  refine J_seq ?_
  refine J_region ?_
  refine JL_pure (v := .func (.func g) ⟨fs⟩ ⟨cv⟩) rfl (Pu.move rfl) ?_
  refine JL_pure (v := v) rfl (Pu.move rfl) ?_
  refine JL_pure (v := .int .i64 ((j : Int))) rfl (Pu.move rfl) ?_
  obtain ⟨b11, o11, cap11, row11, T11, fr11, cs11, hv11, hb11, hs11, hE11⟩ := hl.get j (by first | assumption | omega | decide | simp)
  refine JL_pure (v := .pointer (some ⟨b11, o11 + j * 1, none⟩)) rfl (Pu.idx j Tryz.runUnderlying43 ty3 hv11 rfl rfl (by first | assumption | omega | decide | simp)) ?_
  refine JL_run rfl (Pu_load1 ty3 rfl (At.im hb11) (sub_one ((show cs11 = [Value.int .i64 ((l)[j])] from hE11) ▸ hs11)) ?_)
  refine JL_call rfl hcall rfl (fun hin => hg _ (List.getElem_mem h10n) _ (Hle.hu _ _)) rfl ?_
  rintro _ _ ⟨rfl, rfl⟩
  refine JL_nil ?_
  refine J_cond (b := pr ((l)[j])) rfl (fun h12 => ?_) (fun h12 => ?_)
  ·skip
   refine J_seq ?_
   refine J_region ?_
   refine JL_pure (v := .int .i64 ((j : Int))) rfl (Pu.move rfl) ?_
   refine JL_pure (v := .int .i64 ((j : Int))) rfl (Pu.assign rfl) ?_
   refine JL_nil ?_
   refine J_ret ?_
   refine ⟨.int .i64 ((j : Int)), [], Ret.one rfl (RV.tmp rfl), Sub.nil, ?_⟩
   exact ⟨by rw [← hinv, dropc h10n, fstI, if_pos h12], rfl⟩
  ·skip
   refine J_skip ?_
   refine J_region ?_
   refine JL_pure (v := .int .i64 (((j + 1 : Nat) : Int))) rfl (Pu.inc rfl rfl (by omega)) ?_
   refine JL_pure (v := .int .i64 (((j + 1 : Nat) : Int))) rfl (Pu.move rfl) ?_
   refine JL_nil ?_
   refine ⟨_, ?_, (j + 1), rfl, rfl, rfl, rfl, rfl, Sub.nil, ?_, ?_, rfl⟩
   ·omega
   ·omega
   ·rw [dropc h10n, fstI, if_neg (by simp [h12])] at hinv; exact hinv
 ·skip
  replace h10 := df h10
  have h10n : (l).length ≤ j := by omega
  refine J_exit _ rfl ?_
  refine J_seq ?_
  refine J_region ?_
  refine JL_pure (v := .int .i64 (-1)) rfl (Pu.assign rfl) ?_
  refine JL_nil ?_
  refine J_ret ?_
  refine ⟨.int .i64 (-1), [], Ret.one rfl (RV.tmp rfl), Sub.nil, ?_⟩
  exact ⟨by rw [← hinv, dropn h10n]; rfl, rfl⟩
theorem containsI_ct (g : Nat) (fs cv : List Value) (hcall : ∀ args w, (callFunc g args).run Tryz.prog w = .ok (.enter g args) w) (pr : Int → Bool) (l : List Int) (v : Value) (H : Heap) (hl : rdS RI 1 H v l) (hg : ∀ x ∈ l, ∀ h, Hle H h → CT Tryz.prog g ⟨fs ++ [.int .i64 x] ++ cv⟩ [] h (fun v N => v = .bool (pr x) ∧ N = [])) : CT Tryz.prog 104 ⟨[v, .func (.func g) ⟨fs⟩ ⟨cv⟩]⟩ [] H (fun v N => v = .bool (l.any pr) ∧ N = []) := by
 refine CT_enter Tryz.func104 rfl rfl ?_
 refine J_seq ?_
 refine J_region ?_
 refine JL_pure (v := .bool (false)) rfl (Pu.assign rfl) ?_
 refine JL_nil ?_
 refine J_seq ?_
 refine J_region ?_
 refine JL_pure (v := v) rfl (Pu.move rfl) ?_
 refine JL_pure (v := .func (.func g) ⟨fs⟩ ⟨cv⟩) rfl (Pu.move rfl) ?_
 refine JL_call rfl Tryz.call113 rfl (fun hin => idxI_ct g fs cv hcall pr _ _ _ (RIs.mono (Hle.hu _ _) hl) (fun x hx h hh => hg x hx h (Hle.trans (Hle.hu _ _) hh))) rfl ?_
 rintro _ _ ⟨rfl, rfl⟩
 refine JL_pure (v := .bool (decide (0 ≤ fstI pr l 0))) rfl (Pu.geq rfl rfl) ?_
 refine JL_pure (v := .bool (decide (0 ≤ fstI pr l 0))) rfl (Pu.assign rfl) ?_
 refine JL_nil ?_
 refine J_ret ?_
 refine ⟨.bool (decide (0 ≤ fstI pr l 0)), [], Ret.one rfl (RV.tmp rfl), Sub.nil, ?_⟩
 exact ⟨by rw [← fstI_any pr l 0], rfl⟩
theorem every1_ct (g : Nat) (fs cv : List Value) (hcall : ∀ args w, (callFunc g args).run Tryz.prog w = .ok (.enter g args) w) (pr : Int → Bool) (x : Int) (H : Heap) (bP : Nat) (hP : H bP = some (.cells ⟨[.func (.func g) ⟨fs⟩ ⟨cv⟩]⟩ 121 (0, 0))) (hg : ∀ h, Hle H h → CT Tryz.prog g ⟨fs ++ [.int .i64 x] ++ cv⟩ [] h (fun v N => v = .bool (pr x) ∧ N = [])) : CT Tryz.prog 105 ⟨[.int .i64 (x), .pointer (some ⟨bP, 0, none⟩)]⟩ [] H (fun v N => v = .bool (!pr x) ∧ N = []) := by
 refine CT_enter Tryz.func105 rfl rfl ?_
 refine J_seq ?_
 refine J_region ?_
 refine JL_pure (v := .bool (false)) rfl (Pu.assign rfl) ?_
 refine JL_nil ?_
 refine J_seq ?_
 refine J_region ?_
 refine JL_run rfl (Pu_load1 ty121 rfl (At.im hP) rfl ?_)
 refine JL_pure (v := .int .i64 (x)) rfl (Pu.move rfl) ?_
 refine JL_call rfl hcall rfl (fun hin => hg _ (Hle.hu _ _)) rfl ?_
 rintro _ _ ⟨rfl, rfl⟩
 refine JL_pure (v := .bool (!(pr (x)))) rfl (Pu.not rfl) ?_
 refine JL_pure (v := .bool (!(pr (x)))) rfl (Pu.assign rfl) ?_
 refine JL_nil ?_
 refine J_ret ?_
 refine ⟨.bool (!(pr (x))), [], Ret.one rfl (RV.tmp rfl), Sub.nil, ?_⟩
 exact ⟨rfl, rfl⟩
theorem every_ct (g : Nat) (fs cv : List Value) (hcall : ∀ args w, (callFunc g args).run Tryz.prog w = .ok (.enter g args) w) (pr : Int → Bool) (l : List Int) (v : Value) (H : Heap) (hl : rdS RI 1 H v l) (hg : ∀ x ∈ l, ∀ h, Hle H h → CT Tryz.prog g ⟨fs ++ [.int .i64 x] ++ cv⟩ [] h (fun v N => v = .bool (pr x) ∧ N = [])) : CT Tryz.prog 82 ⟨[v, .func (.func g) ⟨fs⟩ ⟨cv⟩]⟩ [] H (fun v N => v = .bool (l.all pr) ∧ N = []) := by
 refine CT_enter Tryz.func82 rfl rfl ?_
 refine J_seq ?_
 refine J_region ?_
 refine JL_run rfl (Runs_box (l := [.func (.func g) ⟨fs⟩ ⟨cv⟩]) rfl rfl fun b1 => ?_)
 refine JL_pure (v := .bool (false)) rfl (Pu.assign rfl) ?_
 refine JL_nil ?_
 refine J_seq ?_
 refine J_region ?_
 refine JL_pure (v := v) rfl (Pu.move rfl) ?_
 refine JL_pure (v := .func (.func 105) ⟨[]⟩ ⟨[.pointer (some ⟨b1, 0, none⟩)]⟩) rfl (Pu.makeFunc rfl rfl) ?_
 refine JL_call rfl Tryz.call104 rfl (fun hin => containsI_ct 105 [] [.pointer (some ⟨b1, 0, none⟩)] Tryz.call105 (fun x => !pr x) _ _ _ (RIs.mono (Hle.hu _ _) hl) (fun x hx h hh => every1_ct g fs cv hcall pr x h b1 (hh _ _ (hin 0 _ rfl _ _ List.mem_cons_self)) (fun h2 hh2 => hg x hx h2 (Hle.trans (Hle.trans (Hle.hu _ _) hh) hh2)))) rfl ?_
 rintro _ _ ⟨rfl, rfl⟩
 refine JL_pure (v := .bool (!((l).any (fun x => !pr x)))) rfl (Pu.not rfl) ?_
 refine JL_pure (v := .bool (!((l).any (fun x => !pr x)))) rfl (Pu.assign rfl) ?_
 refine JL_nil ?_
 refine J_ret ?_
 refine ⟨.bool (!((l).any (fun x => !pr x))), [], Ret.one rfl (RV.tmp rfl), Sub.nil, ?_⟩
 exact ⟨by simp [List.not_any_eq_all_not], rfl⟩
theorem shiftO_ct (n dy fr : Int) (H : Heap) (bF bD : Nat) (hF : H bF = some (.cells ⟨[.int .i64 fr]⟩ 3 (0, 0))) (hD : H bD = some (.cells ⟨[.int .i64 dy]⟩ 3 (0, 0))) (hn0 : 0 ≤ n) (hn1 : n ≤ 60) (hd0 : -60 ≤ dy) (hd1 : dy ≤ 60) : CT Tryz.prog 83 ⟨[.int .i64 (n), .pointer (some ⟨bF, 0, none⟩), .pointer (some ⟨bD, 0, none⟩)]⟩ [] H (fun v N => v = .bool (mvOk dy fr n) ∧ N = []) := by
 refine CT_enter Tryz.func83 rfl rfl ?_
 refine J_seq ?_
 refine J_region ?_
 refine JL_pure (v := .bool (false)) rfl (Pu.assign rfl) ?_
 refine JL_nil ?_
 refine J_seq ?_
 refine J_region ?_
 refine JL_pure (v := .int .i64 (n)) rfl (Pu.move rfl) ?_
 refine JL_run rfl (Pu_load1 ty3 rfl (At.im hF) rfl ?_)
 refine JL_pure (v := .bool (decide (n < fr))) rfl (Pu.lss rfl rfl) ?_
 refine JL_pure (v := .bool (decide (n < fr))) rfl (Pu.move rfl) ?_
 cases h1 : (decide (n < fr)) with
 | true =>
  replace h1 := dt h1
  refine JL_skip rfl ?_
  refine JL_skip rfl ?_
  refine JL_skip rfl ?_
  refine JL_skip rfl ?_
  refine JL_skip rfl ?_
  refine JL_skip rfl ?_
  refine JL_pure (v := .bool (true)) rfl (Pu.pickT rfl rfl) ?_
  refine JL_pure (v := .bool (true)) rfl (Pu.assign rfl) ?_
  refine JL_nil ?_
  refine J_ret ?_
  refine ⟨.bool (true), [], Ret.one rfl (RV.tmp rfl), Sub.nil, ?_⟩
  exact ⟨by simp only [mvOk]; simp_all <;> omega, rfl⟩
 | false =>
  replace h1 := df h1
  refine JL_pure (v := .int .i64 (n)) rfl (Pu.move rfl) ?_
  refine JL_run rfl (Pu_load1 ty3 rfl (At.im hD) rfl ?_)
  refine JL_pure (v := .int .i64 (n + dy)) rfl (Pu.add64 rfl rfl (by first | omega | (constructor <;> omega))) ?_
  refine JL_run rfl (Pu_load1 ty3 rfl (At.im hF) rfl ?_)
  refine JL_call rfl Tryz.call76 rfl (fun hin => off_ct _ _ _ _) rfl ?_
  rintro _ _ ⟨rfl, rfl⟩
  refine JL_pure (v := .bool (!(decide (n + dy < fr ∨ 59 < n + dy)))) rfl (Pu.not rfl) ?_
  refine JL_pure (v := .bool (!(decide (n + dy < fr ∨ 59 < n + dy)))) rfl (Pu.pickF rfl rfl) ?_
  refine JL_pure (v := .bool (!(decide (n + dy < fr ∨ 59 < n + dy)))) rfl (Pu.assign rfl) ?_
  refine JL_nil ?_
  refine J_ret ?_
  refine ⟨.bool (!(decide (n + dy < fr ∨ 59 < n + dy))), [], Ret.one rfl (RV.tmp rfl), Sub.nil, ?_⟩
  exact ⟨by simp only [mvOk]; simp_all <;> omega, rfl⟩
theorem freeV_ct (n b : Int) (s : List Int) (r : Nat) (H : Heap) (bM : Nat) (hM : H bM = some (.cells ⟨[.map (some r)]⟩ 127 (0, 0))) (hn0 : 0 ≤ n) (hn1 : n ≤ 2000000) (hb0 : 0 ≤ b) (hb1 : b ≤ 2000000) : CT Tryz.prog 91 ⟨[.int .i64 (n), .int .i64 (b), .pointer (some ⟨bM, 0, none⟩)]⟩ [metC r (s)] H (fun v N => ∃ cs k, v = .agg ⟨cs⟩ ∧ N = [k, metC r (metV n b s).2] ∧ OT (metV n b s).1 cs k) := by
 refine CT_enter Tryz.func91 rfl rfl ?_
 refine J_seq ?_
 refine J_region ?_
 refine JL_run rfl (Runs_alloc (l := pkT (0) (0) (zS) (.slice none 0 0) (.slice none 0 0)) Tryz.zeroValue27 rfl fun b1 => ?_)
 refine JL_nil ?_
 refine J_seq ?_
 refine J_region ?_
 refine JL_run rfl (Pu_load1 ty127 rfl (At.im hM) rfl ?_)
 refine JL_pure (v := .int .i64 (n)) rfl (Pu.move rfl) ?_
 refine JL_run rfl (Runs_mapUpdate (i := 1) Tryz.underlying127 Tryz.underlying3 rfl rfl rfl rfl ?_)
 refine JL_nil ?_
 refine J_seq ?_
 refine J_region ?_
 refine JL_pure (v := .int .i64 (n)) rfl (Pu.move rfl) ?_
 refine JL_pure (v := .int .i64 (b)) rfl (Pu.move rfl) ?_
 refine JL_call rfl Tryz.call79 rfl (fun hin => stay_ct _ _ _ (by unfold inI; omega)) rfl ?_
 rintro _ _ ⟨cs2, k2, rfl, rfl, hO2⟩
 refine JL_run rfl (Runs_storeB 1 (vs := cs2) (l := cs2) ty27 rfl rfl rfl rfl hO2.len hO2.ok (spl_a (n := 36) rfl hO2.len) ?_)
 refine JL_nil ?_
 refine J_ret ?_
 refine ⟨.agg ⟨cs2⟩, [k2, metC r (addK (s) (n))], Ret.one rfl (RV.cell ty27 rfl (At.bx 1 rfl) (sub_a hO2.len)), (Sk (Sd (Sk Sub.nil))), ?_⟩
 exact ⟨_, _, rfl, rfl, hO2⟩
theorem freeP_ct (t : Tm) (cs : List Value) (H : Heap) (ht : RT H cs t) (hz : sizeT t ≤ 900000) (hv : vOK t) : CT Tryz.prog 52 ⟨[.agg ⟨cs⟩]⟩ [] H (fun v N => ∃ u k, v = u ∧ N = [k] ∧ Own 3 1 u (ints (freeP t)) k) := by
 refine CT_enter Tryz.func52 rfl rfl ?_
 refine J_seq ?_
 refine J_region ?_
 refine JL_run rfl (Runs_box (l := cs) rfl rfl fun b1 => ?_)
 refine JL_pure (v := .slice none 0 0) rfl (Pu.assign rfl) ?_
 refine JL_nil ?_
 refine J_seq ?_
 refine J_region ?_
 refine JL_run rfl (Runs_makeMap fun r2 => ?_)
 refine JL_run rfl (Runs_alloc (l := [.map none]) Tryz.zeroValue127 rfl fun b3 => ?_)
 refine JL_run rfl (Runs_storeB 0 (vs := [.map (some r2)]) (l := [.map (some r2)]) ty127 rfl rfl rfl rfl rfl (okc_cons rfl okc_nil) rfl ?_)
 refine JL_nil ?_
 refine J_seq ?_
 refine J_region ?_
 refine JL_pure (v := .func (.func 91) ⟨[]⟩ ⟨[.pointer (some ⟨b3, 0, none⟩)]⟩) rfl (Pu.makeFunc rfl rfl) ?_
 refine JL_pure (v := .agg ⟨[.func (.func 91) ⟨[]⟩ ⟨[.pointer (some ⟨b3, 0, none⟩)]⟩, .func (.func 80) ⟨[]⟩ ⟨[]⟩]⟩) rfl (Pu.build (pv := [(0, .func (.func 91) ⟨[]⟩ ⟨[.pointer (some ⟨b3, 0, none⟩)]⟩), (1, .func (.func 80) ⟨[]⟩ ⟨[]⟩)]) (l := [.func (.func 91) ⟨[]⟩ ⟨[.pointer (some ⟨b3, 0, none⟩)]⟩, .func (.func 80) ⟨[]⟩ ⟨[]⟩]) rfl (bld118_0_1 _ _ _ _ _ _)) ?_
 refine JL_run rfl (Pu_load ty27 rfl (At.bx 2 rfl) (sub_a (RT_len ht)) ?_)
 refine JL_call1 1 rfl Tryz.call81 rfl rfl (fun hin => mapTerm_ct 80 [] [] Tryz.call80 (fun s => s) 91 [] [.pointer (some ⟨b3, 0, none⟩)] Tryz.call91 (List Int) (metC r2) (fun _ => True) metV (fun _ _ _ _ => trivial) _ _ _ _ _ (RT.mono (Hle.hu _ _) ht) (by omega) hv (by decide) (by omega) trivial (fun s h hh => same_ct s h) (fun n b s h hh _ h1 h2 h3 h4 => freeV_ct n b s r2 h b3 (hh _ _ (hin 0 _ rfl _ _ List.mem_cons_self)) h1 h2 h3 h4)) rfl ?_
 rintro _ _ ⟨cs4, k4, rfl, rfl, hO4⟩
 refine JL_nil ?_
 refine J_seq ?_
 refine J_region ?_
 refine JL_pure (v := .slice none 0 0) rfl (Pu.assign rfl) ?_
 refine JL_nil ?_
 refine J_seq ?_
 refine J_seq ?_
 refine J_region ?_
 refine JL_pure (v := .int .i64 (0)) rfl (Pu.move rfl) ?_
 refine JL_nil ?_
 refine J_block ?_
 refine J_loop (fun k ρ M => ∃ (j : Nat) (v : Value) (k1 : Chunk), ρ 2 = .slice none 0 0 ∧ ρ 3 = .pointer (some ⟨b3, 0, none⟩) ∧ ρ 4 = v ∧ ρ 11 = .int .i64 ((j : Int)) ∧ Sub [k1, metC r2 (metT (t)), [(b3, .cells ⟨[.map (some r2)]⟩ 127 (0, 0))]] M ∧ j ≤ 60 ∧ Own 3 1 v (ints (upTo (metF (metT t)) j)) k1 ∧ k = 60 - j) _ ⟨0, (.slice none 0 0), [], rfl, rfl, rfl, rfl, (Sub.emp (Sd (Sk (Sk Sub.nil)))), Nat.zero_le _, Own.nil, rfl⟩ ?_
 rintro _ ρ5 _ ⟨j, v, k1, e6, e7, e8, e9, hm10, hj, ho, rfl⟩
 obtain ⟨ρ11, rfl⟩ := reopen_ex (uc e6 (uc e7 (uc e8 (uc e9 un))))
 clear e6 e7 e8 e9
 refine J_sub hm10 ?_
 refine J_seq ?_
 refine J_region ?_
 refine JL_pure (v := .bool (decide ((j : Int) < 60))) rfl (Pu.lss rfl rfl) ?_
 refine JL_nil ?_
 refine J_seq ?_
 refine J_cond (b := decide ((j : Int) < 60)) rfl (fun h12 => ?_) (fun h12 => ?_)
 ·skip
  replace h12 := dt h12
  have h12n : j < 60 := by omega
  have hul := upTo_len (metF (metT t)) j
  have hil := ints_len (upTo (metF (metT t)) j)
  have hge := metF_get (metT t) j h12n
  refine J_skip ?_
  refine J_seq ?_
  refine J_block ?_
  refine J_seq ?_
  refine J_region ?_
  refine JL_pure (v := .int .i64 ((j : Int))) rfl (Pu.move rfl) ?_
  refine JL_pure (v := .int .i64 ((j : Int))) rfl (Pu.assign rfl) ?_
  refine JL_nil ?_
  refine J_seq ?_
  refine J_region ?_
  refine JL_run rfl (Pu_load1 ty127 rfl (At.bx 2 rfl) rfl ?_)
  refine JL_pure (v := .int .i64 ((j : Int))) rfl (Pu.move rfl) ?_
  refine JL_run rfl (Runs_lookup (i := 1) Tryz.underlying127 Tryz.underlying3 Tryz.zeroValue4 rfl rfl rfl ?_)
  refine JL_nil ?_
  refine J_cond (b := decide ((j : Int) ∈ (metT (t)))) rfl (fun h13 => ?_) (fun h13 => ?_)
  ·skip
   replace h13 := dt h13
   refine J_region ?_
   refine JL_pure (v := v) rfl (Pu.move rfl) ?_
   refine JL_pure (v := .int .i64 ((j : Int))) rfl (Pu.move rfl) ?_
   refine JL_run rfl (Runs_buildSlice (vs := [.int .i64 ((j : Int))]) [[.int .i64 ((j : Int))]] Tryz.runUnderlying43 el3 rfl rfl (by intro e he; simp only [List.mem_cons, List.not_mem_nil, or_false] at he; subst he; exact rfl) rfl (by decide) fun b14 k14 ho14 hk14 => ?_)
   have hlens15 : ∀ e ∈ ([[.int .i64 ((j : Int))]] : List (List Value)), List.length e = 1 := by
    intro e he; simp only [List.mem_cons, List.not_mem_nil, or_false] at he
    rcases he with rfl
    ·exact rfl
   have hoks15 : ∀ e ∈ ([[.int .i64 ((j : Int))]] : List (List Value)), okc e := by
    intro e he; simp only [List.mem_cons, List.not_mem_nil, or_false] at he
    rcases he with rfl
    ·exact (okc_cons rfl okc_nil)
   refine JL_run rfl (Runs_append (i := 1) (n := 1) (es' := [[.int .i64 ((j : Int))]]) Tryz.runUnderlying43 Tryz.runUnderlying43 (Or.inl rfl) el3 rfl rfl rfl ho (fun F w m => Src.row (((At.k 0 rfl (by rw [hk14]; exact List.mem_cons_self))).heap m) (sub_a (flatten_len hlens15))) rfl hlens15 hoks15 (by decide) (by omega) fun v15 k15 ho15 => ?_)
   refine JL_pure (v := v15) rfl (Pu.assign rfl) ?_
   refine JL_nil ?_
   refine J_region ?_
   refine JL_pure (v := .int .i64 (((j + 1 : Nat) : Int))) rfl (Pu.inc rfl rfl (by omega)) ?_
   refine JL_pure (v := .int .i64 (((j + 1 : Nat) : Int))) rfl (Pu.move rfl) ?_
   refine JL_nil ?_
   refine ⟨_, ?_, (j + 1), (v15), (k15), rfl, rfl, rfl, rfl, (Sd (Sk (Sk (Sk Sub.nil)))), ?_, ?_, rfl⟩
   ·omega
   ·omega
   ·rw [upTo_succ, hge, if_pos (by simp [h13]), ints_snoc]; exact ho15
  ·skip
   replace h13 := df h13
   refine J_skip ?_
   refine J_region ?_
   refine JL_pure (v := .int .i64 (((j + 1 : Nat) : Int))) rfl (Pu.inc rfl rfl (by omega)) ?_
   refine JL_pure (v := .int .i64 (((j + 1 : Nat) : Int))) rfl (Pu.move rfl) ?_
   refine JL_nil ?_
   refine ⟨_, ?_, (j + 1), (v), (k1), rfl, rfl, rfl, rfl, (Sk (Sk (Sk Sub.nil))), ?_, ?_, rfl⟩
   ·omega
   ·omega
   ·rw [upTo_succ, hge, if_neg (by simp [h13])]; exact ho
 ·skip
  replace h12 := df h12
  have h12n : 60 ≤ j := by omega
  refine J_exit _ rfl ?_
  refine J_seq ?_
  refine J_region ?_
  refine JL_pure (v := v) rfl (Pu.move rfl) ?_
  refine JL_pure (v := v) rfl (Pu.assign rfl) ?_
  refine JL_nil ?_
  refine J_ret ?_
  refine ⟨v, [k1], Ret.one rfl (RV.tmp rfl), (Sk Sub.nil), ?_⟩
  obtain rfl : j = 60 := by omega
  exact ⟨v, k1, rfl, rfl, ho⟩
end Go.Proofs.YtdeinimmmjichaaGreat.Hs
/-! The mapper without a state. -/
namespace Go.Proofs.YtdeinimmmjichaaGreat.Hs
open Go Go.Proofs
set_option maxRecDepth 100000

theorem CT.nils {P : Program} {f : FuncId} {a : Array Value} {H : Heap} {t : Tm} (h : CT P f a [] H (fun v N => ∃ cs k, v = .agg ⟨cs⟩ ∧ N = [k] ∧ OT t cs k)) :
    CT P f a [[]] H (fun v N => ∃ cs k, v = .agg ⟨cs⟩ ∧ N = [k, []] ∧ OT t cs k) := fun F w m => by
  refine (h F w (by simpa using m)).mono ?_
  rintro e w' ⟨v, N, h1, h2, cs, k, h3, h4, h5⟩
  subst h4
  exact ⟨v, [k, []], h1, by simpa using h2, cs, k, h3, rfl, h5⟩
theorem CT.unnils {P : Program} {f : FuncId} {a : Array Value} {H : Heap} {t : Tm} (h : CT P f a [[]] H (fun v N => ∃ cs k, v = .agg ⟨cs⟩ ∧ N = [k, []] ∧ OT t cs k)) :
    CT P f a [] H (fun v N => ∃ cs k, v = .agg ⟨cs⟩ ∧ N = [k] ∧ OT t cs k) := fun F w m => by
  refine (h F w (by simpa using m)).mono ?_
  rintro e w' ⟨v, N, h1, h2, cs, k, h3, h4, h5⟩
  subst h4
  exact ⟨v, [k], h1, by simpa using h2, cs, k, h3, rfl, h5⟩

theorem mapTermP_ct (gr : Nat) (frs crs : List Value) (hcallr : ∀ args w, (callFunc gr args).run Tryz.prog w = .ok (.enter gr args) w) (rf : Sm → Sm) (gv : Nat) (fvs cvs : List Value) (hcallv : ∀ args w, (callFunc gv args).run Tryz.prog w = .ok (.enter gv args) w)
    (vf : Int → Int → Tm) (t : Tm) (b : Int) (cs : List Value) (H : Heap) (ht : RT H cs t) (hz : sizeT t ≤ 1000000) (hv : vOK t) (hb0 : 0 ≤ b) (hb : b + 2 * sizeT t ≤ 2000000)
    (hgr : ∀ s h, Hle H h → CT Tryz.prog gr ⟨frs ++ [.agg ⟨sC s⟩] ++ crs⟩ [] h (fun v N => v = .agg ⟨sC (rf s)⟩ ∧ N = []))
    (hgv : ∀ (n b : Int) (h : Heap), Hle H h → 0 ≤ n → n ≤ 2000000 → 0 ≤ b → b ≤ 2000000 → CT Tryz.prog gv ⟨fvs ++ [.int .i64 n, .int .i64 b] ++ cvs⟩ [] h (fun v N => ∃ cs k, v = .agg ⟨cs⟩ ∧ N = [k] ∧ OT (vf n b) cs k)) :
    CT Tryz.prog 81 ⟨[.agg ⟨[.func (.func gv) ⟨fvs⟩ ⟨cvs⟩, .func (.func gr) ⟨frs⟩ ⟨crs⟩]⟩, .agg ⟨cs⟩, .int .i64 b]⟩ [] H (fun v N => ∃ cs k, v = .agg ⟨cs⟩ ∧ N = [k] ∧ OT (mapQ rf vf b t) cs k) :=
  CT.unnils (mapTerm_ct gr frs crs hcallr rf gv fvs cvs hcallv Unit (fun _ => []) (fun _ => True) (fun n b s => (vf n b, s)) (fun _ _ _ _ => trivial) t b () cs H ht hz hv hb0 hb trivial hgr
    (fun n b _ h hh _ h1 h2 h3 h4 => CT.nils (hgv n b h hh h1 h2 h3 h4)))
end Go.Proofs.YtdeinimmmjichaaGreat.Hs
/-! Walks, printed by a program of this session's own (gen.py). -/
namespace Go.Proofs.YtdeinimmmjichaaGreat.Hs
open Go Go.Proofs
set_option maxRecDepth 100000
set_option linter.unusedVariables false
set_option linter.unusedSimpArgs false
attribute [local irreducible] JL J CT wlo
theorem shiftedV_ct (n b dy fr : Int) (H : Heap) (bF bD : Nat) (hF : H bF = some (.cells ⟨[.int .i64 fr]⟩ 3 (0, 0))) (hD : H bD = some (.cells ⟨[.int .i64 dy]⟩ 3 (0, 0))) (hn0 : 0 ≤ n) (hn1 : n ≤ 2000000) (hb0 : 0 ≤ b) (hb1 : b ≤ 2000000) (hd0 : -2000000 ≤ dy) (hd1 : dy ≤ 2000000) : CT Tryz.prog 102 ⟨[.int .i64 (n), .int .i64 (b), .pointer (some ⟨bF, 0, none⟩), .pointer (some ⟨bD, 0, none⟩)]⟩ [] H (fun v N => ∃ cs k, v = .agg ⟨cs⟩ ∧ N = [k] ∧ OT (shv dy fr n b) cs k) := by
 refine CT_enter Tryz.func102 rfl rfl ?_
 refine J_seq ?_
 refine J_region ?_
 refine JL_run rfl (Runs_alloc (l := pkT (0) (0) (zS) (.slice none 0 0) (.slice none 0 0)) Tryz.zeroValue27 rfl fun b1 => ?_)
 refine JL_nil ?_
 refine J_seq ?_
 refine J_seq ?_
 refine J_region ?_
 refine JL_pure (v := .int .i64 (n)) rfl (Pu.move rfl) ?_
 refine JL_run rfl (Pu_load1 ty3 rfl (At.im hF) rfl ?_)
 refine JL_pure (v := .bool (decide (fr ≤ n))) rfl (Pu.geq rfl rfl) ?_
 refine JL_nil ?_
 refine J_cond (b := decide (fr ≤ n)) rfl (fun h2 => ?_) (fun h2 => ?_)
 ·skip
  replace h2 := dt h2
  refine J_region ?_
  refine JL_pure (v := .int .i64 (n)) rfl (Pu.move rfl) ?_
  refine JL_run rfl (Pu_load1 ty3 rfl (At.im hD) rfl ?_)
  refine JL_pure (v := .int .i64 (n + dy)) rfl (Pu.add64 rfl rfl (by first | omega | (constructor <;> omega))) ?_
  refine JL_pure (v := .int .i64 (n + dy)) rfl (Pu.assign rfl) ?_
  refine JL_nil ?_
  refine J_seq ?_
  refine J_region ?_
  refine JL_pure (v := .int .i64 (n + dy)) rfl (Pu.move rfl) ?_
  refine JL_pure (v := .int .i64 (b)) rfl (Pu.move rfl) ?_
  refine JL_call rfl Tryz.call79 rfl (fun hin => stay_ct _ _ _ (by unfold inI; omega)) rfl ?_
  rintro _ _ ⟨cs3, k3, rfl, rfl, hO3⟩
  refine JL_run rfl (Runs_storeB 1 (vs := cs3) (l := cs3) ty27 rfl rfl rfl rfl hO3.len hO3.ok (spl_a (n := 36) rfl hO3.len) ?_)
  refine JL_nil ?_
  refine J_ret ?_
  refine ⟨.agg ⟨cs3⟩, [k3], Ret.one rfl (RV.cell ty27 rfl (At.bx 1 rfl) (sub_a hO3.len)), (Sk Sub.nil), ?_⟩
  have hx : shv dy fr n b = .mk 1 (n + dy + b) zS [] [] := by first | rfl | (simp only [shv]; (repeat' split) <;> first | rfl | (exfalso; omega))
  exact ⟨_, _, rfl, rfl, by rw [hx]; exact hO3⟩
 ·skip
  replace h2 := df h2
  refine J_skip ?_
  refine J_seq ?_
  refine J_region ?_
  refine JL_pure (v := .int .i64 (n)) rfl (Pu.move rfl) ?_
  refine JL_pure (v := .int .i64 (b)) rfl (Pu.move rfl) ?_
  refine JL_call rfl Tryz.call79 rfl (fun hin => stay_ct _ _ _ (by unfold inI; omega)) rfl ?_
  rintro _ _ ⟨cs4, k4, rfl, rfl, hO4⟩
  refine JL_run rfl (Runs_storeB 1 (vs := cs4) (l := cs4) ty27 rfl rfl rfl rfl hO4.len hO4.ok (spl_a (n := 36) rfl hO4.len) ?_)
  refine JL_nil ?_
  refine J_ret ?_
  refine ⟨.agg ⟨cs4⟩, [k4], Ret.one rfl (RV.cell ty27 rfl (At.bx 1 rfl) (sub_a hO4.len)), (Sk Sub.nil), ?_⟩
  have hx : shv dy fr n b = .mk 1 (n + b) zS [] [] := by first | rfl | (simp only [shv]; (repeat' split) <;> first | rfl | (exfalso; omega))
  exact ⟨_, _, rfl, rfl, by rw [hx]; exact hO4⟩
theorem shifted_ct (t : Tm) (dy fr : Int) (cs : List Value) (H : Heap) (ht : RT H cs t) (hz : sizeT t ≤ 900000) (hv : vOK t) (hd0 : -2000000 ≤ dy) (hd1 : dy ≤ 2000000) : CT Tryz.prog 78 ⟨[.agg ⟨cs⟩, .int .i64 (dy), .int .i64 (fr)]⟩ [] H (fun v N => ∃ cs k, v = .agg ⟨cs⟩ ∧ N = [k] ∧ OT (shT dy fr t) cs k) := by
 refine CT_enter Tryz.func78 rfl rfl ?_
 refine J_seq ?_
 refine J_region ?_
 refine JL_run rfl (Runs_box (l := cs) rfl rfl fun b1 => ?_)
 refine JL_run rfl (Runs_box (l := [.int .i64 (dy)]) rfl rfl fun b2 => ?_)
 refine JL_run rfl (Runs_box (l := [.int .i64 (fr)]) rfl rfl fun b3 => ?_)
 refine JL_run rfl (Runs_alloc (l := pkT (0) (0) (zS) (.slice none 0 0) (.slice none 0 0)) Tryz.zeroValue27 rfl fun b4 => ?_)
 refine JL_nil ?_
 refine J_seq ?_
 refine J_region ?_
 refine JL_pure (v := .func (.func 102) ⟨[]⟩ ⟨[.pointer (some ⟨b3, 0, none⟩), .pointer (some ⟨b2, 0, none⟩)]⟩) rfl (Pu.makeFunc rfl rfl) ?_
 refine JL_pure (v := .agg ⟨[.func (.func 102) ⟨[]⟩ ⟨[.pointer (some ⟨b3, 0, none⟩), .pointer (some ⟨b2, 0, none⟩)]⟩, .func (.func 80) ⟨[]⟩ ⟨[]⟩]⟩) rfl (Pu.build (pv := [(0, .func (.func 102) ⟨[]⟩ ⟨[.pointer (some ⟨b3, 0, none⟩), .pointer (some ⟨b2, 0, none⟩)]⟩), (1, .func (.func 80) ⟨[]⟩ ⟨[]⟩)]) (l := [.func (.func 102) ⟨[]⟩ ⟨[.pointer (some ⟨b3, 0, none⟩), .pointer (some ⟨b2, 0, none⟩)]⟩, .func (.func 80) ⟨[]⟩ ⟨[]⟩]) rfl (bld118_0_1 _ _ _ _ _ _)) ?_
 refine JL_run rfl (Pu_load ty27 rfl (At.bx 3 rfl) (sub_a (RT_len ht)) ?_)
 refine JL_call rfl Tryz.call81 rfl (fun hin => mapTermP_ct 80 [] [] Tryz.call80 (fun s => s) 102 [] [.pointer (some ⟨b3, 0, none⟩), .pointer (some ⟨b2, 0, none⟩)] Tryz.call102 (shv dy fr) _ _ _ _ (RT.mono (Hle.hu _ _) ht) (by omega) hv (by decide) (by omega) (fun s h hh => same_ct s h) (fun n b h hh h1 h2 h3 h4 => shiftedV_ct n b dy fr h b3 b2 (hh _ _ (hin 1 _ rfl _ _ List.mem_cons_self)) (hh _ _ (hin 2 _ rfl _ _ List.mem_cons_self)) h1 h2 h3 h4 hd0 hd1)) rfl ?_
 rintro _ _ ⟨cs5, k5, rfl, rfl, hO5⟩
 refine JL_run rfl (Runs_storeB 1 (vs := cs5) (l := cs5) ty27 rfl rfl rfl rfl hO5.len hO5.ok (spl_a (n := 36) rfl hO5.len) ?_)
 refine JL_nil ?_
 refine J_ret ?_
 refine ⟨.agg ⟨cs5⟩, [k5], Ret.one rfl (RV.cell ty27 rfl (At.bx 1 rfl) (sub_a hO5.len)), (Sk Sub.nil), ?_⟩
 have hx : shT dy fr t = mapQ (fun s => s) (shv dy fr) (0) (t) := by first | rfl | (simp only [shT]; (repeat' split) <;> first | rfl | (exfalso; omega))
 exact ⟨_, _, rfl, rfl, by rw [hx]; exact hO5⟩
theorem substV_ct (n b m : Int) (u : Tm) (us : List Value) (H : Heap) (bN bU : Nat) (hN : H bN = some (.cells ⟨[.int .i64 m]⟩ 3 (0, 0))) (hU : H bU = some (.cells ⟨us⟩ 27 (0, 0))) (hu1 : RT H us u) (hzu : sizeT u ≤ 900000) (hvu : vOK u) (hn0 : 0 ≤ n) (hn1 : n ≤ 2000000) (hb0 : 0 ≤ b) (hb1 : b ≤ 2000000) : CT Tryz.prog 77 ⟨[.int .i64 (n), .int .i64 (b), .pointer (some ⟨bN, 0, none⟩), .pointer (some ⟨bU, 0, none⟩)]⟩ [] H (fun v N => ∃ cs k, v = .agg ⟨cs⟩ ∧ N = [k] ∧ OT (sbv m u n b) cs k) := by
 refine CT_enter Tryz.func77 rfl rfl ?_
 refine J_seq ?_
 refine J_region ?_
 refine JL_run rfl (Runs_alloc (l := pkT (0) (0) (zS) (.slice none 0 0) (.slice none 0 0)) Tryz.zeroValue27 rfl fun b1 => ?_)
 refine JL_nil ?_
 refine J_seq ?_
 refine J_block ?_
 refine J_seq ?_
 refine J_region ?_
 refine JL_pure (v := .int .i64 (n)) rfl (Pu.move rfl) ?_
 refine JL_run rfl (Pu_load1 ty3 rfl (At.im hN) rfl ?_)
 refine JL_pure (v := .bool (decide (n = m))) rfl (Pu.eql rfl rfl) ?_
 refine JL_pure (v := .bool (decide (n = m))) rfl (Pu.assign rfl) ?_
 refine JL_nil ?_
 refine J_cond (b := decide (n = m)) rfl (fun h2 => ?_) (fun h2 => ?_)
 ·skip
  replace h2 := dt h2
  refine J_seq ?_
  refine J_region ?_
  refine JL_run rfl (Pu_load ty27 rfl (At.im hU) (sub_a (RT_len hu1)) ?_)
  refine JL_pure (v := .int .i64 (b)) rfl (Pu.move rfl) ?_
  refine JL_call rfl Tryz.call78 rfl (fun hin => shifted_ct _ _ _ _ _ (RT.mono (Hle.hu _ _) hu1) hzu hvu (by omega) (by omega)) rfl ?_
  rintro _ _ ⟨cs3, k3, rfl, rfl, hO3⟩
  refine JL_run rfl (Runs_storeB 1 (vs := cs3) (l := cs3) ty27 rfl rfl rfl rfl hO3.len hO3.ok (spl_a (n := 36) rfl hO3.len) ?_)
  refine JL_nil ?_
  refine J_ret ?_
  refine ⟨.agg ⟨cs3⟩, [k3], Ret.one rfl (RV.cell ty27 rfl (At.bx 1 rfl) (sub_a hO3.len)), (Sk Sub.nil), ?_⟩
  have hx : sbv m u n b = shT (b) (0) (u) := by first | rfl | (simp only [sbv]; (repeat' split) <;> first | rfl | (exfalso; omega))
  exact ⟨_, _, rfl, rfl, by rw [hx]; exact hO3⟩
 ·skip
  replace h2 := df h2
  refine J_seq ?_
  refine J_region ?_
  refine JL_pure (v := .int .i64 (n)) rfl (Pu.move rfl) ?_
  refine JL_run rfl (Pu_load1 ty3 rfl (At.im hN) rfl ?_)
  refine JL_pure (v := .bool (decide (m < n))) rfl (Pu.gtr rfl rfl) ?_
  refine JL_pure (v := .bool (decide (m < n))) rfl (Pu.assign rfl) ?_
  refine JL_nil ?_
  refine J_cond (b := decide (m < n)) rfl (fun h4 => ?_) (fun h4 => ?_)
  ·skip
   replace h4 := dt h4
   refine J_region ?_
   refine JL_pure (v := .int .i64 (n)) rfl (Pu.move rfl) ?_
   refine JL_pure (v := .int .i64 (n - 1)) rfl (Pu.sub64 rfl rfl (by first | omega | (constructor <;> omega))) ?_
   refine JL_pure (v := .int .i64 (n - 1)) rfl (Pu.assign rfl) ?_
   refine JL_nil ?_
   refine J_seq ?_
   refine J_region ?_
   refine JL_pure (v := .int .i64 (n - 1)) rfl (Pu.move rfl) ?_
   refine JL_pure (v := .int .i64 (b)) rfl (Pu.move rfl) ?_
   refine JL_call rfl Tryz.call79 rfl (fun hin => stay_ct _ _ _ (by unfold inI; omega)) rfl ?_
   rintro _ _ ⟨cs5, k5, rfl, rfl, hO5⟩
   refine JL_run rfl (Runs_storeB 1 (vs := cs5) (l := cs5) ty27 rfl rfl rfl rfl hO5.len hO5.ok (spl_a (n := 36) rfl hO5.len) ?_)
   refine JL_nil ?_
   refine J_ret ?_
   refine ⟨.agg ⟨cs5⟩, [k5], Ret.one rfl (RV.cell ty27 rfl (At.bx 1 rfl) (sub_a hO5.len)), (Sk Sub.nil), ?_⟩
   have hx : sbv m u n b = .mk 1 (n - 1 + b) zS [] [] := by first | rfl | (simp only [sbv]; (repeat' split) <;> first | rfl | (exfalso; omega))
   exact ⟨_, _, rfl, rfl, by rw [hx]; exact hO5⟩
  ·skip
   replace h4 := df h4
   refine J_skip ?_
   refine J_seq ?_
   refine J_region ?_
   refine JL_pure (v := .int .i64 (n)) rfl (Pu.move rfl) ?_
   refine JL_pure (v := .int .i64 (b)) rfl (Pu.move rfl) ?_
   refine JL_call rfl Tryz.call79 rfl (fun hin => stay_ct _ _ _ (by unfold inI; omega)) rfl ?_
   rintro _ _ ⟨cs6, k6, rfl, rfl, hO6⟩
   refine JL_run rfl (Runs_storeB 1 (vs := cs6) (l := cs6) ty27 rfl rfl rfl rfl hO6.len hO6.ok (spl_a (n := 36) rfl hO6.len) ?_)
   refine JL_nil ?_
   refine J_ret ?_
   refine ⟨.agg ⟨cs6⟩, [k6], Ret.one rfl (RV.cell ty27 rfl (At.bx 1 rfl) (sub_a hO6.len)), (Sk Sub.nil), ?_⟩
   have hx : sbv m u n b = .mk 1 (n + b) zS [] [] := by first | rfl | (simp only [sbv]; (repeat' split) <;> first | rfl | (exfalso; omega))
   exact ⟨_, _, rfl, rfl, by rw [hx]; exact hO6⟩
theorem short_ct (t : Tm) (cs : List Value) (H : Heap) (ht : RT H cs t) : CT Tryz.prog 71 ⟨[.agg ⟨cs⟩]⟩ [] H (fun v N => v = .tuple ⟨[.agg ⟨if longB t = true then pkT 0 0 zS (.slice none 0 0) (.slice none 0 0) else cs⟩, .int .i64 (if longB t = true then 11 else 0)]⟩ ∧ N = []) := by
 refine CT_enter Tryz.func71 rfl rfl ?_
 refine J_seq ?_
 refine J_region ?_
 refine JL_run rfl (Runs_box (l := cs) rfl rfl fun b1 => ?_)
 refine JL_run rfl (Runs_alloc (l := pkT (0) (0) (zS) (.slice none 0 0) (.slice none 0 0)) Tryz.zeroValue27 rfl fun b2 => ?_)
 refine JL_pure (v := .int .i64 (0)) rfl (Pu.assign rfl) ?_
 refine JL_nil ?_
 refine J_seq ?_
 refine J_seq ?_
 refine J_region ?_
 refine JL_pure (v := .agg ⟨[.int .i64 (0)]⟩) rfl (Pu.build (pv := []) (l := [.int .i64 (0)]) rfl bld88_) ?_
 refine JL_run rfl (Runs_box (l := [.int .i64 (0)]) rfl rfl fun b3 => ?_)
 refine JL_run rfl (Pu_load ty27 rfl (At.bx 2 rfl) (sub_a (RT_len ht)) ?_)
 refine JL_call1 0 rfl Tryz.call51 rfl rfl (fun hin => longT_ct _ _ _ _ _ _ (RT.mono (Hle.hu _ _) ht) (by omega) (by omega) (by omega) (by omega)) rfl ?_
 rintro _ _ ⟨rfl, rfl⟩
 refine JL_nil ?_
 refine J_cond (b := (cnT stL (1) (t) (0)).1) rfl (fun h5 => ?_) (fun h5 => ?_)
 ·skip
  refine J_seq ?_
  refine J_region ?_
  refine JL_pure (v := .agg ⟨pkT (0) (0) (zS) (.slice none 0 0) (.slice none 0 0)⟩) rfl (Pu.build (pv := []) (l := pkT (0) (0) (zS) (.slice none 0 0) (.slice none 0 0)) rfl (bld27_ )) ?_
  refine JL_run rfl (Runs_storeB 1 (vs := pkT (0) (0) (zS) (.slice none 0 0) (.slice none 0 0)) (l := pkT (0) (0) (zS) (.slice none 0 0) (.slice none 0 0)) ty27 rfl rfl rfl rfl rfl (pkT_ok rfl rfl) (pkT_s ..) ?_)
  refine JL_pure (v := .int .i64 (11)) rfl (Pu.assign rfl) ?_
  refine JL_nil ?_
  refine J_ret ?_
  refine ⟨.tuple ⟨[.agg ⟨pkT (0) (0) (zS) (.slice none 0 0) (.slice none 0 0)⟩, .int .i64 (11)]⟩, [], Ret.two rfl (RV.cell ty27 rfl (At.bx 1 rfl) (pkT_a ..)) (RV.tmp rfl), Sub.nil, ?_⟩
  rw [long_eq] at h5
  exact ⟨by simp [h5], rfl⟩
 ·skip
  refine J_skip ?_
  refine J_seq ?_
  refine J_region ?_
  refine JL_run rfl (Pu_load ty27 rfl (At.bx 2 rfl) (sub_a (RT_len ht)) ?_)
  refine JL_run rfl (Runs_storeB 1 (vs := cs) (l := cs) ty27 rfl rfl rfl rfl (RT_len ht) (RT_ok ht) (spl_a (n := 36) rfl (RT_len ht)) ?_)
  refine JL_pure (v := .int .i64 (0)) rfl (Pu.assign rfl) ?_
  refine JL_nil ?_
  refine J_ret ?_
  refine ⟨.tuple ⟨[.agg ⟨cs⟩, .int .i64 (0)]⟩, [], Ret.two rfl (RV.cell ty27 rfl (At.bx 1 rfl) (sub_a (RT_len ht))) (RV.tmp rfl), Sub.nil, ?_⟩
  rw [long_eq] at h5
  exact ⟨by simp [h5], rfl⟩
end Go.Proofs.YtdeinimmmjichaaGreat.Hs
/-! Walks, printed by a program of this session's own (gen.py). -/
namespace Go.Proofs.YtdeinimmmjichaaGreat.Hs
open Go Go.Proofs
set_option maxRecDepth 100000
set_option linter.unusedVariables false
set_option linter.unusedSimpArgs false
attribute [local irreducible] JL J CT wlo
theorem shiftP_ct (t : Tm) (dy fr : Int) (cs : List Value) (H : Heap) (ht : RT H cs t) : CT Tryz.prog 42 ⟨[.agg ⟨cs⟩, .int .i64 (dy), .int .i64 (fr)]⟩ [] H (fun v N => ∃ cs k, v = .tuple ⟨[.agg ⟨cs⟩, .int .i64 (shiftP t dy fr).2]⟩ ∧ N = [k] ∧ OT (shiftP t dy fr).1 cs k) := by
 refine CT_enter Tryz.func42 rfl rfl ?_
 refine J_seq ?_
 refine J_region ?_
 refine JL_run rfl (Runs_box (l := cs) rfl rfl fun b1 => ?_)
 refine JL_run rfl (Runs_box (l := [.int .i64 (dy)]) rfl rfl fun b2 => ?_)
 refine JL_run rfl (Runs_box (l := [.int .i64 (fr)]) rfl rfl fun b3 => ?_)
 refine JL_run rfl (Runs_alloc (l := pkT (0) (0) (zS) (.slice none 0 0) (.slice none 0 0)) Tryz.zeroValue27 rfl fun b4 => ?_)
 refine JL_pure (v := .int .i64 (0)) rfl (Pu.assign rfl) ?_
 refine JL_nil ?_
 refine J_seq ?_
 refine J_seq ?_
 refine J_region ?_
 refine JL_run rfl (Pu_load ty27 rfl (At.bx 3 rfl) (sub_a (RT_len ht)) ?_)
 refine JL_run rfl (Runs_buildSlice (vs := [.agg ⟨cs⟩]) [cs] Tryz.runUnderlying24 el27 rfl rfl (by intro e he; simp only [List.mem_cons, List.not_mem_nil, or_false] at he; subst he; exact (RT_len ht)) rfl (by decide) fun b5 k5 ho5 hk5 => ?_)
 refine JL_call rfl Tryz.call50 rfl (fun hin => right_ct _ _ _ (Own.rd1 ho5 (hin 0 _ rfl) (RT.mono (Hle.hu _ _) ht))) rfl ?_
 rintro _ _ ⟨rfl, rfl⟩
 refine JL_pure (v := .int .i64 (rightT [t])) rfl (Pu.assign rfl) ?_
 refine JL_nil ?_
 refine J_seq ?_
 refine J_region ?_
 refine JL_pure (v := .int .i64 (rightT [t])) rfl (Pu.move rfl) ?_
 refine JL_pure (v := .bool (!decide (rightT [t] = 0))) rfl (Pu.neq rfl rfl) ?_
 refine JL_nil ?_
 refine J_cond (b := !decide (rightT [t] = 0)) rfl (fun h6 => ?_) (fun h6 => ?_)
 ·skip
  replace h6 := nt h6
  replace h6 := df h6
  refine J_seq ?_
  refine J_region ?_
  refine JL_pure (v := .agg ⟨pkT (0) (0) (zS) (.slice none 0 0) (.slice none 0 0)⟩) rfl (Pu.build (pv := []) (l := pkT (0) (0) (zS) (.slice none 0 0) (.slice none 0 0)) rfl (bld27_ )) ?_
  refine JL_pure (v := .int .i64 (rightT [t])) rfl (Pu.move rfl) ?_
  refine JL_run rfl (Runs_storeB 1 (vs := pkT (0) (0) (zS) (.slice none 0 0) (.slice none 0 0)) (l := pkT (0) (0) (zS) (.slice none 0 0) (.slice none 0 0)) ty27 rfl rfl rfl rfl rfl (pkT_ok rfl rfl) (pkT_s ..) ?_)
  refine JL_pure (v := .int .i64 (rightT [t])) rfl (Pu.assign rfl) ?_
  refine JL_nil ?_
  refine J_ret ?_
  refine ⟨.tuple ⟨[.agg ⟨pkT (0) (0) (zS) (.slice none 0 0) (.slice none 0 0)⟩, .int .i64 (rightT [t])]⟩, [[]], Ret.two rfl (RV.cell ty27 rfl (At.bx 1 rfl) (pkT_a ..)) (RV.tmp rfl), (Sub.emp Sub.nil), ?_⟩
  have hx : shiftP t dy fr = (zT, rightT [t]) := by simp only [shiftP]; (repeat' split) <;> first | rfl | (exfalso; simp_all; done) | (exfalso; simp_all; omega)
  exact ⟨_, _, by rw [hx], rfl, by rw [hx]; exact OT_zero⟩
 ·skip
  replace h6 := nf h6
  replace h6 := dt h6
  refine J_skip ?_
  refine J_seq ?_
  refine J_cut (fun ρ M => ρ 3 = .pointer (some ⟨b1, 0, none⟩) ∧ ρ 4 = .pointer (some ⟨b2, 0, none⟩) ∧ ρ 5 = .pointer (some ⟨b3, 0, none⟩) ∧ ρ 6 = .pointer (some ⟨b4, 0, none⟩) ∧ ρ 7 = .int .i64 (0) ∧ ρ 21 = .bool ((decide (dy < -60 ∨ 60 < dy)) || (decide (fr < 0 ∨ 60 < fr))) ∧ M = [k5, [(b4, .cells ⟨pkT (0) (0) (zS) (.slice none 0 0) (.slice none 0 0)⟩ 27 (0, 0))], [(b3, .cells ⟨[.int .i64 (fr)]⟩ 3 (0, 0))], [(b2, .cells ⟨[.int .i64 (dy)]⟩ 3 (0, 0))], [(b1, .cells ⟨cs⟩ 27 (0, 0))]]) ?_ ?_
  ·refine J_region ?_
   refine JL_run rfl (Pu_load1 ty3 rfl (At.bx 3 rfl) rfl ?_)
   refine JL_call rfl Tryz.call76 rfl (fun hin => off_ct _ _ _ _) rfl ?_
   rintro _ _ ⟨rfl, rfl⟩
   refine JL_pure (v := .bool (decide (dy < -60 ∨ 60 < dy))) rfl (Pu.move rfl) ?_
   cases h7 : (decide (dy < -60 ∨ 60 < dy)) with
   | true =>
    replace h7 := dt h7
    refine JL_skip rfl ?_
    refine JL_skip rfl ?_
    refine JL_pure (v := .bool (true)) rfl (Pu.pickT rfl rfl) ?_
    refine JL_nil ?_
    first | exact ⟨rfl, rfl, rfl, rfl, rfl, rfl, rfl⟩ | (exfalso; omega)
   | false =>
    replace h7 := df h7
    refine JL_run rfl (Pu_load1 ty3 rfl (At.bx 2 rfl) rfl ?_)
    refine JL_call rfl Tryz.call76 rfl (fun hin => off_ct _ _ _ _) rfl ?_
    rintro _ _ ⟨rfl, rfl⟩
    refine JL_pure (v := .bool (decide (fr < 0 ∨ 60 < fr))) rfl (Pu.pickF rfl rfl) ?_
    refine JL_nil ?_
    first | exact ⟨rfl, rfl, rfl, rfl, rfl, rfl, rfl⟩ | (exfalso; omega)
  ·rintro ρ8 _ ⟨e9, e10, e11, e12, e13, e14, rfl⟩
   obtain ⟨ρ15, rfl⟩ := reopen_ex (uc e9 (uc e10 (uc e11 (uc e12 (uc e13 (uc e14 un))))))
   clear e9 e10 e11 e12 e13 e14
   refine J_cond (b := (decide (dy < -60 ∨ 60 < dy)) || (decide (fr < 0 ∨ 60 < fr))) rfl (fun h16 => ?_) (fun h16 => ?_)
   ·skip
    refine J_seq ?_
    refine J_region ?_
    refine JL_pure (v := .agg ⟨pkT (0) (0) (zS) (.slice none 0 0) (.slice none 0 0)⟩) rfl (Pu.build (pv := []) (l := pkT (0) (0) (zS) (.slice none 0 0) (.slice none 0 0)) rfl (bld27_ )) ?_
    refine JL_run rfl (Runs_storeB 1 (vs := pkT (0) (0) (zS) (.slice none 0 0) (.slice none 0 0)) (l := pkT (0) (0) (zS) (.slice none 0 0) (.slice none 0 0)) ty27 rfl rfl rfl rfl rfl (pkT_ok rfl rfl) (pkT_s ..) ?_)
    refine JL_pure (v := .int .i64 (3)) rfl (Pu.assign rfl) ?_
    refine JL_nil ?_
    refine J_ret ?_
    refine ⟨.tuple ⟨[.agg ⟨pkT (0) (0) (zS) (.slice none 0 0) (.slice none 0 0)⟩, .int .i64 (3)]⟩, [[]], Ret.two rfl (RV.cell ty27 rfl (At.bx 1 rfl) (pkT_a ..)) (RV.tmp rfl), (Sub.emp Sub.nil), ?_⟩
    have hx : shiftP t dy fr = (zT, 3) := by simp only [shiftP]; (repeat' split) <;> first | rfl | (exfalso; simp_all; done) | (exfalso; simp_all; omega)
    exact ⟨_, _, by rw [hx], rfl, by rw [hx]; exact OT_zero⟩
   ·skip
    obtain ⟨h16a, h16b⟩ := orF h16
    replace h16a := df h16a
    replace h16b := df h16b
    refine J_skip ?_
    refine J_seq ?_
    refine J_seq ?_
    refine J_region ?_
    refine JL_run rfl (Pu_load ty27 rfl (At.bx 4 rfl) (sub_a (RT_len ht)) ?_)
    refine JL_call rfl Tryz.call52 rfl (fun hin => freeP_ct _ _ _ (RT.mono (Hle.hu _ _) ht) (by have := (checkT_ok (rightT1 ‹rightT [t] = 0›)).1; omega) (checkT_ok (rightT1 ‹rightT [t] = 0›)).2.1) rfl ?_
    rintro u17 _ ⟨_, k17, hu17, rfl, ho17⟩; subst hu17
    refine JL_pure (v := .func (.func 83) ⟨[]⟩ ⟨[.pointer (some ⟨b3, 0, none⟩), .pointer (some ⟨b2, 0, none⟩)]⟩) rfl (Pu.makeFunc rfl rfl) ?_
    refine JL_call rfl Tryz.call82 rfl (fun hin => every_ct 83 [] [.pointer (some ⟨b3, 0, none⟩), .pointer (some ⟨b2, 0, none⟩)] Tryz.call83 (mvOk dy fr) _ _ _ (own_ints ho17 (by have := freeP_len t; omega) (hin 0 _ rfl)) (fun x hx h hh => shiftO_ct x dy fr h b3 b2 (hh _ _ (hin 3 _ rfl _ _ List.mem_cons_self)) (hh _ _ (hin 4 _ rfl _ _ List.mem_cons_self)) (freeP_bound t x hx).1 (by have := (freeP_bound t x hx).2; omega) (by omega) (by omega))) rfl ?_
    rintro _ _ ⟨rfl, rfl⟩
    refine JL_pure (v := .bool (!((freeP (t)).all (mvOk dy fr)))) rfl (Pu.not rfl) ?_
    refine JL_nil ?_
    refine J_cond (b := !((freeP (t)).all (mvOk dy fr))) rfl (fun h18 => ?_) (fun h18 => ?_)
    ·skip
     replace h18 := nt h18
     refine J_seq ?_
     refine J_region ?_
     refine JL_pure (v := .agg ⟨pkT (0) (0) (zS) (.slice none 0 0) (.slice none 0 0)⟩) rfl (Pu.build (pv := []) (l := pkT (0) (0) (zS) (.slice none 0 0) (.slice none 0 0)) rfl (bld27_ )) ?_
     refine JL_run rfl (Runs_storeB 2 (vs := pkT (0) (0) (zS) (.slice none 0 0) (.slice none 0 0)) (l := pkT (0) (0) (zS) (.slice none 0 0) (.slice none 0 0)) ty27 rfl rfl rfl rfl rfl (pkT_ok rfl rfl) (pkT_s ..) ?_)
     refine JL_pure (v := .int .i64 (1)) rfl (Pu.assign rfl) ?_
     refine JL_nil ?_
     refine J_ret ?_
     refine ⟨.tuple ⟨[.agg ⟨pkT (0) (0) (zS) (.slice none 0 0) (.slice none 0 0)⟩, .int .i64 (1)]⟩, [[]], Ret.two rfl (RV.cell ty27 rfl (At.bx 2 rfl) (pkT_a ..)) (RV.tmp rfl), (Sub.emp Sub.nil), ?_⟩
     have hx : shiftP t dy fr = (zT, 1) := by simp only [shiftP]; (repeat' split) <;> first | rfl | (exfalso; simp_all; done) | (exfalso; simp_all; omega)
     exact ⟨_, _, by rw [hx], rfl, by rw [hx]; exact OT_zero⟩
    ·skip
     replace h18 := nf h18
     refine J_skip ?_
     refine J_seq ?_
     refine J_region ?_
     refine JL_run rfl (Pu_load ty27 rfl (At.bx 5 rfl) (sub_a (RT_len ht)) ?_)
     refine JL_run rfl (Pu_load1 ty3 rfl (At.bx 4 rfl) rfl ?_)
     refine JL_run rfl (Pu_load1 ty3 rfl (At.bx 3 rfl) rfl ?_)
     refine JL_call rfl Tryz.call78 rfl (fun hin => shifted_ct _ _ _ _ _ (RT.mono (Hle.hu _ _) ht) (by have := (checkT_ok (rightT1 ‹rightT [t] = 0›)).1; omega) (checkT_ok (rightT1 ‹rightT [t] = 0›)).2.1 (by omega) (by omega)) rfl ?_
     rintro _ _ ⟨cs19, k19, rfl, rfl, hO19⟩
     refine JL_run rfl (Runs_storeB 3 (vs := cs19) (l := cs19) ty27 rfl rfl rfl rfl hO19.len hO19.ok (spl_a (n := 36) rfl hO19.len) ?_)
     refine JL_pure (v := .int .i64 (0)) rfl (Pu.assign rfl) ?_
     refine JL_nil ?_
     refine J_ret ?_
     refine ⟨.tuple ⟨[.agg ⟨cs19⟩, .int .i64 (0)]⟩, [k19], Ret.two rfl (RV.cell ty27 rfl (At.bx 3 rfl) (sub_a hO19.len)) (RV.tmp rfl), (Sk Sub.nil), ?_⟩
     have hx : shiftP t dy fr = (shT (dy) (fr) (t), 0) := by simp only [shiftP]; (repeat' split) <;> first | rfl | (exfalso; simp_all; done) | (exfalso; simp_all; omega)
     exact ⟨_, _, by rw [hx], rfl, by rw [hx]; exact hO19⟩
theorem freeE_ct (t : Tm) (cs : List Value) (H : Heap) (ht : RT H cs t) : CT Tryz.prog 17 ⟨[.agg ⟨cs⟩]⟩ [] H (fun v N => ∃ u e k, v = .tuple ⟨[u, .int .i64 e]⟩ ∧ N = [k] ∧ Own 3 1 u (ints (freeE t).1) k ∧ e = (freeE t).2) := by
 refine CT_enter Tryz.func17 rfl rfl ?_
 refine J_seq ?_
 refine J_region ?_
 refine JL_run rfl (Runs_box (l := cs) rfl rfl fun b1 => ?_)
 refine JL_pure (v := .slice none 0 0) rfl (Pu.assign rfl) ?_
 refine JL_pure (v := .int .i64 (0)) rfl (Pu.assign rfl) ?_
 refine JL_nil ?_
 refine J_seq ?_
 refine J_seq ?_
 refine J_region ?_
 refine JL_run rfl (Pu_load ty27 rfl (At.bx 0 rfl) (sub_a (RT_len ht)) ?_)
 refine JL_run rfl (Runs_buildSlice (vs := [.agg ⟨cs⟩]) [cs] Tryz.runUnderlying24 el27 rfl rfl (by intro e he; simp only [List.mem_cons, List.not_mem_nil, or_false] at he; subst he; exact (RT_len ht)) rfl (by decide) fun b2 k2 ho2 hk2 => ?_)
 refine JL_call rfl Tryz.call50 rfl (fun hin => right_ct _ _ _ (Own.rd1 ho2 (hin 0 _ rfl) (RT.mono (Hle.hu _ _) ht))) rfl ?_
 rintro _ _ ⟨rfl, rfl⟩
 refine JL_pure (v := .int .i64 (rightT [t])) rfl (Pu.assign rfl) ?_
 refine JL_nil ?_
 refine J_seq ?_
 refine J_region ?_
 refine JL_pure (v := .int .i64 (rightT [t])) rfl (Pu.move rfl) ?_
 refine JL_pure (v := .bool (!decide (rightT [t] = 0))) rfl (Pu.neq rfl rfl) ?_
 refine JL_nil ?_
 refine J_cond (b := !decide (rightT [t] = 0)) rfl (fun h3 => ?_) (fun h3 => ?_)
 ·skip
  replace h3 := nt h3
  replace h3 := df h3
  refine J_seq ?_
  refine J_region ?_
  refine JL_pure (v := .int .i64 (rightT [t])) rfl (Pu.move rfl) ?_
  refine JL_pure (v := .slice none 0 0) rfl (Pu.assign rfl) ?_
  refine JL_pure (v := .int .i64 (rightT [t])) rfl (Pu.assign rfl) ?_
  refine JL_nil ?_
  refine J_ret ?_
  refine ⟨.tuple ⟨[.slice none 0 0, .int .i64 (rightT [t])]⟩, [[]], Ret.two rfl (RV.tmp rfl) (RV.tmp rfl), (Sub.emp Sub.nil), ?_⟩
  have hx : freeE t = ([], rightT [t]) := by rw [freeE, if_neg (by assumption)]
  exact ⟨_, _, _, rfl, rfl, by rw [hx]; exact Own.nil, by rw [hx]⟩
 ·skip
  replace h3 := nf h3
  replace h3 := dt h3
  refine J_skip ?_
  refine J_seq ?_
  refine J_region ?_
  refine JL_run rfl (Pu_load ty27 rfl (At.bx 1 rfl) (sub_a (RT_len ht)) ?_)
  refine JL_call rfl Tryz.call52 rfl (fun hin => freeP_ct _ _ _ (RT.mono (Hle.hu _ _) ht) (by have := (checkT_ok (rightT1 ‹rightT [t] = 0›)).1; omega) (checkT_ok (rightT1 ‹rightT [t] = 0›)).2.1) rfl ?_
  rintro u4 _ ⟨_, k4, hu4, rfl, ho4⟩; subst hu4
  refine JL_pure (v := u4) rfl (Pu.assign rfl) ?_
  refine JL_pure (v := .int .i64 (0)) rfl (Pu.assign rfl) ?_
  refine JL_nil ?_
  refine J_ret ?_
  refine ⟨.tuple ⟨[u4, .int .i64 (0)]⟩, [k4], Ret.two rfl (RV.tmp rfl) (RV.tmp rfl), (Sk Sub.nil), ?_⟩
  have hx : freeE t = (freeP t, 0) := by rw [freeE, if_pos (by assumption)]
  exact ⟨_, _, _, rfl, rfl, by rw [hx]; exact ho4, by rw [hx]⟩
theorem substP_ct (t : Tm) (m : Int) (u : Tm) (cs us : List Value) (H : Heap) (ht : RT H cs t) (hu1 : RT H us u) : CT Tryz.prog 41 ⟨[.agg ⟨cs⟩, .int .i64 (m), .agg ⟨us⟩]⟩ [] H (fun v N => ∃ cs k, v = .tuple ⟨[.agg ⟨cs⟩, .int .i64 (substP t m u).2]⟩ ∧ N = [k] ∧ OT (substP t m u).1 cs k) := by
 refine CT_enter Tryz.func41 rfl rfl ?_
 refine J_seq ?_
 refine J_region ?_
 refine JL_run rfl (Runs_box (l := cs) rfl rfl fun b1 => ?_)
 refine JL_run rfl (Runs_box (l := [.int .i64 (m)]) rfl rfl fun b2 => ?_)
 refine JL_run rfl (Runs_box (l := us) rfl rfl fun b3 => ?_)
 refine JL_run rfl (Runs_alloc (l := pkT (0) (0) (zS) (.slice none 0 0) (.slice none 0 0)) Tryz.zeroValue27 rfl fun b4 => ?_)
 refine JL_pure (v := .int .i64 (0)) rfl (Pu.assign rfl) ?_
 refine JL_nil ?_
 refine J_seq ?_
 refine J_seq ?_
 refine J_region ?_
 refine JL_run rfl (Pu_load ty27 rfl (At.bx 3 rfl) (sub_a (RT_len ht)) ?_)
 refine JL_run rfl (Pu_load ty27 rfl (At.bx 1 rfl) (sub_a (RT_len hu1)) ?_)
 refine JL_run rfl (Runs_buildSlice (vs := [.agg ⟨cs⟩, .agg ⟨us⟩]) [cs, us] Tryz.runUnderlying24 el27 rfl rfl (by intro e he; simp only [List.mem_cons, List.not_mem_nil, or_false] at he; rcases he with rfl | rfl <;> first | exact (RT_len ht) | exact (RT_len hu1)) rfl (by decide) fun b5 k5 ho5 hk5 => ?_)
 refine JL_call rfl Tryz.call50 rfl (fun hin => right_ct _ _ _ (Own.rd2 ho5 (hin 0 _ rfl) (RT.mono (Hle.hu _ _) ht) (RT.mono (Hle.hu _ _) hu1))) rfl ?_
 rintro _ _ ⟨rfl, rfl⟩
 refine JL_pure (v := .int .i64 (rightT [t, u])) rfl (Pu.assign rfl) ?_
 refine JL_nil ?_
 refine J_seq ?_
 refine J_region ?_
 refine JL_pure (v := .int .i64 (rightT [t, u])) rfl (Pu.move rfl) ?_
 refine JL_pure (v := .bool (!decide (rightT [t, u] = 0))) rfl (Pu.neq rfl rfl) ?_
 refine JL_nil ?_
 refine J_cond (b := !decide (rightT [t, u] = 0)) rfl (fun h6 => ?_) (fun h6 => ?_)
 ·skip
  replace h6 := nt h6
  replace h6 := df h6
  refine J_seq ?_
  refine J_region ?_
  refine JL_pure (v := .agg ⟨pkT (0) (0) (zS) (.slice none 0 0) (.slice none 0 0)⟩) rfl (Pu.build (pv := []) (l := pkT (0) (0) (zS) (.slice none 0 0) (.slice none 0 0)) rfl (bld27_ )) ?_
  refine JL_pure (v := .int .i64 (rightT [t, u])) rfl (Pu.move rfl) ?_
  refine JL_run rfl (Runs_storeB 1 (vs := pkT (0) (0) (zS) (.slice none 0 0) (.slice none 0 0)) (l := pkT (0) (0) (zS) (.slice none 0 0) (.slice none 0 0)) ty27 rfl rfl rfl rfl rfl (pkT_ok rfl rfl) (pkT_s ..) ?_)
  refine JL_pure (v := .int .i64 (rightT [t, u])) rfl (Pu.assign rfl) ?_
  refine JL_nil ?_
  refine J_ret ?_
  refine ⟨.tuple ⟨[.agg ⟨pkT (0) (0) (zS) (.slice none 0 0) (.slice none 0 0)⟩, .int .i64 (rightT [t, u])]⟩, [[]], Ret.two rfl (RV.cell ty27 rfl (At.bx 1 rfl) (pkT_a ..)) (RV.tmp rfl), (Sub.emp Sub.nil), ?_⟩
  have hx : substP t m u = (zT, rightT [t, u]) := by simp only [substP]; (repeat' split) <;> first | rfl | (exfalso; simp_all; done) | (exfalso; simp_all; omega)
  exact ⟨_, _, by rw [hx], rfl, by rw [hx]; exact OT_zero⟩
 ·skip
  replace h6 := nf h6
  replace h6 := dt h6
  refine J_skip ?_
  refine J_seq ?_
  refine J_seq ?_
  refine J_region ?_
  refine JL_run rfl (Pu_load1 ty3 rfl (At.bx 3 rfl) rfl ?_)
  refine JL_call rfl Tryz.call76 rfl (fun hin => off_ct _ _ _ _) rfl ?_
  rintro _ _ ⟨rfl, rfl⟩
  refine JL_nil ?_
  refine J_cond (b := decide (m < 0 ∨ 59 < m)) rfl (fun h7 => ?_) (fun h7 => ?_)
  ·skip
   replace h7 := dt h7
   refine J_seq ?_
   refine J_region ?_
   refine JL_pure (v := .agg ⟨pkT (0) (0) (zS) (.slice none 0 0) (.slice none 0 0)⟩) rfl (Pu.build (pv := []) (l := pkT (0) (0) (zS) (.slice none 0 0) (.slice none 0 0)) rfl (bld27_ )) ?_
   refine JL_run rfl (Runs_storeB 1 (vs := pkT (0) (0) (zS) (.slice none 0 0) (.slice none 0 0)) (l := pkT (0) (0) (zS) (.slice none 0 0) (.slice none 0 0)) ty27 rfl rfl rfl rfl rfl (pkT_ok rfl rfl) (pkT_s ..) ?_)
   refine JL_pure (v := .int .i64 (3)) rfl (Pu.assign rfl) ?_
   refine JL_nil ?_
   refine J_ret ?_
   refine ⟨.tuple ⟨[.agg ⟨pkT (0) (0) (zS) (.slice none 0 0) (.slice none 0 0)⟩, .int .i64 (3)]⟩, [[]], Ret.two rfl (RV.cell ty27 rfl (At.bx 1 rfl) (pkT_a ..)) (RV.tmp rfl), (Sub.emp Sub.nil), ?_⟩
   have hx : substP t m u = (zT, 3) := by simp only [substP]; (repeat' split) <;> first | rfl | (exfalso; simp_all; done) | (exfalso; simp_all; omega)
   exact ⟨_, _, by rw [hx], rfl, by rw [hx]; exact OT_zero⟩
  ·skip
   replace h7 := df h7
   refine J_skip ?_
   refine J_seq ?_
   refine J_region ?_
   refine JL_pure (v := .func (.func 77) ⟨[]⟩ ⟨[.pointer (some ⟨b2, 0, none⟩), .pointer (some ⟨b3, 0, none⟩)]⟩) rfl (Pu.makeFunc rfl rfl) ?_
   refine JL_pure (v := .agg ⟨[.func (.func 77) ⟨[]⟩ ⟨[.pointer (some ⟨b2, 0, none⟩), .pointer (some ⟨b3, 0, none⟩)]⟩, .func (.func 80) ⟨[]⟩ ⟨[]⟩]⟩) rfl (Pu.build (pv := [(0, .func (.func 77) ⟨[]⟩ ⟨[.pointer (some ⟨b2, 0, none⟩), .pointer (some ⟨b3, 0, none⟩)]⟩), (1, .func (.func 80) ⟨[]⟩ ⟨[]⟩)]) (l := [.func (.func 77) ⟨[]⟩ ⟨[.pointer (some ⟨b2, 0, none⟩), .pointer (some ⟨b3, 0, none⟩)]⟩, .func (.func 80) ⟨[]⟩ ⟨[]⟩]) rfl (bld118_0_1 _ _ _ _ _ _)) ?_
   refine JL_run rfl (Pu_load ty27 rfl (At.bx 4 rfl) (sub_a (RT_len ht)) ?_)
   refine JL_call rfl Tryz.call81 rfl (fun hin => mapTermP_ct 80 [] [] Tryz.call80 (fun s => s) 77 [] [.pointer (some ⟨b2, 0, none⟩), .pointer (some ⟨b3, 0, none⟩)] Tryz.call77 (sbv m u) _ _ _ _ (RT.mono (Hle.hu _ _) ht) (by have := (checkT_ok (rightT2 ‹rightT [t, u] = 0›).1).1; omega) (checkT_ok (rightT2 ‹rightT [t, u] = 0›).1).2.1 (by decide) (by have := (checkT_ok (rightT2 ‹rightT [t, u] = 0›).1).1; omega) (fun s h hh => same_ct s h) (fun n b h hh h1 h2 h3 h4 => substV_ct n b m u _ h b2 b3 (hh _ _ (hin 3 _ rfl _ _ List.mem_cons_self)) (hh _ _ (hin 2 _ rfl _ _ List.mem_cons_self)) (RT.mono (Hle.trans (Hle.hu _ _) hh) hu1) (by have := (checkT_ok (rightT2 ‹rightT [t, u] = 0›).2).1; omega) (checkT_ok (rightT2 ‹rightT [t, u] = 0›).2).2.1 h1 h2 h3 h4)) rfl ?_
   rintro _ _ ⟨cs8, k8, rfl, rfl, hO8⟩
   refine JL_call rfl Tryz.call71 rfl (fun hin => short_ct _ _ _ (hO8.rd (hin 0 _ rfl))) rfl ?_
   rintro _ _ ⟨rfl, rfl⟩
   refine JL_pure (v := .agg ⟨(if longB (mapQ (fun s => s) (sbv m u) (0) (t)) = true then pkT 0 0 zS (.slice none 0 0) (.slice none 0 0) else cs8)⟩) rfl (Pu.extract rfl rfl) ?_
   refine JL_pure (v := .int .i64 ((if longB (mapQ (fun s => s) (sbv m u) (0) (t)) = true then 11 else 0))) rfl (Pu.extract rfl rfl) ?_
   refine JL_run rfl (Runs_storeB 2 (vs := (if longB (mapQ (fun s => s) (sbv m u) (0) (t)) = true then pkT 0 0 zS (.slice none 0 0) (.slice none 0 0) else cs8)) (l := (if longB (mapQ (fun s => s) (sbv m u) (0) (t)) = true then pkT 0 0 zS (.slice none 0 0) (.slice none 0 0) else cs8)) ty27 rfl rfl rfl rfl (len_ite (n := 36) rfl hO8.len) (okc_ite (pkT_ok rfl rfl) hO8.ok) (spl_a (n := 36) rfl (len_ite (n := 36) rfl hO8.len)) ?_)
   refine JL_pure (v := .int .i64 ((if longB (mapQ (fun s => s) (sbv m u) (0) (t)) = true then 11 else 0))) rfl (Pu.assign rfl) ?_
   refine JL_nil ?_
   refine J_ret ?_
   by_cases hL : longB (mapQ (fun s => s) (sbv m u) (0) (t)) = true
   ·refine ⟨.tuple ⟨[.agg ⟨(if longB (mapQ (fun s => s) (sbv m u) (0) (t)) = true then pkT 0 0 zS (.slice none 0 0) (.slice none 0 0) else cs8)⟩, .int .i64 ((if longB (mapQ (fun s => s) (sbv m u) (0) (t)) = true then 11 else 0))]⟩, [[]], Ret.two rfl (RV.cell ty27 rfl (At.bx 2 rfl) (sub_a (len_ite (n := 36) rfl hO8.len))) (RV.tmp rfl), (Sub.emp Sub.nil), ?_⟩
    have hx : substP t m u = (zT, 11) := by rw [substP, if_pos (by assumption), if_neg (by omega), if_pos (show longB (sbT m u t) = true from hL)]
    exact ⟨_, _, by rw [if_pos hL, if_pos hL, hx], rfl, by rw [hx]; exact OT_zero⟩
   ·refine ⟨.tuple ⟨[.agg ⟨(if longB (mapQ (fun s => s) (sbv m u) (0) (t)) = true then pkT 0 0 zS (.slice none 0 0) (.slice none 0 0) else cs8)⟩, .int .i64 ((if longB (mapQ (fun s => s) (sbv m u) (0) (t)) = true then 11 else 0))]⟩, [k8], Ret.two rfl (RV.cell ty27 rfl (At.bx 2 rfl) (sub_a (len_ite (n := 36) rfl hO8.len))) (RV.tmp rfl), (Sk Sub.nil), ?_⟩
    have hx : substP t m u = (mapQ (fun s => s) (sbv m u) (0) (t), 0) := by rw [substP, if_pos (by assumption), if_neg (by omega), if_neg (show ¬ longB (sbT m u t) = true from hL)]; rfl
    exact ⟨_, _, by rw [if_neg hL, if_neg hL, hx], rfl, by rw [hx]; exact hO8⟩
end Go.Proofs.YtdeinimmmjichaaGreat.Hs
/-! Walks, printed by a program of this session's own (gen.py). -/
namespace Go.Proofs.YtdeinimmmjichaaGreat.Hs
open Go Go.Proofs
set_option maxRecDepth 100000
set_option linter.unusedVariables false
set_option linter.unusedSimpArgs false
attribute [local irreducible] JL J CT wlo
theorem ownTerm_ct : ∀ (t : Tm) (cs : List Value) (H : Heap), RT H cs t → sizeT t ≤ 1000000 → CT Tryz.prog 10 ⟨[.agg ⟨cs⟩]⟩ [] H (fun v N => ∃ cs k, v = .agg ⟨cs⟩ ∧ N = [k] ∧ OT (t) cs k) := by
 intro t
 induction t using Tm.ind with
 | h kind num ref kids cases ih ih' =>
 intro cs H ht hz
 rw [sizeT] at hz
 have hlk := len_sizeTs kids
 have hlc := len_sizeCs cases
 obtain ⟨ks, cv, rfl, hk, hn, hks, hcv⟩ := RT_mk.1 ht
 refine CT_enter Tryz.func10 rfl rfl ?_
 refine J_seq ?_
 refine J_region ?_
 refine JL_run rfl (Runs_box (l := pkT (kind) (num) (ref) (ks) (cv)) rfl rfl fun b1 => ?_)
 refine JL_run rfl (Runs_alloc (l := pkT (0) (0) (zS) (.slice none 0 0) (.slice none 0 0)) Tryz.zeroValue27 rfl fun b2 => ?_)
 refine JL_nil ?_
 refine J_seq ?_
 refine J_draw mixed #[0, 1, 0, 4, 3, 31] 5 5 2 rfl (by kernel_rfl) (fun i r3 N3 => match i with | 0 => (r3 0) = .pointer (some ⟨b1, 34, none⟩) | 1 => (r3 1) = ks | 2 => (r3 2) = .pointer (some ⟨b1, 35, none⟩) | 3 => (r3 3) = cv | 4 => (r3 4) = ks | _ => True) ⟨?_, ?_, ?_, ?_, ?_, trivial⟩ ?_
 ·intro ρ r3 N3 B hB hBa hp hr hr0
  have q1 : ρ 1 = .pointer (some ⟨b1, 0, none⟩) := hr0 1 (by kernel_rfl)
  obtain ⟨ρ4, rfl⟩ := reopen_ex (uc q1 un)
  clear q1
  refine JL_pure (v := .pointer (some ⟨b1, 34, none⟩)) rfl (fa27_3 rfl rfl) ?_
  refine JL_nil ?_
  exact ⟨.pointer (some ⟨b1, 34, none⟩), [], rfl, (Sub.emp Sub.refl), rfl⟩
 ·intro ρ r3 N3 B hB hBa hp hr hr0
  have q9 : ρ 9 = .pointer (some ⟨b1, 34, none⟩) := (hr 0 _ _ (by decide) rfl rfl rfl).trans (hp 0 (by decide) rfl)
  obtain ⟨ρ5, rfl⟩ := reopen_ex (uc q9 un)
  clear q9
  refine JL_run rfl (Pu_load1 ty24 rfl (At.bx 6 (made_old ((hB 1 (by decide)).trans rfl))) (pkT_34 ..) ?_)
  refine JL_nil ?_
  exact ⟨ks, [], rfl, (Sub.emp Sub.refl), rfl⟩
 ·intro ρ r3 N3 B hB hBa hp hr hr0
  have q1 : ρ 1 = .pointer (some ⟨b1, 0, none⟩) := hr0 1 (by kernel_rfl)
  obtain ⟨ρ6, rfl⟩ := reopen_ex (uc q1 un)
  clear q1
  refine JL_pure (v := .pointer (some ⟨b1, 35, none⟩)) rfl (fa27_4 rfl rfl) ?_
  refine JL_nil ?_
  exact ⟨.pointer (some ⟨b1, 35, none⟩), [], rfl, (Sub.emp Sub.refl), rfl⟩
 ·intro ρ r3 N3 B hB hBa hp hr hr0
  have q11 : ρ 11 = .pointer (some ⟨b1, 35, none⟩) := (hr 2 _ _ (by decide) rfl rfl rfl).trans (hp 2 (by decide) rfl)
  obtain ⟨ρ7, rfl⟩ := reopen_ex (uc q11 un)
  clear q11
  refine JL_run rfl (Pu_load1 ty25 rfl (At.bx 6 (made_old ((hB 1 (by decide)).trans rfl))) (pkT_35 ..) ?_)
  refine JL_nil ?_
  exact ⟨cv, [], rfl, (Sub.emp Sub.refl), rfl⟩
 ·intro ρ r3 N3 B hB hBa hp hr hr0
  have q10 : ρ 10 = ks := (hr 1 _ _ (by decide) rfl rfl rfl).trans (hp 1 (by decide) rfl)
  obtain ⟨ρ8, rfl⟩ := reopen_ex (uc q10 un)
  clear q10
  refine JL_pure (v := ks) rfl (Pu.assign rfl) ?_
  refine JL_nil ?_
  exact ⟨ks, [], rfl, (Sub.emp Sub.refl), rfl⟩
 ·intro ρ r3 N3 hp hr hr0
  have q1 : ρ 1 = .pointer (some ⟨b1, 0, none⟩) := hr0 1 (by kernel_rfl)
  have q2 : ρ 2 = .pointer (some ⟨b2, 0, none⟩) := hr0 2 (by kernel_rfl)
  have q3 : ρ 3 = ks := (hr 4 _ _ (by decide) rfl rfl).trans (hp 4 (by decide))
  have q12 : ρ 12 = cv := (hr 3 _ _ (by decide) rfl rfl).trans (hp 3 (by decide))
  obtain ⟨ρ9, rfl⟩ := reopen_ex (uc q1 (uc q2 (uc q3 (uc q12 un))))
  clear q1 q2 q3 q12
  clear hp hr hr0 
  refine JL_sub (M' := [(N3 0), (N3 1), (N3 2), (N3 3), (N3 4), [(b2, .cells ⟨pkT (0) (0) (zS) (.slice none 0 0) (.slice none 0 0)⟩ 27 (0, 0))], [(b1, .cells ⟨pkT (kind) (num) (ref) (ks) (cv)⟩ 27 (0, 0))]]) Sub.refl ?_
  refine JL_sub (M' := [[(b2, .cells ⟨pkT (0) (0) (zS) (.slice none 0 0) (.slice none 0 0)⟩ 27 (0, 0))], [(b1, .cells ⟨pkT (kind) (num) (ref) (ks) (cv)⟩ 27 (0, 0))]]) (Sd (Sd (Sd (Sd (Sd (Sk (Sk Sub.nil))))))) ?_
  show JL _ _ _ [_] _ _ _
  refine JL_pure (v := cv) rfl (Pu.assign rfl) ?_
  refine JL_nil ?_
  refine J_seq ?_
  refine J_region ?_
  refine JL_pure (v := .pointer (some ⟨b1, 34, none⟩)) rfl (fa27_3 rfl rfl) ?_
  refine JL_run rfl (Runs_storeB 1 (vs := [.slice none 0 0]) (l := pkT (kind) (num) (ref) (.slice none 0 0) (cv)) ty24 rfl rfl rfl rfl rfl (okc_cons rfl okc_nil) (pkT_s34 ..) ?_)
  refine JL_pure (v := .pointer (some ⟨b1, 35, none⟩)) rfl (fa27_4 rfl rfl) ?_
  refine JL_run rfl (Runs_storeB 1 (vs := [.slice none 0 0]) (l := pkT (kind) (num) (ref) (.slice none 0 0) (.slice none 0 0)) ty25 rfl rfl rfl rfl rfl (okc_cons rfl okc_nil) (pkT_s35 ..) ?_)
  refine JL_nil ?_
  refine J_seq ?_
  refine J_seq ?_
  refine J_region ?_
  refine JL_pure (v := ks) rfl (Pu.move rfl) ?_
  obtain ⟨a10, cap10, hv10⟩ := hks.sl
  have hle10 := hks.le
  refine JL_pure (v := .int .i64 (((kids).length : Int))) rfl (Pu.lenSl Tryz.runUnderlying24 hv10) ?_
  refine JL_pure (v := .int .i64 (0)) rfl (Pu.move rfl) ?_
  refine JL_nil ?_
  refine J_block ?_
  refine J_loop (fun k ρ M => ∃ (j : Nat) (v : Value) (es : List (List Value)) (k1 k2 : Chunk), ρ 1 = .pointer (some ⟨b1, 0, none⟩) ∧ ρ 2 = .pointer (some ⟨b2, 0, none⟩) ∧ ρ 4 = cv ∧ ρ 15 = ks ∧ ρ 16 = .int .i64 (((kids).length : Int)) ∧ ρ 17 = .int .i64 ((j : Int)) ∧ Sub [[(b1, .cells ⟨pkT (kind) (num) (ref) (v) (.slice none 0 0)⟩ 27 (0, 0))], k1, k2, [(b2, .cells ⟨pkT (0) (0) (zS) (.slice none 0 0) (.slice none 0 0)⟩ 27 (0, 0))]] M ∧ j ≤ (kids).length ∧ Own 27 36 v es k1 ∧ OTs ((kids.take j)) es k2 ∧ k = (kids).length - j) _ ⟨0, (.slice none 0 0), [], [], [], rfl, rfl, rfl, rfl, rfl, rfl, (Sub.cons 1 rfl (Sub.emp (Sub.emp (Sk Sub.nil)))), Nat.zero_le _, Own.nil, OTs.nil, rfl⟩ ?_
  rintro _ ρ11 _ ⟨j, v, es, k1, k2, e12, e13, e14, e15, e16, e17, hm18, hj, hov, hopv, rfl⟩
  obtain ⟨ρ19, rfl⟩ := reopen_ex (uc e12 (uc e13 (uc e14 (uc e15 (uc e16 (uc e17 un))))))
  clear e12 e13 e14 e15 e16 e17
  refine J_sub hm18 ?_
  have hlen := hks.le
  refine J_seq ?_
  refine J_region ?_
  refine JL_pure (v := .bool (decide ((j : Int) < ((kids).length : Int)))) rfl (Pu.lss rfl rfl) ?_
  refine JL_nil ?_
  refine J_seq ?_
  refine J_cond (b := decide ((j : Int) < ((kids).length : Int))) rfl (fun h20 => ?_) (fun h20 => ?_)
  ·skip
   replace h20 := dt h20
   have h20n : j < (kids).length := by omega
   have helv := OTs_len hopv
   rw [List.length_take] at helv
   have hs1 := sizeTs_mem _ (List.getElem_mem h20n)
   refine J_skip ?_
   refine J_seq ?_
   refine J_block ?_
   refine J_seq ?_
   refine J_region ?_
   obtain ⟨b21, o21, cap21, row21, T21, fr21, cs21, hv21, hb21, hs21, hE21⟩ := hks.get j (by first | assumption | omega | decide | simp)
   refine JL_pure (v := .pointer (some ⟨b21, o21 + j * 36, none⟩)) rfl (Pu.idx j Tryz.runUnderlying24 ty27 hv21 rfl rfl (by first | assumption | omega | decide | simp)) ?_
   refine JL_run rfl (Pu_load ty27 rfl (At.im hb21) hs21 ?_)
   refine JL_run rfl (Runs_alloc (l := pkT (0) (0) (zS) (.slice none 0 0) (.slice none 0 0)) Tryz.zeroValue27 rfl fun b22 => ?_)
   refine JL_run rfl (Runs_storeB 0 (vs := cs21) (l := cs21) ty27 rfl rfl rfl rfl (RT_len hE21) (RT_ok hE21) (spl_a (n := 36) rfl (RT_len hE21)) ?_)
   refine JL_nil ?_
   refine J_draw mixed #[0, 1, 0, 4, 12, 31, 63, 127] 5 5 5 rfl (by kernel_rfl) (fun i r23 N23 => match i with | 0 => (r23 0) = .pointer (some ⟨b1, 34, none⟩) | 1 => (r23 1) = v | 2 => (r23 2) = .agg ⟨cs21⟩ | 3 => (r23 3) = .agg ⟨(cel (r23 3))⟩ ∧ OT ((kids)[j]) (cel (r23 3)) (N23 3) | 4 => (r23 4) = .slice (some ⟨(sblk (r23 4)), 0, none⟩) 1 1 ∧ (N23 4) = [(sblk (r23 4), .cells ⟨List.flatten [(cel (r23 3))]⟩ 27 (0, 0))] ∧ Own 27 36 (.slice (some ⟨(sblk (r23 4)), 0, none⟩) 1 1) [(cel (r23 3))] (N23 4) | _ => True) ⟨?_, ?_, ?_, ?_, ?_, trivial⟩ ?_
   ·intro ρ r23 N23 B hB hBa hp hr hr0
    have q1 : ρ 1 = .pointer (some ⟨b1, 0, none⟩) := hr0 1 (by kernel_rfl)
    obtain ⟨ρ24, rfl⟩ := reopen_ex (uc q1 un)
    clear q1
    refine JL_pure (v := .pointer (some ⟨b1, 34, none⟩)) rfl (fa27_3 rfl rfl) ?_
    refine JL_nil ?_
    exact ⟨.pointer (some ⟨b1, 34, none⟩), [], rfl, (Sub.emp Sub.refl), rfl⟩
   ·intro ρ r23 N23 B hB hBa hp hr hr0
    have q21 : ρ 21 = .pointer (some ⟨b1, 34, none⟩) := (hr 0 _ _ (by decide) rfl rfl rfl).trans (hp 0 (by decide) rfl)
    obtain ⟨ρ25, rfl⟩ := reopen_ex (uc q21 un)
    clear q21
    refine JL_run rfl (Pu_load1 ty24 rfl (At.bx 6 (made_old ((hB 1 (by decide)).trans rfl))) (pkT_34 ..) ?_)
    refine JL_nil ?_
    exact ⟨v, [], rfl, (Sub.emp Sub.refl), rfl⟩
   ·intro ρ r23 N23 B hB hBa hp hr hr0
    have q6 : ρ 6 = .pointer (some ⟨b22, 0, none⟩) := hr0 6 (by kernel_rfl)
    obtain ⟨ρ26, rfl⟩ := reopen_ex (uc q6 un)
    clear q6
    refine JL_run rfl (Pu_load ty27 rfl (At.bx 5 (made_old ((hB 0 (by decide)).trans rfl))) (sub_a (RT_len hE21)) ?_)
    refine JL_nil ?_
    exact ⟨.agg ⟨cs21⟩, [], rfl, (Sub.emp Sub.refl), rfl⟩
   ·intro ρ r23 N23 B hB hBa hp hr hr0
    have q23 : ρ 23 = .agg ⟨cs21⟩ := (hr 2 _ _ (by decide) rfl rfl rfl).trans (hp 2 (by decide) rfl)
    obtain ⟨ρ27, rfl⟩ := reopen_ex (uc q23 un)
    clear q23
    refine JL_call rfl Tryz.call10 rfl (fun hin => ih _ (List.getElem_mem h20n) _ _ (RT.mono (Hle.hu _ _) hE21) (by omega)) rfl ?_
    rintro _ _ ⟨cs28, k28, rfl, rfl, hO28⟩
    refine JL_nil ?_
    exact ⟨.agg ⟨cs28⟩, k28, rfl, Sub.refl, ⟨rfl, hO28⟩⟩
   ·intro ρ r23 N23 B hB hBa hp hr hr0
    have p3 : (r23 3) = .agg ⟨(cel (r23 3))⟩ ∧ OT ((kids)[j]) (cel (r23 3)) (N23 3) := hp 3 (by decide) rfl
    have q24 : ρ 24 = .agg ⟨(cel (r23 3))⟩ := (hr 3 _ _ (by decide) rfl rfl rfl).trans p3.1
    obtain ⟨ρ29, rfl⟩ := reopen_ex (uc q24 un)
    clear q24
    refine JL_run rfl (Runs_buildSlice (vs := [.agg ⟨(cel (r23 3))⟩]) [(cel (r23 3))] Tryz.runUnderlying24 el27 rfl rfl (by intro e he; simp only [List.mem_cons, List.not_mem_nil, or_false] at he; subst he; exact p3.2.len) rfl (by decide) fun b30 k30 ho30 hk30 => ?_)
    refine JL_nil ?_
    exact ⟨.slice (some ⟨b30, 0, none⟩) 1 1, k30, rfl, Sub.refl, ⟨rfl, hk30, ho30⟩⟩
   ·intro ρ r23 N23 hp hr hr0
    have p3 : (r23 3) = .agg ⟨(cel (r23 3))⟩ ∧ OT ((kids)[j]) (cel (r23 3)) (N23 3) := hp 3 (by decide)
    have p4 : (r23 4) = .slice (some ⟨(sblk (r23 4)), 0, none⟩) 1 1 ∧ (N23 4) = [(sblk (r23 4), .cells ⟨List.flatten [(cel (r23 3))]⟩ 27 (0, 0))] ∧ Own 27 36 (.slice (some ⟨(sblk (r23 4)), 0, none⟩) 1 1) [(cel (r23 3))] (N23 4) := hp 4 (by decide)
    have q1 : ρ 1 = .pointer (some ⟨b1, 0, none⟩) := hr0 1 (by kernel_rfl)
    have q2 : ρ 2 = .pointer (some ⟨b2, 0, none⟩) := hr0 2 (by kernel_rfl)
    have q4 : ρ 4 = cv := hr0 4 (by kernel_rfl)
    have q15 : ρ 15 = ks := hr0 15 (by kernel_rfl)
    have q16 : ρ 16 = .int .i64 (((kids).length : Int)) := hr0 16 (by kernel_rfl)
    have q17 : ρ 17 = .int .i64 ((j : Int)) := hr0 17 (by kernel_rfl)
    have q22 : ρ 22 = v := (hr 1 _ _ (by decide) rfl rfl).trans (hp 1 (by decide))
    have q25 : ρ 25 = .slice (some ⟨(sblk (r23 4)), 0, none⟩) 1 1 := (hr 4 _ _ (by decide) rfl rfl).trans p4.1
    obtain ⟨ρ31, rfl⟩ := reopen_ex (uc q1 (uc q2 (uc q4 (uc q15 (uc q16 (uc q17 (uc q22 (uc q25 un))))))))
    clear q1 q2 q4 q15 q16 q17 q22 q25
    have p23_3 := p3; have p23_4 := p4
    clear hp hr hr0 p3 p4
    refine JL_sub (M' := [(N23 0), (N23 1), (N23 2), (N23 3), (N23 4), [(b22, .cells ⟨cs21⟩ 27 (0, 0))], [(b1, .cells ⟨pkT (kind) (num) (ref) (v) (.slice none 0 0)⟩ 27 (0, 0))], k1, k2, [(b2, .cells ⟨pkT (0) (0) (zS) (.slice none 0 0) (.slice none 0 0)⟩ 27 (0, 0))]]) Sub.refl ?_
    refine JL_sub (M' := [(N23 3), (N23 4), [(b22, .cells ⟨cs21⟩ 27 (0, 0))], [(b1, .cells ⟨pkT (kind) (num) (ref) (v) (.slice none 0 0)⟩ 27 (0, 0))], k1, k2, [(b2, .cells ⟨pkT (0) (0) (zS) (.slice none 0 0) (.slice none 0 0)⟩ 27 (0, 0))]]) (Sd (Sd (Sd (Sk (Sk (Sk (Sk (Sk (Sk (Sk Sub.nil)))))))))) ?_
    show JL _ _ _ [_, _, _] _ _ _
    have hlens32 : ∀ e ∈ ([(cel (r23 3))] : List (List Value)), List.length e = 36 := by
     intro e he; simp only [List.mem_cons, List.not_mem_nil, or_false] at he
     rcases he with rfl
     ·exact p23_3.2.len
    have hoks32 : ∀ e ∈ ([(cel (r23 3))] : List (List Value)), okc e := by
     intro e he; simp only [List.mem_cons, List.not_mem_nil, or_false] at he
     rcases he with rfl
     ·exact p23_3.2.ok
    refine JL_run rfl (Runs_append (i := 4) (n := 1) (es' := [(cel (r23 3))]) Tryz.runUnderlying24 Tryz.runUnderlying24 (Or.inl rfl) el27 rfl rfl rfl hov (fun F w m => Src.row (((At.k 1 rfl (by rw [p23_4.2.1]; exact List.mem_cons_self))).heap m) (sub_a (flatten_len hlens32))) rfl hlens32 hoks32 (by decide) (by omega) fun v32 k32 ho32 => ?_)
    refine JL_pure (v := .pointer (some ⟨b1, 34, none⟩)) rfl (fa27_3 rfl rfl) ?_
    refine JL_run rfl (Runs_storeB 3 (vs := [v32]) (l := pkT (kind) (num) (ref) (v32) (.slice none 0 0)) ty24 rfl rfl rfl (cells_one ho32.one) rfl (okc_cons ho32.one okc_nil) (pkT_s34 ..) ?_)
    refine JL_nil ?_
    refine J_region ?_
    refine JL_pure (v := .int .i64 (((j + 1 : Nat) : Int))) rfl (Pu.inc rfl rfl (by omega)) ?_
    refine JL_pure (v := .int .i64 (((j + 1 : Nat) : Int))) rfl (Pu.move rfl) ?_
    refine JL_nil ?_
    refine ⟨_, ?_, (j + 1), (v32), (es ++ [(cel (r23 3))]), (k32), ((k2) ++ ((N23 3))), rfl, rfl, rfl, rfl, rfl, rfl, (Sub.cons 3 rfl (Sub.cons 3 rfl (Sub.join (Sub.cons 3 rfl (Sk (Sd (Sd (Sk Sub.nil)))))))), ?_, ?_, ?_, rfl⟩
    ·omega
    ·omega
    ·assumption
    ·rw [List.take_succ_eq_append_getElem h20n]; exact OTs.snoc p23_3.2 hopv
  ·skip
   replace h20 := df h20
   have h20n : (kids).length ≤ j := by omega
   refine J_exit _ rfl ?_
   refine J_seq ?_
   refine J_seq ?_
   refine J_region ?_
   refine JL_pure (v := cv) rfl (Pu.move rfl) ?_
   obtain ⟨a33, cap33, hv33⟩ := hcv.sl
   have hle33 := hcv.le
   refine JL_pure (v := .int .i64 (((cases).length : Int))) rfl (Pu.lenSl Tryz.runUnderlying25 hv33) ?_
   refine JL_pure (v := .int .i64 (0)) rfl (Pu.move rfl) ?_
   refine JL_nil ?_
   refine J_block ?_
   rw [List.take_of_length_le h20n] at hopv
   refine J_loop (fun k ρ M => ∃ (j : Nat) (w : Value) (es2 : List (List Value)) (k3 k4 : Chunk), ρ 1 = .pointer (some ⟨b1, 0, none⟩) ∧ ρ 2 = .pointer (some ⟨b2, 0, none⟩) ∧ ρ 29 = cv ∧ ρ 30 = .int .i64 (((cases).length : Int)) ∧ ρ 31 = .int .i64 ((j : Int)) ∧ Sub [[(b1, .cells ⟨pkT (kind) (num) (ref) (v) (w)⟩ 27 (0, 0))], k3, k4, k1, k2, [(b2, .cells ⟨pkT (0) (0) (zS) (.slice none 0 0) (.slice none 0 0)⟩ 27 (0, 0))]] M ∧ j ≤ (cases).length ∧ Own 34 71 w es2 k3 ∧ OCs ((cases.take j)) es2 k4 ∧ k = (cases).length - j) _ ⟨0, (.slice none 0 0), [], [], [], rfl, rfl, rfl, rfl, rfl, (Sk (Sub.emp (Sub.emp (Sk (Sk (Sk Sub.nil)))))), Nat.zero_le _, Own.nil, OCs.nil, rfl⟩ ?_
   rintro _ ρ34 _ ⟨j, w, es2, k3, k4, e35, e36, e37, e38, e39, hm40, hj, how, hopw, rfl⟩
   obtain ⟨ρ41, rfl⟩ := reopen_ex (uc e35 (uc e36 (uc e37 (uc e38 (uc e39 un)))))
   clear e35 e36 e37 e38 e39
   refine J_sub hm40 ?_
   have hlen := hcv.le
   refine J_seq ?_
   refine J_region ?_
   refine JL_pure (v := .bool (decide ((j : Int) < ((cases).length : Int)))) rfl (Pu.lss rfl rfl) ?_
   refine JL_nil ?_
   refine J_seq ?_
   refine J_cond (b := decide ((j : Int) < ((cases).length : Int))) rfl (fun h42 => ?_) (fun h42 => ?_)
   ·skip
    replace h42 := dt h42
    have h42n : j < (cases).length := by omega
    have helw := OCs_len hopw
    rw [List.length_take] at helw
    have hs1 := sizeCs_mem _ (List.getElem_mem h42n)
    refine J_skip ?_
    refine J_seq ?_
    refine J_block ?_
    refine J_seq ?_
    refine J_region ?_
    obtain ⟨b43, o43, cap43, row43, T43, fr43, cs43, hv43, hb43, hs43, hE43⟩ := hcv.get j (by first | assumption | omega | decide | simp)
    obtain ⟨ca43, cb43, rfl, hA43, hB43⟩ := hE43
    refine JL_pure (v := .pointer (some ⟨b43, o43 + j * 71, none⟩)) rfl (Pu.idx j Tryz.runUnderlying25 ty34 hv43 rfl rfl (by first | assumption | omega | decide | simp)) ?_
    refine JL_run rfl (Pu_load ty34 rfl (At.im hb43) hs43 ?_)
    refine JL_run rfl (Runs_alloc (l := (pkP (0) (0) (zS) (.slice none 0 0)) ++ (pkT (0) (0) (zS) (.slice none 0 0) (.slice none 0 0))) Tryz.zeroValue34 rfl fun b44 => ?_)
    refine JL_run rfl (Runs_storeB 0 (vs := (ca43) ++ (cb43)) (l := (ca43) ++ (cb43)) ty34 rfl rfl rfl rfl (len_app (RP_len hA43) (RT_len hB43)) (okc_app (RP_ok hA43) (RT_ok hB43)) (spl_a (n := 71) rfl (len_app (RP_len hA43) (RT_len hB43))) ?_)
    refine JL_nil ?_
    refine J_draw mixed #[0, 1, 0, 4, 12, 0, 32, 124, 252, 508, 1023, 2047, 4095] 10 10 7 rfl (by kernel_rfl) (fun i r45 N45 => match i with | 0 => (r45 0) = .pointer (some ⟨b1, 35, none⟩) | 1 => (r45 1) = w | 2 => (r45 2) = .pointer (some ⟨b44, 0, none⟩) | 3 => (r45 3) = .agg ⟨ca43⟩ | 4 => (r45 4) = .agg ⟨(cel (r45 4))⟩ ∧ OP ((cases)[j].1) (cel (r45 4)) (N45 4) | 5 => (r45 5) = .pointer (some ⟨b44, 35, none⟩) | 6 => (r45 6) = .agg ⟨cb43⟩ | 7 => (r45 7) = .agg ⟨(cel (r45 7))⟩ ∧ OT ((cases)[j].2) (cel (r45 7)) (N45 7) | 8 => (r45 8) = .agg ⟨((cel (r45 4))) ++ ((cel (r45 7)))⟩ | 9 => (r45 9) = .slice (some ⟨(sblk (r45 9)), 0, none⟩) 1 1 ∧ (N45 9) = [(sblk (r45 9), .cells ⟨List.flatten [((cel (r45 4))) ++ ((cel (r45 7)))]⟩ 34 (0, 0))] ∧ Own 34 71 (.slice (some ⟨(sblk (r45 9)), 0, none⟩) 1 1) [((cel (r45 4))) ++ ((cel (r45 7)))] (N45 9) | _ => True) ⟨?_, ?_, ?_, ?_, ?_, ?_, ?_, ?_, ?_, ?_, trivial⟩ ?_
    ·intro ρ r45 N45 B hB hBa hp hr hr0
     have q1 : ρ 1 = .pointer (some ⟨b1, 0, none⟩) := hr0 1 (by kernel_rfl)
     obtain ⟨ρ46, rfl⟩ := reopen_ex (uc q1 un)
     clear q1
     refine JL_pure (v := .pointer (some ⟨b1, 35, none⟩)) rfl (fa27_4 rfl rfl) ?_
     refine JL_nil ?_
     exact ⟨.pointer (some ⟨b1, 35, none⟩), [], rfl, (Sub.emp Sub.refl), rfl⟩
    ·intro ρ r45 N45 B hB hBa hp hr hr0
     have q35 : ρ 35 = .pointer (some ⟨b1, 35, none⟩) := (hr 0 _ _ (by decide) rfl rfl rfl).trans (hp 0 (by decide) rfl)
     obtain ⟨ρ47, rfl⟩ := reopen_ex (uc q35 un)
     clear q35
     refine JL_run rfl (Pu_load1 ty25 rfl (At.bx 11 (made_old ((hB 1 (by decide)).trans rfl))) (pkT_35 ..) ?_)
     refine JL_nil ?_
     exact ⟨w, [], rfl, (Sub.emp Sub.refl), rfl⟩
    ·intro ρ r45 N45 B hB hBa hp hr hr0
     have q8 : ρ 8 = .pointer (some ⟨b44, 0, none⟩) := hr0 8 (by kernel_rfl)
     obtain ⟨ρ48, rfl⟩ := reopen_ex (uc q8 un)
     clear q8
     refine JL_pure (v := .pointer (some ⟨b44, 0, none⟩)) rfl (fa34_0 rfl rfl) ?_
     refine JL_nil ?_
     exact ⟨.pointer (some ⟨b44, 0, none⟩), [], rfl, (Sub.emp Sub.refl), rfl⟩
    ·intro ρ r45 N45 B hB hBa hp hr hr0
     have q37 : ρ 37 = .pointer (some ⟨b44, 0, none⟩) := (hr 2 _ _ (by decide) rfl rfl rfl).trans (hp 2 (by decide) rfl)
     obtain ⟨ρ49, rfl⟩ := reopen_ex (uc q37 un)
     clear q37
     refine JL_run rfl (Pu_load ty30 rfl (At.bx 10 (made_old ((hB 0 (by decide)).trans rfl))) (sub_l (RP_len hA43)) ?_)
     refine JL_nil ?_
     exact ⟨.agg ⟨ca43⟩, [], rfl, (Sub.emp Sub.refl), rfl⟩
    ·intro ρ r45 N45 B hB hBa hp hr hr0
     have q38 : ρ 38 = .agg ⟨ca43⟩ := (hr 3 _ _ (by decide) rfl rfl rfl).trans (hp 3 (by decide) rfl)
     obtain ⟨ρ50, rfl⟩ := reopen_ex (uc q38 un)
     clear q38
     refine JL_call rfl Tryz.call11 rfl (fun hin => ownPattern_ct _ _ _ (RP.mono (Hle.hu _ _) hA43) (by omega)) rfl ?_
     rintro _ _ ⟨cs51, k51, rfl, rfl, hO51⟩
     refine JL_nil ?_
     exact ⟨.agg ⟨cs51⟩, k51, rfl, Sub.refl, ⟨rfl, hO51⟩⟩
    ·intro ρ r45 N45 B hB hBa hp hr hr0
     have q8 : ρ 8 = .pointer (some ⟨b44, 0, none⟩) := hr0 8 (by kernel_rfl)
     obtain ⟨ρ52, rfl⟩ := reopen_ex (uc q8 un)
     clear q8
     refine JL_pure (v := .pointer (some ⟨b44, 35, none⟩)) rfl (fa34_1 rfl rfl) ?_
     refine JL_nil ?_
     exact ⟨.pointer (some ⟨b44, 35, none⟩), [], rfl, (Sub.emp Sub.refl), rfl⟩
    ·intro ρ r45 N45 B hB hBa hp hr hr0
     have q40 : ρ 40 = .pointer (some ⟨b44, 35, none⟩) := (hr 5 _ _ (by decide) rfl rfl rfl).trans (hp 5 (by decide) rfl)
     obtain ⟨ρ53, rfl⟩ := reopen_ex (uc q40 un)
     clear q40
     refine JL_run rfl (Pu_load ty27 rfl (At.bx 10 (made_old ((hB 0 (by decide)).trans rfl))) (sub_r (RP_len hA43) (RT_len hB43)) ?_)
     refine JL_nil ?_
     exact ⟨.agg ⟨cb43⟩, [], rfl, (Sub.emp Sub.refl), rfl⟩
    ·intro ρ r45 N45 B hB hBa hp hr hr0
     have q41 : ρ 41 = .agg ⟨cb43⟩ := (hr 6 _ _ (by decide) rfl rfl rfl).trans (hp 6 (by decide) rfl)
     obtain ⟨ρ54, rfl⟩ := reopen_ex (uc q41 un)
     clear q41
     refine JL_call rfl Tryz.call10 rfl (fun hin => ih' _ (List.getElem_mem h42n) _ _ (RT.mono (Hle.hu _ _) hB43) (by omega)) rfl ?_
     rintro _ _ ⟨cs55, k55, rfl, rfl, hO55⟩
     refine JL_nil ?_
     exact ⟨.agg ⟨cs55⟩, k55, rfl, Sub.refl, ⟨rfl, hO55⟩⟩
    ·intro ρ r45 N45 B hB hBa hp hr hr0
     have p4 : (r45 4) = .agg ⟨(cel (r45 4))⟩ ∧ OP ((cases)[j].1) (cel (r45 4)) (N45 4) := hp 4 (by decide) rfl
     have p7 : (r45 7) = .agg ⟨(cel (r45 7))⟩ ∧ OT ((cases)[j].2) (cel (r45 7)) (N45 7) := hp 7 (by decide) rfl
     have q39 : ρ 39 = .agg ⟨(cel (r45 4))⟩ := (hr 4 _ _ (by decide) rfl rfl rfl).trans p4.1
     have q42 : ρ 42 = .agg ⟨(cel (r45 7))⟩ := (hr 7 _ _ (by decide) rfl rfl rfl).trans p7.1
     obtain ⟨ρ56, rfl⟩ := reopen_ex (uc q39 (uc q42 un))
     clear q39 q42
     refine JL_pure (v := .agg ⟨((cel (r45 4))) ++ ((cel (r45 7)))⟩) rfl (Pu.build (pv := [(0, .agg ⟨(cel (r45 4))⟩), (1, .agg ⟨(cel (r45 7))⟩)]) (l := ((cel (r45 4))) ++ ((cel (r45 7)))) rfl (bld34_0_1 p4.2.len p7.2.len)) ?_
     refine JL_nil ?_
     exact ⟨.agg ⟨((cel (r45 4))) ++ ((cel (r45 7)))⟩, [], rfl, (Sub.emp Sub.refl), rfl⟩
    ·intro ρ r45 N45 B hB hBa hp hr hr0
     have p4 : (r45 4) = .agg ⟨(cel (r45 4))⟩ ∧ OP ((cases)[j].1) (cel (r45 4)) (N45 4) := hp 4 (by decide) rfl
     have p7 : (r45 7) = .agg ⟨(cel (r45 7))⟩ ∧ OT ((cases)[j].2) (cel (r45 7)) (N45 7) := hp 7 (by decide) rfl
     have q43 : ρ 43 = .agg ⟨((cel (r45 4))) ++ ((cel (r45 7)))⟩ := (hr 8 _ _ (by decide) rfl rfl rfl).trans (hp 8 (by decide) rfl)
     obtain ⟨ρ57, rfl⟩ := reopen_ex (uc q43 un)
     clear q43
     refine JL_run rfl (Runs_buildSlice (vs := [.agg ⟨((cel (r45 4))) ++ ((cel (r45 7)))⟩]) [((cel (r45 4))) ++ ((cel (r45 7)))] Tryz.runUnderlying25 el34 rfl rfl (by intro e he; simp only [List.mem_cons, List.not_mem_nil, or_false] at he; subst he; exact (len_app p4.2.len p7.2.len)) rfl (by decide) fun b58 k58 ho58 hk58 => ?_)
     refine JL_nil ?_
     exact ⟨.slice (some ⟨b58, 0, none⟩) 1 1, k58, rfl, Sub.refl, ⟨rfl, hk58, ho58⟩⟩
    ·intro ρ r45 N45 hp hr hr0
     have p4 : (r45 4) = .agg ⟨(cel (r45 4))⟩ ∧ OP ((cases)[j].1) (cel (r45 4)) (N45 4) := hp 4 (by decide)
     have p7 : (r45 7) = .agg ⟨(cel (r45 7))⟩ ∧ OT ((cases)[j].2) (cel (r45 7)) (N45 7) := hp 7 (by decide)
     have p9 : (r45 9) = .slice (some ⟨(sblk (r45 9)), 0, none⟩) 1 1 ∧ (N45 9) = [(sblk (r45 9), .cells ⟨List.flatten [((cel (r45 4))) ++ ((cel (r45 7)))]⟩ 34 (0, 0))] ∧ Own 34 71 (.slice (some ⟨(sblk (r45 9)), 0, none⟩) 1 1) [((cel (r45 4))) ++ ((cel (r45 7)))] (N45 9) := hp 9 (by decide)
     have q1 : ρ 1 = .pointer (some ⟨b1, 0, none⟩) := hr0 1 (by kernel_rfl)
     have q2 : ρ 2 = .pointer (some ⟨b2, 0, none⟩) := hr0 2 (by kernel_rfl)
     have q29 : ρ 29 = cv := hr0 29 (by kernel_rfl)
     have q30 : ρ 30 = .int .i64 (((cases).length : Int)) := hr0 30 (by kernel_rfl)
     have q31 : ρ 31 = .int .i64 ((j : Int)) := hr0 31 (by kernel_rfl)
     have q36 : ρ 36 = w := (hr 1 _ _ (by decide) rfl rfl).trans (hp 1 (by decide))
     have q44 : ρ 44 = .slice (some ⟨(sblk (r45 9)), 0, none⟩) 1 1 := (hr 9 _ _ (by decide) rfl rfl).trans p9.1
     obtain ⟨ρ59, rfl⟩ := reopen_ex (uc q1 (uc q2 (uc q29 (uc q30 (uc q31 (uc q36 (uc q44 un)))))))
     clear q1 q2 q29 q30 q31 q36 q44
     have p45_4 := p4; have p45_7 := p7; have p45_9 := p9
     clear hp hr hr0 p4 p7 p9
     refine JL_sub (M' := [(N45 0), (N45 1), (N45 2), (N45 3), (N45 4), (N45 5), (N45 6), (N45 7), (N45 8), (N45 9), [(b44, .cells ⟨(ca43) ++ (cb43)⟩ 34 (0, 0))], [(b1, .cells ⟨pkT (kind) (num) (ref) (v) (w)⟩ 27 (0, 0))], k3, k4, k1, k2, [(b2, .cells ⟨pkT (0) (0) (zS) (.slice none 0 0) (.slice none 0 0)⟩ 27 (0, 0))]]) Sub.refl ?_
     refine JL_sub (M' := [(N45 4), (N45 7), (N45 9), [(b44, .cells ⟨(ca43) ++ (cb43)⟩ 34 (0, 0))], [(b1, .cells ⟨pkT (kind) (num) (ref) (v) (w)⟩ 27 (0, 0))], k3, k4, k1, k2, [(b2, .cells ⟨pkT (0) (0) (zS) (.slice none 0 0) (.slice none 0 0)⟩ 27 (0, 0))]]) (Sd (Sd (Sd (Sd (Sk (Sd (Sd (Sk (Sd (Sk (Sk (Sk (Sk (Sk (Sk (Sk (Sk Sub.nil))))))))))))))))) ?_
     show JL _ _ _ [_, _, _] _ _ _
     have hlens60 : ∀ e ∈ ([((cel (r45 4))) ++ ((cel (r45 7)))] : List (List Value)), List.length e = 71 := by
      intro e he; simp only [List.mem_cons, List.not_mem_nil, or_false] at he
      rcases he with rfl
      ·exact (len_app p45_4.2.len p45_7.2.len)
     have hoks60 : ∀ e ∈ ([((cel (r45 4))) ++ ((cel (r45 7)))] : List (List Value)), okc e := by
      intro e he; simp only [List.mem_cons, List.not_mem_nil, or_false] at he
      rcases he with rfl
      ·exact (okc_app p45_4.2.ok p45_7.2.ok)
     refine JL_run rfl (Runs_append (i := 5) (n := 1) (es' := [((cel (r45 4))) ++ ((cel (r45 7)))]) Tryz.runUnderlying25 Tryz.runUnderlying25 (Or.inl rfl) el34 rfl rfl rfl how (fun F w m => Src.row (((At.k 2 rfl (by rw [p45_9.2.1]; exact List.mem_cons_self))).heap m) (sub_a (flatten_len hlens60))) rfl hlens60 hoks60 (by decide) (by omega) fun v60 k60 ho60 => ?_)
     refine JL_pure (v := .pointer (some ⟨b1, 35, none⟩)) rfl (fa27_4 rfl rfl) ?_
     refine JL_run rfl (Runs_storeB 4 (vs := [v60]) (l := pkT (kind) (num) (ref) (v) (v60)) ty25 rfl rfl rfl (cells_one ho60.one) rfl (okc_cons ho60.one okc_nil) (pkT_s35 ..) ?_)
     refine JL_nil ?_
     refine J_region ?_
     refine JL_pure (v := .int .i64 (((j + 1 : Nat) : Int))) rfl (Pu.inc rfl rfl (by omega)) ?_
     refine JL_pure (v := .int .i64 (((j + 1 : Nat) : Int))) rfl (Pu.move rfl) ?_
     refine JL_nil ?_
     refine ⟨_, ?_, (j + 1), (v60), (es2 ++ [((cel (r45 4))) ++ ((cel (r45 7)))]), (k60), ((k4) ++ (((N45 4)) ++ ((N45 7)))), rfl, rfl, rfl, rfl, rfl, (Sub.cons 4 rfl (Sub.cons 4 rfl (Sub.join3 (Sub.cons 4 rfl (Sk (Sk (Sd (Sd (Sk (Sk (Sk Sub.nil))))))))))), ?_, ?_, ?_, rfl⟩
     ·omega
     ·omega
     ·assumption
     ·rw [List.take_succ_eq_append_getElem h42n]; exact OCs.snoc p45_4.2 p45_7.2 hopw
   ·skip
    replace h42 := df h42
    have h42n : (cases).length ≤ j := by omega
    refine J_exit _ rfl ?_
    refine J_seq ?_
    refine J_region ?_
    refine JL_run rfl (Pu_load ty27 rfl (At.bx 0 rfl) (pkT_a ..) ?_)
    refine JL_run rfl (Runs_storeB 5 (vs := pkT (kind) (num) (ref) (v) (w)) (l := pkT (kind) (num) (ref) (v) (w)) ty27 rfl rfl rfl rfl rfl (pkT_ok hov.one how.one) (pkT_s ..) ?_)
    refine JL_nil ?_
    refine J_ret ?_
    refine ⟨.agg ⟨pkT (kind) (num) (ref) (v) (w)⟩, [k1 ++ (k2 ++ (k3 ++ k4))], Ret.one rfl (RV.cell ty27 rfl (At.bx 5 rfl) (pkT_a ..)), (Sub.join4 (Sd (Sub.cons 2 rfl (Sub.cons 2 rfl (Sk (Sk Sub.nil)))))), ?_⟩
    rw [List.take_of_length_le h42n] at hopw
    exact ⟨_, _, rfl, rfl, OT_mk.2 ⟨v, w, es, es2, k1, k2, k3, k4, rfl, hk, hn, hov, hopv, how, hopw, rfl, hks.le, hcv.le⟩⟩
end Go.Proofs.YtdeinimmmjichaaGreat.Hs
/-! Walks, printed by a program of this session's own (gen.py). -/
namespace Go.Proofs.YtdeinimmmjichaaGreat.Hs
open Go Go.Proofs
set_option maxRecDepth 100000
set_option linter.unusedVariables false
set_option linter.unusedSimpArgs false
attribute [local irreducible] JL J CT wlo
theorem occurs_ct : ∀ (t : Tm) (b : Int) (l : List Bool) (bF : Nat) (cs : List Value) (H : Heap), RT H cs t → 0 ≤ b → b + 2 * sizeT t ≤ 1000000 → l.length = 60 → CT Tryz.prog 48 ⟨[.agg ⟨cs⟩, .int .i64 b, .slice (some ⟨bF, 0, none⟩) 60 60]⟩ [[(bF, .cells ⟨bls (l)⟩ 4 (0, 0))]] H (fun _ N => N = [[(bF, .cells ⟨bls (occT b t l)⟩ 4 (0, 0))]]) := by
 intro t
 induction t using Tm.ind with
 | h kind num ref kids cases ih ih' =>
 intro b l bF cs H ht hb0 hb hl
 rw [sizeT] at hb
 obtain ⟨ks, cv, rfl, hk, hn, hks, hcv⟩ := RT_mk.1 ht
 have hn1 : -9223372036854775808 ≤ num := hn.1
 have hn2 : num ≤ 9223372036854775807 := hn.2
 refine CT_enter Tryz.func48 rfl rfl ?_
 refine J_seq ?_
 refine J_region ?_
 refine JL_run rfl (Runs_box (l := pkT (kind) (num) (ref) (ks) (cv)) rfl rfl fun b1 => ?_)
 refine JL_nil ?_
 refine J_seq ?_
 refine J_cut (fun ρ M => ρ 1 = .int .i64 (b) ∧ ρ 2 = .slice (some ⟨bF, 0, none⟩) 60 60 ∧ ρ 3 = .pointer (some ⟨b1, 0, none⟩) ∧ ρ 25 = .bool (((decide (kind = 1)) && (decide (b ≤ num))) && (decide (num - b < 60))) ∧ M = [[(b1, .cells ⟨pkT (kind) (num) (ref) (ks) (cv)⟩ 27 (0, 0))], [(bF, .cells ⟨bls (l)⟩ 4 (0, 0))]]) ?_ ?_
 ·refine J_region ?_
  refine JL_pure (v := .pointer (some ⟨b1, 0, none⟩)) rfl (fa27_0 rfl rfl) ?_
  refine JL_run rfl (Pu_load1 ty3 rfl (At.bx 0 rfl) (pkT_0 ..) ?_)
  refine JL_pure (v := .bool (decide (kind = 1))) rfl (Pu.eql rfl rfl) ?_
  refine JL_pure (v := .bool (decide (kind = 1))) rfl (Pu.move rfl) ?_
  cases h2 : (decide (kind = 1)) with
  | true =>
   replace h2 := dt h2
   refine JL_pure (v := .pointer (some ⟨b1, 1, none⟩)) rfl (fa27_1 rfl rfl) ?_
   refine JL_run rfl (Pu_load1 ty3 rfl (At.bx 0 rfl) (pkT_1 ..) ?_)
   refine JL_pure (v := .int .i64 (b)) rfl (Pu.move rfl) ?_
   refine JL_pure (v := .bool (decide (b ≤ num))) rfl (Pu.geq rfl rfl) ?_
   refine JL_pure (v := .bool (decide (b ≤ num))) rfl (Pu.pickT rfl rfl) ?_
   refine JL_pure (v := .bool (decide (b ≤ num))) rfl (Pu.move rfl) ?_
   cases h3 : (decide (b ≤ num)) with
   | true =>
    replace h3 := dt h3
    refine JL_pure (v := .pointer (some ⟨b1, 1, none⟩)) rfl (fa27_1 rfl rfl) ?_
    refine JL_run rfl (Pu_load1 ty3 rfl (At.bx 0 rfl) (pkT_1 ..) ?_)
    refine JL_pure (v := .int .i64 (b)) rfl (Pu.move rfl) ?_
    refine JL_pure (v := .int .i64 (num - b)) rfl (Pu.sub64 rfl rfl (by first | omega | (constructor <;> omega))) ?_
    refine JL_pure (v := .slice (some ⟨bF, 0, none⟩) 60 60) rfl (Pu.move rfl) ?_
    refine JL_pure (v := .int .i64 (60)) rfl (Pu.lenSl Tryz.runUnderlying82 rfl) ?_
    refine JL_pure (v := .bool (decide (num - b < 60))) rfl (Pu.lss rfl rfl) ?_
    refine JL_pure (v := .bool (decide (num - b < 60))) rfl (Pu.pickT rfl rfl) ?_
    refine JL_nil ?_
    first | exact ⟨rfl, rfl, rfl, rfl, rfl⟩ | (exfalso; omega)
   | false =>
    replace h3 := df h3
    refine JL_skip rfl ?_
    refine JL_skip rfl ?_
    refine JL_skip rfl ?_
    refine JL_skip rfl ?_
    refine JL_skip rfl ?_
    refine JL_skip rfl ?_
    refine JL_skip rfl ?_
    refine JL_pure (v := .bool (false)) rfl (Pu.pickF rfl rfl) ?_
    refine JL_nil ?_
    first | exact ⟨rfl, rfl, rfl, rfl, rfl⟩ | (exfalso; omega)
  | false =>
   replace h2 := df h2
   refine JL_skip rfl ?_
   refine JL_skip rfl ?_
   refine JL_skip rfl ?_
   refine JL_skip rfl ?_
   refine JL_pure (v := .bool (false)) rfl (Pu.pickF rfl rfl) ?_
   refine JL_pure (v := .bool (false)) rfl (Pu.move rfl) ?_
   refine JL_skip rfl ?_
   refine JL_skip rfl ?_
   refine JL_skip rfl ?_
   refine JL_skip rfl ?_
   refine JL_skip rfl ?_
   refine JL_skip rfl ?_
   refine JL_skip rfl ?_
   refine JL_pure (v := .bool (false)) rfl (Pu.pickF rfl rfl) ?_
   refine JL_nil ?_
   first | exact ⟨rfl, rfl, rfl, rfl, rfl⟩ | (exfalso; omega)
 ·rintro ρ4 _ ⟨e5, e6, e7, e8, rfl⟩
  obtain ⟨ρ9, rfl⟩ := reopen_ex (uc e5 (uc e6 (uc e7 (uc e8 un))))
  clear e5 e6 e7 e8
  refine J_weak (N := fun ρ M => ρ 1 = .int .i64 (b) ∧ ρ 2 = .slice (some ⟨bF, 0, none⟩) 60 60 ∧ ρ 3 = .pointer (some ⟨b1, 0, none⟩) ∧ M = [[(b1, .cells ⟨pkT (kind) (num) (ref) (ks) (cv)⟩ 27 (0, 0))], [(bF, .cells ⟨bls (mark1 kind num b l)⟩ 4 (0, 0))]]) ?_ ?_
  ·skip
   refine J_cond (b := ((decide (kind = 1)) && (decide (b ≤ num))) && (decide (num - b < 60))) rfl (fun h10 => ?_) (fun h10 => ?_)
   ·skip
    obtain ⟨h10a, h10b⟩ := andT h10
    obtain ⟨h10aa, h10ab⟩ := andT h10a
    replace h10aa := dt h10aa
    replace h10ab := dt h10ab
    replace h10b := dt h10b
    refine J_region ?_
    refine JL_pure (v := .slice (some ⟨bF, 0, none⟩) 60 60) rfl (Pu.move rfl) ?_
    refine JL_pure (v := .pointer (some ⟨b1, 1, none⟩)) rfl (fa27_1 rfl rfl) ?_
    refine JL_run rfl (Pu_load1 ty3 rfl (At.bx 0 rfl) (pkT_1 ..) ?_)
    refine JL_pure (v := .int .i64 (b)) rfl (Pu.move rfl) ?_
    refine JL_pure (v := .int .i64 (num - b)) rfl (Pu.sub64 rfl rfl (by first | omega | (constructor <;> omega))) ?_
    refine JL_pure (v := .pointer (some ⟨bF, 0 + (num - b).toNat * 1, none⟩)) rfl (Pu.idx (num - b).toNat Tryz.runUnderlying82 ty4 rfl rfl (by omega) (by omega)) ?_
    refine JL_run rfl (Runs_storeB 1 (vs := [.bool (true)]) (l := bls ((l).set (num - b).toNat true)) ty4 rfl rfl rfl rfl rfl (okc_cons rfl okc_nil) (bls_set1 (by have hbl : List.length (l) = 60 := hl; omega)) ?_)
    refine JL_nil ?_
    have hmk : mark1 kind num b l = (l).set (num - b).toNat true := by unfold mark1; (repeat' split) <;> first | rfl | omega | (exfalso; simp_all; done) | (exfalso; simp_all; omega)
    rw [hmk]
    exact ⟨rfl, rfl, rfl, rfl⟩
   ·skip
    refine J_skip ?_
    have hmk : mark1 kind num b l = l := by unfold mark1; (repeat' split) <;> first | rfl | omega | (exfalso; simp_all; done) | (exfalso; simp_all; omega)
    rw [hmk]
    exact ⟨rfl, rfl, rfl, rfl⟩
  ·rintro ρ11 _ ⟨e12, e13, e14, rfl⟩
   obtain ⟨ρ15, rfl⟩ := reopen_ex (uc e12 (uc e13 (uc e14 un)))
   clear e12 e13 e14
   refine J_seq ?_
   refine J_seq ?_
   refine J_region ?_
   refine JL_pure (v := .int .i64 (0)) rfl (Pu.assign rfl) ?_
   refine JL_nil ?_
   refine J_block ?_
   have hmk : mark1 kind num b l = mark1 kind num b l := rfl
   refine J_loop (fun k ρ M => ∃ (j : Nat) (l1 : List Bool), ρ 1 = .int .i64 (b) ∧ ρ 2 = .slice (some ⟨bF, 0, none⟩) 60 60 ∧ ρ 3 = .pointer (some ⟨b1, 0, none⟩) ∧ ρ 6 = .int .i64 ((j : Int)) ∧ Sub [[(bF, .cells ⟨bls (l1)⟩ 4 (0, 0))], [(b1, .cells ⟨pkT (kind) (num) (ref) (ks) (cv)⟩ 27 (0, 0))]] M ∧ j ≤ (kids).length ∧ l1.length = 60 ∧ occTs b kind j (kids.drop j) l1 = occTs b kind 0 kids (mark1 kind num b l) ∧ k = (kids).length - j) _ ⟨0, (mark1 kind num b l), rfl, rfl, rfl, rfl, (Sub.cons 1 rfl (Sk Sub.nil)), Nat.zero_le _, ((mark1_len ..).trans hl), (by rw [hmk]; rfl), rfl⟩ ?_
   rintro _ ρ16 _ ⟨j, l1, e17, e18, e19, e20, hm21, hj, hll1, hinv, rfl⟩
   obtain ⟨ρ22, rfl⟩ := reopen_ex (uc e17 (uc e18 (uc e19 (uc e20 un))))
   clear e17 e18 e19 e20
   refine J_sub hm21 ?_
   have hlen := hks.le
   refine J_seq ?_
   refine J_seq ?_
   refine J_region ?_
   refine JL_pure (v := .int .i64 ((j : Int))) rfl (Pu.move rfl) ?_
   refine JL_pure (v := .pointer (some ⟨b1, 34, none⟩)) rfl (fa27_3 rfl rfl) ?_
   refine JL_run rfl (Pu_load1 ty24 rfl (At.bx 1 rfl) (pkT_34 ..) ?_)
   obtain ⟨a23, cap23, hv23⟩ := hks.sl
   have hle23 := hks.le
   refine JL_pure (v := .int .i64 (((kids).length : Int))) rfl (Pu.lenSl Tryz.runUnderlying24 hv23) ?_
   refine JL_pure (v := .bool (decide ((j : Int) < ((kids).length : Int)))) rfl (Pu.lss rfl rfl) ?_
   refine JL_nil ?_
   refine J_cond (b := decide ((j : Int) < ((kids).length : Int))) rfl (fun h24 => ?_) (fun h24 => ?_)
   ·skip
    replace h24 := dt h24
    have h24n : j < (kids).length := by omega
    have hs1 := sizeTs_mem _ (List.getElem_mem h24n)
    have hm1 := more_le kind j
    refine J_skip ?_
    refine J_seq ?_
    refine J_block ?_
    obtain ⟨b26, o26, cap26, row26, T26, fr26, cs26, hv26, hb26, hs26, hE26⟩ := hks.get j (by first | assumption | omega | decide | simp)
    refine J_draw mixed #[0, 1, 0, 7, 15, 0, 0, 64, 0, 448, 992, 0, 4095] 12 12 2 rfl (by kernel_rfl) (fun i r25 N25 => match i with | 0 => (r25 0) = .pointer (some ⟨b1, 34, none⟩) | 1 => (r25 1) = ks | 2 => (r25 2) = .int .i64 ((j : Int)) | 3 => (r25 3) = .pointer (some ⟨b26, o26 + j * 36, none⟩) | 4 => (r25 4) = .agg ⟨cs26⟩ | 5 => (r25 5) = .int .i64 (b) | 6 => (r25 6) = .pointer (some ⟨b1, 0, none⟩) | 7 => (r25 7) = .int .i64 (kind) | 8 => (r25 8) = .int .i64 ((j : Int)) | 9 => (r25 9) = .int .i64 (more (kind) ((j : Int))) | 10 => (r25 10) = .int .i64 (b + (more (kind) ((j : Int)))) | 11 => (r25 11) = .slice (some ⟨bF, 0, none⟩) 60 60 | _ => True) ⟨?_, ?_, ?_, ?_, ?_, ?_, ?_, ?_, ?_, ?_, ?_, ?_, trivial⟩ ?_
    ·intro ρ r25 N25 B hB hBa hp hr hr0
     have q3 : ρ 3 = .pointer (some ⟨b1, 0, none⟩) := hr0 3 (by kernel_rfl)
     obtain ⟨ρ27, rfl⟩ := reopen_ex (uc q3 un)
     clear q3
     refine JL_pure (v := .pointer (some ⟨b1, 34, none⟩)) rfl (fa27_3 rfl rfl) ?_
     refine JL_nil ?_
     exact ⟨.pointer (some ⟨b1, 34, none⟩), [], rfl, (Sub.emp Sub.refl), rfl⟩
    ·intro ρ r25 N25 B hB hBa hp hr hr0
     have q39 : ρ 39 = .pointer (some ⟨b1, 34, none⟩) := (hr 0 _ _ (by decide) rfl rfl rfl).trans (hp 0 (by decide) rfl)
     obtain ⟨ρ28, rfl⟩ := reopen_ex (uc q39 un)
     clear q39
     refine JL_run rfl (Pu_load1 ty24 rfl (At.bx 13 (made_old ((hB 1 (by decide)).trans rfl))) (pkT_34 ..) ?_)
     refine JL_nil ?_
     exact ⟨ks, [], rfl, (Sub.emp Sub.refl), rfl⟩
    ·intro ρ r25 N25 B hB hBa hp hr hr0
     have q6 : ρ 6 = .int .i64 ((j : Int)) := hr0 6 (by kernel_rfl)
     obtain ⟨ρ29, rfl⟩ := reopen_ex (uc q6 un)
     clear q6
     refine JL_pure (v := .int .i64 ((j : Int))) rfl (Pu.move rfl) ?_
     refine JL_nil ?_
     exact ⟨.int .i64 ((j : Int)), [], rfl, (Sub.emp Sub.refl), rfl⟩
    ·intro ρ r25 N25 B hB hBa hp hr hr0
     have q40 : ρ 40 = ks := (hr 1 _ _ (by decide) rfl rfl rfl).trans (hp 1 (by decide) rfl)
     have q41 : ρ 41 = .int .i64 ((j : Int)) := (hr 2 _ _ (by decide) rfl rfl rfl).trans (hp 2 (by decide) rfl)
     obtain ⟨ρ30, rfl⟩ := reopen_ex (uc q40 (uc q41 un))
     clear q40 q41
     refine JL_pure (v := .pointer (some ⟨b26, o26 + j * 36, none⟩)) rfl (Pu.idx j Tryz.runUnderlying24 ty27 hv26 rfl rfl (by first | assumption | omega | decide | simp)) ?_
     refine JL_nil ?_
     exact ⟨.pointer (some ⟨b26, o26 + j * 36, none⟩), [], rfl, (Sub.emp Sub.refl), rfl⟩
    ·intro ρ r25 N25 B hB hBa hp hr hr0
     have q42 : ρ 42 = .pointer (some ⟨b26, o26 + j * 36, none⟩) := (hr 3 _ _ (by decide) rfl rfl rfl).trans (hp 3 (by decide) rfl)
     obtain ⟨ρ31, rfl⟩ := reopen_ex (uc q42 un)
     clear q42
     refine JL_run rfl (Pu_load ty27 rfl (At.im hb26) hs26 ?_)
     refine JL_nil ?_
     exact ⟨.agg ⟨cs26⟩, [], rfl, (Sub.emp Sub.refl), rfl⟩
    ·intro ρ r25 N25 B hB hBa hp hr hr0
     have q1 : ρ 1 = .int .i64 (b) := hr0 1 (by kernel_rfl)
     obtain ⟨ρ32, rfl⟩ := reopen_ex (uc q1 un)
     clear q1
     refine JL_pure (v := .int .i64 (b)) rfl (Pu.move rfl) ?_
     refine JL_nil ?_
     exact ⟨.int .i64 (b), [], rfl, (Sub.emp Sub.refl), rfl⟩
    ·intro ρ r25 N25 B hB hBa hp hr hr0
     have q3 : ρ 3 = .pointer (some ⟨b1, 0, none⟩) := hr0 3 (by kernel_rfl)
     obtain ⟨ρ33, rfl⟩ := reopen_ex (uc q3 un)
     clear q3
     refine JL_pure (v := .pointer (some ⟨b1, 0, none⟩)) rfl (fa27_0 rfl rfl) ?_
     refine JL_nil ?_
     exact ⟨.pointer (some ⟨b1, 0, none⟩), [], rfl, (Sub.emp Sub.refl), rfl⟩
    ·intro ρ r25 N25 B hB hBa hp hr hr0
     have q45 : ρ 45 = .pointer (some ⟨b1, 0, none⟩) := (hr 6 _ _ (by decide) rfl rfl rfl).trans (hp 6 (by decide) rfl)
     obtain ⟨ρ34, rfl⟩ := reopen_ex (uc q45 un)
     clear q45
     refine JL_run rfl (Pu_load1 ty3 rfl (At.bx 13 (made_old ((hB 1 (by decide)).trans rfl))) (pkT_0 ..) ?_)
     refine JL_nil ?_
     exact ⟨.int .i64 (kind), [], rfl, (Sub.emp Sub.refl), rfl⟩
    ·intro ρ r25 N25 B hB hBa hp hr hr0
     have q6 : ρ 6 = .int .i64 ((j : Int)) := hr0 6 (by kernel_rfl)
     obtain ⟨ρ35, rfl⟩ := reopen_ex (uc q6 un)
     clear q6
     refine JL_pure (v := .int .i64 ((j : Int))) rfl (Pu.move rfl) ?_
     refine JL_nil ?_
     exact ⟨.int .i64 ((j : Int)), [], rfl, (Sub.emp Sub.refl), rfl⟩
    ·intro ρ r25 N25 B hB hBa hp hr hr0
     have q46 : ρ 46 = .int .i64 (kind) := (hr 7 _ _ (by decide) rfl rfl rfl).trans (hp 7 (by decide) rfl)
     have q47 : ρ 47 = .int .i64 ((j : Int)) := (hr 8 _ _ (by decide) rfl rfl rfl).trans (hp 8 (by decide) rfl)
     obtain ⟨ρ36, rfl⟩ := reopen_ex (uc q46 (uc q47 un))
     clear q46 q47
     refine JL_call rfl Tryz.call87 rfl (fun hin => moreR_ct _ _ _) rfl ?_
     rintro _ _ ⟨rfl, rfl⟩
     refine JL_nil ?_
     exact ⟨.int .i64 (more (kind) ((j : Int))), [], rfl, (Sub.emp Sub.refl), rfl⟩
    ·intro ρ r25 N25 B hB hBa hp hr hr0
     have q44 : ρ 44 = .int .i64 (b) := (hr 5 _ _ (by decide) rfl rfl rfl).trans (hp 5 (by decide) rfl)
     have q48 : ρ 48 = .int .i64 (more (kind) ((j : Int))) := (hr 9 _ _ (by decide) rfl rfl rfl).trans (hp 9 (by decide) rfl)
     obtain ⟨ρ37, rfl⟩ := reopen_ex (uc q44 (uc q48 un))
     clear q44 q48
     refine JL_pure (v := .int .i64 (b + (more (kind) ((j : Int))))) rfl (Pu.add64 rfl rfl (by first | omega | (constructor <;> omega))) ?_
     refine JL_nil ?_
     exact ⟨.int .i64 (b + (more (kind) ((j : Int)))), [], rfl, (Sub.emp Sub.refl), rfl⟩
    ·intro ρ r25 N25 B hB hBa hp hr hr0
     have q2 : ρ 2 = .slice (some ⟨bF, 0, none⟩) 60 60 := hr0 2 (by kernel_rfl)
     obtain ⟨ρ38, rfl⟩ := reopen_ex (uc q2 un)
     clear q2
     refine JL_pure (v := .slice (some ⟨bF, 0, none⟩) 60 60) rfl (Pu.move rfl) ?_
     refine JL_nil ?_
     exact ⟨.slice (some ⟨bF, 0, none⟩) 60 60, [], rfl, (Sub.emp Sub.refl), rfl⟩
    ·intro ρ r25 N25 hp hr hr0
     have q1 : ρ 1 = .int .i64 (b) := hr0 1 (by kernel_rfl)
     have q2 : ρ 2 = .slice (some ⟨bF, 0, none⟩) 60 60 := hr0 2 (by kernel_rfl)
     have q3 : ρ 3 = .pointer (some ⟨b1, 0, none⟩) := hr0 3 (by kernel_rfl)
     have q6 : ρ 6 = .int .i64 ((j : Int)) := hr0 6 (by kernel_rfl)
     have q43 : ρ 43 = .agg ⟨cs26⟩ := (hr 4 _ _ (by decide) rfl rfl).trans (hp 4 (by decide))
     have q49 : ρ 49 = .int .i64 (b + (more (kind) ((j : Int)))) := (hr 10 _ _ (by decide) rfl rfl).trans (hp 10 (by decide))
     have q50 : ρ 50 = .slice (some ⟨bF, 0, none⟩) 60 60 := (hr 11 _ _ (by decide) rfl rfl).trans (hp 11 (by decide))
     obtain ⟨ρ39, rfl⟩ := reopen_ex (uc q1 (uc q2 (uc q3 (uc q6 (uc q43 (uc q49 (uc q50 un)))))))
     clear q1 q2 q3 q6 q43 q49 q50
     clear hp hr hr0 
     refine JL_sub (M' := [(N25 0), (N25 1), (N25 2), (N25 3), (N25 4), (N25 5), (N25 6), (N25 7), (N25 8), (N25 9), (N25 10), (N25 11), [(bF, .cells ⟨bls (l1)⟩ 4 (0, 0))], [(b1, .cells ⟨pkT (kind) (num) (ref) (ks) (cv)⟩ 27 (0, 0))]]) Sub.refl ?_
     refine JL_sub (M' := [[(bF, .cells ⟨bls (l1)⟩ 4 (0, 0))], [(b1, .cells ⟨pkT (kind) (num) (ref) (ks) (cv)⟩ 27 (0, 0))]]) (Sd (Sd (Sd (Sd (Sd (Sd (Sd (Sd (Sd (Sd (Sd (Sd (Sk (Sk Sub.nil)))))))))))))) ?_
     show JL _ _ _ [_] _ _ _
     refine JL_call1 0 rfl Tryz.call48 rfl rfl (fun hin => ih _ (List.getElem_mem h24n) _ _ _ _ _ (RT.mono (Hle.hu _ _) hE26) (by omega) (by omega) hll1) rfl ?_
     rintro _ _ ⟨rfl, rfl⟩
     refine JL_nil ?_
     refine J_region ?_
     refine JL_pure (v := .int .i64 ((j : Int))) rfl (Pu.move rfl) ?_
     refine JL_pure (v := .int .i64 (((j + 1 : Nat) : Int))) rfl (Pu.inc rfl rfl (by omega)) ?_
     refine JL_pure (v := .int .i64 (((j + 1 : Nat) : Int))) rfl (Pu.assign rfl) ?_
     refine JL_nil ?_
     refine ⟨_, ?_, (j + 1), (occT (b + (more (kind) ((j : Int)))) ((kids)[j]) (l1)), rfl, rfl, rfl, rfl, (Sk (Sk Sub.nil)), ?_, ?_, ?_, rfl⟩
     ·omega
     ·omega
     ·exact ((occT_len _ _ _).trans hll1)
     ·rw [dropc h24n, occTs] at hinv; exact hinv
   ·skip
    replace h24 := df h24
    have h24n : (kids).length ≤ j := by omega
    refine J_exit _ rfl ?_
    refine J_seq ?_
    refine J_region ?_
    refine JL_pure (v := .int .i64 (0)) rfl (Pu.assign rfl) ?_
    refine JL_nil ?_
    refine J_block ?_
    have hk1 : l1 = occTs b kind 0 kids (mark1 kind num b l) := by rw [← hinv, dropn h24n]; rfl
    refine J_loop (fun k ρ M => ∃ (j : Nat) (l2 : List Bool), ρ 1 = .int .i64 (b) ∧ ρ 2 = .slice (some ⟨bF, 0, none⟩) 60 60 ∧ ρ 3 = .pointer (some ⟨b1, 0, none⟩) ∧ ρ 7 = .int .i64 ((j : Int)) ∧ Sub [[(bF, .cells ⟨bls (l2)⟩ 4 (0, 0))], [(b1, .cells ⟨pkT (kind) (num) (ref) (ks) (cv)⟩ 27 (0, 0))]] M ∧ j ≤ (cases).length ∧ l2.length = 60 ∧ occCs b (cases.drop j) l2 = occCs b cases l1 ∧ k = (cases).length - j) _ ⟨0, (l1), rfl, rfl, rfl, rfl, (Sk (Sk Sub.nil)), Nat.zero_le _, hll1, rfl, rfl⟩ ?_
    rintro _ ρ40 _ ⟨j, l2, e41, e42, e43, e44, hm45, hj, hll2, hinv, rfl⟩
    obtain ⟨ρ46, rfl⟩ := reopen_ex (uc e41 (uc e42 (uc e43 (uc e44 un))))
    clear e41 e42 e43 e44
    refine J_sub hm45 ?_
    have hlen := hcv.le
    refine J_seq ?_
    refine J_seq ?_
    refine J_region ?_
    refine JL_pure (v := .int .i64 ((j : Int))) rfl (Pu.move rfl) ?_
    refine JL_pure (v := .pointer (some ⟨b1, 35, none⟩)) rfl (fa27_4 rfl rfl) ?_
    refine JL_run rfl (Pu_load1 ty25 rfl (At.bx 1 rfl) (pkT_35 ..) ?_)
    obtain ⟨a47, cap47, hv47⟩ := hcv.sl
    have hle47 := hcv.le
    refine JL_pure (v := .int .i64 (((cases).length : Int))) rfl (Pu.lenSl Tryz.runUnderlying25 hv47) ?_
    refine JL_pure (v := .bool (decide ((j : Int) < ((cases).length : Int)))) rfl (Pu.lss rfl rfl) ?_
    refine JL_nil ?_
    refine J_cond (b := decide ((j : Int) < ((cases).length : Int))) rfl (fun h48 => ?_) (fun h48 => ?_)
    ·skip
     replace h48 := dt h48
     have h48n : j < (cases).length := by omega
     have hs1 := sizeCs_mem _ (List.getElem_mem h48n)
     have hm1 := binds_le (cases[j]).1
     refine J_skip ?_
     refine J_seq ?_
     refine J_block ?_
     obtain ⟨b50, o50, cap50, row50, T50, fr50, cs50, hv50, hb50, hs50, hE50⟩ := hcv.get j (by first | assumption | omega | decide | simp)
     obtain ⟨ca50, cb50, rfl, hA50, hB50⟩ := hE50
     refine J_draw mixed #[0, 1, 0, 7, 15, 31, 0, 0, 128, 0, 896, 1920, 3968, 8064, 16320, 0, 65535] 16 16 2 rfl (by kernel_rfl) (fun i r49 N49 => match i with | 0 => (r49 0) = .pointer (some ⟨b1, 35, none⟩) | 1 => (r49 1) = cv | 2 => (r49 2) = .int .i64 ((j : Int)) | 3 => (r49 3) = .pointer (some ⟨b50, o50 + j * 71, none⟩) | 4 => (r49 4) = .pointer (some ⟨b50, o50 + j * 71 + 35, none⟩) | 5 => (r49 5) = .agg ⟨cb50⟩ | 6 => (r49 6) = .int .i64 (b) | 7 => (r49 7) = .pointer (some ⟨b1, 35, none⟩) | 8 => (r49 8) = cv | 9 => (r49 9) = .int .i64 ((j : Int)) | 10 => (r49 10) = .pointer (some ⟨b50, o50 + j * 71, none⟩) | 11 => (r49 11) = .pointer (some ⟨b50, o50 + j * 71, none⟩) | 12 => (r49 12) = .agg ⟨ca50⟩ | 13 => (r49 13) = .int .i64 ((binds ((cases)[j].1) : Int)) | 14 => (r49 14) = .int .i64 (b + ((binds ((cases)[j].1) : Int))) | 15 => (r49 15) = .slice (some ⟨bF, 0, none⟩) 60 60 | _ => True) ⟨?_, ?_, ?_, ?_, ?_, ?_, ?_, ?_, ?_, ?_, ?_, ?_, ?_, ?_, ?_, ?_, trivial⟩ ?_
     ·intro ρ r49 N49 B hB hBa hp hr hr0
      have q3 : ρ 3 = .pointer (some ⟨b1, 0, none⟩) := hr0 3 (by kernel_rfl)
      obtain ⟨ρ51, rfl⟩ := reopen_ex (uc q3 un)
      clear q3
      refine JL_pure (v := .pointer (some ⟨b1, 35, none⟩)) rfl (fa27_4 rfl rfl) ?_
      refine JL_nil ?_
      exact ⟨.pointer (some ⟨b1, 35, none⟩), [], rfl, (Sub.emp Sub.refl), rfl⟩
     ·intro ρ r49 N49 B hB hBa hp hr hr0
      have q59 : ρ 59 = .pointer (some ⟨b1, 35, none⟩) := (hr 0 _ _ (by decide) rfl rfl rfl).trans (hp 0 (by decide) rfl)
      obtain ⟨ρ52, rfl⟩ := reopen_ex (uc q59 un)
      clear q59
      refine JL_run rfl (Pu_load1 ty25 rfl (At.bx 17 (made_old ((hB 1 (by decide)).trans rfl))) (pkT_35 ..) ?_)
      refine JL_nil ?_
      exact ⟨cv, [], rfl, (Sub.emp Sub.refl), rfl⟩
     ·intro ρ r49 N49 B hB hBa hp hr hr0
      have q7 : ρ 7 = .int .i64 ((j : Int)) := hr0 7 (by kernel_rfl)
      obtain ⟨ρ53, rfl⟩ := reopen_ex (uc q7 un)
      clear q7
      refine JL_pure (v := .int .i64 ((j : Int))) rfl (Pu.move rfl) ?_
      refine JL_nil ?_
      exact ⟨.int .i64 ((j : Int)), [], rfl, (Sub.emp Sub.refl), rfl⟩
     ·intro ρ r49 N49 B hB hBa hp hr hr0
      have q60 : ρ 60 = cv := (hr 1 _ _ (by decide) rfl rfl rfl).trans (hp 1 (by decide) rfl)
      have q61 : ρ 61 = .int .i64 ((j : Int)) := (hr 2 _ _ (by decide) rfl rfl rfl).trans (hp 2 (by decide) rfl)
      obtain ⟨ρ54, rfl⟩ := reopen_ex (uc q60 (uc q61 un))
      clear q60 q61
      refine JL_pure (v := .pointer (some ⟨b50, o50 + j * 71, none⟩)) rfl (Pu.idx j Tryz.runUnderlying25 ty34 hv50 rfl rfl (by first | assumption | omega | decide | simp)) ?_
      refine JL_nil ?_
      exact ⟨.pointer (some ⟨b50, o50 + j * 71, none⟩), [], rfl, (Sub.emp Sub.refl), rfl⟩
     ·intro ρ r49 N49 B hB hBa hp hr hr0
      have q62 : ρ 62 = .pointer (some ⟨b50, o50 + j * 71, none⟩) := (hr 3 _ _ (by decide) rfl rfl rfl).trans (hp 3 (by decide) rfl)
      obtain ⟨ρ55, rfl⟩ := reopen_ex (uc q62 un)
      clear q62
      refine JL_pure (v := .pointer (some ⟨b50, o50 + j * 71 + 35, none⟩)) rfl (fa34_1 rfl rfl) ?_
      refine JL_nil ?_
      exact ⟨.pointer (some ⟨b50, o50 + j * 71 + 35, none⟩), [], rfl, (Sub.emp Sub.refl), rfl⟩
     ·intro ρ r49 N49 B hB hBa hp hr hr0
      have q63 : ρ 63 = .pointer (some ⟨b50, o50 + j * 71 + 35, none⟩) := (hr 4 _ _ (by decide) rfl rfl rfl).trans (hp 4 (by decide) rfl)
      obtain ⟨ρ56, rfl⟩ := reopen_ex (uc q63 un)
      clear q63
      refine JL_run rfl (Pu_load ty27 rfl (At.im hb50) (sub_sub hs50 (sub_r (RP_len hA50) (RT_len hB50))) ?_)
      refine JL_nil ?_
      exact ⟨.agg ⟨cb50⟩, [], rfl, (Sub.emp Sub.refl), rfl⟩
     ·intro ρ r49 N49 B hB hBa hp hr hr0
      have q1 : ρ 1 = .int .i64 (b) := hr0 1 (by kernel_rfl)
      obtain ⟨ρ57, rfl⟩ := reopen_ex (uc q1 un)
      clear q1
      refine JL_pure (v := .int .i64 (b)) rfl (Pu.move rfl) ?_
      refine JL_nil ?_
      exact ⟨.int .i64 (b), [], rfl, (Sub.emp Sub.refl), rfl⟩
     ·intro ρ r49 N49 B hB hBa hp hr hr0
      have q3 : ρ 3 = .pointer (some ⟨b1, 0, none⟩) := hr0 3 (by kernel_rfl)
      obtain ⟨ρ58, rfl⟩ := reopen_ex (uc q3 un)
      clear q3
      refine JL_pure (v := .pointer (some ⟨b1, 35, none⟩)) rfl (fa27_4 rfl rfl) ?_
      refine JL_nil ?_
      exact ⟨.pointer (some ⟨b1, 35, none⟩), [], rfl, (Sub.emp Sub.refl), rfl⟩
     ·intro ρ r49 N49 B hB hBa hp hr hr0
      have q66 : ρ 66 = .pointer (some ⟨b1, 35, none⟩) := (hr 7 _ _ (by decide) rfl rfl rfl).trans (hp 7 (by decide) rfl)
      obtain ⟨ρ59, rfl⟩ := reopen_ex (uc q66 un)
      clear q66
      refine JL_run rfl (Pu_load1 ty25 rfl (At.bx 17 (made_old ((hB 1 (by decide)).trans rfl))) (pkT_35 ..) ?_)
      refine JL_nil ?_
      exact ⟨cv, [], rfl, (Sub.emp Sub.refl), rfl⟩
     ·intro ρ r49 N49 B hB hBa hp hr hr0
      have q7 : ρ 7 = .int .i64 ((j : Int)) := hr0 7 (by kernel_rfl)
      obtain ⟨ρ60, rfl⟩ := reopen_ex (uc q7 un)
      clear q7
      refine JL_pure (v := .int .i64 ((j : Int))) rfl (Pu.move rfl) ?_
      refine JL_nil ?_
      exact ⟨.int .i64 ((j : Int)), [], rfl, (Sub.emp Sub.refl), rfl⟩
     ·intro ρ r49 N49 B hB hBa hp hr hr0
      have q67 : ρ 67 = cv := (hr 8 _ _ (by decide) rfl rfl rfl).trans (hp 8 (by decide) rfl)
      have q68 : ρ 68 = .int .i64 ((j : Int)) := (hr 9 _ _ (by decide) rfl rfl rfl).trans (hp 9 (by decide) rfl)
      obtain ⟨ρ61, rfl⟩ := reopen_ex (uc q67 (uc q68 un))
      clear q67 q68
      refine JL_pure (v := .pointer (some ⟨b50, o50 + j * 71, none⟩)) rfl (Pu.idx j Tryz.runUnderlying25 ty34 hv50 rfl rfl (by first | assumption | omega | decide | simp)) ?_
      refine JL_nil ?_
      exact ⟨.pointer (some ⟨b50, o50 + j * 71, none⟩), [], rfl, (Sub.emp Sub.refl), rfl⟩
     ·intro ρ r49 N49 B hB hBa hp hr hr0
      have q69 : ρ 69 = .pointer (some ⟨b50, o50 + j * 71, none⟩) := (hr 10 _ _ (by decide) rfl rfl rfl).trans (hp 10 (by decide) rfl)
      obtain ⟨ρ62, rfl⟩ := reopen_ex (uc q69 un)
      clear q69
      refine JL_pure (v := .pointer (some ⟨b50, o50 + j * 71, none⟩)) rfl (fa34_0 rfl rfl) ?_
      refine JL_nil ?_
      exact ⟨.pointer (some ⟨b50, o50 + j * 71, none⟩), [], rfl, (Sub.emp Sub.refl), rfl⟩
     ·intro ρ r49 N49 B hB hBa hp hr hr0
      have q70 : ρ 70 = .pointer (some ⟨b50, o50 + j * 71, none⟩) := (hr 11 _ _ (by decide) rfl rfl rfl).trans (hp 11 (by decide) rfl)
      obtain ⟨ρ63, rfl⟩ := reopen_ex (uc q70 un)
      clear q70
      refine JL_run rfl (Pu_load ty30 rfl (At.im hb50) (sub_sub0 hs50 (sub_l (RP_len hA50))) ?_)
      refine JL_nil ?_
      exact ⟨.agg ⟨ca50⟩, [], rfl, (Sub.emp Sub.refl), rfl⟩
     ·intro ρ r49 N49 B hB hBa hp hr hr0
      have q71 : ρ 71 = .agg ⟨ca50⟩ := (hr 12 _ _ (by decide) rfl rfl rfl).trans (hp 12 (by decide) rfl)
      obtain ⟨ρ64, rfl⟩ := reopen_ex (uc q71 un)
      clear q71
      refine JL_call rfl Tryz.call49 rfl (fun hin => bindsR_ct _ _ _ (RP.mono (Hle.hu _ _) hA50) (by omega)) rfl ?_
      rintro _ _ ⟨rfl, rfl⟩
      refine JL_nil ?_
      exact ⟨.int .i64 ((binds ((cases)[j].1) : Int)), [], rfl, (Sub.emp Sub.refl), rfl⟩
     ·intro ρ r49 N49 B hB hBa hp hr hr0
      have q65 : ρ 65 = .int .i64 (b) := (hr 6 _ _ (by decide) rfl rfl rfl).trans (hp 6 (by decide) rfl)
      have q72 : ρ 72 = .int .i64 ((binds ((cases)[j].1) : Int)) := (hr 13 _ _ (by decide) rfl rfl rfl).trans (hp 13 (by decide) rfl)
      obtain ⟨ρ65, rfl⟩ := reopen_ex (uc q65 (uc q72 un))
      clear q65 q72
      refine JL_pure (v := .int .i64 (b + ((binds ((cases)[j].1) : Int)))) rfl (Pu.add64 rfl rfl (by first | omega | (constructor <;> omega))) ?_
      refine JL_nil ?_
      exact ⟨.int .i64 (b + ((binds ((cases)[j].1) : Int))), [], rfl, (Sub.emp Sub.refl), rfl⟩
     ·intro ρ r49 N49 B hB hBa hp hr hr0
      have q2 : ρ 2 = .slice (some ⟨bF, 0, none⟩) 60 60 := hr0 2 (by kernel_rfl)
      obtain ⟨ρ66, rfl⟩ := reopen_ex (uc q2 un)
      clear q2
      refine JL_pure (v := .slice (some ⟨bF, 0, none⟩) 60 60) rfl (Pu.move rfl) ?_
      refine JL_nil ?_
      exact ⟨.slice (some ⟨bF, 0, none⟩) 60 60, [], rfl, (Sub.emp Sub.refl), rfl⟩
     ·intro ρ r49 N49 hp hr hr0
      have q1 : ρ 1 = .int .i64 (b) := hr0 1 (by kernel_rfl)
      have q2 : ρ 2 = .slice (some ⟨bF, 0, none⟩) 60 60 := hr0 2 (by kernel_rfl)
      have q3 : ρ 3 = .pointer (some ⟨b1, 0, none⟩) := hr0 3 (by kernel_rfl)
      have q7 : ρ 7 = .int .i64 ((j : Int)) := hr0 7 (by kernel_rfl)
      have q64 : ρ 64 = .agg ⟨cb50⟩ := (hr 5 _ _ (by decide) rfl rfl).trans (hp 5 (by decide))
      have q73 : ρ 73 = .int .i64 (b + ((binds ((cases)[j].1) : Int))) := (hr 14 _ _ (by decide) rfl rfl).trans (hp 14 (by decide))
      have q74 : ρ 74 = .slice (some ⟨bF, 0, none⟩) 60 60 := (hr 15 _ _ (by decide) rfl rfl).trans (hp 15 (by decide))
      obtain ⟨ρ67, rfl⟩ := reopen_ex (uc q1 (uc q2 (uc q3 (uc q7 (uc q64 (uc q73 (uc q74 un)))))))
      clear q1 q2 q3 q7 q64 q73 q74
      clear hp hr hr0 
      refine JL_sub (M' := [(N49 0), (N49 1), (N49 2), (N49 3), (N49 4), (N49 5), (N49 6), (N49 7), (N49 8), (N49 9), (N49 10), (N49 11), (N49 12), (N49 13), (N49 14), (N49 15), [(bF, .cells ⟨bls (l2)⟩ 4 (0, 0))], [(b1, .cells ⟨pkT (kind) (num) (ref) (ks) (cv)⟩ 27 (0, 0))]]) Sub.refl ?_
      refine JL_sub (M' := [[(bF, .cells ⟨bls (l2)⟩ 4 (0, 0))], [(b1, .cells ⟨pkT (kind) (num) (ref) (ks) (cv)⟩ 27 (0, 0))]]) (Sd (Sd (Sd (Sd (Sd (Sd (Sd (Sd (Sd (Sd (Sd (Sd (Sd (Sd (Sd (Sd (Sk (Sk Sub.nil)))))))))))))))))) ?_
      show JL _ _ _ [_] _ _ _
      refine JL_call1 0 rfl Tryz.call48 rfl rfl (fun hin => ih' _ (List.getElem_mem h48n) _ _ _ _ _ (RT.mono (Hle.hu _ _) hB50) (by omega) (by omega) hll2) rfl ?_
      rintro _ _ ⟨rfl, rfl⟩
      refine JL_nil ?_
      refine J_region ?_
      refine JL_pure (v := .int .i64 ((j : Int))) rfl (Pu.move rfl) ?_
      refine JL_pure (v := .int .i64 (((j + 1 : Nat) : Int))) rfl (Pu.inc rfl rfl (by omega)) ?_
      refine JL_pure (v := .int .i64 (((j + 1 : Nat) : Int))) rfl (Pu.assign rfl) ?_
      refine JL_nil ?_
      refine ⟨_, ?_, (j + 1), (occT (b + ((binds ((cases)[j].1) : Int))) ((cases)[j].2) (l2)), rfl, rfl, rfl, rfl, (Sk (Sk Sub.nil)), ?_, ?_, ?_, rfl⟩
      ·omega
      ·omega
      ·exact ((occT_len _ _ _).trans hll2)
      ·rw [dropc h48n, occCs] at hinv; exact hinv
    ·skip
     replace h48 := df h48
     have h48n : (cases).length ≤ j := by omega
     refine J_exit _ rfl ?_
     refine ⟨.tuple ⟨[]⟩, [[(bF, .cells ⟨bls (l2)⟩ 4 (0, 0))]], Ret.none rfl, (Sk Sub.nil), ?_⟩
     show _ = _; rw [occT, ← hk1, ← hinv, dropn h48n]; rfl
end Go.Proofs.YtdeinimmmjichaaGreat.Hs
/-! Walks, printed by a program of this session's own (gen.py). -/
namespace Go.Proofs.YtdeinimmmjichaaGreat.Hs
open Go Go.Proofs
set_option maxRecDepth 100000
set_option linter.unusedVariables false
set_option linter.unusedSimpArgs false
attribute [local irreducible] JL J CT wlo
theorem freeR_ct (t : Tm) (cs : List Value) (H : Heap) (ht : RT H cs t) (hz : sizeT t ≤ 400000) : CT Tryz.prog 14 ⟨[.agg ⟨cs⟩]⟩ [] H (fun v N => ∃ u k, v = u ∧ N = [k] ∧ Own 3 1 u (ints (freeR t)) k) := by
 refine CT_enter Tryz.func14 rfl rfl ?_
 refine J_seq ?_
 refine J_region ?_
 refine JL_run rfl (Runs_box (l := cs) rfl rfl fun b1 => ?_)
 refine JL_pure (v := .slice none 0 0) rfl (Pu.assign rfl) ?_
 refine JL_nil ?_
 refine J_seq ?_
 refine J_region ?_
 refine JL_run rfl (Runs_make 60 Tryz.runUnderlying82 el4 rfl rfl rfl rfl (by decide) (by decide) fun b2 k2 _ hk2 => ?_)
 obtain rfl : k2 = [(b2, .cells ⟨bls (List.replicate 60 false)⟩ 4 (0, 0))] := hk2
 refine JL_pure (v := .slice (some ⟨b2, 0, none⟩) 60 60) rfl (Pu.assign rfl) ?_
 refine JL_nil ?_
 refine J_seq ?_
 refine J_region ?_
 refine JL_run rfl (Pu_load ty27 rfl (At.bx 1 rfl) (sub_a (RT_len ht)) ?_)
 refine JL_pure (v := .slice (some ⟨b2, 0, none⟩) 60 60) rfl (Pu.move rfl) ?_
 refine JL_call1 0 rfl Tryz.call48 rfl rfl (fun hin => occurs_ct _ _ _ _ _ _ (RT.mono (Hle.hu _ _) ht) (by decide) (by omega) (List.length_replicate ..)) rfl ?_
 rintro _ _ ⟨rfl, rfl⟩
 refine JL_nil ?_
 refine J_seq ?_
 refine J_region ?_
 refine JL_pure (v := .slice none 0 0) rfl (Pu.assign rfl) ?_
 refine JL_nil ?_
 refine J_seq ?_
 refine J_seq ?_
 refine J_region ?_
 refine JL_pure (v := .int .i64 (0)) rfl (Pu.assign rfl) ?_
 refine JL_nil ?_
 refine J_block ?_
 refine J_loop (fun k ρ M => ∃ (j : Nat) (v : Value) (k1 : Chunk), ρ 2 = .slice none 0 0 ∧ ρ 3 = .slice (some ⟨b2, 0, none⟩) 60 60 ∧ ρ 4 = v ∧ ρ 5 = .int .i64 ((j : Int)) ∧ Sub [k1, [(b2, .cells ⟨bls (occT (0) (t) (List.replicate 60 false))⟩ 4 (0, 0))]] M ∧ j ≤ 60 ∧ Own 3 1 v (ints (upTo (occT (0) (t) (List.replicate 60 false)) j)) k1 ∧ k = 60 - j) _ ⟨0, (.slice none 0 0), [], rfl, rfl, rfl, rfl, (Sub.emp (Sk Sub.nil)), Nat.zero_le _, Own.nil, rfl⟩ ?_
 rintro _ ρ3 _ ⟨j, v, k1, e4, e5, e6, e7, hm8, hj, ho, rfl⟩
 obtain ⟨ρ9, rfl⟩ := reopen_ex (uc e4 (uc e5 (uc e6 (uc e7 un))))
 clear e4 e5 e6 e7
 refine J_sub hm8 ?_
 refine J_seq ?_
 refine J_seq ?_
 refine J_region ?_
 refine JL_pure (v := .int .i64 ((j : Int))) rfl (Pu.move rfl) ?_
 refine JL_pure (v := .slice (some ⟨b2, 0, none⟩) 60 60) rfl (Pu.move rfl) ?_
 refine JL_pure (v := .int .i64 (60)) rfl (Pu.lenSl Tryz.runUnderlying82 rfl) ?_
 refine JL_pure (v := .bool (decide ((j : Int) < 60))) rfl (Pu.lss rfl rfl) ?_
 refine JL_nil ?_
 refine J_cond (b := decide ((j : Int) < 60)) rfl (fun h10 => ?_) (fun h10 => ?_)
 ·skip
  replace h10 := dt h10
  have h10n : j < 60 := by omega
  have hul := upTo_len (occT (0) (t) (List.replicate 60 false)) j
  have hil := ints_len (upTo (occT (0) (t) (List.replicate 60 false)) j)
  refine J_skip ?_
  refine J_seq ?_
  refine J_block ?_
  refine J_seq ?_
  refine J_region ?_
  refine JL_pure (v := .slice (some ⟨b2, 0, none⟩) 60 60) rfl (Pu.move rfl) ?_
  refine JL_pure (v := .int .i64 ((j : Int))) rfl (Pu.move rfl) ?_
  refine JL_pure (v := .pointer (some ⟨b2, 0 + j * 1, none⟩)) rfl (Pu.idx j Tryz.runUnderlying82 ty4 rfl rfl (by omega) (by omega)) ?_
  refine JL_run rfl (Pu_load1 ty4 rfl (At.bx 1 rfl) (bls_get1 (by have hbl : List.length (occT (0) (t) (List.replicate 60 false)) = 60 := ((occT_len _ _ _).trans (List.length_replicate ..)); omega)) ?_)
  refine JL_nil ?_
  refine J_cond (b := (occT (0) (t) (List.replicate 60 false)).getD j false) rfl (fun h11 => ?_) (fun h11 => ?_)
  ·skip
   refine J_region ?_
   refine JL_pure (v := v) rfl (Pu.move rfl) ?_
   refine JL_pure (v := .int .i64 ((j : Int))) rfl (Pu.move rfl) ?_
   refine JL_run rfl (Runs_buildSlice (vs := [.int .i64 ((j : Int))]) [[.int .i64 ((j : Int))]] Tryz.runUnderlying43 el3 rfl rfl (by intro e he; simp only [List.mem_cons, List.not_mem_nil, or_false] at he; subst he; exact rfl) rfl (by decide) fun b12 k12 ho12 hk12 => ?_)
   have hlens13 : ∀ e ∈ ([[.int .i64 ((j : Int))]] : List (List Value)), List.length e = 1 := by
    intro e he; simp only [List.mem_cons, List.not_mem_nil, or_false] at he
    rcases he with rfl
    ·exact rfl
   have hoks13 : ∀ e ∈ ([[.int .i64 ((j : Int))]] : List (List Value)), okc e := by
    intro e he; simp only [List.mem_cons, List.not_mem_nil, or_false] at he
    rcases he with rfl
    ·exact (okc_cons rfl okc_nil)
   refine JL_run rfl (Runs_append (i := 1) (n := 1) (es' := [[.int .i64 ((j : Int))]]) Tryz.runUnderlying43 Tryz.runUnderlying43 (Or.inl rfl) el3 rfl rfl rfl ho (fun F w m => Src.row (((At.k 0 rfl (by rw [hk12]; exact List.mem_cons_self))).heap m) (sub_a (flatten_len hlens13))) rfl hlens13 hoks13 (by decide) (by omega) fun v13 k13 ho13 => ?_)
   refine JL_pure (v := v13) rfl (Pu.assign rfl) ?_
   refine JL_nil ?_
   refine J_region ?_
   refine JL_pure (v := .int .i64 ((j : Int))) rfl (Pu.move rfl) ?_
   refine JL_pure (v := .int .i64 (((j + 1 : Nat) : Int))) rfl (Pu.inc rfl rfl (by omega)) ?_
   refine JL_pure (v := .int .i64 (((j + 1 : Nat) : Int))) rfl (Pu.assign rfl) ?_
   refine JL_nil ?_
   refine ⟨_, ?_, (j + 1), (v13), (k13), rfl, rfl, rfl, rfl, (Sd (Sk (Sk Sub.nil))), ?_, ?_, rfl⟩
   ·omega
   ·omega
   ·rw [upTo_succ, if_pos h11, ints_snoc]; exact ho13
  ·skip
   refine J_skip ?_
   refine J_region ?_
   refine JL_pure (v := .int .i64 ((j : Int))) rfl (Pu.move rfl) ?_
   refine JL_pure (v := .int .i64 (((j + 1 : Nat) : Int))) rfl (Pu.inc rfl rfl (by omega)) ?_
   refine JL_pure (v := .int .i64 (((j + 1 : Nat) : Int))) rfl (Pu.assign rfl) ?_
   refine JL_nil ?_
   refine ⟨_, ?_, (j + 1), (v), (k1), rfl, rfl, rfl, rfl, (Sk (Sk Sub.nil)), ?_, ?_, rfl⟩
   ·omega
   ·omega
   ·rw [upTo_succ, if_neg (by rw [h11]; decide)]; exact ho
 ·skip
  replace h10 := df h10
  have h10n : 60 ≤ j := by omega
  refine J_exit _ rfl ?_
  refine J_seq ?_
  refine J_region ?_
  refine JL_pure (v := v) rfl (Pu.move rfl) ?_
  refine JL_pure (v := v) rfl (Pu.assign rfl) ?_
  refine JL_nil ?_
  refine J_ret ?_
  refine ⟨v, [k1], Ret.one rfl (RV.tmp rfl), (Sk Sub.nil), ?_⟩
  obtain rfl : j = 60 := by omega
  exact ⟨v, k1, rfl, rfl, ho⟩
end Go.Proofs.YtdeinimmmjichaaGreat.Hs
/-! Walks, printed by a program of this session's own (gen.py). -/
namespace Go.Proofs.YtdeinimmmjichaaGreat.Hs
open Go Go.Proofs
set_option maxRecDepth 100000
set_option linter.unusedVariables false
set_option linter.unusedSimpArgs false
attribute [local irreducible] JL J CT wlo
theorem samePatP_ct : ∀ (p q : Pt) (cs ds : List Value) (H : Heap), RP H cs p → RP H ds q → CT Tryz.prog 61 ⟨[.agg ⟨cs⟩, .agg ⟨ds⟩]⟩ [] H (fun v N => v = .bool (decide (p = q)) ∧ N = []) := by
 intro p
 induction p using Pt.ind with
 | h kind num ref kids ih =>
 intro q cs ds H hp hq
 obtain ⟨ks, rfl, hk, hn, hks⟩ := RP_mk.1 hp
 obtain ⟨ksq, rfl, hkq, hnq, hksq⟩ := RP_open hq
 refine CT_enter Tryz.func61 rfl rfl ?_
 refine J_seq ?_
 refine J_region ?_
 refine JL_run rfl (Runs_box (l := pkP (kind) (num) (ref) (ks)) rfl rfl fun b1 => ?_)
 refine JL_run rfl (Runs_box (l := pkP (q.kind) (q.num) (q.ref) (ksq)) rfl rfl fun b2 => ?_)
 refine JL_pure (v := .bool (false)) rfl (Pu.assign rfl) ?_
 refine JL_nil ?_
 refine J_cut (fun ρ M => ρ 4 = .bool (((decide (kind = q.kind)) && ((decide (num = q.num)) && (decide (ref = q.ref)))) && (decide ((kids) = (q.kids)))) ∧ M = [[(b2, .cells ⟨pkP (q.kind) (q.num) (q.ref) (ksq)⟩ 30 (0, 0))], [(b1, .cells ⟨pkP (kind) (num) (ref) (ks)⟩ 30 (0, 0))]]) ?_ ?_
 ·refine J_region ?_
  refine JL_pure (v := .pointer (some ⟨b1, 0, none⟩)) rfl (fa30_0 rfl rfl) ?_
  refine JL_run rfl (Pu_load1 ty3 rfl (At.bx 1 rfl) (pkP_0 ..) ?_)
  refine JL_pure (v := .pointer (some ⟨b1, 1, none⟩)) rfl (fa30_1 rfl rfl) ?_
  refine JL_run rfl (Pu_load1 ty3 rfl (At.bx 1 rfl) (pkP_1 ..) ?_)
  refine JL_pure (v := .pointer (some ⟨b1, 2, none⟩)) rfl (fa30_2 rfl rfl) ?_
  refine JL_run rfl (Pu_load ty23 rfl (At.bx 1 rfl) (pkP_2 ..) ?_)
  refine JL_pure (v := .agg ⟨([.int .i64 (kind), .int .i64 (num)]) ++ (sC (ref))⟩) rfl (Pu.build (pv := [(0, .int .i64 (kind)), (1, .int .i64 (num)), (2, .agg ⟨sC (ref)⟩)]) (l := ([.int .i64 (kind), .int .i64 (num)]) ++ (sC (ref))) rfl (bldK _ _ _)) ?_
  refine JL_pure (v := .pointer (some ⟨b2, 0, none⟩)) rfl (fa30_0 rfl rfl) ?_
  refine JL_run rfl (Pu_load1 ty3 rfl (At.bx 0 rfl) (pkP_0 ..) ?_)
  refine JL_pure (v := .pointer (some ⟨b2, 1, none⟩)) rfl (fa30_1 rfl rfl) ?_
  refine JL_run rfl (Pu_load1 ty3 rfl (At.bx 0 rfl) (pkP_1 ..) ?_)
  refine JL_pure (v := .pointer (some ⟨b2, 2, none⟩)) rfl (fa30_2 rfl rfl) ?_
  refine JL_run rfl (Pu_load ty23 rfl (At.bx 0 rfl) (pkP_2 ..) ?_)
  refine JL_pure (v := .agg ⟨([.int .i64 (q.kind), .int .i64 (q.num)]) ++ (sC (q.ref))⟩) rfl (Pu.build (pv := [(0, .int .i64 (q.kind)), (1, .int .i64 (q.num)), (2, .agg ⟨sC (q.ref)⟩)]) (l := ([.int .i64 (q.kind), .int .i64 (q.num)]) ++ (sC (q.ref))) rfl (bldK _ _ _)) ?_
  refine JL_pure (v := .bool ((decide (kind = q.kind)) && ((decide (num = q.num)) && (decide (ref = q.ref))))) rfl (eqK rfl rfl) ?_
  refine JL_pure (v := .bool ((decide (kind = q.kind)) && ((decide (num = q.num)) && (decide (ref = q.ref))))) rfl (Pu.move rfl) ?_
  cases h3 : ((decide (kind = q.kind)) && ((decide (num = q.num)) && (decide (ref = q.ref)))) with
  | true =>
   obtain ⟨h3a, h3b⟩ := andT h3
   replace h3a := dt h3a
   obtain ⟨h3ba, h3bb⟩ := andT h3b
   replace h3ba := dt h3ba
   replace h3bb := dt h3bb
   refine JL_pure (v := .pointer (some ⟨b1, 34, none⟩)) rfl (fa30_3 rfl rfl) ?_
   refine JL_run rfl (Pu_load1 ty28 rfl (At.bx 1 rfl) (pkP_34 ..) ?_)
   refine JL_pure (v := .pointer (some ⟨b2, 34, none⟩)) rfl (fa30_3 rfl rfl) ?_
   refine JL_run rfl (Pu_load1 ty28 rfl (At.bx 0 rfl) (pkP_34 ..) ?_)
   refine JL_call rfl Tryz.call65 rfl (fun hin => eqFuncP_ct 61 [] [] (fun _ _ => rfl) _ _ _ _ _ (RPs.mono (Hle.hu _ _) hks) (RPs.mono (Hle.hu _ _) hksq) (fun x hx y hy a b h hh ra rb => ih x hx y a b h ra rb)) rfl ?_
   rintro _ _ ⟨rfl, rfl⟩
   refine JL_pure (v := .bool (decide ((kids) = (q.kids)))) rfl (Pu.pickT rfl rfl) ?_
   refine JL_pure (v := .bool (decide ((kids) = (q.kids)))) rfl (Pu.assign rfl) ?_
   refine JL_nil ?_
   first | exact ⟨rfl, rfl⟩ | (exfalso; omega)
  | false =>
   refine JL_skip rfl ?_
   refine JL_skip rfl ?_
   refine JL_skip rfl ?_
   refine JL_skip rfl ?_
   refine JL_skip rfl ?_
   refine JL_pure (v := .bool (false)) rfl (Pu.pickF rfl rfl) ?_
   refine JL_pure (v := .bool (false)) rfl (Pu.assign rfl) ?_
   refine JL_nil ?_
   first | exact ⟨rfl, rfl⟩ | (exfalso; omega)
 ·rintro ρ4 _ ⟨e5, rfl⟩
  obtain ⟨ρ6, rfl⟩ := reopen_ex (uc e5 un)
  clear e5
  refine J_ret ?_
  refine ⟨.bool (((decide (kind = q.kind)) && ((decide (num = q.num)) && (decide (ref = q.ref)))) && (decide ((kids) = (q.kids)))), [], Ret.one rfl (RV.tmp rfl), Sub.nil, ?_⟩
  exact ⟨congrArg Value.bool (eqPk ..), rfl⟩
theorem sameCaseP_ct : ∀ (c d : Pt × Tm) (a b : List Value) (H : Heap), RC H a c → RC H b d → (∀ h a b, Hle H h → RT h a c.2 → RT h b d.2 → CT Tryz.prog 22 ⟨[.agg ⟨a⟩, .agg ⟨b⟩]⟩ [] h (fun v N => v = .bool (decide (c.2 = d.2)) ∧ N = [])) → CT Tryz.prog 60 ⟨[.agg ⟨a⟩, .agg ⟨b⟩]⟩ [] H (fun v N => v = .bool (decide (c = d)) ∧ N = []) := by
 intro c d a b H ⟨ca, cb, e1, ra1, ra2⟩ ⟨da, db, e2, rb1, rb2⟩ hg
 subst e1 e2
 refine CT_enter Tryz.func60 rfl rfl ?_
 refine J_seq ?_
 refine J_region ?_
 refine JL_run rfl (Runs_box (l := (ca) ++ (cb)) rfl rfl fun b1 => ?_)
 refine JL_run rfl (Runs_box (l := (da) ++ (db)) rfl rfl fun b2 => ?_)
 refine JL_pure (v := .bool (false)) rfl (Pu.assign rfl) ?_
 refine JL_nil ?_
 refine J_cut (fun ρ M => ρ 4 = .bool ((decide ((c.1) = (d.1))) && (decide ((c.2) = (d.2)))) ∧ M = [[(b2, .cells ⟨(da) ++ (db)⟩ 34 (0, 0))], [(b1, .cells ⟨(ca) ++ (cb)⟩ 34 (0, 0))]]) ?_ ?_
 ·refine J_region ?_
  refine JL_pure (v := .pointer (some ⟨b1, 0, none⟩)) rfl (fa34_0 rfl rfl) ?_
  refine JL_run rfl (Pu_load ty30 rfl (At.bx 1 rfl) (sub_l (RP_len ra1)) ?_)
  refine JL_pure (v := .pointer (some ⟨b2, 0, none⟩)) rfl (fa34_0 rfl rfl) ?_
  refine JL_run rfl (Pu_load ty30 rfl (At.bx 0 rfl) (sub_l (RP_len rb1)) ?_)
  refine JL_call rfl Tryz.call61 rfl (fun hin => samePatP_ct _ _ _ _ _ (RP.mono (Hle.hu _ _) ra1) (RP.mono (Hle.hu _ _) rb1)) rfl ?_
  rintro _ _ ⟨rfl, rfl⟩
  refine JL_pure (v := .bool (decide ((c.1) = (d.1)))) rfl (Pu.move rfl) ?_
  cases h3 : (decide ((c.1) = (d.1))) with
  | true =>
   replace h3 := dt h3
   refine JL_pure (v := .pointer (some ⟨b1, 35, none⟩)) rfl (fa34_1 rfl rfl) ?_
   refine JL_run rfl (Pu_load ty27 rfl (At.bx 1 rfl) (sub_r (RP_len ra1) (RT_len ra2)) ?_)
   refine JL_pure (v := .pointer (some ⟨b2, 35, none⟩)) rfl (fa34_1 rfl rfl) ?_
   refine JL_run rfl (Pu_load ty27 rfl (At.bx 0 rfl) (sub_r (RP_len rb1) (RT_len rb2)) ?_)
   refine JL_call rfl Tryz.call22 rfl (fun hin => hg _ _ _ (Hle.hu _ _) (RT.mono (Hle.hu _ _) ra2) (RT.mono (Hle.hu _ _) rb2)) rfl ?_
   rintro _ _ ⟨rfl, rfl⟩
   refine JL_pure (v := .bool (decide ((c.2) = (d.2)))) rfl (Pu.pickT rfl rfl) ?_
   refine JL_pure (v := .bool (decide ((c.2) = (d.2)))) rfl (Pu.assign rfl) ?_
   refine JL_nil ?_
   first | exact ⟨rfl, rfl⟩ | (exfalso; omega)
  | false =>
   replace h3 := df h3
   refine JL_skip rfl ?_
   refine JL_skip rfl ?_
   refine JL_skip rfl ?_
   refine JL_skip rfl ?_
   refine JL_skip rfl ?_
   refine JL_pure (v := .bool (false)) rfl (Pu.pickF rfl rfl) ?_
   refine JL_pure (v := .bool (false)) rfl (Pu.assign rfl) ?_
   refine JL_nil ?_
   first | exact ⟨rfl, rfl⟩ | (exfalso; omega)
 ·rintro ρ4 _ ⟨e5, rfl⟩
  obtain ⟨ρ6, rfl⟩ := reopen_ex (uc e5 un)
  clear e5
  refine J_ret ?_
  refine ⟨.bool ((decide ((c.1) = (d.1))) && (decide ((c.2) = (d.2)))), [], Ret.one rfl (RV.tmp rfl), Sub.nil, ?_⟩
  exact ⟨by obtain ⟨c1, c2⟩ := c; obtain ⟨d1, d2⟩ := d; refine congrArg Value.bool ?_; rw [Bool.eq_iff_iff]; simp, rfl⟩
theorem sameP_ct : ∀ (t u : Tm) (cs ds : List Value) (H : Heap), RT H cs t → RT H ds u → CT Tryz.prog 22 ⟨[.agg ⟨cs⟩, .agg ⟨ds⟩]⟩ [] H (fun v N => v = .bool (decide (t = u)) ∧ N = []) := by
 intro t
 induction t using Tm.ind with
 | h kind num ref kids cases ih ih' =>
 intro u cs ds H ht hu
 obtain ⟨ks, cv, rfl, hk, hn, hks, hcv⟩ := RT_mk.1 ht
 obtain ⟨ksu, cvu, rfl, hku, hnu, hksu, hcvu⟩ := RT_open hu
 refine CT_enter Tryz.func22 rfl rfl ?_
 refine J_seq ?_
 refine J_region ?_
 refine JL_run rfl (Runs_box (l := pkT (kind) (num) (ref) (ks) (cv)) rfl rfl fun b1 => ?_)
 refine JL_run rfl (Runs_box (l := pkT (u.kind) (u.num) (u.ref) (ksu) (cvu)) rfl rfl fun b2 => ?_)
 refine JL_pure (v := .bool (false)) rfl (Pu.assign rfl) ?_
 refine JL_nil ?_
 refine J_cut (fun ρ M => ρ 4 = .bool (((((decide (kind = u.kind)) && (decide (num = u.num))) && (decide (ref = u.ref))) && (decide ((kids) = (u.kids)))) && (decide ((cases) = (u.cases)))) ∧ M = [[(b2, .cells ⟨pkT (u.kind) (u.num) (u.ref) (ksu) (cvu)⟩ 27 (0, 0))], [(b1, .cells ⟨pkT (kind) (num) (ref) (ks) (cv)⟩ 27 (0, 0))]]) ?_ ?_
 ·refine J_region ?_
  refine JL_pure (v := .pointer (some ⟨b1, 0, none⟩)) rfl (fa27_0 rfl rfl) ?_
  refine JL_run rfl (Pu_load1 ty3 rfl (At.bx 1 rfl) (pkT_0 ..) ?_)
  refine JL_pure (v := .pointer (some ⟨b2, 0, none⟩)) rfl (fa27_0 rfl rfl) ?_
  refine JL_run rfl (Pu_load1 ty3 rfl (At.bx 0 rfl) (pkT_0 ..) ?_)
  refine JL_pure (v := .bool (decide (kind = u.kind))) rfl (Pu.eql rfl rfl) ?_
  refine JL_pure (v := .bool (decide (kind = u.kind))) rfl (Pu.move rfl) ?_
  cases h3 : (decide (kind = u.kind)) with
  | true =>
   replace h3 := dt h3
   refine JL_pure (v := .pointer (some ⟨b1, 1, none⟩)) rfl (fa27_1 rfl rfl) ?_
   refine JL_run rfl (Pu_load1 ty3 rfl (At.bx 1 rfl) (pkT_1 ..) ?_)
   refine JL_pure (v := .pointer (some ⟨b2, 1, none⟩)) rfl (fa27_1 rfl rfl) ?_
   refine JL_run rfl (Pu_load1 ty3 rfl (At.bx 0 rfl) (pkT_1 ..) ?_)
   refine JL_pure (v := .bool (decide (num = u.num))) rfl (Pu.eql rfl rfl) ?_
   refine JL_pure (v := .bool (decide (num = u.num))) rfl (Pu.pickT rfl rfl) ?_
   refine JL_pure (v := .bool (decide (num = u.num))) rfl (Pu.move rfl) ?_
   cases h4 : (decide (num = u.num)) with
   | true =>
    replace h4 := dt h4
    refine JL_pure (v := .pointer (some ⟨b1, 2, none⟩)) rfl (fa27_2 rfl rfl) ?_
    refine JL_run rfl (Pu_load ty23 rfl (At.bx 1 rfl) (pkT_2 ..) ?_)
    refine JL_pure (v := .pointer (some ⟨b2, 2, none⟩)) rfl (fa27_2 rfl rfl) ?_
    refine JL_run rfl (Pu_load ty23 rfl (At.bx 0 rfl) (pkT_2 ..) ?_)
    refine JL_pure (v := .bool (decide (ref = u.ref))) rfl (eqS rfl rfl) ?_
    refine JL_pure (v := .bool (decide (ref = u.ref))) rfl (Pu.pickT rfl rfl) ?_
    refine JL_pure (v := .bool (decide (ref = u.ref))) rfl (Pu.move rfl) ?_
    cases h5 : (decide (ref = u.ref)) with
    | true =>
     replace h5 := dt h5
     refine JL_pure (v := .pointer (some ⟨b1, 34, none⟩)) rfl (fa27_3 rfl rfl) ?_
     refine JL_run rfl (Pu_load1 ty24 rfl (At.bx 1 rfl) (pkT_34 ..) ?_)
     refine JL_pure (v := .pointer (some ⟨b2, 34, none⟩)) rfl (fa27_3 rfl rfl) ?_
     refine JL_run rfl (Pu_load1 ty24 rfl (At.bx 0 rfl) (pkT_34 ..) ?_)
     refine JL_call rfl Tryz.call58 rfl (fun hin => eqFuncT_ct 22 [] [] (fun _ _ => rfl) _ _ _ _ _ (RTs.mono (Hle.hu _ _) hks) (RTs.mono (Hle.hu _ _) hksu) (fun x hx y hy a b h hh ra rb => ih x hx y a b h ra rb)) rfl ?_
     rintro _ _ ⟨rfl, rfl⟩
     refine JL_pure (v := .bool (decide ((kids) = (u.kids)))) rfl (Pu.pickT rfl rfl) ?_
     refine JL_pure (v := .bool (decide ((kids) = (u.kids)))) rfl (Pu.move rfl) ?_
     cases h6 : (decide ((kids) = (u.kids))) with
     | true =>
      replace h6 := dt h6
      refine JL_pure (v := .pointer (some ⟨b1, 35, none⟩)) rfl (fa27_4 rfl rfl) ?_
      refine JL_run rfl (Pu_load1 ty25 rfl (At.bx 1 rfl) (pkT_35 ..) ?_)
      refine JL_pure (v := .pointer (some ⟨b2, 35, none⟩)) rfl (fa27_4 rfl rfl) ?_
      refine JL_run rfl (Pu_load1 ty25 rfl (At.bx 0 rfl) (pkT_35 ..) ?_)
      refine JL_call rfl Tryz.call59 rfl (fun hin => eqFuncC_ct 60 [] [] (fun _ _ => rfl) _ _ _ _ _ (RCs.mono (Hle.hu _ _) hcv) (RCs.mono (Hle.hu _ _) hcvu) (fun x hx y hy a b h hh ra rb => sameCaseP_ct x y a b h ra rb (fun h' a' b' _ r1 r2 => ih' x hx y.2 a' b' h' r1 r2))) rfl ?_
      rintro _ _ ⟨rfl, rfl⟩
      refine JL_pure (v := .bool (decide ((cases) = (u.cases)))) rfl (Pu.pickT rfl rfl) ?_
      refine JL_pure (v := .bool (decide ((cases) = (u.cases)))) rfl (Pu.assign rfl) ?_
      refine JL_nil ?_
      first | exact ⟨rfl, rfl⟩ | (exfalso; omega)
     | false =>
      replace h6 := df h6
      refine JL_skip rfl ?_
      refine JL_skip rfl ?_
      refine JL_skip rfl ?_
      refine JL_skip rfl ?_
      refine JL_skip rfl ?_
      refine JL_pure (v := .bool (false)) rfl (Pu.pickF rfl rfl) ?_
      refine JL_pure (v := .bool (false)) rfl (Pu.assign rfl) ?_
      refine JL_nil ?_
      first | exact ⟨rfl, rfl⟩ | (exfalso; omega)
    | false =>
     replace h5 := df h5
     refine JL_skip rfl ?_
     refine JL_skip rfl ?_
     refine JL_skip rfl ?_
     refine JL_skip rfl ?_
     refine JL_skip rfl ?_
     refine JL_pure (v := .bool (false)) rfl (Pu.pickF rfl rfl) ?_
     refine JL_pure (v := .bool (false)) rfl (Pu.move rfl) ?_
     refine JL_skip rfl ?_
     refine JL_skip rfl ?_
     refine JL_skip rfl ?_
     refine JL_skip rfl ?_
     refine JL_skip rfl ?_
     refine JL_pure (v := .bool (false)) rfl (Pu.pickF rfl rfl) ?_
     refine JL_pure (v := .bool (false)) rfl (Pu.assign rfl) ?_
     refine JL_nil ?_
     first | exact ⟨rfl, rfl⟩ | (exfalso; omega)
   | false =>
    replace h4 := df h4
    refine JL_skip rfl ?_
    refine JL_skip rfl ?_
    refine JL_skip rfl ?_
    refine JL_skip rfl ?_
    refine JL_skip rfl ?_
    refine JL_pure (v := .bool (false)) rfl (Pu.pickF rfl rfl) ?_
    refine JL_pure (v := .bool (false)) rfl (Pu.move rfl) ?_
    refine JL_skip rfl ?_
    refine JL_skip rfl ?_
    refine JL_skip rfl ?_
    refine JL_skip rfl ?_
    refine JL_skip rfl ?_
    refine JL_pure (v := .bool (false)) rfl (Pu.pickF rfl rfl) ?_
    refine JL_pure (v := .bool (false)) rfl (Pu.move rfl) ?_
    refine JL_skip rfl ?_
    refine JL_skip rfl ?_
    refine JL_skip rfl ?_
    refine JL_skip rfl ?_
    refine JL_skip rfl ?_
    refine JL_pure (v := .bool (false)) rfl (Pu.pickF rfl rfl) ?_
    refine JL_pure (v := .bool (false)) rfl (Pu.assign rfl) ?_
    refine JL_nil ?_
    first | exact ⟨rfl, rfl⟩ | (exfalso; omega)
  | false =>
   replace h3 := df h3
   refine JL_skip rfl ?_
   refine JL_skip rfl ?_
   refine JL_skip rfl ?_
   refine JL_skip rfl ?_
   refine JL_skip rfl ?_
   refine JL_pure (v := .bool (false)) rfl (Pu.pickF rfl rfl) ?_
   refine JL_pure (v := .bool (false)) rfl (Pu.move rfl) ?_
   refine JL_skip rfl ?_
   refine JL_skip rfl ?_
   refine JL_skip rfl ?_
   refine JL_skip rfl ?_
   refine JL_skip rfl ?_
   refine JL_pure (v := .bool (false)) rfl (Pu.pickF rfl rfl) ?_
   refine JL_pure (v := .bool (false)) rfl (Pu.move rfl) ?_
   refine JL_skip rfl ?_
   refine JL_skip rfl ?_
   refine JL_skip rfl ?_
   refine JL_skip rfl ?_
   refine JL_skip rfl ?_
   refine JL_pure (v := .bool (false)) rfl (Pu.pickF rfl rfl) ?_
   refine JL_pure (v := .bool (false)) rfl (Pu.move rfl) ?_
   refine JL_skip rfl ?_
   refine JL_skip rfl ?_
   refine JL_skip rfl ?_
   refine JL_skip rfl ?_
   refine JL_skip rfl ?_
   refine JL_pure (v := .bool (false)) rfl (Pu.pickF rfl rfl) ?_
   refine JL_pure (v := .bool (false)) rfl (Pu.assign rfl) ?_
   refine JL_nil ?_
   first | exact ⟨rfl, rfl⟩ | (exfalso; omega)
 ·rintro ρ7 _ ⟨e8, rfl⟩
  obtain ⟨ρ9, rfl⟩ := reopen_ex (uc e8 un)
  clear e8
  refine J_ret ?_
  refine ⟨.bool (((((decide (kind = u.kind)) && (decide (num = u.num))) && (decide (ref = u.ref))) && (decide ((kids) = (u.kids)))) && (decide ((cases) = (u.cases)))), [], Ret.one rfl (RV.tmp rfl), Sub.nil, ?_⟩
  exact ⟨congrArg Value.bool (eqTd ..), rfl⟩
end Go.Proofs.YtdeinimmmjichaaGreat.Hs
/-! Walks, printed by a program of this session's own (gen.py). -/
namespace Go.Proofs.YtdeinimmmjichaaGreat.Hs
open Go Go.Proofs
set_option maxRecDepth 100000
set_option linter.unusedVariables false
set_option linter.unusedSimpArgs false
attribute [local irreducible] JL J CT wlo
theorem samePatR_ct : ∀ (p q : Pt) (cs ds : List Value) (H : Heap), RP H cs p → RP H ds q → CT Tryz.prog 62 ⟨[.agg ⟨cs⟩, .agg ⟨ds⟩]⟩ [] H (fun v N => v = .bool (decide (p = q)) ∧ N = []) := by
 intro p
 induction p using Pt.ind with
 | h kind num ref kids ih =>
 intro q cs ds H hp hq
 obtain ⟨ks, rfl, hk, hn, hks⟩ := RP_mk.1 hp
 obtain ⟨ksq, rfl, hkq, hnq, hksq⟩ := RP_open hq
 refine CT_enter Tryz.func62 rfl rfl ?_
 refine J_seq ?_
 refine J_region ?_
 refine JL_run rfl (Runs_box (l := pkP (kind) (num) (ref) (ks)) rfl rfl fun b1 => ?_)
 refine JL_run rfl (Runs_box (l := pkP (q.kind) (q.num) (q.ref) (ksq)) rfl rfl fun b2 => ?_)
 refine JL_pure (v := .bool (false)) rfl (Pu.assign rfl) ?_
 refine JL_nil ?_
 refine J_seq ?_
 refine J_cut (fun ρ M => ρ 2 = .pointer (some ⟨b1, 0, none⟩) ∧ ρ 3 = .pointer (some ⟨b2, 0, none⟩) ∧ ρ 4 = .bool (false) ∧ ρ 33 = .bool ((((!decide (kind = q.kind)) || (!decide (num = q.num))) || (!decide (ref = q.ref))) || (!decide (((kids).length : Int) = ((q.kids).length : Int)))) ∧ M = [[(b2, .cells ⟨pkP (q.kind) (q.num) (q.ref) (ksq)⟩ 30 (0, 0))], [(b1, .cells ⟨pkP (kind) (num) (ref) (ks)⟩ 30 (0, 0))]]) ?_ ?_
 ·refine J_region ?_
  refine JL_pure (v := .pointer (some ⟨b1, 0, none⟩)) rfl (fa30_0 rfl rfl) ?_
  refine JL_run rfl (Pu_load1 ty3 rfl (At.bx 1 rfl) (pkP_0 ..) ?_)
  refine JL_pure (v := .pointer (some ⟨b2, 0, none⟩)) rfl (fa30_0 rfl rfl) ?_
  refine JL_run rfl (Pu_load1 ty3 rfl (At.bx 0 rfl) (pkP_0 ..) ?_)
  refine JL_pure (v := .bool (!decide (kind = q.kind))) rfl (Pu.neq rfl rfl) ?_
  refine JL_pure (v := .bool (!decide (kind = q.kind))) rfl (Pu.move rfl) ?_
  cases h3 : (!decide (kind = q.kind)) with
  | true =>
   replace h3 := nt h3
   replace h3 := df h3
   refine JL_skip rfl ?_
   refine JL_skip rfl ?_
   refine JL_skip rfl ?_
   refine JL_skip rfl ?_
   refine JL_skip rfl ?_
   refine JL_pure (v := .bool (true)) rfl (Pu.pickT rfl rfl) ?_
   refine JL_pure (v := .bool (true)) rfl (Pu.move rfl) ?_
   refine JL_skip rfl ?_
   refine JL_skip rfl ?_
   refine JL_skip rfl ?_
   refine JL_skip rfl ?_
   refine JL_skip rfl ?_
   refine JL_pure (v := .bool (true)) rfl (Pu.pickT rfl rfl) ?_
   refine JL_pure (v := .bool (true)) rfl (Pu.move rfl) ?_
   refine JL_skip rfl ?_
   refine JL_skip rfl ?_
   refine JL_skip rfl ?_
   refine JL_skip rfl ?_
   refine JL_skip rfl ?_
   refine JL_skip rfl ?_
   refine JL_skip rfl ?_
   refine JL_pure (v := .bool (true)) rfl (Pu.pickT rfl rfl) ?_
   refine JL_nil ?_
   first | exact ⟨rfl, rfl, rfl, rfl, rfl⟩ | (exfalso; omega)
  | false =>
   replace h3 := nf h3
   replace h3 := dt h3
   refine JL_pure (v := .pointer (some ⟨b1, 1, none⟩)) rfl (fa30_1 rfl rfl) ?_
   refine JL_run rfl (Pu_load1 ty3 rfl (At.bx 1 rfl) (pkP_1 ..) ?_)
   refine JL_pure (v := .pointer (some ⟨b2, 1, none⟩)) rfl (fa30_1 rfl rfl) ?_
   refine JL_run rfl (Pu_load1 ty3 rfl (At.bx 0 rfl) (pkP_1 ..) ?_)
   refine JL_pure (v := .bool (!decide (num = q.num))) rfl (Pu.neq rfl rfl) ?_
   refine JL_pure (v := .bool (!decide (num = q.num))) rfl (Pu.pickF rfl rfl) ?_
   refine JL_pure (v := .bool (!decide (num = q.num))) rfl (Pu.move rfl) ?_
   cases h4 : (!decide (num = q.num)) with
   | true =>
    replace h4 := nt h4
    replace h4 := df h4
    refine JL_skip rfl ?_
    refine JL_skip rfl ?_
    refine JL_skip rfl ?_
    refine JL_skip rfl ?_
    refine JL_skip rfl ?_
    refine JL_pure (v := .bool (true)) rfl (Pu.pickT rfl rfl) ?_
    refine JL_pure (v := .bool (true)) rfl (Pu.move rfl) ?_
    refine JL_skip rfl ?_
    refine JL_skip rfl ?_
    refine JL_skip rfl ?_
    refine JL_skip rfl ?_
    refine JL_skip rfl ?_
    refine JL_skip rfl ?_
    refine JL_skip rfl ?_
    refine JL_pure (v := .bool (true)) rfl (Pu.pickT rfl rfl) ?_
    refine JL_nil ?_
    first | exact ⟨rfl, rfl, rfl, rfl, rfl⟩ | (exfalso; omega)
   | false =>
    replace h4 := nf h4
    replace h4 := dt h4
    refine JL_pure (v := .pointer (some ⟨b1, 2, none⟩)) rfl (fa30_2 rfl rfl) ?_
    refine JL_run rfl (Pu_load ty23 rfl (At.bx 1 rfl) (pkP_2 ..) ?_)
    refine JL_pure (v := .pointer (some ⟨b2, 2, none⟩)) rfl (fa30_2 rfl rfl) ?_
    refine JL_run rfl (Pu_load ty23 rfl (At.bx 0 rfl) (pkP_2 ..) ?_)
    refine JL_pure (v := .bool (!decide (ref = q.ref))) rfl (neqS rfl rfl) ?_
    refine JL_pure (v := .bool (!decide (ref = q.ref))) rfl (Pu.pickF rfl rfl) ?_
    refine JL_pure (v := .bool (!decide (ref = q.ref))) rfl (Pu.move rfl) ?_
    cases h5 : (!decide (ref = q.ref)) with
    | true =>
     replace h5 := nt h5
     replace h5 := df h5
     refine JL_skip rfl ?_
     refine JL_skip rfl ?_
     refine JL_skip rfl ?_
     refine JL_skip rfl ?_
     refine JL_skip rfl ?_
     refine JL_skip rfl ?_
     refine JL_skip rfl ?_
     refine JL_pure (v := .bool (true)) rfl (Pu.pickT rfl rfl) ?_
     refine JL_nil ?_
     first | exact ⟨rfl, rfl, rfl, rfl, rfl⟩ | (exfalso; omega)
    | false =>
     replace h5 := nf h5
     replace h5 := dt h5
     refine JL_pure (v := .pointer (some ⟨b1, 34, none⟩)) rfl (fa30_3 rfl rfl) ?_
     refine JL_run rfl (Pu_load1 ty28 rfl (At.bx 1 rfl) (pkP_34 ..) ?_)
     obtain ⟨a6, cap6, hv6⟩ := hks.sl
     have hle6 := hks.le
     refine JL_pure (v := .int .i64 (((kids).length : Int))) rfl (Pu.lenSl Tryz.runUnderlying28 hv6) ?_
     refine JL_pure (v := .pointer (some ⟨b2, 34, none⟩)) rfl (fa30_3 rfl rfl) ?_
     refine JL_run rfl (Pu_load1 ty28 rfl (At.bx 0 rfl) (pkP_34 ..) ?_)
     obtain ⟨a7, cap7, hv7⟩ := hksq.sl
     have hle7 := hksq.le
     refine JL_pure (v := .int .i64 (((q.kids).length : Int))) rfl (Pu.lenSl Tryz.runUnderlying28 hv7) ?_
     refine JL_pure (v := .bool (!decide (((kids).length : Int) = ((q.kids).length : Int)))) rfl (Pu.neq rfl rfl) ?_
     refine JL_pure (v := .bool (!decide (((kids).length : Int) = ((q.kids).length : Int)))) rfl (Pu.pickF rfl rfl) ?_
     refine JL_nil ?_
     first | exact ⟨rfl, rfl, rfl, rfl, rfl⟩ | (exfalso; omega)
 ·rintro ρ8 _ ⟨e9, e10, e11, e12, rfl⟩
  obtain ⟨ρ13, rfl⟩ := reopen_ex (uc e9 (uc e10 (uc e11 (uc e12 un))))
  clear e9 e10 e11 e12
  refine J_cond (b := (((!decide (kind = q.kind)) || (!decide (num = q.num))) || (!decide (ref = q.ref))) || (!decide (((kids).length : Int) = ((q.kids).length : Int)))) rfl (fun h14 => ?_) (fun h14 => ?_)
  ·skip
   refine J_seq ?_
   refine J_region ?_
   refine JL_pure (v := .bool (false)) rfl (Pu.assign rfl) ?_
   refine JL_nil ?_
   refine J_ret ?_
   refine ⟨.bool (false), [], Ret.one rfl (RV.tmp rfl), Sub.nil, ?_⟩
   exact ⟨by rw [decide_eq_false]; intro e; cases q; simp_all [Pt.kind, Pt.num, Pt.ref, Pt.kids], rfl⟩
  ·skip
   obtain ⟨h14a, h14b⟩ := orF h14
   obtain ⟨h14aa, h14ab⟩ := orF h14a
   obtain ⟨h14aaa, h14aab⟩ := orF h14aa
   replace h14aaa := nf h14aaa
   replace h14aaa := dt h14aaa
   replace h14aab := nf h14aab
   replace h14aab := dt h14aab
   replace h14ab := nf h14ab
   replace h14ab := dt h14ab
   replace h14b := nf h14b
   replace h14b := dt h14b
   refine J_skip ?_
   refine J_seq ?_
   refine J_seq ?_
   refine J_region ?_
   refine JL_pure (v := .int .i64 (0)) rfl (Pu.assign rfl) ?_
   refine JL_nil ?_
   refine J_block ?_
   refine J_loop (fun k ρ M => ∃ (j : Nat), ρ 2 = .pointer (some ⟨b1, 0, none⟩) ∧ ρ 3 = .pointer (some ⟨b2, 0, none⟩) ∧ ρ 4 = .bool (false) ∧ ρ 5 = .int .i64 ((j : Int)) ∧ Sub [[(b2, .cells ⟨pkP (q.kind) (q.num) (q.ref) (ksq)⟩ 30 (0, 0))], [(b1, .cells ⟨pkP (kind) (num) (ref) (ks)⟩ 30 (0, 0))]] M ∧ j ≤ (kids).length ∧ kind = q.kind ∧ num = q.num ∧ ref = q.ref ∧ kids.length = q.kids.length ∧ kids.take j = q.kids.take j ∧ k = (kids).length - j) _ ⟨0, rfl, rfl, rfl, rfl, (Sk (Sk Sub.nil)), Nat.zero_le _, (by simp_all), (by simp_all), (by simp_all), (by simp_all; try omega), rfl, rfl⟩ ?_
   rintro _ ρ15 _ ⟨j, e16, e17, e18, e19, hm20, hj, hek, hen, her, hlq, htake, rfl⟩
   obtain ⟨ρ21, rfl⟩ := reopen_ex (uc e16 (uc e17 (uc e18 (uc e19 un))))
   clear e16 e17 e18 e19
   refine J_sub hm20 ?_
   have hlen := hks.le
   refine J_seq ?_
   refine J_seq ?_
   refine J_region ?_
   refine JL_pure (v := .int .i64 ((j : Int))) rfl (Pu.move rfl) ?_
   refine JL_pure (v := .pointer (some ⟨b1, 34, none⟩)) rfl (fa30_3 rfl rfl) ?_
   refine JL_run rfl (Pu_load1 ty28 rfl (At.bx 1 rfl) (pkP_34 ..) ?_)
   obtain ⟨a22, cap22, hv22⟩ := hks.sl
   have hle22 := hks.le
   refine JL_pure (v := .int .i64 (((kids).length : Int))) rfl (Pu.lenSl Tryz.runUnderlying28 hv22) ?_
   refine JL_pure (v := .bool (decide ((j : Int) < ((kids).length : Int)))) rfl (Pu.lss rfl rfl) ?_
   refine JL_nil ?_
   refine J_cond (b := decide ((j : Int) < ((kids).length : Int))) rfl (fun h23 => ?_) (fun h23 => ?_)
   ·skip
    replace h23 := dt h23
    have h23n : j < (kids).length := by omega
    have hltm : j < q.kids.length := by omega
    refine J_skip ?_
    refine J_seq ?_
    refine J_block ?_
    refine J_seq ?_
    obtain ⟨b25, o25, cap25, row25, T25, fr25, cs25, hv25, hb25, hs25, hE25⟩ := hks.get j (by first | assumption | omega | decide | simp)
    obtain ⟨b26, o26, cap26, row26, T26, fr26, cs26, hv26, hb26, hs26, hE26⟩ := hksq.get j (by first | assumption | omega | decide | simp)
    refine J_draw mixed #[0, 1, 0, 7, 15, 0, 32, 0, 224, 480, 1023, 2047] 10 10 2 rfl (by kernel_rfl) (fun i r24 N24 => match i with | 0 => (r24 0) = .pointer (some ⟨b1, 34, none⟩) | 1 => (r24 1) = ks | 2 => (r24 2) = .int .i64 ((j : Int)) | 3 => (r24 3) = .pointer (some ⟨b25, o25 + j * 35, none⟩) | 4 => (r24 4) = .agg ⟨cs25⟩ | 5 => (r24 5) = .pointer (some ⟨b2, 34, none⟩) | 6 => (r24 6) = ksq | 7 => (r24 7) = .int .i64 ((j : Int)) | 8 => (r24 8) = .pointer (some ⟨b26, o26 + j * 35, none⟩) | 9 => (r24 9) = .agg ⟨cs26⟩ | _ => True) ⟨?_, ?_, ?_, ?_, ?_, ?_, ?_, ?_, ?_, ?_, trivial⟩ ?_
    ·intro ρ r24 N24 B hB hBa hp hr hr0
     have q2 : ρ 2 = .pointer (some ⟨b1, 0, none⟩) := hr0 2 (by kernel_rfl)
     obtain ⟨ρ27, rfl⟩ := reopen_ex (uc q2 un)
     clear q2
     refine JL_pure (v := .pointer (some ⟨b1, 34, none⟩)) rfl (fa30_3 rfl rfl) ?_
     refine JL_nil ?_
     exact ⟨.pointer (some ⟨b1, 34, none⟩), [], rfl, (Sub.emp Sub.refl), rfl⟩
    ·intro ρ r24 N24 B hB hBa hp hr hr0
     have q41 : ρ 41 = .pointer (some ⟨b1, 34, none⟩) := (hr 0 _ _ (by decide) rfl rfl rfl).trans (hp 0 (by decide) rfl)
     obtain ⟨ρ28, rfl⟩ := reopen_ex (uc q41 un)
     clear q41
     refine JL_run rfl (Pu_load1 ty28 rfl (At.bx 11 (made_old ((hB 1 (by decide)).trans rfl))) (pkP_34 ..) ?_)
     refine JL_nil ?_
     exact ⟨ks, [], rfl, (Sub.emp Sub.refl), rfl⟩
    ·intro ρ r24 N24 B hB hBa hp hr hr0
     have q5 : ρ 5 = .int .i64 ((j : Int)) := hr0 5 (by kernel_rfl)
     obtain ⟨ρ29, rfl⟩ := reopen_ex (uc q5 un)
     clear q5
     refine JL_pure (v := .int .i64 ((j : Int))) rfl (Pu.move rfl) ?_
     refine JL_nil ?_
     exact ⟨.int .i64 ((j : Int)), [], rfl, (Sub.emp Sub.refl), rfl⟩
    ·intro ρ r24 N24 B hB hBa hp hr hr0
     have q42 : ρ 42 = ks := (hr 1 _ _ (by decide) rfl rfl rfl).trans (hp 1 (by decide) rfl)
     have q43 : ρ 43 = .int .i64 ((j : Int)) := (hr 2 _ _ (by decide) rfl rfl rfl).trans (hp 2 (by decide) rfl)
     obtain ⟨ρ30, rfl⟩ := reopen_ex (uc q42 (uc q43 un))
     clear q42 q43
     refine JL_pure (v := .pointer (some ⟨b25, o25 + j * 35, none⟩)) rfl (Pu.idx j Tryz.runUnderlying28 ty30 hv25 rfl rfl (by first | assumption | omega | decide | simp)) ?_
     refine JL_nil ?_
     exact ⟨.pointer (some ⟨b25, o25 + j * 35, none⟩), [], rfl, (Sub.emp Sub.refl), rfl⟩
    ·intro ρ r24 N24 B hB hBa hp hr hr0
     have q44 : ρ 44 = .pointer (some ⟨b25, o25 + j * 35, none⟩) := (hr 3 _ _ (by decide) rfl rfl rfl).trans (hp 3 (by decide) rfl)
     obtain ⟨ρ31, rfl⟩ := reopen_ex (uc q44 un)
     clear q44
     refine JL_run rfl (Pu_load ty30 rfl (At.im hb25) hs25 ?_)
     refine JL_nil ?_
     exact ⟨.agg ⟨cs25⟩, [], rfl, (Sub.emp Sub.refl), rfl⟩
    ·intro ρ r24 N24 B hB hBa hp hr hr0
     have q3 : ρ 3 = .pointer (some ⟨b2, 0, none⟩) := hr0 3 (by kernel_rfl)
     obtain ⟨ρ32, rfl⟩ := reopen_ex (uc q3 un)
     clear q3
     refine JL_pure (v := .pointer (some ⟨b2, 34, none⟩)) rfl (fa30_3 rfl rfl) ?_
     refine JL_nil ?_
     exact ⟨.pointer (some ⟨b2, 34, none⟩), [], rfl, (Sub.emp Sub.refl), rfl⟩
    ·intro ρ r24 N24 B hB hBa hp hr hr0
     have q46 : ρ 46 = .pointer (some ⟨b2, 34, none⟩) := (hr 5 _ _ (by decide) rfl rfl rfl).trans (hp 5 (by decide) rfl)
     obtain ⟨ρ33, rfl⟩ := reopen_ex (uc q46 un)
     clear q46
     refine JL_run rfl (Pu_load1 ty28 rfl (At.bx 10 (made_old ((hB 0 (by decide)).trans rfl))) (pkP_34 ..) ?_)
     refine JL_nil ?_
     exact ⟨ksq, [], rfl, (Sub.emp Sub.refl), rfl⟩
    ·intro ρ r24 N24 B hB hBa hp hr hr0
     have q5 : ρ 5 = .int .i64 ((j : Int)) := hr0 5 (by kernel_rfl)
     obtain ⟨ρ34, rfl⟩ := reopen_ex (uc q5 un)
     clear q5
     refine JL_pure (v := .int .i64 ((j : Int))) rfl (Pu.move rfl) ?_
     refine JL_nil ?_
     exact ⟨.int .i64 ((j : Int)), [], rfl, (Sub.emp Sub.refl), rfl⟩
    ·intro ρ r24 N24 B hB hBa hp hr hr0
     have q47 : ρ 47 = ksq := (hr 6 _ _ (by decide) rfl rfl rfl).trans (hp 6 (by decide) rfl)
     have q48 : ρ 48 = .int .i64 ((j : Int)) := (hr 7 _ _ (by decide) rfl rfl rfl).trans (hp 7 (by decide) rfl)
     obtain ⟨ρ35, rfl⟩ := reopen_ex (uc q47 (uc q48 un))
     clear q47 q48
     refine JL_pure (v := .pointer (some ⟨b26, o26 + j * 35, none⟩)) rfl (Pu.idx j Tryz.runUnderlying28 ty30 hv26 rfl rfl (by first | assumption | omega | decide | simp)) ?_
     refine JL_nil ?_
     exact ⟨.pointer (some ⟨b26, o26 + j * 35, none⟩), [], rfl, (Sub.emp Sub.refl), rfl⟩
    ·intro ρ r24 N24 B hB hBa hp hr hr0
     have q49 : ρ 49 = .pointer (some ⟨b26, o26 + j * 35, none⟩) := (hr 8 _ _ (by decide) rfl rfl rfl).trans (hp 8 (by decide) rfl)
     obtain ⟨ρ36, rfl⟩ := reopen_ex (uc q49 un)
     clear q49
     refine JL_run rfl (Pu_load ty30 rfl (At.im hb26) hs26 ?_)
     refine JL_nil ?_
     exact ⟨.agg ⟨cs26⟩, [], rfl, (Sub.emp Sub.refl), rfl⟩
    ·intro ρ r24 N24 hp hr hr0
     have q2 : ρ 2 = .pointer (some ⟨b1, 0, none⟩) := hr0 2 (by kernel_rfl)
     have q3 : ρ 3 = .pointer (some ⟨b2, 0, none⟩) := hr0 3 (by kernel_rfl)
     have q4 : ρ 4 = .bool (false) := hr0 4 (by kernel_rfl)
     have q5 : ρ 5 = .int .i64 ((j : Int)) := hr0 5 (by kernel_rfl)
     have q45 : ρ 45 = .agg ⟨cs25⟩ := (hr 4 _ _ (by decide) rfl rfl).trans (hp 4 (by decide))
     have q50 : ρ 50 = .agg ⟨cs26⟩ := (hr 9 _ _ (by decide) rfl rfl).trans (hp 9 (by decide))
     obtain ⟨ρ37, rfl⟩ := reopen_ex (uc q2 (uc q3 (uc q4 (uc q5 (uc q45 (uc q50 un))))))
     clear q2 q3 q4 q5 q45 q50
     clear hp hr hr0 
     refine JL_sub (M' := [(N24 0), (N24 1), (N24 2), (N24 3), (N24 4), (N24 5), (N24 6), (N24 7), (N24 8), (N24 9), [(b2, .cells ⟨pkP (q.kind) (q.num) (q.ref) (ksq)⟩ 30 (0, 0))], [(b1, .cells ⟨pkP (kind) (num) (ref) (ks)⟩ 30 (0, 0))]]) Sub.refl ?_
     refine JL_sub (M' := [[(b2, .cells ⟨pkP (q.kind) (q.num) (q.ref) (ksq)⟩ 30 (0, 0))], [(b1, .cells ⟨pkP (kind) (num) (ref) (ks)⟩ 30 (0, 0))]]) (Sd (Sd (Sd (Sd (Sd (Sd (Sd (Sd (Sd (Sd (Sk (Sk Sub.nil)))))))))))) ?_
     show JL _ _ _ [_, _] _ _ _
     refine JL_call rfl Tryz.call62 rfl (fun hin => ih _ (List.getElem_mem h23n) _ _ _ _ (RP.mono (Hle.hu _ _) hE25) (RP.mono (Hle.hu _ _) hE26)) rfl ?_
     rintro _ _ ⟨rfl, rfl⟩
     refine JL_pure (v := .bool (!(decide (((kids)[j]) = ((q.kids)[j]))))) rfl (Pu.not rfl) ?_
     refine JL_nil ?_
     refine J_cond (b := !(decide (((kids)[j]) = ((q.kids)[j])))) rfl (fun h38 => ?_) (fun h38 => ?_)
     ·skip
      replace h38 := nt h38
      replace h38 := df h38
      refine J_seq ?_
      refine J_region ?_
      refine JL_pure (v := .bool (false)) rfl (Pu.assign rfl) ?_
      refine JL_nil ?_
      refine J_ret ?_
      refine ⟨.bool (false), [], Ret.one rfl (RV.tmp rfl), Sub.nil, ?_⟩
      exact ⟨by rw [decide_eq_false]; intro e; subst e; exact h38 rfl, rfl⟩
     ·skip
      replace h38 := nf h38
      replace h38 := dt h38
      refine J_skip ?_
      refine J_region ?_
      refine JL_pure (v := .int .i64 ((j : Int))) rfl (Pu.move rfl) ?_
      refine JL_pure (v := .int .i64 (((j + 1 : Nat) : Int))) rfl (Pu.inc rfl rfl (by omega)) ?_
      refine JL_pure (v := .int .i64 (((j + 1 : Nat) : Int))) rfl (Pu.assign rfl) ?_
      refine JL_nil ?_
      refine ⟨_, ?_, (j + 1), rfl, rfl, rfl, rfl, (Sk (Sk Sub.nil)), ?_, ?_, ?_, ?_, ?_, ?_, rfl⟩
      ·omega
      ·omega
      ·assumption
      ·assumption
      ·assumption
      ·assumption
      ·rw [List.take_succ_eq_append_getElem h23n, List.take_succ_eq_append_getElem hltm, htake, h38]
   ·skip
    replace h23 := df h23
    have h23n : (kids).length ≤ j := by omega
    refine J_exit _ rfl ?_
    refine J_seq ?_
    refine J_region ?_
    refine JL_pure (v := .bool (true)) rfl (Pu.assign rfl) ?_
    refine JL_nil ?_
    refine J_ret ?_
    refine ⟨.bool (true), [], Ret.one rfl (RV.tmp rfl), Sub.nil, ?_⟩
    have e1 : kids = q.kids := by have e := htake; rw [List.take_of_length_le h23n, List.take_of_length_le (by omega)] at e; exact e
    exact ⟨by rw [decide_eq_true]; cases q; simp_all [Pt.kind, Pt.num, Pt.ref, Pt.kids], rfl⟩
theorem sameR_ct : ∀ (t u : Tm) (cs ds : List Value) (H : Heap), RT H cs t → RT H ds u → CT Tryz.prog 23 ⟨[.agg ⟨cs⟩, .agg ⟨ds⟩]⟩ [] H (fun v N => v = .bool (decide (t = u)) ∧ N = []) := by
 intro t
 induction t using Tm.ind with
 | h kind num ref kids cases ih ih' =>
 intro u cs ds H ht hu
 obtain ⟨ks, cv, rfl, hk, hn, hks, hcv⟩ := RT_mk.1 ht
 obtain ⟨ksu, cvu, rfl, hku, hnu, hksu, hcvu⟩ := RT_open hu
 refine CT_enter Tryz.func23 rfl rfl ?_
 refine J_seq ?_
 refine J_region ?_
 refine JL_run rfl (Runs_box (l := pkT (kind) (num) (ref) (ks) (cv)) rfl rfl fun b1 => ?_)
 refine JL_run rfl (Runs_box (l := pkT (u.kind) (u.num) (u.ref) (ksu) (cvu)) rfl rfl fun b2 => ?_)
 refine JL_pure (v := .bool (false)) rfl (Pu.assign rfl) ?_
 refine JL_nil ?_
 refine J_seq ?_
 refine J_cut (fun ρ M => ρ 2 = .pointer (some ⟨b1, 0, none⟩) ∧ ρ 3 = .pointer (some ⟨b2, 0, none⟩) ∧ ρ 4 = .bool (false) ∧ ρ 43 = .bool (((((!decide (kind = u.kind)) || (!decide (num = u.num))) || (!decide (ref = u.ref))) || (!decide (((kids).length : Int) = ((u.kids).length : Int)))) || (!decide (((cases).length : Int) = ((u.cases).length : Int)))) ∧ M = [[(b2, .cells ⟨pkT (u.kind) (u.num) (u.ref) (ksu) (cvu)⟩ 27 (0, 0))], [(b1, .cells ⟨pkT (kind) (num) (ref) (ks) (cv)⟩ 27 (0, 0))]]) ?_ ?_
 ·refine J_region ?_
  refine JL_pure (v := .pointer (some ⟨b1, 0, none⟩)) rfl (fa27_0 rfl rfl) ?_
  refine JL_run rfl (Pu_load1 ty3 rfl (At.bx 1 rfl) (pkT_0 ..) ?_)
  refine JL_pure (v := .pointer (some ⟨b2, 0, none⟩)) rfl (fa27_0 rfl rfl) ?_
  refine JL_run rfl (Pu_load1 ty3 rfl (At.bx 0 rfl) (pkT_0 ..) ?_)
  refine JL_pure (v := .bool (!decide (kind = u.kind))) rfl (Pu.neq rfl rfl) ?_
  refine JL_pure (v := .bool (!decide (kind = u.kind))) rfl (Pu.move rfl) ?_
  cases h3 : (!decide (kind = u.kind)) with
  | true =>
   replace h3 := nt h3
   replace h3 := df h3
   refine JL_skip rfl ?_
   refine JL_skip rfl ?_
   refine JL_skip rfl ?_
   refine JL_skip rfl ?_
   refine JL_skip rfl ?_
   refine JL_pure (v := .bool (true)) rfl (Pu.pickT rfl rfl) ?_
   refine JL_pure (v := .bool (true)) rfl (Pu.move rfl) ?_
   refine JL_skip rfl ?_
   refine JL_skip rfl ?_
   refine JL_skip rfl ?_
   refine JL_skip rfl ?_
   refine JL_skip rfl ?_
   refine JL_pure (v := .bool (true)) rfl (Pu.pickT rfl rfl) ?_
   refine JL_pure (v := .bool (true)) rfl (Pu.move rfl) ?_
   refine JL_skip rfl ?_
   refine JL_skip rfl ?_
   refine JL_skip rfl ?_
   refine JL_skip rfl ?_
   refine JL_skip rfl ?_
   refine JL_skip rfl ?_
   refine JL_skip rfl ?_
   refine JL_pure (v := .bool (true)) rfl (Pu.pickT rfl rfl) ?_
   refine JL_pure (v := .bool (true)) rfl (Pu.move rfl) ?_
   refine JL_skip rfl ?_
   refine JL_skip rfl ?_
   refine JL_skip rfl ?_
   refine JL_skip rfl ?_
   refine JL_skip rfl ?_
   refine JL_skip rfl ?_
   refine JL_skip rfl ?_
   refine JL_pure (v := .bool (true)) rfl (Pu.pickT rfl rfl) ?_
   refine JL_nil ?_
   first | exact ⟨rfl, rfl, rfl, rfl, rfl⟩ | (exfalso; omega)
  | false =>
   replace h3 := nf h3
   replace h3 := dt h3
   refine JL_pure (v := .pointer (some ⟨b1, 1, none⟩)) rfl (fa27_1 rfl rfl) ?_
   refine JL_run rfl (Pu_load1 ty3 rfl (At.bx 1 rfl) (pkT_1 ..) ?_)
   refine JL_pure (v := .pointer (some ⟨b2, 1, none⟩)) rfl (fa27_1 rfl rfl) ?_
   refine JL_run rfl (Pu_load1 ty3 rfl (At.bx 0 rfl) (pkT_1 ..) ?_)
   refine JL_pure (v := .bool (!decide (num = u.num))) rfl (Pu.neq rfl rfl) ?_
   refine JL_pure (v := .bool (!decide (num = u.num))) rfl (Pu.pickF rfl rfl) ?_
   refine JL_pure (v := .bool (!decide (num = u.num))) rfl (Pu.move rfl) ?_
   cases h4 : (!decide (num = u.num)) with
   | true =>
    replace h4 := nt h4
    replace h4 := df h4
    refine JL_skip rfl ?_
    refine JL_skip rfl ?_
    refine JL_skip rfl ?_
    refine JL_skip rfl ?_
    refine JL_skip rfl ?_
    refine JL_pure (v := .bool (true)) rfl (Pu.pickT rfl rfl) ?_
    refine JL_pure (v := .bool (true)) rfl (Pu.move rfl) ?_
    refine JL_skip rfl ?_
    refine JL_skip rfl ?_
    refine JL_skip rfl ?_
    refine JL_skip rfl ?_
    refine JL_skip rfl ?_
    refine JL_skip rfl ?_
    refine JL_skip rfl ?_
    refine JL_pure (v := .bool (true)) rfl (Pu.pickT rfl rfl) ?_
    refine JL_pure (v := .bool (true)) rfl (Pu.move rfl) ?_
    refine JL_skip rfl ?_
    refine JL_skip rfl ?_
    refine JL_skip rfl ?_
    refine JL_skip rfl ?_
    refine JL_skip rfl ?_
    refine JL_skip rfl ?_
    refine JL_skip rfl ?_
    refine JL_pure (v := .bool (true)) rfl (Pu.pickT rfl rfl) ?_
    refine JL_nil ?_
    first | exact ⟨rfl, rfl, rfl, rfl, rfl⟩ | (exfalso; omega)
   | false =>
    replace h4 := nf h4
    replace h4 := dt h4
    refine JL_pure (v := .pointer (some ⟨b1, 2, none⟩)) rfl (fa27_2 rfl rfl) ?_
    refine JL_run rfl (Pu_load ty23 rfl (At.bx 1 rfl) (pkT_2 ..) ?_)
    refine JL_pure (v := .pointer (some ⟨b2, 2, none⟩)) rfl (fa27_2 rfl rfl) ?_
    refine JL_run rfl (Pu_load ty23 rfl (At.bx 0 rfl) (pkT_2 ..) ?_)
    refine JL_pure (v := .bool (!decide (ref = u.ref))) rfl (neqS rfl rfl) ?_
    refine JL_pure (v := .bool (!decide (ref = u.ref))) rfl (Pu.pickF rfl rfl) ?_
    refine JL_pure (v := .bool (!decide (ref = u.ref))) rfl (Pu.move rfl) ?_
    cases h5 : (!decide (ref = u.ref)) with
    | true =>
     replace h5 := nt h5
     replace h5 := df h5
     refine JL_skip rfl ?_
     refine JL_skip rfl ?_
     refine JL_skip rfl ?_
     refine JL_skip rfl ?_
     refine JL_skip rfl ?_
     refine JL_skip rfl ?_
     refine JL_skip rfl ?_
     refine JL_pure (v := .bool (true)) rfl (Pu.pickT rfl rfl) ?_
     refine JL_pure (v := .bool (true)) rfl (Pu.move rfl) ?_
     refine JL_skip rfl ?_
     refine JL_skip rfl ?_
     refine JL_skip rfl ?_
     refine JL_skip rfl ?_
     refine JL_skip rfl ?_
     refine JL_skip rfl ?_
     refine JL_skip rfl ?_
     refine JL_pure (v := .bool (true)) rfl (Pu.pickT rfl rfl) ?_
     refine JL_nil ?_
     first | exact ⟨rfl, rfl, rfl, rfl, rfl⟩ | (exfalso; omega)
    | false =>
     replace h5 := nf h5
     replace h5 := dt h5
     refine JL_pure (v := .pointer (some ⟨b1, 34, none⟩)) rfl (fa27_3 rfl rfl) ?_
     refine JL_run rfl (Pu_load1 ty24 rfl (At.bx 1 rfl) (pkT_34 ..) ?_)
     obtain ⟨a6, cap6, hv6⟩ := hks.sl
     have hle6 := hks.le
     refine JL_pure (v := .int .i64 (((kids).length : Int))) rfl (Pu.lenSl Tryz.runUnderlying24 hv6) ?_
     refine JL_pure (v := .pointer (some ⟨b2, 34, none⟩)) rfl (fa27_3 rfl rfl) ?_
     refine JL_run rfl (Pu_load1 ty24 rfl (At.bx 0 rfl) (pkT_34 ..) ?_)
     obtain ⟨a7, cap7, hv7⟩ := hksu.sl
     have hle7 := hksu.le
     refine JL_pure (v := .int .i64 (((u.kids).length : Int))) rfl (Pu.lenSl Tryz.runUnderlying24 hv7) ?_
     refine JL_pure (v := .bool (!decide (((kids).length : Int) = ((u.kids).length : Int)))) rfl (Pu.neq rfl rfl) ?_
     refine JL_pure (v := .bool (!decide (((kids).length : Int) = ((u.kids).length : Int)))) rfl (Pu.pickF rfl rfl) ?_
     refine JL_pure (v := .bool (!decide (((kids).length : Int) = ((u.kids).length : Int)))) rfl (Pu.move rfl) ?_
     cases h8 : (!decide (((kids).length : Int) = ((u.kids).length : Int))) with
     | true =>
      replace h8 := nt h8
      replace h8 := df h8
      refine JL_skip rfl ?_
      refine JL_skip rfl ?_
      refine JL_skip rfl ?_
      refine JL_skip rfl ?_
      refine JL_skip rfl ?_
      refine JL_skip rfl ?_
      refine JL_skip rfl ?_
      refine JL_pure (v := .bool (true)) rfl (Pu.pickT rfl rfl) ?_
      refine JL_nil ?_
      first | exact ⟨rfl, rfl, rfl, rfl, rfl⟩ | (exfalso; omega)
     | false =>
      replace h8 := nf h8
      replace h8 := dt h8
      refine JL_pure (v := .pointer (some ⟨b1, 35, none⟩)) rfl (fa27_4 rfl rfl) ?_
      refine JL_run rfl (Pu_load1 ty25 rfl (At.bx 1 rfl) (pkT_35 ..) ?_)
      obtain ⟨a9, cap9, hv9⟩ := hcv.sl
      have hle9 := hcv.le
      refine JL_pure (v := .int .i64 (((cases).length : Int))) rfl (Pu.lenSl Tryz.runUnderlying25 hv9) ?_
      refine JL_pure (v := .pointer (some ⟨b2, 35, none⟩)) rfl (fa27_4 rfl rfl) ?_
      refine JL_run rfl (Pu_load1 ty25 rfl (At.bx 0 rfl) (pkT_35 ..) ?_)
      obtain ⟨a10, cap10, hv10⟩ := hcvu.sl
      have hle10 := hcvu.le
      refine JL_pure (v := .int .i64 (((u.cases).length : Int))) rfl (Pu.lenSl Tryz.runUnderlying25 hv10) ?_
      refine JL_pure (v := .bool (!decide (((cases).length : Int) = ((u.cases).length : Int)))) rfl (Pu.neq rfl rfl) ?_
      refine JL_pure (v := .bool (!decide (((cases).length : Int) = ((u.cases).length : Int)))) rfl (Pu.pickF rfl rfl) ?_
      refine JL_nil ?_
      first | exact ⟨rfl, rfl, rfl, rfl, rfl⟩ | (exfalso; omega)
 ·rintro ρ11 _ ⟨e12, e13, e14, e15, rfl⟩
  obtain ⟨ρ16, rfl⟩ := reopen_ex (uc e12 (uc e13 (uc e14 (uc e15 un))))
  clear e12 e13 e14 e15
  refine J_cond (b := ((((!decide (kind = u.kind)) || (!decide (num = u.num))) || (!decide (ref = u.ref))) || (!decide (((kids).length : Int) = ((u.kids).length : Int)))) || (!decide (((cases).length : Int) = ((u.cases).length : Int)))) rfl (fun h17 => ?_) (fun h17 => ?_)
  ·skip
   refine J_seq ?_
   refine J_region ?_
   refine JL_pure (v := .bool (false)) rfl (Pu.assign rfl) ?_
   refine JL_nil ?_
   refine J_ret ?_
   refine ⟨.bool (false), [], Ret.one rfl (RV.tmp rfl), Sub.nil, ?_⟩
   exact ⟨by rw [decide_eq_false]; intro e; cases u; simp_all [Tm.kind, Tm.num, Tm.ref, Tm.kids, Tm.cases], rfl⟩
  ·skip
   obtain ⟨h17a, h17b⟩ := orF h17
   obtain ⟨h17aa, h17ab⟩ := orF h17a
   obtain ⟨h17aaa, h17aab⟩ := orF h17aa
   obtain ⟨h17aaaa, h17aaab⟩ := orF h17aaa
   replace h17aaaa := nf h17aaaa
   replace h17aaaa := dt h17aaaa
   replace h17aaab := nf h17aaab
   replace h17aaab := dt h17aaab
   replace h17aab := nf h17aab
   replace h17aab := dt h17aab
   replace h17ab := nf h17ab
   replace h17ab := dt h17ab
   replace h17b := nf h17b
   replace h17b := dt h17b
   refine J_skip ?_
   refine J_seq ?_
   refine J_seq ?_
   refine J_region ?_
   refine JL_pure (v := .int .i64 (0)) rfl (Pu.assign rfl) ?_
   refine JL_nil ?_
   refine J_block ?_
   refine J_loop (fun k ρ M => ∃ (j : Nat), ρ 2 = .pointer (some ⟨b1, 0, none⟩) ∧ ρ 3 = .pointer (some ⟨b2, 0, none⟩) ∧ ρ 4 = .bool (false) ∧ ρ 5 = .int .i64 ((j : Int)) ∧ Sub [[(b2, .cells ⟨pkT (u.kind) (u.num) (u.ref) (ksu) (cvu)⟩ 27 (0, 0))], [(b1, .cells ⟨pkT (kind) (num) (ref) (ks) (cv)⟩ 27 (0, 0))]] M ∧ j ≤ (kids).length ∧ kind = u.kind ∧ num = u.num ∧ ref = u.ref ∧ kids.length = u.kids.length ∧ cases.length = u.cases.length ∧ kids.take j = u.kids.take j ∧ k = (kids).length - j) _ ⟨0, rfl, rfl, rfl, rfl, (Sk (Sk Sub.nil)), Nat.zero_le _, (by simp_all), (by simp_all), (by simp_all), (by simp_all; try omega), (by simp_all; try omega), rfl, rfl⟩ ?_
   rintro _ ρ18 _ ⟨j, e19, e20, e21, e22, hm23, hj, hek, hen, her, hlq, hlcq, htake, rfl⟩
   obtain ⟨ρ24, rfl⟩ := reopen_ex (uc e19 (uc e20 (uc e21 (uc e22 un))))
   clear e19 e20 e21 e22
   refine J_sub hm23 ?_
   have hlen := hks.le
   refine J_seq ?_
   refine J_seq ?_
   refine J_region ?_
   refine JL_pure (v := .int .i64 ((j : Int))) rfl (Pu.move rfl) ?_
   refine JL_pure (v := .pointer (some ⟨b1, 34, none⟩)) rfl (fa27_3 rfl rfl) ?_
   refine JL_run rfl (Pu_load1 ty24 rfl (At.bx 1 rfl) (pkT_34 ..) ?_)
   obtain ⟨a25, cap25, hv25⟩ := hks.sl
   have hle25 := hks.le
   refine JL_pure (v := .int .i64 (((kids).length : Int))) rfl (Pu.lenSl Tryz.runUnderlying24 hv25) ?_
   refine JL_pure (v := .bool (decide ((j : Int) < ((kids).length : Int)))) rfl (Pu.lss rfl rfl) ?_
   refine JL_nil ?_
   refine J_cond (b := decide ((j : Int) < ((kids).length : Int))) rfl (fun h26 => ?_) (fun h26 => ?_)
   ·skip
    replace h26 := dt h26
    have h26n : j < (kids).length := by omega
    have hltm : j < u.kids.length := by omega
    refine J_skip ?_
    refine J_seq ?_
    refine J_block ?_
    refine J_seq ?_
    obtain ⟨b28, o28, cap28, row28, T28, fr28, cs28, hv28, hb28, hs28, hE28⟩ := hks.get j (by first | assumption | omega | decide | simp)
    obtain ⟨b29, o29, cap29, row29, T29, fr29, cs29, hv29, hb29, hs29, hE29⟩ := hksu.get j (by first | assumption | omega | decide | simp)
    refine J_draw mixed #[0, 1, 0, 7, 15, 0, 32, 0, 224, 480, 1023, 2047] 10 10 2 rfl (by kernel_rfl) (fun i r27 N27 => match i with | 0 => (r27 0) = .pointer (some ⟨b1, 34, none⟩) | 1 => (r27 1) = ks | 2 => (r27 2) = .int .i64 ((j : Int)) | 3 => (r27 3) = .pointer (some ⟨b28, o28 + j * 36, none⟩) | 4 => (r27 4) = .agg ⟨cs28⟩ | 5 => (r27 5) = .pointer (some ⟨b2, 34, none⟩) | 6 => (r27 6) = ksu | 7 => (r27 7) = .int .i64 ((j : Int)) | 8 => (r27 8) = .pointer (some ⟨b29, o29 + j * 36, none⟩) | 9 => (r27 9) = .agg ⟨cs29⟩ | _ => True) ⟨?_, ?_, ?_, ?_, ?_, ?_, ?_, ?_, ?_, ?_, trivial⟩ ?_
    ·intro ρ r27 N27 B hB hBa hp hr hr0
     have q2 : ρ 2 = .pointer (some ⟨b1, 0, none⟩) := hr0 2 (by kernel_rfl)
     obtain ⟨ρ30, rfl⟩ := reopen_ex (uc q2 un)
     clear q2
     refine JL_pure (v := .pointer (some ⟨b1, 34, none⟩)) rfl (fa27_3 rfl rfl) ?_
     refine JL_nil ?_
     exact ⟨.pointer (some ⟨b1, 34, none⟩), [], rfl, (Sub.emp Sub.refl), rfl⟩
    ·intro ρ r27 N27 B hB hBa hp hr hr0
     have q51 : ρ 51 = .pointer (some ⟨b1, 34, none⟩) := (hr 0 _ _ (by decide) rfl rfl rfl).trans (hp 0 (by decide) rfl)
     obtain ⟨ρ31, rfl⟩ := reopen_ex (uc q51 un)
     clear q51
     refine JL_run rfl (Pu_load1 ty24 rfl (At.bx 11 (made_old ((hB 1 (by decide)).trans rfl))) (pkT_34 ..) ?_)
     refine JL_nil ?_
     exact ⟨ks, [], rfl, (Sub.emp Sub.refl), rfl⟩
    ·intro ρ r27 N27 B hB hBa hp hr hr0
     have q5 : ρ 5 = .int .i64 ((j : Int)) := hr0 5 (by kernel_rfl)
     obtain ⟨ρ32, rfl⟩ := reopen_ex (uc q5 un)
     clear q5
     refine JL_pure (v := .int .i64 ((j : Int))) rfl (Pu.move rfl) ?_
     refine JL_nil ?_
     exact ⟨.int .i64 ((j : Int)), [], rfl, (Sub.emp Sub.refl), rfl⟩
    ·intro ρ r27 N27 B hB hBa hp hr hr0
     have q52 : ρ 52 = ks := (hr 1 _ _ (by decide) rfl rfl rfl).trans (hp 1 (by decide) rfl)
     have q53 : ρ 53 = .int .i64 ((j : Int)) := (hr 2 _ _ (by decide) rfl rfl rfl).trans (hp 2 (by decide) rfl)
     obtain ⟨ρ33, rfl⟩ := reopen_ex (uc q52 (uc q53 un))
     clear q52 q53
     refine JL_pure (v := .pointer (some ⟨b28, o28 + j * 36, none⟩)) rfl (Pu.idx j Tryz.runUnderlying24 ty27 hv28 rfl rfl (by first | assumption | omega | decide | simp)) ?_
     refine JL_nil ?_
     exact ⟨.pointer (some ⟨b28, o28 + j * 36, none⟩), [], rfl, (Sub.emp Sub.refl), rfl⟩
    ·intro ρ r27 N27 B hB hBa hp hr hr0
     have q54 : ρ 54 = .pointer (some ⟨b28, o28 + j * 36, none⟩) := (hr 3 _ _ (by decide) rfl rfl rfl).trans (hp 3 (by decide) rfl)
     obtain ⟨ρ34, rfl⟩ := reopen_ex (uc q54 un)
     clear q54
     refine JL_run rfl (Pu_load ty27 rfl (At.im hb28) hs28 ?_)
     refine JL_nil ?_
     exact ⟨.agg ⟨cs28⟩, [], rfl, (Sub.emp Sub.refl), rfl⟩
    ·intro ρ r27 N27 B hB hBa hp hr hr0
     have q3 : ρ 3 = .pointer (some ⟨b2, 0, none⟩) := hr0 3 (by kernel_rfl)
     obtain ⟨ρ35, rfl⟩ := reopen_ex (uc q3 un)
     clear q3
     refine JL_pure (v := .pointer (some ⟨b2, 34, none⟩)) rfl (fa27_3 rfl rfl) ?_
     refine JL_nil ?_
     exact ⟨.pointer (some ⟨b2, 34, none⟩), [], rfl, (Sub.emp Sub.refl), rfl⟩
    ·intro ρ r27 N27 B hB hBa hp hr hr0
     have q56 : ρ 56 = .pointer (some ⟨b2, 34, none⟩) := (hr 5 _ _ (by decide) rfl rfl rfl).trans (hp 5 (by decide) rfl)
     obtain ⟨ρ36, rfl⟩ := reopen_ex (uc q56 un)
     clear q56
     refine JL_run rfl (Pu_load1 ty24 rfl (At.bx 10 (made_old ((hB 0 (by decide)).trans rfl))) (pkT_34 ..) ?_)
     refine JL_nil ?_
     exact ⟨ksu, [], rfl, (Sub.emp Sub.refl), rfl⟩
    ·intro ρ r27 N27 B hB hBa hp hr hr0
     have q5 : ρ 5 = .int .i64 ((j : Int)) := hr0 5 (by kernel_rfl)
     obtain ⟨ρ37, rfl⟩ := reopen_ex (uc q5 un)
     clear q5
     refine JL_pure (v := .int .i64 ((j : Int))) rfl (Pu.move rfl) ?_
     refine JL_nil ?_
     exact ⟨.int .i64 ((j : Int)), [], rfl, (Sub.emp Sub.refl), rfl⟩
    ·intro ρ r27 N27 B hB hBa hp hr hr0
     have q57 : ρ 57 = ksu := (hr 6 _ _ (by decide) rfl rfl rfl).trans (hp 6 (by decide) rfl)
     have q58 : ρ 58 = .int .i64 ((j : Int)) := (hr 7 _ _ (by decide) rfl rfl rfl).trans (hp 7 (by decide) rfl)
     obtain ⟨ρ38, rfl⟩ := reopen_ex (uc q57 (uc q58 un))
     clear q57 q58
     refine JL_pure (v := .pointer (some ⟨b29, o29 + j * 36, none⟩)) rfl (Pu.idx j Tryz.runUnderlying24 ty27 hv29 rfl rfl (by first | assumption | omega | decide | simp)) ?_
     refine JL_nil ?_
     exact ⟨.pointer (some ⟨b29, o29 + j * 36, none⟩), [], rfl, (Sub.emp Sub.refl), rfl⟩
    ·intro ρ r27 N27 B hB hBa hp hr hr0
     have q59 : ρ 59 = .pointer (some ⟨b29, o29 + j * 36, none⟩) := (hr 8 _ _ (by decide) rfl rfl rfl).trans (hp 8 (by decide) rfl)
     obtain ⟨ρ39, rfl⟩ := reopen_ex (uc q59 un)
     clear q59
     refine JL_run rfl (Pu_load ty27 rfl (At.im hb29) hs29 ?_)
     refine JL_nil ?_
     exact ⟨.agg ⟨cs29⟩, [], rfl, (Sub.emp Sub.refl), rfl⟩
    ·intro ρ r27 N27 hp hr hr0
     have q2 : ρ 2 = .pointer (some ⟨b1, 0, none⟩) := hr0 2 (by kernel_rfl)
     have q3 : ρ 3 = .pointer (some ⟨b2, 0, none⟩) := hr0 3 (by kernel_rfl)
     have q4 : ρ 4 = .bool (false) := hr0 4 (by kernel_rfl)
     have q5 : ρ 5 = .int .i64 ((j : Int)) := hr0 5 (by kernel_rfl)
     have q55 : ρ 55 = .agg ⟨cs28⟩ := (hr 4 _ _ (by decide) rfl rfl).trans (hp 4 (by decide))
     have q60 : ρ 60 = .agg ⟨cs29⟩ := (hr 9 _ _ (by decide) rfl rfl).trans (hp 9 (by decide))
     obtain ⟨ρ40, rfl⟩ := reopen_ex (uc q2 (uc q3 (uc q4 (uc q5 (uc q55 (uc q60 un))))))
     clear q2 q3 q4 q5 q55 q60
     clear hp hr hr0 
     refine JL_sub (M' := [(N27 0), (N27 1), (N27 2), (N27 3), (N27 4), (N27 5), (N27 6), (N27 7), (N27 8), (N27 9), [(b2, .cells ⟨pkT (u.kind) (u.num) (u.ref) (ksu) (cvu)⟩ 27 (0, 0))], [(b1, .cells ⟨pkT (kind) (num) (ref) (ks) (cv)⟩ 27 (0, 0))]]) Sub.refl ?_
     refine JL_sub (M' := [[(b2, .cells ⟨pkT (u.kind) (u.num) (u.ref) (ksu) (cvu)⟩ 27 (0, 0))], [(b1, .cells ⟨pkT (kind) (num) (ref) (ks) (cv)⟩ 27 (0, 0))]]) (Sd (Sd (Sd (Sd (Sd (Sd (Sd (Sd (Sd (Sd (Sk (Sk Sub.nil)))))))))))) ?_
     show JL _ _ _ [_, _] _ _ _
     refine JL_call rfl Tryz.call23 rfl (fun hin => ih _ (List.getElem_mem h26n) _ _ _ _ (RT.mono (Hle.hu _ _) hE28) (RT.mono (Hle.hu _ _) hE29)) rfl ?_
     rintro _ _ ⟨rfl, rfl⟩
     refine JL_pure (v := .bool (!(decide (((kids)[j]) = ((u.kids)[j]))))) rfl (Pu.not rfl) ?_
     refine JL_nil ?_
     refine J_cond (b := !(decide (((kids)[j]) = ((u.kids)[j])))) rfl (fun h41 => ?_) (fun h41 => ?_)
     ·skip
      replace h41 := nt h41
      replace h41 := df h41
      refine J_seq ?_
      refine J_region ?_
      refine JL_pure (v := .bool (false)) rfl (Pu.assign rfl) ?_
      refine JL_nil ?_
      refine J_ret ?_
      refine ⟨.bool (false), [], Ret.one rfl (RV.tmp rfl), Sub.nil, ?_⟩
      exact ⟨by rw [decide_eq_false]; intro e; subst e; exact h41 rfl, rfl⟩
     ·skip
      replace h41 := nf h41
      replace h41 := dt h41
      refine J_skip ?_
      refine J_region ?_
      refine JL_pure (v := .int .i64 ((j : Int))) rfl (Pu.move rfl) ?_
      refine JL_pure (v := .int .i64 (((j + 1 : Nat) : Int))) rfl (Pu.inc rfl rfl (by omega)) ?_
      refine JL_pure (v := .int .i64 (((j + 1 : Nat) : Int))) rfl (Pu.assign rfl) ?_
      refine JL_nil ?_
      refine ⟨_, ?_, (j + 1), rfl, rfl, rfl, rfl, (Sk (Sk Sub.nil)), ?_, ?_, ?_, ?_, ?_, ?_, ?_, rfl⟩
      ·omega
      ·omega
      ·assumption
      ·assumption
      ·assumption
      ·assumption
      ·assumption
      ·rw [List.take_succ_eq_append_getElem h26n, List.take_succ_eq_append_getElem hltm, htake, h41]
   ·skip
    replace h26 := df h26
    have h26n : (kids).length ≤ j := by omega
    refine J_exit _ rfl ?_
    refine J_seq ?_
    refine J_seq ?_
    refine J_region ?_
    refine JL_pure (v := .int .i64 (0)) rfl (Pu.assign rfl) ?_
    refine JL_nil ?_
    refine J_block ?_
    refine J_loop (fun k ρ M => ∃ (j : Nat), ρ 2 = .pointer (some ⟨b1, 0, none⟩) ∧ ρ 3 = .pointer (some ⟨b2, 0, none⟩) ∧ ρ 4 = .bool (false) ∧ ρ 6 = .int .i64 ((j : Int)) ∧ Sub [[(b2, .cells ⟨pkT (u.kind) (u.num) (u.ref) (ksu) (cvu)⟩ 27 (0, 0))], [(b1, .cells ⟨pkT (kind) (num) (ref) (ks) (cv)⟩ 27 (0, 0))]] M ∧ j ≤ (cases).length ∧ kind = u.kind ∧ num = u.num ∧ ref = u.ref ∧ kids = u.kids ∧ cases.length = u.cases.length ∧ cases.take j = u.cases.take j ∧ k = (cases).length - j) _ ⟨0, rfl, rfl, rfl, rfl, (Sk (Sk Sub.nil)), Nat.zero_le _, (by assumption), (by assumption), (by assumption), (by have e := htake; rw [List.take_of_length_le h26n, List.take_of_length_le (by omega)] at e; exact e), (by omega), rfl, rfl⟩ ?_
    rintro _ ρ42 _ ⟨j, e43, e44, e45, e46, hm47, hj, hek, hen, her, hkk, hlc, htakec, rfl⟩
    obtain ⟨ρ48, rfl⟩ := reopen_ex (uc e43 (uc e44 (uc e45 (uc e46 un))))
    clear e43 e44 e45 e46
    refine J_sub hm47 ?_
    have hlen := hcv.le
    refine J_seq ?_
    refine J_seq ?_
    refine J_region ?_
    refine JL_pure (v := .int .i64 ((j : Int))) rfl (Pu.move rfl) ?_
    refine JL_pure (v := .pointer (some ⟨b1, 35, none⟩)) rfl (fa27_4 rfl rfl) ?_
    refine JL_run rfl (Pu_load1 ty25 rfl (At.bx 1 rfl) (pkT_35 ..) ?_)
    obtain ⟨a49, cap49, hv49⟩ := hcv.sl
    have hle49 := hcv.le
    refine JL_pure (v := .int .i64 (((cases).length : Int))) rfl (Pu.lenSl Tryz.runUnderlying25 hv49) ?_
    refine JL_pure (v := .bool (decide ((j : Int) < ((cases).length : Int)))) rfl (Pu.lss rfl rfl) ?_
    refine JL_nil ?_
    refine J_cond (b := decide ((j : Int) < ((cases).length : Int))) rfl (fun h50 => ?_) (fun h50 => ?_)
    ·skip
     replace h50 := dt h50
     have h50n : j < (cases).length := by omega
     have hltc : j < u.cases.length := by omega
     refine J_skip ?_
     refine J_seq ?_
     refine J_block ?_
     refine J_seq ?_
     cases h51 : (decide (cases[j].1 = u.cases[j].1)) with
     | true =>
      replace h51 := dt h51
      obtain ⟨b53, o53, cap53, row53, T53, fr53, cs53, hv53, hb53, hs53, hE53⟩ := hcv.get j (by first | assumption | omega | decide | simp)
      obtain ⟨ca53, cb53, rfl, hA53, hB53⟩ := hE53
      obtain ⟨b54, o54, cap54, row54, T54, fr54, cs54, hv54, hb54, hs54, hE54⟩ := hcvu.get j (by first | assumption | omega | decide | simp)
      obtain ⟨ca54, cb54, rfl, hA54, hB54⟩ := hE54
      refine J_draw mixed #[0, 1, 0, 7, 15, 31, 0, 64, 0, 448, 960, 1984, 4095, 8191, 16383, 32767, 65535, 32767, 262143, 524287, 1048575, 32767, 2129919, 32767, 14712831, 31490047, 65044479, 134217727, 268435455, 536870911] 27 27 2 rfl (by kernel_rfl) (fun i r52 N52 => match i with | 0 => (r52 0) = .pointer (some ⟨b1, 35, none⟩) | 1 => (r52 1) = cv | 2 => (r52 2) = .int .i64 ((j : Int)) | 3 => (r52 3) = .pointer (some ⟨b53, o53 + j * 71, none⟩) | 4 => (r52 4) = .pointer (some ⟨b53, o53 + j * 71, none⟩) | 5 => (r52 5) = .agg ⟨ca53⟩ | 6 => (r52 6) = .pointer (some ⟨b2, 35, none⟩) | 7 => (r52 7) = cvu | 8 => (r52 8) = .int .i64 ((j : Int)) | 9 => (r52 9) = .pointer (some ⟨b54, o54 + j * 71, none⟩) | 10 => (r52 10) = .pointer (some ⟨b54, o54 + j * 71, none⟩) | 11 => (r52 11) = .agg ⟨ca54⟩ | 12 => (r52 12) = .bool (true) | 13 => (r52 13) = .bool (false) | 14 => (r52 14) = .bool (false) | 15 => (r52 15) = .pointer (some ⟨b1, 35, none⟩) | 16 => (r52 16) = cv | 17 => (r52 17) = .int .i64 ((j : Int)) | 18 => (r52 18) = .pointer (some ⟨b53, o53 + j * 71, none⟩) | 19 => (r52 19) = .pointer (some ⟨b53, o53 + j * 71 + 35, none⟩) | 20 => (r52 20) = .agg ⟨cb53⟩ | 21 => (r52 21) = .pointer (some ⟨b2, 35, none⟩) | 22 => (r52 22) = cvu | 23 => (r52 23) = .int .i64 ((j : Int)) | 24 => (r52 24) = .pointer (some ⟨b54, o54 + j * 71, none⟩) | 25 => (r52 25) = .pointer (some ⟨b54, o54 + j * 71 + 35, none⟩) | 26 => (r52 26) = .agg ⟨cb54⟩ | _ => True) ⟨?_, ?_, ?_, ?_, ?_, ?_, ?_, ?_, ?_, ?_, ?_, ?_, ?_, ?_, ?_, ?_, ?_, ?_, ?_, ?_, ?_, ?_, ?_, ?_, ?_, ?_, ?_, trivial⟩ ?_
      ·intro ρ r52 N52 B hB hBa hp hr hr0
       have q2 : ρ 2 = .pointer (some ⟨b1, 0, none⟩) := hr0 2 (by kernel_rfl)
       obtain ⟨ρ55, rfl⟩ := reopen_ex (uc q2 un)
       clear q2
       refine JL_pure (v := .pointer (some ⟨b1, 35, none⟩)) rfl (fa27_4 rfl rfl) ?_
       refine JL_nil ?_
       exact ⟨.pointer (some ⟨b1, 35, none⟩), [], rfl, (Sub.emp Sub.refl), rfl⟩
      ·intro ρ r52 N52 B hB hBa hp hr hr0
       have q70 : ρ 70 = .pointer (some ⟨b1, 35, none⟩) := (hr 0 _ _ (by decide) rfl rfl rfl).trans (hp 0 (by decide) rfl)
       obtain ⟨ρ56, rfl⟩ := reopen_ex (uc q70 un)
       clear q70
       refine JL_run rfl (Pu_load1 ty25 rfl (At.bx 28 (made_old ((hB 1 (by decide)).trans rfl))) (pkT_35 ..) ?_)
       refine JL_nil ?_
       exact ⟨cv, [], rfl, (Sub.emp Sub.refl), rfl⟩
      ·intro ρ r52 N52 B hB hBa hp hr hr0
       have q6 : ρ 6 = .int .i64 ((j : Int)) := hr0 6 (by kernel_rfl)
       obtain ⟨ρ57, rfl⟩ := reopen_ex (uc q6 un)
       clear q6
       refine JL_pure (v := .int .i64 ((j : Int))) rfl (Pu.move rfl) ?_
       refine JL_nil ?_
       exact ⟨.int .i64 ((j : Int)), [], rfl, (Sub.emp Sub.refl), rfl⟩
      ·intro ρ r52 N52 B hB hBa hp hr hr0
       have q71 : ρ 71 = cv := (hr 1 _ _ (by decide) rfl rfl rfl).trans (hp 1 (by decide) rfl)
       have q72 : ρ 72 = .int .i64 ((j : Int)) := (hr 2 _ _ (by decide) rfl rfl rfl).trans (hp 2 (by decide) rfl)
       obtain ⟨ρ58, rfl⟩ := reopen_ex (uc q71 (uc q72 un))
       clear q71 q72
       refine JL_pure (v := .pointer (some ⟨b53, o53 + j * 71, none⟩)) rfl (Pu.idx j Tryz.runUnderlying25 ty34 hv53 rfl rfl (by first | assumption | omega | decide | simp)) ?_
       refine JL_nil ?_
       exact ⟨.pointer (some ⟨b53, o53 + j * 71, none⟩), [], rfl, (Sub.emp Sub.refl), rfl⟩
      ·intro ρ r52 N52 B hB hBa hp hr hr0
       have q73 : ρ 73 = .pointer (some ⟨b53, o53 + j * 71, none⟩) := (hr 3 _ _ (by decide) rfl rfl rfl).trans (hp 3 (by decide) rfl)
       obtain ⟨ρ59, rfl⟩ := reopen_ex (uc q73 un)
       clear q73
       refine JL_pure (v := .pointer (some ⟨b53, o53 + j * 71, none⟩)) rfl (fa34_0 rfl rfl) ?_
       refine JL_nil ?_
       exact ⟨.pointer (some ⟨b53, o53 + j * 71, none⟩), [], rfl, (Sub.emp Sub.refl), rfl⟩
      ·intro ρ r52 N52 B hB hBa hp hr hr0
       have q74 : ρ 74 = .pointer (some ⟨b53, o53 + j * 71, none⟩) := (hr 4 _ _ (by decide) rfl rfl rfl).trans (hp 4 (by decide) rfl)
       obtain ⟨ρ60, rfl⟩ := reopen_ex (uc q74 un)
       clear q74
       refine JL_run rfl (Pu_load ty30 rfl (At.im hb53) (sub_sub0 hs53 (sub_l (RP_len hA53))) ?_)
       refine JL_nil ?_
       exact ⟨.agg ⟨ca53⟩, [], rfl, (Sub.emp Sub.refl), rfl⟩
      ·intro ρ r52 N52 B hB hBa hp hr hr0
       have q3 : ρ 3 = .pointer (some ⟨b2, 0, none⟩) := hr0 3 (by kernel_rfl)
       obtain ⟨ρ61, rfl⟩ := reopen_ex (uc q3 un)
       clear q3
       refine JL_pure (v := .pointer (some ⟨b2, 35, none⟩)) rfl (fa27_4 rfl rfl) ?_
       refine JL_nil ?_
       exact ⟨.pointer (some ⟨b2, 35, none⟩), [], rfl, (Sub.emp Sub.refl), rfl⟩
      ·intro ρ r52 N52 B hB hBa hp hr hr0
       have q76 : ρ 76 = .pointer (some ⟨b2, 35, none⟩) := (hr 6 _ _ (by decide) rfl rfl rfl).trans (hp 6 (by decide) rfl)
       obtain ⟨ρ62, rfl⟩ := reopen_ex (uc q76 un)
       clear q76
       refine JL_run rfl (Pu_load1 ty25 rfl (At.bx 27 (made_old ((hB 0 (by decide)).trans rfl))) (pkT_35 ..) ?_)
       refine JL_nil ?_
       exact ⟨cvu, [], rfl, (Sub.emp Sub.refl), rfl⟩
      ·intro ρ r52 N52 B hB hBa hp hr hr0
       have q6 : ρ 6 = .int .i64 ((j : Int)) := hr0 6 (by kernel_rfl)
       obtain ⟨ρ63, rfl⟩ := reopen_ex (uc q6 un)
       clear q6
       refine JL_pure (v := .int .i64 ((j : Int))) rfl (Pu.move rfl) ?_
       refine JL_nil ?_
       exact ⟨.int .i64 ((j : Int)), [], rfl, (Sub.emp Sub.refl), rfl⟩
      ·intro ρ r52 N52 B hB hBa hp hr hr0
       have q77 : ρ 77 = cvu := (hr 7 _ _ (by decide) rfl rfl rfl).trans (hp 7 (by decide) rfl)
       have q78 : ρ 78 = .int .i64 ((j : Int)) := (hr 8 _ _ (by decide) rfl rfl rfl).trans (hp 8 (by decide) rfl)
       obtain ⟨ρ64, rfl⟩ := reopen_ex (uc q77 (uc q78 un))
       clear q77 q78
       refine JL_pure (v := .pointer (some ⟨b54, o54 + j * 71, none⟩)) rfl (Pu.idx j Tryz.runUnderlying25 ty34 hv54 rfl rfl (by first | assumption | omega | decide | simp)) ?_
       refine JL_nil ?_
       exact ⟨.pointer (some ⟨b54, o54 + j * 71, none⟩), [], rfl, (Sub.emp Sub.refl), rfl⟩
      ·intro ρ r52 N52 B hB hBa hp hr hr0
       have q79 : ρ 79 = .pointer (some ⟨b54, o54 + j * 71, none⟩) := (hr 9 _ _ (by decide) rfl rfl rfl).trans (hp 9 (by decide) rfl)
       obtain ⟨ρ65, rfl⟩ := reopen_ex (uc q79 un)
       clear q79
       refine JL_pure (v := .pointer (some ⟨b54, o54 + j * 71, none⟩)) rfl (fa34_0 rfl rfl) ?_
       refine JL_nil ?_
       exact ⟨.pointer (some ⟨b54, o54 + j * 71, none⟩), [], rfl, (Sub.emp Sub.refl), rfl⟩
      ·intro ρ r52 N52 B hB hBa hp hr hr0
       have q80 : ρ 80 = .pointer (some ⟨b54, o54 + j * 71, none⟩) := (hr 10 _ _ (by decide) rfl rfl rfl).trans (hp 10 (by decide) rfl)
       obtain ⟨ρ66, rfl⟩ := reopen_ex (uc q80 un)
       clear q80
       refine JL_run rfl (Pu_load ty30 rfl (At.im hb54) (sub_sub0 hs54 (sub_l (RP_len hA54))) ?_)
       refine JL_nil ?_
       exact ⟨.agg ⟨ca54⟩, [], rfl, (Sub.emp Sub.refl), rfl⟩
      ·intro ρ r52 N52 B hB hBa hp hr hr0
       have q75 : ρ 75 = .agg ⟨ca53⟩ := (hr 5 _ _ (by decide) rfl rfl rfl).trans (hp 5 (by decide) rfl)
       have q81 : ρ 81 = .agg ⟨ca54⟩ := (hr 11 _ _ (by decide) rfl rfl rfl).trans (hp 11 (by decide) rfl)
       obtain ⟨ρ67, rfl⟩ := reopen_ex (uc q75 (uc q81 un))
       clear q75 q81
       refine JL_call rfl Tryz.call62 rfl (fun hin => bool_r (r := true) (samePatR_ct _ _ _ _ _ (RP.mono (Hle.hu _ _) hA53) (RP.mono (Hle.hu _ _) hA54)) (decide_eq_true h51)) rfl ?_
       rintro _ _ ⟨rfl, rfl⟩
       refine JL_nil ?_
       exact ⟨.bool (true), [], rfl, (Sub.emp Sub.refl), rfl⟩
      ·intro ρ r52 N52 B hB hBa hp hr hr0
       have q82 : ρ 82 = .bool (true) := (hr 12 _ _ (by decide) rfl rfl rfl).trans (hp 12 (by decide) rfl)
       obtain ⟨ρ68, rfl⟩ := reopen_ex (uc q82 un)
       clear q82
       refine JL_pure (v := .bool (false)) rfl (show Pu _ _ _ (.bool (!true)) from Pu.not rfl) ?_
       refine JL_nil ?_
       exact ⟨.bool (false), [], rfl, (Sub.emp Sub.refl), rfl⟩
      ·intro ρ r52 N52 B hB hBa hp hr hr0
       have q83 : ρ 83 = .bool (false) := (hr 13 _ _ (by decide) rfl rfl rfl).trans (hp 13 (by decide) rfl)
       obtain ⟨ρ69, rfl⟩ := reopen_ex (uc q83 un)
       clear q83
       refine JL_pure (v := .bool (false)) rfl (Pu.move rfl) ?_
       refine JL_nil ?_
       exact ⟨.bool (false), [], rfl, (Sub.emp Sub.refl), rfl⟩
      ·intro ρ r52 N52 B hB hBa hp hr hr0
       have q2 : ρ 2 = .pointer (some ⟨b1, 0, none⟩) := hr0 2 (by kernel_rfl)
       have q84 : ρ 84 = .bool (false) := (hr 14 _ _ (by decide) rfl rfl rfl).trans (hp 14 (by decide) rfl)
       obtain ⟨ρ70, rfl⟩ := reopen_ex (uc q2 (uc q84 un))
       clear q2 q84
       refine JL_pure (v := .pointer (some ⟨b1, 35, none⟩)) rfl (fa27_4 rfl rfl) ?_
       refine JL_nil ?_
       exact ⟨.pointer (some ⟨b1, 35, none⟩), [], rfl, (Sub.emp Sub.refl), rfl⟩
      ·intro ρ r52 N52 B hB hBa hp hr hr0
       have q84 : ρ 84 = .bool (false) := (hr 14 _ _ (by decide) rfl rfl rfl).trans (hp 14 (by decide) rfl)
       have q85 : ρ 85 = .pointer (some ⟨b1, 35, none⟩) := (hr 15 _ _ (by decide) rfl rfl rfl).trans (hp 15 (by decide) rfl)
       obtain ⟨ρ71, rfl⟩ := reopen_ex (uc q84 (uc q85 un))
       clear q84 q85
       refine JL_run rfl (Pu_load1 ty25 rfl (At.bx 28 (made_old ((hB 1 (by decide)).trans rfl))) (pkT_35 ..) ?_)
       refine JL_nil ?_
       exact ⟨cv, [], rfl, (Sub.emp Sub.refl), rfl⟩
      ·intro ρ r52 N52 B hB hBa hp hr hr0
       have q6 : ρ 6 = .int .i64 ((j : Int)) := hr0 6 (by kernel_rfl)
       have q84 : ρ 84 = .bool (false) := (hr 14 _ _ (by decide) rfl rfl rfl).trans (hp 14 (by decide) rfl)
       obtain ⟨ρ72, rfl⟩ := reopen_ex (uc q6 (uc q84 un))
       clear q6 q84
       refine JL_pure (v := .int .i64 ((j : Int))) rfl (Pu.move rfl) ?_
       refine JL_nil ?_
       exact ⟨.int .i64 ((j : Int)), [], rfl, (Sub.emp Sub.refl), rfl⟩
      ·intro ρ r52 N52 B hB hBa hp hr hr0
       have q84 : ρ 84 = .bool (false) := (hr 14 _ _ (by decide) rfl rfl rfl).trans (hp 14 (by decide) rfl)
       have q86 : ρ 86 = cv := (hr 16 _ _ (by decide) rfl rfl rfl).trans (hp 16 (by decide) rfl)
       have q87 : ρ 87 = .int .i64 ((j : Int)) := (hr 17 _ _ (by decide) rfl rfl rfl).trans (hp 17 (by decide) rfl)
       obtain ⟨ρ73, rfl⟩ := reopen_ex (uc q84 (uc q86 (uc q87 un)))
       clear q84 q86 q87
       refine JL_pure (v := .pointer (some ⟨b53, o53 + j * 71, none⟩)) rfl (Pu.idx j Tryz.runUnderlying25 ty34 hv53 rfl rfl (by first | assumption | omega | decide | simp)) ?_
       refine JL_nil ?_
       exact ⟨.pointer (some ⟨b53, o53 + j * 71, none⟩), [], rfl, (Sub.emp Sub.refl), rfl⟩
      ·intro ρ r52 N52 B hB hBa hp hr hr0
       have q84 : ρ 84 = .bool (false) := (hr 14 _ _ (by decide) rfl rfl rfl).trans (hp 14 (by decide) rfl)
       have q88 : ρ 88 = .pointer (some ⟨b53, o53 + j * 71, none⟩) := (hr 18 _ _ (by decide) rfl rfl rfl).trans (hp 18 (by decide) rfl)
       obtain ⟨ρ74, rfl⟩ := reopen_ex (uc q84 (uc q88 un))
       clear q84 q88
       refine JL_pure (v := .pointer (some ⟨b53, o53 + j * 71 + 35, none⟩)) rfl (fa34_1 rfl rfl) ?_
       refine JL_nil ?_
       exact ⟨.pointer (some ⟨b53, o53 + j * 71 + 35, none⟩), [], rfl, (Sub.emp Sub.refl), rfl⟩
      ·intro ρ r52 N52 B hB hBa hp hr hr0
       have q84 : ρ 84 = .bool (false) := (hr 14 _ _ (by decide) rfl rfl rfl).trans (hp 14 (by decide) rfl)
       have q89 : ρ 89 = .pointer (some ⟨b53, o53 + j * 71 + 35, none⟩) := (hr 19 _ _ (by decide) rfl rfl rfl).trans (hp 19 (by decide) rfl)
       obtain ⟨ρ75, rfl⟩ := reopen_ex (uc q84 (uc q89 un))
       clear q84 q89
       refine JL_run rfl (Pu_load ty27 rfl (At.im hb53) (sub_sub hs53 (sub_r (RP_len hA53) (RT_len hB53))) ?_)
       refine JL_nil ?_
       exact ⟨.agg ⟨cb53⟩, [], rfl, (Sub.emp Sub.refl), rfl⟩
      ·intro ρ r52 N52 B hB hBa hp hr hr0
       have q3 : ρ 3 = .pointer (some ⟨b2, 0, none⟩) := hr0 3 (by kernel_rfl)
       have q84 : ρ 84 = .bool (false) := (hr 14 _ _ (by decide) rfl rfl rfl).trans (hp 14 (by decide) rfl)
       obtain ⟨ρ76, rfl⟩ := reopen_ex (uc q3 (uc q84 un))
       clear q3 q84
       refine JL_pure (v := .pointer (some ⟨b2, 35, none⟩)) rfl (fa27_4 rfl rfl) ?_
       refine JL_nil ?_
       exact ⟨.pointer (some ⟨b2, 35, none⟩), [], rfl, (Sub.emp Sub.refl), rfl⟩
      ·intro ρ r52 N52 B hB hBa hp hr hr0
       have q84 : ρ 84 = .bool (false) := (hr 14 _ _ (by decide) rfl rfl rfl).trans (hp 14 (by decide) rfl)
       have q91 : ρ 91 = .pointer (some ⟨b2, 35, none⟩) := (hr 21 _ _ (by decide) rfl rfl rfl).trans (hp 21 (by decide) rfl)
       obtain ⟨ρ77, rfl⟩ := reopen_ex (uc q84 (uc q91 un))
       clear q84 q91
       refine JL_run rfl (Pu_load1 ty25 rfl (At.bx 27 (made_old ((hB 0 (by decide)).trans rfl))) (pkT_35 ..) ?_)
       refine JL_nil ?_
       exact ⟨cvu, [], rfl, (Sub.emp Sub.refl), rfl⟩
      ·intro ρ r52 N52 B hB hBa hp hr hr0
       have q6 : ρ 6 = .int .i64 ((j : Int)) := hr0 6 (by kernel_rfl)
       have q84 : ρ 84 = .bool (false) := (hr 14 _ _ (by decide) rfl rfl rfl).trans (hp 14 (by decide) rfl)
       obtain ⟨ρ78, rfl⟩ := reopen_ex (uc q6 (uc q84 un))
       clear q6 q84
       refine JL_pure (v := .int .i64 ((j : Int))) rfl (Pu.move rfl) ?_
       refine JL_nil ?_
       exact ⟨.int .i64 ((j : Int)), [], rfl, (Sub.emp Sub.refl), rfl⟩
      ·intro ρ r52 N52 B hB hBa hp hr hr0
       have q84 : ρ 84 = .bool (false) := (hr 14 _ _ (by decide) rfl rfl rfl).trans (hp 14 (by decide) rfl)
       have q92 : ρ 92 = cvu := (hr 22 _ _ (by decide) rfl rfl rfl).trans (hp 22 (by decide) rfl)
       have q93 : ρ 93 = .int .i64 ((j : Int)) := (hr 23 _ _ (by decide) rfl rfl rfl).trans (hp 23 (by decide) rfl)
       obtain ⟨ρ79, rfl⟩ := reopen_ex (uc q84 (uc q92 (uc q93 un)))
       clear q84 q92 q93
       refine JL_pure (v := .pointer (some ⟨b54, o54 + j * 71, none⟩)) rfl (Pu.idx j Tryz.runUnderlying25 ty34 hv54 rfl rfl (by first | assumption | omega | decide | simp)) ?_
       refine JL_nil ?_
       exact ⟨.pointer (some ⟨b54, o54 + j * 71, none⟩), [], rfl, (Sub.emp Sub.refl), rfl⟩
      ·intro ρ r52 N52 B hB hBa hp hr hr0
       have q84 : ρ 84 = .bool (false) := (hr 14 _ _ (by decide) rfl rfl rfl).trans (hp 14 (by decide) rfl)
       have q94 : ρ 94 = .pointer (some ⟨b54, o54 + j * 71, none⟩) := (hr 24 _ _ (by decide) rfl rfl rfl).trans (hp 24 (by decide) rfl)
       obtain ⟨ρ80, rfl⟩ := reopen_ex (uc q84 (uc q94 un))
       clear q84 q94
       refine JL_pure (v := .pointer (some ⟨b54, o54 + j * 71 + 35, none⟩)) rfl (fa34_1 rfl rfl) ?_
       refine JL_nil ?_
       exact ⟨.pointer (some ⟨b54, o54 + j * 71 + 35, none⟩), [], rfl, (Sub.emp Sub.refl), rfl⟩
      ·intro ρ r52 N52 B hB hBa hp hr hr0
       have q84 : ρ 84 = .bool (false) := (hr 14 _ _ (by decide) rfl rfl rfl).trans (hp 14 (by decide) rfl)
       have q95 : ρ 95 = .pointer (some ⟨b54, o54 + j * 71 + 35, none⟩) := (hr 25 _ _ (by decide) rfl rfl rfl).trans (hp 25 (by decide) rfl)
       obtain ⟨ρ81, rfl⟩ := reopen_ex (uc q84 (uc q95 un))
       clear q84 q95
       refine JL_run rfl (Pu_load ty27 rfl (At.im hb54) (sub_sub hs54 (sub_r (RP_len hA54) (RT_len hB54))) ?_)
       refine JL_nil ?_
       exact ⟨.agg ⟨cb54⟩, [], rfl, (Sub.emp Sub.refl), rfl⟩
      ·intro ρ r52 N52 hp hr hr0
       have q2 : ρ 2 = .pointer (some ⟨b1, 0, none⟩) := hr0 2 (by kernel_rfl)
       have q3 : ρ 3 = .pointer (some ⟨b2, 0, none⟩) := hr0 3 (by kernel_rfl)
       have q4 : ρ 4 = .bool (false) := hr0 4 (by kernel_rfl)
       have q6 : ρ 6 = .int .i64 ((j : Int)) := hr0 6 (by kernel_rfl)
       have q84 : ρ 84 = .bool (false) := (hr 14 _ _ (by decide) rfl rfl).trans (hp 14 (by decide))
       have q90 : ρ 90 = .agg ⟨cb53⟩ := (hr 20 _ _ (by decide) rfl rfl).trans (hp 20 (by decide))
       have q96 : ρ 96 = .agg ⟨cb54⟩ := (hr 26 _ _ (by decide) rfl rfl).trans (hp 26 (by decide))
       obtain ⟨ρ82, rfl⟩ := reopen_ex (uc q2 (uc q3 (uc q4 (uc q6 (uc q84 (uc q90 (uc q96 un)))))))
       clear q2 q3 q4 q6 q84 q90 q96
       clear hp hr hr0 
       refine JL_sub (M' := [(N52 0), (N52 1), (N52 2), (N52 3), (N52 4), (N52 5), (N52 6), (N52 7), (N52 8), (N52 9), (N52 10), (N52 11), (N52 12), (N52 13), (N52 14), (N52 15), (N52 16), (N52 17), (N52 18), (N52 19), (N52 20), (N52 21), (N52 22), (N52 23), (N52 24), (N52 25), (N52 26), [(b2, .cells ⟨pkT (u.kind) (u.num) (u.ref) (ksu) (cvu)⟩ 27 (0, 0))], [(b1, .cells ⟨pkT (kind) (num) (ref) (ks) (cv)⟩ 27 (0, 0))]]) Sub.refl ?_
       refine JL_sub (M' := [[(b2, .cells ⟨pkT (u.kind) (u.num) (u.ref) (ksu) (cvu)⟩ 27 (0, 0))], [(b1, .cells ⟨pkT (kind) (num) (ref) (ks) (cv)⟩ 27 (0, 0))]]) (Sd (Sd (Sd (Sd (Sd (Sd (Sd (Sd (Sd (Sd (Sd (Sd (Sd (Sd (Sd (Sd (Sd (Sd (Sd (Sd (Sd (Sd (Sd (Sd (Sd (Sd (Sd (Sk (Sk Sub.nil))))))))))))))))))))))))))))) ?_
       show JL _ _ _ [_, _, _] _ _ _
       refine JL_call rfl Tryz.call23 rfl (fun hin => ih' _ (List.getElem_mem h50n) _ _ _ _ (RT.mono (Hle.hu _ _) hB53) (RT.mono (Hle.hu _ _) hB54)) rfl ?_
       rintro _ _ ⟨rfl, rfl⟩
       refine JL_pure (v := .bool (!(decide (((cases)[j].2) = ((u.cases)[j].2))))) rfl (Pu.not rfl) ?_
       refine JL_pure (v := .bool (!(decide (((cases)[j].2) = ((u.cases)[j].2))))) rfl (Pu.pickF rfl rfl) ?_
       refine JL_nil ?_
       refine J_cond (b := !(decide (((cases)[j].2) = ((u.cases)[j].2)))) rfl (fun h83 => ?_) (fun h83 => ?_)
       ·skip
        replace h83 := nt h83
        replace h83 := df h83
        refine J_seq ?_
        refine J_region ?_
        refine JL_pure (v := .bool (false)) rfl (Pu.assign rfl) ?_
        refine JL_nil ?_
        refine J_ret ?_
        refine ⟨.bool (false), [], Ret.one rfl (RV.tmp rfl), Sub.nil, ?_⟩
        exact ⟨by rw [decide_eq_false]; intro e; subst e; exact h83 rfl, rfl⟩
       ·skip
        replace h83 := nf h83
        replace h83 := dt h83
        refine J_skip ?_
        refine J_region ?_
        refine JL_pure (v := .int .i64 ((j : Int))) rfl (Pu.move rfl) ?_
        refine JL_pure (v := .int .i64 (((j + 1 : Nat) : Int))) rfl (Pu.inc rfl rfl (by omega)) ?_
        refine JL_pure (v := .int .i64 (((j + 1 : Nat) : Int))) rfl (Pu.assign rfl) ?_
        refine JL_nil ?_
        refine ⟨_, ?_, (j + 1), rfl, rfl, rfl, rfl, (Sk (Sk Sub.nil)), ?_, ?_, ?_, ?_, ?_, ?_, ?_, rfl⟩
        ·omega
        ·omega
        ·assumption
        ·assumption
        ·assumption
        ·assumption
        ·assumption
        ·rw [List.take_succ_eq_append_getElem h50n, List.take_succ_eq_append_getElem hltc, htakec, Prod.ext h51 h83]
     | false =>
      replace h51 := df h51
      obtain ⟨b85, o85, cap85, row85, T85, fr85, cs85, hv85, hb85, hs85, hE85⟩ := hcv.get j (by first | assumption | omega | decide | simp)
      obtain ⟨ca85, cb85, rfl, hA85, hB85⟩ := hE85
      obtain ⟨b86, o86, cap86, row86, T86, fr86, cs86, hv86, hb86, hs86, hE86⟩ := hcvu.get j (by first | assumption | omega | decide | simp)
      obtain ⟨ca86, cb86, rfl, hA86, hB86⟩ := hE86
      refine J_draw mixed #[0, 1, 0, 7, 15, 31, 0, 64, 0, 448, 960, 1984, 4095, 8191, 16383, 32767, 65535, 32767, 262143, 524287, 1048575, 32767, 2129919, 32767, 14712831, 31490047, 65044479, 134217727, 268435455, 536870911] 27 27 2 rfl (by kernel_rfl) (fun i r84 N84 => match i with | 0 => (r84 0) = .pointer (some ⟨b1, 35, none⟩) | 1 => (r84 1) = cv | 2 => (r84 2) = .int .i64 ((j : Int)) | 3 => (r84 3) = .pointer (some ⟨b85, o85 + j * 71, none⟩) | 4 => (r84 4) = .pointer (some ⟨b85, o85 + j * 71, none⟩) | 5 => (r84 5) = .agg ⟨ca85⟩ | 6 => (r84 6) = .pointer (some ⟨b2, 35, none⟩) | 7 => (r84 7) = cvu | 8 => (r84 8) = .int .i64 ((j : Int)) | 9 => (r84 9) = .pointer (some ⟨b86, o86 + j * 71, none⟩) | 10 => (r84 10) = .pointer (some ⟨b86, o86 + j * 71, none⟩) | 11 => (r84 11) = .agg ⟨ca86⟩ | 12 => (r84 12) = .bool (false) | 13 => (r84 13) = .bool (true) | 14 => (r84 14) = .bool (true) | 15 => (r84 15) = undef | 16 => (r84 16) = undef | 17 => (r84 17) = undef | 18 => (r84 18) = undef | 19 => (r84 19) = undef | 20 => (r84 20) = undef | 21 => (r84 21) = undef | 22 => (r84 22) = undef | 23 => (r84 23) = undef | 24 => (r84 24) = undef | 25 => (r84 25) = undef | 26 => (r84 26) = undef | _ => True) ⟨?_, ?_, ?_, ?_, ?_, ?_, ?_, ?_, ?_, ?_, ?_, ?_, ?_, ?_, ?_, ?_, ?_, ?_, ?_, ?_, ?_, ?_, ?_, ?_, ?_, ?_, ?_, trivial⟩ ?_
      ·intro ρ r84 N84 B hB hBa hp hr hr0
       have q2 : ρ 2 = .pointer (some ⟨b1, 0, none⟩) := hr0 2 (by kernel_rfl)
       obtain ⟨ρ87, rfl⟩ := reopen_ex (uc q2 un)
       clear q2
       refine JL_pure (v := .pointer (some ⟨b1, 35, none⟩)) rfl (fa27_4 rfl rfl) ?_
       refine JL_nil ?_
       exact ⟨.pointer (some ⟨b1, 35, none⟩), [], rfl, (Sub.emp Sub.refl), rfl⟩
      ·intro ρ r84 N84 B hB hBa hp hr hr0
       have q70 : ρ 70 = .pointer (some ⟨b1, 35, none⟩) := (hr 0 _ _ (by decide) rfl rfl rfl).trans (hp 0 (by decide) rfl)
       obtain ⟨ρ88, rfl⟩ := reopen_ex (uc q70 un)
       clear q70
       refine JL_run rfl (Pu_load1 ty25 rfl (At.bx 28 (made_old ((hB 1 (by decide)).trans rfl))) (pkT_35 ..) ?_)
       refine JL_nil ?_
       exact ⟨cv, [], rfl, (Sub.emp Sub.refl), rfl⟩
      ·intro ρ r84 N84 B hB hBa hp hr hr0
       have q6 : ρ 6 = .int .i64 ((j : Int)) := hr0 6 (by kernel_rfl)
       obtain ⟨ρ89, rfl⟩ := reopen_ex (uc q6 un)
       clear q6
       refine JL_pure (v := .int .i64 ((j : Int))) rfl (Pu.move rfl) ?_
       refine JL_nil ?_
       exact ⟨.int .i64 ((j : Int)), [], rfl, (Sub.emp Sub.refl), rfl⟩
      ·intro ρ r84 N84 B hB hBa hp hr hr0
       have q71 : ρ 71 = cv := (hr 1 _ _ (by decide) rfl rfl rfl).trans (hp 1 (by decide) rfl)
       have q72 : ρ 72 = .int .i64 ((j : Int)) := (hr 2 _ _ (by decide) rfl rfl rfl).trans (hp 2 (by decide) rfl)
       obtain ⟨ρ90, rfl⟩ := reopen_ex (uc q71 (uc q72 un))
       clear q71 q72
       refine JL_pure (v := .pointer (some ⟨b85, o85 + j * 71, none⟩)) rfl (Pu.idx j Tryz.runUnderlying25 ty34 hv85 rfl rfl (by first | assumption | omega | decide | simp)) ?_
       refine JL_nil ?_
       exact ⟨.pointer (some ⟨b85, o85 + j * 71, none⟩), [], rfl, (Sub.emp Sub.refl), rfl⟩
      ·intro ρ r84 N84 B hB hBa hp hr hr0
       have q73 : ρ 73 = .pointer (some ⟨b85, o85 + j * 71, none⟩) := (hr 3 _ _ (by decide) rfl rfl rfl).trans (hp 3 (by decide) rfl)
       obtain ⟨ρ91, rfl⟩ := reopen_ex (uc q73 un)
       clear q73
       refine JL_pure (v := .pointer (some ⟨b85, o85 + j * 71, none⟩)) rfl (fa34_0 rfl rfl) ?_
       refine JL_nil ?_
       exact ⟨.pointer (some ⟨b85, o85 + j * 71, none⟩), [], rfl, (Sub.emp Sub.refl), rfl⟩
      ·intro ρ r84 N84 B hB hBa hp hr hr0
       have q74 : ρ 74 = .pointer (some ⟨b85, o85 + j * 71, none⟩) := (hr 4 _ _ (by decide) rfl rfl rfl).trans (hp 4 (by decide) rfl)
       obtain ⟨ρ92, rfl⟩ := reopen_ex (uc q74 un)
       clear q74
       refine JL_run rfl (Pu_load ty30 rfl (At.im hb85) (sub_sub0 hs85 (sub_l (RP_len hA85))) ?_)
       refine JL_nil ?_
       exact ⟨.agg ⟨ca85⟩, [], rfl, (Sub.emp Sub.refl), rfl⟩
      ·intro ρ r84 N84 B hB hBa hp hr hr0
       have q3 : ρ 3 = .pointer (some ⟨b2, 0, none⟩) := hr0 3 (by kernel_rfl)
       obtain ⟨ρ93, rfl⟩ := reopen_ex (uc q3 un)
       clear q3
       refine JL_pure (v := .pointer (some ⟨b2, 35, none⟩)) rfl (fa27_4 rfl rfl) ?_
       refine JL_nil ?_
       exact ⟨.pointer (some ⟨b2, 35, none⟩), [], rfl, (Sub.emp Sub.refl), rfl⟩
      ·intro ρ r84 N84 B hB hBa hp hr hr0
       have q76 : ρ 76 = .pointer (some ⟨b2, 35, none⟩) := (hr 6 _ _ (by decide) rfl rfl rfl).trans (hp 6 (by decide) rfl)
       obtain ⟨ρ94, rfl⟩ := reopen_ex (uc q76 un)
       clear q76
       refine JL_run rfl (Pu_load1 ty25 rfl (At.bx 27 (made_old ((hB 0 (by decide)).trans rfl))) (pkT_35 ..) ?_)
       refine JL_nil ?_
       exact ⟨cvu, [], rfl, (Sub.emp Sub.refl), rfl⟩
      ·intro ρ r84 N84 B hB hBa hp hr hr0
       have q6 : ρ 6 = .int .i64 ((j : Int)) := hr0 6 (by kernel_rfl)
       obtain ⟨ρ95, rfl⟩ := reopen_ex (uc q6 un)
       clear q6
       refine JL_pure (v := .int .i64 ((j : Int))) rfl (Pu.move rfl) ?_
       refine JL_nil ?_
       exact ⟨.int .i64 ((j : Int)), [], rfl, (Sub.emp Sub.refl), rfl⟩
      ·intro ρ r84 N84 B hB hBa hp hr hr0
       have q77 : ρ 77 = cvu := (hr 7 _ _ (by decide) rfl rfl rfl).trans (hp 7 (by decide) rfl)
       have q78 : ρ 78 = .int .i64 ((j : Int)) := (hr 8 _ _ (by decide) rfl rfl rfl).trans (hp 8 (by decide) rfl)
       obtain ⟨ρ96, rfl⟩ := reopen_ex (uc q77 (uc q78 un))
       clear q77 q78
       refine JL_pure (v := .pointer (some ⟨b86, o86 + j * 71, none⟩)) rfl (Pu.idx j Tryz.runUnderlying25 ty34 hv86 rfl rfl (by first | assumption | omega | decide | simp)) ?_
       refine JL_nil ?_
       exact ⟨.pointer (some ⟨b86, o86 + j * 71, none⟩), [], rfl, (Sub.emp Sub.refl), rfl⟩
      ·intro ρ r84 N84 B hB hBa hp hr hr0
       have q79 : ρ 79 = .pointer (some ⟨b86, o86 + j * 71, none⟩) := (hr 9 _ _ (by decide) rfl rfl rfl).trans (hp 9 (by decide) rfl)
       obtain ⟨ρ97, rfl⟩ := reopen_ex (uc q79 un)
       clear q79
       refine JL_pure (v := .pointer (some ⟨b86, o86 + j * 71, none⟩)) rfl (fa34_0 rfl rfl) ?_
       refine JL_nil ?_
       exact ⟨.pointer (some ⟨b86, o86 + j * 71, none⟩), [], rfl, (Sub.emp Sub.refl), rfl⟩
      ·intro ρ r84 N84 B hB hBa hp hr hr0
       have q80 : ρ 80 = .pointer (some ⟨b86, o86 + j * 71, none⟩) := (hr 10 _ _ (by decide) rfl rfl rfl).trans (hp 10 (by decide) rfl)
       obtain ⟨ρ98, rfl⟩ := reopen_ex (uc q80 un)
       clear q80
       refine JL_run rfl (Pu_load ty30 rfl (At.im hb86) (sub_sub0 hs86 (sub_l (RP_len hA86))) ?_)
       refine JL_nil ?_
       exact ⟨.agg ⟨ca86⟩, [], rfl, (Sub.emp Sub.refl), rfl⟩
      ·intro ρ r84 N84 B hB hBa hp hr hr0
       have q75 : ρ 75 = .agg ⟨ca85⟩ := (hr 5 _ _ (by decide) rfl rfl rfl).trans (hp 5 (by decide) rfl)
       have q81 : ρ 81 = .agg ⟨ca86⟩ := (hr 11 _ _ (by decide) rfl rfl rfl).trans (hp 11 (by decide) rfl)
       obtain ⟨ρ99, rfl⟩ := reopen_ex (uc q75 (uc q81 un))
       clear q75 q81
       refine JL_call rfl Tryz.call62 rfl (fun hin => bool_r (r := false) (samePatR_ct _ _ _ _ _ (RP.mono (Hle.hu _ _) hA85) (RP.mono (Hle.hu _ _) hA86)) (decide_eq_false h51)) rfl ?_
       rintro _ _ ⟨rfl, rfl⟩
       refine JL_nil ?_
       exact ⟨.bool (false), [], rfl, (Sub.emp Sub.refl), rfl⟩
      ·intro ρ r84 N84 B hB hBa hp hr hr0
       have q82 : ρ 82 = .bool (false) := (hr 12 _ _ (by decide) rfl rfl rfl).trans (hp 12 (by decide) rfl)
       obtain ⟨ρ100, rfl⟩ := reopen_ex (uc q82 un)
       clear q82
       refine JL_pure (v := .bool (true)) rfl (show Pu _ _ _ (.bool (!false)) from Pu.not rfl) ?_
       refine JL_nil ?_
       exact ⟨.bool (true), [], rfl, (Sub.emp Sub.refl), rfl⟩
      ·intro ρ r84 N84 B hB hBa hp hr hr0
       have q83 : ρ 83 = .bool (true) := (hr 13 _ _ (by decide) rfl rfl rfl).trans (hp 13 (by decide) rfl)
       obtain ⟨ρ101, rfl⟩ := reopen_ex (uc q83 un)
       clear q83
       refine JL_pure (v := .bool (true)) rfl (Pu.move rfl) ?_
       refine JL_nil ?_
       exact ⟨.bool (true), [], rfl, (Sub.emp Sub.refl), rfl⟩
      ·intro ρ r84 N84 B hB hBa hp hr hr0
       have q84 : ρ 84 = .bool (true) := (hr 14 _ _ (by decide) rfl rfl rfl).trans (hp 14 (by decide) rfl)
       obtain ⟨ρ102, rfl⟩ := reopen_ex (uc q84 un)
       clear q84
       refine JL_skip rfl ?_
       refine JL_nil ?_
       exact ⟨undef, [], rfl, (Sub.emp Sub.refl), rfl⟩
      ·intro ρ r84 N84 B hB hBa hp hr hr0
       have q84 : ρ 84 = .bool (true) := (hr 14 _ _ (by decide) rfl rfl rfl).trans (hp 14 (by decide) rfl)
       obtain ⟨ρ103, rfl⟩ := reopen_ex (uc q84 un)
       clear q84
       refine JL_skip rfl ?_
       refine JL_nil ?_
       exact ⟨undef, [], rfl, (Sub.emp Sub.refl), rfl⟩
      ·intro ρ r84 N84 B hB hBa hp hr hr0
       have q84 : ρ 84 = .bool (true) := (hr 14 _ _ (by decide) rfl rfl rfl).trans (hp 14 (by decide) rfl)
       obtain ⟨ρ104, rfl⟩ := reopen_ex (uc q84 un)
       clear q84
       refine JL_skip rfl ?_
       refine JL_nil ?_
       exact ⟨undef, [], rfl, (Sub.emp Sub.refl), rfl⟩
      ·intro ρ r84 N84 B hB hBa hp hr hr0
       have q84 : ρ 84 = .bool (true) := (hr 14 _ _ (by decide) rfl rfl rfl).trans (hp 14 (by decide) rfl)
       obtain ⟨ρ105, rfl⟩ := reopen_ex (uc q84 un)
       clear q84
       refine JL_skip rfl ?_
       refine JL_nil ?_
       exact ⟨undef, [], rfl, (Sub.emp Sub.refl), rfl⟩
      ·intro ρ r84 N84 B hB hBa hp hr hr0
       have q84 : ρ 84 = .bool (true) := (hr 14 _ _ (by decide) rfl rfl rfl).trans (hp 14 (by decide) rfl)
       obtain ⟨ρ106, rfl⟩ := reopen_ex (uc q84 un)
       clear q84
       refine JL_skip rfl ?_
       refine JL_nil ?_
       exact ⟨undef, [], rfl, (Sub.emp Sub.refl), rfl⟩
      ·intro ρ r84 N84 B hB hBa hp hr hr0
       have q84 : ρ 84 = .bool (true) := (hr 14 _ _ (by decide) rfl rfl rfl).trans (hp 14 (by decide) rfl)
       obtain ⟨ρ107, rfl⟩ := reopen_ex (uc q84 un)
       clear q84
       refine JL_skip rfl ?_
       refine JL_nil ?_
       exact ⟨undef, [], rfl, (Sub.emp Sub.refl), rfl⟩
      ·intro ρ r84 N84 B hB hBa hp hr hr0
       have q84 : ρ 84 = .bool (true) := (hr 14 _ _ (by decide) rfl rfl rfl).trans (hp 14 (by decide) rfl)
       obtain ⟨ρ108, rfl⟩ := reopen_ex (uc q84 un)
       clear q84
       refine JL_skip rfl ?_
       refine JL_nil ?_
       exact ⟨undef, [], rfl, (Sub.emp Sub.refl), rfl⟩
      ·intro ρ r84 N84 B hB hBa hp hr hr0
       have q84 : ρ 84 = .bool (true) := (hr 14 _ _ (by decide) rfl rfl rfl).trans (hp 14 (by decide) rfl)
       obtain ⟨ρ109, rfl⟩ := reopen_ex (uc q84 un)
       clear q84
       refine JL_skip rfl ?_
       refine JL_nil ?_
       exact ⟨undef, [], rfl, (Sub.emp Sub.refl), rfl⟩
      ·intro ρ r84 N84 B hB hBa hp hr hr0
       have q84 : ρ 84 = .bool (true) := (hr 14 _ _ (by decide) rfl rfl rfl).trans (hp 14 (by decide) rfl)
       obtain ⟨ρ110, rfl⟩ := reopen_ex (uc q84 un)
       clear q84
       refine JL_skip rfl ?_
       refine JL_nil ?_
       exact ⟨undef, [], rfl, (Sub.emp Sub.refl), rfl⟩
      ·intro ρ r84 N84 B hB hBa hp hr hr0
       have q84 : ρ 84 = .bool (true) := (hr 14 _ _ (by decide) rfl rfl rfl).trans (hp 14 (by decide) rfl)
       obtain ⟨ρ111, rfl⟩ := reopen_ex (uc q84 un)
       clear q84
       refine JL_skip rfl ?_
       refine JL_nil ?_
       exact ⟨undef, [], rfl, (Sub.emp Sub.refl), rfl⟩
      ·intro ρ r84 N84 B hB hBa hp hr hr0
       have q84 : ρ 84 = .bool (true) := (hr 14 _ _ (by decide) rfl rfl rfl).trans (hp 14 (by decide) rfl)
       obtain ⟨ρ112, rfl⟩ := reopen_ex (uc q84 un)
       clear q84
       refine JL_skip rfl ?_
       refine JL_nil ?_
       exact ⟨undef, [], rfl, (Sub.emp Sub.refl), rfl⟩
      ·intro ρ r84 N84 B hB hBa hp hr hr0
       have q84 : ρ 84 = .bool (true) := (hr 14 _ _ (by decide) rfl rfl rfl).trans (hp 14 (by decide) rfl)
       obtain ⟨ρ113, rfl⟩ := reopen_ex (uc q84 un)
       clear q84
       refine JL_skip rfl ?_
       refine JL_nil ?_
       exact ⟨undef, [], rfl, (Sub.emp Sub.refl), rfl⟩
      ·intro ρ r84 N84 hp hr hr0
       have q2 : ρ 2 = .pointer (some ⟨b1, 0, none⟩) := hr0 2 (by kernel_rfl)
       have q3 : ρ 3 = .pointer (some ⟨b2, 0, none⟩) := hr0 3 (by kernel_rfl)
       have q4 : ρ 4 = .bool (false) := hr0 4 (by kernel_rfl)
       have q6 : ρ 6 = .int .i64 ((j : Int)) := hr0 6 (by kernel_rfl)
       have q84 : ρ 84 = .bool (true) := (hr 14 _ _ (by decide) rfl rfl).trans (hp 14 (by decide))
       have q90 : ρ 90 = undef := (hr 20 _ _ (by decide) rfl rfl).trans (hp 20 (by decide))
       have q96 : ρ 96 = undef := (hr 26 _ _ (by decide) rfl rfl).trans (hp 26 (by decide))
       obtain ⟨ρ114, rfl⟩ := reopen_ex (uc q2 (uc q3 (uc q4 (uc q6 (uc q84 (uc q90 (uc q96 un)))))))
       clear q2 q3 q4 q6 q84 q90 q96
       clear hp hr hr0 
       refine JL_sub (M' := [(N84 0), (N84 1), (N84 2), (N84 3), (N84 4), (N84 5), (N84 6), (N84 7), (N84 8), (N84 9), (N84 10), (N84 11), (N84 12), (N84 13), (N84 14), (N84 15), (N84 16), (N84 17), (N84 18), (N84 19), (N84 20), (N84 21), (N84 22), (N84 23), (N84 24), (N84 25), (N84 26), [(b2, .cells ⟨pkT (u.kind) (u.num) (u.ref) (ksu) (cvu)⟩ 27 (0, 0))], [(b1, .cells ⟨pkT (kind) (num) (ref) (ks) (cv)⟩ 27 (0, 0))]]) Sub.refl ?_
       refine JL_sub (M' := [[(b2, .cells ⟨pkT (u.kind) (u.num) (u.ref) (ksu) (cvu)⟩ 27 (0, 0))], [(b1, .cells ⟨pkT (kind) (num) (ref) (ks) (cv)⟩ 27 (0, 0))]]) (Sd (Sd (Sd (Sd (Sd (Sd (Sd (Sd (Sd (Sd (Sd (Sd (Sd (Sd (Sd (Sd (Sd (Sd (Sd (Sd (Sd (Sd (Sd (Sd (Sd (Sd (Sd (Sk (Sk Sub.nil))))))))))))))))))))))))))))) ?_
       show JL _ _ _ [_, _, _] _ _ _
       refine JL_skip rfl ?_
       refine JL_skip rfl ?_
       refine JL_pure (v := .bool (true)) rfl (Pu.pickT rfl rfl) ?_
       refine JL_nil ?_
       refine J_cond (b := true) rfl (fun _ => ?_) (fun h => absurd h (by simp))
       refine J_seq ?_
       refine J_region ?_
       refine JL_pure (v := .bool (false)) rfl (Pu.assign rfl) ?_
       refine JL_nil ?_
       refine J_ret ?_
       refine ⟨.bool (false), [], Ret.one rfl (RV.tmp rfl), Sub.nil, ?_⟩
       exact ⟨by rw [decide_eq_false]; intro e; subst e; exact h51 rfl, rfl⟩
    ·skip
     replace h50 := df h50
     have h50n : (cases).length ≤ j := by omega
     refine J_exit _ rfl ?_
     refine J_seq ?_
     refine J_region ?_
     refine JL_pure (v := .bool (true)) rfl (Pu.assign rfl) ?_
     refine JL_nil ?_
     refine J_ret ?_
     refine ⟨.bool (true), [], Ret.one rfl (RV.tmp rfl), Sub.nil, ?_⟩
     have e2 : cases = u.cases := by have e := htakec; rw [List.take_of_length_le h50n, List.take_of_length_le (by omega)] at e; exact e
     exact ⟨by rw [decide_eq_true]; cases u; simp_all [Tm.kind, Tm.num, Tm.ref, Tm.kids, Tm.cases], rfl⟩
end Go.Proofs.YtdeinimmmjichaaGreat.Hs
/-! Walks, printed by a program of this session's own (gen.py). -/
namespace Go.Proofs.YtdeinimmmjichaaGreat.Hs
open Go Go.Proofs
set_option maxRecDepth 100000
set_option linter.unusedVariables false
set_option linter.unusedSimpArgs false
attribute [local irreducible] JL J CT wlo
theorem sizeE_ct (t : Tm) (cs : List Value) (H : Heap) (ht : RT H cs t) : CT Tryz.prog 16 ⟨[.agg ⟨cs⟩]⟩ [] H (fun v N => v = .tuple ⟨[.int .i64 (sizeE t).1, .int .i64 (sizeE t).2]⟩ ∧ N = []) := by
 refine CT_enter Tryz.func16 rfl rfl ?_
 refine J_seq ?_
 refine J_region ?_
 refine JL_run rfl (Runs_box (l := cs) rfl rfl fun b1 => ?_)
 refine JL_pure (v := .int .i64 (0)) rfl (Pu.assign rfl) ?_
 refine JL_pure (v := .int .i64 (0)) rfl (Pu.assign rfl) ?_
 refine JL_nil ?_
 refine J_seq ?_
 refine J_seq ?_
 refine J_region ?_
 refine JL_run rfl (Pu_load ty27 rfl (At.bx 0 rfl) (sub_a (RT_len ht)) ?_)
 refine JL_run rfl (Runs_buildSlice (vs := [.agg ⟨cs⟩]) [cs] Tryz.runUnderlying24 el27 rfl rfl (by intro e he; simp only [List.mem_cons, List.not_mem_nil, or_false] at he; subst he; exact (RT_len ht)) rfl (by decide) fun b2 k2 ho2 hk2 => ?_)
 refine JL_call rfl Tryz.call50 rfl (fun hin => int_r (right_ct [t] _ _ (Own.rd1 ho2 (hin 0 _ rfl) (RT.mono (Hle.hu _ _) ht))) (rightT_one _)) rfl ?_
 rintro _ _ ⟨rfl, rfl⟩
 refine JL_pure (v := .int .i64 (checkR 60 8 t)) rfl (Pu.assign rfl) ?_
 refine JL_nil ?_
 refine J_seq ?_
 refine J_region ?_
 refine JL_pure (v := .int .i64 (checkR 60 8 t)) rfl (Pu.move rfl) ?_
 refine JL_pure (v := .bool (!decide (checkR 60 8 t = 0))) rfl (Pu.neq rfl rfl) ?_
 refine JL_nil ?_
 refine J_cond (b := !decide (checkR 60 8 t = 0)) rfl (fun h3 => ?_) (fun h3 => ?_)
 ·skip
  replace h3 := nt h3
  replace h3 := df h3
  refine J_seq ?_
  refine J_region ?_
  refine JL_pure (v := .int .i64 (checkR 60 8 t)) rfl (Pu.move rfl) ?_
  refine JL_pure (v := .int .i64 (0)) rfl (Pu.assign rfl) ?_
  refine JL_pure (v := .int .i64 (checkR 60 8 t)) rfl (Pu.assign rfl) ?_
  refine JL_nil ?_
  refine J_ret ?_
  refine ⟨.tuple ⟨[.int .i64 (0), .int .i64 (checkR 60 8 t)]⟩, [], Ret.two rfl (RV.tmp rfl) (RV.tmp rfl), Sub.nil, ?_⟩
  exact ⟨by rw [sizeE, if_neg (by assumption)], rfl⟩
 ·skip
  replace h3 := nf h3
  replace h3 := dt h3
  refine J_skip ?_
  refine J_seq ?_
  refine J_region ?_
  refine JL_pure (v := .agg ⟨[.int .i64 (0)]⟩) rfl (Pu.build (pv := []) (l := [.int .i64 (0)]) rfl bld88_) ?_
  refine JL_run rfl (Runs_box (l := [.int .i64 (0)]) rfl rfl fun b4 => ?_)
  refine JL_pure (v := .pointer (some ⟨b4, 0, none⟩)) rfl (Pu.assign rfl) ?_
  refine JL_nil ?_
  refine J_seq ?_
  refine J_region ?_
  refine JL_pure (v := .pointer (some ⟨b4, 0, none⟩)) rfl (Pu.move rfl) ?_
  refine JL_run rfl (Pu_load ty27 rfl (At.bx 2 rfl) (sub_a (RT_len ht)) ?_)
  refine JL_call1 0 rfl Tryz.call51 rfl rfl (fun hin => longT_ct _ _ _ _ _ _ (RT.mono (Hle.hu _ _) ht) (by omega) (by omega) (by omega) (by omega)) rfl ?_
  rintro _ _ ⟨rfl, rfl⟩
  refine JL_nil ?_
  refine J_seq ?_
  refine J_region ?_
  refine JL_pure (v := .pointer (some ⟨b4, 0, none⟩)) rfl (Pu.move rfl) ?_
  refine JL_pure (v := .pointer (some ⟨b4, 0, none⟩)) rfl (Pu.nilCheck rfl) ?_
  refine JL_pure (v := .pointer (some ⟨b4, 0, none⟩)) rfl (fa88_0 rfl rfl) ?_
  refine JL_run rfl (Pu_load1 ty3 rfl (At.bx 0 rfl) rfl ?_)
  refine JL_pure (v := .int .i64 ((cnT stL (1) (t) (0)).2)) rfl (Pu.assign rfl) ?_
  refine JL_pure (v := .int .i64 (0)) rfl (Pu.assign rfl) ?_
  refine JL_nil ?_
  refine J_ret ?_
  refine ⟨.tuple ⟨[.int .i64 ((cnT stL (1) (t) (0)).2), .int .i64 (0)]⟩, [], Ret.two rfl (RV.tmp rfl) (RV.tmp rfl), Sub.nil, ?_⟩
  exact ⟨by rw [sizeE, if_pos (by assumption), cnT_size t 1 0 (checkT_ok (by rw [check_eq]; assumption : checkT 60 8 t = 0)).2.2.2]; simp, rfl⟩
theorem bindsE_ct (p : Pt) (cs : List Value) (H : Heap) (hp : RP H cs p) (hz : sizeP p ≤ 300000) : CT Tryz.prog 15 ⟨[.agg ⟨cs⟩]⟩ [] H (fun v N => v = .tuple ⟨[.int .i64 (bindsE p).1, .int .i64 (bindsE p).2]⟩ ∧ N = []) := by
 refine CT_enter Tryz.func15 rfl rfl ?_
 refine J_seq ?_
 refine J_region ?_
 refine JL_run rfl (Runs_box (l := cs) rfl rfl fun b1 => ?_)
 refine JL_pure (v := .int .i64 (0)) rfl (Pu.assign rfl) ?_
 refine JL_pure (v := .int .i64 (0)) rfl (Pu.assign rfl) ?_
 refine JL_nil ?_
 refine J_seq ?_
 refine J_region ?_
 refine JL_pure (v := .agg ⟨pkT (2) (0) (zS) (.slice none 0 0) (.slice none 0 0)⟩) rfl (Pu.build (pv := [(0, .int .i64 (2))]) (l := pkT (2) (0) (zS) (.slice none 0 0) (.slice none 0 0)) rfl (bld27_0 _)) ?_
 refine JL_run rfl (Runs_buildSlice (vs := [.agg ⟨pkT (2) (0) (zS) (.slice none 0 0) (.slice none 0 0)⟩]) [pkT (2) (0) (zS) (.slice none 0 0) (.slice none 0 0)] Tryz.runUnderlying24 el27 rfl rfl (by intro e he; simp only [List.mem_cons, List.not_mem_nil, or_false] at he; subst he; exact rfl) rfl (by decide) fun b2 k2 ho2 hk2 => ?_)
 refine JL_run rfl (Pu_load ty30 rfl (At.bx 1 rfl) (sub_a (RP_len hp)) ?_)
 refine JL_pure (v := .agg ⟨pkT (2) (0) (zS) (.slice none 0 0) (.slice none 0 0)⟩) rfl (Pu.build (pv := [(0, .int .i64 (2))]) (l := pkT (2) (0) (zS) (.slice none 0 0) (.slice none 0 0)) rfl (bld27_0 _)) ?_
 refine JL_pure (v := .agg ⟨(cs) ++ (pkT (2) (0) (zS) (.slice none 0 0) (.slice none 0 0))⟩) rfl (Pu.build (pv := [(0, .agg ⟨cs⟩), (1, .agg ⟨pkT (2) (0) (zS) (.slice none 0 0) (.slice none 0 0)⟩)]) (l := (cs) ++ (pkT (2) (0) (zS) (.slice none 0 0) (.slice none 0 0))) rfl (bld34_0_1 (RP_len hp) rfl)) ?_
 refine JL_run rfl (Runs_buildSlice (vs := [.agg ⟨(cs) ++ (pkT (2) (0) (zS) (.slice none 0 0) (.slice none 0 0))⟩]) [(cs) ++ (pkT (2) (0) (zS) (.slice none 0 0) (.slice none 0 0))] Tryz.runUnderlying25 el34 rfl rfl (by intro e he; simp only [List.mem_cons, List.not_mem_nil, or_false] at he; subst he; exact (len_app (RP_len hp) rfl)) rfl (by decide) fun b3 k3 ho3 hk3 => ?_)
 refine JL_pure (v := .agg ⟨pkT (9) (0) (zS) (.slice (some ⟨b2, 0, none⟩) 1 1) (.slice (some ⟨b3, 0, none⟩) 1 1)⟩) rfl (Pu.build (pv := [(0, .int .i64 (9)), (3, .slice (some ⟨b2, 0, none⟩) 1 1), (4, .slice (some ⟨b3, 0, none⟩) 1 1)]) (l := pkT (9) (0) (zS) (.slice (some ⟨b2, 0, none⟩) 1 1) (.slice (some ⟨b3, 0, none⟩) 1 1)) rfl (bld27_0_3_4 _ _ _ _ _ _ _)) ?_
 refine JL_run rfl (Runs_alloc (l := pkT (0) (0) (zS) (.slice none 0 0) (.slice none 0 0)) Tryz.zeroValue27 rfl fun b4 => ?_)
 refine JL_run rfl (Runs_storeB 0 (vs := pkT (9) (0) (zS) (.slice (some ⟨b2, 0, none⟩) 1 1) (.slice (some ⟨b3, 0, none⟩) 1 1)) (l := pkT (9) (0) (zS) (.slice (some ⟨b2, 0, none⟩) 1 1) (.slice (some ⟨b3, 0, none⟩) 1 1)) ty27 rfl rfl rfl rfl rfl (pkT_ok rfl rfl) (pkT_s ..) ?_)
 refine JL_nil ?_
 refine J_seq ?_
 refine J_seq ?_
 refine J_region ?_
 refine JL_run rfl (Pu_load ty27 rfl (At.bx 0 rfl) (pkT_a ..) ?_)
 refine JL_call rfl Tryz.call46 rfl (fun hin => rightR_ct (ofP p) _ _ (RT_of (Own.rd1 ho2 (hin 2 _ rfl) RT_nu) (Own.rdC1 ho3 (hin 1 _ rfl) (RP.mono (Hle.hu _ _) hp) RT_nu)) (by rw [size_of]; omega)) rfl ?_
 rintro _ _ ⟨rfl, rfl⟩
 refine JL_pure (v := .int .i64 (checkR 60 8 (ofP p))) rfl (Pu.assign rfl) ?_
 refine JL_nil ?_
 refine J_seq ?_
 refine J_region ?_
 refine JL_pure (v := .int .i64 (checkR 60 8 (ofP p))) rfl (Pu.move rfl) ?_
 refine JL_pure (v := .bool (!decide (checkR 60 8 (ofP p) = 0))) rfl (Pu.neq rfl rfl) ?_
 refine JL_nil ?_
 refine J_cond (b := !decide (checkR 60 8 (ofP p) = 0)) rfl (fun h5 => ?_) (fun h5 => ?_)
 ·skip
  replace h5 := nt h5
  replace h5 := df h5
  refine J_seq ?_
  refine J_region ?_
  refine JL_pure (v := .int .i64 (checkR 60 8 (ofP p))) rfl (Pu.move rfl) ?_
  refine JL_pure (v := .int .i64 (0)) rfl (Pu.assign rfl) ?_
  refine JL_pure (v := .int .i64 (checkR 60 8 (ofP p))) rfl (Pu.assign rfl) ?_
  refine JL_nil ?_
  refine J_ret ?_
  refine ⟨.tuple ⟨[.int .i64 (0), .int .i64 (checkR 60 8 (ofP p))]⟩, [], Ret.two rfl (RV.tmp rfl) (RV.tmp rfl), Sub.nil, ?_⟩
  exact ⟨by rw [bindsE, if_neg (by assumption)], rfl⟩
 ·skip
  replace h5 := nf h5
  replace h5 := dt h5
  refine J_skip ?_
  refine J_seq ?_
  refine J_region ?_
  refine JL_run rfl (Pu_load ty30 rfl (At.bx 3 rfl) (sub_a (RP_len hp)) ?_)
  refine JL_call rfl Tryz.call49 rfl (fun hin => bindsR_ct _ _ _ (RP.mono (Hle.hu _ _) hp) (binds_of hz)) rfl ?_
  rintro _ _ ⟨rfl, rfl⟩
  refine JL_pure (v := .int .i64 ((binds (p) : Int))) rfl (Pu.assign rfl) ?_
  refine JL_pure (v := .int .i64 (0)) rfl (Pu.assign rfl) ?_
  refine JL_nil ?_
  refine J_ret ?_
  refine ⟨.tuple ⟨[.int .i64 ((binds (p) : Int)), .int .i64 (0)]⟩, [], Ret.two rfl (RV.tmp rfl) (RV.tmp rfl), Sub.nil, ?_⟩
  exact ⟨by rw [bindsE, if_pos (by assumption)], rfl⟩
theorem bindsP_ct (p : Pt) (cs : List Value) (H : Heap) (hp : RP H cs p) (hz : sizeP p ≤ 300000) : CT Tryz.prog 18 ⟨[.agg ⟨cs⟩]⟩ [] H (fun v N => v = .tuple ⟨[.int .i64 (bindsE p).1, .int .i64 (bindsE p).2]⟩ ∧ N = []) := by
 refine CT_enter Tryz.func18 rfl rfl ?_
 refine J_seq ?_
 refine J_region ?_
 refine JL_run rfl (Runs_box (l := cs) rfl rfl fun b1 => ?_)
 refine JL_pure (v := .int .i64 (0)) rfl (Pu.assign rfl) ?_
 refine JL_pure (v := .int .i64 (0)) rfl (Pu.assign rfl) ?_
 refine JL_nil ?_
 refine J_seq ?_
 refine J_region ?_
 refine JL_pure (v := .agg ⟨pkT (2) (0) (zS) (.slice none 0 0) (.slice none 0 0)⟩) rfl (Pu.build (pv := [(0, .int .i64 (2))]) (l := pkT (2) (0) (zS) (.slice none 0 0) (.slice none 0 0)) rfl (bld27_0 _)) ?_
 refine JL_run rfl (Runs_alloc (l := pkT (0) (0) (zS) (.slice none 0 0) (.slice none 0 0)) Tryz.zeroValue27 rfl fun b2 => ?_)
 refine JL_run rfl (Runs_storeB 0 (vs := pkT (2) (0) (zS) (.slice none 0 0) (.slice none 0 0)) (l := pkT (2) (0) (zS) (.slice none 0 0) (.slice none 0 0)) ty27 rfl rfl rfl rfl rfl (pkT_ok rfl rfl) (pkT_s ..) ?_)
 refine JL_nil ?_
 refine J_seq ?_
 refine J_seq ?_
 refine J_region ?_
 refine JL_run rfl (Pu_load ty27 rfl (At.bx 0 rfl) (pkT_a ..) ?_)
 refine JL_run rfl (Runs_buildSlice (vs := [.agg ⟨pkT (2) (0) (zS) (.slice none 0 0) (.slice none 0 0)⟩]) [pkT (2) (0) (zS) (.slice none 0 0) (.slice none 0 0)] Tryz.runUnderlying24 el27 rfl rfl (by intro e he; simp only [List.mem_cons, List.not_mem_nil, or_false] at he; subst he; exact rfl) rfl (by decide) fun b3 k3 ho3 hk3 => ?_)
 refine JL_run rfl (Pu_load ty30 rfl (At.bx 2 rfl) (sub_a (RP_len hp)) ?_)
 refine JL_run rfl (Pu_load ty27 rfl (At.bx 1 rfl) (pkT_a ..) ?_)
 refine JL_pure (v := .agg ⟨(cs) ++ (pkT (2) (0) (zS) (.slice none 0 0) (.slice none 0 0))⟩) rfl (Pu.build (pv := [(0, .agg ⟨cs⟩), (1, .agg ⟨pkT (2) (0) (zS) (.slice none 0 0) (.slice none 0 0)⟩)]) (l := (cs) ++ (pkT (2) (0) (zS) (.slice none 0 0) (.slice none 0 0))) rfl (bld34_0_1 (RP_len hp) rfl)) ?_
 refine JL_run rfl (Runs_buildSlice (vs := [.agg ⟨(cs) ++ (pkT (2) (0) (zS) (.slice none 0 0) (.slice none 0 0))⟩]) [(cs) ++ (pkT (2) (0) (zS) (.slice none 0 0) (.slice none 0 0))] Tryz.runUnderlying25 el34 rfl rfl (by intro e he; simp only [List.mem_cons, List.not_mem_nil, or_false] at he; subst he; exact (len_app (RP_len hp) rfl)) rfl (by decide) fun b4 k4 ho4 hk4 => ?_)
 refine JL_pure (v := .agg ⟨pkT (9) (0) (zS) (.slice (some ⟨b3, 0, none⟩) 1 1) (.slice (some ⟨b4, 0, none⟩) 1 1)⟩) rfl (Pu.build (pv := [(0, .int .i64 (9)), (3, .slice (some ⟨b3, 0, none⟩) 1 1), (4, .slice (some ⟨b4, 0, none⟩) 1 1)]) (l := pkT (9) (0) (zS) (.slice (some ⟨b3, 0, none⟩) 1 1) (.slice (some ⟨b4, 0, none⟩) 1 1)) rfl (bld27_0_3_4 _ _ _ _ _ _ _)) ?_
 refine JL_run rfl (Runs_buildSlice (vs := [.agg ⟨pkT (9) (0) (zS) (.slice (some ⟨b3, 0, none⟩) 1 1) (.slice (some ⟨b4, 0, none⟩) 1 1)⟩]) [pkT (9) (0) (zS) (.slice (some ⟨b3, 0, none⟩) 1 1) (.slice (some ⟨b4, 0, none⟩) 1 1)] Tryz.runUnderlying24 el27 rfl rfl (by intro e he; simp only [List.mem_cons, List.not_mem_nil, or_false] at he; subst he; exact rfl) rfl (by decide) fun b5 k5 ho5 hk5 => ?_)
 refine JL_call rfl Tryz.call50 rfl (fun hin => int_r (right_ct [ofP p] _ _ (Own.rd1 ho5 (hin 0 _ rfl) (RT_of (Own.rd1 ho3 (hin 2 _ rfl) RT_nu) (Own.rdC1 ho4 (hin 1 _ rfl) (RP.mono (Hle.hu _ _) hp) RT_nu)))) (rightT_one _)) rfl ?_
 rintro _ _ ⟨rfl, rfl⟩
 refine JL_pure (v := .int .i64 (checkR 60 8 (ofP p))) rfl (Pu.assign rfl) ?_
 refine JL_nil ?_
 refine J_seq ?_
 refine J_region ?_
 refine JL_pure (v := .int .i64 (checkR 60 8 (ofP p))) rfl (Pu.move rfl) ?_
 refine JL_pure (v := .bool (!decide (checkR 60 8 (ofP p) = 0))) rfl (Pu.neq rfl rfl) ?_
 refine JL_nil ?_
 refine J_cond (b := !decide (checkR 60 8 (ofP p) = 0)) rfl (fun h6 => ?_) (fun h6 => ?_)
 ·skip
  replace h6 := nt h6
  replace h6 := df h6
  refine J_seq ?_
  refine J_region ?_
  refine JL_pure (v := .int .i64 (checkR 60 8 (ofP p))) rfl (Pu.move rfl) ?_
  refine JL_pure (v := .int .i64 (0)) rfl (Pu.assign rfl) ?_
  refine JL_pure (v := .int .i64 (checkR 60 8 (ofP p))) rfl (Pu.assign rfl) ?_
  refine JL_nil ?_
  refine J_ret ?_
  refine ⟨.tuple ⟨[.int .i64 (0), .int .i64 (checkR 60 8 (ofP p))]⟩, [], Ret.two rfl (RV.tmp rfl) (RV.tmp rfl), Sub.nil, ?_⟩
  exact ⟨by rw [bindsE, if_neg (by assumption)], rfl⟩
 ·skip
  replace h6 := nf h6
  replace h6 := dt h6
  refine J_skip ?_
  refine J_seq ?_
  refine J_region ?_
  refine JL_run rfl (Pu_load ty30 rfl (At.bx 4 rfl) (sub_a (RP_len hp)) ?_)
  refine JL_call rfl Tryz.call53 rfl (fun hin => binds_ct _ _ _ (RP.mono (Hle.hu _ _) hp) (binds_of hz)) rfl ?_
  rintro _ _ ⟨rfl, rfl⟩
  refine JL_pure (v := .int .i64 ((binds (p) : Int))) rfl (Pu.assign rfl) ?_
  refine JL_pure (v := .int .i64 (0)) rfl (Pu.assign rfl) ?_
  refine JL_nil ?_
  refine J_ret ?_
  refine ⟨.tuple ⟨[.int .i64 ((binds (p) : Int)), .int .i64 (0)]⟩, [], Ret.two rfl (RV.tmp rfl) (RV.tmp rfl), Sub.nil, ?_⟩
  exact ⟨by rw [bindsE, if_pos (by assumption)], rfl⟩
theorem ca_ct (a b : List Value) (hla : a.length = 35) (hka : okc a) (hlb : b.length = 36) (hkb : okc b) (H : Heap) : CT Tryz.prog 7 ⟨[.agg ⟨a⟩, .agg ⟨b⟩]⟩ [] H (fun v N => v = .agg ⟨a ++ b⟩ ∧ N = []) := by
 refine CT_enter Tryz.func7 rfl rfl ?_
 refine J_seq ?_
 refine J_region ?_
 refine JL_run rfl (Runs_box (l := a) rfl rfl fun b1 => ?_)
 refine JL_run rfl (Runs_box (l := b) rfl rfl fun b2 => ?_)
 refine JL_run rfl (Runs_alloc (l := (pkP (0) (0) (zS) (.slice none 0 0)) ++ (pkT (0) (0) (zS) (.slice none 0 0) (.slice none 0 0))) Tryz.zeroValue34 rfl fun b3 => ?_)
 refine JL_nil ?_
 refine J_seq ?_
 refine J_region ?_
 refine JL_run rfl (Pu_load ty30 rfl (At.bx 2 rfl) (sub_a hla) ?_)
 refine JL_run rfl (Pu_load ty27 rfl (At.bx 1 rfl) (sub_a hlb) ?_)
 refine JL_pure (v := .agg ⟨(a) ++ (b)⟩) rfl (Pu.build (pv := [(0, .agg ⟨a⟩), (1, .agg ⟨b⟩)]) (l := (a) ++ (b)) rfl (bld34_0_1 hla hlb)) ?_
 refine JL_run rfl (Runs_storeB 0 (vs := (a) ++ (b)) (l := (a) ++ (b)) ty34 rfl rfl rfl rfl (len_app hla hlb) (okc_app hka hkb) (spl_a (n := 71) rfl (len_app hla hlb)) ?_)
 refine JL_nil ?_
 refine J_ret ?_
 refine ⟨.agg ⟨(a) ++ (b)⟩, [], Ret.one rfl (RV.cell ty34 rfl (At.bx 0 rfl) (sub_a (len_app hla hlb))), Sub.nil, ?_⟩
 exact ⟨rfl, rfl⟩
theorem ma_ct (a : List Value) (hla : a.length = 36) (hka : okc a) (s : Option Addr) (n c : Nat) (H : Heap) : CT Tryz.prog 5 ⟨[.agg ⟨a⟩, .slice s n c]⟩ [] H (fun v N => ∃ cs k, v = .agg ⟨cs⟩ ∧ N = [k] ∧ cs.length = 36 ∧ okc cs ∧ ∀ t l h, Has k h → RT h a t → rdS RC 71 h (.slice s n c) l → RT h cs (.mk 9 0 zS [t] l)) := by
 refine CT_enter Tryz.func5 rfl rfl ?_
 refine J_seq ?_
 refine J_region ?_
 refine JL_run rfl (Runs_box (l := a) rfl rfl fun b1 => ?_)
 refine JL_run rfl (Runs_alloc (l := pkT (0) (0) (zS) (.slice none 0 0) (.slice none 0 0)) Tryz.zeroValue27 rfl fun b2 => ?_)
 refine JL_nil ?_
 refine J_seq ?_
 refine J_region ?_
 refine JL_run rfl (Pu_load ty27 rfl (At.bx 1 rfl) (sub_a hla) ?_)
 refine JL_run rfl (Runs_buildSlice (vs := [.agg ⟨a⟩]) [a] Tryz.runUnderlying24 el27 rfl rfl (by intro e he; simp only [List.mem_cons, List.not_mem_nil, or_false] at he; subst he; exact hla) rfl (by decide) fun b3 k3 ho3 hk3 => ?_)
 refine JL_pure (v := .slice s n c) rfl (Pu.move rfl) ?_
 refine JL_pure (v := .agg ⟨pkT (9) (0) (zS) (.slice (some ⟨b3, 0, none⟩) 1 1) (.slice s n c)⟩) rfl (Pu.build (pv := [(0, .int .i64 (9)), (3, .slice (some ⟨b3, 0, none⟩) 1 1), (4, .slice s n c)]) (l := pkT (9) (0) (zS) (.slice (some ⟨b3, 0, none⟩) 1 1) (.slice s n c)) rfl (bld27_0_3_4 _ _ _ _ _ _ _)) ?_
 refine JL_run rfl (Runs_storeB 1 (vs := pkT (9) (0) (zS) (.slice (some ⟨b3, 0, none⟩) 1 1) (.slice s n c)) (l := pkT (9) (0) (zS) (.slice (some ⟨b3, 0, none⟩) 1 1) (.slice s n c)) ty27 rfl rfl rfl rfl rfl (pkT_ok rfl rfl) (pkT_s ..) ?_)
 refine JL_nil ?_
 refine J_ret ?_
 refine ⟨.agg ⟨pkT (9) (0) (zS) (.slice (some ⟨b3, 0, none⟩) 1 1) (.slice s n c)⟩, [k3], Ret.one rfl (RV.cell ty27 rfl (At.bx 1 rfl) (pkT_a ..)), (Sk Sub.nil), ?_⟩
 exact ⟨_, _, rfl, rfl, rfl, pkT_ok rfl rfl, fun t l h hh ha hl => RT_of (Own.rd1 ho3 hh ha) hl⟩
end Go.Proofs.YtdeinimmmjichaaGreat.Hs
