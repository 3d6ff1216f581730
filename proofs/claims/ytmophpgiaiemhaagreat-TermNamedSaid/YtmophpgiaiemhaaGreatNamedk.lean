import Derived.Test.YtmophpgiaiemhaaGreatNamedj
/-! Walks, printed by a program of this session's own (gen.py). -/
namespace Go.Proofs.YtmophpgiaiemhaaGreat.Hs
open Go Go.Proofs
set_option maxRecDepth 100000
set_option linter.unusedVariables false
set_option linter.unusedSimpArgs false
attribute [local irreducible] JL J CT wlo
set_option maxHeartbeats 1000000 in
theorem named_va : ∀ (cs : List Value) (v : Value) (H : Heap), RT H cs (Tm.mk 1 1 zS [] []) → rdS RS 1 H v [ltr 2, ltr 1, ltr 0] → CT Tryz.prog 65 ⟨[.agg ⟨cs⟩, v]⟩ [] H (fun v N => ∃ cs k, v = .agg ⟨cs⟩ ∧ N = [k] ∧ NC [] cs k) := by
 intro cs v H ht hl
 obtain ⟨ks, cv, rfl, _, _, hks, hcv⟩ := RT_mk.1 ht
 refine Zo Tryz.func65 rfl rfl <| Zd <| Zb <| JLr (Zt (l := pkT 1 1 zS ks cv) rfl rfl fun b1 => JLr (Zj (l := (pkT 0 0 zS (.slice none 0 0) (.slice none 0 0)) ++ ([.slice none 0 0] : List Value)) Tryz.zeroValue32 rfl fun b2 => Za <| Zd <| Zb <| JLq (.pointer (some ⟨b1, 0, none⟩)) (ZY rfl rfl) <| JLr (Zf ty3 rfl (At.bx 1 rfl) (Yg ..) <| JLq (.pointer (some ⟨b1, 1, none⟩)) (Z4 rfl rfl) <| JLr (Zf ty3 rfl (At.bx 1 rfl) (Yn ..) <| JLq (.pointer (some ⟨b1, 2, none⟩)) (fa27_2 rfl rfl) ?_))))
 refine JLr (Zh Xb rfl (At.bx 1 rfl) (pkT_2 ..) <| JLq (.agg ⟨(pkT 1 1 zS (.slice none 0 0) (.slice none 0 0)) ++ ([.slice none 0 0] : List Value)⟩) (Pu.build (pv := [(0, .int .i64 1), (1, .int .i64 1), (2, .agg ⟨sC zS⟩)]) (l := (pkT 1 1 zS (.slice none 0 0) (.slice none 0 0)) ++ ([.slice none 0 0] : List Value)) rfl (bld32_0_1_2 _ _ _)) <| JLr (Zj (l := (pkT 0 0 zS (.slice none 0 0) (.slice none 0 0)) ++ ([.slice none 0 0] : List Value)) Tryz.zeroValue32 rfl fun b3 => JLr (Ze 0 (vs := (pkT 1 1 zS (.slice none 0 0) (.slice none 0 0)) ++ ([.slice none 0 0] : List Value)) (l := (pkT 1 1 zS (.slice none 0 0) (.slice none 0 0)) ++ ([.slice none 0 0] : List Value)) Z6 rfl rfl rfl rfl rfl (Z3 (ZI rfl rfl) (Zm rfl Zv)) (ZL (n := 37) rfl rfl) <| Za <| Zd <| Zd <| Zb <| JLq (.pointer (some ⟨b1, 0, none⟩)) (ZY rfl rfl) <| JLr (Zf ty3 rfl (At.bx 2 rfl) (Yg ..) <| JLq (.bool true) (show Pu _ _ _ (.bool (decide ((1 : Int) = 1))) from Pu.eql rfl rfl) <| Za <| Zi (b := true) rfl (fun _ => ?_) (fun h => absurd h (by simp))))))
 obtain ⟨b5, o5, cap5, row5, T5, fr5, cs5, hv5, hb5, hs5, hE5⟩ := hl.get 1 (by first | assumption | omega | decide | simp)
 refine Ya mixed #[0, 0, 2, 7, 15, 31, 0, 64, 255, 511] 8 7 0 rfl (by kernel_rfl) (fun i r4 N4 => match i with | 0 => (r4 0) = v | 1 => (r4 1) = .pointer (some ⟨b1, 1, none⟩) | 2 => (r4 2) = .int .i64 1 | 3 => (r4 3) = .pointer (some ⟨b5, o5 + 1 * 1, none⟩) | 4 => (r4 4) = .string (ltr 1) | 5 => (r4 5) = .slice (some ⟨(ZC (r4 5)), 0, none⟩) 1 1 ∧ (N4 5) = [(ZC (r4 5), .cells ⟨List.flatten [[.string (ltr 1)]]⟩ 9 (0, 0))] ∧ Own 9 1 (.slice (some ⟨(ZC (r4 5)), 0, none⟩) 1 1) [[.string (ltr 1)]] (N4 5) | 6 => (r4 6) = .pointer (some ⟨b3, 1, none⟩) | 7 => (N4 7) = [(b3, .cells ⟨(pkT 1 0 zS (.slice none 0 0) (.slice none 0 0)) ++ ([.slice none 0 0] : List Value)⟩ 32 (0, 0))] | _ => True) ⟨?_, ?_, ?_, ?_, ?_, ?_, ?_, ?_, trivial⟩ ?_
 ·intro ρ r4 N4 B hB hBa hp hr hr0
  obtain ⟨ρ6, rfl⟩ := Zc (uc (show ρ 1 = v from hr0 1 (by kernel_rfl)) un)
  refine JLm v <| Za ?_
  exact ⟨v, [], rfl, (Sub.emp Sub.refl), rfl⟩
 ·intro ρ r4 N4 B hB hBa hp hr hr0
  obtain ⟨ρ7, rfl⟩ := Zc (uc (show ρ 2 = .pointer (some ⟨b1, 0, none⟩) from hr0 2 (by kernel_rfl)) un)
  refine JLq (.pointer (some ⟨b1, 1, none⟩)) (Z4 rfl rfl) <| Za ?_
  exact ⟨.pointer (some ⟨b1, 1, none⟩), [], rfl, (Sub.emp Sub.refl), rfl⟩
 ·intro ρ r4 N4 B hB hBa hp hr hr0
  obtain ⟨ρ8, rfl⟩ := Zc (uc (show ρ 25 = .pointer (some ⟨b1, 1, none⟩) from (hr 1 _ _ (by decide) rfl rfl rfl).trans (hp 1 (by decide) rfl)) un)
  refine JLr (Zf ty3 rfl (At.bx 10 (Zn ((hB 2 (by decide)).trans rfl))) (Yn ..) <| Za ?_)
  exact ⟨.int .i64 1, [], rfl, (Sub.emp Sub.refl), rfl⟩
 ·intro ρ r4 N4 B hB hBa hp hr hr0
  obtain ⟨ρ9, rfl⟩ := Zc (uc (show ρ 24 = v from (hr 0 _ _ (by decide) rfl rfl rfl).trans (hp 0 (by decide) rfl)) (uc (show ρ 26 = .int .i64 1 from (hr 2 _ _ (by decide) rfl rfl rfl).trans (hp 2 (by decide) rfl)) un))
  refine JLq (.pointer (some ⟨b5, o5 + 1 * 1, none⟩)) (Pu.idx 1 Tryz.runUnderlying111 ty9 hv5 rfl rfl (by first | assumption | omega | decide | simp)) <| Za ?_
  exact ⟨.pointer (some ⟨b5, o5 + 1 * 1, none⟩), [], rfl, (Sub.emp Sub.refl), rfl⟩
 ·intro ρ r4 N4 B hB hBa hp hr hr0
  obtain ⟨ρ10, rfl⟩ := Zc (uc (show ρ 27 = .pointer (some ⟨b5, o5 + 1 * 1, none⟩) from (hr 3 _ _ (by decide) rfl rfl rfl).trans (hp 3 (by decide) rfl)) un)
  refine JLr (Zf ty9 rfl (At.im hb5) (Yp ((show cs5 = [Value.string (ltr 1)] from hE5) ▸ hs5)) <| Za ?_)
  exact ⟨.string (ltr 1), [], rfl, (Sub.emp Sub.refl), rfl⟩
 ·intro ρ r4 N4 B hB hBa hp hr hr0
  obtain ⟨ρ11, rfl⟩ := Zc (uc (show ρ 28 = .string (ltr 1) from (hr 4 _ _ (by decide) rfl rfl rfl).trans (hp 4 (by decide) rfl)) un)
  refine JLr (Zr (vs := [.string (ltr 1)]) [[.string (ltr 1)]] Tryz.runUnderlying28 el9 rfl rfl (by intro e he; simp only [List.mem_cons, List.not_mem_nil, or_false] at he; subst he; exact rfl) rfl (by decide) fun b12 k12 ho12 hk12 => Za ?_)
  exact ⟨.slice (some ⟨b12, 0, none⟩) 1 1, k12, rfl, Sub.refl, ⟨rfl, hk12, ho12⟩⟩
 ·intro ρ r4 N4 B hB hBa hp hr hr0
  obtain ⟨ρ13, rfl⟩ := Zc (uc (show ρ 5 = .pointer (some ⟨b3, 0, none⟩) from hr0 5 (by kernel_rfl)) un)
  refine JLq (.pointer (some ⟨b3, 1, none⟩)) (fa32_1 rfl rfl) <| Za ?_
  exact ⟨.pointer (some ⟨b3, 1, none⟩), [], rfl, (Sub.emp Sub.refl), rfl⟩
 ·intro ρ r4 N4 B hB hBa hp hr hr0
  obtain ⟨ρ14, rfl⟩ := Zc (uc (show ρ 30 = .pointer (some ⟨b3, 1, none⟩) from (hr 6 _ _ (by decide) rfl rfl rfl).trans (hp 6 (by decide) rfl)) un)
  obtain rfl := hBa rfl
  refine JLr (Ze 8 (vs := [.int .i64 0]) (l := (pkT 1 0 zS (.slice none 0 0) (.slice none 0 0)) ++ ([.slice none 0 0] : List Value)) ty3 rfl rfl rfl rfl rfl (Zm rfl Zv) (spl_l (pkT_s1 ..)) <| Za ?_)
  exact ⟨undef, [(b3, .cells ⟨(pkT 1 0 zS (.slice none 0 0) (.slice none 0 0)) ++ ([.slice none 0 0] : List Value)⟩ 32 (0, 0))], rfl, (Sub_setB (k := 8) (a := 7) (p := 0)), rfl⟩
 intro ρ r4 N4 hp hr hr0
 have p5 : (r4 5) = .slice (some ⟨(ZC (r4 5)), 0, none⟩) 1 1 ∧ (N4 5) = [(ZC (r4 5), .cells ⟨List.flatten [[.string (ltr 1)]]⟩ 9 (0, 0))] ∧ Own 9 1 (.slice (some ⟨(ZC (r4 5)), 0, none⟩) 1 1) [[.string (ltr 1)]] (N4 5) := hp 5 (by decide)
 have p7 : (N4 7) = [(b3, .cells ⟨(pkT 1 0 zS (.slice none 0 0) (.slice none 0 0)) ++ ([.slice none 0 0] : List Value)⟩ 32 (0, 0))] := hp 7 (by decide)
 obtain ⟨ρ15, rfl⟩ := Zc (uc (show ρ 1 = v from hr0 1 (by kernel_rfl)) (uc (show ρ 2 = .pointer (some ⟨b1, 0, none⟩) from hr0 2 (by kernel_rfl)) (uc (show ρ 4 = .pointer (some ⟨b2, 0, none⟩) from hr0 4 (by kernel_rfl)) (uc (show ρ 5 = .pointer (some ⟨b3, 0, none⟩) from hr0 5 (by kernel_rfl)) (uc (show ρ 29 = .slice (some ⟨(ZC (r4 5)), 0, none⟩) 1 1 from (hr 5 _ _ (by decide) rfl rfl).trans p5.1) un)))))
 have p4_5 := p5; have p4_7 := p7
 clear hp hr hr0 p5 p7
 refine Zq (M' := [(N4 0), (N4 1), (N4 2), (N4 3), (N4 4), (N4 5), (N4 6), [], (N4 7), [(b2, .cells ⟨(pkT 0 0 zS (.slice none 0 0) (.slice none 0 0)) ++ ([.slice none 0 0] : List Value)⟩ 32 (0, 0))], [(b1, .cells ⟨pkT 1 1 zS ks cv⟩ 27 (0, 0))]]) Sub.refl <| Zq (M' := [(N4 5), [(b3, .cells ⟨(pkT 1 0 zS (.slice none 0 0) (.slice none 0 0)) ++ ([.slice none 0 0] : List Value)⟩ 32 (0, 0))], [(b2, .cells ⟨(pkT 0 0 zS (.slice none 0 0) (.slice none 0 0)) ++ ([.slice none 0 0] : List Value)⟩ 32 (0, 0))], [(b1, .cells ⟨pkT 1 1 zS ks cv⟩ 27 (0, 0))]]) (Sd (Sd (Sd (Sd (Sd (Sk (Sd (Sd (Se p4_7 (Sk (Sk Sub.nil))))))))))) ?_
 show JL _ _ _ [_, _] _ _ _
 refine JLq (.pointer (some ⟨b3, 34, none⟩)) (Yw rfl rfl) <| JLr (Ze 1 (vs := [.slice (some ⟨(ZC (r4 5)), 0, none⟩) 1 1]) (l := (pkT 1 0 zS (.slice (some ⟨(ZC (r4 5)), 0, none⟩) 1 1) (.slice none 0 0)) ++ ([.slice none 0 0] : List Value)) YG rfl rfl rfl rfl rfl (Zm rfl Zv) (spl_l (pkT_s34 ..)) <| Za <| Zd <| Zd <| Zb <| JLq (.pointer (some ⟨b1, 34, none⟩)) (Yq rfl rfl) <| JLr (Zf ty24 rfl (At.bx 3 rfl) (Yu ..) ?_))
 obtain ⟨a16, cap16, hv16⟩ := hks.sl
 have hle16 := hks.le
 refine JLq (.int .i64 0) (Pu.lenSl Tryz.runUnderlying24 hv16) <| JLm (.int .i64 0) <| Za <| Zs <| YF 1 <| Z8 <| Zd <| Zb <| JLq (.bool false) (show Pu _ _ _ (.bool (decide ((0 : Int) < 0))) from Pu.lss rfl rfl) <| Za <| Zd <| Zi (b := false) rfl (fun h => absurd h (by simp)) (fun _ => ZM _ rfl ?_)
 refine Zd <| Zd <| Zb <| JLq (.pointer (some ⟨b1, 35, none⟩)) (YP rfl rfl) <| JLr (Zf ty25 rfl (At.bx 3 rfl) (YI ..) ?_)
 obtain ⟨a17, cap17, hv17⟩ := hcv.sl
 have hle17 := hcv.le
 refine JLq (.int .i64 0) (Pu.lenSl Tryz.runUnderlying25 hv17) <| JLm (.int .i64 0) <| Za <| Zs <| YF 1 <| Z8 <| Zd <| Zb <| JLq (.bool false) (show Pu _ _ _ (.bool (decide ((0 : Int) < 0))) from Pu.lss rfl rfl) <| Za <| Zd <| Zi (b := false) rfl (fun h => absurd h (by simp)) (fun _ => ZM _ rfl ?_)
 refine Zd <| Zb <| JLr (Zh Z6 rfl (At.bx 1 rfl) (Zx rfl) <| JLr (Ze 2 (vs := (pkT 1 0 zS (.slice (some ⟨(ZC (r4 5)), 0, none⟩) 1 1) (.slice none 0 0)) ++ ([.slice none 0 0] : List Value)) (l := (pkT 1 0 zS (.slice (some ⟨(ZC (r4 5)), 0, none⟩) 1 1) (.slice none 0 0)) ++ ([.slice none 0 0] : List Value)) Z6 rfl rfl rfl rfl rfl (Z3 (ZI rfl rfl) (Zm rfl Zv)) (ZL (n := 37) rfl rfl) <| Za <| Zl <| ⟨.agg ⟨(pkT 1 0 zS (.slice (some ⟨(ZC (r4 5)), 0, none⟩) 1 1) (.slice none 0 0)) ++ ([.slice none 0 0] : List Value)⟩, [[]], Ret.one rfl (RV.cell Z6 rfl (At.bx 2 rfl) (Zx rfl)), (Sub.emp Sub.nil), ?_⟩))
 exact ⟨_, _, rfl, rfl, rfl, (Z3 (ZI rfl rfl) (Zm rfl Zv))⟩
set_option maxHeartbeats 1000000 in
theorem named1_ct : ∀ (cs : List Value) (v : Value) (H : Heap), RT H cs (Tm.mk 3 0 zS [Tm.mk 1 1 zS [] []] []) → rdS RS 1 H v [ltr 1, ltr 0] → CT Tryz.prog 65 ⟨[.agg ⟨cs⟩, v]⟩ [] H (fun v N => ∃ cs k, v = .agg ⟨cs⟩ ∧ N = [k] ∧ NC [[ltr 2]] cs k) := by
 intro cs v H ht hl
 obtain ⟨ks, cv, rfl, _, _, hks, hcv⟩ := RT_mk.1 ht
 refine Zo Tryz.func65 rfl rfl <| Zd <| Zb <| JLr (Zt (l := pkT 3 0 zS ks cv) rfl rfl fun b1 => JLr (Zj (l := (pkT 0 0 zS (.slice none 0 0) (.slice none 0 0)) ++ ([.slice none 0 0] : List Value)) Tryz.zeroValue32 rfl fun b2 => Za <| Zd <| Zb <| JLq (.pointer (some ⟨b1, 0, none⟩)) (ZY rfl rfl) <| JLr (Zf ty3 rfl (At.bx 1 rfl) (Yg ..) <| JLq (.pointer (some ⟨b1, 1, none⟩)) (Z4 rfl rfl) <| JLr (Zf ty3 rfl (At.bx 1 rfl) (Yn ..) <| JLq (.pointer (some ⟨b1, 2, none⟩)) (fa27_2 rfl rfl) ?_))))
 refine JLr (Zh Xb rfl (At.bx 1 rfl) (pkT_2 ..) <| JLq (.agg ⟨(pkT 3 0 zS (.slice none 0 0) (.slice none 0 0)) ++ ([.slice none 0 0] : List Value)⟩) (Pu.build (pv := [(0, .int .i64 3), (1, .int .i64 0), (2, .agg ⟨sC zS⟩)]) (l := (pkT 3 0 zS (.slice none 0 0) (.slice none 0 0)) ++ ([.slice none 0 0] : List Value)) rfl (bld32_0_1_2 _ _ _)) <| JLr (Zj (l := (pkT 0 0 zS (.slice none 0 0) (.slice none 0 0)) ++ ([.slice none 0 0] : List Value)) Tryz.zeroValue32 rfl fun b3 => JLr (Ze 0 (vs := (pkT 3 0 zS (.slice none 0 0) (.slice none 0 0)) ++ ([.slice none 0 0] : List Value)) (l := (pkT 3 0 zS (.slice none 0 0) (.slice none 0 0)) ++ ([.slice none 0 0] : List Value)) Z6 rfl rfl rfl rfl rfl (Z3 (ZI rfl rfl) (Zm rfl Zv)) (ZL (n := 37) rfl rfl) <| Za <| Zd <| Zd <| Zb <| JLq (.pointer (some ⟨b1, 0, none⟩)) (ZY rfl rfl) <| JLr (Zf ty3 rfl (At.bx 2 rfl) (Yg ..) <| JLq (.bool false) (show Pu _ _ _ (.bool (decide ((3 : Int) = 1))) from Pu.eql rfl rfl) <| Za <| Zi (b := false) rfl (fun h => absurd h (by simp)) (fun _ => ?_)))))
 refine Zp <| Zd <| Zd <| Zb <| JLq (.pointer (some ⟨b1, 34, none⟩)) (Yq rfl rfl) <| JLr (Zf ty24 rfl (At.bx 2 rfl) (Yu ..) ?_)
 obtain ⟨a4, cap4, hv4⟩ := hks.sl
 have hle4 := hks.le
 refine JLq (.int .i64 1) (Pu.lenSl Tryz.runUnderlying24 hv4) <| JLm (.int .i64 0) <| Za <| Zs <| YF 2 <| Z8 <| Zd <| Zb <| JLq (.bool true) (show Pu _ _ _ (.bool (decide ((0 : Int) < 1))) from Pu.lss rfl rfl) <| Za <| Zd <| Zi (b := true) rfl (fun _ => ?_) (fun h => absurd h (by simp))
 refine Zp <| Zd <| Zs <| Zd <| Zb <| JLm (.int .i64 0) ?_
 obtain ⟨b5, o5, cap5, row5, T5, fr5, cs5, hv5, hb5, hs5, hE5⟩ := hks.get 0 (by first | assumption | omega | decide | simp)
 refine JLq (.pointer (some ⟨b5, o5 + 0 * 36, none⟩)) (Pu.idx 0 Tryz.runUnderlying24 Zu hv5 rfl rfl (by first | assumption | omega | decide | simp)) <| JLr (Zh Zu rfl (At.im hb5) hs5 <| JLr (Zj (l := pkT 0 0 zS (.slice none 0 0) (.slice none 0 0)) Tryz.zeroValue27 rfl fun b6 => JLa (.int .i64 0) <| JLr (Ze 0 (vs := cs5) (l := cs5) Zu rfl rfl rfl rfl (ZD hE5) (RT_ok hE5) (ZL (n := 36) rfl (ZD hE5)) <| Za <| Zd <| Zb <| JLm v <| JLq (.pointer (some ⟨b1, 0, none⟩)) (ZY rfl rfl) <| JLr (Zf ty3 rfl (At.bx 3 rfl) (Yg ..) <| JLm (.int .i64 0) <| Zg rfl Tryz.call111 rfl (fun hin => int_r (r := 1) (more_ct _ _ _) (by decide)) rfl ?_))))
 rintro _ _ ⟨rfl, rfl⟩
 refine Zg rfl Tryz.call110 rfl (fun hin => chosen2_ct _ _ (RSs.mono (Hle.hu _ _) hl)) rfl ?_
 rintro _ _ ⟨ua7, ub7, ka7, kb7, rfl, rfl, hoa7, hob7⟩
 refine JLm (.tuple ⟨[ua7, ub7]⟩) <| JLq ua7 (Pu.extract rfl rfl) <| JLq ub7 (Pu.extract rfl rfl) <| JLa ua7 <| JLa ub7 <| Za <| Zd <| Zb <| JLq (.pointer (some ⟨b3, 34, none⟩)) (Yw rfl rfl) <| JLr (Zf YG rfl (At.bx 3 rfl) (get_l (Yu ..)) <| JLm ub7 <| Zq (M' := [[], ka7, kb7, [(b6, .cells ⟨cs5⟩ 27 (0, 0))], [(b3, .cells ⟨(pkT 3 0 zS (.slice none 0 0) (.slice none 0 0)) ++ ([.slice none 0 0] : List Value)⟩ 32 (0, 0))], [(b2, .cells ⟨(pkT 0 0 zS (.slice none 0 0) (.slice none 0 0)) ++ ([.slice none 0 0] : List Value)⟩ 32 (0, 0))], [(b1, .cells ⟨pkT 3 0 zS ks cv⟩ 27 (0, 0))]]) (Sub.emp Sub.refl) <| JLr (ZH (i := 0) (n := ([ltr 2]).length) (es' := ZP ([ltr 2])) Tryz.runUnderlying28 Tryz.runUnderlying28 (Or.inl rfl) el9 rfl rfl rfl (show Own _ _ _ (ZP []) _ from Own.nil) (own_src (i := 2) hob7 rfl) (ZW _) (strs_len1 _) (strs_ok _) (by decide) (by simp [ZP]) fun v8 k8 ho8 => ?_))
 rw [← strs_app] at ho8
 refine JLq (.pointer (some ⟨b3, 34, none⟩)) (Yw rfl rfl) <| JLr (Ze 4 (vs := [v8]) (l := (pkT 3 0 zS v8 (.slice none 0 0)) ++ ([.slice none 0 0] : List Value)) YG rfl rfl rfl (ZO ho8.one) rfl (Zm ho8.one Zv) (spl_l (pkT_s34 ..)) <| Za <| Ya mixed #[0, 1, 0, 0, 12, 28, 63, 127, 255] 6 6 7 rfl (by kernel_rfl) (fun i r9 N9 => match i with | 0 => (r9 0) = .pointer (some ⟨b3, 35, none⟩) | 1 => (r9 1) = .slice none 0 0 | 2 => (r9 2) = .agg ⟨cs5⟩ | 3 => (r9 3) = ua7 | 4 => (r9 4) = .agg ⟨(cel (r9 4))⟩ ∧ NC ([]) (cel (r9 4)) (N9 4) | 5 => (r9 5) = .slice (some ⟨(ZC (r9 5)), 0, none⟩) 1 1 ∧ (N9 5) = [(ZC (r9 5), .cells ⟨List.flatten [(cel (r9 4))]⟩ 32 (0, 0))] ∧ Own 32 37 (.slice (some ⟨(ZC (r9 5)), 0, none⟩) 1 1) [(cel (r9 4))] (N9 5) | _ => True) ⟨?_, ?_, ?_, ?_, ?_, ?_, trivial⟩ ?_)
 ·intro ρ r9 N9 B hB hBa hp hr hr0
  obtain ⟨ρ10, rfl⟩ := Zc (uc (show ρ 5 = .pointer (some ⟨b3, 0, none⟩) from hr0 5 (by kernel_rfl)) un)
  refine JLq (.pointer (some ⟨b3, 35, none⟩)) (Xk rfl rfl) <| Za ?_
  exact ⟨.pointer (some ⟨b3, 35, none⟩), [], rfl, (Sub.emp Sub.refl), rfl⟩
 ·intro ρ r9 N9 B hB hBa hp hr hr0
  obtain ⟨ρ11, rfl⟩ := Zc (uc (show ρ 54 = .pointer (some ⟨b3, 35, none⟩) from (hr 0 _ _ (by decide) rfl rfl rfl).trans (hp 0 (by decide) rfl)) un)
  refine JLr (Zf ty29 rfl (At.bx 10 (Zn ((hB 4 (by decide)).trans rfl))) (get_l (YI ..)) <| Za ?_)
  exact ⟨.slice none 0 0, [], rfl, (Sub.emp Sub.refl), rfl⟩
 ·intro ρ r9 N9 B hB hBa hp hr hr0
  obtain ⟨ρ12, rfl⟩ := Zc (uc (show ρ 7 = .pointer (some ⟨b6, 0, none⟩) from hr0 7 (by kernel_rfl)) un)
  refine JLr (Zh Zu rfl (At.bx 9 (Zn ((hB 3 (by decide)).trans rfl))) (Zx (ZD hE5)) <| Za ?_)
  exact ⟨.agg ⟨cs5⟩, [], rfl, (Sub.emp Sub.refl), rfl⟩
 ·intro ρ r9 N9 B hB hBa hp hr hr0
  obtain ⟨ρ13, rfl⟩ := Zc (uc (show ρ 8 = ua7 from hr0 8 (by kernel_rfl)) un)
  refine JLm ua7 <| Za ?_
  exact ⟨ua7, [], rfl, (Sub.emp Sub.refl), rfl⟩
 ·intro ρ r9 N9 B hB hBa hp hr hr0
  obtain ⟨ρ14, rfl⟩ := Zc (uc (show ρ 56 = .agg ⟨cs5⟩ from (hr 2 _ _ (by decide) rfl rfl rfl).trans (hp 2 (by decide) rfl)) (uc (show ρ 57 = ua7 from (hr 3 _ _ (by decide) rfl rfl rfl).trans (hp 3 (by decide) rfl)) un))
  refine Zg rfl Tryz.call65 rfl (fun hin => named_va _ _ _ (RT.mono (Hle.hu _ _) hE5) (Yj hoa7 (by simp) (hin 7 _ (Zn ((hB 1 (by decide)).trans rfl))))) rfl ?_
  rintro _ _ ⟨cs15, k15, rfl, rfl, hO15⟩
  refine Za ?_
  exact ⟨.agg ⟨cs15⟩, k15, rfl, Sub.refl, ⟨rfl, hO15⟩⟩
 ·intro ρ r9 N9 B hB hBa hp hr hr0
  have p4 : (r9 4) = .agg ⟨(cel (r9 4))⟩ ∧ NC ([]) (cel (r9 4)) (N9 4) := hp 4 (by decide) rfl
  obtain ⟨ρ16, rfl⟩ := Zc (uc (show ρ 58 = .agg ⟨(cel (r9 4))⟩ from (hr 4 _ _ (by decide) rfl rfl rfl).trans p4.1) un)
  refine JLr (Zr (vs := [.agg ⟨(cel (r9 4))⟩]) [(cel (r9 4))] Tryz.runUnderlying29 el32 rfl rfl (by intro e he; simp only [List.mem_cons, List.not_mem_nil, or_false] at he; subst he; exact p4.2.len) rfl (by decide) fun b17 k17 ho17 hk17 => Za ?_)
  exact ⟨.slice (some ⟨b17, 0, none⟩) 1 1, k17, rfl, Sub.refl, ⟨rfl, hk17, ho17⟩⟩
 intro ρ r9 N9 hp hr hr0
 have p4 : (r9 4) = .agg ⟨(cel (r9 4))⟩ ∧ NC ([]) (cel (r9 4)) (N9 4) := hp 4 (by decide)
 have p5 : (r9 5) = .slice (some ⟨(ZC (r9 5)), 0, none⟩) 1 1 ∧ (N9 5) = [(ZC (r9 5), .cells ⟨List.flatten [(cel (r9 4))]⟩ 32 (0, 0))] ∧ Own 32 37 (.slice (some ⟨(ZC (r9 5)), 0, none⟩) 1 1) [(cel (r9 4))] (N9 5) := hp 5 (by decide)
 obtain ⟨ρ18, rfl⟩ := Zc (uc (show ρ 1 = v from hr0 1 (by kernel_rfl)) (uc (show ρ 2 = .pointer (some ⟨b1, 0, none⟩) from hr0 2 (by kernel_rfl)) (uc (show ρ 4 = .pointer (some ⟨b2, 0, none⟩) from hr0 4 (by kernel_rfl)) (uc (show ρ 5 = .pointer (some ⟨b3, 0, none⟩) from hr0 5 (by kernel_rfl)) (uc (show ρ 33 = ks from hr0 33 (by kernel_rfl)) (uc (show ρ 34 = .int .i64 1 from hr0 34 (by kernel_rfl)) (uc (show ρ 35 = .int .i64 0 from hr0 35 (by kernel_rfl)) (uc (show ρ 55 = .slice none 0 0 from (hr 1 _ _ (by decide) rfl rfl).trans (hp 1 (by decide))) (uc (show ρ 59 = .slice (some ⟨(ZC (r9 5)), 0, none⟩) 1 1 from (hr 5 _ _ (by decide) rfl rfl).trans p5.1) un)))))))))
 have p9_4 := p4; have p9_5 := p5
 clear hp hr hr0 p4 p5
 refine Zq (M' := [(N9 0), (N9 1), (N9 2), (N9 3), (N9 4), (N9 5), k8, ka7, kb7, [(b6, .cells ⟨cs5⟩ 27 (0, 0))], [(b3, .cells ⟨(pkT 3 0 zS v8 (.slice none 0 0)) ++ ([.slice none 0 0] : List Value)⟩ 32 (0, 0))], [(b2, .cells ⟨(pkT 0 0 zS (.slice none 0 0) (.slice none 0 0)) ++ ([.slice none 0 0] : List Value)⟩ 32 (0, 0))], [(b1, .cells ⟨pkT 3 0 zS ks cv⟩ 27 (0, 0))]]) Sub.refl <| Zq (M' := [(N9 4), (N9 5), k8, ka7, kb7, [(b6, .cells ⟨cs5⟩ 27 (0, 0))], [(b3, .cells ⟨(pkT 3 0 zS v8 (.slice none 0 0)) ++ ([.slice none 0 0] : List Value)⟩ 32 (0, 0))], [(b2, .cells ⟨(pkT 0 0 zS (.slice none 0 0) (.slice none 0 0)) ++ ([.slice none 0 0] : List Value)⟩ 32 (0, 0))], [(b1, .cells ⟨pkT 3 0 zS ks cv⟩ 27 (0, 0))]]) (Sd (Sd (Sd (Sd (Sk (Sk (Sk (Sk (Sk (Sk (Sk (Sk (Sk Sub.nil))))))))))))) ?_
 show JL _ _ _ [_, _, _] _ _ _
 refine Zq (M' := [[], (N9 4), (N9 5), k8, ka7, kb7, [(b6, .cells ⟨cs5⟩ 27 (0, 0))], [(b3, .cells ⟨(pkT 3 0 zS v8 (.slice none 0 0)) ++ ([.slice none 0 0] : List Value)⟩ 32 (0, 0))], [(b2, .cells ⟨(pkT 0 0 zS (.slice none 0 0) (.slice none 0 0)) ++ ([.slice none 0 0] : List Value)⟩ 32 (0, 0))], [(b1, .cells ⟨pkT 3 0 zS ks cv⟩ 27 (0, 0))]]) (Sub.emp Sub.refl) ?_
 have hlens19 : ∀ e ∈ ([(cel (r9 4))] : List (List Value)), List.length e = 37 := by
  intro e he; simp only [List.mem_cons, List.not_mem_nil, or_false] at he
  rcases he with rfl
  ·exact p9_4.2.len
 have hoks19 : ∀ e ∈ ([(cel (r9 4))] : List (List Value)), okc e := by
  intro e he; simp only [List.mem_cons, List.not_mem_nil, or_false] at he
  rcases he with rfl
  ·exact p9_4.2.ok
 refine JLr (ZH (i := 0) (n := 1) (es' := [(cel (r9 4))]) Tryz.runUnderlying29 Tryz.runUnderlying29 (Or.inl rfl) el32 rfl rfl rfl Own.nil (fun F w m => Src.row (((At.k 2 rfl (by rw [p9_5.2.1]; exact List.mem_cons_self))).heap m) (Zx (ZG hlens19))) rfl hlens19 hoks19 (by decide) (by simp [ZP]) fun v19 k19 ho19 => JLq (.pointer (some ⟨b3, 35, none⟩)) (Xk rfl rfl) <| JLr (Ze 7 (vs := [v19]) (l := (pkT 3 0 zS v8 v19) ++ ([.slice none 0 0] : List Value)) ty29 rfl rfl rfl (ZO ho19.one) rfl (Zm ho19.one Zv) (spl_l (pkT_s35 ..)) <| Za <| Zb <| JLq (.int .i64 1) (Pu.arith rfl rfl rfl) <| JLm (.int .i64 1) <| Za <| Z8 <| Zd <| Zb <| JLq (.bool false) (show Pu _ _ _ (.bool (decide ((1 : Int) < 1))) from Pu.lss rfl rfl) <| Za ?_))
 refine Zd <| Zi (b := false) rfl (fun h => absurd h (by simp)) (fun _ => ZM _ rfl <| Zd <| Zd <| Zb <| JLq (.pointer (some ⟨b1, 35, none⟩)) (YP rfl rfl) <| JLr (Zf ty25 rfl (At.bx 9 rfl) (YI ..) ?_))
 obtain ⟨a20, cap20, hv20⟩ := hcv.sl
 have hle20 := hcv.le
 refine JLq (.int .i64 0) (Pu.lenSl Tryz.runUnderlying25 hv20) <| JLm (.int .i64 0) <| Za <| Zs <| YF 1 <| Z8 <| Zd <| Zb <| JLq (.bool false) (show Pu _ _ _ (.bool (decide ((0 : Int) < 0))) from Pu.lss rfl rfl) <| Za <| Zd <| Zi (b := false) rfl (fun h => absurd h (by simp)) (fun _ => ZM _ rfl ?_)
 refine Zd <| Zb <| JLr (Zh Z6 rfl (At.bx 7 rfl) (Zx rfl) <| JLr (Ze 8 (vs := (pkT 3 0 zS v8 v19) ++ ([.slice none 0 0] : List Value)) (l := (pkT 3 0 zS v8 v19) ++ ([.slice none 0 0] : List Value)) Z6 rfl rfl rfl rfl rfl (Z3 (ZI ho8.one ho19.one) (Zm rfl Zv)) (ZL (n := 37) rfl rfl) <| Za <| Zl <| ⟨.agg ⟨(pkT 3 0 zS v8 v19) ++ ([.slice none 0 0] : List Value)⟩, [k8 ++ (k19 ++ ((N9 4)))], Ret.one rfl (RV.cell Z6 rfl (At.bx 8 rfl) (Zx rfl)), (Sub.join3 (Sub.cons 3 rfl (Sk (Sk Sub.nil)))), ?_⟩))
 exact ⟨_, _, rfl, rfl, ⟨_, _, _, _, _, _, _, _, _, _, rfl, rfl, ho8, ho19, p9_4.2, rfl⟩⟩
set_option maxHeartbeats 1000000 in
theorem named0_ct : ∀ (cs : List Value) (v : Value) (H : Heap), RT H cs (Tm.mk 3 0 zS [(Tm.mk 3 0 zS [Tm.mk 1 1 zS [] []] [])] []) → rdS RS 1 H v [ltr 0] → CT Tryz.prog 65 ⟨[.agg ⟨cs⟩, v]⟩ [] H (fun v N => ∃ cs k, v = .agg ⟨cs⟩ ∧ N = [k] ∧ NC [[ltr 1], [ltr 2]] cs k) := by
 intro cs v H ht hl
 obtain ⟨ks, cv, rfl, _, _, hks, hcv⟩ := RT_mk.1 ht
 refine Zo Tryz.func65 rfl rfl <| Zd <| Zb <| JLr (Zt (l := pkT 3 0 zS ks cv) rfl rfl fun b1 => JLr (Zj (l := (pkT 0 0 zS (.slice none 0 0) (.slice none 0 0)) ++ ([.slice none 0 0] : List Value)) Tryz.zeroValue32 rfl fun b2 => Za <| Zd <| Zb <| JLq (.pointer (some ⟨b1, 0, none⟩)) (ZY rfl rfl) <| JLr (Zf ty3 rfl (At.bx 1 rfl) (Yg ..) <| JLq (.pointer (some ⟨b1, 1, none⟩)) (Z4 rfl rfl) <| JLr (Zf ty3 rfl (At.bx 1 rfl) (Yn ..) <| JLq (.pointer (some ⟨b1, 2, none⟩)) (fa27_2 rfl rfl) ?_))))
 refine JLr (Zh Xb rfl (At.bx 1 rfl) (pkT_2 ..) <| JLq (.agg ⟨(pkT 3 0 zS (.slice none 0 0) (.slice none 0 0)) ++ ([.slice none 0 0] : List Value)⟩) (Pu.build (pv := [(0, .int .i64 3), (1, .int .i64 0), (2, .agg ⟨sC zS⟩)]) (l := (pkT 3 0 zS (.slice none 0 0) (.slice none 0 0)) ++ ([.slice none 0 0] : List Value)) rfl (bld32_0_1_2 _ _ _)) <| JLr (Zj (l := (pkT 0 0 zS (.slice none 0 0) (.slice none 0 0)) ++ ([.slice none 0 0] : List Value)) Tryz.zeroValue32 rfl fun b3 => JLr (Ze 0 (vs := (pkT 3 0 zS (.slice none 0 0) (.slice none 0 0)) ++ ([.slice none 0 0] : List Value)) (l := (pkT 3 0 zS (.slice none 0 0) (.slice none 0 0)) ++ ([.slice none 0 0] : List Value)) Z6 rfl rfl rfl rfl rfl (Z3 (ZI rfl rfl) (Zm rfl Zv)) (ZL (n := 37) rfl rfl) <| Za <| Zd <| Zd <| Zb <| JLq (.pointer (some ⟨b1, 0, none⟩)) (ZY rfl rfl) <| JLr (Zf ty3 rfl (At.bx 2 rfl) (Yg ..) <| JLq (.bool false) (show Pu _ _ _ (.bool (decide ((3 : Int) = 1))) from Pu.eql rfl rfl) <| Za <| Zi (b := false) rfl (fun h => absurd h (by simp)) (fun _ => ?_)))))
 refine Zp <| Zd <| Zd <| Zb <| JLq (.pointer (some ⟨b1, 34, none⟩)) (Yq rfl rfl) <| JLr (Zf ty24 rfl (At.bx 2 rfl) (Yu ..) ?_)
 obtain ⟨a4, cap4, hv4⟩ := hks.sl
 have hle4 := hks.le
 refine JLq (.int .i64 1) (Pu.lenSl Tryz.runUnderlying24 hv4) <| JLm (.int .i64 0) <| Za <| Zs <| YF 2 <| Z8 <| Zd <| Zb <| JLq (.bool true) (show Pu _ _ _ (.bool (decide ((0 : Int) < 1))) from Pu.lss rfl rfl) <| Za <| Zd <| Zi (b := true) rfl (fun _ => ?_) (fun h => absurd h (by simp))
 refine Zp <| Zd <| Zs <| Zd <| Zb <| JLm (.int .i64 0) ?_
 obtain ⟨b5, o5, cap5, row5, T5, fr5, cs5, hv5, hb5, hs5, hE5⟩ := hks.get 0 (by first | assumption | omega | decide | simp)
 refine JLq (.pointer (some ⟨b5, o5 + 0 * 36, none⟩)) (Pu.idx 0 Tryz.runUnderlying24 Zu hv5 rfl rfl (by first | assumption | omega | decide | simp)) <| JLr (Zh Zu rfl (At.im hb5) hs5 <| JLr (Zj (l := pkT 0 0 zS (.slice none 0 0) (.slice none 0 0)) Tryz.zeroValue27 rfl fun b6 => JLa (.int .i64 0) <| JLr (Ze 0 (vs := cs5) (l := cs5) Zu rfl rfl rfl rfl (ZD hE5) (RT_ok hE5) (ZL (n := 36) rfl (ZD hE5)) <| Za <| Zd <| Zb <| JLm v <| JLq (.pointer (some ⟨b1, 0, none⟩)) (ZY rfl rfl) <| JLr (Zf ty3 rfl (At.bx 3 rfl) (Yg ..) <| JLm (.int .i64 0) <| Zg rfl Tryz.call111 rfl (fun hin => int_r (r := 1) (more_ct _ _ _) (by decide)) rfl ?_))))
 rintro _ _ ⟨rfl, rfl⟩
 refine Zg rfl Tryz.call110 rfl (fun hin => chosen1_ct _ _ (RSs.mono (Hle.hu _ _) hl)) rfl ?_
 rintro _ _ ⟨ua7, ub7, ka7, kb7, rfl, rfl, hoa7, hob7⟩
 refine JLm (.tuple ⟨[ua7, ub7]⟩) <| JLq ua7 (Pu.extract rfl rfl) <| JLq ub7 (Pu.extract rfl rfl) <| JLa ua7 <| JLa ub7 <| Za <| Zd <| Zb <| JLq (.pointer (some ⟨b3, 34, none⟩)) (Yw rfl rfl) <| JLr (Zf YG rfl (At.bx 3 rfl) (get_l (Yu ..)) <| JLm ub7 <| Zq (M' := [[], ka7, kb7, [(b6, .cells ⟨cs5⟩ 27 (0, 0))], [(b3, .cells ⟨(pkT 3 0 zS (.slice none 0 0) (.slice none 0 0)) ++ ([.slice none 0 0] : List Value)⟩ 32 (0, 0))], [(b2, .cells ⟨(pkT 0 0 zS (.slice none 0 0) (.slice none 0 0)) ++ ([.slice none 0 0] : List Value)⟩ 32 (0, 0))], [(b1, .cells ⟨pkT 3 0 zS ks cv⟩ 27 (0, 0))]]) (Sub.emp Sub.refl) <| JLr (ZH (i := 0) (n := ([ltr 1]).length) (es' := ZP ([ltr 1])) Tryz.runUnderlying28 Tryz.runUnderlying28 (Or.inl rfl) el9 rfl rfl rfl (show Own _ _ _ (ZP []) _ from Own.nil) (own_src (i := 2) hob7 rfl) (ZW _) (strs_len1 _) (strs_ok _) (by decide) (by simp [ZP]) fun v8 k8 ho8 => ?_))
 rw [← strs_app] at ho8
 refine JLq (.pointer (some ⟨b3, 34, none⟩)) (Yw rfl rfl) <| JLr (Ze 4 (vs := [v8]) (l := (pkT 3 0 zS v8 (.slice none 0 0)) ++ ([.slice none 0 0] : List Value)) YG rfl rfl rfl (ZO ho8.one) rfl (Zm ho8.one Zv) (spl_l (pkT_s34 ..)) <| Za <| Ya mixed #[0, 1, 0, 0, 12, 28, 63, 127, 255] 6 6 7 rfl (by kernel_rfl) (fun i r9 N9 => match i with | 0 => (r9 0) = .pointer (some ⟨b3, 35, none⟩) | 1 => (r9 1) = .slice none 0 0 | 2 => (r9 2) = .agg ⟨cs5⟩ | 3 => (r9 3) = ua7 | 4 => (r9 4) = .agg ⟨(cel (r9 4))⟩ ∧ NC ([[ltr 2]]) (cel (r9 4)) (N9 4) | 5 => (r9 5) = .slice (some ⟨(ZC (r9 5)), 0, none⟩) 1 1 ∧ (N9 5) = [(ZC (r9 5), .cells ⟨List.flatten [(cel (r9 4))]⟩ 32 (0, 0))] ∧ Own 32 37 (.slice (some ⟨(ZC (r9 5)), 0, none⟩) 1 1) [(cel (r9 4))] (N9 5) | _ => True) ⟨?_, ?_, ?_, ?_, ?_, ?_, trivial⟩ ?_)
 ·intro ρ r9 N9 B hB hBa hp hr hr0
  obtain ⟨ρ10, rfl⟩ := Zc (uc (show ρ 5 = .pointer (some ⟨b3, 0, none⟩) from hr0 5 (by kernel_rfl)) un)
  refine JLq (.pointer (some ⟨b3, 35, none⟩)) (Xk rfl rfl) <| Za ?_
  exact ⟨.pointer (some ⟨b3, 35, none⟩), [], rfl, (Sub.emp Sub.refl), rfl⟩
 ·intro ρ r9 N9 B hB hBa hp hr hr0
  obtain ⟨ρ11, rfl⟩ := Zc (uc (show ρ 54 = .pointer (some ⟨b3, 35, none⟩) from (hr 0 _ _ (by decide) rfl rfl rfl).trans (hp 0 (by decide) rfl)) un)
  refine JLr (Zf ty29 rfl (At.bx 10 (Zn ((hB 4 (by decide)).trans rfl))) (get_l (YI ..)) <| Za ?_)
  exact ⟨.slice none 0 0, [], rfl, (Sub.emp Sub.refl), rfl⟩
 ·intro ρ r9 N9 B hB hBa hp hr hr0
  obtain ⟨ρ12, rfl⟩ := Zc (uc (show ρ 7 = .pointer (some ⟨b6, 0, none⟩) from hr0 7 (by kernel_rfl)) un)
  refine JLr (Zh Zu rfl (At.bx 9 (Zn ((hB 3 (by decide)).trans rfl))) (Zx (ZD hE5)) <| Za ?_)
  exact ⟨.agg ⟨cs5⟩, [], rfl, (Sub.emp Sub.refl), rfl⟩
 ·intro ρ r9 N9 B hB hBa hp hr hr0
  obtain ⟨ρ13, rfl⟩ := Zc (uc (show ρ 8 = ua7 from hr0 8 (by kernel_rfl)) un)
  refine JLm ua7 <| Za ?_
  exact ⟨ua7, [], rfl, (Sub.emp Sub.refl), rfl⟩
 ·intro ρ r9 N9 B hB hBa hp hr hr0
  obtain ⟨ρ14, rfl⟩ := Zc (uc (show ρ 56 = .agg ⟨cs5⟩ from (hr 2 _ _ (by decide) rfl rfl rfl).trans (hp 2 (by decide) rfl)) (uc (show ρ 57 = ua7 from (hr 3 _ _ (by decide) rfl rfl rfl).trans (hp 3 (by decide) rfl)) un))
  refine Zg rfl Tryz.call65 rfl (fun hin => named1_ct _ _ _ (RT.mono (Hle.hu _ _) hE5) (Yj hoa7 (by simp) (hin 7 _ (Zn ((hB 1 (by decide)).trans rfl))))) rfl ?_
  rintro _ _ ⟨cs15, k15, rfl, rfl, hO15⟩
  refine Za ?_
  exact ⟨.agg ⟨cs15⟩, k15, rfl, Sub.refl, ⟨rfl, hO15⟩⟩
 ·intro ρ r9 N9 B hB hBa hp hr hr0
  have p4 : (r9 4) = .agg ⟨(cel (r9 4))⟩ ∧ NC ([[ltr 2]]) (cel (r9 4)) (N9 4) := hp 4 (by decide) rfl
  obtain ⟨ρ16, rfl⟩ := Zc (uc (show ρ 58 = .agg ⟨(cel (r9 4))⟩ from (hr 4 _ _ (by decide) rfl rfl rfl).trans p4.1) un)
  refine JLr (Zr (vs := [.agg ⟨(cel (r9 4))⟩]) [(cel (r9 4))] Tryz.runUnderlying29 el32 rfl rfl (by intro e he; simp only [List.mem_cons, List.not_mem_nil, or_false] at he; subst he; exact p4.2.len) rfl (by decide) fun b17 k17 ho17 hk17 => Za ?_)
  exact ⟨.slice (some ⟨b17, 0, none⟩) 1 1, k17, rfl, Sub.refl, ⟨rfl, hk17, ho17⟩⟩
 intro ρ r9 N9 hp hr hr0
 have p4 : (r9 4) = .agg ⟨(cel (r9 4))⟩ ∧ NC ([[ltr 2]]) (cel (r9 4)) (N9 4) := hp 4 (by decide)
 have p5 : (r9 5) = .slice (some ⟨(ZC (r9 5)), 0, none⟩) 1 1 ∧ (N9 5) = [(ZC (r9 5), .cells ⟨List.flatten [(cel (r9 4))]⟩ 32 (0, 0))] ∧ Own 32 37 (.slice (some ⟨(ZC (r9 5)), 0, none⟩) 1 1) [(cel (r9 4))] (N9 5) := hp 5 (by decide)
 obtain ⟨ρ18, rfl⟩ := Zc (uc (show ρ 1 = v from hr0 1 (by kernel_rfl)) (uc (show ρ 2 = .pointer (some ⟨b1, 0, none⟩) from hr0 2 (by kernel_rfl)) (uc (show ρ 4 = .pointer (some ⟨b2, 0, none⟩) from hr0 4 (by kernel_rfl)) (uc (show ρ 5 = .pointer (some ⟨b3, 0, none⟩) from hr0 5 (by kernel_rfl)) (uc (show ρ 33 = ks from hr0 33 (by kernel_rfl)) (uc (show ρ 34 = .int .i64 1 from hr0 34 (by kernel_rfl)) (uc (show ρ 35 = .int .i64 0 from hr0 35 (by kernel_rfl)) (uc (show ρ 55 = .slice none 0 0 from (hr 1 _ _ (by decide) rfl rfl).trans (hp 1 (by decide))) (uc (show ρ 59 = .slice (some ⟨(ZC (r9 5)), 0, none⟩) 1 1 from (hr 5 _ _ (by decide) rfl rfl).trans p5.1) un)))))))))
 have p9_4 := p4; have p9_5 := p5
 clear hp hr hr0 p4 p5
 refine Zq (M' := [(N9 0), (N9 1), (N9 2), (N9 3), (N9 4), (N9 5), k8, ka7, kb7, [(b6, .cells ⟨cs5⟩ 27 (0, 0))], [(b3, .cells ⟨(pkT 3 0 zS v8 (.slice none 0 0)) ++ ([.slice none 0 0] : List Value)⟩ 32 (0, 0))], [(b2, .cells ⟨(pkT 0 0 zS (.slice none 0 0) (.slice none 0 0)) ++ ([.slice none 0 0] : List Value)⟩ 32 (0, 0))], [(b1, .cells ⟨pkT 3 0 zS ks cv⟩ 27 (0, 0))]]) Sub.refl <| Zq (M' := [(N9 4), (N9 5), k8, ka7, kb7, [(b6, .cells ⟨cs5⟩ 27 (0, 0))], [(b3, .cells ⟨(pkT 3 0 zS v8 (.slice none 0 0)) ++ ([.slice none 0 0] : List Value)⟩ 32 (0, 0))], [(b2, .cells ⟨(pkT 0 0 zS (.slice none 0 0) (.slice none 0 0)) ++ ([.slice none 0 0] : List Value)⟩ 32 (0, 0))], [(b1, .cells ⟨pkT 3 0 zS ks cv⟩ 27 (0, 0))]]) (Sd (Sd (Sd (Sd (Sk (Sk (Sk (Sk (Sk (Sk (Sk (Sk (Sk Sub.nil))))))))))))) ?_
 show JL _ _ _ [_, _, _] _ _ _
 refine Zq (M' := [[], (N9 4), (N9 5), k8, ka7, kb7, [(b6, .cells ⟨cs5⟩ 27 (0, 0))], [(b3, .cells ⟨(pkT 3 0 zS v8 (.slice none 0 0)) ++ ([.slice none 0 0] : List Value)⟩ 32 (0, 0))], [(b2, .cells ⟨(pkT 0 0 zS (.slice none 0 0) (.slice none 0 0)) ++ ([.slice none 0 0] : List Value)⟩ 32 (0, 0))], [(b1, .cells ⟨pkT 3 0 zS ks cv⟩ 27 (0, 0))]]) (Sub.emp Sub.refl) ?_
 have hlens19 : ∀ e ∈ ([(cel (r9 4))] : List (List Value)), List.length e = 37 := by
  intro e he; simp only [List.mem_cons, List.not_mem_nil, or_false] at he
  rcases he with rfl
  ·exact p9_4.2.len
 have hoks19 : ∀ e ∈ ([(cel (r9 4))] : List (List Value)), okc e := by
  intro e he; simp only [List.mem_cons, List.not_mem_nil, or_false] at he
  rcases he with rfl
  ·exact p9_4.2.ok
 refine JLr (ZH (i := 0) (n := 1) (es' := [(cel (r9 4))]) Tryz.runUnderlying29 Tryz.runUnderlying29 (Or.inl rfl) el32 rfl rfl rfl Own.nil (fun F w m => Src.row (((At.k 2 rfl (by rw [p9_5.2.1]; exact List.mem_cons_self))).heap m) (Zx (ZG hlens19))) rfl hlens19 hoks19 (by decide) (by simp [ZP]) fun v19 k19 ho19 => JLq (.pointer (some ⟨b3, 35, none⟩)) (Xk rfl rfl) <| JLr (Ze 7 (vs := [v19]) (l := (pkT 3 0 zS v8 v19) ++ ([.slice none 0 0] : List Value)) ty29 rfl rfl rfl (ZO ho19.one) rfl (Zm ho19.one Zv) (spl_l (pkT_s35 ..)) <| Za <| Zb <| JLq (.int .i64 1) (Pu.arith rfl rfl rfl) <| JLm (.int .i64 1) <| Za <| Z8 <| Zd <| Zb <| JLq (.bool false) (show Pu _ _ _ (.bool (decide ((1 : Int) < 1))) from Pu.lss rfl rfl) <| Za ?_))
 refine Zd <| Zi (b := false) rfl (fun h => absurd h (by simp)) (fun _ => ZM _ rfl <| Zd <| Zd <| Zb <| JLq (.pointer (some ⟨b1, 35, none⟩)) (YP rfl rfl) <| JLr (Zf ty25 rfl (At.bx 9 rfl) (YI ..) ?_))
 obtain ⟨a20, cap20, hv20⟩ := hcv.sl
 have hle20 := hcv.le
 refine JLq (.int .i64 0) (Pu.lenSl Tryz.runUnderlying25 hv20) <| JLm (.int .i64 0) <| Za <| Zs <| YF 1 <| Z8 <| Zd <| Zb <| JLq (.bool false) (show Pu _ _ _ (.bool (decide ((0 : Int) < 0))) from Pu.lss rfl rfl) <| Za <| Zd <| Zi (b := false) rfl (fun h => absurd h (by simp)) (fun _ => ZM _ rfl ?_)
 refine Zd <| Zb <| JLr (Zh Z6 rfl (At.bx 7 rfl) (Zx rfl) <| JLr (Ze 8 (vs := (pkT 3 0 zS v8 v19) ++ ([.slice none 0 0] : List Value)) (l := (pkT 3 0 zS v8 v19) ++ ([.slice none 0 0] : List Value)) Z6 rfl rfl rfl rfl rfl (Z3 (ZI ho8.one ho19.one) (Zm rfl Zv)) (ZL (n := 37) rfl rfl) <| Za <| Zl <| ⟨.agg ⟨(pkT 3 0 zS v8 v19) ++ ([.slice none 0 0] : List Value)⟩, [k8 ++ (k19 ++ ((N9 4)))], Ret.one rfl (RV.cell Z6 rfl (At.bx 8 rfl) (Zx rfl)), (Sub.join3 (Sub.cons 3 rfl (Sk (Sk Sub.nil)))), ?_⟩))
 exact ⟨_, _, rfl, rfl, ⟨_, _, _, _, _, _, _, _, _, _, rfl, rfl, ho8, ho19, p9_4.2, rfl⟩⟩
end Go.Proofs.YtmophpgiaiemhaaGreat.Hs
/-! Walks, printed by a program of this session's own (gen.py). -/
namespace Go.Proofs.YtmophpgiaiemhaaGreat.Hs
open Go Go.Proofs
set_option maxRecDepth 100000
set_option linter.unusedVariables false
set_option linter.unusedSimpArgs false
attribute [local irreducible] JL J CT wlo
theorem nameE_ct (cs : List Value) (v : Value) (H : Heap) (ht : RT H cs eLL) (hl : rdS RS 1 H v [ltr 0]) : CT Tryz.prog 17 ⟨[.agg ⟨cs⟩, v]⟩ [] H (fun v N => ∃ cs k, v = .tuple ⟨[.agg ⟨cs⟩, .int .i64 0]⟩ ∧ N = [k] ∧ NC [[ltr 1], [ltr 2]] cs k) := by
 refine Zo Tryz.func17 rfl rfl <| Zd <| Zb <| JLr (Zt (l := cs) rfl rfl fun b1 => JLr (Zt (l := [v]) rfl (ZO hl.one) fun b2 => JLr (Zj (l := (pkT 0 0 zS (.slice none 0 0) (.slice none 0 0)) ++ ([.slice none 0 0] : List Value)) Tryz.zeroValue32 rfl fun b3 => JLa (.int .i64 0) <| Za <| Zd <| Zd <| Zb <| JLr (Zh Zu rfl (At.bx 2 rfl) (Zx (ZD ht)) <| JLr (Zr (vs := [.agg ⟨cs⟩]) [cs] Tryz.runUnderlying24 el27 rfl rfl (by intro e he; simp only [List.mem_cons, List.not_mem_nil, or_false] at he; subst he; exact (ZD ht)) rfl (by decide) fun b4 k4 ho4 hk4 => ?_)))))
 refine Zg rfl Tryz.call61 rfl (fun hin => int_r (r := 0) (right_ct [eLL] _ _ (Own.rd1 ho4 (hin 0 _ rfl) (RT.mono (Hle.hu _ _) ht))) right_ll) rfl ?_
 rintro _ _ ⟨rfl, rfl⟩
 refine JLa (.int .i64 0) <| Za <| Zd <| Zb <| JLm (.int .i64 0) <| JLq (.bool false) (show Pu _ _ _ (.bool (!decide ((0 : Int) = 0))) from Pu.neq rfl rfl) <| Za <| Zi (b := false) rfl (fun h => absurd h (by simp)) (fun _ => Zp <| Zd <| Zd <| Zb <| JLr (Zf YG rfl (At.bx 2 rfl) rfl ?_))
 refine Zg rfl Tryz.call62 rfl (fun hin => bool_r (r := false) (Xm _ _ _ _ (RSs.mono (Hle.hu _ _) hl)) (by decide)) rfl ?_
 rintro _ _ ⟨rfl, rfl⟩
 refine Za <| Zi (b := false) rfl (fun h => absurd h (by simp)) (fun _ => Zp <| Zd <| Zd <| Zb <| JLr (Zf YG rfl (At.bx 2 rfl) rfl ?_))
 obtain ⟨a5, cap5, hv5⟩ := hl.sl
 have hle5 := hl.le
 refine JLq (.int .i64 1) (Pu.lenSl Tryz.runUnderlying28 hv5) <| JLm (.int .i64 0) <| Za <| Zs <| YF 2 <| Z8 <| Zd <| Zb <| JLq (.bool true) (show Pu _ _ _ (.bool (decide ((0 : Int) < 1))) from Pu.lss rfl rfl) <| Za <| Zd <| Zi (b := true) rfl (fun _ => ?_) (fun h => absurd h (by simp))
 refine Zp <| Zd <| Zs <| Zd <| Zb <| JLm (.int .i64 0) ?_
 obtain ⟨b6, o6, cap6, row6, T6, fr6, cs6, hv6, hb6, hs6, hE6⟩ := hl.get 0 (by first | assumption | omega | decide | simp)
 refine JLq (.pointer (some ⟨b6, o6 + 0 * 1, none⟩)) (Pu.idx 0 Tryz.runUnderlying28 ty9 hv6 rfl rfl (by first | assumption | omega | decide | simp)) <| JLr (Zf ty9 rfl (At.im hb6) (Yp ((show cs6 = [Value.string (ltr 0)] from hE6) ▸ hs6)) <| JLa (.int .i64 0) <| JLa (.string (ltr 0)) <| Za <| Zd <| Zb <| JLr (Zf YG rfl (At.bx 2 rfl) rfl <| JLm (.int .i64 0) ?_))
 obtain ⟨a7, cap7, hv7⟩ := hl.sl
 have hle7 := hl.le
 refine JLr (Runs_slice0 Tryz.runUnderlying28 Tryz.sizeOf9 hv7 rfl fun sa8 sc8 => JLm (.string (ltr 0)) <| Zg rfl Tryz.call62 rfl (fun hin => bool_r (r := false) (Xm _ _ _ _ (RSs.mono (Hle.hu _ _) (rdS.none : Hs.rdS RS 1 H (.slice sa8 0 sc8) []))) (by decide)) rfl ?_)
 rintro _ _ ⟨rfl, rfl⟩
 refine Za <| Zi (b := false) rfl (fun h => absurd h (by simp)) (fun _ => Zp <| Zb <| JLq (.int .i64 1) (Pu.arith rfl rfl rfl) <| JLm (.int .i64 1) <| Za <| Z8 <| Zd <| Zb <| JLq (.bool false) (show Pu _ _ _ (.bool (decide ((1 : Int) < 1))) from Pu.lss rfl rfl) <| Za <| Zd ?_)
 refine Zi (b := false) rfl (fun h => absurd h (by simp)) (fun _ => ZM _ rfl <| Zd <| Zb <| JLr (Zh Zu rfl (At.bx 3 rfl) (Zx (ZD ht)) <| Zg rfl Tryz.call49 rfl (fun hin => freeE_ct eLL _ _ (RT.mono (Hle.hu _ _) ht)) rfl ?_))
 rintro _ _ ⟨u9, e9, k9, rfl, rfl, ho9, he9⟩
 rw [free_ll] at ho9 he9
 replace ho9 : Own 3 1 u9 (ints ([])) k9 := ho9
 obtain rfl : e9 = 0 := he9
 refine JLm (.tuple ⟨[u9, .int .i64 0]⟩) <| JLq u9 (Pu.extract rfl rfl) <| JLq (.int .i64 0) (Pu.extract rfl rfl) <| JLa u9 <| JLa (.int .i64 0) <| Za <| Zd <| Zd <| Zb <| JLm u9 <| JLq (.func (.func 64) ⟨[]⟩ ⟨[.pointer (some ⟨b2, 0, none⟩)]⟩) (Pu.makeFunc rfl rfl) <| Zg rfl Tryz.call63 rfl (fun hin => bool_r (r := true) (every_ct 64 [] [.pointer (some ⟨b2, 0, none⟩)] Tryz.call64 (fun _ => true) [] _ _ (own_ints ho9 (by simp) (hin 0 _ rfl)) (fun x hx => by cases hx)) rfl) rfl ?_
 rintro _ _ ⟨rfl, rfl⟩
 refine JLq (.bool false) (show Pu _ _ _ (.bool (!true)) from Pu.not rfl) <| Za <| Zi (b := false) rfl (fun h => absurd h (by simp)) (fun _ => Zp <| Zd <| Zb <| JLr (Zh Zu rfl (At.bx 4 rfl) (Zx (ZD ht)) <| JLr (Zf YG rfl (At.bx 3 rfl) rfl <| Zg rfl Tryz.call65 rfl (fun hin => named0_ct _ _ _ (RT.mono (Hle.hu _ _) ht) (RSs.mono (Hle.hu _ _) hl)) rfl ?_)))
 rintro _ _ ⟨cs10, k10, rfl, rfl, hO10⟩
 refine JLr (Ze 3 (vs := cs10) (l := cs10) Z6 rfl rfl rfl rfl hO10.len hO10.ok (ZL (n := 37) rfl hO10.len) <| JLa (.int .i64 0) <| Za <| Zl <| ⟨.tuple ⟨[.agg ⟨cs10⟩, .int .i64 0]⟩, [k10], Ret.two rfl (RV.cell Z6 rfl (At.bx 3 rfl) (Zx hO10.len)) (RV.tmp rfl), (Sk Sub.nil), ?_⟩)
 exact ⟨_, _, rfl, rfl, hO10⟩
theorem nu_ct (n : Int) (H : Heap) (hb : inI n) : CT Tryz.prog 42 ⟨[.int .i64 n]⟩ [] H (fun v N => ∃ cs k, v = .agg ⟨cs⟩ ∧ N = [k] ∧ OT (.mk 2 n zS [] []) cs k) := by
 refine Zo Tryz.func42 rfl rfl <| Zd <| Zb <| JLr (Zj (l := pkT 0 0 zS (.slice none 0 0) (.slice none 0 0)) Tryz.zeroValue27 rfl fun b1 => Za <| Zd <| Zb <| JLm (.int .i64 n) <| JLq (.agg ⟨pkT 2 n zS (.slice none 0 0) (.slice none 0 0)⟩) (Pu.build (pv := [(0, .int .i64 2), (1, .int .i64 n)]) (l := pkT 2 n zS (.slice none 0 0) (.slice none 0 0)) rfl (bld27_0_1 _ _)) <| JLr (Ze 0 (vs := pkT 2 n zS (.slice none 0 0) (.slice none 0 0)) (l := pkT 2 n zS (.slice none 0 0) (.slice none 0 0)) Zu rfl rfl rfl rfl rfl (ZI rfl rfl) (Z0 ..) <| Za <| Zl <| ⟨.agg ⟨pkT 2 n zS (.slice none 0 0) (.slice none 0 0)⟩, [[]], Ret.one rfl (RV.cell Zu rfl (At.bx 0 rfl) (ZZ ..)), (Sub.emp Sub.nil), ?_⟩))
 exact ⟨_, _, rfl, rfl, OT_leaf (by unfold inI; omega) hb⟩
theorem va_ct (n : Int) (H : Heap) (hb : inI n) : CT Tryz.prog 48 ⟨[.int .i64 n]⟩ [] H (fun v N => ∃ cs k, v = .agg ⟨cs⟩ ∧ N = [k] ∧ OT (.mk 1 n zS [] []) cs k) := by
 refine Zo Tryz.func48 rfl rfl <| Zd <| Zb <| JLr (Zj (l := pkT 0 0 zS (.slice none 0 0) (.slice none 0 0)) Tryz.zeroValue27 rfl fun b1 => Za <| Zd <| Zb <| JLm (.int .i64 n) <| JLq (.agg ⟨pkT 1 n zS (.slice none 0 0) (.slice none 0 0)⟩) (Pu.build (pv := [(0, .int .i64 1), (1, .int .i64 n)]) (l := pkT 1 n zS (.slice none 0 0) (.slice none 0 0)) rfl (bld27_0_1 _ _)) <| JLr (Ze 0 (vs := pkT 1 n zS (.slice none 0 0) (.slice none 0 0)) (l := pkT 1 n zS (.slice none 0 0) (.slice none 0 0)) Zu rfl rfl rfl rfl rfl (ZI rfl rfl) (Z0 ..) <| Za <| Zl <| ⟨.agg ⟨pkT 1 n zS (.slice none 0 0) (.slice none 0 0)⟩, [[]], Ret.one rfl (RV.cell Zu rfl (At.bx 0 rfl) (ZZ ..)), (Sub.emp Sub.nil), ?_⟩))
 exact ⟨_, _, rfl, rfl, OT_leaf (by unfold inI; omega) hb⟩
theorem la_ct (H : Heap) (a : List Value) (hla : a.length = 36) (hka : okc a) : CT Tryz.prog 46 ⟨[.agg ⟨a⟩]⟩ [] H (fun v N => ∃ cs k, v = .agg ⟨cs⟩ ∧ N = [k] ∧ cs.length = 36 ∧ okc cs ∧ ∀ ta h, Has k h → RT h a ta → RT h cs (.mk 3 0 zS [ta] [])) := by
 refine Zo Tryz.func46 rfl rfl <| Zd <| Zb <| JLr (Zt (l := a) rfl rfl fun b1 => JLr (Zj (l := pkT 0 0 zS (.slice none 0 0) (.slice none 0 0)) Tryz.zeroValue27 rfl fun b2 => Za <| Zd <| Zb <| JLr (Zh Zu rfl (At.bx 1 rfl) (Zx hla) <| JLr (Zr (vs := [.agg ⟨a⟩]) [a] Tryz.runUnderlying24 el27 rfl rfl (by intro e he; simp only [List.mem_cons, List.not_mem_nil, or_false] at he; subst he; exact hla) rfl (by decide) fun b3 k3 ho3 hk3 => JLq (.agg ⟨pkT 3 0 zS (.slice (some ⟨b3, 0, none⟩) 1 1) (.slice none 0 0)⟩) (Pu.build (pv := [(0, .int .i64 3), (3, .slice (some ⟨b3, 0, none⟩) 1 1)]) (l := pkT 3 0 zS (.slice (some ⟨b3, 0, none⟩) 1 1) (.slice none 0 0)) rfl (bld27_0_3 _ _ _ _)) <| JLr (Ze 1 (vs := pkT 3 0 zS (.slice (some ⟨b3, 0, none⟩) 1 1) (.slice none 0 0)) (l := pkT 3 0 zS (.slice (some ⟨b3, 0, none⟩) 1 1) (.slice none 0 0)) Zu rfl rfl rfl rfl rfl (ZI rfl rfl) (Z0 ..) <| Za ?_)))))
 refine Zl <| ⟨.agg ⟨pkT 3 0 zS (.slice (some ⟨b3, 0, none⟩) 1 1) (.slice none 0 0)⟩, [k3], Ret.one rfl (RV.cell Zu rfl (At.bx 1 rfl) (ZZ ..)), (Sk Sub.nil), ?_⟩
 exact ⟨_, _, rfl, rfl, rfl, ZI rfl rfl, fun ta h hh hta => RT_mk.2 ⟨_, _, rfl, (by unfold inI; omega), (by unfold inI; omega), Own.rd1 ho3 hh hta, Hs.rdS.nil⟩⟩
theorem ap_ct (H : Heap) (a : List Value) (hla : a.length = 36) (hka : okc a) (b : List Value) (hlb : b.length = 36) (hkb : okc b) : CT Tryz.prog 47 ⟨[.agg ⟨a⟩, .agg ⟨b⟩]⟩ [] H (fun v N => ∃ cs k, v = .agg ⟨cs⟩ ∧ N = [k] ∧ cs.length = 36 ∧ okc cs ∧ ∀ ta tb h, Has k h → RT h a ta → RT h b tb → RT h cs (.mk 4 0 zS [ta, tb] [])) := by
 refine Zo Tryz.func47 rfl rfl <| Zd <| Zb <| JLr (Zt (l := a) rfl rfl fun b1 => JLr (Zt (l := b) rfl rfl fun b2 => JLr (Zj (l := pkT 0 0 zS (.slice none 0 0) (.slice none 0 0)) Tryz.zeroValue27 rfl fun b3 => Za <| Zd <| Zb <| JLr (Zh Zu rfl (At.bx 2 rfl) (Zx hla) <| JLr (Zh Zu rfl (At.bx 1 rfl) (Zx hlb) <| JLr (Zr (vs := [.agg ⟨a⟩, .agg ⟨b⟩]) [a, b] Tryz.runUnderlying24 el27 rfl rfl (by intro e he; simp only [List.mem_cons, List.not_mem_nil, or_false] at he; rcases he with rfl | rfl <;> first | exact hla | exact hlb) rfl (by decide) fun b4 k4 ho4 hk4 => JLq (.agg ⟨pkT 4 0 zS (.slice (some ⟨b4, 0, none⟩) 2 2) (.slice none 0 0)⟩) (Pu.build (pv := [(0, .int .i64 4), (3, .slice (some ⟨b4, 0, none⟩) 2 2)]) (l := pkT 4 0 zS (.slice (some ⟨b4, 0, none⟩) 2 2) (.slice none 0 0)) rfl (bld27_0_3 _ _ _ _)) ?_))))))
 refine JLr (Ze 1 (vs := pkT 4 0 zS (.slice (some ⟨b4, 0, none⟩) 2 2) (.slice none 0 0)) (l := pkT 4 0 zS (.slice (some ⟨b4, 0, none⟩) 2 2) (.slice none 0 0)) Zu rfl rfl rfl rfl rfl (ZI rfl rfl) (Z0 ..) <| Za <| Zl <| ⟨.agg ⟨pkT 4 0 zS (.slice (some ⟨b4, 0, none⟩) 2 2) (.slice none 0 0)⟩, [k4], Ret.one rfl (RV.cell Zu rfl (At.bx 1 rfl) (ZZ ..)), (Sk Sub.nil), ?_⟩)
 exact ⟨_, _, rfl, rfl, rfl, ZI rfl rfl, fun ta tb h hh hta htb => RT_mk.2 ⟨_, _, rfl, (by unfold inI; omega), (by unfold inI; omega), Own.rd2 ho4 hh hta htb, Hs.rdS.nil⟩⟩
theorem ha_ct (r : Sm) (a : Option Addr) (n c : Nat) (H : Heap) : CT Tryz.prog 52 ⟨[.agg ⟨sC r⟩, .slice a n c]⟩ [] H (fun v N => v = .agg ⟨pkT 12 0 r (.slice a n c) (.slice none 0 0)⟩ ∧ N = []) := by
 refine Zo Tryz.func52 rfl rfl <| Zd <| Zb <| JLr (Zt (l := sC r) rfl rfl fun b1 => JLr (Zj (l := pkT 0 0 zS (.slice none 0 0) (.slice none 0 0)) Tryz.zeroValue27 rfl fun b2 => Za <| Zd <| Zb <| JLr (Zh Xb rfl (At.bx 1 rfl) (Zx rfl) <| JLm (.slice a n c) <| JLq (.agg ⟨pkT 12 0 r (.slice a n c) (.slice none 0 0)⟩) (Pu.build (pv := [(0, .int .i64 12), (2, .agg ⟨sC r⟩), (3, .slice a n c)]) (l := pkT 12 0 r (.slice a n c) (.slice none 0 0)) rfl (bld27_0_2_3 _ _ _ _ _)) <| JLr (Ze 0 (vs := pkT 12 0 r (.slice a n c) (.slice none 0 0)) (l := pkT 12 0 r (.slice a n c) (.slice none 0 0)) Zu rfl rfl rfl rfl rfl (ZI rfl rfl) (Z0 ..) <| Za ?_))))
 refine Zl <| ⟨.agg ⟨pkT 12 0 r (.slice a n c) (.slice none 0 0)⟩, [], Ret.one rfl (RV.cell Zu rfl (At.bx 0 rfl) (ZZ ..)), Sub.nil, ?_⟩
 exact ⟨rfl, rfl⟩
end Go.Proofs.YtmophpgiaiemhaaGreat.Hs
/-! Walks, printed by a program of this session's own (gen.py). -/
namespace Go.Proofs.YtmophpgiaiemhaaGreat.Hs
open Go Go.Proofs
set_option maxRecDepth 100000
set_option linter.unusedVariables false
set_option linter.unusedSimpArgs false
attribute [local irreducible] JL J CT wlo
theorem caD_ct (a b : List Value) (hla : a.length = 35) (hka : okc a) (hlb : b.length = 36) (hkb : okc b) (H : Heap) : CT Tryz.prog 43 ⟨[.agg ⟨a⟩, .agg ⟨b⟩]⟩ [] H (fun v N => v = .agg ⟨a ++ b⟩ ∧ N = []) := by
 refine Zo Tryz.func43 rfl rfl <| Zd <| Zb <| JLr (Zt (l := a) rfl rfl fun b1 => JLr (Zt (l := b) rfl rfl fun b2 => JLr (Zj (l := (pkP 0 0 zS (.slice none 0 0)) ++ (pkT 0 0 zS (.slice none 0 0) (.slice none 0 0))) Tryz.zeroValue80 rfl fun b3 => Za <| Zd <| Zb <| JLr (Zh Z5 rfl (At.bx 2 rfl) (Zx hla) <| JLr (Zh Zu rfl (At.bx 1 rfl) (Zx hlb) <| JLq (.agg ⟨a ++ b⟩) (Pu.build (pv := [(0, .agg ⟨a⟩), (1, .agg ⟨b⟩)]) (l := a ++ b) rfl (bld80_0_1 hla hlb)) <| JLr (Ze 0 (vs := a ++ b) (l := a ++ b) ty80 rfl rfl rfl rfl (ZN hla hlb) (Z3 hka hkb) (ZL (n := 71) rfl (ZN hla hlb)) ?_))))))
 refine Za <| Zl <| ⟨.agg ⟨a ++ b⟩, [], Ret.one rfl (RV.cell ty80 rfl (At.bx 0 rfl) (Zx (ZN hla hlb))), Sub.nil, ?_⟩
 exact ⟨rfl, rfl⟩
theorem laD_ct (x : List Value) (hlx : x.length = 36) (hkx : okc x) (H : Heap) : CT Tryz.prog 46 ⟨[.agg ⟨x⟩]⟩ [] H (fun r N => ∃ sv k, r = .agg ⟨pkT 3 0 zS sv (.slice none 0 0)⟩ ∧ N = [k] ∧ Own 27 36 sv [x] k) := by
 refine Zo Tryz.func46 rfl rfl <| Zd <| Zb <| JLr (Zt (l := x) rfl rfl fun b1 => JLr (Zj (l := pkT 0 0 zS (.slice none 0 0) (.slice none 0 0)) Tryz.zeroValue27 rfl fun b2 => Za <| Zd <| Zb <| JLr (Zh Zu rfl (At.bx 1 rfl) (Zx hlx) <| JLr (Zr (vs := [.agg ⟨x⟩]) [x] Tryz.runUnderlying24 el27 rfl rfl (by intro e he; simp only [List.mem_cons, List.not_mem_nil, or_false] at he; subst he; exact hlx) rfl (by decide) fun b3 k3 ho3 hk3 => JLq (.agg ⟨pkT 3 0 zS (.slice (some ⟨b3, 0, none⟩) 1 1) (.slice none 0 0)⟩) (Pu.build (pv := [(0, .int .i64 3), (3, .slice (some ⟨b3, 0, none⟩) 1 1)]) (l := pkT 3 0 zS (.slice (some ⟨b3, 0, none⟩) 1 1) (.slice none 0 0)) rfl (bld27_0_3 _ _ _ _)) <| JLr (Ze 1 (vs := pkT 3 0 zS (.slice (some ⟨b3, 0, none⟩) 1 1) (.slice none 0 0)) (l := pkT 3 0 zS (.slice (some ⟨b3, 0, none⟩) 1 1) (.slice none 0 0)) Zu rfl rfl rfl rfl rfl (ZI rfl rfl) (Z0 ..) <| Za ?_)))))
 refine Zl <| ⟨.agg ⟨pkT 3 0 zS (.slice (some ⟨b3, 0, none⟩) 1 1) (.slice none 0 0)⟩, [k3], Ret.one rfl (RV.cell Zu rfl (At.bx 1 rfl) (ZZ ..)), (Sk Sub.nil), ?_⟩
 exact ⟨_, _, rfl, rfl, ho3⟩
theorem apD_ct (x : List Value) (hlx : x.length = 36) (hkx : okc x) (y : List Value) (hly : y.length = 36) (hky : okc y) (H : Heap) : CT Tryz.prog 47 ⟨[.agg ⟨x⟩, .agg ⟨y⟩]⟩ [] H (fun r N => ∃ sv k, r = .agg ⟨pkT 4 0 zS sv (.slice none 0 0)⟩ ∧ N = [k] ∧ Own 27 36 sv [x, y] k) := by
 refine Zo Tryz.func47 rfl rfl <| Zd <| Zb <| JLr (Zt (l := x) rfl rfl fun b1 => JLr (Zt (l := y) rfl rfl fun b2 => JLr (Zj (l := pkT 0 0 zS (.slice none 0 0) (.slice none 0 0)) Tryz.zeroValue27 rfl fun b3 => Za <| Zd <| Zb <| JLr (Zh Zu rfl (At.bx 2 rfl) (Zx hlx) <| JLr (Zh Zu rfl (At.bx 1 rfl) (Zx hly) <| JLr (Zr (vs := [.agg ⟨x⟩, .agg ⟨y⟩]) [x, y] Tryz.runUnderlying24 el27 rfl rfl (by intro e he; simp only [List.mem_cons, List.not_mem_nil, or_false] at he; rcases he with rfl | rfl <;> first | exact hlx | exact hly) rfl (by decide) fun b4 k4 ho4 hk4 => JLq (.agg ⟨pkT 4 0 zS (.slice (some ⟨b4, 0, none⟩) 2 2) (.slice none 0 0)⟩) (Pu.build (pv := [(0, .int .i64 4), (3, .slice (some ⟨b4, 0, none⟩) 2 2)]) (l := pkT 4 0 zS (.slice (some ⟨b4, 0, none⟩) 2 2) (.slice none 0 0)) rfl (bld27_0_3 _ _ _ _)) ?_))))))
 refine JLr (Ze 1 (vs := pkT 4 0 zS (.slice (some ⟨b4, 0, none⟩) 2 2) (.slice none 0 0)) (l := pkT 4 0 zS (.slice (some ⟨b4, 0, none⟩) 2 2) (.slice none 0 0)) Zu rfl rfl rfl rfl rfl (ZI rfl rfl) (Z0 ..) <| Za <| Zl <| ⟨.agg ⟨pkT 4 0 zS (.slice (some ⟨b4, 0, none⟩) 2 2) (.slice none 0 0)⟩, [k4], Ret.one rfl (RV.cell Zu rfl (At.bx 1 rfl) (ZZ ..)), (Sk Sub.nil), ?_⟩)
 exact ⟨_, _, rfl, rfl, ho4⟩
theorem leD_ct (x : List Value) (hlx : x.length = 36) (hkx : okc x) (y : List Value) (hly : y.length = 36) (hky : okc y) (H : Heap) : CT Tryz.prog 151 ⟨[.agg ⟨x⟩, .agg ⟨y⟩]⟩ [] H (fun r N => ∃ sv k, r = .agg ⟨pkT 5 0 zS sv (.slice none 0 0)⟩ ∧ N = [k] ∧ Own 27 36 sv [x, y] k) := by
 refine Zo Tryz.func151 rfl rfl <| Zd <| Zb <| JLr (Zt (l := x) rfl rfl fun b1 => JLr (Zt (l := y) rfl rfl fun b2 => JLr (Zj (l := pkT 0 0 zS (.slice none 0 0) (.slice none 0 0)) Tryz.zeroValue27 rfl fun b3 => Za <| Zd <| Zb <| JLr (Zh Zu rfl (At.bx 2 rfl) (Zx hlx) <| JLr (Zh Zu rfl (At.bx 1 rfl) (Zx hly) <| JLr (Zr (vs := [.agg ⟨x⟩, .agg ⟨y⟩]) [x, y] Tryz.runUnderlying24 el27 rfl rfl (by intro e he; simp only [List.mem_cons, List.not_mem_nil, or_false] at he; rcases he with rfl | rfl <;> first | exact hlx | exact hly) rfl (by decide) fun b4 k4 ho4 hk4 => JLq (.agg ⟨pkT 5 0 zS (.slice (some ⟨b4, 0, none⟩) 2 2) (.slice none 0 0)⟩) (Pu.build (pv := [(0, .int .i64 5), (3, .slice (some ⟨b4, 0, none⟩) 2 2)]) (l := pkT 5 0 zS (.slice (some ⟨b4, 0, none⟩) 2 2) (.slice none 0 0)) rfl (bld27_0_3 _ _ _ _)) ?_))))))
 refine JLr (Ze 1 (vs := pkT 5 0 zS (.slice (some ⟨b4, 0, none⟩) 2 2) (.slice none 0 0)) (l := pkT 5 0 zS (.slice (some ⟨b4, 0, none⟩) 2 2) (.slice none 0 0)) Zu rfl rfl rfl rfl rfl (ZI rfl rfl) (Z0 ..) <| Za <| Zl <| ⟨.agg ⟨pkT 5 0 zS (.slice (some ⟨b4, 0, none⟩) 2 2) (.slice none 0 0)⟩, [k4], Ret.one rfl (RV.cell Zu rfl (At.bx 1 rfl) (ZZ ..)), (Sk Sub.nil), ?_⟩)
 exact ⟨_, _, rfl, rfl, ho4⟩
theorem prD_ct (n : Int) (x : List Value) (hlx : x.length = 36) (hkx : okc x) (y : List Value) (hly : y.length = 36) (hky : okc y) (H : Heap) : CT Tryz.prog 152 ⟨[.int .i64 n, .agg ⟨x⟩, .agg ⟨y⟩]⟩ [] H (fun r N => ∃ sv k, r = .agg ⟨pkT 10 n zS sv (.slice none 0 0)⟩ ∧ N = [k] ∧ Own 27 36 sv [x, y] k) := by
 refine Zo Tryz.func152 rfl rfl <| Zd <| Zb <| JLr (Zt (l := x) rfl rfl fun b1 => JLr (Zt (l := y) rfl rfl fun b2 => JLr (Zj (l := pkT 0 0 zS (.slice none 0 0) (.slice none 0 0)) Tryz.zeroValue27 rfl fun b3 => Za <| Zd <| Zb <| JLm (.int .i64 n) <| JLr (Zh Zu rfl (At.bx 2 rfl) (Zx hlx) <| JLr (Zh Zu rfl (At.bx 1 rfl) (Zx hly) <| JLr (Zr (vs := [.agg ⟨x⟩, .agg ⟨y⟩]) [x, y] Tryz.runUnderlying24 el27 rfl rfl (by intro e he; simp only [List.mem_cons, List.not_mem_nil, or_false] at he; rcases he with rfl | rfl <;> first | exact hlx | exact hly) rfl (by decide) fun b4 k4 ho4 hk4 => ?_))))))
 refine JLq (.agg ⟨pkT 10 n zS (.slice (some ⟨b4, 0, none⟩) 2 2) (.slice none 0 0)⟩) (Pu.build (pv := [(0, .int .i64 10), (1, .int .i64 n), (3, .slice (some ⟨b4, 0, none⟩) 2 2)]) (l := pkT 10 n zS (.slice (some ⟨b4, 0, none⟩) 2 2) (.slice none 0 0)) rfl (bld27_0_1_3 _ _ _ _ _)) <| JLr (Ze 1 (vs := pkT 10 n zS (.slice (some ⟨b4, 0, none⟩) 2 2) (.slice none 0 0)) (l := pkT 10 n zS (.slice (some ⟨b4, 0, none⟩) 2 2) (.slice none 0 0)) Zu rfl rfl rfl rfl rfl (ZI rfl rfl) (Z0 ..) <| Za <| Zl <| ⟨.agg ⟨pkT 10 n zS (.slice (some ⟨b4, 0, none⟩) 2 2) (.slice none 0 0)⟩, [k4], Ret.one rfl (RV.cell Zu rfl (At.bx 1 rfl) (ZZ ..)), (Sk Sub.nil), ?_⟩)
 exact ⟨_, _, rfl, rfl, ho4⟩
theorem askD_ct (f : Sm) (n : Int) (x : List Value) (hlx : x.length = 36) (hkx : okc x) (H : Heap) : CT Tryz.prog 154 ⟨[.agg ⟨sC f⟩, .int .i64 n, .agg ⟨x⟩]⟩ [] H (fun r N => ∃ sv k, r = .agg ⟨pkT 11 n f sv (.slice none 0 0)⟩ ∧ N = [k] ∧ Own 27 36 sv [x] k) := by
 refine Zo Tryz.func154 rfl rfl <| Zd <| Zb <| JLr (Zt (l := sC f) rfl rfl fun b1 => JLr (Zt (l := x) rfl rfl fun b2 => JLr (Zj (l := pkT 0 0 zS (.slice none 0 0) (.slice none 0 0)) Tryz.zeroValue27 rfl fun b3 => Za <| Zd <| Zb <| JLr (Zh Xb rfl (At.bx 2 rfl) (Zx rfl) <| JLm (.int .i64 n) <| JLr (Zh Zu rfl (At.bx 1 rfl) (Zx hlx) <| JLr (Zr (vs := [.agg ⟨x⟩]) [x] Tryz.runUnderlying24 el27 rfl rfl (by intro e he; simp only [List.mem_cons, List.not_mem_nil, or_false] at he; subst he; exact hlx) rfl (by decide) fun b4 k4 ho4 hk4 => ?_))))))
 refine JLq (.agg ⟨pkT 11 n f (.slice (some ⟨b4, 0, none⟩) 1 1) (.slice none 0 0)⟩) (Pu.build (pv := [(0, .int .i64 11), (2, .agg ⟨sC f⟩), (1, .int .i64 n), (3, .slice (some ⟨b4, 0, none⟩) 1 1)]) (l := pkT 11 n f (.slice (some ⟨b4, 0, none⟩) 1 1) (.slice none 0 0)) rfl (bld27_0_2_1_3 _ _ _ _ _ _)) <| JLr (Ze 1 (vs := pkT 11 n f (.slice (some ⟨b4, 0, none⟩) 1 1) (.slice none 0 0)) (l := pkT 11 n f (.slice (some ⟨b4, 0, none⟩) 1 1) (.slice none 0 0)) Zu rfl rfl rfl rfl rfl (ZI rfl rfl) (Z0 ..) <| Za <| Zl <| ⟨.agg ⟨pkT 11 n f (.slice (some ⟨b4, 0, none⟩) 1 1) (.slice none 0 0)⟩, [k4], Ret.one rfl (RV.cell Zu rfl (At.bx 1 rfl) (ZZ ..)), (Sk Sub.nil), ?_⟩)
 exact ⟨_, _, rfl, rfl, ho4⟩
theorem maD_ct (x : List Value) (hlx : x.length = 36) (hkx : okc x) (sa : Option Addr) (sn sc : Nat) (H : Heap) : CT Tryz.prog 41 ⟨[.agg ⟨x⟩, .slice sa sn sc]⟩ [] H (fun r N => ∃ sv k, r = .agg ⟨pkT 9 0 zS sv (.slice sa sn sc)⟩ ∧ N = [k] ∧ Own 27 36 sv [x] k) := by
 refine Zo Tryz.func41 rfl rfl <| Zd <| Zb <| JLr (Zt (l := x) rfl rfl fun b1 => JLr (Zj (l := pkT 0 0 zS (.slice none 0 0) (.slice none 0 0)) Tryz.zeroValue27 rfl fun b2 => Za <| Zd <| Zb <| JLr (Zh Zu rfl (At.bx 1 rfl) (Zx hlx) <| JLr (Zr (vs := [.agg ⟨x⟩]) [x] Tryz.runUnderlying24 el27 rfl rfl (by intro e he; simp only [List.mem_cons, List.not_mem_nil, or_false] at he; subst he; exact hlx) rfl (by decide) fun b3 k3 ho3 hk3 => JLm (.slice sa sn sc) <| JLq (.agg ⟨pkT 9 0 zS (.slice (some ⟨b3, 0, none⟩) 1 1) (.slice sa sn sc)⟩) (Pu.build (pv := [(0, .int .i64 9), (3, .slice (some ⟨b3, 0, none⟩) 1 1), (4, .slice sa sn sc)]) (l := pkT 9 0 zS (.slice (some ⟨b3, 0, none⟩) 1 1) (.slice sa sn sc)) rfl (bld27_0_3_4 _ _ _ _ _ _ _)) <| JLr (Ze 1 (vs := pkT 9 0 zS (.slice (some ⟨b3, 0, none⟩) 1 1) (.slice sa sn sc)) (l := pkT 9 0 zS (.slice (some ⟨b3, 0, none⟩) 1 1) (.slice sa sn sc)) Zu rfl rfl rfl rfl rfl (ZI rfl rfl) (Z0 ..) ?_)))))
 refine Za <| Zl <| ⟨.agg ⟨pkT 9 0 zS (.slice (some ⟨b3, 0, none⟩) 1 1) (.slice sa sn sc)⟩, [k3], Ret.one rfl (RV.cell Zu rfl (At.bx 1 rfl) (ZZ ..)), (Sk Sub.nil), ?_⟩
 exact ⟨_, _, rfl, rfl, ho3⟩
theorem Y2 (more d m : Int) (b3 b4 b5 bM bS : Nat) (v : Value) (l : List Int) (L a s : Int) (H : Heap) (hv : Hs.rdS RB 1 H v l) (h3 : H b3 = some (.cells ⟨[.pointer (some ⟨bM, 0, none⟩)]⟩ 167 (0, 0))) (h4 : H b4 = some (.cells ⟨[.int .i64 d]⟩ 3 (0, 0))) (h5 : H b5 = some (.cells ⟨[.int .i64 m]⟩ 3 (0, 0))) (hd0 : -1000000 ≤ d) (hd1 : d ≤ 1000000) (hm0 : 0 ≤ more) (hm1 : more ≤ 1000) (hsc : ∀ h, Hle H h → CT Tryz.prog 124 ⟨[.pointer (some ⟨bM, 0, none⟩), .int .i64 (d + more), .int .i64 m]⟩ [([(bM, .cells ⟨[.pointer (some ⟨bS, 0, none⟩), .int .i64 L]⟩ 169 (0, 0))]) ++ ([(bS, .cells ⟨[v, .int .i64 a, .int .u64 s]⟩ 128 (0, 0))])] h (fun r N => ∃ t cs k l' a' s', r = .agg ⟨cs⟩ ∧ N = [([(bM, .cells ⟨[.pointer (some ⟨bS, 0, none⟩), .int .i64 (l')]⟩ 169 (0, 0))]) ++ ([(bS, .cells ⟨[v, .int .i64 (a'), .int .u64 (s')]⟩ 128 (0, 0))]), k] ∧ OT t cs k ∧ (ZR (d + more) m 0 t = 0 ∧ (sizeT t : Int) ≤ 20 * (L - l')) ∧ (l' ≤ L - 1 ∧ (L ≤ 1 → l' = L - 1) ∧ (1 ≤ L → -3 * (L - 1) ≤ l')) ∧ (a ≤ a' ∧ a' ≤ a + 100 * (L - l')))) : CT Tryz.prog 146 ⟨[.int .i64 more, .pointer (some ⟨b3, 0, none⟩), .pointer (some ⟨b4, 0, none⟩), .pointer (some ⟨b5, 0, none⟩)]⟩ [([(bM, .cells ⟨[.pointer (some ⟨bS, 0, none⟩), .int .i64 L]⟩ 169 (0, 0))]) ++ ([(bS, .cells ⟨[v, .int .i64 a, .int .u64 s]⟩ 128 (0, 0))])] H (fun r N => ∃ t cs k l' a' s', r = .agg ⟨cs⟩ ∧ N = [([(bM, .cells ⟨[.pointer (some ⟨bS, 0, none⟩), .int .i64 (l')]⟩ 169 (0, 0))]) ++ ([(bS, .cells ⟨[v, .int .i64 (a'), .int .u64 (s')]⟩ 128 (0, 0))]), k] ∧ OT t cs k ∧ (ZR (d + more) m 0 t = 0 ∧ (sizeT t : Int) ≤ 20 * (L - l')) ∧ (l' ≤ L - 1 ∧ (L ≤ 1 → l' = L - 1) ∧ (1 ≤ L → -3 * (L - 1) ≤ l')) ∧ (a ≤ a' ∧ a' ≤ a + 100 * (L - l'))) := by
 refine Zo Tryz.func146 rfl rfl <| Zd <| Zb <| JLr (Zj (l := pkT 0 0 zS (.slice none 0 0) (.slice none 0 0)) Tryz.zeroValue27 rfl fun b1 => Za <| Zd <| Zb <| JLr (Zf Xc rfl (At.im h3) rfl <| JLr (Zf ty3 rfl (At.im h4) rfl <| JLm (.int .i64 more) <| JLq (.int .i64 (d + more)) (Pu.add64 rfl rfl (by first | omega | (constructor <;> omega))) <| JLr (Zf ty3 rfl (At.im h5) rfl <| Zw 1 rfl Tryz.call124 rfl rfl (fun hin => hsc _ (Hle.hu _ _)) rfl ?_))))
 rintro _ _ ⟨t2, cs2, k2, l2, a2, s2, rfl, rfl, hO2, ⟨hn2, hz2⟩, hl2, ha2⟩
 refine Zq (M' := [[(bM, .cells ⟨[.pointer (some ⟨bS, 0, none⟩), .int .i64 l2]⟩ 169 (0, 0))], [(bS, .cells ⟨[v, .int .i64 a2, .int .u64 s2]⟩ 128 (0, 0))], k2, [(b1, .cells ⟨pkT 0 0 zS (.slice none 0 0) (.slice none 0 0)⟩ 27 (0, 0))]]) (Sub.flat Sub.refl (by simp)) <| JLr (Ze 3 (vs := cs2) (l := cs2) Zu rfl rfl rfl rfl hO2.len hO2.ok (ZL (n := 36) rfl hO2.len) <| Za <| Zl <| ⟨.agg ⟨cs2⟩, [([(bM, .cells ⟨[.pointer (some ⟨bS, 0, none⟩), .int .i64 l2]⟩ 169 (0, 0))]) ++ ([(bS, .cells ⟨[v, .int .i64 a2, .int .u64 s2]⟩ 128 (0, 0))]), k2], Ret.one rfl (RV.cell Zu rfl (At.bx 3 rfl) (Zx hO2.len)), (Sub.join (Sk (Sk (Sk Sub.nil)))), ?_⟩)
 exact ⟨_, _, _, _, _, _, rfl, rfl, hO2, ⟨hn2, hz2⟩, hl2, ha2⟩
end Go.Proofs.YtmophpgiaiemhaaGreat.Hs
/-! Walks, printed by a program of this session's own (gen.py). -/
namespace Go.Proofs.YtmophpgiaiemhaaGreat.Hs
open Go Go.Proofs
set_option maxRecDepth 100000
set_option linter.unusedVariables false
set_option linter.unusedSimpArgs false
attribute [local irreducible] JL J CT wlo
set_option maxHeartbeats 4000000 in
theorem scoped_ct : ∀ (q : Nat) (bM bS : Nat) (v : Value) (l : List Int) (L a s d m : Int) (H : Heap), L.toNat = q → Hs.rdS RB 1 H v l → 0 ≤ a → a + 400 * L ≤ 1000000 → -200 ≤ L → L ≤ 60 → 0 ≤ d → d + 10 * L ≤ 10000 → 0 ≤ m → m ≤ 8 → CT Tryz.prog 124 ⟨[.pointer (some ⟨bM, 0, none⟩), .int .i64 d, .int .i64 m]⟩ [([(bM, .cells ⟨[.pointer (some ⟨bS, 0, none⟩), .int .i64 L]⟩ 169 (0, 0))]) ++ ([(bS, .cells ⟨[v, .int .i64 a, .int .u64 s]⟩ 128 (0, 0))])] H (fun r N => ∃ t cs k l' a' s', r = .agg ⟨cs⟩ ∧ N = [([(bM, .cells ⟨[.pointer (some ⟨bS, 0, none⟩), .int .i64 (l')]⟩ 169 (0, 0))]) ++ ([(bS, .cells ⟨[v, .int .i64 (a'), .int .u64 (s')]⟩ 128 (0, 0))]), k] ∧ OT t cs k ∧ (ZR d m 0 t = 0 ∧ (sizeT t : Int) ≤ 20 * (L - l')) ∧ (l' ≤ L - 1 ∧ (L ≤ 1 → l' = L - 1) ∧ (1 ≤ L → -3 * (L - 1) ≤ l')) ∧ (a ≤ a' ∧ a' ≤ a + 100 * (L - l'))) := by
 intro q
 induction q using Nat.strongRecOn with
 | _ q ih =>
 intro bM bS v l L a s d m H hq hv ha0 ha1 hL0 hL1 hd0 hd1 hm0 hm1
 have hdz20 : dz 2 = 20 := rfl
 have hpz7 : pz 2 = 7 := rfl
 refine Zo Tryz.func124 rfl rfl <| Z1 (M' := [[(bM, .cells ⟨[.pointer (some ⟨bS, 0, none⟩), .int .i64 L]⟩ 169 (0, 0))], [(bS, .cells ⟨[v, .int .i64 a, .int .u64 s]⟩ 128 (0, 0))]]) (Sub.flat Sub.refl (by simp)) <| Zd <| Zb <| JLr (Zt (l := [.pointer (some ⟨bM, 0, none⟩)]) rfl rfl fun b1 => JLr (Zt (l := [.int .i64 d]) rfl rfl fun b2 => JLr (Zt (l := [.int .i64 m]) rfl rfl fun b3 => JLr (Zj (l := pkT 0 0 zS (.slice none 0 0) (.slice none 0 0)) Tryz.zeroValue27 rfl fun b4 => Za <| Zd <| Zb <| JLr (Zf Xc rfl (At.bx 3 rfl) rfl <| JLq (.pointer (some ⟨bM, 0, none⟩)) (Pu.nilCheck rfl) ?_)))))
 refine JLq (.pointer (some ⟨bM, 1, none⟩)) (fa169_1 rfl rfl) <| JLr (Zf ty3 rfl (At.bx 4 rfl) rfl <| JLq (.int .i64 (L - 1)) (Pu.sub64 rfl rfl (by first | omega | (constructor <;> omega))) <| JLq (.pointer (some ⟨bM, 0, none⟩)) (Pu.nilCheck rfl) <| JLq (.pointer (some ⟨bM, 1, none⟩)) (fa169_1 rfl rfl) <| JLr (Ze 4 (vs := [.int .i64 (L - 1)]) (l := [.pointer (some ⟨bS, 0, none⟩), .int .i64 (L - 1)]) ty3 rfl rfl rfl rfl rfl (Zm rfl Zv) rfl <| Za <| Zd <| Zb <| JLq (.func (.func 146) ⟨[]⟩ ⟨[.pointer (some ⟨b1, 0, none⟩), .pointer (some ⟨b2, 0, none⟩), .pointer (some ⟨b3, 0, none⟩)]⟩) (Pu.makeFunc rfl rfl) <| JLa (.func (.func 146) ⟨[]⟩ ⟨[.pointer (some ⟨b1, 0, none⟩), .pointer (some ⟨b2, 0, none⟩), .pointer (some ⟨b3, 0, none⟩)]⟩) <| Za <| Zd ?_))
 refine Zb <| JLr (Zf Xc rfl (At.bx 3 rfl) rfl <| JLq (.pointer (some ⟨bM, 0, none⟩)) (Pu.nilCheck rfl) <| JLq (.pointer (some ⟨bM, 0, none⟩)) (YC rfl rfl) <| JLr (Zf ty62 rfl (At.bx 4 rfl) rfl <| Zw 5 rfl Tryz.call147 rfl rfl (fun hin => YJ _ _ _ _ _ _ (RBs.mono (Hle.hu _ _) hv) (by omega) (by omega) _) rfl ?_))
 rintro _ _ ⟨n5, a5, s5, rfl, rfl, hn5, ha5⟩
 refine JLa (.int .i64 n5) <| Za <| Zd <| Zd <| Zb <| JLr (Zf Xc rfl (At.bx 4 rfl) rfl <| JLq (.pointer (some ⟨bM, 0, none⟩)) (Pu.nilCheck rfl) <| JLq (.pointer (some ⟨bM, 1, none⟩)) (fa169_1 rfl rfl) <| JLr (Zf ty3 rfl (At.bx 5 rfl) rfl <| JLq (.bool (decide (L - 1 ≤ 0))) (Pu.leq rfl rfl) <| Za <| J_weak (N := fun ρ M => ∃ (kj aj sj : Int), (0 ≤ kj ∧ kj < 14 ∧ (L - 1 ≤ 0 → kj < 4)) ∧ (a ≤ aj ∧ aj ≤ a + 2) ∧ ρ 3 = .pointer (some ⟨b1, 0, none⟩) ∧ ρ 4 = .pointer (some ⟨b2, 0, none⟩) ∧ ρ 5 = .pointer (some ⟨b3, 0, none⟩) ∧ ρ 6 = .pointer (some ⟨b4, 0, none⟩) ∧ ρ 7 = .func (.func 146) ⟨[]⟩ ⟨[.pointer (some ⟨b1, 0, none⟩), .pointer (some ⟨b2, 0, none⟩), .pointer (some ⟨b3, 0, none⟩)]⟩ ∧ ρ 8 = .int .i64 kj ∧ M = [[(bS, .cells ⟨[v, .int .i64 aj, .int .u64 sj]⟩ 128 (0, 0))], [(b4, .cells ⟨pkT 0 0 zS (.slice none 0 0) (.slice none 0 0)⟩ 27 (0, 0))], [(b3, .cells ⟨[.int .i64 m]⟩ 3 (0, 0))], [(b2, .cells ⟨[.int .i64 d]⟩ 3 (0, 0))], [(b1, .cells ⟨[.pointer (some ⟨bM, 0, none⟩)]⟩ 167 (0, 0))], [(bM, .cells ⟨[.pointer (some ⟨bS, 0, none⟩), .int .i64 (L - 1)]⟩ 169 (0, 0))]]) ?_ ?_))
 ·refine Zi (b := decide (L - 1 ≤ 0)) rfl (fun h6 => ?_) (fun h6 => ?_)
  ·replace h6 := dt h6
   refine Zb <| JLr (Zf Xc rfl (At.bx 4 rfl) rfl <| JLq (.pointer (some ⟨bM, 0, none⟩)) (Pu.nilCheck rfl) <| JLq (.pointer (some ⟨bM, 0, none⟩)) (YC rfl rfl) <| JLr (Zf ty62 rfl (At.bx 5 rfl) rfl <| Zw 0 rfl Tryz.call147 rfl rfl (fun hin => YJ _ _ _ _ _ _ (RBs.mono (Hle.hu _ _) hv) (by omega) (by omega) _) rfl ?_))
   rintro _ _ ⟨n7, a7, s7, rfl, rfl, hn7, ha7⟩
   refine JLa (.int .i64 n7) <| Za ?_
   exact ⟨n7, a7, s7, (by omega), (by omega), rfl, rfl, rfl, rfl, rfl, rfl, rfl⟩
  replace h6 := df h6
  refine Zp ?_
  exact ⟨n5, a5, s5, (by omega), (by omega), rfl, rfl, rfl, rfl, rfl, rfl, rfl⟩
 rintro ρ8 _ ⟨kj, aj, sj, hkj, haj, e9, e10, e11, e12, e13, e14, rfl⟩
 obtain ⟨ρ15, rfl⟩ := Zc (uc e9 (uc e10 (uc e11 (uc e12 (uc e13 (uc e14 un))))))
 clear e9 e10 e11 e12 e13 e14
 refine Zd <| Zs <| Yo (fun ρ M => ρ 3 = .pointer (some ⟨b1, 0, none⟩) ∧ ρ 4 = .pointer (some ⟨b2, 0, none⟩) ∧ ρ 5 = .pointer (some ⟨b3, 0, none⟩) ∧ ρ 6 = .pointer (some ⟨b4, 0, none⟩) ∧ ρ 7 = .func (.func 146) ⟨[]⟩ ⟨[.pointer (some ⟨b1, 0, none⟩), .pointer (some ⟨b2, 0, none⟩), .pointer (some ⟨b3, 0, none⟩)]⟩ ∧ ρ 8 = .int .i64 kj ∧ ρ 36 = .bool ((decide (kj = 0)) && (decide (0 < d))) ∧ M = [[(bS, .cells ⟨[v, .int .i64 aj, .int .u64 sj]⟩ 128 (0, 0))], [(b4, .cells ⟨pkT 0 0 zS (.slice none 0 0) (.slice none 0 0)⟩ 27 (0, 0))], [(b3, .cells ⟨[.int .i64 m]⟩ 3 (0, 0))], [(b2, .cells ⟨[.int .i64 d]⟩ 3 (0, 0))], [(b1, .cells ⟨[.pointer (some ⟨bM, 0, none⟩)]⟩ 167 (0, 0))], [(bM, .cells ⟨[.pointer (some ⟨bS, 0, none⟩), .int .i64 (L - 1)]⟩ 169 (0, 0))]]) ?_ ?_
 ·refine Zb <| JLm (.int .i64 kj) <| JLq (.bool (decide (kj = 0))) (Pu.eql rfl rfl) <| JLm (.bool (decide (kj = 0))) ?_
  cases h16 : (decide (kj = 0)) with
  | true =>
   replace h16 := dt h16
   refine JLr (Zf ty3 rfl (At.bx 3 rfl) rfl <| JLq (.bool (decide (0 < d))) (Pu.gtr rfl rfl) <| JLq (.bool (decide (0 < d))) (Pu.pickT rfl rfl) <| JLa (.bool (decide (0 < d))) <| Za ?_)
   first | exact ⟨rfl, rfl, rfl, rfl, rfl, rfl, rfl, rfl⟩ | (exfalso; omega)
  | false =>
   replace h16 := df h16
   iterate 2 refine Zy rfl ?_
   refine JLq (.bool false) (Pu.pickF rfl rfl) <| JLa (.bool false) <| Za ?_
   first | exact ⟨rfl, rfl, rfl, rfl, rfl, rfl, rfl, rfl⟩ | (exfalso; omega)
 rintro ρ17 _ ⟨e18, e19, e20, e21, e22, e23, e24, rfl⟩
 obtain ⟨ρ25, rfl⟩ := Zc (uc e18 (uc e19 (uc e20 (uc e21 (uc e22 (uc e23 (uc e24 un)))))))
 clear e18 e19 e20 e21 e22 e23 e24
 refine Zi (b := (decide (kj = 0)) && (decide (0 < d))) rfl (fun h26 => ?_) (fun h26 => ?_)
 ·obtain ⟨h26a, h26b⟩ := andT h26
  replace h26a := dt h26a
  replace h26b := dt h26b
  refine Zd <| Ya mixed #[0, 1, 3, 7, 0, 31, 63, 127] 5 5 6 rfl (by kernel_rfl) (fun i r27 N27 => match i with | 0 => (r27 0) = .pointer (some ⟨bM, 0, none⟩) | 1 => (r27 1) = .pointer (some ⟨bM, 0, none⟩) | 2 => (r27 2) = .pointer (some ⟨bM, 0, none⟩) | 3 => (r27 3) = .pointer (some ⟨bS, 0, none⟩) | 4 => (r27 4) = .int .i64 d | _ => True) ⟨?_, ?_, ?_, ?_, ?_, trivial⟩ ?_
  ·intro ρ r27 N27 B hB hBa hp hr hr0
   obtain ⟨ρ28, rfl⟩ := Zc (uc (show ρ 3 = .pointer (some ⟨b1, 0, none⟩) from hr0 3 (by kernel_rfl)) un)
   refine JLr (Zf Xc rfl (At.bx 9 (Zn ((hB 4 (by decide)).trans rfl))) rfl <| Za ?_)
   exact ⟨.pointer (some ⟨bM, 0, none⟩), [], rfl, (Sub.emp Sub.refl), rfl⟩
  ·intro ρ r27 N27 B hB hBa hp hr hr0
   obtain ⟨ρ29, rfl⟩ := Zc (uc (show ρ 43 = .pointer (some ⟨bM, 0, none⟩) from (hr 0 _ _ (by decide) rfl rfl rfl).trans (hp 0 (by decide) rfl)) un)
   refine JLq (.pointer (some ⟨bM, 0, none⟩)) (Pu.nilCheck rfl) <| Za ?_
   exact ⟨.pointer (some ⟨bM, 0, none⟩), [], rfl, (Sub.emp Sub.refl), rfl⟩
  ·intro ρ r27 N27 B hB hBa hp hr hr0
   obtain ⟨ρ30, rfl⟩ := Zc (uc (show ρ 44 = .pointer (some ⟨bM, 0, none⟩) from (hr 1 _ _ (by decide) rfl rfl rfl).trans (hp 1 (by decide) rfl)) un)
   refine JLq (.pointer (some ⟨bM, 0, none⟩)) (YC rfl rfl) <| Za ?_
   exact ⟨.pointer (some ⟨bM, 0, none⟩), [], rfl, (Sub.emp Sub.refl), rfl⟩
  ·intro ρ r27 N27 B hB hBa hp hr hr0
   obtain ⟨ρ31, rfl⟩ := Zc (uc (show ρ 45 = .pointer (some ⟨bM, 0, none⟩) from (hr 2 _ _ (by decide) rfl rfl rfl).trans (hp 2 (by decide) rfl)) un)
   refine JLr (Zf ty62 rfl (At.bx 10 (Zn ((hB 5 (by decide)).trans rfl))) rfl <| Za ?_)
   exact ⟨.pointer (some ⟨bS, 0, none⟩), [], rfl, (Sub.emp Sub.refl), rfl⟩
  ·intro ρ r27 N27 B hB hBa hp hr hr0
   obtain ⟨ρ32, rfl⟩ := Zc (uc (show ρ 4 = .pointer (some ⟨b2, 0, none⟩) from hr0 4 (by kernel_rfl)) un)
   refine JLr (Zf ty3 rfl (At.bx 8 (Zn ((hB 3 (by decide)).trans rfl))) rfl <| Za ?_)
   exact ⟨.int .i64 d, [], rfl, (Sub.emp Sub.refl), rfl⟩
  intro ρ r27 N27 hp hr hr0
  obtain ⟨ρ33, rfl⟩ := Zc (uc (show ρ 3 = .pointer (some ⟨b1, 0, none⟩) from hr0 3 (by kernel_rfl)) (uc (show ρ 6 = .pointer (some ⟨b4, 0, none⟩) from hr0 6 (by kernel_rfl)) (uc (show ρ 7 = .func (.func 146) ⟨[]⟩ ⟨[.pointer (some ⟨b1, 0, none⟩), .pointer (some ⟨b2, 0, none⟩), .pointer (some ⟨b3, 0, none⟩)]⟩ from hr0 7 (by kernel_rfl)) (uc (show ρ 46 = .pointer (some ⟨bS, 0, none⟩) from (hr 3 _ _ (by decide) rfl rfl).trans (hp 3 (by decide))) (uc (show ρ 47 = .int .i64 d from (hr 4 _ _ (by decide) rfl rfl).trans (hp 4 (by decide))) un)))))
  clear hp hr hr0 
  refine Zq (M' := [(N27 0), (N27 1), (N27 2), (N27 3), (N27 4), [(bS, .cells ⟨[v, .int .i64 aj, .int .u64 sj]⟩ 128 (0, 0))], [(b4, .cells ⟨pkT 0 0 zS (.slice none 0 0) (.slice none 0 0)⟩ 27 (0, 0))], [(b3, .cells ⟨[.int .i64 m]⟩ 3 (0, 0))], [(b2, .cells ⟨[.int .i64 d]⟩ 3 (0, 0))], [(b1, .cells ⟨[.pointer (some ⟨bM, 0, none⟩)]⟩ 167 (0, 0))], [(bM, .cells ⟨[.pointer (some ⟨bS, 0, none⟩), .int .i64 (L - 1)]⟩ 169 (0, 0))]]) Sub.refl <| Zq (M' := [[(bS, .cells ⟨[v, .int .i64 aj, .int .u64 sj]⟩ 128 (0, 0))], [(b4, .cells ⟨pkT 0 0 zS (.slice none 0 0) (.slice none 0 0)⟩ 27 (0, 0))], [(b3, .cells ⟨[.int .i64 m]⟩ 3 (0, 0))], [(b2, .cells ⟨[.int .i64 d]⟩ 3 (0, 0))], [(b1, .cells ⟨[.pointer (some ⟨bM, 0, none⟩)]⟩ 167 (0, 0))], [(bM, .cells ⟨[.pointer (some ⟨bS, 0, none⟩), .int .i64 (L - 1)]⟩ 169 (0, 0))]]) (Sd (Sd (Sd (Sd (Sd (Sk (Sk (Sk (Sk (Sk (Sk Sub.nil))))))))))) ?_
  show JL _ _ _ [_, _, _] _ _ _
  refine Zw 0 rfl Tryz.call147 rfl rfl (fun hin => YJ _ _ _ _ _ _ (RBs.mono (Hle.hu _ _) hv) (by omega) (by omega) _) rfl ?_
  rintro _ _ ⟨n34, a34, s34, rfl, rfl, hn34, ha34⟩
  refine Zg rfl Tryz.call48 rfl (fun hin => va_ct _ _ (by unfold inI; omega)) rfl ?_
  rintro _ _ ⟨cs35, k35, rfl, rfl, hO35⟩
  refine JLr (Ze 2 (vs := cs35) (l := cs35) Zu rfl rfl rfl rfl hO35.len hO35.ok (ZL (n := 36) rfl hO35.len) <| Za <| Zl <| ⟨.agg ⟨cs35⟩, [([(bM, .cells ⟨[.pointer (some ⟨bS, 0, none⟩), .int .i64 (L - 1)]⟩ 169 (0, 0))]) ++ ([(bS, .cells ⟨[v, .int .i64 a34, .int .u64 s34]⟩ 128 (0, 0))]), k35], Ret.one rfl (RV.cell Zu rfl (At.bx 2 rfl) (Zx hO35.len)), (Sub.join (Sub.cons 6 rfl (Sub.cons 1 rfl (Sk Sub.nil)))), ?_⟩)
  exact ⟨eVa n34, _, _, _, _, _, rfl, rfl, hO35, ⟨nErr_var (by omega) (by omega), by simp only [eVa, eNu, sizeT, sizeTs, sizeCs]; omega⟩, by omega, by omega⟩
 refine Yo (fun ρ M => ρ 3 = .pointer (some ⟨b1, 0, none⟩) ∧ ρ 5 = .pointer (some ⟨b3, 0, none⟩) ∧ ρ 6 = .pointer (some ⟨b4, 0, none⟩) ∧ ρ 7 = .func (.func 146) ⟨[]⟩ ⟨[.pointer (some ⟨b1, 0, none⟩), .pointer (some ⟨b2, 0, none⟩), .pointer (some ⟨b3, 0, none⟩)]⟩ ∧ ρ 8 = .int .i64 kj ∧ ρ 50 = .bool ((decide (kj = 1)) && (decide (0 < m))) ∧ M = [[(bS, .cells ⟨[v, .int .i64 aj, .int .u64 sj]⟩ 128 (0, 0))], [(b4, .cells ⟨pkT 0 0 zS (.slice none 0 0) (.slice none 0 0)⟩ 27 (0, 0))], [(b3, .cells ⟨[.int .i64 m]⟩ 3 (0, 0))], [(b2, .cells ⟨[.int .i64 d]⟩ 3 (0, 0))], [(b1, .cells ⟨[.pointer (some ⟨bM, 0, none⟩)]⟩ 167 (0, 0))], [(bM, .cells ⟨[.pointer (some ⟨bS, 0, none⟩), .int .i64 (L - 1)]⟩ 169 (0, 0))]]) ?_ ?_
 ·refine Zb <| JLm (.int .i64 kj) <| JLq (.bool (decide (kj = 1))) (Pu.eql rfl rfl) <| JLm (.bool (decide (kj = 1))) ?_
  cases h36 : (decide (kj = 1)) with
  | true =>
   replace h36 := dt h36
   refine JLr (Zf ty3 rfl (At.bx 2 rfl) rfl <| JLq (.bool (decide (0 < m))) (Pu.gtr rfl rfl) <| JLq (.bool (decide (0 < m))) (Pu.pickT rfl rfl) <| JLa (.bool (decide (0 < m))) <| Za ?_)
   first | exact ⟨rfl, rfl, rfl, rfl, rfl, rfl, rfl⟩ | (exfalso; omega)
  | false =>
   replace h36 := df h36
   iterate 2 refine Zy rfl ?_
   refine JLq (.bool false) (Pu.pickF rfl rfl) <| JLa (.bool false) <| Za ?_
   first | exact ⟨rfl, rfl, rfl, rfl, rfl, rfl, rfl⟩ | (exfalso; omega)
 rintro ρ37 _ ⟨e38, e39, e40, e41, e42, e43, rfl⟩
 obtain ⟨ρ44, rfl⟩ := Zc (uc e38 (uc e39 (uc e40 (uc e41 (uc e42 (uc e43 un))))))
 clear e38 e39 e40 e41 e42 e43
 refine Zi (b := (decide (kj = 1)) && (decide (0 < m))) rfl (fun h45 => ?_) (fun h45 => ?_)
 ·obtain ⟨h45a, h45b⟩ := andT h45
  replace h45a := dt h45a
  replace h45b := dt h45b
  refine Zd <| Ya mixed #[0, 1, 3, 7, 0, 31, 63, 127] 5 5 6 rfl (by kernel_rfl) (fun i r46 N46 => match i with | 0 => (r46 0) = .pointer (some ⟨bM, 0, none⟩) | 1 => (r46 1) = .pointer (some ⟨bM, 0, none⟩) | 2 => (r46 2) = .pointer (some ⟨bM, 0, none⟩) | 3 => (r46 3) = .pointer (some ⟨bS, 0, none⟩) | 4 => (r46 4) = .int .i64 m | _ => True) ⟨?_, ?_, ?_, ?_, ?_, trivial⟩ ?_
  ·intro ρ r46 N46 B hB hBa hp hr hr0
   obtain ⟨ρ47, rfl⟩ := Zc (uc (show ρ 3 = .pointer (some ⟨b1, 0, none⟩) from hr0 3 (by kernel_rfl)) un)
   refine JLr (Zf Xc rfl (At.bx 9 (Zn ((hB 4 (by decide)).trans rfl))) rfl <| Za ?_)
   exact ⟨.pointer (some ⟨bM, 0, none⟩), [], rfl, (Sub.emp Sub.refl), rfl⟩
  ·intro ρ r46 N46 B hB hBa hp hr hr0
   obtain ⟨ρ48, rfl⟩ := Zc (uc (show ρ 57 = .pointer (some ⟨bM, 0, none⟩) from (hr 0 _ _ (by decide) rfl rfl rfl).trans (hp 0 (by decide) rfl)) un)
   refine JLq (.pointer (some ⟨bM, 0, none⟩)) (Pu.nilCheck rfl) <| Za ?_
   exact ⟨.pointer (some ⟨bM, 0, none⟩), [], rfl, (Sub.emp Sub.refl), rfl⟩
  ·intro ρ r46 N46 B hB hBa hp hr hr0
   obtain ⟨ρ49, rfl⟩ := Zc (uc (show ρ 58 = .pointer (some ⟨bM, 0, none⟩) from (hr 1 _ _ (by decide) rfl rfl rfl).trans (hp 1 (by decide) rfl)) un)
   refine JLq (.pointer (some ⟨bM, 0, none⟩)) (YC rfl rfl) <| Za ?_
   exact ⟨.pointer (some ⟨bM, 0, none⟩), [], rfl, (Sub.emp Sub.refl), rfl⟩
  ·intro ρ r46 N46 B hB hBa hp hr hr0
   obtain ⟨ρ50, rfl⟩ := Zc (uc (show ρ 59 = .pointer (some ⟨bM, 0, none⟩) from (hr 2 _ _ (by decide) rfl rfl rfl).trans (hp 2 (by decide) rfl)) un)
   refine JLr (Zf ty62 rfl (At.bx 10 (Zn ((hB 5 (by decide)).trans rfl))) rfl <| Za ?_)
   exact ⟨.pointer (some ⟨bS, 0, none⟩), [], rfl, (Sub.emp Sub.refl), rfl⟩
  ·intro ρ r46 N46 B hB hBa hp hr hr0
   obtain ⟨ρ51, rfl⟩ := Zc (uc (show ρ 5 = .pointer (some ⟨b3, 0, none⟩) from hr0 5 (by kernel_rfl)) un)
   refine JLr (Zf ty3 rfl (At.bx 7 (Zn ((hB 2 (by decide)).trans rfl))) rfl <| Za ?_)
   exact ⟨.int .i64 m, [], rfl, (Sub.emp Sub.refl), rfl⟩
  intro ρ r46 N46 hp hr hr0
  obtain ⟨ρ52, rfl⟩ := Zc (uc (show ρ 3 = .pointer (some ⟨b1, 0, none⟩) from hr0 3 (by kernel_rfl)) (uc (show ρ 6 = .pointer (some ⟨b4, 0, none⟩) from hr0 6 (by kernel_rfl)) (uc (show ρ 7 = .func (.func 146) ⟨[]⟩ ⟨[.pointer (some ⟨b1, 0, none⟩), .pointer (some ⟨b2, 0, none⟩), .pointer (some ⟨b3, 0, none⟩)]⟩ from hr0 7 (by kernel_rfl)) (uc (show ρ 60 = .pointer (some ⟨bS, 0, none⟩) from (hr 3 _ _ (by decide) rfl rfl).trans (hp 3 (by decide))) (uc (show ρ 61 = .int .i64 m from (hr 4 _ _ (by decide) rfl rfl).trans (hp 4 (by decide))) un)))))
  clear hp hr hr0 
  refine Zq (M' := [(N46 0), (N46 1), (N46 2), (N46 3), (N46 4), [(bS, .cells ⟨[v, .int .i64 aj, .int .u64 sj]⟩ 128 (0, 0))], [(b4, .cells ⟨pkT 0 0 zS (.slice none 0 0) (.slice none 0 0)⟩ 27 (0, 0))], [(b3, .cells ⟨[.int .i64 m]⟩ 3 (0, 0))], [(b2, .cells ⟨[.int .i64 d]⟩ 3 (0, 0))], [(b1, .cells ⟨[.pointer (some ⟨bM, 0, none⟩)]⟩ 167 (0, 0))], [(bM, .cells ⟨[.pointer (some ⟨bS, 0, none⟩), .int .i64 (L - 1)]⟩ 169 (0, 0))]]) Sub.refl <| Zq (M' := [[(bS, .cells ⟨[v, .int .i64 aj, .int .u64 sj]⟩ 128 (0, 0))], [(b4, .cells ⟨pkT 0 0 zS (.slice none 0 0) (.slice none 0 0)⟩ 27 (0, 0))], [(b3, .cells ⟨[.int .i64 m]⟩ 3 (0, 0))], [(b2, .cells ⟨[.int .i64 d]⟩ 3 (0, 0))], [(b1, .cells ⟨[.pointer (some ⟨bM, 0, none⟩)]⟩ 167 (0, 0))], [(bM, .cells ⟨[.pointer (some ⟨bS, 0, none⟩), .int .i64 (L - 1)]⟩ 169 (0, 0))]]) (Sd (Sd (Sd (Sd (Sd (Sk (Sk (Sk (Sk (Sk (Sk Sub.nil))))))))))) ?_
  show JL _ _ _ [_, _, _] _ _ _
  refine Zw 0 rfl Tryz.call147 rfl rfl (fun hin => YJ _ _ _ _ _ _ (RBs.mono (Hle.hu _ _) hv) (by omega) (by omega) _) rfl ?_
  rintro _ _ ⟨n53, a53, s53, rfl, rfl, hn53, ha53⟩
  refine Zg rfl Tryz.call148 rfl (fun hin => se_ct _ _) rfl ?_
  rintro _ _ ⟨rfl, rfl⟩
  refine JLr (Ze 1 (vs := pkT 7 n53 zS (.slice none 0 0) (.slice none 0 0)) (l := pkT 7 n53 zS (.slice none 0 0) (.slice none 0 0)) Zu rfl rfl rfl rfl rfl (ZI rfl rfl) (Z0 ..) <| Za <| Zl <| ⟨.agg ⟨pkT 7 n53 zS (.slice none 0 0) (.slice none 0 0)⟩, [([(bM, .cells ⟨[.pointer (some ⟨bS, 0, none⟩), .int .i64 (L - 1)]⟩ 169 (0, 0))]) ++ ([(bS, .cells ⟨[v, .int .i64 a53, .int .u64 s53]⟩ 128 (0, 0))]), []], Ret.one rfl (RV.cell Zu rfl (At.bx 1 rfl) (ZZ ..)), (Sub.join (Sub.cons 5 rfl (Sk (Sub.emp Sub.nil)))), ?_⟩)
  exact ⟨.mk 7 n53 zS [] [], _, _, _, _, _, rfl, rfl, OT_leaf (by unfold inI; omega) (by unfold inI; omega), ⟨nErr_self (by omega) (by omega), by simp only [eVa, eNu, sizeT, sizeTs, sizeCs]; omega⟩, by omega, by omega⟩
 refine Zd <| Zb <| JLm (.int .i64 kj) <| JLq (.bool (decide (kj = 2))) (Pu.eql rfl rfl) <| JLa (.bool (decide (kj = 2))) <| Za <| Zi (b := decide (kj = 2)) rfl (fun h54 => ?_) (fun h54 => ?_)
 ·replace h54 := dt h54
  refine Zd <| Zb <| JLr (Zf Xc rfl (At.bx 4 rfl) rfl <| JLq (.pointer (some ⟨bM, 0, none⟩)) (Pu.nilCheck rfl) <| JLq (.pointer (some ⟨bM, 0, none⟩)) (YC rfl rfl) <| JLr (Zf ty62 rfl (At.bx 5 rfl) rfl <| Zw 0 rfl Tryz.call150 rfl rfl (fun hin => sum_ct _ _ _ _ _ _ (RBs.mono (Hle.hu _ _) hv) (by omega) (by omega) _ _ (by omega) (by omega) (by omega)) rfl ?_))
  rintro _ _ ⟨n55, a55, s55, rfl, rfl, ha55⟩
  refine Zg rfl Tryz.call149 rfl (fun hin => de_ct _ _) rfl ?_
  rintro _ _ ⟨rfl, rfl⟩
  refine JLr (Ze 1 (vs := pkT 6 0 n55 (.slice none 0 0) (.slice none 0 0)) (l := pkT 6 0 n55 (.slice none 0 0) (.slice none 0 0)) Zu rfl rfl rfl rfl rfl (ZI rfl rfl) (Z0 ..) <| Za <| Zl <| ⟨.agg ⟨pkT 6 0 n55 (.slice none 0 0) (.slice none 0 0)⟩, [([(bM, .cells ⟨[.pointer (some ⟨bS, 0, none⟩), .int .i64 (L - 1)]⟩ 169 (0, 0))]) ++ ([(bS, .cells ⟨[v, .int .i64 a55, .int .u64 s55]⟩ 128 (0, 0))]), []], Ret.one rfl (RV.cell Zu rfl (At.bx 1 rfl) (ZZ ..)), (Sub.join (Sub.cons 5 rfl (Sk (Sub.emp Sub.nil)))), ?_⟩)
  exact ⟨.mk 6 0 n55 [] [], _, _, _, _, _, rfl, rfl, OT_leaf (by unfold inI; omega) (by unfold inI; omega), ⟨nErr_def, by simp only [eVa, eNu, sizeT, sizeTs, sizeCs]; omega⟩, by omega, by omega⟩
 replace h54 := df h54
 refine Zd <| Zb <| JLm (.int .i64 kj) <| JLq (.bool (decide (kj < 4))) (Pu.lss rfl rfl) <| JLa (.bool (decide (kj < 4))) <| Za <| Zi (b := decide (kj < 4)) rfl (fun h56 => ?_) (fun h56 => ?_)
 ·replace h56 := dt h56
  refine Zd <| Zb <| JLr (Zf Xc rfl (At.bx 4 rfl) rfl <| JLq (.pointer (some ⟨bM, 0, none⟩)) (Pu.nilCheck rfl) <| JLq (.pointer (some ⟨bM, 0, none⟩)) (YC rfl rfl) <| JLr (Zf ty62 rfl (At.bx 5 rfl) rfl <| Zw 0 rfl Tryz.call147 rfl rfl (fun hin => YJ _ _ _ _ _ _ (RBs.mono (Hle.hu _ _) hv) (by omega) (by omega) _) rfl ?_))
  rintro _ _ ⟨n57, a57, s57, rfl, rfl, hn57, ha57⟩
  refine Zg rfl Tryz.call42 rfl (fun hin => nu_ct _ _ (by unfold inI; omega)) rfl ?_
  rintro _ _ ⟨cs58, k58, rfl, rfl, hO58⟩
  refine JLr (Ze 2 (vs := cs58) (l := cs58) Zu rfl rfl rfl rfl hO58.len hO58.ok (ZL (n := 36) rfl hO58.len) <| Za <| Zl <| ⟨.agg ⟨cs58⟩, [([(bM, .cells ⟨[.pointer (some ⟨bS, 0, none⟩), .int .i64 (L - 1)]⟩ 169 (0, 0))]) ++ ([(bS, .cells ⟨[v, .int .i64 a57, .int .u64 s57]⟩ 128 (0, 0))]), k58], Ret.one rfl (RV.cell Zu rfl (At.bx 2 rfl) (Zx hO58.len)), (Sub.join (Sub.cons 6 rfl (Sub.cons 1 rfl (Sk Sub.nil)))), ?_⟩)
  exact ⟨eNu n57, _, _, _, _, _, rfl, rfl, hO58, ⟨nErr_nat (by omega) (by omega), by simp only [eVa, eNu, sizeT, sizeTs, sizeCs]; omega⟩, by omega, by omega⟩
 replace h56 := df h56
 refine Zd <| Zb <| JLm (.int .i64 kj) <| JLq (.bool (decide (kj = 4))) (Pu.eql rfl rfl) <| JLa (.bool (decide (kj = 4))) <| Za <| Zi (b := decide (kj = 4)) rfl (fun h59 => ?_) (fun h59 => ?_)
 ·replace h59 := dt h59
  refine Zd <| Zb <| JLm (.func (.func 146) ⟨[]⟩ ⟨[.pointer (some ⟨b1, 0, none⟩), .pointer (some ⟨b2, 0, none⟩), .pointer (some ⟨b3, 0, none⟩)]⟩) <| Zq (M' := [([(bM, .cells ⟨[.pointer (some ⟨bS, 0, none⟩), .int .i64 (L - 1)]⟩ 169 (0, 0))]) ++ ([(bS, .cells ⟨[v, .int .i64 aj, .int .u64 sj]⟩ 128 (0, 0))]), [(b4, .cells ⟨pkT 0 0 zS (.slice none 0 0) (.slice none 0 0)⟩ 27 (0, 0))], [(b3, .cells ⟨[.int .i64 m]⟩ 3 (0, 0))], [(b2, .cells ⟨[.int .i64 d]⟩ 3 (0, 0))], [(b1, .cells ⟨[.pointer (some ⟨bM, 0, none⟩)]⟩ 167 (0, 0))]]) (Sub.join (Sub.cons 5 rfl (Sk (Sk (Sk (Sk (Sk Sub.nil))))))) <| Zw 0 rfl Tryz.call146 rfl rfl (fun hin => Y2 _ _ _ _ _ _ _ _ _ _ _ _ _ _ (RBs.mono (Hle.hu _ _) hv) (hin 3 _ rfl _ _ List.mem_cons_self) (hin 2 _ rfl _ _ List.mem_cons_self) (hin 1 _ rfl _ _ List.mem_cons_self) (by omega) (by omega) (by omega) (by omega) (fun h hh => ih _ (by omega) _ _ _ _ _ _ _ _ _ _ rfl (RBs.mono hh (RBs.mono (Hle.hu _ _) hv)) (by omega) (by omega) (by omega) (by omega) (by omega) (by omega) (by omega) (by omega))) rfl ?_
  rintro _ _ ⟨t60, cs60, k60, l60, a60, s60, rfl, rfl, hO60, ⟨hn60, hz60⟩, hl60, ha60⟩
  refine Zq (M' := [[(bM, .cells ⟨[.pointer (some ⟨bS, 0, none⟩), .int .i64 l60]⟩ 169 (0, 0))], [(bS, .cells ⟨[v, .int .i64 a60, .int .u64 s60]⟩ 128 (0, 0))], k60, [(b4, .cells ⟨pkT 0 0 zS (.slice none 0 0) (.slice none 0 0)⟩ 27 (0, 0))], [(b3, .cells ⟨[.int .i64 m]⟩ 3 (0, 0))], [(b2, .cells ⟨[.int .i64 d]⟩ 3 (0, 0))], [(b1, .cells ⟨[.pointer (some ⟨bM, 0, none⟩)]⟩ 167 (0, 0))]]) (Sub.flat Sub.refl (by simp)) <| Zg rfl Tryz.call46 rfl (fun hin => laD_ct _ hO60.len hO60.ok _) rfl ?_
  rintro _ _ ⟨sv61, k61, rfl, rfl, ho61⟩
  refine JLr (Ze 4 (vs := pkT 3 0 zS sv61 (.slice none 0 0)) (l := pkT 3 0 zS sv61 (.slice none 0 0)) Zu rfl rfl rfl rfl rfl (ZI ho61.one rfl) (Z0 ..) <| Za <| Zl <| ⟨.agg ⟨pkT 3 0 zS sv61 (.slice none 0 0)⟩, [([(bM, .cells ⟨[.pointer (some ⟨bS, 0, none⟩), .int .i64 l60]⟩ 169 (0, 0))]) ++ ([(bS, .cells ⟨[v, .int .i64 a60, .int .u64 s60]⟩ 128 (0, 0))]), k61 ++ k60], Ret.one rfl (RV.cell Zu rfl (At.bx 4 rfl) (ZZ ..)), (Sub.join (Sub.cons 1 rfl (Sub.cons 1 rfl (Sub.join (Sk (Sk Sub.nil)))))), ?_⟩)
  exact ⟨.mk 3 0 zS [t60] [], _, _, _, _, _, rfl, rfl, OT_row (by unfold inI; omega) (by unfold inI; omega) ho61 (OTs1 hO60) (by simp), ⟨nErr_lam hn60, by simp only [eVa, eNu, sizeT, sizeTs, sizeCs]; omega⟩, by omega, by omega⟩
 replace h59 := df h59
 refine Zd <| Zd <| Zb <| JLm (.int .i64 kj) <| JLq (.bool (decide (kj = 5))) (Pu.eql rfl rfl) <| JLa (.bool (decide (kj = 5))) <| Za <| Zi (b := decide (kj = 5)) rfl (fun h62 => ?_) (fun h62 => ?_)
 ·replace h62 := dt h62
  refine Zp <| Zi (b := decide (kj = 5)) rfl (fun _ => ?_) (fun h63 => absurd h62 (df h63))
  refine Zd <| Zb <| JLm (.func (.func 146) ⟨[]⟩ ⟨[.pointer (some ⟨b1, 0, none⟩), .pointer (some ⟨b2, 0, none⟩), .pointer (some ⟨b3, 0, none⟩)]⟩) <| Zq (M' := [([(bM, .cells ⟨[.pointer (some ⟨bS, 0, none⟩), .int .i64 (L - 1)]⟩ 169 (0, 0))]) ++ ([(bS, .cells ⟨[v, .int .i64 aj, .int .u64 sj]⟩ 128 (0, 0))]), [(b4, .cells ⟨pkT 0 0 zS (.slice none 0 0) (.slice none 0 0)⟩ 27 (0, 0))], [(b3, .cells ⟨[.int .i64 m]⟩ 3 (0, 0))], [(b2, .cells ⟨[.int .i64 d]⟩ 3 (0, 0))], [(b1, .cells ⟨[.pointer (some ⟨bM, 0, none⟩)]⟩ 167 (0, 0))]]) (Sub.join (Sub.cons 5 rfl (Sk (Sk (Sk (Sk (Sk Sub.nil))))))) <| Zw 0 rfl Tryz.call146 rfl rfl (fun hin => Y2 _ _ _ _ _ _ _ _ _ _ _ _ _ _ (RBs.mono (Hle.hu _ _) hv) (hin 3 _ rfl _ _ List.mem_cons_self) (hin 2 _ rfl _ _ List.mem_cons_self) (hin 1 _ rfl _ _ List.mem_cons_self) (by omega) (by omega) (by omega) (by omega) (fun h hh => ih _ (by omega) _ _ _ _ _ _ _ _ _ _ rfl (RBs.mono hh (RBs.mono (Hle.hu _ _) hv)) (by omega) (by omega) (by omega) (by omega) (by omega) (by omega) (by omega) (by omega))) rfl ?_
  rintro _ _ ⟨t64, cs64, k64, l64, a64, s64, rfl, rfl, hO64, ⟨hn64, hz64⟩, hl64, ha64⟩
  refine Zq (M' := [[(bM, .cells ⟨[.pointer (some ⟨bS, 0, none⟩), .int .i64 l64]⟩ 169 (0, 0))], [(bS, .cells ⟨[v, .int .i64 a64, .int .u64 s64]⟩ 128 (0, 0))], k64, [(b4, .cells ⟨pkT 0 0 zS (.slice none 0 0) (.slice none 0 0)⟩ 27 (0, 0))], [(b3, .cells ⟨[.int .i64 m]⟩ 3 (0, 0))], [(b2, .cells ⟨[.int .i64 d]⟩ 3 (0, 0))], [(b1, .cells ⟨[.pointer (some ⟨bM, 0, none⟩)]⟩ 167 (0, 0))]]) (Sub.flat Sub.refl (by simp)) <| JLm (.func (.func 146) ⟨[]⟩ ⟨[.pointer (some ⟨b1, 0, none⟩), .pointer (some ⟨b2, 0, none⟩), .pointer (some ⟨b3, 0, none⟩)]⟩) <| Zq (M' := [([(bM, .cells ⟨[.pointer (some ⟨bS, 0, none⟩), .int .i64 l64]⟩ 169 (0, 0))]) ++ ([(bS, .cells ⟨[v, .int .i64 a64, .int .u64 s64]⟩ 128 (0, 0))]), k64, [(b4, .cells ⟨pkT 0 0 zS (.slice none 0 0) (.slice none 0 0)⟩ 27 (0, 0))], [(b3, .cells ⟨[.int .i64 m]⟩ 3 (0, 0))], [(b2, .cells ⟨[.int .i64 d]⟩ 3 (0, 0))], [(b1, .cells ⟨[.pointer (some ⟨bM, 0, none⟩)]⟩ 167 (0, 0))]]) (Sub.join (Sk (Sk (Sk (Sk (Sk (Sk (Sk Sub.nil)))))))) <| Zw 0 rfl Tryz.call146 rfl rfl (fun hin => Y2 _ _ _ _ _ _ _ _ _ _ _ _ _ _ (RBs.mono (Hle.hu _ _) hv) (hin 4 _ rfl _ _ List.mem_cons_self) (hin 3 _ rfl _ _ List.mem_cons_self) (hin 2 _ rfl _ _ List.mem_cons_self) (by omega) (by omega) (by omega) (by omega) (fun h hh => ih _ (by omega) _ _ _ _ _ _ _ _ _ _ rfl (RBs.mono hh (RBs.mono (Hle.hu _ _) hv)) (by omega) (by omega) (by omega) (by omega) (by omega) (by omega) (by omega) (by omega))) rfl ?_
  rintro _ _ ⟨t65, cs65, k65, l65, a65, s65, rfl, rfl, hO65, ⟨hn65, hz65⟩, hl65, ha65⟩
  refine Zq (M' := [[(bM, .cells ⟨[.pointer (some ⟨bS, 0, none⟩), .int .i64 l65]⟩ 169 (0, 0))], [(bS, .cells ⟨[v, .int .i64 a65, .int .u64 s65]⟩ 128 (0, 0))], k65, k64, [(b4, .cells ⟨pkT 0 0 zS (.slice none 0 0) (.slice none 0 0)⟩ 27 (0, 0))], [(b3, .cells ⟨[.int .i64 m]⟩ 3 (0, 0))], [(b2, .cells ⟨[.int .i64 d]⟩ 3 (0, 0))], [(b1, .cells ⟨[.pointer (some ⟨bM, 0, none⟩)]⟩ 167 (0, 0))]]) (Sub.flat Sub.refl (by simp)) <| Zg rfl Tryz.call47 rfl (fun hin => apD_ct _ hO64.len hO64.ok _ hO65.len hO65.ok _) rfl ?_
  rintro _ _ ⟨sv66, k66, rfl, rfl, ho66⟩
  refine JLr (Ze 5 (vs := pkT 4 0 zS sv66 (.slice none 0 0)) (l := pkT 4 0 zS sv66 (.slice none 0 0)) Zu rfl rfl rfl rfl rfl (ZI ho66.one rfl) (Z0 ..) <| Za <| Zl <| ⟨.agg ⟨pkT 4 0 zS sv66 (.slice none 0 0)⟩, [([(bM, .cells ⟨[.pointer (some ⟨bS, 0, none⟩), .int .i64 l65]⟩ 169 (0, 0))]) ++ ([(bS, .cells ⟨[v, .int .i64 a65, .int .u64 s65]⟩ 128 (0, 0))]), k66 ++ (k64 ++ k65)], Ret.one rfl (RV.cell Zu rfl (At.bx 5 rfl) (ZZ ..)), (Sub.join (Sub.cons 1 rfl (Sub.cons 1 rfl (Sub.join3 (Sk (Sub.cons 1 rfl (Sk Sub.nil))))))), ?_⟩)
  exact ⟨.mk 4 0 zS [t64, t65] [], _, _, _, _, _, rfl, rfl, OT_row (by unfold inI; omega) (by unfold inI; omega) ho66 (OTs2 hO64 hO65) (by simp), ⟨nErr_app (by simpa using hn64) (by simpa using hn65), by simp only [eVa, eNu, sizeT, sizeTs, sizeCs]; omega⟩, by omega, by omega⟩
 replace h62 := df h62
 refine Zb <| JLm (.int .i64 kj) <| JLq (.bool (decide (kj = 6))) (Pu.eql rfl rfl) <| JLa (.bool (decide (kj = 6))) <| Za <| Zi (b := decide (kj = 6)) rfl (fun h67 => ?_) (fun h67 => ?_)
 ·replace h67 := dt h67
  refine Zd <| Zb <| JLm (.func (.func 146) ⟨[]⟩ ⟨[.pointer (some ⟨b1, 0, none⟩), .pointer (some ⟨b2, 0, none⟩), .pointer (some ⟨b3, 0, none⟩)]⟩) <| Zq (M' := [([(bM, .cells ⟨[.pointer (some ⟨bS, 0, none⟩), .int .i64 (L - 1)]⟩ 169 (0, 0))]) ++ ([(bS, .cells ⟨[v, .int .i64 aj, .int .u64 sj]⟩ 128 (0, 0))]), [(b4, .cells ⟨pkT 0 0 zS (.slice none 0 0) (.slice none 0 0)⟩ 27 (0, 0))], [(b3, .cells ⟨[.int .i64 m]⟩ 3 (0, 0))], [(b2, .cells ⟨[.int .i64 d]⟩ 3 (0, 0))], [(b1, .cells ⟨[.pointer (some ⟨bM, 0, none⟩)]⟩ 167 (0, 0))]]) (Sub.join (Sub.cons 5 rfl (Sk (Sk (Sk (Sk (Sk Sub.nil))))))) <| Zw 0 rfl Tryz.call146 rfl rfl (fun hin => Y2 _ _ _ _ _ _ _ _ _ _ _ _ _ _ (RBs.mono (Hle.hu _ _) hv) (hin 3 _ rfl _ _ List.mem_cons_self) (hin 2 _ rfl _ _ List.mem_cons_self) (hin 1 _ rfl _ _ List.mem_cons_self) (by omega) (by omega) (by omega) (by omega) (fun h hh => ih _ (by omega) _ _ _ _ _ _ _ _ _ _ rfl (RBs.mono hh (RBs.mono (Hle.hu _ _) hv)) (by omega) (by omega) (by omega) (by omega) (by omega) (by omega) (by omega) (by omega))) rfl ?_
  rintro _ _ ⟨t68, cs68, k68, l68, a68, s68, rfl, rfl, hO68, ⟨hn68, hz68⟩, hl68, ha68⟩
  refine Zq (M' := [[(bM, .cells ⟨[.pointer (some ⟨bS, 0, none⟩), .int .i64 l68]⟩ 169 (0, 0))], [(bS, .cells ⟨[v, .int .i64 a68, .int .u64 s68]⟩ 128 (0, 0))], k68, [(b4, .cells ⟨pkT 0 0 zS (.slice none 0 0) (.slice none 0 0)⟩ 27 (0, 0))], [(b3, .cells ⟨[.int .i64 m]⟩ 3 (0, 0))], [(b2, .cells ⟨[.int .i64 d]⟩ 3 (0, 0))], [(b1, .cells ⟨[.pointer (some ⟨bM, 0, none⟩)]⟩ 167 (0, 0))]]) (Sub.flat Sub.refl (by simp)) <| JLm (.func (.func 146) ⟨[]⟩ ⟨[.pointer (some ⟨b1, 0, none⟩), .pointer (some ⟨b2, 0, none⟩), .pointer (some ⟨b3, 0, none⟩)]⟩) <| Zq (M' := [([(bM, .cells ⟨[.pointer (some ⟨bS, 0, none⟩), .int .i64 l68]⟩ 169 (0, 0))]) ++ ([(bS, .cells ⟨[v, .int .i64 a68, .int .u64 s68]⟩ 128 (0, 0))]), k68, [(b4, .cells ⟨pkT 0 0 zS (.slice none 0 0) (.slice none 0 0)⟩ 27 (0, 0))], [(b3, .cells ⟨[.int .i64 m]⟩ 3 (0, 0))], [(b2, .cells ⟨[.int .i64 d]⟩ 3 (0, 0))], [(b1, .cells ⟨[.pointer (some ⟨bM, 0, none⟩)]⟩ 167 (0, 0))]]) (Sub.join (Sk (Sk (Sk (Sk (Sk (Sk (Sk Sub.nil)))))))) <| Zw 0 rfl Tryz.call146 rfl rfl (fun hin => Y2 _ _ _ _ _ _ _ _ _ _ _ _ _ _ (RBs.mono (Hle.hu _ _) hv) (hin 4 _ rfl _ _ List.mem_cons_self) (hin 3 _ rfl _ _ List.mem_cons_self) (hin 2 _ rfl _ _ List.mem_cons_self) (by omega) (by omega) (by omega) (by omega) (fun h hh => ih _ (by omega) _ _ _ _ _ _ _ _ _ _ rfl (RBs.mono hh (RBs.mono (Hle.hu _ _) hv)) (by omega) (by omega) (by omega) (by omega) (by omega) (by omega) (by omega) (by omega))) rfl ?_
  rintro _ _ ⟨t69, cs69, k69, l69, a69, s69, rfl, rfl, hO69, ⟨hn69, hz69⟩, hl69, ha69⟩
  refine Zq (M' := [[(bM, .cells ⟨[.pointer (some ⟨bS, 0, none⟩), .int .i64 l69]⟩ 169 (0, 0))], [(bS, .cells ⟨[v, .int .i64 a69, .int .u64 s69]⟩ 128 (0, 0))], k69, k68, [(b4, .cells ⟨pkT 0 0 zS (.slice none 0 0) (.slice none 0 0)⟩ 27 (0, 0))], [(b3, .cells ⟨[.int .i64 m]⟩ 3 (0, 0))], [(b2, .cells ⟨[.int .i64 d]⟩ 3 (0, 0))], [(b1, .cells ⟨[.pointer (some ⟨bM, 0, none⟩)]⟩ 167 (0, 0))]]) (Sub.flat Sub.refl (by simp)) <| Zg rfl Tryz.call47 rfl (fun hin => apD_ct _ hO68.len hO68.ok _ hO69.len hO69.ok _) rfl ?_
  rintro _ _ ⟨sv70, k70, rfl, rfl, ho70⟩
  refine JLr (Ze 5 (vs := pkT 4 0 zS sv70 (.slice none 0 0)) (l := pkT 4 0 zS sv70 (.slice none 0 0)) Zu rfl rfl rfl rfl rfl (ZI ho70.one rfl) (Z0 ..) <| Za <| Zl <| ⟨.agg ⟨pkT 4 0 zS sv70 (.slice none 0 0)⟩, [([(bM, .cells ⟨[.pointer (some ⟨bS, 0, none⟩), .int .i64 l69]⟩ 169 (0, 0))]) ++ ([(bS, .cells ⟨[v, .int .i64 a69, .int .u64 s69]⟩ 128 (0, 0))]), k70 ++ (k68 ++ k69)], Ret.one rfl (RV.cell Zu rfl (At.bx 5 rfl) (ZZ ..)), (Sub.join (Sub.cons 1 rfl (Sub.cons 1 rfl (Sub.join3 (Sk (Sub.cons 1 rfl (Sk Sub.nil))))))), ?_⟩)
  exact ⟨.mk 4 0 zS [t68, t69] [], _, _, _, _, _, rfl, rfl, OT_row (by unfold inI; omega) (by unfold inI; omega) ho70 (OTs2 hO68 hO69) (by simp), ⟨nErr_app (by simpa using hn68) (by simpa using hn69), by simp only [eVa, eNu, sizeT, sizeTs, sizeCs]; omega⟩, by omega, by omega⟩
 replace h67 := df h67
 refine Zd <| Zb <| JLm (.int .i64 kj) <| JLq (.bool (decide (kj = 7))) (Pu.eql rfl rfl) <| JLa (.bool (decide (kj = 7))) <| Za <| Zi (b := decide (kj = 7)) rfl (fun h71 => ?_) (fun h71 => ?_)
 ·replace h71 := dt h71
  refine Zd <| Zb <| JLm (.func (.func 146) ⟨[]⟩ ⟨[.pointer (some ⟨b1, 0, none⟩), .pointer (some ⟨b2, 0, none⟩), .pointer (some ⟨b3, 0, none⟩)]⟩) <| Zq (M' := [([(bM, .cells ⟨[.pointer (some ⟨bS, 0, none⟩), .int .i64 (L - 1)]⟩ 169 (0, 0))]) ++ ([(bS, .cells ⟨[v, .int .i64 aj, .int .u64 sj]⟩ 128 (0, 0))]), [(b4, .cells ⟨pkT 0 0 zS (.slice none 0 0) (.slice none 0 0)⟩ 27 (0, 0))], [(b3, .cells ⟨[.int .i64 m]⟩ 3 (0, 0))], [(b2, .cells ⟨[.int .i64 d]⟩ 3 (0, 0))], [(b1, .cells ⟨[.pointer (some ⟨bM, 0, none⟩)]⟩ 167 (0, 0))]]) (Sub.join (Sub.cons 5 rfl (Sk (Sk (Sk (Sk (Sk Sub.nil))))))) <| Zw 0 rfl Tryz.call146 rfl rfl (fun hin => Y2 _ _ _ _ _ _ _ _ _ _ _ _ _ _ (RBs.mono (Hle.hu _ _) hv) (hin 3 _ rfl _ _ List.mem_cons_self) (hin 2 _ rfl _ _ List.mem_cons_self) (hin 1 _ rfl _ _ List.mem_cons_self) (by omega) (by omega) (by omega) (by omega) (fun h hh => ih _ (by omega) _ _ _ _ _ _ _ _ _ _ rfl (RBs.mono hh (RBs.mono (Hle.hu _ _) hv)) (by omega) (by omega) (by omega) (by omega) (by omega) (by omega) (by omega) (by omega))) rfl ?_
  rintro _ _ ⟨t72, cs72, k72, l72, a72, s72, rfl, rfl, hO72, ⟨hn72, hz72⟩, hl72, ha72⟩
  refine Zq (M' := [[(bM, .cells ⟨[.pointer (some ⟨bS, 0, none⟩), .int .i64 l72]⟩ 169 (0, 0))], [(bS, .cells ⟨[v, .int .i64 a72, .int .u64 s72]⟩ 128 (0, 0))], k72, [(b4, .cells ⟨pkT 0 0 zS (.slice none 0 0) (.slice none 0 0)⟩ 27 (0, 0))], [(b3, .cells ⟨[.int .i64 m]⟩ 3 (0, 0))], [(b2, .cells ⟨[.int .i64 d]⟩ 3 (0, 0))], [(b1, .cells ⟨[.pointer (some ⟨bM, 0, none⟩)]⟩ 167 (0, 0))]]) (Sub.flat Sub.refl (by simp)) <| JLm (.func (.func 146) ⟨[]⟩ ⟨[.pointer (some ⟨b1, 0, none⟩), .pointer (some ⟨b2, 0, none⟩), .pointer (some ⟨b3, 0, none⟩)]⟩) <| Zq (M' := [([(bM, .cells ⟨[.pointer (some ⟨bS, 0, none⟩), .int .i64 l72]⟩ 169 (0, 0))]) ++ ([(bS, .cells ⟨[v, .int .i64 a72, .int .u64 s72]⟩ 128 (0, 0))]), k72, [(b4, .cells ⟨pkT 0 0 zS (.slice none 0 0) (.slice none 0 0)⟩ 27 (0, 0))], [(b3, .cells ⟨[.int .i64 m]⟩ 3 (0, 0))], [(b2, .cells ⟨[.int .i64 d]⟩ 3 (0, 0))], [(b1, .cells ⟨[.pointer (some ⟨bM, 0, none⟩)]⟩ 167 (0, 0))]]) (Sub.join (Sk (Sk (Sk (Sk (Sk (Sk (Sk Sub.nil)))))))) <| Zw 0 rfl Tryz.call146 rfl rfl (fun hin => Y2 _ _ _ _ _ _ _ _ _ _ _ _ _ _ (RBs.mono (Hle.hu _ _) hv) (hin 4 _ rfl _ _ List.mem_cons_self) (hin 3 _ rfl _ _ List.mem_cons_self) (hin 2 _ rfl _ _ List.mem_cons_self) (by omega) (by omega) (by omega) (by omega) (fun h hh => ih _ (by omega) _ _ _ _ _ _ _ _ _ _ rfl (RBs.mono hh (RBs.mono (Hle.hu _ _) hv)) (by omega) (by omega) (by omega) (by omega) (by omega) (by omega) (by omega) (by omega))) rfl ?_
  rintro _ _ ⟨t73, cs73, k73, l73, a73, s73, rfl, rfl, hO73, ⟨hn73, hz73⟩, hl73, ha73⟩
  refine Zq (M' := [[(bM, .cells ⟨[.pointer (some ⟨bS, 0, none⟩), .int .i64 l73]⟩ 169 (0, 0))], [(bS, .cells ⟨[v, .int .i64 a73, .int .u64 s73]⟩ 128 (0, 0))], k73, k72, [(b4, .cells ⟨pkT 0 0 zS (.slice none 0 0) (.slice none 0 0)⟩ 27 (0, 0))], [(b3, .cells ⟨[.int .i64 m]⟩ 3 (0, 0))], [(b2, .cells ⟨[.int .i64 d]⟩ 3 (0, 0))], [(b1, .cells ⟨[.pointer (some ⟨bM, 0, none⟩)]⟩ 167 (0, 0))]]) (Sub.flat Sub.refl (by simp)) <| Zg rfl Tryz.call151 rfl (fun hin => leD_ct _ hO72.len hO72.ok _ hO73.len hO73.ok _) rfl ?_
  rintro _ _ ⟨sv74, k74, rfl, rfl, ho74⟩
  refine JLr (Ze 5 (vs := pkT 5 0 zS sv74 (.slice none 0 0)) (l := pkT 5 0 zS sv74 (.slice none 0 0)) Zu rfl rfl rfl rfl rfl (ZI ho74.one rfl) (Z0 ..) <| Za <| Zl <| ⟨.agg ⟨pkT 5 0 zS sv74 (.slice none 0 0)⟩, [([(bM, .cells ⟨[.pointer (some ⟨bS, 0, none⟩), .int .i64 l73]⟩ 169 (0, 0))]) ++ ([(bS, .cells ⟨[v, .int .i64 a73, .int .u64 s73]⟩ 128 (0, 0))]), k74 ++ (k72 ++ k73)], Ret.one rfl (RV.cell Zu rfl (At.bx 5 rfl) (ZZ ..)), (Sub.join (Sub.cons 1 rfl (Sub.cons 1 rfl (Sub.join3 (Sk (Sub.cons 1 rfl (Sk Sub.nil))))))), ?_⟩)
  exact ⟨.mk 5 0 zS [t72, t73] [], _, _, _, _, _, rfl, rfl, OT_row (by unfold inI; omega) (by unfold inI; omega) ho74 (OTs2 hO72 hO73) (by simp), ⟨nErr_let (by simpa using hn72) hn73, by simp only [eVa, eNu, sizeT, sizeTs, sizeCs]; omega⟩, by omega, by omega⟩
 replace h71 := df h71
 refine Zd <| Zb <| JLm (.int .i64 kj) <| JLq (.bool (decide (kj = 8))) (Pu.eql rfl rfl) <| JLa (.bool (decide (kj = 8))) <| Za <| Zi (b := decide (kj = 8)) rfl (fun h75 => ?_) (fun h75 => ?_)
 ·replace h75 := dt h75
  refine Zd <| Zb <| JLr (Zf Xc rfl (At.bx 4 rfl) rfl <| JLq (.pointer (some ⟨bM, 0, none⟩)) (Pu.nilCheck rfl) <| JLq (.pointer (some ⟨bM, 0, none⟩)) (YC rfl rfl) <| JLr (Zf ty62 rfl (At.bx 5 rfl) rfl <| Zw 0 rfl Tryz.call153 rfl rfl (fun hin => from_ct _ _ _ _ _ _ (RBs.mono (Hle.hu _ _) hv) (by omega) (by omega) _ _ (by omega) (by omega) (by omega)) rfl ?_))
  rintro _ _ ⟨n76, a76, s76, rfl, rfl, hn76, ha76⟩
  refine JLm (.func (.func 146) ⟨[]⟩ ⟨[.pointer (some ⟨b1, 0, none⟩), .pointer (some ⟨b2, 0, none⟩), .pointer (some ⟨b3, 0, none⟩)]⟩) <| Zq (M' := [([(bM, .cells ⟨[.pointer (some ⟨bS, 0, none⟩), .int .i64 (L - 1)]⟩ 169 (0, 0))]) ++ ([(bS, .cells ⟨[v, .int .i64 a76, .int .u64 s76]⟩ 128 (0, 0))]), [(b4, .cells ⟨pkT 0 0 zS (.slice none 0 0) (.slice none 0 0)⟩ 27 (0, 0))], [(b3, .cells ⟨[.int .i64 m]⟩ 3 (0, 0))], [(b2, .cells ⟨[.int .i64 d]⟩ 3 (0, 0))], [(b1, .cells ⟨[.pointer (some ⟨bM, 0, none⟩)]⟩ 167 (0, 0))]]) (Sub.join (Sub.cons 5 rfl (Sk (Sk (Sk (Sk (Sk Sub.nil))))))) <| Zw 0 rfl Tryz.call146 rfl rfl (fun hin => Y2 _ _ _ _ _ _ _ _ _ _ _ _ _ _ (RBs.mono (Hle.hu _ _) hv) (hin 3 _ rfl _ _ List.mem_cons_self) (hin 2 _ rfl _ _ List.mem_cons_self) (hin 1 _ rfl _ _ List.mem_cons_self) (by omega) (by omega) (by omega) (by omega) (fun h hh => ih _ (by omega) _ _ _ _ _ _ _ _ _ _ rfl (RBs.mono hh (RBs.mono (Hle.hu _ _) hv)) (by omega) (by omega) (by omega) (by omega) (by omega) (by omega) (by omega) (by omega))) rfl ?_
  rintro _ _ ⟨t77, cs77, k77, l77, a77, s77, rfl, rfl, hO77, ⟨hn77, hz77⟩, hl77, ha77⟩
  refine Zq (M' := [[(bM, .cells ⟨[.pointer (some ⟨bS, 0, none⟩), .int .i64 l77]⟩ 169 (0, 0))], [(bS, .cells ⟨[v, .int .i64 a77, .int .u64 s77]⟩ 128 (0, 0))], k77, [(b4, .cells ⟨pkT 0 0 zS (.slice none 0 0) (.slice none 0 0)⟩ 27 (0, 0))], [(b3, .cells ⟨[.int .i64 m]⟩ 3 (0, 0))], [(b2, .cells ⟨[.int .i64 d]⟩ 3 (0, 0))], [(b1, .cells ⟨[.pointer (some ⟨bM, 0, none⟩)]⟩ 167 (0, 0))]]) (Sub.flat Sub.refl (by simp)) <| JLm (.func (.func 146) ⟨[]⟩ ⟨[.pointer (some ⟨b1, 0, none⟩), .pointer (some ⟨b2, 0, none⟩), .pointer (some ⟨b3, 0, none⟩)]⟩) <| Zq (M' := [([(bM, .cells ⟨[.pointer (some ⟨bS, 0, none⟩), .int .i64 l77]⟩ 169 (0, 0))]) ++ ([(bS, .cells ⟨[v, .int .i64 a77, .int .u64 s77]⟩ 128 (0, 0))]), k77, [(b4, .cells ⟨pkT 0 0 zS (.slice none 0 0) (.slice none 0 0)⟩ 27 (0, 0))], [(b3, .cells ⟨[.int .i64 m]⟩ 3 (0, 0))], [(b2, .cells ⟨[.int .i64 d]⟩ 3 (0, 0))], [(b1, .cells ⟨[.pointer (some ⟨bM, 0, none⟩)]⟩ 167 (0, 0))]]) (Sub.join (Sk (Sk (Sk (Sk (Sk (Sk (Sk Sub.nil)))))))) <| Zw 0 rfl Tryz.call146 rfl rfl (fun hin => Y2 _ _ _ _ _ _ _ _ _ _ _ _ _ _ (RBs.mono (Hle.hu _ _) hv) (hin 4 _ rfl _ _ List.mem_cons_self) (hin 3 _ rfl _ _ List.mem_cons_self) (hin 2 _ rfl _ _ List.mem_cons_self) (by omega) (by omega) (by omega) (by omega) (fun h hh => ih _ (by omega) _ _ _ _ _ _ _ _ _ _ rfl (RBs.mono hh (RBs.mono (Hle.hu _ _) hv)) (by omega) (by omega) (by omega) (by omega) (by omega) (by omega) (by omega) (by omega))) rfl ?_
  rintro _ _ ⟨t78, cs78, k78, l78, a78, s78, rfl, rfl, hO78, ⟨hn78, hz78⟩, hl78, ha78⟩
  refine Zq (M' := [[(bM, .cells ⟨[.pointer (some ⟨bS, 0, none⟩), .int .i64 l78]⟩ 169 (0, 0))], [(bS, .cells ⟨[v, .int .i64 a78, .int .u64 s78]⟩ 128 (0, 0))], k78, k77, [(b4, .cells ⟨pkT 0 0 zS (.slice none 0 0) (.slice none 0 0)⟩ 27 (0, 0))], [(b3, .cells ⟨[.int .i64 m]⟩ 3 (0, 0))], [(b2, .cells ⟨[.int .i64 d]⟩ 3 (0, 0))], [(b1, .cells ⟨[.pointer (some ⟨bM, 0, none⟩)]⟩ 167 (0, 0))]]) (Sub.flat Sub.refl (by simp)) <| Zg rfl Tryz.call152 rfl (fun hin => prD_ct _ _ hO77.len hO77.ok _ hO78.len hO78.ok _) rfl ?_
  rintro _ _ ⟨sv79, k79, rfl, rfl, ho79⟩
  refine JLr (Ze 5 (vs := pkT 10 n76 zS sv79 (.slice none 0 0)) (l := pkT 10 n76 zS sv79 (.slice none 0 0)) Zu rfl rfl rfl rfl rfl (ZI ho79.one rfl) (Z0 ..) <| Za <| Zl <| ⟨.agg ⟨pkT 10 n76 zS sv79 (.slice none 0 0)⟩, [([(bM, .cells ⟨[.pointer (some ⟨bS, 0, none⟩), .int .i64 l78]⟩ 169 (0, 0))]) ++ ([(bS, .cells ⟨[v, .int .i64 a78, .int .u64 s78]⟩ 128 (0, 0))]), k79 ++ (k77 ++ k78)], Ret.one rfl (RV.cell Zu rfl (At.bx 5 rfl) (ZZ ..)), (Sub.join (Sub.cons 1 rfl (Sub.cons 1 rfl (Sub.join3 (Sk (Sub.cons 1 rfl (Sk Sub.nil))))))), ?_⟩)
  exact ⟨.mk 10 n76 zS [t77, t78] [], _, _, _, _, _, rfl, rfl, OT_row (by unfold inI; omega) (by unfold inI; omega) ho79 (OTs2 hO77 hO78) (by simp), ⟨nErr_prim (by omega) (by omega) (by simpa using hn77) (by simpa using hn78), by simp only [eVa, eNu, sizeT, sizeTs, sizeCs]; omega⟩, by omega, by omega⟩
 replace h75 := df h75
 refine Zd <| Zb <| JLm (.int .i64 kj) <| JLq (.bool (decide (kj = 9))) (Pu.eql rfl rfl) <| JLa (.bool (decide (kj = 9))) <| Za <| Zi (b := decide (kj = 9)) rfl (fun h80 => ?_) (fun h80 => ?_)
 ·replace h80 := dt h80
  refine Zd <| J_drawM mixed #[0, 1, 3, 7, 15, 0, 32, 96, 224, 511, 0, 2047, 4095, 8191] 11 0 [4, 9] rfl (by kernel_rfl) (by decide) rfl (by kernel_rfl) (fun i r81 N81 => match i with | 0 => (r81 0) = .pointer (some ⟨bM, 0, none⟩) | 1 => (r81 1) = .pointer (some ⟨bM, 0, none⟩) | 2 => (r81 2) = .pointer (some ⟨bM, 0, none⟩) | 3 => (r81 3) = .pointer (some ⟨bS, 0, none⟩) | 4 => (r81 4) = .agg ⟨sC ((sml (r81 4)))⟩ ∧ (N81 4) = [(bS, .cells ⟨[v, .int .i64 ((sth (N81 4) 1)), .int .u64 ((sth (N81 4) 2))]⟩ 128 (0, 0))] ∧ (aj ≤ sth (N81 4) 1 ∧ sth (N81 4) 1 ≤ aj + 1) | 5 => (r81 5) = .pointer (some ⟨bM, 0, none⟩) | 6 => (r81 6) = .pointer (some ⟨bM, 0, none⟩) | 7 => (r81 7) = .pointer (some ⟨bM, 0, none⟩) | 8 => (r81 8) = .pointer (some ⟨bS, 0, none⟩) | 9 => (r81 9) = .int .i64 ((ivl (r81 9))) ∧ (N81 9) = [(bS, .cells ⟨[v, .int .i64 ((sth (N81 9) 1)), .int .u64 ((sth (N81 9) 2))]⟩ 128 (0, 0))] ∧ (0 ≤ (ivl (r81 9)) ∧ ((0 : Int) < 2 → (ivl (r81 9)) < 2) ∧ ((2 : Int) ≤ 0 → (ivl (r81 9)) = 0)) ∧ ((sth (N81 4) 1) ≤ sth (N81 9) 1 ∧ sth (N81 9) 1 ≤ (sth (N81 4) 1) + 1) | 10 => (r81 10) = .func (.func 146) ⟨[]⟩ ⟨[.pointer (some ⟨b1, 0, none⟩), .pointer (some ⟨b2, 0, none⟩), .pointer (some ⟨b3, 0, none⟩)]⟩ | _ => True) ⟨?_, ?_, ?_, ?_, ?_, ?_, ?_, ?_, ?_, ?_, ?_, trivial⟩ ?_
  ·intro ρ r81 N81 B hB hBa hBb hp hr hr0
   obtain ⟨ρ82, rfl⟩ := Zc (uc (show ρ 3 = .pointer (some ⟨b1, 0, none⟩) from hr0 3 (by kernel_rfl)) un)
   refine JLr (Zf Xc rfl (At.bx 15 (Zn ((hB 4 (by decide)).trans rfl))) rfl <| Za ?_)
   exact ⟨.pointer (some ⟨bM, 0, none⟩), [], rfl, (Sub.emp Sub.refl), rfl⟩
  ·intro ρ r81 N81 B hB hBa hBb hp hr hr0
   have p0 : (r81 0) = .pointer (some ⟨bM, 0, none⟩) := hp 0 (by decide) rfl
   obtain ⟨ρ83, rfl⟩ := Zc (uc (show ρ 122 = .pointer (some ⟨bM, 0, none⟩) from (hr 0 _ _ (by decide) rfl rfl rfl).trans p0) un)
   refine JLq (.pointer (some ⟨bM, 0, none⟩)) (Pu.nilCheck rfl) <| Za ?_
   exact ⟨.pointer (some ⟨bM, 0, none⟩), [], rfl, (Sub.emp Sub.refl), rfl⟩
  ·intro ρ r81 N81 B hB hBa hBb hp hr hr0
   have p1 : (r81 1) = .pointer (some ⟨bM, 0, none⟩) := hp 1 (by decide) rfl
   obtain ⟨ρ84, rfl⟩ := Zc (uc (show ρ 123 = .pointer (some ⟨bM, 0, none⟩) from (hr 1 _ _ (by decide) rfl rfl rfl).trans p1) un)
   refine JLq (.pointer (some ⟨bM, 0, none⟩)) (YC rfl rfl) <| Za ?_
   exact ⟨.pointer (some ⟨bM, 0, none⟩), [], rfl, (Sub.emp Sub.refl), rfl⟩
  ·intro ρ r81 N81 B hB hBa hBb hp hr hr0
   have p2 : (r81 2) = .pointer (some ⟨bM, 0, none⟩) := hp 2 (by decide) rfl
   obtain ⟨ρ85, rfl⟩ := Zc (uc (show ρ 124 = .pointer (some ⟨bM, 0, none⟩) from (hr 2 _ _ (by decide) rfl rfl rfl).trans p2) un)
   refine JLr (Zf ty62 rfl (At.bx 16 (Zn ((hB 5 (by decide)).trans rfl))) rfl <| Za ?_)
   exact ⟨.pointer (some ⟨bS, 0, none⟩), [], rfl, (Sub.emp Sub.refl), rfl⟩
  ·intro ρ r81 N81 B hB hBa hBb hp hr hr0
   have p3 : (r81 3) = .pointer (some ⟨bS, 0, none⟩) := hp 3 (by decide) rfl
   obtain ⟨ρ86, rfl⟩ := Zc (uc (show ρ 125 = .pointer (some ⟨bS, 0, none⟩) from (hr 3 _ _ (by decide) rfl rfl rfl).trans p3) un)
   have hB2 := hBa rfl
   change B = [[(bS, .cells ⟨[v, .int .i64 aj, .int .u64 sj]⟩ 128 (0, 0))], [(b4, .cells ⟨pkT 0 0 zS (.slice none 0 0) (.slice none 0 0)⟩ 27 (0, 0))], [(b3, .cells ⟨[.int .i64 m]⟩ 3 (0, 0))], [(b2, .cells ⟨[.int .i64 d]⟩ 3 (0, 0))], [(b1, .cells ⟨[.pointer (some ⟨bM, 0, none⟩)]⟩ 167 (0, 0))], [(bM, .cells ⟨[.pointer (some ⟨bS, 0, none⟩), .int .i64 (L - 1)]⟩ 169 (0, 0))]] at hB2
   subst hB2
   refine Zq (M' := [(N81 0), (N81 1), (N81 2), (N81 3), [], (N81 5), (N81 6), (N81 7), (N81 8), [], (N81 10), [(bS, .cells ⟨[v, .int .i64 aj, .int .u64 sj]⟩ 128 (0, 0))], [(b4, .cells ⟨pkT 0 0 zS (.slice none 0 0) (.slice none 0 0)⟩ 27 (0, 0))], [(b3, .cells ⟨[.int .i64 m]⟩ 3 (0, 0))], [(b2, .cells ⟨[.int .i64 d]⟩ 3 (0, 0))], [(b1, .cells ⟨[.pointer (some ⟨bM, 0, none⟩)]⟩ 167 (0, 0))], [(bM, .cells ⟨[.pointer (some ⟨bS, 0, none⟩), .int .i64 (L - 1)]⟩ 169 (0, 0))]]) Sub.refl <| Zw 11 rfl Tryz.call150 rfl rfl (fun hin => sum_ct _ _ _ _ _ _ (RBs.mono (Hle.hu _ _) hv) (by omega) (by omega) _ _ (by omega) (by omega) (by omega)) rfl ?_
   rintro _ _ ⟨n87, a87, s87, rfl, rfl, ha87⟩
   refine Za ?_
   exact ⟨.agg ⟨sC n87⟩, [(bS, .cells ⟨[v, .int .i64 a87, .int .u64 s87]⟩ 128 (0, 0))], rfl, (Sub.flat (M' := [(N81 0), (N81 1), (N81 2), (N81 3), [], (N81 5), (N81 6), (N81 7), (N81 8), [], (N81 10), [(bS, .cells ⟨[v, .int .i64 a87, .int .u64 s87]⟩ 128 (0, 0))], [(b4, .cells ⟨pkT 0 0 zS (.slice none 0 0) (.slice none 0 0)⟩ 27 (0, 0))], [(b3, .cells ⟨[.int .i64 m]⟩ 3 (0, 0))], [(b2, .cells ⟨[.int .i64 d]⟩ 3 (0, 0))], [(b1, .cells ⟨[.pointer (some ⟨bM, 0, none⟩)]⟩ 167 (0, 0))], [(bM, .cells ⟨[.pointer (some ⟨bS, 0, none⟩), .int .i64 (L - 1)]⟩ 169 (0, 0))]]) (Sub.cons 1 rfl (Sub.cons 1 rfl (Sub.cons 1 rfl (Sub.cons 1 rfl (Sub.emp (Sub.cons 2 rfl (Sub.cons 2 rfl (Sub.cons 2 rfl (Sub.cons 2 rfl (Sub.emp (Sub.cons 3 rfl (Sk (Sd (Sd (Sk (Sk (Sk (Sk (Sk Sub.nil))))))))))))))))))) rfl), ⟨sml_eq _, rfl, ha87⟩⟩
  ·intro ρ r81 N81 B hB hBa hBb hp hr hr0
   obtain ⟨ρ88, rfl⟩ := Zc (uc (show ρ 3 = .pointer (some ⟨b1, 0, none⟩) from hr0 3 (by kernel_rfl)) un)
   refine JLr (Zf Xc rfl (At.bx 15 (Zn ((hB 4 (by decide)).trans rfl))) rfl <| Za ?_)
   exact ⟨.pointer (some ⟨bM, 0, none⟩), [], rfl, (Sub.emp Sub.refl), rfl⟩
  ·intro ρ r81 N81 B hB hBa hBb hp hr hr0
   have p5 : (r81 5) = .pointer (some ⟨bM, 0, none⟩) := hp 5 (by decide) rfl
   obtain ⟨ρ89, rfl⟩ := Zc (uc (show ρ 127 = .pointer (some ⟨bM, 0, none⟩) from (hr 5 _ _ (by decide) rfl rfl rfl).trans p5) un)
   refine JLq (.pointer (some ⟨bM, 0, none⟩)) (Pu.nilCheck rfl) <| Za ?_
   exact ⟨.pointer (some ⟨bM, 0, none⟩), [], rfl, (Sub.emp Sub.refl), rfl⟩
  ·intro ρ r81 N81 B hB hBa hBb hp hr hr0
   have p6 : (r81 6) = .pointer (some ⟨bM, 0, none⟩) := hp 6 (by decide) rfl
   obtain ⟨ρ90, rfl⟩ := Zc (uc (show ρ 128 = .pointer (some ⟨bM, 0, none⟩) from (hr 6 _ _ (by decide) rfl rfl rfl).trans p6) un)
   refine JLq (.pointer (some ⟨bM, 0, none⟩)) (YC rfl rfl) <| Za ?_
   exact ⟨.pointer (some ⟨bM, 0, none⟩), [], rfl, (Sub.emp Sub.refl), rfl⟩
  ·intro ρ r81 N81 B hB hBa hBb hp hr hr0
   have p7 : (r81 7) = .pointer (some ⟨bM, 0, none⟩) := hp 7 (by decide) rfl
   obtain ⟨ρ91, rfl⟩ := Zc (uc (show ρ 129 = .pointer (some ⟨bM, 0, none⟩) from (hr 7 _ _ (by decide) rfl rfl rfl).trans p7) un)
   refine JLr (Zf ty62 rfl (At.bx 16 (Zn ((hB 5 (by decide)).trans rfl))) rfl <| Za ?_)
   exact ⟨.pointer (some ⟨bS, 0, none⟩), [], rfl, (Sub.emp Sub.refl), rfl⟩
  ·intro ρ r81 N81 B hB hBa hBb hp hr hr0
   have p4 : (r81 4) = .agg ⟨sC ((sml (r81 4)))⟩ ∧ (N81 4) = [(bS, .cells ⟨[v, .int .i64 ((sth (N81 4) 1)), .int .u64 ((sth (N81 4) 2))]⟩ 128 (0, 0))] ∧ (aj ≤ sth (N81 4) 1 ∧ sth (N81 4) 1 ≤ aj + 1) := hp 4 (by decide) rfl
   have p8 : (r81 8) = .pointer (some ⟨bS, 0, none⟩) := hp 8 (by decide) rfl
   obtain ⟨ρ92, rfl⟩ := Zc (uc (show ρ 130 = .pointer (some ⟨bS, 0, none⟩) from (hr 8 _ _ (by decide) rfl rfl rfl).trans p8) un)
   have hB2 := hBa rfl
   change B = [(N81 4), [(b4, .cells ⟨pkT 0 0 zS (.slice none 0 0) (.slice none 0 0)⟩ 27 (0, 0))], [(b3, .cells ⟨[.int .i64 m]⟩ 3 (0, 0))], [(b2, .cells ⟨[.int .i64 d]⟩ 3 (0, 0))], [(b1, .cells ⟨[.pointer (some ⟨bM, 0, none⟩)]⟩ 167 (0, 0))], [(bM, .cells ⟨[.pointer (some ⟨bS, 0, none⟩), .int .i64 (L - 1)]⟩ 169 (0, 0))]] at hB2
   subst hB2
   refine Zq (M' := [(N81 0), (N81 1), (N81 2), (N81 3), [], (N81 5), (N81 6), (N81 7), (N81 8), [], (N81 10), (N81 4), [(b4, .cells ⟨pkT 0 0 zS (.slice none 0 0) (.slice none 0 0)⟩ 27 (0, 0))], [(b3, .cells ⟨[.int .i64 m]⟩ 3 (0, 0))], [(b2, .cells ⟨[.int .i64 d]⟩ 3 (0, 0))], [(b1, .cells ⟨[.pointer (some ⟨bM, 0, none⟩)]⟩ 167 (0, 0))], [(bM, .cells ⟨[.pointer (some ⟨bS, 0, none⟩), .int .i64 (L - 1)]⟩ 169 (0, 0))]]) Sub.refl <| Zq (M' := [(N81 0), (N81 1), (N81 2), (N81 3), [], (N81 5), (N81 6), (N81 7), (N81 8), [], (N81 10), [(bS, .cells ⟨[v, .int .i64 ((sth (N81 4) 1)), .int .u64 ((sth (N81 4) 2))]⟩ 128 (0, 0))], [(b4, .cells ⟨pkT 0 0 zS (.slice none 0 0) (.slice none 0 0)⟩ 27 (0, 0))], [(b3, .cells ⟨[.int .i64 m]⟩ 3 (0, 0))], [(b2, .cells ⟨[.int .i64 d]⟩ 3 (0, 0))], [(b1, .cells ⟨[.pointer (some ⟨bM, 0, none⟩)]⟩ 167 (0, 0))], [(bM, .cells ⟨[.pointer (some ⟨bS, 0, none⟩), .int .i64 (L - 1)]⟩ 169 (0, 0))]]) (Sk (Sk (Sk (Sk (Sub.emp (Sd (Sk (Sk (Sk (Sk (Sub.emp (Sd (Sk (Se p4.2.1 (Sk (Sk (Sk (Sk (Sk Sub.nil))))))))))))))))))) <| Zw 11 rfl Tryz.call147 rfl rfl (fun hin => YJ _ _ _ _ _ _ (RBs.mono (Hle.hu _ _) hv) (by omega) (by omega) _) rfl ?_
   rintro _ _ ⟨n93, a93, s93, rfl, rfl, hn93, ha93⟩
   refine Za ?_
   exact ⟨.int .i64 n93, [(bS, .cells ⟨[v, .int .i64 a93, .int .u64 s93]⟩ 128 (0, 0))], rfl, (Sub.flat (M' := [(N81 0), (N81 1), (N81 2), (N81 3), [], (N81 5), (N81 6), (N81 7), (N81 8), [], (N81 10), [(bS, .cells ⟨[v, .int .i64 a93, .int .u64 s93]⟩ 128 (0, 0))], [(b4, .cells ⟨pkT 0 0 zS (.slice none 0 0) (.slice none 0 0)⟩ 27 (0, 0))], [(b3, .cells ⟨[.int .i64 m]⟩ 3 (0, 0))], [(b2, .cells ⟨[.int .i64 d]⟩ 3 (0, 0))], [(b1, .cells ⟨[.pointer (some ⟨bM, 0, none⟩)]⟩ 167 (0, 0))], [(bM, .cells ⟨[.pointer (some ⟨bS, 0, none⟩), .int .i64 (L - 1)]⟩ 169 (0, 0))]]) (Sub.cons 1 rfl (Sub.cons 1 rfl (Sub.cons 1 rfl (Sub.cons 1 rfl (Sub.emp (Sub.cons 2 rfl (Sub.cons 2 rfl (Sub.cons 2 rfl (Sub.cons 2 rfl (Sub.emp (Sub.cons 3 rfl (Sk (Sd (Sd (Sk (Sk (Sk (Sk (Sk Sub.nil))))))))))))))))))) rfl), ⟨rfl, rfl, hn93, ha93⟩⟩
  ·intro ρ r81 N81 B hB hBa hBb hp hr hr0
   obtain ⟨ρ94, rfl⟩ := Zc (uc (show ρ 7 = .func (.func 146) ⟨[]⟩ ⟨[.pointer (some ⟨b1, 0, none⟩), .pointer (some ⟨b2, 0, none⟩), .pointer (some ⟨b3, 0, none⟩)]⟩ from hr0 7 (by kernel_rfl)) un)
   refine JLm (.func (.func 146) ⟨[]⟩ ⟨[.pointer (some ⟨b1, 0, none⟩), .pointer (some ⟨b2, 0, none⟩), .pointer (some ⟨b3, 0, none⟩)]⟩) <| Za ?_
   exact ⟨.func (.func 146) ⟨[]⟩ ⟨[.pointer (some ⟨b1, 0, none⟩), .pointer (some ⟨b2, 0, none⟩), .pointer (some ⟨b3, 0, none⟩)]⟩, [], rfl, (Sub.emp Sub.refl), rfl⟩
  intro ρ r81 N81 hp hr hr0
  have p4 : (r81 4) = .agg ⟨sC ((sml (r81 4)))⟩ ∧ (N81 4) = [(bS, .cells ⟨[v, .int .i64 ((sth (N81 4) 1)), .int .u64 ((sth (N81 4) 2))]⟩ 128 (0, 0))] ∧ (aj ≤ sth (N81 4) 1 ∧ sth (N81 4) 1 ≤ aj + 1) := hp 4 (by decide)
  have p9 : (r81 9) = .int .i64 ((ivl (r81 9))) ∧ (N81 9) = [(bS, .cells ⟨[v, .int .i64 ((sth (N81 9) 1)), .int .u64 ((sth (N81 9) 2))]⟩ 128 (0, 0))] ∧ (0 ≤ (ivl (r81 9)) ∧ ((0 : Int) < 2 → (ivl (r81 9)) < 2) ∧ ((2 : Int) ≤ 0 → (ivl (r81 9)) = 0)) ∧ ((sth (N81 4) 1) ≤ sth (N81 9) 1 ∧ sth (N81 9) 1 ≤ (sth (N81 4) 1) + 1) := hp 9 (by decide)
  obtain ⟨ρ95, rfl⟩ := Zc (uc (show ρ 3 = .pointer (some ⟨b1, 0, none⟩) from hr0 3 (by kernel_rfl)) (uc (show ρ 6 = .pointer (some ⟨b4, 0, none⟩) from hr0 6 (by kernel_rfl)) (uc (show ρ 7 = .func (.func 146) ⟨[]⟩ ⟨[.pointer (some ⟨b1, 0, none⟩), .pointer (some ⟨b2, 0, none⟩), .pointer (some ⟨b3, 0, none⟩)]⟩ from hr0 7 (by kernel_rfl)) (uc (show ρ 126 = .agg ⟨sC ((sml (r81 4)))⟩ from (hr 4 _ _ (by decide) rfl rfl).trans p4.1) (uc (show ρ 131 = .int .i64 ((ivl (r81 9))) from (hr 9 _ _ (by decide) rfl rfl).trans p9.1) (uc (show ρ 132 = .func (.func 146) ⟨[]⟩ ⟨[.pointer (some ⟨b1, 0, none⟩), .pointer (some ⟨b2, 0, none⟩), .pointer (some ⟨b3, 0, none⟩)]⟩ from (hr 10 _ _ (by decide) rfl rfl).trans (hp 10 (by decide))) un))))))
  have p81_4 := p4; have p81_9 := p9
  clear hp hr hr0 p4 p9
  refine Zq (M' := [(N81 0), (N81 1), (N81 2), (N81 3), [], (N81 5), (N81 6), (N81 7), (N81 8), [], (N81 10), (N81 9), [(b4, .cells ⟨pkT 0 0 zS (.slice none 0 0) (.slice none 0 0)⟩ 27 (0, 0))], [(b3, .cells ⟨[.int .i64 m]⟩ 3 (0, 0))], [(b2, .cells ⟨[.int .i64 d]⟩ 3 (0, 0))], [(b1, .cells ⟨[.pointer (some ⟨bM, 0, none⟩)]⟩ 167 (0, 0))], [(bM, .cells ⟨[.pointer (some ⟨bS, 0, none⟩), .int .i64 (L - 1)]⟩ 169 (0, 0))]]) Sub.refl <| Zq (M' := [[(bS, .cells ⟨[v, .int .i64 ((sth (N81 9) 1)), .int .u64 ((sth (N81 9) 2))]⟩ 128 (0, 0))], [(b4, .cells ⟨pkT 0 0 zS (.slice none 0 0) (.slice none 0 0)⟩ 27 (0, 0))], [(b3, .cells ⟨[.int .i64 m]⟩ 3 (0, 0))], [(b2, .cells ⟨[.int .i64 d]⟩ 3 (0, 0))], [(b1, .cells ⟨[.pointer (some ⟨bM, 0, none⟩)]⟩ 167 (0, 0))], [(bM, .cells ⟨[.pointer (some ⟨bS, 0, none⟩), .int .i64 (L - 1)]⟩ 169 (0, 0))]]) (Sd (Sd (Sd (Sd (Sd (Sd (Sd (Sd (Sd (Sd (Sd (Se p81_9.2.1 (Sk (Sk (Sk (Sk (Sk Sub.nil))))))))))))))))) <| Zq (M' := [[(bS, .cells ⟨[v, .int .i64 ((sth (N81 9) 1)), .int .u64 ((sth (N81 9) 2))]⟩ 128 (0, 0))], [(b4, .cells ⟨pkT 0 0 zS (.slice none 0 0) (.slice none 0 0)⟩ 27 (0, 0))], [(b3, .cells ⟨[.int .i64 m]⟩ 3 (0, 0))], [(b2, .cells ⟨[.int .i64 d]⟩ 3 (0, 0))], [(b1, .cells ⟨[.pointer (some ⟨bM, 0, none⟩)]⟩ 167 (0, 0))], [(bM, .cells ⟨[.pointer (some ⟨bS, 0, none⟩), .int .i64 (L - 1)]⟩ 169 (0, 0))]]) (Sub.flat Sub.refl (by simp)) ?_
  show JL _ _ _ [_, _, _] _ _ _
  refine Zq (M' := [([(bM, .cells ⟨[.pointer (some ⟨bS, 0, none⟩), .int .i64 (L - 1)]⟩ 169 (0, 0))]) ++ ([(bS, .cells ⟨[v, .int .i64 ((sth (N81 9) 1)), .int .u64 ((sth (N81 9) 2))]⟩ 128 (0, 0))]), [(b4, .cells ⟨pkT 0 0 zS (.slice none 0 0) (.slice none 0 0)⟩ 27 (0, 0))], [(b3, .cells ⟨[.int .i64 m]⟩ 3 (0, 0))], [(b2, .cells ⟨[.int .i64 d]⟩ 3 (0, 0))], [(b1, .cells ⟨[.pointer (some ⟨bM, 0, none⟩)]⟩ 167 (0, 0))]]) (Sub.join (Sub.cons 5 rfl (Sk (Sk (Sk (Sk (Sk Sub.nil))))))) <| Zw 0 rfl Tryz.call146 rfl rfl (fun hin => Y2 _ _ _ _ _ _ _ _ _ _ _ _ _ _ (RBs.mono (Hle.hu _ _) hv) (hin 3 _ rfl _ _ List.mem_cons_self) (hin 2 _ rfl _ _ List.mem_cons_self) (hin 1 _ rfl _ _ List.mem_cons_self) (by omega) (by omega) (by omega) (by omega) (fun h hh => ih _ (by omega) _ _ _ _ _ _ _ _ _ _ rfl (RBs.mono hh (RBs.mono (Hle.hu _ _) hv)) (by omega) (by omega) (by omega) (by omega) (by omega) (by omega) (by omega) (by omega))) rfl ?_
  rintro _ _ ⟨t96, cs96, k96, l96, a96, s96, rfl, rfl, hO96, ⟨hn96, hz96⟩, hl96, ha96⟩
  refine Zq (M' := [[(bM, .cells ⟨[.pointer (some ⟨bS, 0, none⟩), .int .i64 l96]⟩ 169 (0, 0))], [(bS, .cells ⟨[v, .int .i64 a96, .int .u64 s96]⟩ 128 (0, 0))], k96, [(b4, .cells ⟨pkT 0 0 zS (.slice none 0 0) (.slice none 0 0)⟩ 27 (0, 0))], [(b3, .cells ⟨[.int .i64 m]⟩ 3 (0, 0))], [(b2, .cells ⟨[.int .i64 d]⟩ 3 (0, 0))], [(b1, .cells ⟨[.pointer (some ⟨bM, 0, none⟩)]⟩ 167 (0, 0))]]) (Sub.flat Sub.refl (by simp)) <| Zg rfl Tryz.call154 rfl (fun hin => askD_ct _ _ _ hO96.len hO96.ok _) rfl ?_
  rintro _ _ ⟨sv97, k97, rfl, rfl, ho97⟩
  refine JLr (Ze 4 (vs := pkT 11 ((ivl (r81 9))) ((sml (r81 4))) sv97 (.slice none 0 0)) (l := pkT 11 ((ivl (r81 9))) ((sml (r81 4))) sv97 (.slice none 0 0)) Zu rfl rfl rfl rfl rfl (ZI ho97.one rfl) (Z0 ..) <| Za <| Zl <| ⟨.agg ⟨pkT 11 ((ivl (r81 9))) ((sml (r81 4))) sv97 (.slice none 0 0)⟩, [([(bM, .cells ⟨[.pointer (some ⟨bS, 0, none⟩), .int .i64 l96]⟩ 169 (0, 0))]) ++ ([(bS, .cells ⟨[v, .int .i64 a96, .int .u64 s96]⟩ 128 (0, 0))]), k97 ++ k96], Ret.one rfl (RV.cell Zu rfl (At.bx 4 rfl) (ZZ ..)), (Sub.join (Sub.cons 1 rfl (Sub.cons 1 rfl (Sub.join (Sk (Sk Sub.nil)))))), ?_⟩)
  exact ⟨.mk 11 ((ivl (r81 9))) ((sml (r81 4))) [t96] [], _, _, _, _, _, rfl, rfl, OT_row (by unfold inI; omega) (by unfold inI; omega) ho97 (OTs1 hO96) (by simp), ⟨nErr_ask (by omega) (by omega) (by simpa using hn96), by simp only [eVa, eNu, sizeT, sizeTs, sizeCs]; omega⟩, by omega, by omega⟩
 replace h80 := df h80
 refine Zd <| Zb <| JLm (.int .i64 kj) <| JLq (.bool (decide (kj = 10))) (Pu.eql rfl rfl) <| JLa (.bool (decide (kj = 10))) <| Za <| Zi (b := decide (kj = 10)) rfl (fun h98 => ?_) (fun h98 => ?_)
 ·replace h98 := dt h98
  refine Zd <| Zb <| JLr (Zf Xc rfl (At.bx 4 rfl) rfl <| JLq (.pointer (some ⟨bM, 0, none⟩)) (Pu.nilCheck rfl) <| JLq (.pointer (some ⟨bM, 0, none⟩)) (YC rfl rfl) <| JLr (Zf ty62 rfl (At.bx 5 rfl) rfl <| Zw 0 rfl Tryz.call150 rfl rfl (fun hin => sum_ct _ _ _ _ _ _ (RBs.mono (Hle.hu _ _) hv) (by omega) (by omega) _ _ (by omega) (by omega) (by omega)) rfl ?_))
  rintro _ _ ⟨n99, a99, s99, rfl, rfl, ha99⟩
  refine JLm (.func (.func 146) ⟨[]⟩ ⟨[.pointer (some ⟨b1, 0, none⟩), .pointer (some ⟨b2, 0, none⟩), .pointer (some ⟨b3, 0, none⟩)]⟩) <| Zq (M' := [([(bM, .cells ⟨[.pointer (some ⟨bS, 0, none⟩), .int .i64 (L - 1)]⟩ 169 (0, 0))]) ++ ([(bS, .cells ⟨[v, .int .i64 a99, .int .u64 s99]⟩ 128 (0, 0))]), [(b4, .cells ⟨pkT 0 0 zS (.slice none 0 0) (.slice none 0 0)⟩ 27 (0, 0))], [(b3, .cells ⟨[.int .i64 m]⟩ 3 (0, 0))], [(b2, .cells ⟨[.int .i64 d]⟩ 3 (0, 0))], [(b1, .cells ⟨[.pointer (some ⟨bM, 0, none⟩)]⟩ 167 (0, 0))]]) (Sub.join (Sub.cons 5 rfl (Sk (Sk (Sk (Sk (Sk Sub.nil))))))) <| Zw 0 rfl Tryz.call146 rfl rfl (fun hin => Y2 _ _ _ _ _ _ _ _ _ _ _ _ _ _ (RBs.mono (Hle.hu _ _) hv) (hin 3 _ rfl _ _ List.mem_cons_self) (hin 2 _ rfl _ _ List.mem_cons_self) (hin 1 _ rfl _ _ List.mem_cons_self) (by omega) (by omega) (by omega) (by omega) (fun h hh => ih _ (by omega) _ _ _ _ _ _ _ _ _ _ rfl (RBs.mono hh (RBs.mono (Hle.hu _ _) hv)) (by omega) (by omega) (by omega) (by omega) (by omega) (by omega) (by omega) (by omega))) rfl ?_
  rintro _ _ ⟨t100, cs100, k100, l100, a100, s100, rfl, rfl, hO100, ⟨hn100, hz100⟩, hl100, ha100⟩
  refine Zq (M' := [[(bM, .cells ⟨[.pointer (some ⟨bS, 0, none⟩), .int .i64 l100]⟩ 169 (0, 0))], [(bS, .cells ⟨[v, .int .i64 a100, .int .u64 s100]⟩ 128 (0, 0))], k100, [(b4, .cells ⟨pkT 0 0 zS (.slice none 0 0) (.slice none 0 0)⟩ 27 (0, 0))], [(b3, .cells ⟨[.int .i64 m]⟩ 3 (0, 0))], [(b2, .cells ⟨[.int .i64 d]⟩ 3 (0, 0))], [(b1, .cells ⟨[.pointer (some ⟨bM, 0, none⟩)]⟩ 167 (0, 0))]]) (Sub.flat Sub.refl (by simp)) <| JLm (.func (.func 146) ⟨[]⟩ ⟨[.pointer (some ⟨b1, 0, none⟩), .pointer (some ⟨b2, 0, none⟩), .pointer (some ⟨b3, 0, none⟩)]⟩) <| Zq (M' := [([(bM, .cells ⟨[.pointer (some ⟨bS, 0, none⟩), .int .i64 l100]⟩ 169 (0, 0))]) ++ ([(bS, .cells ⟨[v, .int .i64 a100, .int .u64 s100]⟩ 128 (0, 0))]), k100, [(b4, .cells ⟨pkT 0 0 zS (.slice none 0 0) (.slice none 0 0)⟩ 27 (0, 0))], [(b3, .cells ⟨[.int .i64 m]⟩ 3 (0, 0))], [(b2, .cells ⟨[.int .i64 d]⟩ 3 (0, 0))], [(b1, .cells ⟨[.pointer (some ⟨bM, 0, none⟩)]⟩ 167 (0, 0))]]) (Sub.join (Sk (Sk (Sk (Sk (Sk (Sk (Sk Sub.nil)))))))) <| Zw 0 rfl Tryz.call146 rfl rfl (fun hin => Y2 _ _ _ _ _ _ _ _ _ _ _ _ _ _ (RBs.mono (Hle.hu _ _) hv) (hin 4 _ rfl _ _ List.mem_cons_self) (hin 3 _ rfl _ _ List.mem_cons_self) (hin 2 _ rfl _ _ List.mem_cons_self) (by omega) (by omega) (by omega) (by omega) (fun h hh => ih _ (by omega) _ _ _ _ _ _ _ _ _ _ rfl (RBs.mono hh (RBs.mono (Hle.hu _ _) hv)) (by omega) (by omega) (by omega) (by omega) (by omega) (by omega) (by omega) (by omega))) rfl ?_
  rintro _ _ ⟨t101, cs101, k101, l101, a101, s101, rfl, rfl, hO101, ⟨hn101, hz101⟩, hl101, ha101⟩
  refine Zq (M' := [[(bM, .cells ⟨[.pointer (some ⟨bS, 0, none⟩), .int .i64 l101]⟩ 169 (0, 0))], [(bS, .cells ⟨[v, .int .i64 a101, .int .u64 s101]⟩ 128 (0, 0))], k101, k100, [(b4, .cells ⟨pkT 0 0 zS (.slice none 0 0) (.slice none 0 0)⟩ 27 (0, 0))], [(b3, .cells ⟨[.int .i64 m]⟩ 3 (0, 0))], [(b2, .cells ⟨[.int .i64 d]⟩ 3 (0, 0))], [(b1, .cells ⟨[.pointer (some ⟨bM, 0, none⟩)]⟩ 167 (0, 0))]]) (Sub.flat Sub.refl (by simp)) <| JLr (Zr (vs := [.agg ⟨cs100⟩, .agg ⟨cs101⟩]) [cs100, cs101] Tryz.runUnderlying24 el27 rfl rfl (by intro e he; simp only [List.mem_cons, List.not_mem_nil, or_false] at he; rcases he with rfl | rfl <;> first | exact hO100.len | exact hO101.len) rfl (by decide) fun b102 k102 ho102 hk102 => Zg rfl Tryz.call52 rfl (fun hin => ha_ct _ _ _ _ _) rfl ?_)
  rintro _ _ ⟨rfl, rfl⟩
  refine JLr (Zj (l := pkT 0 0 zS (.slice none 0 0) (.slice none 0 0)) Tryz.zeroValue27 rfl fun b103 => JLr (Ze 0 (vs := pkT 12 0 n99 (.slice (some ⟨b102, 0, none⟩) 2 2) (.slice none 0 0)) (l := pkT 12 0 n99 (.slice (some ⟨b102, 0, none⟩) 2 2) (.slice none 0 0)) Zu rfl rfl rfl rfl rfl (ZI rfl rfl) (Z0 ..) <| Za <| Zd <| Zd <| Zb <| JLr (Zf Xc rfl (At.bx 9 rfl) rfl <| JLq (.pointer (some ⟨bM, 0, none⟩)) (Pu.nilCheck rfl) <| JLq (.pointer (some ⟨bM, 0, none⟩)) (YC rfl rfl) <| JLr (Zf ty62 rfl (At.bx 2 rfl) rfl <| Zw 3 rfl Tryz.call147 rfl rfl (fun hin => YJ _ _ _ _ _ _ (RBs.mono (Hle.hu _ _) hv) (by omega) (by omega) _) rfl ?_))))
  rintro _ _ ⟨n104, a104, s104, rfl, rfl, hn104, ha104⟩
  refine JLm (.int .i64 0) <| Za <| Zs <| ZU (fun k ρ M => ∃ (j : Nat) (ts : List Tm) (w : Value) (es : List (List Value)) (k1 k2 : Zk) (lw aw sw : Int), ρ 3 = .pointer (some ⟨b1, 0, none⟩) ∧ ρ 6 = .pointer (some ⟨b4, 0, none⟩) ∧ ρ 7 = .func (.func 146) ⟨[]⟩ ⟨[.pointer (some ⟨b1, 0, none⟩), .pointer (some ⟨b2, 0, none⟩), .pointer (some ⟨b3, 0, none⟩)]⟩ ∧ ρ 9 = .pointer (some ⟨b103, 0, none⟩) ∧ ρ 153 = .int .i64 n104 ∧ ρ 154 = .int .i64 ((j : Int)) ∧ Sub [[(b103, .cells ⟨pkT 12 0 n99 w (.slice none 0 0)⟩ 27 (0, 0))], k1, k2, [(bM, .cells ⟨[.pointer (some ⟨bS, 0, none⟩), .int .i64 lw]⟩ 169 (0, 0))], [(bS, .cells ⟨[v, .int .i64 aw, .int .u64 sw]⟩ 128 (0, 0))], [(b4, .cells ⟨pkT 0 0 zS (.slice none 0 0) (.slice none 0 0)⟩ 27 (0, 0))], [(b3, .cells ⟨[.int .i64 m]⟩ 3 (0, 0))], [(b2, .cells ⟨[.int .i64 d]⟩ 3 (0, 0))], [(b1, .cells ⟨[.pointer (some ⟨bM, 0, none⟩)]⟩ 167 (0, 0))]] M ∧ (j : Int) ≤ n104 ∧ Own 27 36 w es k1 ∧ OTs ts es k2 ∧ ts.length = j + 2 ∧ Z7 d m 0 12 0 ts = 0 ∧ (sizeTs ts : Int) ≤ 20 * (L - 1 - lw) ∧ (lw ≤ L - 1 ∧ -3 * (L - 2) - ((j : Int) + 1) ≤ lw ∧ lw ≤ L - 2) ∧ (a ≤ aw ∧ aw ≤ a + 100 * (L - 1 - lw) + 10) ∧ k = n104.toNat - j) _ ⟨0, [t100, t101], (.slice (some ⟨b102, 0, none⟩) 2 2), ([cs100, cs101]), k102, (k100 ++ k101), l101, a104, s104, rfl, rfl, rfl, rfl, rfl, rfl, (Sub.cons 1 rfl (Sub.cons 1 rfl (Sub.join (Sub.cons 3 rfl (Sub.cons 2 rfl (Sub.cons 1 rfl (Sk (Sk (Sk (Sk (Sk Sub.nil))))))))))), (by omega), ho102, (OTs2 hO100 hO101), rfl, (nErrK_han (by simpa using hn100) hn101), (by simp only [sizeTs]; omega), (by omega), (by omega), rfl⟩ ?_
  rintro _ ρ105 _ ⟨j, ts, w, es, k1, k2, lw, aw, sw, e106, e107, e108, e109, e110, e111, hm112, hj, how, hopw, hpl, hpe, hps, hpb, hpa, rfl⟩
  obtain ⟨ρ113, rfl⟩ := Zc (uc e106 (uc e107 (uc e108 (uc e109 (uc e110 (uc e111 un))))))
  clear e106 e107 e108 e109 e110 e111
  refine Z1 hm112 <| Zd <| Zb <| JLq (.bool (decide ((j : Int) < n104))) (Pu.lss rfl rfl) <| Za <| Zd <| Zi (b := decide ((j : Int) < n104)) rfl (fun h114 => ?_) (fun h114 => ?_)
  ·replace h114 := dt h114
   have helw := OTs_len hopw
   refine Zp <| Zd <| Zs <| Z1 (M' := [([(bM, .cells ⟨[.pointer (some ⟨bS, 0, none⟩), .int .i64 lw]⟩ 169 (0, 0))]) ++ ([(bS, .cells ⟨[v, .int .i64 aw, .int .u64 sw]⟩ 128 (0, 0))]), [(b103, .cells ⟨pkT 12 0 n99 w (.slice none 0 0)⟩ 27 (0, 0))], k1, k2, [(b4, .cells ⟨pkT 0 0 zS (.slice none 0 0) (.slice none 0 0)⟩ 27 (0, 0))], [(b3, .cells ⟨[.int .i64 m]⟩ 3 (0, 0))], [(b2, .cells ⟨[.int .i64 d]⟩ 3 (0, 0))], [(b1, .cells ⟨[.pointer (some ⟨bM, 0, none⟩)]⟩ 167 (0, 0))]]) (Sub.join (Sub.cons 3 rfl (Sub.cons 3 rfl (Sk (Sk (Sk (Sk (Sk (Sk (Sk Sub.nil)))))))))) <| J_drawM mixed #[0, 1, 0, 4, 12, 31, 63, 127] 5 0 [3] rfl (by kernel_rfl) (by decide) rfl (by kernel_rfl) (fun i r115 N115 => match i with | 0 => (r115 0) = .pointer (some ⟨b103, 34, none⟩) | 1 => (r115 1) = w | 2 => (r115 2) = .func (.func 146) ⟨[]⟩ ⟨[.pointer (some ⟨b1, 0, none⟩), .pointer (some ⟨b2, 0, none⟩), .pointer (some ⟨b3, 0, none⟩)]⟩ | 3 => (r115 3) = .agg ⟨(cll (r115 3))⟩ ∧ (cll (r115 3)).length = 36 ∧ okc (cll (r115 3)) ∧ ∃ tM kM lM aM sM, (N115 3) = ([(bM, .cells ⟨[.pointer (some ⟨bS, 0, none⟩), .int .i64 lM]⟩ 169 (0, 0))]) ++ (([(bS, .cells ⟨[v, .int .i64 aM, .int .u64 sM]⟩ 128 (0, 0))]) ++ kM) ∧ OT tM (cll (r115 3)) kM ∧ (ZR (d + 2) m 0 tM = 0 ∧ (sizeT tM : Int) ≤ 20 * (lw - lM)) ∧ (lM ≤ lw - 1 ∧ (lw ≤ 1 → lM = lw - 1) ∧ (1 ≤ lw → -3 * (lw - 1) ≤ lM)) ∧ (aw ≤ aM ∧ aM ≤ aw + 100 * (lw - lM)) | 4 => (r115 4) = .slice (some ⟨(ZC (r115 4)), 0, none⟩) 1 1 ∧ (N115 4) = [(ZC (r115 4), .cells ⟨List.flatten [(cll (r115 3))]⟩ 27 (0, 0))] ∧ Own 27 36 (.slice (some ⟨(ZC (r115 4)), 0, none⟩) 1 1) [(cll (r115 3))] (N115 4) | _ => True) ⟨?_, ?_, ?_, ?_, ?_, trivial⟩ ?_
   ·intro ρ r115 N115 B hB hBa hBb hp hr hr0
    obtain ⟨ρ116, rfl⟩ := Zc (uc (show ρ 9 = .pointer (some ⟨b103, 0, none⟩) from hr0 9 (by kernel_rfl)) un)
    refine JLq (.pointer (some ⟨b103, 34, none⟩)) (Yq rfl rfl) <| Za ?_
    exact ⟨.pointer (some ⟨b103, 34, none⟩), [], rfl, (Sub.emp Sub.refl), rfl⟩
   ·intro ρ r115 N115 B hB hBa hBb hp hr hr0
    have p0 : (r115 0) = .pointer (some ⟨b103, 34, none⟩) := hp 0 (by decide) rfl
    obtain ⟨ρ117, rfl⟩ := Zc (uc (show ρ 156 = .pointer (some ⟨b103, 34, none⟩) from (hr 0 _ _ (by decide) rfl rfl rfl).trans p0) un)
    refine JLr (Zf ty24 rfl (At.bx 6 (Zn ((hB 1 (by decide)).trans rfl))) (Yu ..) <| Za ?_)
    exact ⟨w, [], rfl, (Sub.emp Sub.refl), rfl⟩
   ·intro ρ r115 N115 B hB hBa hBb hp hr hr0
    obtain ⟨ρ118, rfl⟩ := Zc (uc (show ρ 7 = .func (.func 146) ⟨[]⟩ ⟨[.pointer (some ⟨b1, 0, none⟩), .pointer (some ⟨b2, 0, none⟩), .pointer (some ⟨b3, 0, none⟩)]⟩ from hr0 7 (by kernel_rfl)) un)
    refine JLm (.func (.func 146) ⟨[]⟩ ⟨[.pointer (some ⟨b1, 0, none⟩), .pointer (some ⟨b2, 0, none⟩), .pointer (some ⟨b3, 0, none⟩)]⟩) <| Za ?_
    exact ⟨.func (.func 146) ⟨[]⟩ ⟨[.pointer (some ⟨b1, 0, none⟩), .pointer (some ⟨b2, 0, none⟩), .pointer (some ⟨b3, 0, none⟩)]⟩, [], rfl, (Sub.emp Sub.refl), rfl⟩
   ·intro ρ r115 N115 B hB hBa hBb hp hr hr0
    have p2 : (r115 2) = .func (.func 146) ⟨[]⟩ ⟨[.pointer (some ⟨b1, 0, none⟩), .pointer (some ⟨b2, 0, none⟩), .pointer (some ⟨b3, 0, none⟩)]⟩ := hp 2 (by decide) rfl
    obtain ⟨ρ119, rfl⟩ := Zc (uc (show ρ 158 = .func (.func 146) ⟨[]⟩ ⟨[.pointer (some ⟨b1, 0, none⟩), .pointer (some ⟨b2, 0, none⟩), .pointer (some ⟨b3, 0, none⟩)]⟩ from (hr 2 _ _ (by decide) rfl rfl rfl).trans p2) un)
    have hB2 := hBa rfl
    change B = [([(bM, .cells ⟨[.pointer (some ⟨bS, 0, none⟩), .int .i64 lw]⟩ 169 (0, 0))]) ++ ([(bS, .cells ⟨[v, .int .i64 aw, .int .u64 sw]⟩ 128 (0, 0))]), [(b103, .cells ⟨pkT 12 0 n99 w (.slice none 0 0)⟩ 27 (0, 0))], k1, k2, [(b4, .cells ⟨pkT 0 0 zS (.slice none 0 0) (.slice none 0 0)⟩ 27 (0, 0))], [(b3, .cells ⟨[.int .i64 m]⟩ 3 (0, 0))], [(b2, .cells ⟨[.int .i64 d]⟩ 3 (0, 0))], [(b1, .cells ⟨[.pointer (some ⟨bM, 0, none⟩)]⟩ 167 (0, 0))]] at hB2
    subst hB2
    refine Zq (M' := [(N115 0), (N115 1), (N115 2), [], (N115 4), ([(bM, .cells ⟨[.pointer (some ⟨bS, 0, none⟩), .int .i64 lw]⟩ 169 (0, 0))]) ++ ([(bS, .cells ⟨[v, .int .i64 aw, .int .u64 sw]⟩ 128 (0, 0))]), [(b103, .cells ⟨pkT 12 0 n99 w (.slice none 0 0)⟩ 27 (0, 0))], k1, k2, [(b4, .cells ⟨pkT 0 0 zS (.slice none 0 0) (.slice none 0 0)⟩ 27 (0, 0))], [(b3, .cells ⟨[.int .i64 m]⟩ 3 (0, 0))], [(b2, .cells ⟨[.int .i64 d]⟩ 3 (0, 0))], [(b1, .cells ⟨[.pointer (some ⟨bM, 0, none⟩)]⟩ 167 (0, 0))]]) Sub.refl <| Zw 5 rfl Tryz.call146 rfl rfl (fun hin => Y2 _ _ _ _ _ _ _ _ _ _ _ _ _ _ (RBs.mono (Hle.hu _ _) hv) (hin 11 _ rfl _ _ List.mem_cons_self) (hin 10 _ rfl _ _ List.mem_cons_self) (hin 9 _ rfl _ _ List.mem_cons_self) (by omega) (by omega) (by omega) (by omega) (fun h hh => ih _ (by omega) _ _ _ _ _ _ _ _ _ _ rfl (RBs.mono hh (RBs.mono (Hle.hu _ _) hv)) (by omega) (by omega) (by omega) (by omega) (by omega) (by omega) (by omega) (by omega))) rfl ?_
    rintro _ _ ⟨t120, cs120, k120, l120, a120, s120, rfl, rfl, hO120, ⟨hn120, hz120⟩, hl120, ha120⟩
    refine Zq (M' := [[(bM, .cells ⟨[.pointer (some ⟨bS, 0, none⟩), .int .i64 l120]⟩ 169 (0, 0))], [(bS, .cells ⟨[v, .int .i64 a120, .int .u64 s120]⟩ 128 (0, 0))], k120, (N115 0), (N115 1), (N115 2), [], (N115 4), [(b103, .cells ⟨pkT 12 0 n99 w (.slice none 0 0)⟩ 27 (0, 0))], k1, k2, [(b4, .cells ⟨pkT 0 0 zS (.slice none 0 0) (.slice none 0 0)⟩ 27 (0, 0))], [(b3, .cells ⟨[.int .i64 m]⟩ 3 (0, 0))], [(b2, .cells ⟨[.int .i64 d]⟩ 3 (0, 0))], [(b1, .cells ⟨[.pointer (some ⟨bM, 0, none⟩)]⟩ 167 (0, 0))]]) (Sub.flat Sub.refl (by simp)) <| Za ?_
    exact ⟨.agg ⟨cs120⟩, ([(bM, .cells ⟨[.pointer (some ⟨bS, 0, none⟩), .int .i64 l120]⟩ 169 (0, 0))]) ++ (([(bS, .cells ⟨[v, .int .i64 a120, .int .u64 s120]⟩ 128 (0, 0))]) ++ k120), rfl, (Sub.flat (M' := [(N115 0), (N115 1), (N115 2), [], (N115 4), ([(bM, .cells ⟨[.pointer (some ⟨bS, 0, none⟩), .int .i64 l120]⟩ 169 (0, 0))]) ++ (([(bS, .cells ⟨[v, .int .i64 a120, .int .u64 s120]⟩ 128 (0, 0))]) ++ k120), [(b103, .cells ⟨pkT 12 0 n99 w (.slice none 0 0)⟩ 27 (0, 0))], k1, k2, [(b4, .cells ⟨pkT 0 0 zS (.slice none 0 0) (.slice none 0 0)⟩ 27 (0, 0))], [(b3, .cells ⟨[.int .i64 m]⟩ 3 (0, 0))], [(b2, .cells ⟨[.int .i64 d]⟩ 3 (0, 0))], [(b1, .cells ⟨[.pointer (some ⟨bM, 0, none⟩)]⟩ 167 (0, 0))]]) (Sub.cons 3 rfl (Sub.cons 3 rfl (Sub.cons 3 rfl (Sub.emp (Sub.cons 4 rfl (Sub.join3 (Sk (Sk (Sk (Sd (Sk (Sk (Sk (Sk (Sk (Sk (Sk Sub.nil))))))))))))))))) rfl), ⟨rfl, hO120.len, hO120.ok, t120, k120, l120, a120, s120, rfl, hO120, ⟨hn120, hz120⟩, hl120, ha120⟩⟩
   ·intro ρ r115 N115 B hB hBa hBb hp hr hr0
    have p3 : (r115 3) = .agg ⟨(cll (r115 3))⟩ ∧ (cll (r115 3)).length = 36 ∧ okc (cll (r115 3)) ∧ ∃ tM kM lM aM sM, (N115 3) = ([(bM, .cells ⟨[.pointer (some ⟨bS, 0, none⟩), .int .i64 lM]⟩ 169 (0, 0))]) ++ (([(bS, .cells ⟨[v, .int .i64 aM, .int .u64 sM]⟩ 128 (0, 0))]) ++ kM) ∧ OT tM (cll (r115 3)) kM ∧ (ZR (d + 2) m 0 tM = 0 ∧ (sizeT tM : Int) ≤ 20 * (lw - lM)) ∧ (lM ≤ lw - 1 ∧ (lw ≤ 1 → lM = lw - 1) ∧ (1 ≤ lw → -3 * (lw - 1) ≤ lM)) ∧ (aw ≤ aM ∧ aM ≤ aw + 100 * (lw - lM)) := hp 3 (by decide) rfl
    obtain ⟨ρ121, rfl⟩ := Zc (uc (show ρ 159 = .agg ⟨(cll (r115 3))⟩ from (hr 3 _ _ (by decide) rfl rfl rfl).trans p3.1) un)
    refine JLr (Zr (vs := [.agg ⟨(cll (r115 3))⟩]) [(cll (r115 3))] Tryz.runUnderlying24 el27 rfl rfl (by intro e he; simp only [List.mem_cons, List.not_mem_nil, or_false] at he; subst he; exact p3.2.1) rfl (by decide) fun b122 k122 ho122 hk122 => Za ?_)
    exact ⟨.slice (some ⟨b122, 0, none⟩) 1 1, k122, rfl, Sub.refl, ⟨rfl, hk122, ho122⟩⟩
   intro ρ r115 N115 hp hr hr0
   have p3 : (r115 3) = .agg ⟨(cll (r115 3))⟩ ∧ (cll (r115 3)).length = 36 ∧ okc (cll (r115 3)) ∧ ∃ tM kM lM aM sM, (N115 3) = ([(bM, .cells ⟨[.pointer (some ⟨bS, 0, none⟩), .int .i64 lM]⟩ 169 (0, 0))]) ++ (([(bS, .cells ⟨[v, .int .i64 aM, .int .u64 sM]⟩ 128 (0, 0))]) ++ kM) ∧ OT tM (cll (r115 3)) kM ∧ (ZR (d + 2) m 0 tM = 0 ∧ (sizeT tM : Int) ≤ 20 * (lw - lM)) ∧ (lM ≤ lw - 1 ∧ (lw ≤ 1 → lM = lw - 1) ∧ (1 ≤ lw → -3 * (lw - 1) ≤ lM)) ∧ (aw ≤ aM ∧ aM ≤ aw + 100 * (lw - lM)) := hp 3 (by decide)
   have p4 : (r115 4) = .slice (some ⟨(ZC (r115 4)), 0, none⟩) 1 1 ∧ (N115 4) = [(ZC (r115 4), .cells ⟨List.flatten [(cll (r115 3))]⟩ 27 (0, 0))] ∧ Own 27 36 (.slice (some ⟨(ZC (r115 4)), 0, none⟩) 1 1) [(cll (r115 3))] (N115 4) := hp 4 (by decide)
   obtain ⟨ρ123, rfl⟩ := Zc (uc (show ρ 3 = .pointer (some ⟨b1, 0, none⟩) from hr0 3 (by kernel_rfl)) (uc (show ρ 6 = .pointer (some ⟨b4, 0, none⟩) from hr0 6 (by kernel_rfl)) (uc (show ρ 7 = .func (.func 146) ⟨[]⟩ ⟨[.pointer (some ⟨b1, 0, none⟩), .pointer (some ⟨b2, 0, none⟩), .pointer (some ⟨b3, 0, none⟩)]⟩ from hr0 7 (by kernel_rfl)) (uc (show ρ 9 = .pointer (some ⟨b103, 0, none⟩) from hr0 9 (by kernel_rfl)) (uc (show ρ 153 = .int .i64 n104 from hr0 153 (by kernel_rfl)) (uc (show ρ 154 = .int .i64 ((j : Int)) from hr0 154 (by kernel_rfl)) (uc (show ρ 157 = w from (hr 1 _ _ (by decide) rfl rfl).trans (hp 1 (by decide))) (uc (show ρ 160 = .slice (some ⟨(ZC (r115 4)), 0, none⟩) 1 1 from (hr 4 _ _ (by decide) rfl rfl).trans p4.1) un))))))))
   have p115_3 := p3; have p115_4 := p4
   clear hp hr hr0 p3 p4
   refine Zq (M' := [(N115 0), (N115 1), (N115 2), [], (N115 4), (N115 3), [(b103, .cells ⟨pkT 12 0 n99 w (.slice none 0 0)⟩ 27 (0, 0))], k1, k2, [(b4, .cells ⟨pkT 0 0 zS (.slice none 0 0) (.slice none 0 0)⟩ 27 (0, 0))], [(b3, .cells ⟨[.int .i64 m]⟩ 3 (0, 0))], [(b2, .cells ⟨[.int .i64 d]⟩ 3 (0, 0))], [(b1, .cells ⟨[.pointer (some ⟨bM, 0, none⟩)]⟩ 167 (0, 0))]]) Sub.refl ?_
   obtain ⟨tM115_3, kM115_3, lM115_3, aM115_3, sM115_3, hNM115_3, hOM115_3, ⟨hnM115_3, hzM115_3⟩, hlM115_3, haM115_3⟩ := p115_3.2.2.2
   refine Zq (M' := [(N115 4), ([(bM, .cells ⟨[.pointer (some ⟨bS, 0, none⟩), .int .i64 lM115_3]⟩ 169 (0, 0))]) ++ (([(bS, .cells ⟨[v, .int .i64 aM115_3, .int .u64 sM115_3]⟩ 128 (0, 0))]) ++ kM115_3), [(b103, .cells ⟨pkT 12 0 n99 w (.slice none 0 0)⟩ 27 (0, 0))], k1, k2, [(b4, .cells ⟨pkT 0 0 zS (.slice none 0 0) (.slice none 0 0)⟩ 27 (0, 0))], [(b3, .cells ⟨[.int .i64 m]⟩ 3 (0, 0))], [(b2, .cells ⟨[.int .i64 d]⟩ 3 (0, 0))], [(b1, .cells ⟨[.pointer (some ⟨bM, 0, none⟩)]⟩ 167 (0, 0))]]) (Sd (Sd (Sd (Sd (Sk (Se hNM115_3 (Sk (Sk (Sk (Sk (Sk (Sk (Sk Sub.nil))))))))))))) <| Zq (M' := [(N115 4), [(bM, .cells ⟨[.pointer (some ⟨bS, 0, none⟩), .int .i64 lM115_3]⟩ 169 (0, 0))], [(bS, .cells ⟨[v, .int .i64 aM115_3, .int .u64 sM115_3]⟩ 128 (0, 0))], kM115_3, [(b103, .cells ⟨pkT 12 0 n99 w (.slice none 0 0)⟩ 27 (0, 0))], k1, k2, [(b4, .cells ⟨pkT 0 0 zS (.slice none 0 0) (.slice none 0 0)⟩ 27 (0, 0))], [(b3, .cells ⟨[.int .i64 m]⟩ 3 (0, 0))], [(b2, .cells ⟨[.int .i64 d]⟩ 3 (0, 0))], [(b1, .cells ⟨[.pointer (some ⟨bM, 0, none⟩)]⟩ 167 (0, 0))]]) (Sub.flat Sub.refl (by simp)) ?_
   show JL _ _ _ [_, _, _] _ _ _
   have hlens124 : ∀ e ∈ ([(cll (r115 3))] : List (List Value)), List.length e = 36 := by
    intro e he; simp only [List.mem_cons, List.not_mem_nil, or_false] at he
    rcases he with rfl
    ·exact p115_3.2.1
   have hoks124 : ∀ e ∈ ([(cll (r115 3))] : List (List Value)), okc e := by
    intro e he; simp only [List.mem_cons, List.not_mem_nil, or_false] at he
    rcases he with rfl
    ·exact p115_3.2.2.1
   refine JLr (ZH (i := 5) (n := 1) (es' := [(cll (r115 3))]) Tryz.runUnderlying24 Tryz.runUnderlying24 (Or.inl rfl) el27 rfl rfl rfl how (fun F w m => Src.row (((At.k 0 rfl (by rw [p115_4.2.1]; exact List.mem_cons_self))).heap m) (Zx (ZG hlens124))) rfl hlens124 hoks124 (by decide) (by omega) fun v124 k124 ho124 => JLq (.pointer (some ⟨b103, 34, none⟩)) (Yq rfl rfl) <| JLr (Ze 4 (vs := [v124]) (l := pkT 12 0 n99 v124 (.slice none 0 0)) ty24 rfl rfl rfl (ZO ho124.one) rfl (Zm ho124.one Zv) (pkT_s34 ..) <| Za <| Zb <| JLq (.int .i64 (((j + 1 : Nat) : Int))) (Pu.inc rfl rfl (by omega)) <| JLm (.int .i64 (((j + 1 : Nat) : Int))) <| Za <| ⟨_, ?_, (j + 1), (ts ++ [tM115_3]), v124, (es ++ [(cll (r115 3))]), k124, (k2 ++ kM115_3), lM115_3, aM115_3, sM115_3, rfl, rfl, rfl, rfl, rfl, rfl, (Sd (Sub.cons 3 rfl (Sub.cons 3 rfl (Sub.join (Sub.cons 3 rfl (Sub.cons 2 rfl (Sk (Sk (Sk (Sk (Sk (Sk Sub.nil)))))))))))), ?_, ?_, ?_, ?_, ?_, ?_, ?_, ?_, rfl⟩))
   ·omega
   ·omega
   ·exact ho124
   ·exact OTs.snoc hOM115_3 hopw
   ·simp; omega
   ·exact nErrK_han_snoc (by omega) hpe hnM115_3
   ·rw [sizeTs_snoc]; omega
   ·omega
   omega
  replace h114 := df h114
  refine ZM _ rfl <| Zd <| Zb <| JLr (Zh Zu rfl (At.bx 0 rfl) (ZZ ..) <| JLr (Ze 5 (vs := pkT 12 0 n99 w (.slice none 0 0)) (l := pkT 12 0 n99 w (.slice none 0 0)) Zu rfl rfl rfl rfl rfl (ZI how.one rfl) (Z0 ..) <| Za <| Zl <| ⟨.agg ⟨pkT 12 0 n99 w (.slice none 0 0)⟩, [([(bM, .cells ⟨[.pointer (some ⟨bS, 0, none⟩), .int .i64 lw]⟩ 169 (0, 0))]) ++ ([(bS, .cells ⟨[v, .int .i64 aw, .int .u64 sw]⟩ 128 (0, 0))]), k1 ++ k2], Ret.one rfl (RV.cell Zu rfl (At.bx 5 rfl) (ZZ ..)), (Sub.join (Sd (Sub.cons 2 rfl (Sub.cons 2 rfl (Sub.join (Sk (Sk Sub.nil))))))), ?_⟩))
  exact ⟨.mk 12 0 n99 ts [], _, _, _, _, _, rfl, rfl, OT_row (by unfold inI; omega) (by unfold inI; omega) how hopw (by omega), ⟨nErr_han (by omega) (by omega) hpe, by simp only [eVa, eNu, sizeT, sizeTs, sizeCs]; omega⟩, by omega, by omega⟩
 replace h98 := df h98
 refine Zd <| Zb <| JLm (.int .i64 kj) <| JLq (.bool (decide (kj = 11))) (Pu.eql rfl rfl) <| JLa (.bool (decide (kj = 11))) <| Za <| Zi (b := decide (kj = 11)) rfl (fun h125 => ?_) (fun h125 => ?_)
 ·replace h125 := dt h125
  refine Zd <| Zb <| JLm (.func (.func 146) ⟨[]⟩ ⟨[.pointer (some ⟨b1, 0, none⟩), .pointer (some ⟨b2, 0, none⟩), .pointer (some ⟨b3, 0, none⟩)]⟩) <| Zq (M' := [([(bM, .cells ⟨[.pointer (some ⟨bS, 0, none⟩), .int .i64 (L - 1)]⟩ 169 (0, 0))]) ++ ([(bS, .cells ⟨[v, .int .i64 aj, .int .u64 sj]⟩ 128 (0, 0))]), [(b4, .cells ⟨pkT 0 0 zS (.slice none 0 0) (.slice none 0 0)⟩ 27 (0, 0))], [(b3, .cells ⟨[.int .i64 m]⟩ 3 (0, 0))], [(b2, .cells ⟨[.int .i64 d]⟩ 3 (0, 0))], [(b1, .cells ⟨[.pointer (some ⟨bM, 0, none⟩)]⟩ 167 (0, 0))]]) (Sub.join (Sub.cons 5 rfl (Sk (Sk (Sk (Sk (Sk Sub.nil))))))) <| Zw 0 rfl Tryz.call146 rfl rfl (fun hin => Y2 _ _ _ _ _ _ _ _ _ _ _ _ _ _ (RBs.mono (Hle.hu _ _) hv) (hin 3 _ rfl _ _ List.mem_cons_self) (hin 2 _ rfl _ _ List.mem_cons_self) (hin 1 _ rfl _ _ List.mem_cons_self) (by omega) (by omega) (by omega) (by omega) (fun h hh => ih _ (by omega) _ _ _ _ _ _ _ _ _ _ rfl (RBs.mono hh (RBs.mono (Hle.hu _ _) hv)) (by omega) (by omega) (by omega) (by omega) (by omega) (by omega) (by omega) (by omega))) rfl ?_
  rintro _ _ ⟨t126, cs126, k126, l126, a126, s126, rfl, rfl, hO126, ⟨hn126, hz126⟩, hl126, ha126⟩
  refine Zq (M' := [[(bM, .cells ⟨[.pointer (some ⟨bS, 0, none⟩), .int .i64 l126]⟩ 169 (0, 0))], [(bS, .cells ⟨[v, .int .i64 a126, .int .u64 s126]⟩ 128 (0, 0))], k126, [(b4, .cells ⟨pkT 0 0 zS (.slice none 0 0) (.slice none 0 0)⟩ 27 (0, 0))], [(b3, .cells ⟨[.int .i64 m]⟩ 3 (0, 0))], [(b2, .cells ⟨[.int .i64 d]⟩ 3 (0, 0))], [(b1, .cells ⟨[.pointer (some ⟨bM, 0, none⟩)]⟩ 167 (0, 0))]]) (Sub.flat Sub.refl (by simp)) <| Zg rfl Tryz.call41 rfl (fun hin => maD_ct _ hO126.len hO126.ok none 0 0 _) rfl ?_
  rintro _ _ ⟨sv127, k127, rfl, rfl, ho127⟩
  refine JLr (Zj (l := pkT 0 0 zS (.slice none 0 0) (.slice none 0 0)) Tryz.zeroValue27 rfl fun b128 => JLr (Ze 0 (vs := pkT 9 0 zS sv127 (.slice none 0 0)) (l := pkT 9 0 zS sv127 (.slice none 0 0)) Zu rfl rfl rfl rfl rfl (ZI ho127.one rfl) (Z0 ..) <| Za <| Zd <| Zd <| Zb <| JLr (Zf Xc rfl (At.bx 8 rfl) rfl <| JLq (.pointer (some ⟨bM, 0, none⟩)) (Pu.nilCheck rfl) <| JLq (.pointer (some ⟨bM, 0, none⟩)) (YC rfl rfl) <| JLr (Zf ty62 rfl (At.bx 2 rfl) rfl <| Zw 3 rfl Tryz.call147 rfl rfl (fun hin => YJ _ _ _ _ _ _ (RBs.mono (Hle.hu _ _) hv) (by omega) (by omega) _) rfl ?_))))
  rintro _ _ ⟨n129, a129, s129, rfl, rfl, hn129, ha129⟩
  refine JLm (.int .i64 0) <| Za <| Zs <| ZU (fun k ρ M => ∃ (j : Nat) (cs5 : List (Pt × Tm)) (w : Value) (es : List (List Value)) (k1 k2 : Zk) (lw aw sw : Int), ρ 3 = .pointer (some ⟨b1, 0, none⟩) ∧ ρ 6 = .pointer (some ⟨b4, 0, none⟩) ∧ ρ 7 = .func (.func 146) ⟨[]⟩ ⟨[.pointer (some ⟨b1, 0, none⟩), .pointer (some ⟨b2, 0, none⟩), .pointer (some ⟨b3, 0, none⟩)]⟩ ∧ ρ 10 = .pointer (some ⟨b128, 0, none⟩) ∧ ρ 175 = .int .i64 n129 ∧ ρ 176 = .int .i64 ((j : Int)) ∧ Sub [[(b128, .cells ⟨pkT 9 0 zS sv127 w⟩ 27 (0, 0))], k1, k2, [(bM, .cells ⟨[.pointer (some ⟨bS, 0, none⟩), .int .i64 lw]⟩ 169 (0, 0))], [(bS, .cells ⟨[v, .int .i64 aw, .int .u64 sw]⟩ 128 (0, 0))], k127, k126, [(b4, .cells ⟨pkT 0 0 zS (.slice none 0 0) (.slice none 0 0)⟩ 27 (0, 0))], [(b3, .cells ⟨[.int .i64 m]⟩ 3 (0, 0))], [(b2, .cells ⟨[.int .i64 d]⟩ 3 (0, 0))], [(b1, .cells ⟨[.pointer (some ⟨bM, 0, none⟩)]⟩ 167 (0, 0))]] M ∧ (j : Int) ≤ n129 ∧ Own 80 71 w es k1 ∧ OCs cs5 es k2 ∧ cs5.length = j ∧ YN cs5 = 0 ∧ Ys d m 0 cs5 = 0 ∧ (sizeCs cs5 : Int) + (sizeT t126 : Int) ≤ 20 * (L - 1 - lw) + 7 * (j : Int) ∧ (lw ≤ L - 1 ∧ -3 * (L - 2) - ((j : Int) + 0) ≤ lw ∧ lw ≤ L - 2) ∧ (a ≤ aw ∧ aw ≤ a + 100 * (L - 1 - lw) + (10 + 21 * (j : Int))) ∧ k = n129.toNat - j) _ ⟨0, [], (.slice none 0 0), ([]), ([]), ([]), l126, a129, s129, rfl, rfl, rfl, rfl, rfl, rfl, (Sub.cons 1 rfl (Sub.emp (Sub.emp (Sub.cons 2 rfl (Sk (Sk (Sk (Sk (Sk (Sk (Sk Sub.nil))))))))))), (by omega), Own.nil, OCs.nil, rfl, (by simp [YN]), (by simp [Ys]), (by simp only [sizeCs]; omega), (by omega), (by omega), rfl⟩ ?_
  rintro _ ρ130 _ ⟨j, cs5, w, es, k1, k2, lw, aw, sw, e131, e132, e133, e134, e135, e136, hm137, hj, how, hopw, hpl, hpe, hpc, hps, hpb, hpa, rfl⟩
  obtain ⟨ρ138, rfl⟩ := Zc (uc e131 (uc e132 (uc e133 (uc e134 (uc e135 (uc e136 un))))))
  clear e131 e132 e133 e134 e135 e136
  refine Z1 hm137 <| Zd <| Zb <| JLq (.bool (decide ((j : Int) < n129))) (Pu.lss rfl rfl) <| Za <| Zd <| Zi (b := decide ((j : Int) < n129)) rfl (fun h139 => ?_) (fun h139 => ?_)
  ·replace h139 := dt h139
   have helw := OCs_len hopw
   refine Zp <| Zd <| Zs <| Zd <| Zb <| JLr (Zf Xc rfl (At.bx 10 rfl) rfl <| JLq (.pointer (some ⟨bM, 0, none⟩)) (Pu.nilCheck rfl) <| JLq (.pointer (some ⟨bM, 0, none⟩)) (YC rfl rfl) <| JLr (Zf ty62 rfl (At.bx 3 rfl) rfl <| Zw 4 rfl Tryz.call155 rfl rfl (fun hin => pattern_ct 2 _ _ _ _ _ _ _ rfl (by decide) (RBs.mono (Hle.hu _ _) hv) (by omega) (by omega)) rfl ?_))
   rintro _ _ ⟨p140_, cs140, k140, a140, s140, rfl, rfl, hO140, hg140, ha140⟩
   have hbl140 := YE p140_
   refine JLr (Zj (l := pkP 0 0 zS (.slice none 0 0)) Tryz.zeroValue75 rfl fun b141 => JLr (Ze 0 (vs := cs140) (l := cs140) Z5 rfl rfl rfl rfl hO140.len hO140.ok (ZL (n := 35) rfl hO140.len) <| Za <| Z1 (M' := [([(bM, .cells ⟨[.pointer (some ⟨bS, 0, none⟩), .int .i64 lw]⟩ 169 (0, 0))]) ++ ([(bS, .cells ⟨[v, .int .i64 a140, .int .u64 s140]⟩ 128 (0, 0))]), [(b141, .cells ⟨cs140⟩ 75 (0, 0))], k140, [(b128, .cells ⟨pkT 9 0 zS sv127 w⟩ 27 (0, 0))], k1, k2, k127, k126, [(b4, .cells ⟨pkT 0 0 zS (.slice none 0 0) (.slice none 0 0)⟩ 27 (0, 0))], [(b3, .cells ⟨[.int .i64 m]⟩ 3 (0, 0))], [(b2, .cells ⟨[.int .i64 d]⟩ 3 (0, 0))], [(b1, .cells ⟨[.pointer (some ⟨bM, 0, none⟩)]⟩ 167 (0, 0))]]) (Sub.join (Sub.cons 6 rfl (Sub.cons 1 rfl (Sk (Sk (Sk (Sk (Sk (Sk (Sk (Sk (Sk (Sk (Sk Sub.nil)))))))))))))) <| J_drawM mixed #[0, 1, 0, 0, 0, 16, 56, 124, 252, 511, 1023, 2047] 9 0 [6] rfl (by kernel_rfl) (by decide) rfl (by kernel_rfl) (fun i r142 N142 => match i with | 0 => (r142 0) = .pointer (some ⟨b128, 35, none⟩) | 1 => (r142 1) = w | 2 => (r142 2) = .agg ⟨cs140⟩ | 3 => (r142 3) = .func (.func 146) ⟨[]⟩ ⟨[.pointer (some ⟨b1, 0, none⟩), .pointer (some ⟨b2, 0, none⟩), .pointer (some ⟨b3, 0, none⟩)]⟩ | 4 => (r142 4) = .agg ⟨cs140⟩ | 5 => (r142 5) = .int .i64 ((binds p140_ : Int)) | 6 => (r142 6) = .agg ⟨(cll (r142 6))⟩ ∧ (cll (r142 6)).length = 36 ∧ okc (cll (r142 6)) ∧ ∃ tM kM lM aM sM, (N142 6) = ([(bM, .cells ⟨[.pointer (some ⟨bS, 0, none⟩), .int .i64 lM]⟩ 169 (0, 0))]) ++ (([(bS, .cells ⟨[v, .int .i64 aM, .int .u64 sM]⟩ 128 (0, 0))]) ++ kM) ∧ OT tM (cll (r142 6)) kM ∧ (ZR (d + ((binds p140_ : Int))) m 0 tM = 0 ∧ (sizeT tM : Int) ≤ 20 * (lw - lM)) ∧ (lM ≤ lw - 1 ∧ (lw ≤ 1 → lM = lw - 1) ∧ (1 ≤ lw → -3 * (lw - 1) ≤ lM)) ∧ (a140 ≤ aM ∧ aM ≤ a140 + 100 * (lw - lM)) | 7 => (r142 7) = .agg ⟨cs140 ++ ((cll (r142 6)))⟩ | 8 => (r142 8) = .slice (some ⟨(ZC (r142 8)), 0, none⟩) 1 1 ∧ (N142 8) = [(ZC (r142 8), .cells ⟨List.flatten [cs140 ++ ((cll (r142 6)))]⟩ 80 (0, 0))] ∧ Own 80 71 (.slice (some ⟨(ZC (r142 8)), 0, none⟩) 1 1) [cs140 ++ ((cll (r142 6)))] (N142 8) | _ => True) ⟨?_, ?_, ?_, ?_, ?_, ?_, ?_, ?_, ?_, trivial⟩ ?_))
   ·intro ρ r142 N142 B hB hBa hBb hp hr hr0
    obtain ⟨ρ143, rfl⟩ := Zc (uc (show ρ 10 = .pointer (some ⟨b128, 0, none⟩) from hr0 10 (by kernel_rfl)) un)
    refine JLq (.pointer (some ⟨b128, 35, none⟩)) (YP rfl rfl) <| Za ?_
    exact ⟨.pointer (some ⟨b128, 35, none⟩), [], rfl, (Sub.emp Sub.refl), rfl⟩
   ·intro ρ r142 N142 B hB hBa hBb hp hr hr0
    have p0 : (r142 0) = .pointer (some ⟨b128, 35, none⟩) := hp 0 (by decide) rfl
    obtain ⟨ρ144, rfl⟩ := Zc (uc (show ρ 183 = .pointer (some ⟨b128, 35, none⟩) from (hr 0 _ _ (by decide) rfl rfl rfl).trans p0) un)
    refine JLr (Zf ty25 rfl (At.bx 12 (Zn ((hB 3 (by decide)).trans rfl))) (YI ..) <| Za ?_)
    exact ⟨w, [], rfl, (Sub.emp Sub.refl), rfl⟩
   ·intro ρ r142 N142 B hB hBa hBb hp hr hr0
    obtain ⟨ρ145, rfl⟩ := Zc (uc (show ρ 11 = .pointer (some ⟨b141, 0, none⟩) from hr0 11 (by kernel_rfl)) un)
    refine JLr (Zh Z5 rfl (At.bx 10 (Zn ((hB 1 (by decide)).trans rfl))) (Zx hO140.len) <| Za ?_)
    exact ⟨.agg ⟨cs140⟩, [], rfl, (Sub.emp Sub.refl), rfl⟩
   ·intro ρ r142 N142 B hB hBa hBb hp hr hr0
    obtain ⟨ρ146, rfl⟩ := Zc (uc (show ρ 7 = .func (.func 146) ⟨[]⟩ ⟨[.pointer (some ⟨b1, 0, none⟩), .pointer (some ⟨b2, 0, none⟩), .pointer (some ⟨b3, 0, none⟩)]⟩ from hr0 7 (by kernel_rfl)) un)
    refine JLm (.func (.func 146) ⟨[]⟩ ⟨[.pointer (some ⟨b1, 0, none⟩), .pointer (some ⟨b2, 0, none⟩), .pointer (some ⟨b3, 0, none⟩)]⟩) <| Za ?_
    exact ⟨.func (.func 146) ⟨[]⟩ ⟨[.pointer (some ⟨b1, 0, none⟩), .pointer (some ⟨b2, 0, none⟩), .pointer (some ⟨b3, 0, none⟩)]⟩, [], rfl, (Sub.emp Sub.refl), rfl⟩
   ·intro ρ r142 N142 B hB hBa hBb hp hr hr0
    obtain ⟨ρ147, rfl⟩ := Zc (uc (show ρ 11 = .pointer (some ⟨b141, 0, none⟩) from hr0 11 (by kernel_rfl)) un)
    refine JLr (Zh Z5 rfl (At.bx 10 (Zn ((hB 1 (by decide)).trans rfl))) (Zx hO140.len) <| Za ?_)
    exact ⟨.agg ⟨cs140⟩, [], rfl, (Sub.emp Sub.refl), rfl⟩
   ·intro ρ r142 N142 B hB hBa hBb hp hr hr0
    have p4 : (r142 4) = .agg ⟨cs140⟩ := hp 4 (by decide) rfl
    obtain ⟨ρ148, rfl⟩ := Zc (uc (show ρ 187 = .agg ⟨cs140⟩ from (hr 4 _ _ (by decide) rfl rfl rfl).trans p4) un)
    refine Zg rfl Tryz.call156 rfl (fun hin => bindsK_ct _ _ _ (hO140.rd (hin 11 _ (Zn ((hB 2 (by decide)).trans rfl)))) hg140.1 (by have e := YE p140_; have e2 := hg140.2; simp [pz] at e2; omega)) rfl ?_
    rintro _ _ ⟨rfl, rfl⟩
    refine Za ?_
    exact ⟨.int .i64 ((binds p140_ : Int)), [], rfl, (Sub.emp Sub.refl), rfl⟩
   ·intro ρ r142 N142 B hB hBa hBb hp hr hr0
    have p3 : (r142 3) = .func (.func 146) ⟨[]⟩ ⟨[.pointer (some ⟨b1, 0, none⟩), .pointer (some ⟨b2, 0, none⟩), .pointer (some ⟨b3, 0, none⟩)]⟩ := hp 3 (by decide) rfl
    have p5 : (r142 5) = .int .i64 ((binds p140_ : Int)) := hp 5 (by decide) rfl
    obtain ⟨ρ149, rfl⟩ := Zc (uc (show ρ 186 = .func (.func 146) ⟨[]⟩ ⟨[.pointer (some ⟨b1, 0, none⟩), .pointer (some ⟨b2, 0, none⟩), .pointer (some ⟨b3, 0, none⟩)]⟩ from (hr 3 _ _ (by decide) rfl rfl rfl).trans p3) (uc (show ρ 188 = .int .i64 ((binds p140_ : Int)) from (hr 5 _ _ (by decide) rfl rfl rfl).trans p5) un))
    have hB2 := hBa rfl
    change B = [([(bM, .cells ⟨[.pointer (some ⟨bS, 0, none⟩), .int .i64 lw]⟩ 169 (0, 0))]) ++ ([(bS, .cells ⟨[v, .int .i64 a140, .int .u64 s140]⟩ 128 (0, 0))]), [(b141, .cells ⟨cs140⟩ 75 (0, 0))], k140, [(b128, .cells ⟨pkT 9 0 zS sv127 w⟩ 27 (0, 0))], k1, k2, k127, k126, [(b4, .cells ⟨pkT 0 0 zS (.slice none 0 0) (.slice none 0 0)⟩ 27 (0, 0))], [(b3, .cells ⟨[.int .i64 m]⟩ 3 (0, 0))], [(b2, .cells ⟨[.int .i64 d]⟩ 3 (0, 0))], [(b1, .cells ⟨[.pointer (some ⟨bM, 0, none⟩)]⟩ 167 (0, 0))]] at hB2
    subst hB2
    refine Zq (M' := [(N142 0), (N142 1), (N142 2), (N142 3), (N142 4), (N142 5), [], (N142 7), (N142 8), ([(bM, .cells ⟨[.pointer (some ⟨bS, 0, none⟩), .int .i64 lw]⟩ 169 (0, 0))]) ++ ([(bS, .cells ⟨[v, .int .i64 a140, .int .u64 s140]⟩ 128 (0, 0))]), [(b141, .cells ⟨cs140⟩ 75 (0, 0))], k140, [(b128, .cells ⟨pkT 9 0 zS sv127 w⟩ 27 (0, 0))], k1, k2, k127, k126, [(b4, .cells ⟨pkT 0 0 zS (.slice none 0 0) (.slice none 0 0)⟩ 27 (0, 0))], [(b3, .cells ⟨[.int .i64 m]⟩ 3 (0, 0))], [(b2, .cells ⟨[.int .i64 d]⟩ 3 (0, 0))], [(b1, .cells ⟨[.pointer (some ⟨bM, 0, none⟩)]⟩ 167 (0, 0))]]) Sub.refl <| Zw 9 rfl Tryz.call146 rfl rfl (fun hin => Y2 _ _ _ _ _ _ _ _ _ _ _ _ _ _ (RBs.mono (Hle.hu _ _) hv) (hin 19 _ rfl _ _ List.mem_cons_self) (hin 18 _ rfl _ _ List.mem_cons_self) (hin 17 _ rfl _ _ List.mem_cons_self) (by omega) (by omega) (by omega) (by omega) (fun h hh => ih _ (by omega) _ _ _ _ _ _ _ _ _ _ rfl (RBs.mono hh (RBs.mono (Hle.hu _ _) hv)) (by omega) (by omega) (by omega) (by omega) (by omega) (by omega) (by omega) (by omega))) rfl ?_
    rintro _ _ ⟨t150, cs150, k150, l150, a150, s150, rfl, rfl, hO150, ⟨hn150, hz150⟩, hl150, ha150⟩
    refine Zq (M' := [[(bM, .cells ⟨[.pointer (some ⟨bS, 0, none⟩), .int .i64 l150]⟩ 169 (0, 0))], [(bS, .cells ⟨[v, .int .i64 a150, .int .u64 s150]⟩ 128 (0, 0))], k150, (N142 0), (N142 1), (N142 2), (N142 3), (N142 4), (N142 5), [], (N142 7), (N142 8), [(b141, .cells ⟨cs140⟩ 75 (0, 0))], k140, [(b128, .cells ⟨pkT 9 0 zS sv127 w⟩ 27 (0, 0))], k1, k2, k127, k126, [(b4, .cells ⟨pkT 0 0 zS (.slice none 0 0) (.slice none 0 0)⟩ 27 (0, 0))], [(b3, .cells ⟨[.int .i64 m]⟩ 3 (0, 0))], [(b2, .cells ⟨[.int .i64 d]⟩ 3 (0, 0))], [(b1, .cells ⟨[.pointer (some ⟨bM, 0, none⟩)]⟩ 167 (0, 0))]]) (Sub.flat Sub.refl (by simp)) <| Za ?_
    exact ⟨.agg ⟨cs150⟩, ([(bM, .cells ⟨[.pointer (some ⟨bS, 0, none⟩), .int .i64 l150]⟩ 169 (0, 0))]) ++ (([(bS, .cells ⟨[v, .int .i64 a150, .int .u64 s150]⟩ 128 (0, 0))]) ++ k150), rfl, (Sub.flat (M' := [(N142 0), (N142 1), (N142 2), (N142 3), (N142 4), (N142 5), [], (N142 7), (N142 8), ([(bM, .cells ⟨[.pointer (some ⟨bS, 0, none⟩), .int .i64 l150]⟩ 169 (0, 0))]) ++ (([(bS, .cells ⟨[v, .int .i64 a150, .int .u64 s150]⟩ 128 (0, 0))]) ++ k150), [(b141, .cells ⟨cs140⟩ 75 (0, 0))], k140, [(b128, .cells ⟨pkT 9 0 zS sv127 w⟩ 27 (0, 0))], k1, k2, k127, k126, [(b4, .cells ⟨pkT 0 0 zS (.slice none 0 0) (.slice none 0 0)⟩ 27 (0, 0))], [(b3, .cells ⟨[.int .i64 m]⟩ 3 (0, 0))], [(b2, .cells ⟨[.int .i64 d]⟩ 3 (0, 0))], [(b1, .cells ⟨[.pointer (some ⟨bM, 0, none⟩)]⟩ 167 (0, 0))]]) (Sub.cons 3 rfl (Sub.cons 3 rfl (Sub.cons 3 rfl (Sub.cons 3 rfl (Sub.cons 3 rfl (Sub.cons 3 rfl (Sub.emp (Sub.cons 4 rfl (Sub.cons 4 rfl (Sub.join3 (Sk (Sk (Sk (Sd (Sk (Sk (Sk (Sk (Sk (Sk (Sk (Sk (Sk (Sk (Sk Sub.nil))))))))))))))))))))))))) rfl), ⟨rfl, hO150.len, hO150.ok, t150, k150, l150, a150, s150, rfl, hO150, ⟨hn150, hz150⟩, hl150, ha150⟩⟩
   ·intro ρ r142 N142 B hB hBa hBb hp hr hr0
    have p2 : (r142 2) = .agg ⟨cs140⟩ := hp 2 (by decide) rfl
    have p6 : (r142 6) = .agg ⟨(cll (r142 6))⟩ ∧ (cll (r142 6)).length = 36 ∧ okc (cll (r142 6)) ∧ ∃ tM kM lM aM sM, (N142 6) = ([(bM, .cells ⟨[.pointer (some ⟨bS, 0, none⟩), .int .i64 lM]⟩ 169 (0, 0))]) ++ (([(bS, .cells ⟨[v, .int .i64 aM, .int .u64 sM]⟩ 128 (0, 0))]) ++ kM) ∧ OT tM (cll (r142 6)) kM ∧ (ZR (d + ((binds p140_ : Int))) m 0 tM = 0 ∧ (sizeT tM : Int) ≤ 20 * (lw - lM)) ∧ (lM ≤ lw - 1 ∧ (lw ≤ 1 → lM = lw - 1) ∧ (1 ≤ lw → -3 * (lw - 1) ≤ lM)) ∧ (a140 ≤ aM ∧ aM ≤ a140 + 100 * (lw - lM)) := hp 6 (by decide) rfl
    obtain ⟨ρ151, rfl⟩ := Zc (uc (show ρ 185 = .agg ⟨cs140⟩ from (hr 2 _ _ (by decide) rfl rfl rfl).trans p2) (uc (show ρ 189 = .agg ⟨(cll (r142 6))⟩ from (hr 6 _ _ (by decide) rfl rfl rfl).trans p6.1) un))
    refine Zg rfl Tryz.call43 rfl (fun hin => caD_ct _ _ hO140.len hO140.ok p6.2.1 p6.2.2.1 _) rfl ?_
    rintro _ _ ⟨rfl, rfl⟩
    refine Za ?_
    exact ⟨.agg ⟨cs140 ++ ((cll (r142 6)))⟩, [], rfl, (Sub.emp Sub.refl), rfl⟩
   ·intro ρ r142 N142 B hB hBa hBb hp hr hr0
    have p6 : (r142 6) = .agg ⟨(cll (r142 6))⟩ ∧ (cll (r142 6)).length = 36 ∧ okc (cll (r142 6)) ∧ ∃ tM kM lM aM sM, (N142 6) = ([(bM, .cells ⟨[.pointer (some ⟨bS, 0, none⟩), .int .i64 lM]⟩ 169 (0, 0))]) ++ (([(bS, .cells ⟨[v, .int .i64 aM, .int .u64 sM]⟩ 128 (0, 0))]) ++ kM) ∧ OT tM (cll (r142 6)) kM ∧ (ZR (d + ((binds p140_ : Int))) m 0 tM = 0 ∧ (sizeT tM : Int) ≤ 20 * (lw - lM)) ∧ (lM ≤ lw - 1 ∧ (lw ≤ 1 → lM = lw - 1) ∧ (1 ≤ lw → -3 * (lw - 1) ≤ lM)) ∧ (a140 ≤ aM ∧ aM ≤ a140 + 100 * (lw - lM)) := hp 6 (by decide) rfl
    have p7 : (r142 7) = .agg ⟨cs140 ++ ((cll (r142 6)))⟩ := hp 7 (by decide) rfl
    obtain ⟨ρ152, rfl⟩ := Zc (uc (show ρ 190 = .agg ⟨cs140 ++ ((cll (r142 6)))⟩ from (hr 7 _ _ (by decide) rfl rfl rfl).trans p7) un)
    refine JLr (Zr (vs := [.agg ⟨cs140 ++ ((cll (r142 6)))⟩]) [cs140 ++ ((cll (r142 6)))] Tryz.runUnderlying25 el80 rfl rfl (by intro e he; simp only [List.mem_cons, List.not_mem_nil, or_false] at he; subst he; exact (ZN hO140.len p6.2.1)) rfl (by decide) fun b153 k153 ho153 hk153 => Za ?_)
    exact ⟨.slice (some ⟨b153, 0, none⟩) 1 1, k153, rfl, Sub.refl, ⟨rfl, hk153, ho153⟩⟩
   intro ρ r142 N142 hp hr hr0
   have p6 : (r142 6) = .agg ⟨(cll (r142 6))⟩ ∧ (cll (r142 6)).length = 36 ∧ okc (cll (r142 6)) ∧ ∃ tM kM lM aM sM, (N142 6) = ([(bM, .cells ⟨[.pointer (some ⟨bS, 0, none⟩), .int .i64 lM]⟩ 169 (0, 0))]) ++ (([(bS, .cells ⟨[v, .int .i64 aM, .int .u64 sM]⟩ 128 (0, 0))]) ++ kM) ∧ OT tM (cll (r142 6)) kM ∧ (ZR (d + ((binds p140_ : Int))) m 0 tM = 0 ∧ (sizeT tM : Int) ≤ 20 * (lw - lM)) ∧ (lM ≤ lw - 1 ∧ (lw ≤ 1 → lM = lw - 1) ∧ (1 ≤ lw → -3 * (lw - 1) ≤ lM)) ∧ (a140 ≤ aM ∧ aM ≤ a140 + 100 * (lw - lM)) := hp 6 (by decide)
   have p8 : (r142 8) = .slice (some ⟨(ZC (r142 8)), 0, none⟩) 1 1 ∧ (N142 8) = [(ZC (r142 8), .cells ⟨List.flatten [cs140 ++ ((cll (r142 6)))]⟩ 80 (0, 0))] ∧ Own 80 71 (.slice (some ⟨(ZC (r142 8)), 0, none⟩) 1 1) [cs140 ++ ((cll (r142 6)))] (N142 8) := hp 8 (by decide)
   obtain ⟨ρ154, rfl⟩ := Zc (uc (show ρ 3 = .pointer (some ⟨b1, 0, none⟩) from hr0 3 (by kernel_rfl)) (uc (show ρ 6 = .pointer (some ⟨b4, 0, none⟩) from hr0 6 (by kernel_rfl)) (uc (show ρ 7 = .func (.func 146) ⟨[]⟩ ⟨[.pointer (some ⟨b1, 0, none⟩), .pointer (some ⟨b2, 0, none⟩), .pointer (some ⟨b3, 0, none⟩)]⟩ from hr0 7 (by kernel_rfl)) (uc (show ρ 10 = .pointer (some ⟨b128, 0, none⟩) from hr0 10 (by kernel_rfl)) (uc (show ρ 175 = .int .i64 n129 from hr0 175 (by kernel_rfl)) (uc (show ρ 176 = .int .i64 ((j : Int)) from hr0 176 (by kernel_rfl)) (uc (show ρ 184 = w from (hr 1 _ _ (by decide) rfl rfl).trans (hp 1 (by decide))) (uc (show ρ 191 = .slice (some ⟨(ZC (r142 8)), 0, none⟩) 1 1 from (hr 8 _ _ (by decide) rfl rfl).trans p8.1) un))))))))
   have p142_6 := p6; have p142_8 := p8
   clear hp hr hr0 p6 p8
   refine Zq (M' := [(N142 0), (N142 1), (N142 2), (N142 3), (N142 4), (N142 5), [], (N142 7), (N142 8), (N142 6), [(b141, .cells ⟨cs140⟩ 75 (0, 0))], k140, [(b128, .cells ⟨pkT 9 0 zS sv127 w⟩ 27 (0, 0))], k1, k2, k127, k126, [(b4, .cells ⟨pkT 0 0 zS (.slice none 0 0) (.slice none 0 0)⟩ 27 (0, 0))], [(b3, .cells ⟨[.int .i64 m]⟩ 3 (0, 0))], [(b2, .cells ⟨[.int .i64 d]⟩ 3 (0, 0))], [(b1, .cells ⟨[.pointer (some ⟨bM, 0, none⟩)]⟩ 167 (0, 0))]]) Sub.refl ?_
   obtain ⟨tM142_6, kM142_6, lM142_6, aM142_6, sM142_6, hNM142_6, hOM142_6, ⟨hnM142_6, hzM142_6⟩, hlM142_6, haM142_6⟩ := p142_6.2.2.2
   refine Zq (M' := [(N142 8), ([(bM, .cells ⟨[.pointer (some ⟨bS, 0, none⟩), .int .i64 lM142_6]⟩ 169 (0, 0))]) ++ (([(bS, .cells ⟨[v, .int .i64 aM142_6, .int .u64 sM142_6]⟩ 128 (0, 0))]) ++ kM142_6), [(b141, .cells ⟨cs140⟩ 75 (0, 0))], k140, [(b128, .cells ⟨pkT 9 0 zS sv127 w⟩ 27 (0, 0))], k1, k2, k127, k126, [(b4, .cells ⟨pkT 0 0 zS (.slice none 0 0) (.slice none 0 0)⟩ 27 (0, 0))], [(b3, .cells ⟨[.int .i64 m]⟩ 3 (0, 0))], [(b2, .cells ⟨[.int .i64 d]⟩ 3 (0, 0))], [(b1, .cells ⟨[.pointer (some ⟨bM, 0, none⟩)]⟩ 167 (0, 0))]]) (Sd (Sd (Sd (Sd (Sd (Sd (Sd (Sd (Sk (Se hNM142_6 (Sk (Sk (Sk (Sk (Sk (Sk (Sk (Sk (Sk (Sk (Sk Sub.nil))))))))))))))))))))) <| Zq (M' := [(N142 8), [(bM, .cells ⟨[.pointer (some ⟨bS, 0, none⟩), .int .i64 lM142_6]⟩ 169 (0, 0))], [(bS, .cells ⟨[v, .int .i64 aM142_6, .int .u64 sM142_6]⟩ 128 (0, 0))], kM142_6, [(b141, .cells ⟨cs140⟩ 75 (0, 0))], k140, [(b128, .cells ⟨pkT 9 0 zS sv127 w⟩ 27 (0, 0))], k1, k2, k127, k126, [(b4, .cells ⟨pkT 0 0 zS (.slice none 0 0) (.slice none 0 0)⟩ 27 (0, 0))], [(b3, .cells ⟨[.int .i64 m]⟩ 3 (0, 0))], [(b2, .cells ⟨[.int .i64 d]⟩ 3 (0, 0))], [(b1, .cells ⟨[.pointer (some ⟨bM, 0, none⟩)]⟩ 167 (0, 0))]]) (Sub.flat Sub.refl (by simp)) ?_
   show JL _ _ _ [_, _, _] _ _ _
   have hlens155 : ∀ e ∈ ([cs140 ++ ((cll (r142 6)))] : List (List Value)), List.length e = 71 := by
    intro e he; simp only [List.mem_cons, List.not_mem_nil, or_false] at he
    rcases he with rfl
    ·exact (ZN hO140.len p142_6.2.1)
   have hoks155 : ∀ e ∈ ([cs140 ++ ((cll (r142 6)))] : List (List Value)), okc e := by
    intro e he; simp only [List.mem_cons, List.not_mem_nil, or_false] at he
    rcases he with rfl
    ·exact (Z3 hO140.ok p142_6.2.2.1)
   refine JLr (ZH (i := 7) (n := 1) (es' := [cs140 ++ ((cll (r142 6)))]) Tryz.runUnderlying25 Tryz.runUnderlying25 (Or.inl rfl) el80 rfl rfl rfl how (fun F w m => Src.row (((At.k 0 rfl (by rw [p142_8.2.1]; exact List.mem_cons_self))).heap m) (Zx (ZG hlens155))) rfl hlens155 hoks155 (by decide) (by omega) fun v155 k155 ho155 => JLq (.pointer (some ⟨b128, 35, none⟩)) (YP rfl rfl) <| JLr (Ze 6 (vs := [v155]) (l := pkT 9 0 zS sv127 v155) ty25 rfl rfl rfl (ZO ho155.one) rfl (Zm ho155.one Zv) (pkT_s35 ..) <| Za <| Zb <| JLq (.int .i64 (((j + 1 : Nat) : Int))) (Pu.inc rfl rfl (by omega)) <| JLm (.int .i64 (((j + 1 : Nat) : Int))) <| Za <| ⟨_, ?_, (j + 1), (cs5 ++ [(p140_, tM142_6)]), v155, (es ++ [cs140 ++ ((cll (r142 6)))]), k155, (k2 ++ (k140 ++ kM142_6)), lM142_6, aM142_6, sM142_6, rfl, rfl, rfl, rfl, rfl, rfl, (Sd (Sub.cons 5 rfl (Sub.cons 5 rfl (Sub.join3 (Sub.cons 5 rfl (Sub.cons 4 rfl (Sub.cons 2 rfl (Sk (Sk (Sd (Sk (Sk (Sk (Sk (Sk (Sk Sub.nil)))))))))))))))), ?_, ?_, ?_, ?_, ?_, ?_, ?_, ?_, ?_, rfl⟩))
   ·omega
   ·omega
   ·exact ho155
   ·exact OCs.snoc hO140 hOM142_6 hopw
   ·simp; omega
   ·exact pErrRC_snoc hpe hg140.1
   ·exact nErrC_mat hpc hnM142_6
   ·have := hg140.2; rw [sizeCs_snoc]; simp [pz] at this; omega
   ·omega
   omega
  replace h139 := df h139
  refine ZM _ rfl <| Zd <| Zb <| JLr (Zh Zu rfl (At.bx 0 rfl) (ZZ ..) <| JLr (Ze 7 (vs := pkT 9 0 zS sv127 w) (l := pkT 9 0 zS sv127 w) Zu rfl rfl rfl rfl rfl (ZI ho127.one how.one) (Z0 ..) <| Za <| Zl <| ⟨.agg ⟨pkT 9 0 zS sv127 w⟩, [([(bM, .cells ⟨[.pointer (some ⟨bS, 0, none⟩), .int .i64 lw]⟩ 169 (0, 0))]) ++ ([(bS, .cells ⟨[v, .int .i64 aw, .int .u64 sw]⟩ 128 (0, 0))]), k127 ++ (k126 ++ (k1 ++ k2))], Ret.one rfl (RV.cell Zu rfl (At.bx 7 rfl) (ZZ ..)), (Sub.join (Sd (Sub.cons 2 rfl (Sub.cons 2 rfl (Sub.join4 (Sub.cons 2 rfl (Sub.cons 2 rfl (Sk (Sk Sub.nil))))))))), ?_⟩))
  exact ⟨.mk 9 0 zS [t126] cs5, _, _, _, _, _, rfl, rfl, OT_mk.2 ⟨_, w, _, es, _, _, k1, k2, rfl, (by unfold inI; omega), (by unfold inI; omega), ho127, OTs1 hO126, how, hopw, rfl, by simp, by omega⟩, ⟨nErr_mat (by omega) (by simpa using hn126) hpe hpc, by simp only [eVa, eNu, sizeT, sizeTs, sizeCs]; omega⟩, by omega, by omega⟩
 replace h125 := df h125
 refine Zp <| Zd <| J_drawM mixed #[0, 1, 3, 7, 15, 0, 32, 96, 224, 511, 1023, 0, 4095] 12 0 [4, 9] rfl (by kernel_rfl) (by decide) rfl (by kernel_rfl) (fun i r156 N156 => match i with | 0 => (r156 0) = .pointer (some ⟨bM, 0, none⟩) | 1 => (r156 1) = .pointer (some ⟨bM, 0, none⟩) | 2 => (r156 2) = .pointer (some ⟨bM, 0, none⟩) | 3 => (r156 3) = .pointer (some ⟨bS, 0, none⟩) | 4 => (r156 4) = .agg ⟨sC ((sml (r156 4)))⟩ ∧ (N156 4) = [(bS, .cells ⟨[v, .int .i64 ((sth (N156 4) 1)), .int .u64 ((sth (N156 4) 2))]⟩ 128 (0, 0))] ∧ (aj ≤ sth (N156 4) 1 ∧ sth (N156 4) 1 ≤ aj + 1) | 5 => (r156 5) = .pointer (some ⟨bM, 0, none⟩) | 6 => (r156 6) = .pointer (some ⟨bM, 0, none⟩) | 7 => (r156 7) = .pointer (some ⟨bM, 0, none⟩) | 8 => (r156 8) = .pointer (some ⟨bS, 0, none⟩) | 9 => (r156 9) = .int .i64 ((ivl (r156 9))) ∧ (N156 9) = [(bS, .cells ⟨[v, .int .i64 ((sth (N156 9) 1)), .int .u64 ((sth (N156 9) 2))]⟩ 128 (0, 0))] ∧ (0 ≤ (ivl (r156 9)) ∧ ((0 : Int) < 3 → (ivl (r156 9)) < 3) ∧ ((3 : Int) ≤ 0 → (ivl (r156 9)) = 0)) ∧ ((sth (N156 4) 1) ≤ sth (N156 9) 1 ∧ sth (N156 9) 1 ≤ (sth (N156 4) 1) + 1) | 10 => (r156 10) = .agg ⟨pkT 8 ((ivl (r156 9))) ((sml (r156 4))) (.slice none 0 0) (.slice none 0 0)⟩ | 11 => (r156 11) = .pointer (some ⟨(ZA (r156 11)), 0, none⟩) ∧ (N156 11) = [((ZA (r156 11)), .cells ⟨pkT 0 0 zS (.slice none 0 0) (.slice none 0 0)⟩ 27 (0, 0))] | _ => True) ⟨?_, ?_, ?_, ?_, ?_, ?_, ?_, ?_, ?_, ?_, ?_, ?_, trivial⟩ ?_
 ·intro ρ r156 N156 B hB hBa hBb hp hr hr0
  obtain ⟨ρ157, rfl⟩ := Zc (uc (show ρ 3 = .pointer (some ⟨b1, 0, none⟩) from hr0 3 (by kernel_rfl)) un)
  refine JLr (Zf Xc rfl (At.bx 16 (Zn ((hB 4 (by decide)).trans rfl))) rfl <| Za ?_)
  exact ⟨.pointer (some ⟨bM, 0, none⟩), [], rfl, (Sub.emp Sub.refl), rfl⟩
 ·intro ρ r156 N156 B hB hBa hBb hp hr hr0
  have p0 : (r156 0) = .pointer (some ⟨bM, 0, none⟩) := hp 0 (by decide) rfl
  obtain ⟨ρ158, rfl⟩ := Zc (uc (show ρ 196 = .pointer (some ⟨bM, 0, none⟩) from (hr 0 _ _ (by decide) rfl rfl rfl).trans p0) un)
  refine JLq (.pointer (some ⟨bM, 0, none⟩)) (Pu.nilCheck rfl) <| Za ?_
  exact ⟨.pointer (some ⟨bM, 0, none⟩), [], rfl, (Sub.emp Sub.refl), rfl⟩
 ·intro ρ r156 N156 B hB hBa hBb hp hr hr0
  have p1 : (r156 1) = .pointer (some ⟨bM, 0, none⟩) := hp 1 (by decide) rfl
  obtain ⟨ρ159, rfl⟩ := Zc (uc (show ρ 197 = .pointer (some ⟨bM, 0, none⟩) from (hr 1 _ _ (by decide) rfl rfl rfl).trans p1) un)
  refine JLq (.pointer (some ⟨bM, 0, none⟩)) (YC rfl rfl) <| Za ?_
  exact ⟨.pointer (some ⟨bM, 0, none⟩), [], rfl, (Sub.emp Sub.refl), rfl⟩
 ·intro ρ r156 N156 B hB hBa hBb hp hr hr0
  have p2 : (r156 2) = .pointer (some ⟨bM, 0, none⟩) := hp 2 (by decide) rfl
  obtain ⟨ρ160, rfl⟩ := Zc (uc (show ρ 198 = .pointer (some ⟨bM, 0, none⟩) from (hr 2 _ _ (by decide) rfl rfl rfl).trans p2) un)
  refine JLr (Zf ty62 rfl (At.bx 17 (Zn ((hB 5 (by decide)).trans rfl))) rfl <| Za ?_)
  exact ⟨.pointer (some ⟨bS, 0, none⟩), [], rfl, (Sub.emp Sub.refl), rfl⟩
 ·intro ρ r156 N156 B hB hBa hBb hp hr hr0
  have p3 : (r156 3) = .pointer (some ⟨bS, 0, none⟩) := hp 3 (by decide) rfl
  obtain ⟨ρ161, rfl⟩ := Zc (uc (show ρ 199 = .pointer (some ⟨bS, 0, none⟩) from (hr 3 _ _ (by decide) rfl rfl rfl).trans p3) un)
  have hB2 := hBa rfl
  change B = [[(bS, .cells ⟨[v, .int .i64 aj, .int .u64 sj]⟩ 128 (0, 0))], [(b4, .cells ⟨pkT 0 0 zS (.slice none 0 0) (.slice none 0 0)⟩ 27 (0, 0))], [(b3, .cells ⟨[.int .i64 m]⟩ 3 (0, 0))], [(b2, .cells ⟨[.int .i64 d]⟩ 3 (0, 0))], [(b1, .cells ⟨[.pointer (some ⟨bM, 0, none⟩)]⟩ 167 (0, 0))], [(bM, .cells ⟨[.pointer (some ⟨bS, 0, none⟩), .int .i64 (L - 1)]⟩ 169 (0, 0))]] at hB2
  subst hB2
  refine Zq (M' := [(N156 0), (N156 1), (N156 2), (N156 3), [], (N156 5), (N156 6), (N156 7), (N156 8), [], (N156 10), (N156 11), [(bS, .cells ⟨[v, .int .i64 aj, .int .u64 sj]⟩ 128 (0, 0))], [(b4, .cells ⟨pkT 0 0 zS (.slice none 0 0) (.slice none 0 0)⟩ 27 (0, 0))], [(b3, .cells ⟨[.int .i64 m]⟩ 3 (0, 0))], [(b2, .cells ⟨[.int .i64 d]⟩ 3 (0, 0))], [(b1, .cells ⟨[.pointer (some ⟨bM, 0, none⟩)]⟩ 167 (0, 0))], [(bM, .cells ⟨[.pointer (some ⟨bS, 0, none⟩), .int .i64 (L - 1)]⟩ 169 (0, 0))]]) Sub.refl <| Zw 12 rfl Tryz.call150 rfl rfl (fun hin => sum_ct _ _ _ _ _ _ (RBs.mono (Hle.hu _ _) hv) (by omega) (by omega) _ _ (by omega) (by omega) (by omega)) rfl ?_
  rintro _ _ ⟨n162, a162, s162, rfl, rfl, ha162⟩
  refine Za ?_
  exact ⟨.agg ⟨sC n162⟩, [(bS, .cells ⟨[v, .int .i64 a162, .int .u64 s162]⟩ 128 (0, 0))], rfl, (Sub.flat (M' := [(N156 0), (N156 1), (N156 2), (N156 3), [], (N156 5), (N156 6), (N156 7), (N156 8), [], (N156 10), (N156 11), [(bS, .cells ⟨[v, .int .i64 a162, .int .u64 s162]⟩ 128 (0, 0))], [(b4, .cells ⟨pkT 0 0 zS (.slice none 0 0) (.slice none 0 0)⟩ 27 (0, 0))], [(b3, .cells ⟨[.int .i64 m]⟩ 3 (0, 0))], [(b2, .cells ⟨[.int .i64 d]⟩ 3 (0, 0))], [(b1, .cells ⟨[.pointer (some ⟨bM, 0, none⟩)]⟩ 167 (0, 0))], [(bM, .cells ⟨[.pointer (some ⟨bS, 0, none⟩), .int .i64 (L - 1)]⟩ 169 (0, 0))]]) (Sub.cons 1 rfl (Sub.cons 1 rfl (Sub.cons 1 rfl (Sub.cons 1 rfl (Sub.emp (Sub.cons 2 rfl (Sub.cons 2 rfl (Sub.cons 2 rfl (Sub.cons 2 rfl (Sub.emp (Sub.cons 3 rfl (Sub.cons 3 rfl (Sk (Sd (Sd (Sk (Sk (Sk (Sk (Sk Sub.nil)))))))))))))))))))) rfl), ⟨sml_eq _, rfl, ha162⟩⟩
 ·intro ρ r156 N156 B hB hBa hBb hp hr hr0
  obtain ⟨ρ163, rfl⟩ := Zc (uc (show ρ 3 = .pointer (some ⟨b1, 0, none⟩) from hr0 3 (by kernel_rfl)) un)
  refine JLr (Zf Xc rfl (At.bx 16 (Zn ((hB 4 (by decide)).trans rfl))) rfl <| Za ?_)
  exact ⟨.pointer (some ⟨bM, 0, none⟩), [], rfl, (Sub.emp Sub.refl), rfl⟩
 ·intro ρ r156 N156 B hB hBa hBb hp hr hr0
  have p5 : (r156 5) = .pointer (some ⟨bM, 0, none⟩) := hp 5 (by decide) rfl
  obtain ⟨ρ164, rfl⟩ := Zc (uc (show ρ 201 = .pointer (some ⟨bM, 0, none⟩) from (hr 5 _ _ (by decide) rfl rfl rfl).trans p5) un)
  refine JLq (.pointer (some ⟨bM, 0, none⟩)) (Pu.nilCheck rfl) <| Za ?_
  exact ⟨.pointer (some ⟨bM, 0, none⟩), [], rfl, (Sub.emp Sub.refl), rfl⟩
 ·intro ρ r156 N156 B hB hBa hBb hp hr hr0
  have p6 : (r156 6) = .pointer (some ⟨bM, 0, none⟩) := hp 6 (by decide) rfl
  obtain ⟨ρ165, rfl⟩ := Zc (uc (show ρ 202 = .pointer (some ⟨bM, 0, none⟩) from (hr 6 _ _ (by decide) rfl rfl rfl).trans p6) un)
  refine JLq (.pointer (some ⟨bM, 0, none⟩)) (YC rfl rfl) <| Za ?_
  exact ⟨.pointer (some ⟨bM, 0, none⟩), [], rfl, (Sub.emp Sub.refl), rfl⟩
 ·intro ρ r156 N156 B hB hBa hBb hp hr hr0
  have p7 : (r156 7) = .pointer (some ⟨bM, 0, none⟩) := hp 7 (by decide) rfl
  obtain ⟨ρ166, rfl⟩ := Zc (uc (show ρ 203 = .pointer (some ⟨bM, 0, none⟩) from (hr 7 _ _ (by decide) rfl rfl rfl).trans p7) un)
  refine JLr (Zf ty62 rfl (At.bx 17 (Zn ((hB 5 (by decide)).trans rfl))) rfl <| Za ?_)
  exact ⟨.pointer (some ⟨bS, 0, none⟩), [], rfl, (Sub.emp Sub.refl), rfl⟩
 ·intro ρ r156 N156 B hB hBa hBb hp hr hr0
  have p4 : (r156 4) = .agg ⟨sC ((sml (r156 4)))⟩ ∧ (N156 4) = [(bS, .cells ⟨[v, .int .i64 ((sth (N156 4) 1)), .int .u64 ((sth (N156 4) 2))]⟩ 128 (0, 0))] ∧ (aj ≤ sth (N156 4) 1 ∧ sth (N156 4) 1 ≤ aj + 1) := hp 4 (by decide) rfl
  have p8 : (r156 8) = .pointer (some ⟨bS, 0, none⟩) := hp 8 (by decide) rfl
  obtain ⟨ρ167, rfl⟩ := Zc (uc (show ρ 204 = .pointer (some ⟨bS, 0, none⟩) from (hr 8 _ _ (by decide) rfl rfl rfl).trans p8) un)
  have hB2 := hBa rfl
  change B = [(N156 4), [(b4, .cells ⟨pkT 0 0 zS (.slice none 0 0) (.slice none 0 0)⟩ 27 (0, 0))], [(b3, .cells ⟨[.int .i64 m]⟩ 3 (0, 0))], [(b2, .cells ⟨[.int .i64 d]⟩ 3 (0, 0))], [(b1, .cells ⟨[.pointer (some ⟨bM, 0, none⟩)]⟩ 167 (0, 0))], [(bM, .cells ⟨[.pointer (some ⟨bS, 0, none⟩), .int .i64 (L - 1)]⟩ 169 (0, 0))]] at hB2
  subst hB2
  refine Zq (M' := [(N156 0), (N156 1), (N156 2), (N156 3), [], (N156 5), (N156 6), (N156 7), (N156 8), [], (N156 10), (N156 11), (N156 4), [(b4, .cells ⟨pkT 0 0 zS (.slice none 0 0) (.slice none 0 0)⟩ 27 (0, 0))], [(b3, .cells ⟨[.int .i64 m]⟩ 3 (0, 0))], [(b2, .cells ⟨[.int .i64 d]⟩ 3 (0, 0))], [(b1, .cells ⟨[.pointer (some ⟨bM, 0, none⟩)]⟩ 167 (0, 0))], [(bM, .cells ⟨[.pointer (some ⟨bS, 0, none⟩), .int .i64 (L - 1)]⟩ 169 (0, 0))]]) Sub.refl <| Zq (M' := [(N156 0), (N156 1), (N156 2), (N156 3), [], (N156 5), (N156 6), (N156 7), (N156 8), [], (N156 10), (N156 11), [(bS, .cells ⟨[v, .int .i64 ((sth (N156 4) 1)), .int .u64 ((sth (N156 4) 2))]⟩ 128 (0, 0))], [(b4, .cells ⟨pkT 0 0 zS (.slice none 0 0) (.slice none 0 0)⟩ 27 (0, 0))], [(b3, .cells ⟨[.int .i64 m]⟩ 3 (0, 0))], [(b2, .cells ⟨[.int .i64 d]⟩ 3 (0, 0))], [(b1, .cells ⟨[.pointer (some ⟨bM, 0, none⟩)]⟩ 167 (0, 0))], [(bM, .cells ⟨[.pointer (some ⟨bS, 0, none⟩), .int .i64 (L - 1)]⟩ 169 (0, 0))]]) (Sk (Sk (Sk (Sk (Sub.emp (Sd (Sk (Sk (Sk (Sk (Sub.emp (Sd (Sk (Sk (Se p4.2.1 (Sk (Sk (Sk (Sk (Sk Sub.nil)))))))))))))))))))) <| Zw 12 rfl Tryz.call147 rfl rfl (fun hin => YJ _ _ _ _ _ _ (RBs.mono (Hle.hu _ _) hv) (by omega) (by omega) _) rfl ?_
  rintro _ _ ⟨n168, a168, s168, rfl, rfl, hn168, ha168⟩
  refine Za ?_
  exact ⟨.int .i64 n168, [(bS, .cells ⟨[v, .int .i64 a168, .int .u64 s168]⟩ 128 (0, 0))], rfl, (Sub.flat (M' := [(N156 0), (N156 1), (N156 2), (N156 3), [], (N156 5), (N156 6), (N156 7), (N156 8), [], (N156 10), (N156 11), [(bS, .cells ⟨[v, .int .i64 a168, .int .u64 s168]⟩ 128 (0, 0))], [(b4, .cells ⟨pkT 0 0 zS (.slice none 0 0) (.slice none 0 0)⟩ 27 (0, 0))], [(b3, .cells ⟨[.int .i64 m]⟩ 3 (0, 0))], [(b2, .cells ⟨[.int .i64 d]⟩ 3 (0, 0))], [(b1, .cells ⟨[.pointer (some ⟨bM, 0, none⟩)]⟩ 167 (0, 0))], [(bM, .cells ⟨[.pointer (some ⟨bS, 0, none⟩), .int .i64 (L - 1)]⟩ 169 (0, 0))]]) (Sub.cons 1 rfl (Sub.cons 1 rfl (Sub.cons 1 rfl (Sub.cons 1 rfl (Sub.emp (Sub.cons 2 rfl (Sub.cons 2 rfl (Sub.cons 2 rfl (Sub.cons 2 rfl (Sub.emp (Sub.cons 3 rfl (Sub.cons 3 rfl (Sk (Sd (Sd (Sk (Sk (Sk (Sk (Sk Sub.nil)))))))))))))))))))) rfl), ⟨rfl, rfl, hn168, ha168⟩⟩
 ·intro ρ r156 N156 B hB hBa hBb hp hr hr0
  have p4 : (r156 4) = .agg ⟨sC ((sml (r156 4)))⟩ ∧ (N156 4) = [(bS, .cells ⟨[v, .int .i64 ((sth (N156 4) 1)), .int .u64 ((sth (N156 4) 2))]⟩ 128 (0, 0))] ∧ (aj ≤ sth (N156 4) 1 ∧ sth (N156 4) 1 ≤ aj + 1) := hp 4 (by decide) rfl
  have p9 : (r156 9) = .int .i64 ((ivl (r156 9))) ∧ (N156 9) = [(bS, .cells ⟨[v, .int .i64 ((sth (N156 9) 1)), .int .u64 ((sth (N156 9) 2))]⟩ 128 (0, 0))] ∧ (0 ≤ (ivl (r156 9)) ∧ ((0 : Int) < 3 → (ivl (r156 9)) < 3) ∧ ((3 : Int) ≤ 0 → (ivl (r156 9)) = 0)) ∧ ((sth (N156 4) 1) ≤ sth (N156 9) 1 ∧ sth (N156 9) 1 ≤ (sth (N156 4) 1) + 1) := hp 9 (by decide) rfl
  obtain ⟨ρ169, rfl⟩ := Zc (uc (show ρ 200 = .agg ⟨sC ((sml (r156 4)))⟩ from (hr 4 _ _ (by decide) rfl rfl rfl).trans p4.1) (uc (show ρ 205 = .int .i64 ((ivl (r156 9))) from (hr 9 _ _ (by decide) rfl rfl rfl).trans p9.1) un))
  refine Zg rfl Tryz.call157 rfl (fun hin => co_ct _ _ none 0 0 _) rfl ?_
  rintro _ _ ⟨rfl, rfl⟩
  refine Za ?_
  exact ⟨.agg ⟨pkT 8 ((ivl (r156 9))) ((sml (r156 4))) (.slice none 0 0) (.slice none 0 0)⟩, [], rfl, (Sub.emp Sub.refl), rfl⟩
 ·intro ρ r156 N156 B hB hBa hBb hp hr hr0
  refine JLr (Zj (l := pkT 0 0 zS (.slice none 0 0) (.slice none 0 0)) Tryz.zeroValue27 rfl fun b170 => Za ?_)
  exact ⟨.pointer (some ⟨b170, 0, none⟩), [(b170, .cells ⟨pkT 0 0 zS (.slice none 0 0) (.slice none 0 0)⟩ 27 (0, 0))], rfl, Sub.refl, ⟨rfl, rfl⟩⟩
 intro ρ r156 N156 hp hr hr0
 have p4 : (r156 4) = .agg ⟨sC ((sml (r156 4)))⟩ ∧ (N156 4) = [(bS, .cells ⟨[v, .int .i64 ((sth (N156 4) 1)), .int .u64 ((sth (N156 4) 2))]⟩ 128 (0, 0))] ∧ (aj ≤ sth (N156 4) 1 ∧ sth (N156 4) 1 ≤ aj + 1) := hp 4 (by decide)
 have p9 : (r156 9) = .int .i64 ((ivl (r156 9))) ∧ (N156 9) = [(bS, .cells ⟨[v, .int .i64 ((sth (N156 9) 1)), .int .u64 ((sth (N156 9) 2))]⟩ 128 (0, 0))] ∧ (0 ≤ (ivl (r156 9)) ∧ ((0 : Int) < 3 → (ivl (r156 9)) < 3) ∧ ((3 : Int) ≤ 0 → (ivl (r156 9)) = 0)) ∧ ((sth (N156 4) 1) ≤ sth (N156 9) 1 ∧ sth (N156 9) 1 ≤ (sth (N156 4) 1) + 1) := hp 9 (by decide)
 have p11 : (r156 11) = .pointer (some ⟨(ZA (r156 11)), 0, none⟩) ∧ (N156 11) = [((ZA (r156 11)), .cells ⟨pkT 0 0 zS (.slice none 0 0) (.slice none 0 0)⟩ 27 (0, 0))] := hp 11 (by decide)
 obtain ⟨ρ171, rfl⟩ := Zc (uc (show ρ 3 = .pointer (some ⟨b1, 0, none⟩) from hr0 3 (by kernel_rfl)) (uc (show ρ 6 = .pointer (some ⟨b4, 0, none⟩) from hr0 6 (by kernel_rfl)) (uc (show ρ 7 = .func (.func 146) ⟨[]⟩ ⟨[.pointer (some ⟨b1, 0, none⟩), .pointer (some ⟨b2, 0, none⟩), .pointer (some ⟨b3, 0, none⟩)]⟩ from hr0 7 (by kernel_rfl)) (uc (show ρ 12 = .pointer (some ⟨(ZA (r156 11)), 0, none⟩) from (hr 11 _ _ (by decide) rfl rfl).trans p11.1) (uc (show ρ 206 = .agg ⟨pkT 8 ((ivl (r156 9))) ((sml (r156 4))) (.slice none 0 0) (.slice none 0 0)⟩ from (hr 10 _ _ (by decide) rfl rfl).trans (hp 10 (by decide))) un)))))
 have p156_4 := p4; have p156_9 := p9; have p156_11 := p11
 clear hp hr hr0 p4 p9 p11
 refine Zq (M' := [(N156 0), (N156 1), (N156 2), (N156 3), [], (N156 5), (N156 6), (N156 7), (N156 8), [], (N156 10), (N156 11), (N156 9), [(b4, .cells ⟨pkT 0 0 zS (.slice none 0 0) (.slice none 0 0)⟩ 27 (0, 0))], [(b3, .cells ⟨[.int .i64 m]⟩ 3 (0, 0))], [(b2, .cells ⟨[.int .i64 d]⟩ 3 (0, 0))], [(b1, .cells ⟨[.pointer (some ⟨bM, 0, none⟩)]⟩ 167 (0, 0))], [(bM, .cells ⟨[.pointer (some ⟨bS, 0, none⟩), .int .i64 (L - 1)]⟩ 169 (0, 0))]]) Sub.refl <| Zq (M' := [[((ZA (r156 11)), .cells ⟨pkT 0 0 zS (.slice none 0 0) (.slice none 0 0)⟩ 27 (0, 0))], [(bS, .cells ⟨[v, .int .i64 ((sth (N156 9) 1)), .int .u64 ((sth (N156 9) 2))]⟩ 128 (0, 0))], [(b4, .cells ⟨pkT 0 0 zS (.slice none 0 0) (.slice none 0 0)⟩ 27 (0, 0))], [(b3, .cells ⟨[.int .i64 m]⟩ 3 (0, 0))], [(b2, .cells ⟨[.int .i64 d]⟩ 3 (0, 0))], [(b1, .cells ⟨[.pointer (some ⟨bM, 0, none⟩)]⟩ 167 (0, 0))], [(bM, .cells ⟨[.pointer (some ⟨bS, 0, none⟩), .int .i64 (L - 1)]⟩ 169 (0, 0))]]) (Sd (Sd (Sd (Sd (Sd (Sd (Sd (Sd (Sd (Sd (Sd (Se p156_11.2 (Se p156_9.2.1 (Sk (Sk (Sk (Sk (Sk Sub.nil)))))))))))))))))) <| Zq (M' := [[((ZA (r156 11)), .cells ⟨pkT 0 0 zS (.slice none 0 0) (.slice none 0 0)⟩ 27 (0, 0))], [(bS, .cells ⟨[v, .int .i64 ((sth (N156 9) 1)), .int .u64 ((sth (N156 9) 2))]⟩ 128 (0, 0))], [(b4, .cells ⟨pkT 0 0 zS (.slice none 0 0) (.slice none 0 0)⟩ 27 (0, 0))], [(b3, .cells ⟨[.int .i64 m]⟩ 3 (0, 0))], [(b2, .cells ⟨[.int .i64 d]⟩ 3 (0, 0))], [(b1, .cells ⟨[.pointer (some ⟨bM, 0, none⟩)]⟩ 167 (0, 0))], [(bM, .cells ⟨[.pointer (some ⟨bS, 0, none⟩), .int .i64 (L - 1)]⟩ 169 (0, 0))]]) (Sub.flat Sub.refl (by simp)) ?_
 show JL _ _ _ [_] _ _ _
 refine JLr (Ze 0 (vs := pkT 8 ((ivl (r156 9))) ((sml (r156 4))) (.slice none 0 0) (.slice none 0 0)) (l := pkT 8 ((ivl (r156 9))) ((sml (r156 4))) (.slice none 0 0) (.slice none 0 0)) Zu rfl rfl rfl rfl rfl (ZI rfl rfl) (Z0 ..) <| Za <| Zd <| Zd <| Zb <| JLr (Zf Xc rfl (At.bx 5 rfl) rfl <| JLq (.pointer (some ⟨bM, 0, none⟩)) (Pu.nilCheck rfl) <| JLq (.pointer (some ⟨bM, 0, none⟩)) (YC rfl rfl) <| JLr (Zf ty62 rfl (At.bx 6 rfl) rfl <| Zw 1 rfl Tryz.call147 rfl rfl (fun hin => YJ _ _ _ _ _ _ (RBs.mono (Hle.hu _ _) hv) (by omega) (by omega) _) rfl ?_)))
 rintro _ _ ⟨n172, a172, s172, rfl, rfl, hn172, ha172⟩
 refine JLm (.int .i64 0) <| Za <| Zs <| ZU (fun k ρ M => ∃ (j : Nat) (ts : List Tm) (w : Value) (es : List (List Value)) (k1 k2 : Zk) (lw aw sw : Int), ρ 6 = .pointer (some ⟨b4, 0, none⟩) ∧ ρ 7 = .func (.func 146) ⟨[]⟩ ⟨[.pointer (some ⟨b1, 0, none⟩), .pointer (some ⟨b2, 0, none⟩), .pointer (some ⟨b3, 0, none⟩)]⟩ ∧ ρ 12 = .pointer (some ⟨(ZA (r156 11)), 0, none⟩) ∧ ρ 211 = .int .i64 n172 ∧ ρ 212 = .int .i64 ((j : Int)) ∧ Sub [[((ZA (r156 11)), .cells ⟨pkT 8 ((ivl (r156 9))) ((sml (r156 4))) w (.slice none 0 0)⟩ 27 (0, 0))], k1, k2, [(bM, .cells ⟨[.pointer (some ⟨bS, 0, none⟩), .int .i64 lw]⟩ 169 (0, 0))], [(bS, .cells ⟨[v, .int .i64 aw, .int .u64 sw]⟩ 128 (0, 0))], [(b4, .cells ⟨pkT 0 0 zS (.slice none 0 0) (.slice none 0 0)⟩ 27 (0, 0))], [(b3, .cells ⟨[.int .i64 m]⟩ 3 (0, 0))], [(b2, .cells ⟨[.int .i64 d]⟩ 3 (0, 0))], [(b1, .cells ⟨[.pointer (some ⟨bM, 0, none⟩)]⟩ 167 (0, 0))]] M ∧ (j : Int) ≤ n172 ∧ Own 27 36 w es k1 ∧ OTs ts es k2 ∧ ts.length = j ∧ Z7 d m 0 8 0 ts = 0 ∧ (sizeTs ts : Int) ≤ 20 * (L - 1 - lw) ∧ (lw ≤ L - 1 ∧ -3 * (L - 2) - ((j : Int) + -1) ≤ lw) ∧ (a ≤ aw ∧ aw ≤ a + 100 * (L - 1 - lw) + 10) ∧ k = n172.toNat - j) _ ⟨0, [], (.slice none 0 0), ([]), ([]), ([]), (L - 1), a172, s172, rfl, rfl, rfl, rfl, rfl, (Sub.cons 1 rfl (Sub.emp (Sub.emp (Sub.cons 5 rfl (Sk (Sk (Sk (Sk (Sk Sub.nil))))))))), (by omega), Own.nil, OTs.nil, rfl, (by simp [Z7]), (by simp only [sizeTs]; omega), (by omega), (by omega), rfl⟩ ?_
 rintro _ ρ173 _ ⟨j, ts, w, es, k1, k2, lw, aw, sw, e174, e175, e176, e177, e178, hm179, hj, how, hopw, hpl, hpe, hps, hpb, hpa, rfl⟩
 obtain ⟨ρ180, rfl⟩ := Zc (uc e174 (uc e175 (uc e176 (uc e177 (uc e178 un)))))
 clear e174 e175 e176 e177 e178
 refine Z1 hm179 <| Zd <| Zb <| JLq (.bool (decide ((j : Int) < n172))) (Pu.lss rfl rfl) <| Za <| Zd <| Zi (b := decide ((j : Int) < n172)) rfl (fun h181 => ?_) (fun h181 => ?_)
 ·replace h181 := dt h181
  have helw := OTs_len hopw
  refine Zp <| Zd <| Zs <| Z1 (M' := [([(bM, .cells ⟨[.pointer (some ⟨bS, 0, none⟩), .int .i64 lw]⟩ 169 (0, 0))]) ++ ([(bS, .cells ⟨[v, .int .i64 aw, .int .u64 sw]⟩ 128 (0, 0))]), [((ZA (r156 11)), .cells ⟨pkT 8 ((ivl (r156 9))) ((sml (r156 4))) w (.slice none 0 0)⟩ 27 (0, 0))], k1, k2, [(b4, .cells ⟨pkT 0 0 zS (.slice none 0 0) (.slice none 0 0)⟩ 27 (0, 0))], [(b3, .cells ⟨[.int .i64 m]⟩ 3 (0, 0))], [(b2, .cells ⟨[.int .i64 d]⟩ 3 (0, 0))], [(b1, .cells ⟨[.pointer (some ⟨bM, 0, none⟩)]⟩ 167 (0, 0))]]) (Sub.join (Sub.cons 3 rfl (Sub.cons 3 rfl (Sk (Sk (Sk (Sk (Sk (Sk (Sk Sub.nil)))))))))) <| J_drawM mixed #[0, 1, 0, 4, 12, 31, 63, 127] 5 0 [3] rfl (by kernel_rfl) (by decide) rfl (by kernel_rfl) (fun i r182 N182 => match i with | 0 => (r182 0) = .pointer (some ⟨(ZA (r156 11)), 34, none⟩) | 1 => (r182 1) = w | 2 => (r182 2) = .func (.func 146) ⟨[]⟩ ⟨[.pointer (some ⟨b1, 0, none⟩), .pointer (some ⟨b2, 0, none⟩), .pointer (some ⟨b3, 0, none⟩)]⟩ | 3 => (r182 3) = .agg ⟨(cll (r182 3))⟩ ∧ (cll (r182 3)).length = 36 ∧ okc (cll (r182 3)) ∧ ∃ tM kM lM aM sM, (N182 3) = ([(bM, .cells ⟨[.pointer (some ⟨bS, 0, none⟩), .int .i64 lM]⟩ 169 (0, 0))]) ++ (([(bS, .cells ⟨[v, .int .i64 aM, .int .u64 sM]⟩ 128 (0, 0))]) ++ kM) ∧ OT tM (cll (r182 3)) kM ∧ (ZR (d + 0) m 0 tM = 0 ∧ (sizeT tM : Int) ≤ 20 * (lw - lM)) ∧ (lM ≤ lw - 1 ∧ (lw ≤ 1 → lM = lw - 1) ∧ (1 ≤ lw → -3 * (lw - 1) ≤ lM)) ∧ (aw ≤ aM ∧ aM ≤ aw + 100 * (lw - lM)) | 4 => (r182 4) = .slice (some ⟨(ZC (r182 4)), 0, none⟩) 1 1 ∧ (N182 4) = [(ZC (r182 4), .cells ⟨List.flatten [(cll (r182 3))]⟩ 27 (0, 0))] ∧ Own 27 36 (.slice (some ⟨(ZC (r182 4)), 0, none⟩) 1 1) [(cll (r182 3))] (N182 4) | _ => True) ⟨?_, ?_, ?_, ?_, ?_, trivial⟩ ?_
  ·intro ρ r182 N182 B hB hBa hBb hp hr hr0
   obtain ⟨ρ183, rfl⟩ := Zc (uc (show ρ 12 = .pointer (some ⟨(ZA (r156 11)), 0, none⟩) from hr0 12 (by kernel_rfl)) un)
   refine JLq (.pointer (some ⟨(ZA (r156 11)), 34, none⟩)) (Yq rfl rfl) <| Za ?_
   exact ⟨.pointer (some ⟨(ZA (r156 11)), 34, none⟩), [], rfl, (Sub.emp Sub.refl), rfl⟩
  ·intro ρ r182 N182 B hB hBa hBb hp hr hr0
   have p0 : (r182 0) = .pointer (some ⟨(ZA (r156 11)), 34, none⟩) := hp 0 (by decide) rfl
   obtain ⟨ρ184, rfl⟩ := Zc (uc (show ρ 214 = .pointer (some ⟨(ZA (r156 11)), 34, none⟩) from (hr 0 _ _ (by decide) rfl rfl rfl).trans p0) un)
   refine JLr (Zf ty24 rfl (At.bx 6 (Zn ((hB 1 (by decide)).trans rfl))) (Yu ..) <| Za ?_)
   exact ⟨w, [], rfl, (Sub.emp Sub.refl), rfl⟩
  ·intro ρ r182 N182 B hB hBa hBb hp hr hr0
   obtain ⟨ρ185, rfl⟩ := Zc (uc (show ρ 7 = .func (.func 146) ⟨[]⟩ ⟨[.pointer (some ⟨b1, 0, none⟩), .pointer (some ⟨b2, 0, none⟩), .pointer (some ⟨b3, 0, none⟩)]⟩ from hr0 7 (by kernel_rfl)) un)
   refine JLm (.func (.func 146) ⟨[]⟩ ⟨[.pointer (some ⟨b1, 0, none⟩), .pointer (some ⟨b2, 0, none⟩), .pointer (some ⟨b3, 0, none⟩)]⟩) <| Za ?_
   exact ⟨.func (.func 146) ⟨[]⟩ ⟨[.pointer (some ⟨b1, 0, none⟩), .pointer (some ⟨b2, 0, none⟩), .pointer (some ⟨b3, 0, none⟩)]⟩, [], rfl, (Sub.emp Sub.refl), rfl⟩
  ·intro ρ r182 N182 B hB hBa hBb hp hr hr0
   have p2 : (r182 2) = .func (.func 146) ⟨[]⟩ ⟨[.pointer (some ⟨b1, 0, none⟩), .pointer (some ⟨b2, 0, none⟩), .pointer (some ⟨b3, 0, none⟩)]⟩ := hp 2 (by decide) rfl
   obtain ⟨ρ186, rfl⟩ := Zc (uc (show ρ 216 = .func (.func 146) ⟨[]⟩ ⟨[.pointer (some ⟨b1, 0, none⟩), .pointer (some ⟨b2, 0, none⟩), .pointer (some ⟨b3, 0, none⟩)]⟩ from (hr 2 _ _ (by decide) rfl rfl rfl).trans p2) un)
   have hB2 := hBa rfl
   change B = [([(bM, .cells ⟨[.pointer (some ⟨bS, 0, none⟩), .int .i64 lw]⟩ 169 (0, 0))]) ++ ([(bS, .cells ⟨[v, .int .i64 aw, .int .u64 sw]⟩ 128 (0, 0))]), [((ZA (r156 11)), .cells ⟨pkT 8 ((ivl (r156 9))) ((sml (r156 4))) w (.slice none 0 0)⟩ 27 (0, 0))], k1, k2, [(b4, .cells ⟨pkT 0 0 zS (.slice none 0 0) (.slice none 0 0)⟩ 27 (0, 0))], [(b3, .cells ⟨[.int .i64 m]⟩ 3 (0, 0))], [(b2, .cells ⟨[.int .i64 d]⟩ 3 (0, 0))], [(b1, .cells ⟨[.pointer (some ⟨bM, 0, none⟩)]⟩ 167 (0, 0))]] at hB2
   subst hB2
   refine Zq (M' := [(N182 0), (N182 1), (N182 2), [], (N182 4), ([(bM, .cells ⟨[.pointer (some ⟨bS, 0, none⟩), .int .i64 lw]⟩ 169 (0, 0))]) ++ ([(bS, .cells ⟨[v, .int .i64 aw, .int .u64 sw]⟩ 128 (0, 0))]), [((ZA (r156 11)), .cells ⟨pkT 8 ((ivl (r156 9))) ((sml (r156 4))) w (.slice none 0 0)⟩ 27 (0, 0))], k1, k2, [(b4, .cells ⟨pkT 0 0 zS (.slice none 0 0) (.slice none 0 0)⟩ 27 (0, 0))], [(b3, .cells ⟨[.int .i64 m]⟩ 3 (0, 0))], [(b2, .cells ⟨[.int .i64 d]⟩ 3 (0, 0))], [(b1, .cells ⟨[.pointer (some ⟨bM, 0, none⟩)]⟩ 167 (0, 0))]]) Sub.refl <| Zw 5 rfl Tryz.call146 rfl rfl (fun hin => Y2 _ _ _ _ _ _ _ _ _ _ _ _ _ _ (RBs.mono (Hle.hu _ _) hv) (hin 11 _ rfl _ _ List.mem_cons_self) (hin 10 _ rfl _ _ List.mem_cons_self) (hin 9 _ rfl _ _ List.mem_cons_self) (by omega) (by omega) (by omega) (by omega) (fun h hh => ih _ (by omega) _ _ _ _ _ _ _ _ _ _ rfl (RBs.mono hh (RBs.mono (Hle.hu _ _) hv)) (by omega) (by omega) (by omega) (by omega) (by omega) (by omega) (by omega) (by omega))) rfl ?_
   rintro _ _ ⟨t187, cs187, k187, l187, a187, s187, rfl, rfl, hO187, ⟨hn187, hz187⟩, hl187, ha187⟩
   refine Zq (M' := [[(bM, .cells ⟨[.pointer (some ⟨bS, 0, none⟩), .int .i64 l187]⟩ 169 (0, 0))], [(bS, .cells ⟨[v, .int .i64 a187, .int .u64 s187]⟩ 128 (0, 0))], k187, (N182 0), (N182 1), (N182 2), [], (N182 4), [((ZA (r156 11)), .cells ⟨pkT 8 ((ivl (r156 9))) ((sml (r156 4))) w (.slice none 0 0)⟩ 27 (0, 0))], k1, k2, [(b4, .cells ⟨pkT 0 0 zS (.slice none 0 0) (.slice none 0 0)⟩ 27 (0, 0))], [(b3, .cells ⟨[.int .i64 m]⟩ 3 (0, 0))], [(b2, .cells ⟨[.int .i64 d]⟩ 3 (0, 0))], [(b1, .cells ⟨[.pointer (some ⟨bM, 0, none⟩)]⟩ 167 (0, 0))]]) (Sub.flat Sub.refl (by simp)) <| Za ?_
   exact ⟨.agg ⟨cs187⟩, ([(bM, .cells ⟨[.pointer (some ⟨bS, 0, none⟩), .int .i64 l187]⟩ 169 (0, 0))]) ++ (([(bS, .cells ⟨[v, .int .i64 a187, .int .u64 s187]⟩ 128 (0, 0))]) ++ k187), rfl, (Sub.flat (M' := [(N182 0), (N182 1), (N182 2), [], (N182 4), ([(bM, .cells ⟨[.pointer (some ⟨bS, 0, none⟩), .int .i64 l187]⟩ 169 (0, 0))]) ++ (([(bS, .cells ⟨[v, .int .i64 a187, .int .u64 s187]⟩ 128 (0, 0))]) ++ k187), [((ZA (r156 11)), .cells ⟨pkT 8 ((ivl (r156 9))) ((sml (r156 4))) w (.slice none 0 0)⟩ 27 (0, 0))], k1, k2, [(b4, .cells ⟨pkT 0 0 zS (.slice none 0 0) (.slice none 0 0)⟩ 27 (0, 0))], [(b3, .cells ⟨[.int .i64 m]⟩ 3 (0, 0))], [(b2, .cells ⟨[.int .i64 d]⟩ 3 (0, 0))], [(b1, .cells ⟨[.pointer (some ⟨bM, 0, none⟩)]⟩ 167 (0, 0))]]) (Sub.cons 3 rfl (Sub.cons 3 rfl (Sub.cons 3 rfl (Sub.emp (Sub.cons 4 rfl (Sub.join3 (Sk (Sk (Sk (Sd (Sk (Sk (Sk (Sk (Sk (Sk (Sk Sub.nil))))))))))))))))) rfl), ⟨rfl, hO187.len, hO187.ok, t187, k187, l187, a187, s187, rfl, hO187, ⟨hn187, hz187⟩, hl187, ha187⟩⟩
  ·intro ρ r182 N182 B hB hBa hBb hp hr hr0
   have p3 : (r182 3) = .agg ⟨(cll (r182 3))⟩ ∧ (cll (r182 3)).length = 36 ∧ okc (cll (r182 3)) ∧ ∃ tM kM lM aM sM, (N182 3) = ([(bM, .cells ⟨[.pointer (some ⟨bS, 0, none⟩), .int .i64 lM]⟩ 169 (0, 0))]) ++ (([(bS, .cells ⟨[v, .int .i64 aM, .int .u64 sM]⟩ 128 (0, 0))]) ++ kM) ∧ OT tM (cll (r182 3)) kM ∧ (ZR (d + 0) m 0 tM = 0 ∧ (sizeT tM : Int) ≤ 20 * (lw - lM)) ∧ (lM ≤ lw - 1 ∧ (lw ≤ 1 → lM = lw - 1) ∧ (1 ≤ lw → -3 * (lw - 1) ≤ lM)) ∧ (aw ≤ aM ∧ aM ≤ aw + 100 * (lw - lM)) := hp 3 (by decide) rfl
   obtain ⟨ρ188, rfl⟩ := Zc (uc (show ρ 217 = .agg ⟨(cll (r182 3))⟩ from (hr 3 _ _ (by decide) rfl rfl rfl).trans p3.1) un)
   refine JLr (Zr (vs := [.agg ⟨(cll (r182 3))⟩]) [(cll (r182 3))] Tryz.runUnderlying24 el27 rfl rfl (by intro e he; simp only [List.mem_cons, List.not_mem_nil, or_false] at he; subst he; exact p3.2.1) rfl (by decide) fun b189 k189 ho189 hk189 => Za ?_)
   exact ⟨.slice (some ⟨b189, 0, none⟩) 1 1, k189, rfl, Sub.refl, ⟨rfl, hk189, ho189⟩⟩
  intro ρ r182 N182 hp hr hr0
  have p3 : (r182 3) = .agg ⟨(cll (r182 3))⟩ ∧ (cll (r182 3)).length = 36 ∧ okc (cll (r182 3)) ∧ ∃ tM kM lM aM sM, (N182 3) = ([(bM, .cells ⟨[.pointer (some ⟨bS, 0, none⟩), .int .i64 lM]⟩ 169 (0, 0))]) ++ (([(bS, .cells ⟨[v, .int .i64 aM, .int .u64 sM]⟩ 128 (0, 0))]) ++ kM) ∧ OT tM (cll (r182 3)) kM ∧ (ZR (d + 0) m 0 tM = 0 ∧ (sizeT tM : Int) ≤ 20 * (lw - lM)) ∧ (lM ≤ lw - 1 ∧ (lw ≤ 1 → lM = lw - 1) ∧ (1 ≤ lw → -3 * (lw - 1) ≤ lM)) ∧ (aw ≤ aM ∧ aM ≤ aw + 100 * (lw - lM)) := hp 3 (by decide)
  have p4 : (r182 4) = .slice (some ⟨(ZC (r182 4)), 0, none⟩) 1 1 ∧ (N182 4) = [(ZC (r182 4), .cells ⟨List.flatten [(cll (r182 3))]⟩ 27 (0, 0))] ∧ Own 27 36 (.slice (some ⟨(ZC (r182 4)), 0, none⟩) 1 1) [(cll (r182 3))] (N182 4) := hp 4 (by decide)
  obtain ⟨ρ190, rfl⟩ := Zc (uc (show ρ 6 = .pointer (some ⟨b4, 0, none⟩) from hr0 6 (by kernel_rfl)) (uc (show ρ 7 = .func (.func 146) ⟨[]⟩ ⟨[.pointer (some ⟨b1, 0, none⟩), .pointer (some ⟨b2, 0, none⟩), .pointer (some ⟨b3, 0, none⟩)]⟩ from hr0 7 (by kernel_rfl)) (uc (show ρ 12 = .pointer (some ⟨(ZA (r156 11)), 0, none⟩) from hr0 12 (by kernel_rfl)) (uc (show ρ 211 = .int .i64 n172 from hr0 211 (by kernel_rfl)) (uc (show ρ 212 = .int .i64 ((j : Int)) from hr0 212 (by kernel_rfl)) (uc (show ρ 215 = w from (hr 1 _ _ (by decide) rfl rfl).trans (hp 1 (by decide))) (uc (show ρ 218 = .slice (some ⟨(ZC (r182 4)), 0, none⟩) 1 1 from (hr 4 _ _ (by decide) rfl rfl).trans p4.1) un)))))))
  have p182_3 := p3; have p182_4 := p4
  clear hp hr hr0 p3 p4
  refine Zq (M' := [(N182 0), (N182 1), (N182 2), [], (N182 4), (N182 3), [((ZA (r156 11)), .cells ⟨pkT 8 ((ivl (r156 9))) ((sml (r156 4))) w (.slice none 0 0)⟩ 27 (0, 0))], k1, k2, [(b4, .cells ⟨pkT 0 0 zS (.slice none 0 0) (.slice none 0 0)⟩ 27 (0, 0))], [(b3, .cells ⟨[.int .i64 m]⟩ 3 (0, 0))], [(b2, .cells ⟨[.int .i64 d]⟩ 3 (0, 0))], [(b1, .cells ⟨[.pointer (some ⟨bM, 0, none⟩)]⟩ 167 (0, 0))]]) Sub.refl ?_
  obtain ⟨tM182_3, kM182_3, lM182_3, aM182_3, sM182_3, hNM182_3, hOM182_3, ⟨hnM182_3, hzM182_3⟩, hlM182_3, haM182_3⟩ := p182_3.2.2.2
  refine Zq (M' := [(N182 4), ([(bM, .cells ⟨[.pointer (some ⟨bS, 0, none⟩), .int .i64 lM182_3]⟩ 169 (0, 0))]) ++ (([(bS, .cells ⟨[v, .int .i64 aM182_3, .int .u64 sM182_3]⟩ 128 (0, 0))]) ++ kM182_3), [((ZA (r156 11)), .cells ⟨pkT 8 ((ivl (r156 9))) ((sml (r156 4))) w (.slice none 0 0)⟩ 27 (0, 0))], k1, k2, [(b4, .cells ⟨pkT 0 0 zS (.slice none 0 0) (.slice none 0 0)⟩ 27 (0, 0))], [(b3, .cells ⟨[.int .i64 m]⟩ 3 (0, 0))], [(b2, .cells ⟨[.int .i64 d]⟩ 3 (0, 0))], [(b1, .cells ⟨[.pointer (some ⟨bM, 0, none⟩)]⟩ 167 (0, 0))]]) (Sd (Sd (Sd (Sd (Sk (Se hNM182_3 (Sk (Sk (Sk (Sk (Sk (Sk (Sk Sub.nil))))))))))))) <| Zq (M' := [(N182 4), [(bM, .cells ⟨[.pointer (some ⟨bS, 0, none⟩), .int .i64 lM182_3]⟩ 169 (0, 0))], [(bS, .cells ⟨[v, .int .i64 aM182_3, .int .u64 sM182_3]⟩ 128 (0, 0))], kM182_3, [((ZA (r156 11)), .cells ⟨pkT 8 ((ivl (r156 9))) ((sml (r156 4))) w (.slice none 0 0)⟩ 27 (0, 0))], k1, k2, [(b4, .cells ⟨pkT 0 0 zS (.slice none 0 0) (.slice none 0 0)⟩ 27 (0, 0))], [(b3, .cells ⟨[.int .i64 m]⟩ 3 (0, 0))], [(b2, .cells ⟨[.int .i64 d]⟩ 3 (0, 0))], [(b1, .cells ⟨[.pointer (some ⟨bM, 0, none⟩)]⟩ 167 (0, 0))]]) (Sub.flat Sub.refl (by simp)) ?_
  show JL _ _ _ [_, _, _] _ _ _
  have hlens191 : ∀ e ∈ ([(cll (r182 3))] : List (List Value)), List.length e = 36 := by
   intro e he; simp only [List.mem_cons, List.not_mem_nil, or_false] at he
   rcases he with rfl
   ·exact p182_3.2.1
  have hoks191 : ∀ e ∈ ([(cll (r182 3))] : List (List Value)), okc e := by
   intro e he; simp only [List.mem_cons, List.not_mem_nil, or_false] at he
   rcases he with rfl
   ·exact p182_3.2.2.1
  refine JLr (ZH (i := 5) (n := 1) (es' := [(cll (r182 3))]) Tryz.runUnderlying24 Tryz.runUnderlying24 (Or.inl rfl) el27 rfl rfl rfl how (fun F w m => Src.row (((At.k 0 rfl (by rw [p182_4.2.1]; exact List.mem_cons_self))).heap m) (Zx (ZG hlens191))) rfl hlens191 hoks191 (by decide) (by omega) fun v191 k191 ho191 => JLq (.pointer (some ⟨(ZA (r156 11)), 34, none⟩)) (Yq rfl rfl) <| JLr (Ze 4 (vs := [v191]) (l := pkT 8 ((ivl (r156 9))) ((sml (r156 4))) v191 (.slice none 0 0)) ty24 rfl rfl rfl (ZO ho191.one) rfl (Zm ho191.one Zv) (pkT_s34 ..) <| Za <| Zb <| JLq (.int .i64 (((j + 1 : Nat) : Int))) (Pu.inc rfl rfl (by omega)) <| JLm (.int .i64 (((j + 1 : Nat) : Int))) <| Za <| ⟨_, ?_, (j + 1), (ts ++ [tM182_3]), v191, (es ++ [(cll (r182 3))]), k191, (k2 ++ kM182_3), lM182_3, aM182_3, sM182_3, rfl, rfl, rfl, rfl, rfl, (Sd (Sub.cons 3 rfl (Sub.cons 3 rfl (Sub.join (Sub.cons 3 rfl (Sub.cons 2 rfl (Sk (Sk (Sk (Sk (Sk (Sk Sub.nil)))))))))))), ?_, ?_, ?_, ?_, ?_, ?_, ?_, ?_, rfl⟩))
  ·omega
  ·omega
  ·exact ho191
  ·exact OTs.snoc hOM182_3 hopw
  ·simp; omega
  ·exact nErrK_con hpe (by simpa using hnM182_3)
  ·rw [sizeTs_snoc]; omega
  ·omega
  omega
 replace h181 := df h181
 refine ZM _ rfl <| Zd <| Zb <| JLr (Zh Zu rfl (At.bx 0 rfl) (ZZ ..) <| JLr (Ze 5 (vs := pkT 8 ((ivl (r156 9))) ((sml (r156 4))) w (.slice none 0 0)) (l := pkT 8 ((ivl (r156 9))) ((sml (r156 4))) w (.slice none 0 0)) Zu rfl rfl rfl rfl rfl (ZI how.one rfl) (Z0 ..) <| Za <| Zl <| ⟨.agg ⟨pkT 8 ((ivl (r156 9))) ((sml (r156 4))) w (.slice none 0 0)⟩, [([(bM, .cells ⟨[.pointer (some ⟨bS, 0, none⟩), .int .i64 lw]⟩ 169 (0, 0))]) ++ ([(bS, .cells ⟨[v, .int .i64 aw, .int .u64 sw]⟩ 128 (0, 0))]), k1 ++ k2], Ret.one rfl (RV.cell Zu rfl (At.bx 5 rfl) (ZZ ..)), (Sub.join (Sd (Sub.cons 2 rfl (Sub.cons 2 rfl (Sub.join (Sk (Sk Sub.nil))))))), ?_⟩))
 exact ⟨.mk 8 ((ivl (r156 9))) ((sml (r156 4))) ts [], _, _, _, _, _, rfl, rfl, OT_row (by unfold inI; omega) (by unfold inI; omega) how hopw (by omega), ⟨nErr_con (by omega) (by omega) (by omega) hpe, by simp only [eVa, eNu, sizeT, sizeTs, sizeCs]; omega⟩, by omega, by omega⟩
end Go.Proofs.YtmophpgiaiemhaaGreat.Hs
/-! Walks, printed by a program of this session's own (gen.py). -/
namespace Go.Proofs.YtmophpgiaiemhaaGreat.Hs
open Go Go.Proofs
set_option maxRecDepth 100000
set_option linter.unusedVariables false
set_option linter.unusedSimpArgs false
attribute [local irreducible] JL J CT wlo
theorem cloneB_ct (v : Value) (l : List Int) (H : Heap) (hl : Hs.rdS RB 1 H v l) (hz : l.length ≤ 1000) : CT Tryz.prog 76 ⟨[v]⟩ [] H (fun r N => ∃ k, N = [k] ∧ Own 5 1 r (byts l) k) := by
 refine Zo Tryz.func76 rfl rfl <| Zd <| Zb <| JLa (.slice none 0 0) <| Za <| Zd <| Zd <| Zb <| JLm v ?_
 obtain ⟨a1, cap1, hv1⟩ := hl.sl
 have hle1 := hl.le
 refine JLq (.bool (a1.isNone)) (Pu.eqlNil Tryz.runUnderlying61 hv1 rfl) <| Za <| Zi (b := a1.isNone) rfl (fun h2 => ?_) (fun h2 => ?_)
 ·refine Zd <| Zb <| JLa (.slice none 0 0) <| Za <| Zl <| ⟨.slice none 0 0, [[]], Ret.one rfl (RV.tmp rfl), (Sub.emp Sub.nil), ?_⟩
  obtain rfl : l = [] := rd_none hl hv1 h2
  exact ⟨_, rfl, Own.nil⟩
 refine Zp <| Zd <| Zb <| JLr (Zr (vs := []) [] Tryz.runUnderlying61 el5 rfl rfl (by intro e he; cases he) rfl (by decide) fun b3 k3 ho3 hk3 => JLm v <| JLr (ZH (i := 0) (n := l.length) (es' := byts l) Tryz.runUnderlying61 Tryz.runUnderlying61 (Or.inl rfl) el5 rfl rfl rfl ho3 (fun F w m => byts_src hl w _ m) (byts_len _) (byts_len1 _) (byts_ok _) (by decide) (by simp; omega) fun v4 k4 ho4 => JLa v4 <| Za <| Zl <| ⟨v4, [k4], Ret.one rfl (RV.tmp rfl), (Sk Sub.nil), ?_⟩))
 exact ⟨_, rfl, ho4⟩
theorem of_ct (v : Value) (l : List Int) (H : Heap) (hb : bytesR H v l) (hv : Hs.rdS RB 1 H v l) : CT Tryz.prog 23 ⟨[v]⟩ [] H (fun r N => ∃ bS u k s l', r = .pointer (some ⟨bS, 0, none⟩) ∧ N = [[(bS, .cells ⟨[u, .int .i64 0, .int .u64 s]⟩ 128 (0, 0))], k] ∧ u.oneCell' = true ∧ ∀ h, Has k h → Hs.rdS RB 1 h u l') := by
 refine Zo Tryz.func23 rfl rfl <| Zd <| Zb <| JLa ((.pointer none)) <| Za <| Zd <| Zb <| JLm v <| JLm v ?_
 obtain ⟨a1, cap1, hv1⟩ := hv.sl
 have hle1 := hv.le
 refine JLq (.int .i64 ((l.length : Int))) (Pu.lenSl Tryz.runUnderlying61 hv1) <| JLq (.int .i64 (((min l.length 300 : Nat) : Int))) (Pu.min2 rfl rfl (by split <;> omega)) <| JLr (Runs_sliceTo (n := min l.length 300) hb (by omega) Tryz.runUnderlying61 Tryz.sizeOf5 rfl rfl fun u2 hu2 => ?_)
 have hr2 := hu2 H hv
 refine Zg rfl Tryz.call76 rfl (fun hin => cloneB_ct _ _ _ (RBs.mono (Hle.hu _ _) hr2) (by rw [List.length_take]; omega)) rfl ?_
 rintro u3 _ ⟨k3, rfl, ho3⟩
 obtain ⟨a4, cap4, hv4⟩ := ho3.sl
 refine JLq (.agg ⟨[u3, .int .i64 0, .int .u64 88172645463325252]⟩) (Pu.build (pv := [(0, u3), (2, .int .u64 88172645463325252)]) (l := [u3, .int .i64 0, .int .u64 88172645463325252]) rfl (bldSt _ hv4)) <| JLr (Zt (l := [u3, .int .i64 0, .int .u64 88172645463325252]) rfl rfl fun b5 => JLa (.pointer (some ⟨b5, 0, none⟩)) <| Za <| Zl <| ⟨.pointer (some ⟨b5, 0, none⟩), [[(b5, .cells ⟨[u3, .int .i64 0, .int .u64 88172645463325252]⟩ 128 (0, 0))], k3], Ret.one rfl (RV.tmp rfl), (Sk (Sk Sub.nil)), ?_⟩)
 exact ⟨_, _, _, _, l.take (min l.length 300), rfl, rfl, ho3.one, fun h hh => own_byts ho3 (by rw [List.length_take]; omega) hh⟩
end Go.Proofs.YtmophpgiaiemhaaGreat.Hs
/-! Walks, printed by a program of this session's own (gen.py). -/
namespace Go.Proofs.YtmophpgiaiemhaaGreat.Hs
open Go Go.Proofs
set_option maxRecDepth 100000
set_option linter.unusedVariables false
set_option linter.unusedSimpArgs false
attribute [local irreducible] JL J CT wlo
theorem scopedS_ct (bS : Nat) (v : Value) (l : List Int) (a s : Int) (H : Heap) (hv : Hs.rdS RB 1 H v l) (ha0 : 0 ≤ a) (ha1 : a ≤ 2000000000) (d m z : Int) (hz0 : 1 ≤ z) (hz1 : z ≤ 60) (ha2 : a + 400 * z ≤ 1000000) (hd0 : 0 ≤ d) (hd1 : d + 10 * z ≤ 10000) (hm0 : 0 ≤ m) (hm1 : m ≤ 8) : CT Tryz.prog 77 ⟨[.pointer (some ⟨bS, 0, none⟩), .int .i64 d, .int .i64 m, .int .i64 z]⟩ [[(bS, .cells ⟨[v, .int .i64 a, .int .u64 s]⟩ 128 (0, 0))]] H (fun r N => ∃ t cs k a' s', r = .agg ⟨cs⟩ ∧ N = [[(bS, .cells ⟨[v, .int .i64 (a'), .int .u64 (s')]⟩ 128 (0, 0))], k] ∧ OT t cs k ∧ (ZR d m 0 t = 0 ∧ (sizeT t : Int) ≤ 80 * z) ∧ (a ≤ a' ∧ a' ≤ a + 400 * z)) := by
 refine Zo Tryz.func77 rfl rfl <| Zd <| Zb <| JLr (Zj (l := pkT 0 0 zS (.slice none 0 0) (.slice none 0 0)) Tryz.zeroValue27 rfl fun b1 => Za <| Zd <| Zb <| JLm (.pointer (some ⟨bS, 0, none⟩)) <| JLm (.int .i64 z) <| JLq (.agg ⟨[.pointer (some ⟨bS, 0, none⟩), .int .i64 z]⟩) (Pu.build (pv := [(0, .pointer (some ⟨bS, 0, none⟩)), (1, .int .i64 z)]) (l := [.pointer (some ⟨bS, 0, none⟩), .int .i64 z]) rfl (bldMk _ _)) <| JLr (Zt (l := [.pointer (some ⟨bS, 0, none⟩), .int .i64 z]) rfl rfl fun b2 => JLa (.pointer (some ⟨b2, 0, none⟩)) <| Za ?_))
 refine Zd <| Zb <| JLm (.pointer (some ⟨b2, 0, none⟩)) <| JLm (.int .i64 d) <| JLm (.int .i64 m) <| Zq (M' := [([(b2, .cells ⟨[.pointer (some ⟨bS, 0, none⟩), .int .i64 z]⟩ 169 (0, 0))]) ++ ([(bS, .cells ⟨[v, .int .i64 a, .int .u64 s]⟩ 128 (0, 0))]), [(b1, .cells ⟨pkT 0 0 zS (.slice none 0 0) (.slice none 0 0)⟩ 27 (0, 0))]]) (Sub.join (Sk (Sub.cons 1 rfl (Sk Sub.nil)))) <| Zw 0 rfl Tryz.call124 rfl rfl (fun hin => scoped_ct _ _ _ _ _ _ _ _ _ _ _ rfl (RBs.mono (Hle.hu _ _) hv) (by omega) (by omega) (by omega) (by omega) (by omega) (by omega) (by omega) (by omega)) rfl ?_
 rintro _ _ ⟨t3, cs3, k3, l3, a3, s3, rfl, rfl, hO3, ⟨hn3, hz3⟩, hl3, ha3⟩
 refine Zq (M' := [[(b2, .cells ⟨[.pointer (some ⟨bS, 0, none⟩), .int .i64 l3]⟩ 169 (0, 0))], [(bS, .cells ⟨[v, .int .i64 a3, .int .u64 s3]⟩ 128 (0, 0))], k3, [(b1, .cells ⟨pkT 0 0 zS (.slice none 0 0) (.slice none 0 0)⟩ 27 (0, 0))]]) (Sub.flat Sub.refl (by simp)) <| JLr (Ze 3 (vs := cs3) (l := cs3) Zu rfl rfl rfl rfl hO3.len hO3.ok (ZL (n := 36) rfl hO3.len) <| Za <| Zl <| ⟨.agg ⟨cs3⟩, [[(bS, .cells ⟨[v, .int .i64 a3, .int .u64 s3]⟩ 128 (0, 0))], k3], Ret.one rfl (RV.cell Zu rfl (At.bx 3 rfl) (Zx hO3.len)), (Sd (Sk (Sk Sub.nil))), ?_⟩)
 exact ⟨_, _, _, _, _, rfl, rfl, hO3, ⟨hn3, by omega⟩, by omega⟩
theorem drawn_ct (bS : Nat) (v : Value) (l : List Int) (a s : Int) (H : Heap) (hv : Hs.rdS RB 1 H v l) (ha0 : 0 ≤ a) (ha1 : a ≤ 2000000000) (d z : Int) (hz0 : 1 ≤ z) (hz1 : z ≤ 60) (ha2 : a + 400 * z ≤ 1000000) (hd0 : 0 ≤ d) (hd1 : d + 10 * z ≤ 10000) : CT Tryz.prog 24 ⟨[.pointer (some ⟨bS, 0, none⟩), .int .i64 d, .int .i64 z]⟩ [[(bS, .cells ⟨[v, .int .i64 a, .int .u64 s]⟩ 128 (0, 0))]] H (fun r N => ∃ t cs k a' s', r = .tuple ⟨[.agg ⟨cs⟩, .bool true]⟩ ∧ N = [[(bS, .cells ⟨[v, .int .i64 (a'), .int .u64 (s')]⟩ 128 (0, 0))], k] ∧ OT t cs k ∧ Z2 d 2 t = 0 ∧ (a ≤ a' ∧ a' ≤ a + 400 * z)) := by
 refine Zo Tryz.func24 rfl rfl <| Zd <| Zb <| JLr (Zj (l := pkT 0 0 zS (.slice none 0 0) (.slice none 0 0)) Tryz.zeroValue27 rfl fun b1 => JLa (.bool false) <| Za <| Zd <| Zb <| JLm (.pointer (some ⟨bS, 0, none⟩)) <| JLm (.int .i64 d) <| JLm (.int .i64 z) <| Zw 1 rfl Tryz.call77 rfl rfl (fun hin => scopedS_ct _ _ _ _ _ _ (RBs.mono (Hle.hu _ _) hv) (by omega) (by omega) _ _ _ (by omega) (by omega) (by omega) (by omega) (by omega) (by omega) (by omega)) rfl ?_)
 rintro _ _ ⟨t2, cs2, k2, a2, s2, rfl, rfl, hO2, hg2, ha2⟩
 refine JLr (Zj (l := pkT 0 0 zS (.slice none 0 0) (.slice none 0 0)) Tryz.zeroValue27 rfl fun b3 => JLr (Ze 0 (vs := cs2) (l := cs2) Zu rfl rfl rfl rfl hO2.len hO2.ok (ZL (n := 36) rfl hO2.len) <| Za <| Zd <| Zd <| Zb <| JLr (Zh Zu rfl (At.bx 0 rfl) (Zx hO2.len) <| JLm (.int .i64 d) <| Zg rfl Tryz.call29 rfl (fun hin => check_ct _ _ _ _ _ (hO2.rd (hin 2 _ rfl))) rfl ?_)))
 rintro _ _ ⟨rfl, rfl⟩
 refine JLq (.bool (decide (ZT d 2 t2 = 11))) (Pu.eql rfl rfl) <| Za <| Zi (b := decide (ZT d 2 t2 = 11)) rfl (fun h4 => ?_) (fun h4 => ?_)
 ·replace h4 := dt h4
  refine Zb <| Zg rfl Tryz.call42 rfl (fun hin => nu_ct _ _ (by unfold inI; omega)) rfl ?_
  rintro _ _ ⟨cs5, k5, rfl, rfl, hO5⟩
  refine JLr (Ze 1 (vs := cs5) (l := cs5) Zu rfl rfl rfl rfl hO5.len hO5.ok (ZL (n := 36) hO2.len hO5.len) <| Za <| Zd <| Ya mixed #[0, 0, 0, 6, 14, 15, 63] 6 5 4 rfl (by kernel_rfl) (fun i r6 N6 => match i with | 0 => (r6 0) = .agg ⟨cs5⟩ | 1 => (r6 1) = .agg ⟨cs5⟩ | 2 => (r6 2) = .int .i64 d | 3 => (r6 3) = .int .i64 (ZT d 2 (eNu 1)) | 4 => (r6 4) = .bool (decide (ZT d 2 (eNu 1) = 0)) | 5 => (N6 5) = [(b1, .cells ⟨cs5⟩ 27 (0, 0))] | _ => True) ⟨?_, ?_, ?_, ?_, ?_, ?_, trivial⟩ ?_)
  ·intro ρ r6 N6 B hB hBa hp hr hr0
   obtain ⟨ρ7, rfl⟩ := Zc (uc (show ρ 8 = .pointer (some ⟨b3, 0, none⟩) from hr0 8 (by kernel_rfl)) un)
   refine JLr (Zh Zu rfl (At.bx 7 (Zn ((hB 1 (by decide)).trans rfl))) (Zx hO5.len) <| Za ?_)
   exact ⟨.agg ⟨cs5⟩, [], rfl, (Sub.emp Sub.refl), rfl⟩
  ·intro ρ r6 N6 B hB hBa hp hr hr0
   obtain ⟨ρ8, rfl⟩ := Zc (uc (show ρ 8 = .pointer (some ⟨b3, 0, none⟩) from hr0 8 (by kernel_rfl)) un)
   refine JLr (Zh Zu rfl (At.bx 7 (Zn ((hB 1 (by decide)).trans rfl))) (Zx hO5.len) <| Za ?_)
   exact ⟨.agg ⟨cs5⟩, [], rfl, (Sub.emp Sub.refl), rfl⟩
  ·intro ρ r6 N6 B hB hBa hp hr hr0
   obtain ⟨ρ9, rfl⟩ := Zc (uc (show ρ 1 = .int .i64 d from hr0 1 (by kernel_rfl)) un)
   refine JLm (.int .i64 d) <| Za ?_
   exact ⟨.int .i64 d, [], rfl, (Sub.emp Sub.refl), rfl⟩
  ·intro ρ r6 N6 B hB hBa hp hr hr0
   obtain ⟨ρ10, rfl⟩ := Zc (uc (show ρ 19 = .agg ⟨cs5⟩ from (hr 1 _ _ (by decide) rfl rfl rfl).trans (hp 1 (by decide) rfl)) (uc (show ρ 20 = .int .i64 d from (hr 2 _ _ (by decide) rfl rfl rfl).trans (hp 2 (by decide) rfl)) un))
   refine Zg rfl Tryz.call29 rfl (fun hin => check_ct _ _ _ _ _ (hO5.rd (hin 6 _ (Zn ((hB 0 (by decide)).trans rfl))))) rfl ?_
   rintro _ _ ⟨rfl, rfl⟩
   refine Za ?_
   exact ⟨.int .i64 (ZT d 2 (eNu 1)), [], rfl, (Sub.emp Sub.refl), rfl⟩
  ·intro ρ r6 N6 B hB hBa hp hr hr0
   obtain ⟨ρ11, rfl⟩ := Zc (uc (show ρ 21 = .int .i64 (ZT d 2 (eNu 1)) from (hr 3 _ _ (by decide) rfl rfl rfl).trans (hp 3 (by decide) rfl)) un)
   refine JLq (.bool (decide (ZT d 2 (eNu 1) = 0))) (Pu.eql rfl rfl) <| Za ?_
   exact ⟨.bool (decide (ZT d 2 (eNu 1) = 0)), [], rfl, (Sub.emp Sub.refl), rfl⟩
  ·intro ρ r6 N6 B hB hBa hp hr hr0
   obtain ⟨ρ12, rfl⟩ := Zc (uc (show ρ 6 = .pointer (some ⟨b1, 0, none⟩) from hr0 6 (by kernel_rfl)) (uc (show ρ 18 = .agg ⟨cs5⟩ from (hr 0 _ _ (by decide) rfl rfl rfl).trans (hp 0 (by decide) rfl)) un))
   obtain rfl := hBa rfl
   refine JLr (Ze 10 (vs := cs5) (l := cs5) Zu rfl rfl rfl rfl hO5.len hO5.ok (ZL (n := 36) rfl hO5.len) <| Za ?_)
   exact ⟨undef, [(b1, .cells ⟨cs5⟩ 27 (0, 0))], rfl, (Sub_setB (k := 6) (a := 5) (p := 4)), rfl⟩
  intro ρ r6 N6 hp hr hr0
  have p5 : (N6 5) = [(b1, .cells ⟨cs5⟩ 27 (0, 0))] := hp 5 (by decide)
  obtain ⟨ρ13, rfl⟩ := Zc (uc (show ρ 6 = .pointer (some ⟨b1, 0, none⟩) from hr0 6 (by kernel_rfl)) (uc (show ρ 7 = .bool false from hr0 7 (by kernel_rfl)) (uc (show ρ 22 = .bool (decide (ZT d 2 (eNu 1) = 0)) from (hr 4 _ _ (by decide) rfl rfl).trans (hp 4 (by decide))) un)))
  have p6_5 := p5
  clear hp hr hr0 p5
  refine Zq (M' := [(N6 0), (N6 1), (N6 2), (N6 3), (N6 4), [], k5, [(b3, .cells ⟨cs5⟩ 27 (0, 0))], [(bS, .cells ⟨[v, .int .i64 a2, .int .u64 s2]⟩ 128 (0, 0))], k2, (N6 5)]) Sub.refl <| Zq (M' := [k5, [(b3, .cells ⟨cs5⟩ 27 (0, 0))], [(bS, .cells ⟨[v, .int .i64 a2, .int .u64 s2]⟩ 128 (0, 0))], k2, [(b1, .cells ⟨cs5⟩ 27 (0, 0))]]) (Sd (Sd (Sd (Sd (Sd (Sd (Sk (Sk (Sk (Sk (Se p6_5 Sub.nil))))))))))) ?_
  show JL _ _ _ [_] _ _ _
  refine JLa (.bool (decide (ZT d 2 (eNu 1) = 0))) <| Za <| Zl <| ⟨.tuple ⟨[.agg ⟨cs5⟩, .bool (decide (ZT d 2 (eNu 1) = 0))]⟩, [[(bS, .cells ⟨[v, .int .i64 a2, .int .u64 s2]⟩ 128 (0, 0))], k5], Ret.two rfl (RV.cell Zu rfl (At.bx 4 rfl) (Zx hO5.len)) (RV.tmp rfl), (Sub.cons 2 rfl (Sk Sub.nil)), ?_⟩
  exact ⟨_, _, _, _, _, by rw [decide_eq_true drawn_nu], rfl, hO5, by rw [← check_eq]; exact drawn_nu, by omega⟩
 replace h4 := df h4
 refine Zp <| Zd <| Ya mixed #[0, 0, 0, 6, 14, 15, 63] 6 5 3 rfl (by kernel_rfl) (fun i r14 N14 => match i with | 0 => (r14 0) = .agg ⟨cs2⟩ | 1 => (r14 1) = .agg ⟨cs2⟩ | 2 => (r14 2) = .int .i64 d | 3 => (r14 3) = .int .i64 (ZT d 2 t2) | 4 => (r14 4) = .bool (decide (ZT d 2 t2 = 0)) | 5 => (N14 5) = [(b1, .cells ⟨cs2⟩ 27 (0, 0))] | _ => True) ⟨?_, ?_, ?_, ?_, ?_, ?_, trivial⟩ ?_
 ·intro ρ r14 N14 B hB hBa hp hr hr0
  obtain ⟨ρ15, rfl⟩ := Zc (uc (show ρ 8 = .pointer (some ⟨b3, 0, none⟩) from hr0 8 (by kernel_rfl)) un)
  refine JLr (Zh Zu rfl (At.bx 6 (Zn ((hB 0 (by decide)).trans rfl))) (Zx hO2.len) <| Za ?_)
  exact ⟨.agg ⟨cs2⟩, [], rfl, (Sub.emp Sub.refl), rfl⟩
 ·intro ρ r14 N14 B hB hBa hp hr hr0
  obtain ⟨ρ16, rfl⟩ := Zc (uc (show ρ 8 = .pointer (some ⟨b3, 0, none⟩) from hr0 8 (by kernel_rfl)) un)
  refine JLr (Zh Zu rfl (At.bx 6 (Zn ((hB 0 (by decide)).trans rfl))) (Zx hO2.len) <| Za ?_)
  exact ⟨.agg ⟨cs2⟩, [], rfl, (Sub.emp Sub.refl), rfl⟩
 ·intro ρ r14 N14 B hB hBa hp hr hr0
  obtain ⟨ρ17, rfl⟩ := Zc (uc (show ρ 1 = .int .i64 d from hr0 1 (by kernel_rfl)) un)
  refine JLm (.int .i64 d) <| Za ?_
  exact ⟨.int .i64 d, [], rfl, (Sub.emp Sub.refl), rfl⟩
 ·intro ρ r14 N14 B hB hBa hp hr hr0
  obtain ⟨ρ18, rfl⟩ := Zc (uc (show ρ 19 = .agg ⟨cs2⟩ from (hr 1 _ _ (by decide) rfl rfl rfl).trans (hp 1 (by decide) rfl)) (uc (show ρ 20 = .int .i64 d from (hr 2 _ _ (by decide) rfl rfl rfl).trans (hp 2 (by decide) rfl)) un))
  refine Zg rfl Tryz.call29 rfl (fun hin => check_ct _ _ _ _ _ (hO2.rd (hin 8 _ (Zn ((hB 2 (by decide)).trans rfl))))) rfl ?_
  rintro _ _ ⟨rfl, rfl⟩
  refine Za ?_
  exact ⟨.int .i64 (ZT d 2 t2), [], rfl, (Sub.emp Sub.refl), rfl⟩
 ·intro ρ r14 N14 B hB hBa hp hr hr0
  obtain ⟨ρ19, rfl⟩ := Zc (uc (show ρ 21 = .int .i64 (ZT d 2 t2) from (hr 3 _ _ (by decide) rfl rfl rfl).trans (hp 3 (by decide) rfl)) un)
  refine JLq (.bool (decide (ZT d 2 t2 = 0))) (Pu.eql rfl rfl) <| Za ?_
  exact ⟨.bool (decide (ZT d 2 t2 = 0)), [], rfl, (Sub.emp Sub.refl), rfl⟩
 ·intro ρ r14 N14 B hB hBa hp hr hr0
  obtain ⟨ρ20, rfl⟩ := Zc (uc (show ρ 6 = .pointer (some ⟨b1, 0, none⟩) from hr0 6 (by kernel_rfl)) (uc (show ρ 18 = .agg ⟨cs2⟩ from (hr 0 _ _ (by decide) rfl rfl rfl).trans (hp 0 (by decide) rfl)) un))
  obtain rfl := hBa rfl
  refine JLr (Ze 9 (vs := cs2) (l := cs2) Zu rfl rfl rfl rfl hO2.len hO2.ok (ZL (n := 36) rfl hO2.len) <| Za ?_)
  exact ⟨undef, [(b1, .cells ⟨cs2⟩ 27 (0, 0))], rfl, (Sub_setB (k := 6) (a := 5) (p := 3)), rfl⟩
 intro ρ r14 N14 hp hr hr0
 have p5 : (N14 5) = [(b1, .cells ⟨cs2⟩ 27 (0, 0))] := hp 5 (by decide)
 obtain ⟨ρ21, rfl⟩ := Zc (uc (show ρ 6 = .pointer (some ⟨b1, 0, none⟩) from hr0 6 (by kernel_rfl)) (uc (show ρ 7 = .bool false from hr0 7 (by kernel_rfl)) (uc (show ρ 22 = .bool (decide (ZT d 2 t2 = 0)) from (hr 4 _ _ (by decide) rfl rfl).trans (hp 4 (by decide))) un)))
 have p14_5 := p5
 clear hp hr hr0 p5
 refine Zq (M' := [(N14 0), (N14 1), (N14 2), (N14 3), (N14 4), [], [(b3, .cells ⟨cs2⟩ 27 (0, 0))], [(bS, .cells ⟨[v, .int .i64 a2, .int .u64 s2]⟩ 128 (0, 0))], k2, (N14 5)]) Sub.refl <| Zq (M' := [[(b3, .cells ⟨cs2⟩ 27 (0, 0))], [(bS, .cells ⟨[v, .int .i64 a2, .int .u64 s2]⟩ 128 (0, 0))], k2, [(b1, .cells ⟨cs2⟩ 27 (0, 0))]]) (Sd (Sd (Sd (Sd (Sd (Sd (Sk (Sk (Sk (Se p14_5 Sub.nil)))))))))) ?_
 show JL _ _ _ [_] _ _ _
 refine JLa (.bool (decide (ZT d 2 t2 = 0))) <| Za <| Zl <| ⟨.tuple ⟨[.agg ⟨cs2⟩, .bool (decide (ZT d 2 t2 = 0))]⟩, [[(bS, .cells ⟨[v, .int .i64 a2, .int .u64 s2]⟩ 128 (0, 0))], k2], Ret.two rfl (RV.cell Zu rfl (At.bx 3 rfl) (Zx hO2.len)) (RV.tmp rfl), (Sd (Sk (Sk Sub.nil))), ?_⟩
 exact ⟨_, _, _, _, _, by rw [decide_eq_true (drawn_ok hg2.1 h4)], rfl, hO2, by rw [← check_eq]; exact (drawn_ok hg2.1 h4), by omega⟩
end Go.Proofs.YtmophpgiaiemhaaGreat.Hs
/-! Walks, printed by a program of this session's own (gen.py). -/
namespace Go.Proofs.YtmophpgiaiemhaaGreat.Hs
open Go Go.Proofs
set_option maxRecDepth 100000
set_option linter.unusedVariables false
set_option linter.unusedSimpArgs false
attribute [local irreducible] JL J CT wlo
set_option maxHeartbeats 8000000 in
theorem awake_ct (H : Heap) : CT Tryz.prog 9 ⟨[]⟩ [] H (fun v N => v = .bool true ∧ N = []) := by
 refine Zo Tryz.func9 rfl rfl <| Zd <| Zb <| JLa (.bool false) <| Za <| Zd <| Zi (b := false) rfl (fun h => absurd h (by simp)) (fun _ => Zp <| Zd <| Zb <| Zg rfl Tryz.call48 rfl (fun hin => va_ct _ _ (by unfold inI; omega)) rfl ?_)
 rintro _ _ ⟨cs1, k1, rfl, rfl, hO1⟩
 refine Zg rfl Tryz.call48 rfl (fun hin => va_ct _ _ (by unfold inI; omega)) rfl ?_
 rintro _ _ ⟨cs2, k2, rfl, rfl, hO2⟩
 refine Zg rfl Tryz.call47 rfl (fun hin => ap_ct _ _ hO1.len hO1.ok _ hO2.len hO2.ok) rfl ?_
 rintro _ _ ⟨cs3, k3, rfl, rfl, hC3⟩
 replace hC3 : (cs3.length = 36 ∧ okc cs3 ∧ ∀ h, Has k3 h → RT h cs1 (eVa 0) → RT h cs2 (eVa 1) → RT h cs3 (eAp (eVa 0) (eVa 1))) := ⟨hC3.1, hC3.2.1, hC3.2.2 (eVa 0) (eVa 1)⟩
 refine Zg rfl Tryz.call46 rfl (fun hin => la_ct _ _ hC3.1 hC3.2.1) rfl ?_
 rintro _ _ ⟨cs4, k4, rfl, rfl, hC4⟩
 replace hC4 : (cs4.length = 36 ∧ okc cs4 ∧ ∀ h, Has k4 h → RT h cs3 (eAp (eVa 0) (eVa 1)) → RT h cs4 (eLa (eAp (eVa 0) (eVa 1)))) := ⟨hC4.1, hC4.2.1, hC4.2.2 (eAp (eVa 0) (eVa 1))⟩
 refine JLr (Zj (l := pkT 0 0 zS (.slice none 0 0) (.slice none 0 0)) Tryz.zeroValue27 rfl fun b5 => JLr (Ze 0 (vs := cs4) (l := cs4) Zu rfl rfl rfl rfl hC4.1 hC4.2.1 (ZL (n := 36) rfl hC4.1) <| Za <| Zd <| Zb <| JLr (Zh Zu rfl (At.bx 0 rfl) (Zx hC4.1) <| Zg rfl Tryz.call49 rfl (fun hin => freeE_ct eLam _ _ (hC4.2.2 _ (hin 1 _ rfl) (hC3.2.2 _ (hin 2 _ rfl) (hO1.rd (hin 4 _ rfl)) (hO2.rd (hin 3 _ rfl))))) rfl ?_)))
 rintro _ _ ⟨u6, e6, k6, rfl, rfl, ho6, he6⟩
 rw [free_lam] at ho6 he6
 replace ho6 : Own 3 1 u6 (ints ([0])) k6 := ho6
 obtain rfl : e6 = 0 := he6
 refine JLm (.tuple ⟨[u6, .int .i64 0]⟩) <| JLq u6 (Pu.extract rfl rfl) <| JLq (.int .i64 0) (Pu.extract rfl rfl) <| JLa u6 <| JLa (.int .i64 0) <| Za <| Zd <| J_drawC mixed #[0, 0, 3, 7, 15, 15, 0, 95, 255] 8 7 6 rfl (by kernel_rfl) rfl rfl (by kernel_rfl) (by kernel_rfl) (fun i r7 N7 => match i with | 0 => (r7 0) = .agg ⟨cs4⟩ | 1 => (r7 1) = .agg ⟨(cel (r7 1))⟩ ∧ OT (eNu 5) (cel (r7 1)) (N7 1) | 2 => (r7 2) = .tuple ⟨[.agg ⟨(Zz (r7 2))⟩, .int .i64 0]⟩ ∧ OT (eLa (eAp (eVa 0) (eNu 5))) (Zz (r7 2)) (N7 2) | 3 => (r7 3) = .tuple ⟨[.agg ⟨(Zz (r7 2))⟩, .int .i64 0]⟩ | 4 => (r7 4) = .agg ⟨(Zz (r7 2))⟩ | 5 => (r7 5) = .int .i64 0 | 6 => (r7 6) = .pointer (some ⟨(ZA (r7 6)), 0, none⟩) ∧ ∃ X : List Value, X.length = 36 ∧ (N7 6) = [((ZA (r7 6)), .cells ⟨X⟩ 27 (0, 0))] | 7 => (N7 6) = [((ZA (r7 6)), .cells ⟨(Zz (r7 2))⟩ 27 (0, 0))] | _ => True) ⟨?_, ?_, ?_, ?_, ?_, ?_, ?_, ?_, trivial⟩ ?_
 ·intro ρ r7 N7 hp hr hr0
  obtain ⟨ρ8, rfl⟩ := Zc (uc (show ρ 1 = .pointer (some ⟨b5, 0, none⟩) from hr0 1 (by kernel_rfl)) un)
  refine JLr (Zh Zu rfl (At.bx 9 (Zn (j := 1) rfl)) (Zx hC4.1) <| Za ?_)
  exact ⟨.agg ⟨cs4⟩, [], rfl, (Sub.emp Sub.refl), rfl, fun h => absurd h (by decide)⟩
 ·intro ρ r7 N7 hp hr hr0
  refine Zg rfl Tryz.call42 rfl (fun hin => nu_ct _ _ (by unfold inI; omega)) rfl ?_
  rintro _ _ ⟨cs9, k9, rfl, rfl, hO9⟩
  refine Za ?_
  exact ⟨.agg ⟨cs9⟩, k9, rfl, Sub.refl, ⟨rfl, hO9⟩, fun h => absurd h (by decide)⟩
 ·intro ρ r7 N7 hp hr hr0
  have p1 : (r7 1) = .agg ⟨(cel (r7 1))⟩ ∧ OT (eNu 5) (cel (r7 1)) (N7 1) := hp 1 (by decide) rfl
  obtain ⟨ρ10, rfl⟩ := Zc (uc (show ρ 24 = .agg ⟨cs4⟩ from (hr 0 _ _ (by decide) rfl rfl rfl).trans (hp 0 (by decide) rfl)) (uc (show ρ 25 = .agg ⟨(cel (r7 1))⟩ from (hr 1 _ _ (by decide) rfl rfl rfl).trans p1.1) un))
  refine Zg rfl Tryz.call27 rfl (fun hin => ble_at (substP_ct eLam 0 (eNu 5) _ _ _ (hC4.2.2 _ (hin 10 _ (Zn (j := 2) rfl)) (hC3.2.2 _ (hin 11 _ (Zn (j := 3) rfl)) (hO1.rd (hin 13 _ (Zn (j := 5) rfl))) (hO2.rd (hin 12 _ (Zn (j := 4) rfl))))) (p1.2.rd (hin 1 _ (ZQ rfl rfl)))) five_lam) rfl ?_
  rintro _ _ ⟨cs11, k11, rfl, rfl, hO11⟩
  refine Za ?_
  exact ⟨.tuple ⟨[.agg ⟨cs11⟩, .int .i64 0]⟩, k11, rfl, Sub.refl, ⟨rfl, hO11⟩, fun h => absurd h (by decide)⟩
 ·intro ρ r7 N7 hp hr hr0
  obtain ⟨ρ12, rfl⟩ := Zc (uc (show ρ 26 = .tuple ⟨[.agg ⟨(Zz (r7 2))⟩, .int .i64 0]⟩ from (hr 2 _ _ (by decide) rfl rfl rfl).trans (hp 2 (by decide) rfl).1) un)
  refine JLm (.tuple ⟨[.agg ⟨(Zz (r7 2))⟩, .int .i64 0]⟩) <| Za ?_
  exact ⟨.tuple ⟨[.agg ⟨(Zz (r7 2))⟩, .int .i64 0]⟩, [], rfl, (Sub.emp Sub.refl), rfl, fun h => absurd h (by decide)⟩
 ·intro ρ r7 N7 hp hr hr0
  obtain ⟨ρ13, rfl⟩ := Zc (uc (show ρ 23 = .tuple ⟨[.agg ⟨(Zz (r7 2))⟩, .int .i64 0]⟩ from (hr 3 _ _ (by decide) rfl rfl rfl).trans (hp 3 (by decide) rfl)) un)
  refine JLq (.agg ⟨(Zz (r7 2))⟩) (Pu.extract rfl rfl) <| Za ?_
  exact ⟨.agg ⟨(Zz (r7 2))⟩, [], rfl, (Sub.emp Sub.refl), rfl, fun h => absurd h (by decide)⟩
 ·intro ρ r7 N7 hp hr hr0
  obtain ⟨ρ14, rfl⟩ := Zc (uc (show ρ 23 = .tuple ⟨[.agg ⟨(Zz (r7 2))⟩, .int .i64 0]⟩ from (hr 3 _ _ (by decide) rfl rfl rfl).trans (hp 3 (by decide) rfl)) un)
  refine JLq (.int .i64 0) (Pu.extract rfl rfl) <| Za ?_
  exact ⟨.int .i64 0, [], rfl, (Sub.emp Sub.refl), rfl, fun h => absurd h (by decide)⟩
 ·intro ρ r7 N7 hp hr hr0
  refine JLr (Zj (l := pkT 0 0 zS (.slice none 0 0) (.slice none 0 0)) Tryz.zeroValue27 rfl fun b15 => Za ?_)
  exact ⟨.pointer (some ⟨b15, 0, none⟩), [(b15, .cells ⟨pkT 0 0 zS (.slice none 0 0) (.slice none 0 0)⟩ 27 (0, 0))], rfl, Sub.refl, ⟨rfl, _, rfl, rfl⟩, fun h => absurd h (by decide)⟩
 ·intro ρ r7 N7 hp hr hr0
  have p2 : (r7 2) = .tuple ⟨[.agg ⟨(Zz (r7 2))⟩, .int .i64 0]⟩ ∧ OT (eLa (eAp (eVa 0) (eNu 5))) (Zz (r7 2)) (N7 2) := hp 2 (by decide) rfl
  have p6 : (r7 6) = .pointer (some ⟨(ZA (r7 6)), 0, none⟩) ∧ ∃ X : List Value, X.length = 36 ∧ (N7 6) = [((ZA (r7 6)), .cells ⟨X⟩ 27 (0, 0))] := hp 6 (by decide) rfl
  obtain ⟨ρ16, rfl⟩ := Zc (uc (show ρ 4 = .pointer (some ⟨(ZA (r7 6)), 0, none⟩) from (hr 6 _ _ (by decide) rfl rfl rfl).trans p6.1) (uc (show ρ 27 = .agg ⟨(Zz (r7 2))⟩ from (hr 4 _ _ (by decide) rfl rfl rfl).trans (hp 4 (by decide) rfl)) un))
  obtain ⟨hrC, X, hX, hNC⟩ := p6
  refine JLr (Ze 6 (vs := (Zz (r7 2))) (l := (Zz (r7 2))) Zu rfl ((ZQ rfl rfl).trans (congrArg some hNC)) rfl rfl p2.2.len p2.2.ok (ZL (n := 36) hX p2.2.len) <| Za ?_)
  exact ⟨undef, [((ZA (r7 6)), .cells ⟨(Zz (r7 2))⟩ 27 (0, 0))], rfl, Sub.refl, rfl, fun _ => ⟨hrC, _, p2.2.len, rfl⟩⟩
 intro ρ r7 N7 hNa hp hr hr0
 have p1 : (r7 1) = .agg ⟨(cel (r7 1))⟩ ∧ OT (eNu 5) (cel (r7 1)) (N7 1) := hp 1 (by decide)
 have p2 : (r7 2) = .tuple ⟨[.agg ⟨(Zz (r7 2))⟩, .int .i64 0]⟩ ∧ OT (eLa (eAp (eVa 0) (eNu 5))) (Zz (r7 2)) (N7 2) := hp 2 (by decide)
 have p6 : (r7 6) = .pointer (some ⟨(ZA (r7 6)), 0, none⟩) ∧ ∃ X : List Value, X.length = 36 ∧ (N7 6) = [((ZA (r7 6)), .cells ⟨X⟩ 27 (0, 0))] := hp 6 (by decide)
 have p7 : (N7 6) = [((ZA (r7 6)), .cells ⟨(Zz (r7 2))⟩ 27 (0, 0))] := hp 7 (by decide)
 obtain ⟨ρ17, rfl⟩ := Zc (uc (show ρ 0 = .bool false from hr0 0 (by kernel_rfl)) (uc (show ρ 1 = .pointer (some ⟨b5, 0, none⟩) from hr0 1 (by kernel_rfl)) (uc (show ρ 2 = u6 from hr0 2 (by kernel_rfl)) (uc (show ρ 3 = .int .i64 0 from hr0 3 (by kernel_rfl)) (uc (show ρ 4 = .pointer (some ⟨(ZA (r7 6)), 0, none⟩) from (hr 6 _ _ (by decide) rfl rfl).trans p6.1) (uc (show ρ 28 = .int .i64 0 from (hr 5 _ _ (by decide) rfl rfl).trans (hp 5 (by decide))) un))))))
 have p7_1 := p1; have p7_2 := p2; have p7_6 := p6; have p7_7 := p7
 clear hp hr hr0 p1 p2 p6 p7
 refine Zq (M' := [(N7 0), (N7 1), (N7 2), (N7 3), (N7 4), (N7 5), (N7 6), (N7 7), k6, [(b5, .cells ⟨cs4⟩ 27 (0, 0))], k4, k3, k2, k1]) Sub.refl <| Zq (M' := [(N7 1), (N7 2), [((ZA (r7 6)), .cells ⟨(Zz (r7 2))⟩ 27 (0, 0))], k6, [(b5, .cells ⟨cs4⟩ 27 (0, 0))], k4, k3, k2, k1]) (Sd (Sk (Sk (Sd (Sd (Sd (Se p7_7 (Sd (Sk (Sk (Sk (Sk (Sk (Sk Sub.nil)))))))))))))) ?_
 show JL _ _ _ [_] _ _ _
 refine JLa (.int .i64 0) <| Za <| Zd <| J_drawC mixed #[0, 0, 3, 7, 15, 15, 0, 95, 255] 8 7 6 rfl (by kernel_rfl) rfl rfl (by kernel_rfl) (by kernel_rfl) (fun i r18 N18 => match i with | 0 => (r18 0) = .agg ⟨cs4⟩ | 1 => (r18 1) = .agg ⟨(cel (r18 1))⟩ ∧ OT (eVa 3) (cel (r18 1)) (N18 1) | 2 => (r18 2) = .tuple ⟨[.agg ⟨(Zz (r18 2))⟩, .int .i64 0]⟩ ∧ OT (eLa (eAp (eVa 0) (eVa 4))) (Zz (r18 2)) (N18 2) | 3 => (r18 3) = .tuple ⟨[.agg ⟨(Zz (r18 2))⟩, .int .i64 0]⟩ | 4 => (r18 4) = .agg ⟨(Zz (r18 2))⟩ | 5 => (r18 5) = .int .i64 0 | 6 => (r18 6) = .pointer (some ⟨(ZA (r18 6)), 0, none⟩) ∧ ∃ X : List Value, X.length = 36 ∧ (N18 6) = [((ZA (r18 6)), .cells ⟨X⟩ 27 (0, 0))] | 7 => (N18 6) = [((ZA (r18 6)), .cells ⟨(Zz (r18 2))⟩ 27 (0, 0))] | _ => True) ⟨?_, ?_, ?_, ?_, ?_, ?_, ?_, ?_, trivial⟩ ?_
 ·intro ρ r18 N18 hp hr hr0
  obtain ⟨ρ19, rfl⟩ := Zc (uc (show ρ 1 = .pointer (some ⟨b5, 0, none⟩) from hr0 1 (by kernel_rfl)) un)
  refine JLr (Zh Zu rfl (At.bx 12 (Zn (j := 4) rfl)) (Zx hC4.1) <| Za ?_)
  exact ⟨.agg ⟨cs4⟩, [], rfl, (Sub.emp Sub.refl), rfl, fun h => absurd h (by decide)⟩
 ·intro ρ r18 N18 hp hr hr0
  refine Zg rfl Tryz.call48 rfl (fun hin => va_ct _ _ (by unfold inI; omega)) rfl ?_
  rintro _ _ ⟨cs20, k20, rfl, rfl, hO20⟩
  refine Za ?_
  exact ⟨.agg ⟨cs20⟩, k20, rfl, Sub.refl, ⟨rfl, hO20⟩, fun h => absurd h (by decide)⟩
 ·intro ρ r18 N18 hp hr hr0
  have p1 : (r18 1) = .agg ⟨(cel (r18 1))⟩ ∧ OT (eVa 3) (cel (r18 1)) (N18 1) := hp 1 (by decide) rfl
  obtain ⟨ρ21, rfl⟩ := Zc (uc (show ρ 30 = .agg ⟨cs4⟩ from (hr 0 _ _ (by decide) rfl rfl rfl).trans (hp 0 (by decide) rfl)) (uc (show ρ 31 = .agg ⟨(cel (r18 1))⟩ from (hr 1 _ _ (by decide) rfl rfl rfl).trans p1.1) un))
  refine Zg rfl Tryz.call27 rfl (fun hin => ble_at (substP_ct eLam 0 (eVa 3) _ _ _ (hC4.2.2 _ (hin 13 _ (Zn (j := 5) rfl)) (hC3.2.2 _ (hin 14 _ (Zn (j := 6) rfl)) (hO1.rd (hin 16 _ (Zn (j := 8) rfl))) (hO2.rd (hin 15 _ (Zn (j := 7) rfl))))) (p1.2.rd (hin 1 _ (ZQ rfl rfl)))) three_lam) rfl ?_
  rintro _ _ ⟨cs22, k22, rfl, rfl, hO22⟩
  refine Za ?_
  exact ⟨.tuple ⟨[.agg ⟨cs22⟩, .int .i64 0]⟩, k22, rfl, Sub.refl, ⟨rfl, hO22⟩, fun h => absurd h (by decide)⟩
 ·intro ρ r18 N18 hp hr hr0
  obtain ⟨ρ23, rfl⟩ := Zc (uc (show ρ 32 = .tuple ⟨[.agg ⟨(Zz (r18 2))⟩, .int .i64 0]⟩ from (hr 2 _ _ (by decide) rfl rfl rfl).trans (hp 2 (by decide) rfl).1) un)
  refine JLm (.tuple ⟨[.agg ⟨(Zz (r18 2))⟩, .int .i64 0]⟩) <| Za ?_
  exact ⟨.tuple ⟨[.agg ⟨(Zz (r18 2))⟩, .int .i64 0]⟩, [], rfl, (Sub.emp Sub.refl), rfl, fun h => absurd h (by decide)⟩
 ·intro ρ r18 N18 hp hr hr0
  obtain ⟨ρ24, rfl⟩ := Zc (uc (show ρ 29 = .tuple ⟨[.agg ⟨(Zz (r18 2))⟩, .int .i64 0]⟩ from (hr 3 _ _ (by decide) rfl rfl rfl).trans (hp 3 (by decide) rfl)) un)
  refine JLq (.agg ⟨(Zz (r18 2))⟩) (Pu.extract rfl rfl) <| Za ?_
  exact ⟨.agg ⟨(Zz (r18 2))⟩, [], rfl, (Sub.emp Sub.refl), rfl, fun h => absurd h (by decide)⟩
 ·intro ρ r18 N18 hp hr hr0
  obtain ⟨ρ25, rfl⟩ := Zc (uc (show ρ 29 = .tuple ⟨[.agg ⟨(Zz (r18 2))⟩, .int .i64 0]⟩ from (hr 3 _ _ (by decide) rfl rfl rfl).trans (hp 3 (by decide) rfl)) un)
  refine JLq (.int .i64 0) (Pu.extract rfl rfl) <| Za ?_
  exact ⟨.int .i64 0, [], rfl, (Sub.emp Sub.refl), rfl, fun h => absurd h (by decide)⟩
 ·intro ρ r18 N18 hp hr hr0
  refine JLr (Zj (l := pkT 0 0 zS (.slice none 0 0) (.slice none 0 0)) Tryz.zeroValue27 rfl fun b26 => Za ?_)
  exact ⟨.pointer (some ⟨b26, 0, none⟩), [(b26, .cells ⟨pkT 0 0 zS (.slice none 0 0) (.slice none 0 0)⟩ 27 (0, 0))], rfl, Sub.refl, ⟨rfl, _, rfl, rfl⟩, fun h => absurd h (by decide)⟩
 ·intro ρ r18 N18 hp hr hr0
  have p2 : (r18 2) = .tuple ⟨[.agg ⟨(Zz (r18 2))⟩, .int .i64 0]⟩ ∧ OT (eLa (eAp (eVa 0) (eVa 4))) (Zz (r18 2)) (N18 2) := hp 2 (by decide) rfl
  have p6 : (r18 6) = .pointer (some ⟨(ZA (r18 6)), 0, none⟩) ∧ ∃ X : List Value, X.length = 36 ∧ (N18 6) = [((ZA (r18 6)), .cells ⟨X⟩ 27 (0, 0))] := hp 6 (by decide) rfl
  obtain ⟨ρ27, rfl⟩ := Zc (uc (show ρ 6 = .pointer (some ⟨(ZA (r18 6)), 0, none⟩) from (hr 6 _ _ (by decide) rfl rfl rfl).trans p6.1) (uc (show ρ 33 = .agg ⟨(Zz (r18 2))⟩ from (hr 4 _ _ (by decide) rfl rfl rfl).trans (hp 4 (by decide) rfl)) un))
  obtain ⟨hrC, X, hX, hNC⟩ := p6
  refine JLr (Ze 6 (vs := (Zz (r18 2))) (l := (Zz (r18 2))) Zu rfl ((ZQ rfl rfl).trans (congrArg some hNC)) rfl rfl p2.2.len p2.2.ok (ZL (n := 36) hX p2.2.len) <| Za ?_)
  exact ⟨undef, [((ZA (r18 6)), .cells ⟨(Zz (r18 2))⟩ 27 (0, 0))], rfl, Sub.refl, rfl, fun _ => ⟨hrC, _, p2.2.len, rfl⟩⟩
 intro ρ r18 N18 hNa hp hr hr0
 have p1 : (r18 1) = .agg ⟨(cel (r18 1))⟩ ∧ OT (eVa 3) (cel (r18 1)) (N18 1) := hp 1 (by decide)
 have p2 : (r18 2) = .tuple ⟨[.agg ⟨(Zz (r18 2))⟩, .int .i64 0]⟩ ∧ OT (eLa (eAp (eVa 0) (eVa 4))) (Zz (r18 2)) (N18 2) := hp 2 (by decide)
 have p6 : (r18 6) = .pointer (some ⟨(ZA (r18 6)), 0, none⟩) ∧ ∃ X : List Value, X.length = 36 ∧ (N18 6) = [((ZA (r18 6)), .cells ⟨X⟩ 27 (0, 0))] := hp 6 (by decide)
 have p7 : (N18 6) = [((ZA (r18 6)), .cells ⟨(Zz (r18 2))⟩ 27 (0, 0))] := hp 7 (by decide)
 obtain ⟨ρ28, rfl⟩ := Zc (uc (show ρ 0 = .bool false from hr0 0 (by kernel_rfl)) (uc (show ρ 1 = .pointer (some ⟨b5, 0, none⟩) from hr0 1 (by kernel_rfl)) (uc (show ρ 2 = u6 from hr0 2 (by kernel_rfl)) (uc (show ρ 3 = .int .i64 0 from hr0 3 (by kernel_rfl)) (uc (show ρ 4 = .pointer (some ⟨(ZA (r7 6)), 0, none⟩) from hr0 4 (by kernel_rfl)) (uc (show ρ 5 = .int .i64 0 from hr0 5 (by kernel_rfl)) (uc (show ρ 6 = .pointer (some ⟨(ZA (r18 6)), 0, none⟩) from (hr 6 _ _ (by decide) rfl rfl).trans p6.1) (uc (show ρ 34 = .int .i64 0 from (hr 5 _ _ (by decide) rfl rfl).trans (hp 5 (by decide))) un))))))))
 have p18_1 := p1; have p18_2 := p2; have p18_6 := p6; have p18_7 := p7
 clear hp hr hr0 p1 p2 p6 p7
 refine Zq (M' := [(N18 0), (N18 1), (N18 2), (N18 3), (N18 4), (N18 5), (N18 6), (N18 7), (N7 1), (N7 2), [((ZA (r7 6)), .cells ⟨(Zz (r7 2))⟩ 27 (0, 0))], k6, [(b5, .cells ⟨cs4⟩ 27 (0, 0))], k4, k3, k2, k1]) Sub.refl <| Zq (M' := [(N18 1), (N18 2), [((ZA (r18 6)), .cells ⟨(Zz (r18 2))⟩ 27 (0, 0))], (N7 1), (N7 2), [((ZA (r7 6)), .cells ⟨(Zz (r7 2))⟩ 27 (0, 0))], k6, [(b5, .cells ⟨cs4⟩ 27 (0, 0))], k4, k3, k2, k1]) (Sd (Sk (Sk (Sd (Sd (Sd (Se p18_7 (Sd (Sk (Sk (Sk (Sk (Sk (Sk (Sk (Sk (Sk Sub.nil))))))))))))))))) ?_
 show JL _ _ _ [_] _ _ _
 refine JLa (.int .i64 0) <| Za <| Zd <| Zb <| JLr (Zh Zu rfl (At.bx 7 rfl) (Zx hC4.1) <| Zg rfl Tryz.call50 rfl (fun hin => ble_at (shiftP_ct eLam 2 0 _ _ (hC4.2.2 _ (hin 8 _ rfl) (hC3.2.2 _ (hin 9 _ rfl) (hO1.rd (hin 11 _ rfl)) (hO2.rd (hin 10 _ rfl))))) up_lam) rfl ?_)
 rintro _ _ ⟨cs29, k29, rfl, rfl, hO29⟩
 refine JLm (.tuple ⟨[.agg ⟨cs29⟩, .int .i64 0]⟩) <| JLq (.agg ⟨cs29⟩) (Pu.extract rfl rfl) <| JLq (.int .i64 0) (Pu.extract rfl rfl) <| JLr (Zj (l := pkT 0 0 zS (.slice none 0 0) (.slice none 0 0)) Tryz.zeroValue27 rfl fun b30 => JLr (Ze 0 (vs := cs29) (l := cs29) Zu rfl rfl rfl rfl hO29.len hO29.ok (ZL (n := 36) rfl hO29.len) <| JLa (.int .i64 0) <| Za <| Zd <| Zb <| Zg rfl Tryz.call48 rfl (fun hin => va_ct _ _ (by unfold inI; omega)) rfl ?_))
 rintro _ _ ⟨cs31, k31, rfl, rfl, hO31⟩
 refine Zg rfl Tryz.call50 rfl (fun hin => ble_at (shiftP_ct (eVa 0) (-1) 0 _ _ (hO31.rd (hin 0 _ rfl))) down_va) rfl ?_
 rintro _ _ ⟨cs32, k32, rfl, rfl, hO32⟩
 refine JLm (.tuple ⟨[.agg ⟨cs32⟩, .int .i64 1]⟩) <| JLq (.agg ⟨cs32⟩) (Pu.extract rfl rfl) <| JLq (.int .i64 1) (Pu.extract rfl rfl) <| JLr (Zj (l := pkT 0 0 zS (.slice none 0 0) (.slice none 0 0)) Tryz.zeroValue27 rfl fun b33 => JLr (Ze 0 (vs := cs32) (l := cs32) Zu rfl rfl rfl rfl hO32.len hO32.ok (ZL (n := 36) rfl hO32.len) <| JLa (.int .i64 1) <| Za <| Zd <| Zb <| Zg rfl Tryz.call48 rfl (fun hin => va_ct _ _ (by unfold inI; omega)) rfl ?_))
 rintro _ _ ⟨cs34, k34, rfl, rfl, hO34⟩
 refine Zg rfl Tryz.call46 rfl (fun hin => la_ct _ _ hO34.len hO34.ok) rfl ?_
 rintro _ _ ⟨cs35, k35, rfl, rfl, hC35⟩
 replace hC35 : (cs35.length = 36 ∧ okc cs35 ∧ ∀ h, Has k35 h → RT h cs34 (eVa 1) → RT h cs35 (eLa (eVa 1))) := ⟨hC35.1, hC35.2.1, hC35.2.2 (eVa 1)⟩
 refine Zg rfl Tryz.call46 rfl (fun hin => la_ct _ _ hC35.1 hC35.2.1) rfl ?_
 rintro _ _ ⟨cs36, k36, rfl, rfl, hC36⟩
 replace hC36 : (cs36.length = 36 ∧ okc cs36 ∧ ∀ h, Has k36 h → RT h cs35 (eLa (eVa 1)) → RT h cs36 (eLa (eLa (eVa 1)))) := ⟨hC36.1, hC36.2.1, hC36.2.2 (eLa (eVa 1))⟩
 refine JLr (Zr (vs := [.string (ltr 0)]) [[.string (ltr 0)]] Tryz.runUnderlying28 el9 rfl rfl (by intro e he; simp only [List.mem_cons, List.not_mem_nil, or_false] at he; subst he; exact rfl) rfl (by decide) fun b37 k37 ho37 hk37 => Zg rfl Tryz.call17 rfl (fun hin => nameE_ct _ _ _ (hC36.2.2 _ (hin 1 _ rfl) (hC35.2.2 _ (hin 2 _ rfl) (hO34.rd (hin 3 _ rfl)))) (Yj (l := [ltr 0]) ho37 (by simp) (hin 0 _ rfl))) rfl ?_)
 rintro _ _ ⟨_, _, rfl, rfl, nk38, nn38, nr38, ns38, nks38, ncv38, ne38, nk138, nk238, nk338, rfl, hone38, hon38, hok38, ⟨mk38, mn38, mr38, ms38, mks38, mcv38, me38, mk138, mk238, mk338, rfl, hmone38, hom38, hmk38, _, rfl⟩, rfl⟩
 refine Zq (M' := [nk138, nk238, mk138, mk238, mk338, k37, k36, k35, k34, [(b33, .cells ⟨cs32⟩ 27 (0, 0))], k32, k31, [(b30, .cells ⟨cs29⟩ 27 (0, 0))], k29, (N18 1), (N18 2), [((ZA (r18 6)), .cells ⟨(Zz (r18 2))⟩ 27 (0, 0))], (N7 1), (N7 2), [((ZA (r7 6)), .cells ⟨(Zz (r7 2))⟩ 27 (0, 0))], k6, [(b5, .cells ⟨cs4⟩ 27 (0, 0))], k4, k3, k2, k1]) (Sub.flat Sub.refl (by simp)) <| JLm (.tuple ⟨[.agg ⟨(pkT nk38 nn38 nr38 ns38 nks38) ++ ([ncv38] : List Value)⟩, .int .i64 0]⟩) <| JLq (.agg ⟨(pkT nk38 nn38 nr38 ns38 nks38) ++ ([ncv38] : List Value)⟩) (Pu.extract rfl rfl) <| JLq (.int .i64 0) (Pu.extract rfl rfl) <| JLr (Zj (l := (pkT 0 0 zS (.slice none 0 0) (.slice none 0 0)) ++ ([.slice none 0 0] : List Value)) Tryz.zeroValue32 rfl fun b39 => JLr (Ze 0 (vs := (pkT nk38 nn38 nr38 ns38 nks38) ++ ([ncv38] : List Value)) (l := (pkT nk38 nn38 nr38 ns38 nks38) ++ ([ncv38] : List Value)) Z6 rfl rfl rfl rfl rfl (Z3 (ZI hon38.one hok38.one) (Zm hone38 Zv)) (ZL (n := 37) rfl rfl) <| JLa (.int .i64 0) <| Za <| Zd ?_))
 obtain ⟨b42, cap42, row42, hv42, hm42, hs42⟩ := hok38.at' (j := 0) rfl
 refine Ya mixed #[0, 1, 3, 7, 15, 31, 63, 127, 255, 511, 1023, 2047, 4095, 8191, 16383, 32767, 65535, 131071, 262143, 524287, 1048575, 2097151, 4194303, 8388607, 8388607, 33554431, 67108863, 134217727, 268435455, 268435455, 805306367, 1879048191, 4026531839, 8589934591, 17179869183, 34359738367, 68719476735, 68719476735, 206158430207, 481036337151, 1030792151039, 2199023255551, 4398046511103, 8796093022207, 17592186044415, 17592186044415, 52776558133247, 123145302310911, 263882790666239, 562949953421311, 1125899906842623, 2251799813685247, 4503599627370495, 9007199254740991, 4503599627370495, 36028797018963967, 72057594037927935, 144115188075855871, 288230376151711743, 576460752303423487, 1152921504606846975, 2305843009213693951, 4611686018427387903, 9223372036854775807, 18446744073709551615, 36893488147419103231, 73786976294838206463, 147573952589676412927, 295147905179352825855, 18446744073709551615, 1180591620717411303423, 2361183241434822606847, 4722366482869645213695, 9444732965739290427391, 9444732965739290427391, 28334198897217871282175, 66113130760175032991743, 151115727451828646838271, 302231454903657293676543, 604462909807314587353087, 1208925819614629174706175, 2417851639229258349412351, 4835703278458516698824703, 4835703278458516698824703, 14507109835375550096474111, 38685626227668133590597631, 77371252455336267181195263, 154742504910672534362390527, 309485009821345068724781055, 618970019642690137449562111] 85 85 27 rfl (by kernel_rfl) (fun i r40 N40 => match i with | 0 => (r40 0) = .int .i64 0 | 1 => (r40 1) = .bool true | 2 => (r40 2) = .bool true | 3 => (r40 3) = .int .i64 0 | 4 => (r40 4) = .bool true | 5 => (r40 5) = .bool true | 6 => (r40 6) = .bool true | 7 => (r40 7) = .int .i64 0 | 8 => (r40 8) = .bool true | 9 => (r40 9) = .bool true | 10 => (r40 10) = .bool true | 11 => (r40 11) = .int .i64 0 | 12 => (r40 12) = .bool true | 13 => (r40 13) = .bool true | 14 => (r40 14) = .bool true | 15 => (r40 15) = .int .i64 1 | 16 => (r40 16) = .bool true | 17 => (r40 17) = .bool true | 18 => (r40 18) = .bool true | 19 => (r40 19) = .int .i64 0 | 20 => (r40 20) = .bool true | 21 => (r40 21) = .bool true | 22 => (r40 22) = .bool true | 23 => (r40 23) = u6 | 24 => (r40 24) = .slice (some ⟨(ZC (r40 24)), 0, none⟩) 1 1 ∧ (N40 24) = [(ZC (r40 24), .cells ⟨List.flatten [[.int .i64 0]]⟩ 3 (0, 0))] ∧ Own 3 1 (.slice (some ⟨(ZC (r40 24)), 0, none⟩) 1 1) [[.int .i64 0]] (N40 24) | 25 => (r40 25) = .bool true | 26 => (r40 26) = .bool true | 27 => (r40 27) = .bool true | 28 => (r40 28) = .agg ⟨(Zz (r7 2))⟩ | 29 => (r40 29) = .agg ⟨(cel (r40 29))⟩ ∧ OT (eVa 0) (cel (r40 29)) (N40 29) | 30 => (r40 30) = .agg ⟨(cel (r40 30))⟩ ∧ OT (eNu 5) (cel (r40 30)) (N40 30) | 31 => (r40 31) = .agg ⟨(cel (r40 31))⟩ ∧ (((cel (r40 31))).length = 36 ∧ okc ((cel (r40 31))) ∧ ∀ h, Has ((N40 31)) h → RT h ((cel (r40 29))) (eVa 0) → RT h ((cel (r40 30))) (eNu 5) → RT h ((cel (r40 31))) (eAp (eVa 0) (eNu 5))) | 32 => (r40 32) = .agg ⟨(cel (r40 32))⟩ ∧ (((cel (r40 32))).length = 36 ∧ okc ((cel (r40 32))) ∧ ∀ h, Has ((N40 32)) h → RT h ((cel (r40 31))) (eAp (eVa 0) (eNu 5)) → RT h ((cel (r40 32))) (eLa (eAp (eVa 0) (eNu 5)))) | 33 => (r40 33) = .bool true | 34 => (r40 34) = .bool true | 35 => (r40 35) = .bool true | 36 => (r40 36) = .agg ⟨(Zz (r18 2))⟩ | 37 => (r40 37) = .agg ⟨(cel (r40 37))⟩ ∧ OT (eVa 0) (cel (r40 37)) (N40 37) | 38 => (r40 38) = .agg ⟨(cel (r40 38))⟩ ∧ OT (eVa 4) (cel (r40 38)) (N40 38) | 39 => (r40 39) = .agg ⟨(cel (r40 39))⟩ ∧ (((cel (r40 39))).length = 36 ∧ okc ((cel (r40 39))) ∧ ∀ h, Has ((N40 39)) h → RT h ((cel (r40 37))) (eVa 0) → RT h ((cel (r40 38))) (eVa 4) → RT h ((cel (r40 39))) (eAp (eVa 0) (eVa 4))) | 40 => (r40 40) = .agg ⟨(cel (r40 40))⟩ ∧ (((cel (r40 40))).length = 36 ∧ okc ((cel (r40 40))) ∧ ∀ h, Has ((N40 40)) h → RT h ((cel (r40 39))) (eAp (eVa 0) (eVa 4)) → RT h ((cel (r40 40))) (eLa (eAp (eVa 0) (eVa 4)))) | 41 => (r40 41) = .bool true | 42 => (r40 42) = .bool true | 43 => (r40 43) = .bool true | 44 => (r40 44) = .agg ⟨cs29⟩ | 45 => (r40 45) = .agg ⟨(cel (r40 45))⟩ ∧ OT (eVa 0) (cel (r40 45)) (N40 45) | 46 => (r40 46) = .agg ⟨(cel (r40 46))⟩ ∧ OT (eVa 3) (cel (r40 46)) (N40 46) | 47 => (r40 47) = .agg ⟨(cel (r40 47))⟩ ∧ (((cel (r40 47))).length = 36 ∧ okc ((cel (r40 47))) ∧ ∀ h, Has ((N40 47)) h → RT h ((cel (r40 45))) (eVa 0) → RT h ((cel (r40 46))) (eVa 3) → RT h ((cel (r40 47))) (eAp (eVa 0) (eVa 3))) | 48 => (r40 48) = .agg ⟨(cel (r40 48))⟩ ∧ (((cel (r40 48))).length = 36 ∧ okc ((cel (r40 48))) ∧ ∀ h, Has ((N40 48)) h → RT h ((cel (r40 47))) (eAp (eVa 0) (eVa 3)) → RT h ((cel (r40 48))) (eLa (eAp (eVa 0) (eVa 3)))) | 49 => (r40 49) = .bool true | 50 => (r40 50) = .bool true | 51 => (r40 51) = .bool true | 52 => (r40 52) = .pointer (some ⟨b39, 34, none⟩) | 53 => (r40 53) = ns38 | 54 => (r40 54) = .slice (some ⟨(ZC (r40 54)), 0, none⟩) 1 1 ∧ (N40 54) = [(ZC (r40 54), .cells ⟨List.flatten [[.string (ltr 1)]]⟩ 9 (0, 0))] ∧ Own 9 1 (.slice (some ⟨(ZC (r40 54)), 0, none⟩) 1 1) [[.string (ltr 1)]] (N40 54) | 55 => (r40 55) = .bool true | 56 => (r40 56) = .bool true | 57 => (r40 57) = .bool true | 58 => (r40 58) = .pointer (some ⟨b39, 35, none⟩) | 59 => (r40 59) = nks38 | 60 => (r40 60) = .int .i64 1 | 61 => (r40 61) = .bool true | 62 => (r40 62) = .bool true | 63 => (r40 63) = .bool true | 64 => (r40 64) = .pointer (some ⟨b39, 35, none⟩) | 65 => (r40 65) = nks38 | 66 => (r40 66) = .pointer (some ⟨b42, 0 + 0 * 37, none⟩) | 67 => (r40 67) = .pointer (some ⟨b42, 0 + 0 * 37 + 34, none⟩) | 68 => (r40 68) = ms38 | 69 => (r40 69) = .slice (some ⟨(ZC (r40 69)), 0, none⟩) 1 1 ∧ (N40 69) = [(ZC (r40 69), .cells ⟨List.flatten [[.string (ltr 2)]]⟩ 9 (0, 0))] ∧ Own 9 1 (.slice (some ⟨(ZC (r40 69)), 0, none⟩) 1 1) [[.string (ltr 2)]] (N40 69) | 70 => (r40 70) = .bool true | 71 => (r40 71) = .bool true | 72 => (r40 72) = .bool true | 73 => (r40 73) = .agg ⟨sC zS⟩ | 74 => (r40 74) = .agg ⟨(cel (r40 74))⟩ ∧ OT (eNu 1) (cel (r40 74)) (N40 74) | 75 => (r40 75) = .agg ⟨(cel (r40 75))⟩ ∧ OT (eVa 0) (cel (r40 75)) (N40 75) | 76 => (r40 76) = .slice (some ⟨(ZC (r40 76)), 0, none⟩) 2 2 ∧ (N40 76) = [(ZC (r40 76), .cells ⟨List.flatten [(cel (r40 74)), (cel (r40 75))]⟩ 27 (0, 0))] ∧ Own 27 36 (.slice (some ⟨(ZC (r40 76)), 0, none⟩) 2 2) [(cel (r40 74)), (cel (r40 75))] (N40 76) | 77 => (r40 77) = .agg ⟨pkT 12 0 zS (.slice (some ⟨(ZC (r40 76)), 0, none⟩) 2 2) (.slice none 0 0)⟩ | 78 => (r40 78) = .int .i64 0 | 79 => (r40 79) = .bool true | 80 => (r40 80) = .bool true | 81 => (r40 81) = .bool true | 82 => (r40 82) = .agg ⟨sC zS⟩ | 83 => (r40 83) = .agg ⟨(cel (r40 83))⟩ ∧ OT (eNu 1) (cel (r40 83)) (N40 83) | 84 => (r40 84) = .slice (some ⟨(ZC (r40 84)), 0, none⟩) 1 1 ∧ (N40 84) = [(ZC (r40 84), .cells ⟨List.flatten [(cel (r40 83))]⟩ 27 (0, 0))] ∧ Own 27 36 (.slice (some ⟨(ZC (r40 84)), 0, none⟩) 1 1) [(cel (r40 83))] (N40 84) | _ => True) ⟨?_, ?_, ?_, ?_, ?_, ?_, ?_, ?_, ?_, ?_, ?_, ?_, ?_, ?_, ?_, ?_, ?_, ?_, ?_, ?_, ?_, ?_, ?_, ?_, ?_, ?_, ?_, ?_, ?_, ?_, ?_, ?_, ?_, ?_, ?_, ?_, ?_, ?_, ?_, ?_, ?_, ?_, ?_, ?_, ?_, ?_, ?_, ?_, ?_, ?_, ?_, ?_, ?_, ?_, ?_, ?_, ?_, ?_, ?_, ?_, ?_, ?_, ?_, ?_, ?_, ?_, ?_, ?_, ?_, ?_, ?_, ?_, ?_, ?_, ?_, ?_, ?_, ?_, ?_, ?_, ?_, ?_, ?_, ?_, ?_, trivial⟩ ?_
 ·intro ρ r40 N40 B hB hBa hp hr hr0
  obtain ⟨ρ43, rfl⟩ := Zc (uc (show ρ 3 = .int .i64 0 from hr0 3 (by kernel_rfl)) un)
  refine JLm (.int .i64 0) <| Za ?_
  exact ⟨.int .i64 0, [], rfl, (Sub.emp Sub.refl), rfl⟩
 ·intro ρ r40 N40 B hB hBa hp hr hr0
  obtain ⟨ρ44, rfl⟩ := Zc (uc (show ρ 53 = .int .i64 0 from (hr 0 _ _ (by decide) rfl rfl rfl).trans (hp 0 (by decide) rfl)) un)
  refine JLq (.bool true) (show Pu _ _ _ (.bool (decide ((0 : Int) = 0))) from Pu.eql rfl rfl) <| Za ?_
  exact ⟨.bool true, [], rfl, (Sub.emp Sub.refl), rfl⟩
 ·intro ρ r40 N40 B hB hBa hp hr hr0
  obtain ⟨ρ45, rfl⟩ := Zc (uc (show ρ 54 = .bool true from (hr 1 _ _ (by decide) rfl rfl rfl).trans (hp 1 (by decide) rfl)) un)
  refine JLm (.bool true) <| Za ?_
  exact ⟨.bool true, [], rfl, (Sub.emp Sub.refl), rfl⟩
 ·intro ρ r40 N40 B hB hBa hp hr hr0
  obtain ⟨ρ46, rfl⟩ := Zc (uc (show ρ 5 = .int .i64 0 from hr0 5 (by kernel_rfl)) (uc (show ρ 55 = .bool true from (hr 2 _ _ (by decide) rfl rfl rfl).trans (hp 2 (by decide) rfl)) un))
  refine JLm (.int .i64 0) <| Za ?_
  exact ⟨.int .i64 0, [], rfl, (Sub.emp Sub.refl), rfl⟩
 ·intro ρ r40 N40 B hB hBa hp hr hr0
  obtain ⟨ρ47, rfl⟩ := Zc (uc (show ρ 55 = .bool true from (hr 2 _ _ (by decide) rfl rfl rfl).trans (hp 2 (by decide) rfl)) (uc (show ρ 56 = .int .i64 0 from (hr 3 _ _ (by decide) rfl rfl rfl).trans (hp 3 (by decide) rfl)) un))
  refine JLq (.bool true) (show Pu _ _ _ (.bool (decide ((0 : Int) = 0))) from Pu.eql rfl rfl) <| Za ?_
  exact ⟨.bool true, [], rfl, (Sub.emp Sub.refl), rfl⟩
 ·intro ρ r40 N40 B hB hBa hp hr hr0
  obtain ⟨ρ48, rfl⟩ := Zc (uc (show ρ 55 = .bool true from (hr 2 _ _ (by decide) rfl rfl rfl).trans (hp 2 (by decide) rfl)) (uc (show ρ 57 = .bool true from (hr 4 _ _ (by decide) rfl rfl rfl).trans (hp 4 (by decide) rfl)) un))
  refine JLq (.bool true) (Pu.pickT rfl rfl) <| Za ?_
  exact ⟨.bool true, [], rfl, (Sub.emp Sub.refl), rfl⟩
 ·intro ρ r40 N40 B hB hBa hp hr hr0
  obtain ⟨ρ49, rfl⟩ := Zc (uc (show ρ 58 = .bool true from (hr 5 _ _ (by decide) rfl rfl rfl).trans (hp 5 (by decide) rfl)) un)
  refine JLm (.bool true) <| Za ?_
  exact ⟨.bool true, [], rfl, (Sub.emp Sub.refl), rfl⟩
 ·intro ρ r40 N40 B hB hBa hp hr hr0
  obtain ⟨ρ50, rfl⟩ := Zc (uc (show ρ 7 = .int .i64 0 from hr0 7 (by kernel_rfl)) (uc (show ρ 59 = .bool true from (hr 6 _ _ (by decide) rfl rfl rfl).trans (hp 6 (by decide) rfl)) un))
  refine JLm (.int .i64 0) <| Za ?_
  exact ⟨.int .i64 0, [], rfl, (Sub.emp Sub.refl), rfl⟩
 ·intro ρ r40 N40 B hB hBa hp hr hr0
  obtain ⟨ρ51, rfl⟩ := Zc (uc (show ρ 59 = .bool true from (hr 6 _ _ (by decide) rfl rfl rfl).trans (hp 6 (by decide) rfl)) (uc (show ρ 60 = .int .i64 0 from (hr 7 _ _ (by decide) rfl rfl rfl).trans (hp 7 (by decide) rfl)) un))
  refine JLq (.bool true) (show Pu _ _ _ (.bool (decide ((0 : Int) = 0))) from Pu.eql rfl rfl) <| Za ?_
  exact ⟨.bool true, [], rfl, (Sub.emp Sub.refl), rfl⟩
 ·intro ρ r40 N40 B hB hBa hp hr hr0
  obtain ⟨ρ52, rfl⟩ := Zc (uc (show ρ 59 = .bool true from (hr 6 _ _ (by decide) rfl rfl rfl).trans (hp 6 (by decide) rfl)) (uc (show ρ 61 = .bool true from (hr 8 _ _ (by decide) rfl rfl rfl).trans (hp 8 (by decide) rfl)) un))
  refine JLq (.bool true) (Pu.pickT rfl rfl) <| Za ?_
  exact ⟨.bool true, [], rfl, (Sub.emp Sub.refl), rfl⟩
 ·intro ρ r40 N40 B hB hBa hp hr hr0
  obtain ⟨ρ53, rfl⟩ := Zc (uc (show ρ 62 = .bool true from (hr 9 _ _ (by decide) rfl rfl rfl).trans (hp 9 (by decide) rfl)) un)
  refine JLm (.bool true) <| Za ?_
  exact ⟨.bool true, [], rfl, (Sub.emp Sub.refl), rfl⟩
 ·intro ρ r40 N40 B hB hBa hp hr hr0
  obtain ⟨ρ54, rfl⟩ := Zc (uc (show ρ 9 = .int .i64 0 from hr0 9 (by kernel_rfl)) (uc (show ρ 63 = .bool true from (hr 10 _ _ (by decide) rfl rfl rfl).trans (hp 10 (by decide) rfl)) un))
  refine JLm (.int .i64 0) <| Za ?_
  exact ⟨.int .i64 0, [], rfl, (Sub.emp Sub.refl), rfl⟩
 ·intro ρ r40 N40 B hB hBa hp hr hr0
  obtain ⟨ρ55, rfl⟩ := Zc (uc (show ρ 63 = .bool true from (hr 10 _ _ (by decide) rfl rfl rfl).trans (hp 10 (by decide) rfl)) (uc (show ρ 64 = .int .i64 0 from (hr 11 _ _ (by decide) rfl rfl rfl).trans (hp 11 (by decide) rfl)) un))
  refine JLq (.bool true) (show Pu _ _ _ (.bool (decide ((0 : Int) = 0))) from Pu.eql rfl rfl) <| Za ?_
  exact ⟨.bool true, [], rfl, (Sub.emp Sub.refl), rfl⟩
 ·intro ρ r40 N40 B hB hBa hp hr hr0
  obtain ⟨ρ56, rfl⟩ := Zc (uc (show ρ 63 = .bool true from (hr 10 _ _ (by decide) rfl rfl rfl).trans (hp 10 (by decide) rfl)) (uc (show ρ 65 = .bool true from (hr 12 _ _ (by decide) rfl rfl rfl).trans (hp 12 (by decide) rfl)) un))
  refine JLq (.bool true) (Pu.pickT rfl rfl) <| Za ?_
  exact ⟨.bool true, [], rfl, (Sub.emp Sub.refl), rfl⟩
 ·intro ρ r40 N40 B hB hBa hp hr hr0
  obtain ⟨ρ57, rfl⟩ := Zc (uc (show ρ 66 = .bool true from (hr 13 _ _ (by decide) rfl rfl rfl).trans (hp 13 (by decide) rfl)) un)
  refine JLm (.bool true) <| Za ?_
  exact ⟨.bool true, [], rfl, (Sub.emp Sub.refl), rfl⟩
 ·intro ρ r40 N40 B hB hBa hp hr hr0
  obtain ⟨ρ58, rfl⟩ := Zc (uc (show ρ 11 = .int .i64 1 from hr0 11 (by kernel_rfl)) (uc (show ρ 67 = .bool true from (hr 14 _ _ (by decide) rfl rfl rfl).trans (hp 14 (by decide) rfl)) un))
  refine JLm (.int .i64 1) <| Za ?_
  exact ⟨.int .i64 1, [], rfl, (Sub.emp Sub.refl), rfl⟩
 ·intro ρ r40 N40 B hB hBa hp hr hr0
  obtain ⟨ρ59, rfl⟩ := Zc (uc (show ρ 67 = .bool true from (hr 14 _ _ (by decide) rfl rfl rfl).trans (hp 14 (by decide) rfl)) (uc (show ρ 68 = .int .i64 1 from (hr 15 _ _ (by decide) rfl rfl rfl).trans (hp 15 (by decide) rfl)) un))
  refine JLq (.bool true) (show Pu _ _ _ (.bool (decide ((1 : Int) = 1))) from Pu.eql rfl rfl) <| Za ?_
  exact ⟨.bool true, [], rfl, (Sub.emp Sub.refl), rfl⟩
 ·intro ρ r40 N40 B hB hBa hp hr hr0
  obtain ⟨ρ60, rfl⟩ := Zc (uc (show ρ 67 = .bool true from (hr 14 _ _ (by decide) rfl rfl rfl).trans (hp 14 (by decide) rfl)) (uc (show ρ 69 = .bool true from (hr 16 _ _ (by decide) rfl rfl rfl).trans (hp 16 (by decide) rfl)) un))
  refine JLq (.bool true) (Pu.pickT rfl rfl) <| Za ?_
  exact ⟨.bool true, [], rfl, (Sub.emp Sub.refl), rfl⟩
 ·intro ρ r40 N40 B hB hBa hp hr hr0
  obtain ⟨ρ61, rfl⟩ := Zc (uc (show ρ 70 = .bool true from (hr 17 _ _ (by decide) rfl rfl rfl).trans (hp 17 (by decide) rfl)) un)
  refine JLm (.bool true) <| Za ?_
  exact ⟨.bool true, [], rfl, (Sub.emp Sub.refl), rfl⟩
 ·intro ρ r40 N40 B hB hBa hp hr hr0
  obtain ⟨ρ62, rfl⟩ := Zc (uc (show ρ 13 = .int .i64 0 from hr0 13 (by kernel_rfl)) (uc (show ρ 71 = .bool true from (hr 18 _ _ (by decide) rfl rfl rfl).trans (hp 18 (by decide) rfl)) un))
  refine JLm (.int .i64 0) <| Za ?_
  exact ⟨.int .i64 0, [], rfl, (Sub.emp Sub.refl), rfl⟩
 ·intro ρ r40 N40 B hB hBa hp hr hr0
  obtain ⟨ρ63, rfl⟩ := Zc (uc (show ρ 71 = .bool true from (hr 18 _ _ (by decide) rfl rfl rfl).trans (hp 18 (by decide) rfl)) (uc (show ρ 72 = .int .i64 0 from (hr 19 _ _ (by decide) rfl rfl rfl).trans (hp 19 (by decide) rfl)) un))
  refine JLq (.bool true) (show Pu _ _ _ (.bool (decide ((0 : Int) = 0))) from Pu.eql rfl rfl) <| Za ?_
  exact ⟨.bool true, [], rfl, (Sub.emp Sub.refl), rfl⟩
 ·intro ρ r40 N40 B hB hBa hp hr hr0
  obtain ⟨ρ64, rfl⟩ := Zc (uc (show ρ 71 = .bool true from (hr 18 _ _ (by decide) rfl rfl rfl).trans (hp 18 (by decide) rfl)) (uc (show ρ 73 = .bool true from (hr 20 _ _ (by decide) rfl rfl rfl).trans (hp 20 (by decide) rfl)) un))
  refine JLq (.bool true) (Pu.pickT rfl rfl) <| Za ?_
  exact ⟨.bool true, [], rfl, (Sub.emp Sub.refl), rfl⟩
 ·intro ρ r40 N40 B hB hBa hp hr hr0
  obtain ⟨ρ65, rfl⟩ := Zc (uc (show ρ 74 = .bool true from (hr 21 _ _ (by decide) rfl rfl rfl).trans (hp 21 (by decide) rfl)) un)
  refine JLm (.bool true) <| Za ?_
  exact ⟨.bool true, [], rfl, (Sub.emp Sub.refl), rfl⟩
 ·intro ρ r40 N40 B hB hBa hp hr hr0
  obtain ⟨ρ66, rfl⟩ := Zc (uc (show ρ 2 = u6 from hr0 2 (by kernel_rfl)) (uc (show ρ 75 = .bool true from (hr 22 _ _ (by decide) rfl rfl rfl).trans (hp 22 (by decide) rfl)) un))
  refine JLm u6 <| Za ?_
  exact ⟨u6, [], rfl, (Sub.emp Sub.refl), rfl⟩
 ·intro ρ r40 N40 B hB hBa hp hr hr0
  obtain ⟨ρ67, rfl⟩ := Zc (uc (show ρ 75 = .bool true from (hr 22 _ _ (by decide) rfl rfl rfl).trans (hp 22 (by decide) rfl)) un)
  refine JLr (Zr (vs := [.int .i64 0]) [[.int .i64 0]] Tryz.runUnderlying92 el3 rfl rfl (by intro e he; simp only [List.mem_cons, List.not_mem_nil, or_false] at he; subst he; exact rfl) rfl (by decide) fun b68 k68 ho68 hk68 => Za ?_)
  exact ⟨.slice (some ⟨b68, 0, none⟩) 1 1, k68, rfl, Sub.refl, ⟨rfl, hk68, ho68⟩⟩
 ·intro ρ r40 N40 B hB hBa hp hr hr0
  have p24 : (r40 24) = .slice (some ⟨(ZC (r40 24)), 0, none⟩) 1 1 ∧ (N40 24) = [(ZC (r40 24), .cells ⟨List.flatten [[.int .i64 0]]⟩ 3 (0, 0))] ∧ Own 3 1 (.slice (some ⟨(ZC (r40 24)), 0, none⟩) 1 1) [[.int .i64 0]] (N40 24) := hp 24 (by decide) rfl
  obtain ⟨ρ69, rfl⟩ := Zc (uc (show ρ 75 = .bool true from (hr 22 _ _ (by decide) rfl rfl rfl).trans (hp 22 (by decide) rfl)) (uc (show ρ 76 = u6 from (hr 23 _ _ (by decide) rfl rfl rfl).trans (hp 23 (by decide) rfl)) (uc (show ρ 77 = .slice (some ⟨(ZC (r40 24)), 0, none⟩) 1 1 from (hr 24 _ _ (by decide) rfl rfl rfl).trans p24.1) un)))
  refine Zg rfl Tryz.call51 rfl (fun hin => bool_r (r := true) (equalI_ct _ _ _ _ _ (own_ints ho6 (by simp) (hin 106 _ (Zn ((hB 21 (by decide)).trans rfl)))) (own_ints (l := [0]) p24.2.2 (by simp) (hin 24 _ (ZQ rfl rfl)))) (eqL_true rfl)) rfl ?_
  rintro _ _ ⟨rfl, rfl⟩
  refine Za ?_
  exact ⟨.bool true, [], rfl, (Sub.emp Sub.refl), rfl⟩
 ·intro ρ r40 N40 B hB hBa hp hr hr0
  obtain ⟨ρ70, rfl⟩ := Zc (uc (show ρ 75 = .bool true from (hr 22 _ _ (by decide) rfl rfl rfl).trans (hp 22 (by decide) rfl)) (uc (show ρ 78 = .bool true from (hr 25 _ _ (by decide) rfl rfl rfl).trans (hp 25 (by decide) rfl)) un))
  refine JLq (.bool true) (Pu.pickT rfl rfl) <| Za ?_
  exact ⟨.bool true, [], rfl, (Sub.emp Sub.refl), rfl⟩
 ·intro ρ r40 N40 B hB hBa hp hr hr0
  obtain ⟨ρ71, rfl⟩ := Zc (uc (show ρ 79 = .bool true from (hr 26 _ _ (by decide) rfl rfl rfl).trans (hp 26 (by decide) rfl)) un)
  refine JLm (.bool true) <| Za ?_
  exact ⟨.bool true, [], rfl, (Sub.emp Sub.refl), rfl⟩
 ·intro ρ r40 N40 B hB hBa hp hr hr0
  obtain ⟨ρ72, rfl⟩ := Zc (uc (show ρ 4 = .pointer (some ⟨(ZA (r7 6)), 0, none⟩) from hr0 4 (by kernel_rfl)) (uc (show ρ 80 = .bool true from (hr 27 _ _ (by decide) rfl rfl rfl).trans (hp 27 (by decide) rfl)) un))
  refine JLr (Zh Zu rfl (At.bx 105 (Zn ((hB 20 (by decide)).trans rfl))) (Zx p7_2.2.len) <| Za ?_)
  exact ⟨.agg ⟨(Zz (r7 2))⟩, [], rfl, (Sub.emp Sub.refl), rfl⟩
 ·intro ρ r40 N40 B hB hBa hp hr hr0
  obtain ⟨ρ73, rfl⟩ := Zc (uc (show ρ 80 = .bool true from (hr 27 _ _ (by decide) rfl rfl rfl).trans (hp 27 (by decide) rfl)) un)
  refine Zg rfl Tryz.call48 rfl (fun hin => va_ct _ _ (by unfold inI; omega)) rfl ?_
  rintro _ _ ⟨cs74, k74, rfl, rfl, hO74⟩
  refine Za ?_
  exact ⟨.agg ⟨cs74⟩, k74, rfl, Sub.refl, ⟨rfl, hO74⟩⟩
 ·intro ρ r40 N40 B hB hBa hp hr hr0
  obtain ⟨ρ75, rfl⟩ := Zc (uc (show ρ 80 = .bool true from (hr 27 _ _ (by decide) rfl rfl rfl).trans (hp 27 (by decide) rfl)) un)
  refine Zg rfl Tryz.call42 rfl (fun hin => nu_ct _ _ (by unfold inI; omega)) rfl ?_
  rintro _ _ ⟨cs76, k76, rfl, rfl, hO76⟩
  refine Za ?_
  exact ⟨.agg ⟨cs76⟩, k76, rfl, Sub.refl, ⟨rfl, hO76⟩⟩
 ·intro ρ r40 N40 B hB hBa hp hr hr0
  have p29 : (r40 29) = .agg ⟨(cel (r40 29))⟩ ∧ OT (eVa 0) (cel (r40 29)) (N40 29) := hp 29 (by decide) rfl
  have p30 : (r40 30) = .agg ⟨(cel (r40 30))⟩ ∧ OT (eNu 5) (cel (r40 30)) (N40 30) := hp 30 (by decide) rfl
  obtain ⟨ρ77, rfl⟩ := Zc (uc (show ρ 80 = .bool true from (hr 27 _ _ (by decide) rfl rfl rfl).trans (hp 27 (by decide) rfl)) (uc (show ρ 82 = .agg ⟨(cel (r40 29))⟩ from (hr 29 _ _ (by decide) rfl rfl rfl).trans p29.1) (uc (show ρ 83 = .agg ⟨(cel (r40 30))⟩ from (hr 30 _ _ (by decide) rfl rfl rfl).trans p30.1) un)))
  refine Zg rfl Tryz.call47 rfl (fun hin => ap_ct _ _ p29.2.len p29.2.ok _ p30.2.len p30.2.ok) rfl ?_
  rintro _ _ ⟨cs78, k78, rfl, rfl, hC78⟩
  replace hC78 : (cs78.length = 36 ∧ okc cs78 ∧ ∀ h, Has k78 h → RT h ((cel (r40 29))) (eVa 0) → RT h ((cel (r40 30))) (eNu 5) → RT h cs78 (eAp (eVa 0) (eNu 5))) := ⟨hC78.1, hC78.2.1, hC78.2.2 (eVa 0) (eNu 5)⟩
  refine Za ?_
  exact ⟨.agg ⟨cs78⟩, k78, rfl, Sub.refl, ⟨rfl, hC78⟩⟩
 ·intro ρ r40 N40 B hB hBa hp hr hr0
  have p31 : (r40 31) = .agg ⟨(cel (r40 31))⟩ ∧ (((cel (r40 31))).length = 36 ∧ okc ((cel (r40 31))) ∧ ∀ h, Has ((N40 31)) h → RT h ((cel (r40 29))) (eVa 0) → RT h ((cel (r40 30))) (eNu 5) → RT h ((cel (r40 31))) (eAp (eVa 0) (eNu 5))) := hp 31 (by decide) rfl
  obtain ⟨ρ79, rfl⟩ := Zc (uc (show ρ 80 = .bool true from (hr 27 _ _ (by decide) rfl rfl rfl).trans (hp 27 (by decide) rfl)) (uc (show ρ 84 = .agg ⟨(cel (r40 31))⟩ from (hr 31 _ _ (by decide) rfl rfl rfl).trans p31.1) un))
  refine Zg rfl Tryz.call46 rfl (fun hin => la_ct _ _ p31.2.1 p31.2.2.1) rfl ?_
  rintro _ _ ⟨cs80, k80, rfl, rfl, hC80⟩
  replace hC80 : (cs80.length = 36 ∧ okc cs80 ∧ ∀ h, Has k80 h → RT h ((cel (r40 31))) (eAp (eVa 0) (eNu 5)) → RT h cs80 (eLa (eAp (eVa 0) (eNu 5)))) := ⟨hC80.1, hC80.2.1, hC80.2.2 (eAp (eVa 0) (eNu 5))⟩
  refine Za ?_
  exact ⟨.agg ⟨cs80⟩, k80, rfl, Sub.refl, ⟨rfl, hC80⟩⟩
 ·intro ρ r40 N40 B hB hBa hp hr hr0
  have p29 : (r40 29) = .agg ⟨(cel (r40 29))⟩ ∧ OT (eVa 0) (cel (r40 29)) (N40 29) := hp 29 (by decide) rfl
  have p30 : (r40 30) = .agg ⟨(cel (r40 30))⟩ ∧ OT (eNu 5) (cel (r40 30)) (N40 30) := hp 30 (by decide) rfl
  have p31 : (r40 31) = .agg ⟨(cel (r40 31))⟩ ∧ (((cel (r40 31))).length = 36 ∧ okc ((cel (r40 31))) ∧ ∀ h, Has ((N40 31)) h → RT h ((cel (r40 29))) (eVa 0) → RT h ((cel (r40 30))) (eNu 5) → RT h ((cel (r40 31))) (eAp (eVa 0) (eNu 5))) := hp 31 (by decide) rfl
  have p32 : (r40 32) = .agg ⟨(cel (r40 32))⟩ ∧ (((cel (r40 32))).length = 36 ∧ okc ((cel (r40 32))) ∧ ∀ h, Has ((N40 32)) h → RT h ((cel (r40 31))) (eAp (eVa 0) (eNu 5)) → RT h ((cel (r40 32))) (eLa (eAp (eVa 0) (eNu 5)))) := hp 32 (by decide) rfl
  obtain ⟨ρ81, rfl⟩ := Zc (uc (show ρ 80 = .bool true from (hr 27 _ _ (by decide) rfl rfl rfl).trans (hp 27 (by decide) rfl)) (uc (show ρ 81 = .agg ⟨(Zz (r7 2))⟩ from (hr 28 _ _ (by decide) rfl rfl rfl).trans (hp 28 (by decide) rfl)) (uc (show ρ 85 = .agg ⟨(cel (r40 32))⟩ from (hr 32 _ _ (by decide) rfl rfl rfl).trans p32.1) un)))
  refine Zg rfl Tryz.call21 rfl (fun hin => bool_r (r := true) (Y8 _ _ _ _ _ (p7_2.2.rd (hin 104 _ (Zn ((hB 19 (by decide)).trans rfl)))) (p32.2.2.2 _ (hin 32 _ (ZQ rfl rfl)) (p31.2.2.2 _ (hin 31 _ (ZQ rfl rfl)) (p29.2.rd (hin 29 _ (ZQ rfl rfl))) (p30.2.rd (hin 30 _ (ZQ rfl rfl)))))) (decide_eq_true rfl)) rfl ?_
  rintro _ _ ⟨rfl, rfl⟩
  refine Za ?_
  exact ⟨.bool true, [], rfl, (Sub.emp Sub.refl), rfl⟩
 ·intro ρ r40 N40 B hB hBa hp hr hr0
  obtain ⟨ρ82, rfl⟩ := Zc (uc (show ρ 80 = .bool true from (hr 27 _ _ (by decide) rfl rfl rfl).trans (hp 27 (by decide) rfl)) (uc (show ρ 86 = .bool true from (hr 33 _ _ (by decide) rfl rfl rfl).trans (hp 33 (by decide) rfl)) un))
  refine JLq (.bool true) (Pu.pickT rfl rfl) <| Za ?_
  exact ⟨.bool true, [], rfl, (Sub.emp Sub.refl), rfl⟩
 ·intro ρ r40 N40 B hB hBa hp hr hr0
  obtain ⟨ρ83, rfl⟩ := Zc (uc (show ρ 87 = .bool true from (hr 34 _ _ (by decide) rfl rfl rfl).trans (hp 34 (by decide) rfl)) un)
  refine JLm (.bool true) <| Za ?_
  exact ⟨.bool true, [], rfl, (Sub.emp Sub.refl), rfl⟩
 ·intro ρ r40 N40 B hB hBa hp hr hr0
  obtain ⟨ρ84, rfl⟩ := Zc (uc (show ρ 6 = .pointer (some ⟨(ZA (r18 6)), 0, none⟩) from hr0 6 (by kernel_rfl)) (uc (show ρ 88 = .bool true from (hr 35 _ _ (by decide) rfl rfl rfl).trans (hp 35 (by decide) rfl)) un))
  refine JLr (Zh Zu rfl (At.bx 102 (Zn ((hB 17 (by decide)).trans rfl))) (Zx p18_2.2.len) <| Za ?_)
  exact ⟨.agg ⟨(Zz (r18 2))⟩, [], rfl, (Sub.emp Sub.refl), rfl⟩
 ·intro ρ r40 N40 B hB hBa hp hr hr0
  obtain ⟨ρ85, rfl⟩ := Zc (uc (show ρ 88 = .bool true from (hr 35 _ _ (by decide) rfl rfl rfl).trans (hp 35 (by decide) rfl)) un)
  refine Zg rfl Tryz.call48 rfl (fun hin => va_ct _ _ (by unfold inI; omega)) rfl ?_
  rintro _ _ ⟨cs86, k86, rfl, rfl, hO86⟩
  refine Za ?_
  exact ⟨.agg ⟨cs86⟩, k86, rfl, Sub.refl, ⟨rfl, hO86⟩⟩
 ·intro ρ r40 N40 B hB hBa hp hr hr0
  obtain ⟨ρ87, rfl⟩ := Zc (uc (show ρ 88 = .bool true from (hr 35 _ _ (by decide) rfl rfl rfl).trans (hp 35 (by decide) rfl)) un)
  refine Zg rfl Tryz.call48 rfl (fun hin => va_ct _ _ (by unfold inI; omega)) rfl ?_
  rintro _ _ ⟨cs88, k88, rfl, rfl, hO88⟩
  refine Za ?_
  exact ⟨.agg ⟨cs88⟩, k88, rfl, Sub.refl, ⟨rfl, hO88⟩⟩
 ·intro ρ r40 N40 B hB hBa hp hr hr0
  have p37 : (r40 37) = .agg ⟨(cel (r40 37))⟩ ∧ OT (eVa 0) (cel (r40 37)) (N40 37) := hp 37 (by decide) rfl
  have p38 : (r40 38) = .agg ⟨(cel (r40 38))⟩ ∧ OT (eVa 4) (cel (r40 38)) (N40 38) := hp 38 (by decide) rfl
  obtain ⟨ρ89, rfl⟩ := Zc (uc (show ρ 88 = .bool true from (hr 35 _ _ (by decide) rfl rfl rfl).trans (hp 35 (by decide) rfl)) (uc (show ρ 90 = .agg ⟨(cel (r40 37))⟩ from (hr 37 _ _ (by decide) rfl rfl rfl).trans p37.1) (uc (show ρ 91 = .agg ⟨(cel (r40 38))⟩ from (hr 38 _ _ (by decide) rfl rfl rfl).trans p38.1) un)))
  refine Zg rfl Tryz.call47 rfl (fun hin => ap_ct _ _ p37.2.len p37.2.ok _ p38.2.len p38.2.ok) rfl ?_
  rintro _ _ ⟨cs90, k90, rfl, rfl, hC90⟩
  replace hC90 : (cs90.length = 36 ∧ okc cs90 ∧ ∀ h, Has k90 h → RT h ((cel (r40 37))) (eVa 0) → RT h ((cel (r40 38))) (eVa 4) → RT h cs90 (eAp (eVa 0) (eVa 4))) := ⟨hC90.1, hC90.2.1, hC90.2.2 (eVa 0) (eVa 4)⟩
  refine Za ?_
  exact ⟨.agg ⟨cs90⟩, k90, rfl, Sub.refl, ⟨rfl, hC90⟩⟩
 ·intro ρ r40 N40 B hB hBa hp hr hr0
  have p39 : (r40 39) = .agg ⟨(cel (r40 39))⟩ ∧ (((cel (r40 39))).length = 36 ∧ okc ((cel (r40 39))) ∧ ∀ h, Has ((N40 39)) h → RT h ((cel (r40 37))) (eVa 0) → RT h ((cel (r40 38))) (eVa 4) → RT h ((cel (r40 39))) (eAp (eVa 0) (eVa 4))) := hp 39 (by decide) rfl
  obtain ⟨ρ91, rfl⟩ := Zc (uc (show ρ 88 = .bool true from (hr 35 _ _ (by decide) rfl rfl rfl).trans (hp 35 (by decide) rfl)) (uc (show ρ 92 = .agg ⟨(cel (r40 39))⟩ from (hr 39 _ _ (by decide) rfl rfl rfl).trans p39.1) un))
  refine Zg rfl Tryz.call46 rfl (fun hin => la_ct _ _ p39.2.1 p39.2.2.1) rfl ?_
  rintro _ _ ⟨cs92, k92, rfl, rfl, hC92⟩
  replace hC92 : (cs92.length = 36 ∧ okc cs92 ∧ ∀ h, Has k92 h → RT h ((cel (r40 39))) (eAp (eVa 0) (eVa 4)) → RT h cs92 (eLa (eAp (eVa 0) (eVa 4)))) := ⟨hC92.1, hC92.2.1, hC92.2.2 (eAp (eVa 0) (eVa 4))⟩
  refine Za ?_
  exact ⟨.agg ⟨cs92⟩, k92, rfl, Sub.refl, ⟨rfl, hC92⟩⟩
 ·intro ρ r40 N40 B hB hBa hp hr hr0
  have p37 : (r40 37) = .agg ⟨(cel (r40 37))⟩ ∧ OT (eVa 0) (cel (r40 37)) (N40 37) := hp 37 (by decide) rfl
  have p38 : (r40 38) = .agg ⟨(cel (r40 38))⟩ ∧ OT (eVa 4) (cel (r40 38)) (N40 38) := hp 38 (by decide) rfl
  have p39 : (r40 39) = .agg ⟨(cel (r40 39))⟩ ∧ (((cel (r40 39))).length = 36 ∧ okc ((cel (r40 39))) ∧ ∀ h, Has ((N40 39)) h → RT h ((cel (r40 37))) (eVa 0) → RT h ((cel (r40 38))) (eVa 4) → RT h ((cel (r40 39))) (eAp (eVa 0) (eVa 4))) := hp 39 (by decide) rfl
  have p40 : (r40 40) = .agg ⟨(cel (r40 40))⟩ ∧ (((cel (r40 40))).length = 36 ∧ okc ((cel (r40 40))) ∧ ∀ h, Has ((N40 40)) h → RT h ((cel (r40 39))) (eAp (eVa 0) (eVa 4)) → RT h ((cel (r40 40))) (eLa (eAp (eVa 0) (eVa 4)))) := hp 40 (by decide) rfl
  obtain ⟨ρ93, rfl⟩ := Zc (uc (show ρ 88 = .bool true from (hr 35 _ _ (by decide) rfl rfl rfl).trans (hp 35 (by decide) rfl)) (uc (show ρ 89 = .agg ⟨(Zz (r18 2))⟩ from (hr 36 _ _ (by decide) rfl rfl rfl).trans (hp 36 (by decide) rfl)) (uc (show ρ 93 = .agg ⟨(cel (r40 40))⟩ from (hr 40 _ _ (by decide) rfl rfl rfl).trans p40.1) un)))
  refine Zg rfl Tryz.call21 rfl (fun hin => bool_r (r := true) (Y8 _ _ _ _ _ (p18_2.2.rd (hin 101 _ (Zn ((hB 16 (by decide)).trans rfl)))) (p40.2.2.2 _ (hin 40 _ (ZQ rfl rfl)) (p39.2.2.2 _ (hin 39 _ (ZQ rfl rfl)) (p37.2.rd (hin 37 _ (ZQ rfl rfl))) (p38.2.rd (hin 38 _ (ZQ rfl rfl)))))) (decide_eq_true rfl)) rfl ?_
  rintro _ _ ⟨rfl, rfl⟩
  refine Za ?_
  exact ⟨.bool true, [], rfl, (Sub.emp Sub.refl), rfl⟩
 ·intro ρ r40 N40 B hB hBa hp hr hr0
  obtain ⟨ρ94, rfl⟩ := Zc (uc (show ρ 88 = .bool true from (hr 35 _ _ (by decide) rfl rfl rfl).trans (hp 35 (by decide) rfl)) (uc (show ρ 94 = .bool true from (hr 41 _ _ (by decide) rfl rfl rfl).trans (hp 41 (by decide) rfl)) un))
  refine JLq (.bool true) (Pu.pickT rfl rfl) <| Za ?_
  exact ⟨.bool true, [], rfl, (Sub.emp Sub.refl), rfl⟩
 ·intro ρ r40 N40 B hB hBa hp hr hr0
  obtain ⟨ρ95, rfl⟩ := Zc (uc (show ρ 95 = .bool true from (hr 42 _ _ (by decide) rfl rfl rfl).trans (hp 42 (by decide) rfl)) un)
  refine JLm (.bool true) <| Za ?_
  exact ⟨.bool true, [], rfl, (Sub.emp Sub.refl), rfl⟩
 ·intro ρ r40 N40 B hB hBa hp hr hr0
  obtain ⟨ρ96, rfl⟩ := Zc (uc (show ρ 8 = .pointer (some ⟨b30, 0, none⟩) from hr0 8 (by kernel_rfl)) (uc (show ρ 96 = .bool true from (hr 43 _ _ (by decide) rfl rfl rfl).trans (hp 43 (by decide) rfl)) un))
  refine JLr (Zh Zu rfl (At.bx 98 (Zn ((hB 13 (by decide)).trans rfl))) (Zx hO29.len) <| Za ?_)
  exact ⟨.agg ⟨cs29⟩, [], rfl, (Sub.emp Sub.refl), rfl⟩
 ·intro ρ r40 N40 B hB hBa hp hr hr0
  obtain ⟨ρ97, rfl⟩ := Zc (uc (show ρ 96 = .bool true from (hr 43 _ _ (by decide) rfl rfl rfl).trans (hp 43 (by decide) rfl)) un)
  refine Zg rfl Tryz.call48 rfl (fun hin => va_ct _ _ (by unfold inI; omega)) rfl ?_
  rintro _ _ ⟨cs98, k98, rfl, rfl, hO98⟩
  refine Za ?_
  exact ⟨.agg ⟨cs98⟩, k98, rfl, Sub.refl, ⟨rfl, hO98⟩⟩
 ·intro ρ r40 N40 B hB hBa hp hr hr0
  obtain ⟨ρ99, rfl⟩ := Zc (uc (show ρ 96 = .bool true from (hr 43 _ _ (by decide) rfl rfl rfl).trans (hp 43 (by decide) rfl)) un)
  refine Zg rfl Tryz.call48 rfl (fun hin => va_ct _ _ (by unfold inI; omega)) rfl ?_
  rintro _ _ ⟨cs100, k100, rfl, rfl, hO100⟩
  refine Za ?_
  exact ⟨.agg ⟨cs100⟩, k100, rfl, Sub.refl, ⟨rfl, hO100⟩⟩
 ·intro ρ r40 N40 B hB hBa hp hr hr0
  have p45 : (r40 45) = .agg ⟨(cel (r40 45))⟩ ∧ OT (eVa 0) (cel (r40 45)) (N40 45) := hp 45 (by decide) rfl
  have p46 : (r40 46) = .agg ⟨(cel (r40 46))⟩ ∧ OT (eVa 3) (cel (r40 46)) (N40 46) := hp 46 (by decide) rfl
  obtain ⟨ρ101, rfl⟩ := Zc (uc (show ρ 96 = .bool true from (hr 43 _ _ (by decide) rfl rfl rfl).trans (hp 43 (by decide) rfl)) (uc (show ρ 98 = .agg ⟨(cel (r40 45))⟩ from (hr 45 _ _ (by decide) rfl rfl rfl).trans p45.1) (uc (show ρ 99 = .agg ⟨(cel (r40 46))⟩ from (hr 46 _ _ (by decide) rfl rfl rfl).trans p46.1) un)))
  refine Zg rfl Tryz.call47 rfl (fun hin => ap_ct _ _ p45.2.len p45.2.ok _ p46.2.len p46.2.ok) rfl ?_
  rintro _ _ ⟨cs102, k102, rfl, rfl, hC102⟩
  replace hC102 : (cs102.length = 36 ∧ okc cs102 ∧ ∀ h, Has k102 h → RT h ((cel (r40 45))) (eVa 0) → RT h ((cel (r40 46))) (eVa 3) → RT h cs102 (eAp (eVa 0) (eVa 3))) := ⟨hC102.1, hC102.2.1, hC102.2.2 (eVa 0) (eVa 3)⟩
  refine Za ?_
  exact ⟨.agg ⟨cs102⟩, k102, rfl, Sub.refl, ⟨rfl, hC102⟩⟩
 ·intro ρ r40 N40 B hB hBa hp hr hr0
  have p47 : (r40 47) = .agg ⟨(cel (r40 47))⟩ ∧ (((cel (r40 47))).length = 36 ∧ okc ((cel (r40 47))) ∧ ∀ h, Has ((N40 47)) h → RT h ((cel (r40 45))) (eVa 0) → RT h ((cel (r40 46))) (eVa 3) → RT h ((cel (r40 47))) (eAp (eVa 0) (eVa 3))) := hp 47 (by decide) rfl
  obtain ⟨ρ103, rfl⟩ := Zc (uc (show ρ 96 = .bool true from (hr 43 _ _ (by decide) rfl rfl rfl).trans (hp 43 (by decide) rfl)) (uc (show ρ 100 = .agg ⟨(cel (r40 47))⟩ from (hr 47 _ _ (by decide) rfl rfl rfl).trans p47.1) un))
  refine Zg rfl Tryz.call46 rfl (fun hin => la_ct _ _ p47.2.1 p47.2.2.1) rfl ?_
  rintro _ _ ⟨cs104, k104, rfl, rfl, hC104⟩
  replace hC104 : (cs104.length = 36 ∧ okc cs104 ∧ ∀ h, Has k104 h → RT h ((cel (r40 47))) (eAp (eVa 0) (eVa 3)) → RT h cs104 (eLa (eAp (eVa 0) (eVa 3)))) := ⟨hC104.1, hC104.2.1, hC104.2.2 (eAp (eVa 0) (eVa 3))⟩
  refine Za ?_
  exact ⟨.agg ⟨cs104⟩, k104, rfl, Sub.refl, ⟨rfl, hC104⟩⟩
 ·intro ρ r40 N40 B hB hBa hp hr hr0
  have p45 : (r40 45) = .agg ⟨(cel (r40 45))⟩ ∧ OT (eVa 0) (cel (r40 45)) (N40 45) := hp 45 (by decide) rfl
  have p46 : (r40 46) = .agg ⟨(cel (r40 46))⟩ ∧ OT (eVa 3) (cel (r40 46)) (N40 46) := hp 46 (by decide) rfl
  have p47 : (r40 47) = .agg ⟨(cel (r40 47))⟩ ∧ (((cel (r40 47))).length = 36 ∧ okc ((cel (r40 47))) ∧ ∀ h, Has ((N40 47)) h → RT h ((cel (r40 45))) (eVa 0) → RT h ((cel (r40 46))) (eVa 3) → RT h ((cel (r40 47))) (eAp (eVa 0) (eVa 3))) := hp 47 (by decide) rfl
  have p48 : (r40 48) = .agg ⟨(cel (r40 48))⟩ ∧ (((cel (r40 48))).length = 36 ∧ okc ((cel (r40 48))) ∧ ∀ h, Has ((N40 48)) h → RT h ((cel (r40 47))) (eAp (eVa 0) (eVa 3)) → RT h ((cel (r40 48))) (eLa (eAp (eVa 0) (eVa 3)))) := hp 48 (by decide) rfl
  obtain ⟨ρ105, rfl⟩ := Zc (uc (show ρ 96 = .bool true from (hr 43 _ _ (by decide) rfl rfl rfl).trans (hp 43 (by decide) rfl)) (uc (show ρ 97 = .agg ⟨cs29⟩ from (hr 44 _ _ (by decide) rfl rfl rfl).trans (hp 44 (by decide) rfl)) (uc (show ρ 101 = .agg ⟨(cel (r40 48))⟩ from (hr 48 _ _ (by decide) rfl rfl rfl).trans p48.1) un)))
  refine Zg rfl Tryz.call21 rfl (fun hin => bool_r (r := true) (Y8 _ _ _ _ _ (hO29.rd (hin 99 _ (Zn ((hB 14 (by decide)).trans rfl)))) (p48.2.2.2 _ (hin 48 _ (ZQ rfl rfl)) (p47.2.2.2 _ (hin 47 _ (ZQ rfl rfl)) (p45.2.rd (hin 45 _ (ZQ rfl rfl))) (p46.2.rd (hin 46 _ (ZQ rfl rfl)))))) (decide_eq_true rfl)) rfl ?_
  rintro _ _ ⟨rfl, rfl⟩
  refine Za ?_
  exact ⟨.bool true, [], rfl, (Sub.emp Sub.refl), rfl⟩
 ·intro ρ r40 N40 B hB hBa hp hr hr0
  obtain ⟨ρ106, rfl⟩ := Zc (uc (show ρ 96 = .bool true from (hr 43 _ _ (by decide) rfl rfl rfl).trans (hp 43 (by decide) rfl)) (uc (show ρ 102 = .bool true from (hr 49 _ _ (by decide) rfl rfl rfl).trans (hp 49 (by decide) rfl)) un))
  refine JLq (.bool true) (Pu.pickT rfl rfl) <| Za ?_
  exact ⟨.bool true, [], rfl, (Sub.emp Sub.refl), rfl⟩
 ·intro ρ r40 N40 B hB hBa hp hr hr0
  obtain ⟨ρ107, rfl⟩ := Zc (uc (show ρ 103 = .bool true from (hr 50 _ _ (by decide) rfl rfl rfl).trans (hp 50 (by decide) rfl)) un)
  refine JLm (.bool true) <| Za ?_
  exact ⟨.bool true, [], rfl, (Sub.emp Sub.refl), rfl⟩
 ·intro ρ r40 N40 B hB hBa hp hr hr0
  obtain ⟨ρ108, rfl⟩ := Zc (uc (show ρ 12 = .pointer (some ⟨b39, 0, none⟩) from hr0 12 (by kernel_rfl)) (uc (show ρ 104 = .bool true from (hr 51 _ _ (by decide) rfl rfl rfl).trans (hp 51 (by decide) rfl)) un))
  refine JLq (.pointer (some ⟨b39, 34, none⟩)) (Yw rfl rfl) <| Za ?_
  exact ⟨.pointer (some ⟨b39, 34, none⟩), [], rfl, (Sub.emp Sub.refl), rfl⟩
 ·intro ρ r40 N40 B hB hBa hp hr hr0
  obtain ⟨ρ109, rfl⟩ := Zc (uc (show ρ 104 = .bool true from (hr 51 _ _ (by decide) rfl rfl rfl).trans (hp 51 (by decide) rfl)) (uc (show ρ 105 = .pointer (some ⟨b39, 34, none⟩) from (hr 52 _ _ (by decide) rfl rfl rfl).trans (hp 52 (by decide) rfl)) un))
  refine JLr (Zf YG rfl (At.bx 85 (Zn ((hB 0 (by decide)).trans rfl))) (get_l (Yu ..)) <| Za ?_)
  exact ⟨ns38, [], rfl, (Sub.emp Sub.refl), rfl⟩
 ·intro ρ r40 N40 B hB hBa hp hr hr0
  obtain ⟨ρ110, rfl⟩ := Zc (uc (show ρ 104 = .bool true from (hr 51 _ _ (by decide) rfl rfl rfl).trans (hp 51 (by decide) rfl)) un)
  refine JLr (Zr (vs := [.string (ltr 1)]) [[.string (ltr 1)]] Tryz.runUnderlying28 el9 rfl rfl (by intro e he; simp only [List.mem_cons, List.not_mem_nil, or_false] at he; subst he; exact rfl) rfl (by decide) fun b111 k111 ho111 hk111 => Za ?_)
  exact ⟨.slice (some ⟨b111, 0, none⟩) 1 1, k111, rfl, Sub.refl, ⟨rfl, hk111, ho111⟩⟩
 ·intro ρ r40 N40 B hB hBa hp hr hr0
  have p54 : (r40 54) = .slice (some ⟨(ZC (r40 54)), 0, none⟩) 1 1 ∧ (N40 54) = [(ZC (r40 54), .cells ⟨List.flatten [[.string (ltr 1)]]⟩ 9 (0, 0))] ∧ Own 9 1 (.slice (some ⟨(ZC (r40 54)), 0, none⟩) 1 1) [[.string (ltr 1)]] (N40 54) := hp 54 (by decide) rfl
  obtain ⟨ρ112, rfl⟩ := Zc (uc (show ρ 104 = .bool true from (hr 51 _ _ (by decide) rfl rfl rfl).trans (hp 51 (by decide) rfl)) (uc (show ρ 106 = ns38 from (hr 53 _ _ (by decide) rfl rfl rfl).trans (hp 53 (by decide) rfl)) (uc (show ρ 107 = .slice (some ⟨(ZC (r40 54)), 0, none⟩) 1 1 from (hr 54 _ _ (by decide) rfl rfl rfl).trans p54.1) un)))
  refine Zg rfl Tryz.call22 rfl (fun hin => bool_r (r := true) (equalS_ct _ _ _ _ _ (Yj hon38 (by simp) (hin 86 _ (Zn ((hB 1 (by decide)).trans rfl)))) (Yj (l := [ltr 1]) p54.2.2 (by simp) (hin 54 _ (ZQ rfl rfl)))) (eqL_true rfl)) rfl ?_
  rintro _ _ ⟨rfl, rfl⟩
  refine Za ?_
  exact ⟨.bool true, [], rfl, (Sub.emp Sub.refl), rfl⟩
 ·intro ρ r40 N40 B hB hBa hp hr hr0
  obtain ⟨ρ113, rfl⟩ := Zc (uc (show ρ 104 = .bool true from (hr 51 _ _ (by decide) rfl rfl rfl).trans (hp 51 (by decide) rfl)) (uc (show ρ 108 = .bool true from (hr 55 _ _ (by decide) rfl rfl rfl).trans (hp 55 (by decide) rfl)) un))
  refine JLq (.bool true) (Pu.pickT rfl rfl) <| Za ?_
  exact ⟨.bool true, [], rfl, (Sub.emp Sub.refl), rfl⟩
 ·intro ρ r40 N40 B hB hBa hp hr hr0
  obtain ⟨ρ114, rfl⟩ := Zc (uc (show ρ 109 = .bool true from (hr 56 _ _ (by decide) rfl rfl rfl).trans (hp 56 (by decide) rfl)) un)
  refine JLm (.bool true) <| Za ?_
  exact ⟨.bool true, [], rfl, (Sub.emp Sub.refl), rfl⟩
 ·intro ρ r40 N40 B hB hBa hp hr hr0
  obtain ⟨ρ115, rfl⟩ := Zc (uc (show ρ 12 = .pointer (some ⟨b39, 0, none⟩) from hr0 12 (by kernel_rfl)) (uc (show ρ 110 = .bool true from (hr 57 _ _ (by decide) rfl rfl rfl).trans (hp 57 (by decide) rfl)) un))
  refine JLq (.pointer (some ⟨b39, 35, none⟩)) (Xk rfl rfl) <| Za ?_
  exact ⟨.pointer (some ⟨b39, 35, none⟩), [], rfl, (Sub.emp Sub.refl), rfl⟩
 ·intro ρ r40 N40 B hB hBa hp hr hr0
  obtain ⟨ρ116, rfl⟩ := Zc (uc (show ρ 110 = .bool true from (hr 57 _ _ (by decide) rfl rfl rfl).trans (hp 57 (by decide) rfl)) (uc (show ρ 111 = .pointer (some ⟨b39, 35, none⟩) from (hr 58 _ _ (by decide) rfl rfl rfl).trans (hp 58 (by decide) rfl)) un))
  refine JLr (Zf ty29 rfl (At.bx 85 (Zn ((hB 0 (by decide)).trans rfl))) (get_l (YI ..)) <| Za ?_)
  exact ⟨nks38, [], rfl, (Sub.emp Sub.refl), rfl⟩
 ·intro ρ r40 N40 B hB hBa hp hr hr0
  obtain ⟨ρ117, rfl⟩ := Zc (uc (show ρ 110 = .bool true from (hr 57 _ _ (by decide) rfl rfl rfl).trans (hp 57 (by decide) rfl)) (uc (show ρ 112 = nks38 from (hr 59 _ _ (by decide) rfl rfl rfl).trans (hp 59 (by decide) rfl)) un))
  obtain ⟨a118, cap118, hv118⟩ := hok38.sl
  rw [(rfl : List.length [_] = 1)] at hv118
  refine JLq (.int .i64 1) (Pu.lenSl Tryz.runUnderlying29 hv118) <| Za ?_
  exact ⟨.int .i64 1, [], rfl, (Sub.emp Sub.refl), rfl⟩
 ·intro ρ r40 N40 B hB hBa hp hr hr0
  obtain ⟨ρ119, rfl⟩ := Zc (uc (show ρ 110 = .bool true from (hr 57 _ _ (by decide) rfl rfl rfl).trans (hp 57 (by decide) rfl)) (uc (show ρ 113 = .int .i64 1 from (hr 60 _ _ (by decide) rfl rfl rfl).trans (hp 60 (by decide) rfl)) un))
  refine JLq (.bool true) (show Pu _ _ _ (.bool (decide ((1 : Int) = 1))) from Pu.eql rfl rfl) <| Za ?_
  exact ⟨.bool true, [], rfl, (Sub.emp Sub.refl), rfl⟩
 ·intro ρ r40 N40 B hB hBa hp hr hr0
  obtain ⟨ρ120, rfl⟩ := Zc (uc (show ρ 110 = .bool true from (hr 57 _ _ (by decide) rfl rfl rfl).trans (hp 57 (by decide) rfl)) (uc (show ρ 114 = .bool true from (hr 61 _ _ (by decide) rfl rfl rfl).trans (hp 61 (by decide) rfl)) un))
  refine JLq (.bool true) (Pu.pickT rfl rfl) <| Za ?_
  exact ⟨.bool true, [], rfl, (Sub.emp Sub.refl), rfl⟩
 ·intro ρ r40 N40 B hB hBa hp hr hr0
  obtain ⟨ρ121, rfl⟩ := Zc (uc (show ρ 115 = .bool true from (hr 62 _ _ (by decide) rfl rfl rfl).trans (hp 62 (by decide) rfl)) un)
  refine JLm (.bool true) <| Za ?_
  exact ⟨.bool true, [], rfl, (Sub.emp Sub.refl), rfl⟩
 ·intro ρ r40 N40 B hB hBa hp hr hr0
  obtain ⟨ρ122, rfl⟩ := Zc (uc (show ρ 12 = .pointer (some ⟨b39, 0, none⟩) from hr0 12 (by kernel_rfl)) (uc (show ρ 116 = .bool true from (hr 63 _ _ (by decide) rfl rfl rfl).trans (hp 63 (by decide) rfl)) un))
  refine JLq (.pointer (some ⟨b39, 35, none⟩)) (Xk rfl rfl) <| Za ?_
  exact ⟨.pointer (some ⟨b39, 35, none⟩), [], rfl, (Sub.emp Sub.refl), rfl⟩
 ·intro ρ r40 N40 B hB hBa hp hr hr0
  obtain ⟨ρ123, rfl⟩ := Zc (uc (show ρ 116 = .bool true from (hr 63 _ _ (by decide) rfl rfl rfl).trans (hp 63 (by decide) rfl)) (uc (show ρ 117 = .pointer (some ⟨b39, 35, none⟩) from (hr 64 _ _ (by decide) rfl rfl rfl).trans (hp 64 (by decide) rfl)) un))
  refine JLr (Zf ty29 rfl (At.bx 85 (Zn ((hB 0 (by decide)).trans rfl))) (get_l (YI ..)) <| Za ?_)
  exact ⟨nks38, [], rfl, (Sub.emp Sub.refl), rfl⟩
 ·intro ρ r40 N40 B hB hBa hp hr hr0
  obtain ⟨ρ124, rfl⟩ := Zc (uc (show ρ 116 = .bool true from (hr 63 _ _ (by decide) rfl rfl rfl).trans (hp 63 (by decide) rfl)) (uc (show ρ 118 = nks38 from (hr 65 _ _ (by decide) rfl rfl rfl).trans (hp 65 (by decide) rfl)) un))
  refine JLq (.pointer (some ⟨b42, 0 + 0 * 37, none⟩)) (Pu.idx 0 Tryz.runUnderlying29 Z6 hv42 rfl (by first | rfl | omega) (by simp)) <| Za ?_
  exact ⟨.pointer (some ⟨b42, 0 + 0 * 37, none⟩), [], rfl, (Sub.emp Sub.refl), rfl⟩
 ·intro ρ r40 N40 B hB hBa hp hr hr0
  obtain ⟨ρ125, rfl⟩ := Zc (uc (show ρ 116 = .bool true from (hr 63 _ _ (by decide) rfl rfl rfl).trans (hp 63 (by decide) rfl)) (uc (show ρ 119 = .pointer (some ⟨b42, 0 + 0 * 37, none⟩) from (hr 66 _ _ (by decide) rfl rfl rfl).trans (hp 66 (by decide) rfl)) un))
  refine JLq (.pointer (some ⟨b42, 0 + 0 * 37 + 34, none⟩)) (Yw rfl rfl) <| Za ?_
  exact ⟨.pointer (some ⟨b42, 0 + 0 * 37 + 34, none⟩), [], rfl, (Sub.emp Sub.refl), rfl⟩
 ·intro ρ r40 N40 B hB hBa hp hr hr0
  obtain ⟨ρ126, rfl⟩ := Zc (uc (show ρ 116 = .bool true from (hr 63 _ _ (by decide) rfl rfl rfl).trans (hp 63 (by decide) rfl)) (uc (show ρ 120 = .pointer (some ⟨b42, 0 + 0 * 37 + 34, none⟩) from (hr 67 _ _ (by decide) rfl rfl rfl).trans (hp 67 (by decide) rfl)) un))
  refine JLr (Zf YG rfl (At.k 87 (Zn ((hB 2 (by decide)).trans rfl)) hm42) (sub_get hs42 (get_l (Yu ..))) <| Za ?_)
  exact ⟨ms38, [], rfl, (Sub.emp Sub.refl), rfl⟩
 ·intro ρ r40 N40 B hB hBa hp hr hr0
  obtain ⟨ρ127, rfl⟩ := Zc (uc (show ρ 116 = .bool true from (hr 63 _ _ (by decide) rfl rfl rfl).trans (hp 63 (by decide) rfl)) un)
  refine JLr (Zr (vs := [.string (ltr 2)]) [[.string (ltr 2)]] Tryz.runUnderlying28 el9 rfl rfl (by intro e he; simp only [List.mem_cons, List.not_mem_nil, or_false] at he; subst he; exact rfl) rfl (by decide) fun b128 k128 ho128 hk128 => Za ?_)
  exact ⟨.slice (some ⟨b128, 0, none⟩) 1 1, k128, rfl, Sub.refl, ⟨rfl, hk128, ho128⟩⟩
 ·intro ρ r40 N40 B hB hBa hp hr hr0
  have p69 : (r40 69) = .slice (some ⟨(ZC (r40 69)), 0, none⟩) 1 1 ∧ (N40 69) = [(ZC (r40 69), .cells ⟨List.flatten [[.string (ltr 2)]]⟩ 9 (0, 0))] ∧ Own 9 1 (.slice (some ⟨(ZC (r40 69)), 0, none⟩) 1 1) [[.string (ltr 2)]] (N40 69) := hp 69 (by decide) rfl
  obtain ⟨ρ129, rfl⟩ := Zc (uc (show ρ 116 = .bool true from (hr 63 _ _ (by decide) rfl rfl rfl).trans (hp 63 (by decide) rfl)) (uc (show ρ 121 = ms38 from (hr 68 _ _ (by decide) rfl rfl rfl).trans (hp 68 (by decide) rfl)) (uc (show ρ 122 = .slice (some ⟨(ZC (r40 69)), 0, none⟩) 1 1 from (hr 69 _ _ (by decide) rfl rfl rfl).trans p69.1) un)))
  refine Zg rfl Tryz.call22 rfl (fun hin => bool_r (r := true) (equalS_ct _ _ _ _ _ (Yj hom38 (by simp) (hin 88 _ (Zn ((hB 3 (by decide)).trans rfl)))) (Yj (l := [ltr 2]) p69.2.2 (by simp) (hin 69 _ (ZQ rfl rfl)))) (eqL_true rfl)) rfl ?_
  rintro _ _ ⟨rfl, rfl⟩
  refine Za ?_
  exact ⟨.bool true, [], rfl, (Sub.emp Sub.refl), rfl⟩
 ·intro ρ r40 N40 B hB hBa hp hr hr0
  obtain ⟨ρ130, rfl⟩ := Zc (uc (show ρ 116 = .bool true from (hr 63 _ _ (by decide) rfl rfl rfl).trans (hp 63 (by decide) rfl)) (uc (show ρ 123 = .bool true from (hr 70 _ _ (by decide) rfl rfl rfl).trans (hp 70 (by decide) rfl)) un))
  refine JLq (.bool true) (Pu.pickT rfl rfl) <| Za ?_
  exact ⟨.bool true, [], rfl, (Sub.emp Sub.refl), rfl⟩
 ·intro ρ r40 N40 B hB hBa hp hr hr0
  obtain ⟨ρ131, rfl⟩ := Zc (uc (show ρ 124 = .bool true from (hr 71 _ _ (by decide) rfl rfl rfl).trans (hp 71 (by decide) rfl)) un)
  refine JLm (.bool true) <| Za ?_
  exact ⟨.bool true, [], rfl, (Sub.emp Sub.refl), rfl⟩
 ·intro ρ r40 N40 B hB hBa hp hr hr0
  obtain ⟨ρ132, rfl⟩ := Zc (uc (show ρ 125 = .bool true from (hr 72 _ _ (by decide) rfl rfl rfl).trans (hp 72 (by decide) rfl)) un)
  refine JLq (.agg ⟨sC zS⟩) (Pu.build (pv := []) (l := sC zS) rfl bld23_) <| Za ?_
  exact ⟨.agg ⟨sC zS⟩, [], rfl, (Sub.emp Sub.refl), rfl⟩
 ·intro ρ r40 N40 B hB hBa hp hr hr0
  obtain ⟨ρ133, rfl⟩ := Zc (uc (show ρ 125 = .bool true from (hr 72 _ _ (by decide) rfl rfl rfl).trans (hp 72 (by decide) rfl)) un)
  refine Zg rfl Tryz.call42 rfl (fun hin => nu_ct _ _ (by unfold inI; omega)) rfl ?_
  rintro _ _ ⟨cs134, k134, rfl, rfl, hO134⟩
  refine Za ?_
  exact ⟨.agg ⟨cs134⟩, k134, rfl, Sub.refl, ⟨rfl, hO134⟩⟩
 ·intro ρ r40 N40 B hB hBa hp hr hr0
  obtain ⟨ρ135, rfl⟩ := Zc (uc (show ρ 125 = .bool true from (hr 72 _ _ (by decide) rfl rfl rfl).trans (hp 72 (by decide) rfl)) un)
  refine Zg rfl Tryz.call48 rfl (fun hin => va_ct _ _ (by unfold inI; omega)) rfl ?_
  rintro _ _ ⟨cs136, k136, rfl, rfl, hO136⟩
  refine Za ?_
  exact ⟨.agg ⟨cs136⟩, k136, rfl, Sub.refl, ⟨rfl, hO136⟩⟩
 ·intro ρ r40 N40 B hB hBa hp hr hr0
  have p74 : (r40 74) = .agg ⟨(cel (r40 74))⟩ ∧ OT (eNu 1) (cel (r40 74)) (N40 74) := hp 74 (by decide) rfl
  have p75 : (r40 75) = .agg ⟨(cel (r40 75))⟩ ∧ OT (eVa 0) (cel (r40 75)) (N40 75) := hp 75 (by decide) rfl
  obtain ⟨ρ137, rfl⟩ := Zc (uc (show ρ 125 = .bool true from (hr 72 _ _ (by decide) rfl rfl rfl).trans (hp 72 (by decide) rfl)) (uc (show ρ 127 = .agg ⟨(cel (r40 74))⟩ from (hr 74 _ _ (by decide) rfl rfl rfl).trans p74.1) (uc (show ρ 128 = .agg ⟨(cel (r40 75))⟩ from (hr 75 _ _ (by decide) rfl rfl rfl).trans p75.1) un)))
  refine JLr (Zr (vs := [.agg ⟨(cel (r40 74))⟩, .agg ⟨(cel (r40 75))⟩]) [(cel (r40 74)), (cel (r40 75))] Tryz.runUnderlying24 el27 rfl rfl (by intro e he; simp only [List.mem_cons, List.not_mem_nil, or_false] at he; rcases he with rfl | rfl <;> first | exact p74.2.len | exact p75.2.len) rfl (by decide) fun b138 k138 ho138 hk138 => Za ?_)
  exact ⟨.slice (some ⟨b138, 0, none⟩) 2 2, k138, rfl, Sub.refl, ⟨rfl, hk138, ho138⟩⟩
 ·intro ρ r40 N40 B hB hBa hp hr hr0
  obtain ⟨ρ139, rfl⟩ := Zc (uc (show ρ 125 = .bool true from (hr 72 _ _ (by decide) rfl rfl rfl).trans (hp 72 (by decide) rfl)) (uc (show ρ 126 = .agg ⟨sC zS⟩ from (hr 73 _ _ (by decide) rfl rfl rfl).trans (hp 73 (by decide) rfl)) (uc (show ρ 129 = .slice (some ⟨(ZC (r40 76)), 0, none⟩) 2 2 from (hr 76 _ _ (by decide) rfl rfl rfl).trans (hp 76 (by decide) rfl).1) un)))
  refine Zg rfl Tryz.call52 rfl (fun hin => ha_ct _ _ _ _ _) rfl ?_
  rintro _ _ ⟨rfl, rfl⟩
  refine Za ?_
  exact ⟨.agg ⟨pkT 12 0 zS (.slice (some ⟨(ZC (r40 76)), 0, none⟩) 2 2) (.slice none 0 0)⟩, [], rfl, (Sub.emp Sub.refl), rfl⟩
 ·intro ρ r40 N40 B hB hBa hp hr hr0
  have p74 : (r40 74) = .agg ⟨(cel (r40 74))⟩ ∧ OT (eNu 1) (cel (r40 74)) (N40 74) := hp 74 (by decide) rfl
  have p75 : (r40 75) = .agg ⟨(cel (r40 75))⟩ ∧ OT (eVa 0) (cel (r40 75)) (N40 75) := hp 75 (by decide) rfl
  have p76 : (r40 76) = .slice (some ⟨(ZC (r40 76)), 0, none⟩) 2 2 ∧ (N40 76) = [(ZC (r40 76), .cells ⟨List.flatten [(cel (r40 74)), (cel (r40 75))]⟩ 27 (0, 0))] ∧ Own 27 36 (.slice (some ⟨(ZC (r40 76)), 0, none⟩) 2 2) [(cel (r40 74)), (cel (r40 75))] (N40 76) := hp 76 (by decide) rfl
  obtain ⟨ρ140, rfl⟩ := Zc (uc (show ρ 125 = .bool true from (hr 72 _ _ (by decide) rfl rfl rfl).trans (hp 72 (by decide) rfl)) (uc (show ρ 130 = .agg ⟨pkT 12 0 zS (.slice (some ⟨(ZC (r40 76)), 0, none⟩) 2 2) (.slice none 0 0)⟩ from (hr 77 _ _ (by decide) rfl rfl rfl).trans (hp 77 (by decide) rfl)) un))
  refine Zg rfl Tryz.call29 rfl (fun hin => int_r (r := 0) (check_ct (.mk 12 0 zS [eNu 1, eVa 0] []) 0 0 _ _ (RT_mk.2 ⟨_, _, rfl, (by unfold inI; omega), (by unfold inI; omega), (Own.rd2 p76.2.2 (hin 76 _ (ZQ rfl rfl)) (p74.2.rd (hin 74 _ (ZQ rfl rfl))) (p75.2.rd (hin 75 _ (ZQ rfl rfl)))), Hs.rdS.nil⟩)) check_h2) rfl ?_
  rintro _ _ ⟨rfl, rfl⟩
  refine Za ?_
  exact ⟨.int .i64 0, [], rfl, (Sub.emp Sub.refl), rfl⟩
 ·intro ρ r40 N40 B hB hBa hp hr hr0
  obtain ⟨ρ141, rfl⟩ := Zc (uc (show ρ 125 = .bool true from (hr 72 _ _ (by decide) rfl rfl rfl).trans (hp 72 (by decide) rfl)) (uc (show ρ 131 = .int .i64 0 from (hr 78 _ _ (by decide) rfl rfl rfl).trans (hp 78 (by decide) rfl)) un))
  refine JLq (.bool true) (show Pu _ _ _ (.bool (decide ((0 : Int) = 0))) from Pu.eql rfl rfl) <| Za ?_
  exact ⟨.bool true, [], rfl, (Sub.emp Sub.refl), rfl⟩
 ·intro ρ r40 N40 B hB hBa hp hr hr0
  obtain ⟨ρ142, rfl⟩ := Zc (uc (show ρ 125 = .bool true from (hr 72 _ _ (by decide) rfl rfl rfl).trans (hp 72 (by decide) rfl)) (uc (show ρ 132 = .bool true from (hr 79 _ _ (by decide) rfl rfl rfl).trans (hp 79 (by decide) rfl)) un))
  refine JLq (.bool true) (Pu.pickT rfl rfl) <| Za ?_
  exact ⟨.bool true, [], rfl, (Sub.emp Sub.refl), rfl⟩
 ·intro ρ r40 N40 B hB hBa hp hr hr0
  obtain ⟨ρ143, rfl⟩ := Zc (uc (show ρ 133 = .bool true from (hr 80 _ _ (by decide) rfl rfl rfl).trans (hp 80 (by decide) rfl)) un)
  refine JLm (.bool true) <| Za ?_
  exact ⟨.bool true, [], rfl, (Sub.emp Sub.refl), rfl⟩
 ·intro ρ r40 N40 B hB hBa hp hr hr0
  obtain ⟨ρ144, rfl⟩ := Zc (uc (show ρ 134 = .bool true from (hr 81 _ _ (by decide) rfl rfl rfl).trans (hp 81 (by decide) rfl)) un)
  refine JLq (.agg ⟨sC zS⟩) (Pu.build (pv := []) (l := sC zS) rfl bld23_) <| Za ?_
  exact ⟨.agg ⟨sC zS⟩, [], rfl, (Sub.emp Sub.refl), rfl⟩
 ·intro ρ r40 N40 B hB hBa hp hr hr0
  obtain ⟨ρ145, rfl⟩ := Zc (uc (show ρ 134 = .bool true from (hr 81 _ _ (by decide) rfl rfl rfl).trans (hp 81 (by decide) rfl)) un)
  refine Zg rfl Tryz.call42 rfl (fun hin => nu_ct _ _ (by unfold inI; omega)) rfl ?_
  rintro _ _ ⟨cs146, k146, rfl, rfl, hO146⟩
  refine Za ?_
  exact ⟨.agg ⟨cs146⟩, k146, rfl, Sub.refl, ⟨rfl, hO146⟩⟩
 ·intro ρ r40 N40 B hB hBa hp hr hr0
  have p83 : (r40 83) = .agg ⟨(cel (r40 83))⟩ ∧ OT (eNu 1) (cel (r40 83)) (N40 83) := hp 83 (by decide) rfl
  obtain ⟨ρ147, rfl⟩ := Zc (uc (show ρ 134 = .bool true from (hr 81 _ _ (by decide) rfl rfl rfl).trans (hp 81 (by decide) rfl)) (uc (show ρ 136 = .agg ⟨(cel (r40 83))⟩ from (hr 83 _ _ (by decide) rfl rfl rfl).trans p83.1) un))
  refine JLr (Zr (vs := [.agg ⟨(cel (r40 83))⟩]) [(cel (r40 83))] Tryz.runUnderlying24 el27 rfl rfl (by intro e he; simp only [List.mem_cons, List.not_mem_nil, or_false] at he; subst he; exact p83.2.len) rfl (by decide) fun b148 k148 ho148 hk148 => Za ?_)
  exact ⟨.slice (some ⟨b148, 0, none⟩) 1 1, k148, rfl, Sub.refl, ⟨rfl, hk148, ho148⟩⟩
 intro ρ r40 N40 hp hr hr0
 have p24 : (r40 24) = .slice (some ⟨(ZC (r40 24)), 0, none⟩) 1 1 ∧ (N40 24) = [(ZC (r40 24), .cells ⟨List.flatten [[.int .i64 0]]⟩ 3 (0, 0))] ∧ Own 3 1 (.slice (some ⟨(ZC (r40 24)), 0, none⟩) 1 1) [[.int .i64 0]] (N40 24) := hp 24 (by decide)
 have p29 : (r40 29) = .agg ⟨(cel (r40 29))⟩ ∧ OT (eVa 0) (cel (r40 29)) (N40 29) := hp 29 (by decide)
 have p30 : (r40 30) = .agg ⟨(cel (r40 30))⟩ ∧ OT (eNu 5) (cel (r40 30)) (N40 30) := hp 30 (by decide)
 have p31 : (r40 31) = .agg ⟨(cel (r40 31))⟩ ∧ (((cel (r40 31))).length = 36 ∧ okc ((cel (r40 31))) ∧ ∀ h, Has ((N40 31)) h → RT h ((cel (r40 29))) (eVa 0) → RT h ((cel (r40 30))) (eNu 5) → RT h ((cel (r40 31))) (eAp (eVa 0) (eNu 5))) := hp 31 (by decide)
 have p32 : (r40 32) = .agg ⟨(cel (r40 32))⟩ ∧ (((cel (r40 32))).length = 36 ∧ okc ((cel (r40 32))) ∧ ∀ h, Has ((N40 32)) h → RT h ((cel (r40 31))) (eAp (eVa 0) (eNu 5)) → RT h ((cel (r40 32))) (eLa (eAp (eVa 0) (eNu 5)))) := hp 32 (by decide)
 have p37 : (r40 37) = .agg ⟨(cel (r40 37))⟩ ∧ OT (eVa 0) (cel (r40 37)) (N40 37) := hp 37 (by decide)
 have p38 : (r40 38) = .agg ⟨(cel (r40 38))⟩ ∧ OT (eVa 4) (cel (r40 38)) (N40 38) := hp 38 (by decide)
 have p39 : (r40 39) = .agg ⟨(cel (r40 39))⟩ ∧ (((cel (r40 39))).length = 36 ∧ okc ((cel (r40 39))) ∧ ∀ h, Has ((N40 39)) h → RT h ((cel (r40 37))) (eVa 0) → RT h ((cel (r40 38))) (eVa 4) → RT h ((cel (r40 39))) (eAp (eVa 0) (eVa 4))) := hp 39 (by decide)
 have p40 : (r40 40) = .agg ⟨(cel (r40 40))⟩ ∧ (((cel (r40 40))).length = 36 ∧ okc ((cel (r40 40))) ∧ ∀ h, Has ((N40 40)) h → RT h ((cel (r40 39))) (eAp (eVa 0) (eVa 4)) → RT h ((cel (r40 40))) (eLa (eAp (eVa 0) (eVa 4)))) := hp 40 (by decide)
 have p45 : (r40 45) = .agg ⟨(cel (r40 45))⟩ ∧ OT (eVa 0) (cel (r40 45)) (N40 45) := hp 45 (by decide)
 have p46 : (r40 46) = .agg ⟨(cel (r40 46))⟩ ∧ OT (eVa 3) (cel (r40 46)) (N40 46) := hp 46 (by decide)
 have p47 : (r40 47) = .agg ⟨(cel (r40 47))⟩ ∧ (((cel (r40 47))).length = 36 ∧ okc ((cel (r40 47))) ∧ ∀ h, Has ((N40 47)) h → RT h ((cel (r40 45))) (eVa 0) → RT h ((cel (r40 46))) (eVa 3) → RT h ((cel (r40 47))) (eAp (eVa 0) (eVa 3))) := hp 47 (by decide)
 have p48 : (r40 48) = .agg ⟨(cel (r40 48))⟩ ∧ (((cel (r40 48))).length = 36 ∧ okc ((cel (r40 48))) ∧ ∀ h, Has ((N40 48)) h → RT h ((cel (r40 47))) (eAp (eVa 0) (eVa 3)) → RT h ((cel (r40 48))) (eLa (eAp (eVa 0) (eVa 3)))) := hp 48 (by decide)
 have p54 : (r40 54) = .slice (some ⟨(ZC (r40 54)), 0, none⟩) 1 1 ∧ (N40 54) = [(ZC (r40 54), .cells ⟨List.flatten [[.string (ltr 1)]]⟩ 9 (0, 0))] ∧ Own 9 1 (.slice (some ⟨(ZC (r40 54)), 0, none⟩) 1 1) [[.string (ltr 1)]] (N40 54) := hp 54 (by decide)
 have p69 : (r40 69) = .slice (some ⟨(ZC (r40 69)), 0, none⟩) 1 1 ∧ (N40 69) = [(ZC (r40 69), .cells ⟨List.flatten [[.string (ltr 2)]]⟩ 9 (0, 0))] ∧ Own 9 1 (.slice (some ⟨(ZC (r40 69)), 0, none⟩) 1 1) [[.string (ltr 2)]] (N40 69) := hp 69 (by decide)
 have p74 : (r40 74) = .agg ⟨(cel (r40 74))⟩ ∧ OT (eNu 1) (cel (r40 74)) (N40 74) := hp 74 (by decide)
 have p75 : (r40 75) = .agg ⟨(cel (r40 75))⟩ ∧ OT (eVa 0) (cel (r40 75)) (N40 75) := hp 75 (by decide)
 have p76 : (r40 76) = .slice (some ⟨(ZC (r40 76)), 0, none⟩) 2 2 ∧ (N40 76) = [(ZC (r40 76), .cells ⟨List.flatten [(cel (r40 74)), (cel (r40 75))]⟩ 27 (0, 0))] ∧ Own 27 36 (.slice (some ⟨(ZC (r40 76)), 0, none⟩) 2 2) [(cel (r40 74)), (cel (r40 75))] (N40 76) := hp 76 (by decide)
 have p83 : (r40 83) = .agg ⟨(cel (r40 83))⟩ ∧ OT (eNu 1) (cel (r40 83)) (N40 83) := hp 83 (by decide)
 have p84 : (r40 84) = .slice (some ⟨(ZC (r40 84)), 0, none⟩) 1 1 ∧ (N40 84) = [(ZC (r40 84), .cells ⟨List.flatten [(cel (r40 83))]⟩ 27 (0, 0))] ∧ Own 27 36 (.slice (some ⟨(ZC (r40 84)), 0, none⟩) 1 1) [(cel (r40 83))] (N40 84) := hp 84 (by decide)
 obtain ⟨ρ149, rfl⟩ := Zc (uc (show ρ 0 = .bool false from hr0 0 (by kernel_rfl)) (uc (show ρ 134 = .bool true from (hr 81 _ _ (by decide) rfl rfl).trans (hp 81 (by decide))) (uc (show ρ 135 = .agg ⟨sC zS⟩ from (hr 82 _ _ (by decide) rfl rfl).trans (hp 82 (by decide))) (uc (show ρ 137 = .slice (some ⟨(ZC (r40 84)), 0, none⟩) 1 1 from (hr 84 _ _ (by decide) rfl rfl).trans p84.1) un))))
 have p40_24 := p24; have p40_29 := p29; have p40_30 := p30; have p40_31 := p31; have p40_32 := p32; have p40_37 := p37; have p40_38 := p38; have p40_39 := p39; have p40_40 := p40; have p40_45 := p45; have p40_46 := p46; have p40_47 := p47; have p40_48 := p48; have p40_54 := p54; have p40_69 := p69; have p40_74 := p74; have p40_75 := p75; have p40_76 := p76; have p40_83 := p83; have p40_84 := p84
 clear hp hr hr0 p24 p29 p30 p31 p32 p37 p38 p39 p40 p45 p46 p47 p48 p54 p69 p74 p75 p76 p83 p84
 refine Zq (M' := [(N40 0), (N40 1), (N40 2), (N40 3), (N40 4), (N40 5), (N40 6), (N40 7), (N40 8), (N40 9), (N40 10), (N40 11), (N40 12), (N40 13), (N40 14), (N40 15), (N40 16), (N40 17), (N40 18), (N40 19), (N40 20), (N40 21), (N40 22), (N40 23), (N40 24), (N40 25), (N40 26), (N40 27), (N40 28), (N40 29), (N40 30), (N40 31), (N40 32), (N40 33), (N40 34), (N40 35), (N40 36), (N40 37), (N40 38), (N40 39), (N40 40), (N40 41), (N40 42), (N40 43), (N40 44), (N40 45), (N40 46), (N40 47), (N40 48), (N40 49), (N40 50), (N40 51), (N40 52), (N40 53), (N40 54), (N40 55), (N40 56), (N40 57), (N40 58), (N40 59), (N40 60), (N40 61), (N40 62), (N40 63), (N40 64), (N40 65), (N40 66), (N40 67), (N40 68), (N40 69), (N40 70), (N40 71), (N40 72), (N40 73), (N40 74), (N40 75), (N40 76), (N40 77), (N40 78), (N40 79), (N40 80), (N40 81), (N40 82), (N40 83), (N40 84), [(b39, .cells ⟨(pkT nk38 nn38 nr38 ns38 nks38) ++ ([ncv38] : List Value)⟩ 32 (0, 0))], nk138, nk238, mk138, mk238, mk338, k37, k36, k35, k34, [(b33, .cells ⟨cs32⟩ 27 (0, 0))], k32, k31, [(b30, .cells ⟨cs29⟩ 27 (0, 0))], k29, (N18 1), (N18 2), [((ZA (r18 6)), .cells ⟨(Zz (r18 2))⟩ 27 (0, 0))], (N7 1), (N7 2), [((ZA (r7 6)), .cells ⟨(Zz (r7 2))⟩ 27 (0, 0))], k6, [(b5, .cells ⟨cs4⟩ 27 (0, 0))], k4, k3, k2, k1]) Sub.refl <| Zq (M' := [(N40 83), (N40 84)]) (Sd (Sd (Sd (Sd (Sd (Sd (Sd (Sd (Sd (Sd (Sd (Sd (Sd (Sd (Sd (Sd (Sd (Sd (Sd (Sd (Sd (Sd (Sd (Sd (Sd (Sd (Sd (Sd (Sd (Sd (Sd (Sd (Sd (Sd (Sd (Sd (Sd (Sd (Sd (Sd (Sd (Sd (Sd (Sd (Sd (Sd (Sd (Sd (Sd (Sd (Sd (Sd (Sd (Sd (Sd (Sd (Sd (Sd (Sd (Sd (Sd (Sd (Sd (Sd (Sd (Sd (Sd (Sd (Sd (Sd (Sd (Sd (Sd (Sd (Sd (Sd (Sd (Sd (Sd (Sd (Sd (Sd (Sd (Sk (Sk Sub.nil))))))))))))))))))))))))))))))))))))))))))))))))))))))))))))))))))))))))))))))))))))) ?_
 show JL _ _ _ [_, _, _, _, _] _ _ _
 refine Zg rfl Tryz.call52 rfl (fun hin => ha_ct _ _ _ _ _) rfl ?_
 rintro _ _ ⟨rfl, rfl⟩
 refine Zg rfl Tryz.call29 rfl (fun hin => int_r (r := 2) (check_ct (.mk 12 0 zS [eNu 1] []) 0 0 _ _ (RT_mk.2 ⟨_, _, rfl, (by unfold inI; omega), (by unfold inI; omega), (Own.rd1 p40_84.2.2 (hin 1 _ rfl) (p40_83.2.rd (hin 0 _ rfl))), Hs.rdS.nil⟩)) check_h1) rfl ?_
 rintro _ _ ⟨rfl, rfl⟩
 refine JLq (.bool true) (show Pu _ _ _ (.bool (decide ((2 : Int) = 2))) from Pu.eql rfl rfl) <| JLq (.bool true) (Pu.pickT rfl rfl) <| JLa (.bool true) <| Za <| Zl <| ⟨.bool true, [], Ret.one rfl (RV.tmp rfl), Sub.nil, ?_⟩
 exact ⟨rfl, rfl⟩
end Go.Proofs.YtmophpgiaiemhaaGreat.Hs
