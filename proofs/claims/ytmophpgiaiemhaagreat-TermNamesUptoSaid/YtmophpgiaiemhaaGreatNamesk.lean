import Derived.Test.YtmophpgiaiemhaaGreatNamesj
/-! Walks, printed by a program of this session's own (gen.py). -/
namespace Go.Proofs.YtmophpgiaiemhaaGreat.Hs
open Go Go.Proofs
set_option maxRecDepth 100000
set_option linter.unusedVariables false
set_option linter.unusedSimpArgs false
attribute [local irreducible] JL J CT wlo DT
set_option maxHeartbeats 4000000 in
theorem namelessR_ct : ∀ (n : Nm) (s : List ByteArray) (cs : List Value) (v : Value) (H : Heap), RN H cs n → Hs.rdS RS 1 H v s → s.length + 2 * sizeT (skN n) ≤ 100000 → CT Tryz.prog 59 ⟨[.agg ⟨cs⟩, v]⟩ [] H (fun r N => ∃ t cs k, r = .tuple ⟨[.agg ⟨cs⟩, iv (nlT n s).2]⟩ ∧ N = [k] ∧ OT t cs k ∧ ((nlT n s).2 = 0 → t = (nlT n s).1)) := by
 intro n
 induction n using Nm.ind with
 | h kind num ref ns kids cases ih ih' =>
 intro s cs v H ht hs hz
 obtain ⟨nv, ks, cv, rfl, hk, hn, hns, hks, hcv⟩ := RN_mk.1 ht
 have hkl := Xx (Y9 kids)
 have hcl := Xy (YF cases)
 rw [sk_len] at hkl
 rw [skC_len] at hcl
 rw [skN, sizeT] at hz
 refine Zm Tryz.func59 rfl rfl <| Zc <| Za <| JLr (Zo (l := pkN kind num ref nv ks cv) rfl rfl fun b1 => JLr (Zn (l := pkT 0 0 zS nS nS) Tryz.zeroValue27 rfl fun b2 => JLA rfl <| Zb <| Zc <| Za <| JLq (pp b1 0) (fa43_0 rfl rfl) <| JLr (Ze ty3 rfl (At.bx 1 rfl) (pkN_0 ..) <| JLq (pp b1 1) (fa43_1 rfl rfl) <| JLr (Ze ty3 rfl (At.bx 1 rfl) (pkN_1 ..) ?_))))
 refine JLq (pp b1 2) (fa43_2 rfl rfl) <| JLr (Zg Xm rfl (At.bx 1 rfl) (pkN_2 ..) <| JLq (.agg ⟨pkT kind num ref nS nS⟩) (Pu.build (pv := [(0, iv kind), (1, iv num), (2, .agg ⟨sC ref⟩)]) (l := pkT kind num ref nS nS) rfl (bld27_0_1_2 _ _ _)) <| JLr (Zn (l := pkT 0 0 zS nS nS) Tryz.zeroValue27 rfl fun b3 => JLr (Zd 0 (vs := pkT kind num ref nS nS) (l := pkT kind num ref nS nS) Zs rfl rfl rfl rfl rfl (ZI rfl rfl) (Yk ..) <| Zb <| Zc <| Zc <| ZF mixed #[0, 1, 3, 0, 8, 31] 5 [some 24, some 25, some 26, some 27, some 28] [] [(4, fun _ _ vw qw => vw = iv (Ys kind kids.length) ∧ qw = [])] rfl (by kernel_rfl) rfl (by kernel_rfl) <| Dq (pp b1 34) (fun _ => fa43_3 rfl rfl) <| Dl1 Yy (At.bx 2 rfl) (Xw ..) ?_)))
 obtain ⟨a5, cap5, hv5⟩ := hns.rd.sl
 have hle5 := hns.rd.le
 refine Dn (fun _ => Pu.lenSl Tryz.runUnderlying28 hv5) <| Dl Y8 (At.bx 2 rfl) (XA ..) <| Dc rfl Tryz.call103 (fun _ => rfl) (fun hin => bindersR_ct (.mk kind num ref ns kids cases) _ _ (RN.mono (Hle.hu _ _) (RN_mk.2 ⟨_, _, _, rfl, hk, hn, hns, hks, hcv⟩)) (show kids.length ≤ 1000000 by omega)) ?_
 rintro _ _ ⟨rfl, rfl⟩
 refine ZL (M' := [(BX b3 (pkT kind num ref nS nS) 27), (BX b2 (pkT 0 0 zS nS nS) 27), (BX b1 (pkN kind num ref nv ks cv) 43)]) rfl ?_
 show JL _ _ _ [_] _ _ _
 refine JLn (Pu.neq rfl rfl) <| Zb <| Zf rfl (fun h6 => ?_) (fun h6 => ?_)
 ·replace h6 := nt h6
  replace h6 := df h6
  refine Zc <| Za <| JLr (Zg Zs rfl (At.bx 0 rfl) (Z9 ..) <| JLr (Zd 1 (vs := pkT kind num ref nS nS) (l := pkT kind num ref nS nS) Zs rfl rfl rfl rfl rfl (ZI rfl rfl) (Yk ..) <| JLA rfl <| Zb <| Zh <| ⟨.tuple ⟨[.agg ⟨pkT kind num ref nS nS⟩, iv 2]⟩, [[]], Ret.two rfl (RV.cell Zs rfl (At.bx 1 rfl) (Z9 ..)) (RV.tmp rfl), (Sub.emp Sub.nil), ?_⟩))
  have hx : nlT (.mk kind num ref ns kids cases) s = (zT, 2) := nl_e2a h6
  exact ⟨_, _, _, by rw [hx], rfl, OT_mk.2 ⟨_, _, _, _, _, _, _, _, rfl, hk, hn, Own.nil, OTs.nil, Own.nil, OCs.nil, by simp, (show ([] : List Tm).length ≤ 9223372036854775807 by first | omega | simp), (show ([] : List (Pt × Tm)).length ≤ 9223372036854775807 by first | omega | simp)⟩, fun q => by rw [hx] at q; exact absurd q (by first | decide | assumption)⟩
 replace h6 := nf h6
 replace h6 := dt h6
 refine Zi <| Zc <| Zc ?_
 have hq1 : (ns.length : Int) = Ys kind kids.length := by have := h6; omega
 refine Za <| JLA rfl <| Zb <| Zl <| ZE (fun k ρ M => ∃ (j : Nat), ρ 1 = v ∧ ρ 2 = pp b1 0 ∧ ρ 4 = pp b2 0 ∧ ρ 5 = iv 0 ∧ ρ 6 = pp b3 0 ∧ ρ 7 = iv ((j : Int)) ∧ Sub [(BX b3 (pkT kind num ref nS nS) 27), (BX b2 (pkT 0 0 zS nS nS) 27), (BX b1 (pkN kind num ref nv ks cv) 43)] M ∧ j ≤ cases.length ∧ (cases.take j).all fitC = true ∧ k = cases.length - j) _ ⟨0, rfl, rfl, rfl, rfl, rfl, rfl, (Sk (Sk (Sk Sub.nil))), Nat.zero_le _, (by simp), rfl⟩ ?_
 rintro _ ρ7 _ ⟨j, e8, e9, e10, e11, e12, e13, hm14, hj, hfit, rfl⟩
 obtain ⟨ρ15, rfl⟩ := Zr (uc e8 (uc e9 (uc e10 (uc e11 (uc e12 (uc e13 un))))))
 clear e8 e9 e10 e11 e12 e13
 refine ZJ hm14 ?_
 have hlen := hcv.le
 refine Zc <| Zc <| Za <| JLM rfl <| JLq (pp b1 36) (fa43_5 rfl rfl) <| JLr (Ze ty41 rfl (At.bx 2 rfl) (YP ..) ?_)
 obtain ⟨a16, cap16, hv16⟩ := hcv.sl
 have hle16 := hcv.le
 refine JLn (Pu.lenSl Tryz.runUnderlying41 hv16) <| JLn (Pu.lss rfl rfl) <| Zb <| Zf rfl (fun h17 => ?_) (fun h17 => ?_)
 ·replace h17 := dt h17
  have h17n : j < cases.length := by omega
  have hz1 := skC_mem _ _ (List.getElem_mem h17n)
  have hm1 := YS (cases[j]).1
  refine Zi <| Zc <| Zl <| Zc <| ZF mixed #[0, 1, 0, 7, 15, 31, 63, 0, 128, 0, 896, 1920, 3968, 8064, 16383] 14 [some 38, some 39, some 40, some 41, some 42, some 43, some 44, some 45, some 46, some 47, some 48, some 49, some 50, some 51] [] [(13, fun _ _ vw qw => vw = iv ((binds (cases[j].1) : Int)) ∧ qw = [])] rfl (by kernel_rfl) rfl (by kernel_rfl) <| Dq (pp b1 36) (fun _ => fa43_5 rfl rfl) <| Dl1 ty41 (At.bx 2 rfl) (YP ..) <| DM (fun _ => rfl) ?_
  obtain ⟨b21, o21, cap21, row21, T21, fr21, cs21, hv21, hb21, hs21, hE21⟩ := hcv.get j (by first | assumption | omega | decide | simp)
  obtain ⟨ca21, va21, cb21, rfl, hA21, hV21, hB21⟩ := hE21
  refine Dq (pp b21 (o21 + j * 73)) (fun _ => Pu.idx j Tryz.runUnderlying41 ty100 hv21 rfl rfl (by first | assumption | omega | decide | simp)) <| Dq (pp b21 (o21 + j * 73 + 35)) (fun _ => fa100_1 rfl rfl) <| Dl1 Yy (At.im hb21) (sub_get hs21 (get_r (n := 35) (i := 0) (Zu hA21) rfl)) ?_
  obtain ⟨a22, cap22, hv22⟩ := hV21.sl
  have hle22 := hV21.le
  refine Dn (fun _ => Pu.lenSl Tryz.runUnderlying28 hv22) <| Dq (pp b1 36) (fun _ => fa43_5 rfl rfl) <| Dl1 ty41 (At.bx 2 rfl) (YP ..) <| DM (fun _ => rfl) ?_
  obtain ⟨b23, o23, cap23, row23, T23, fr23, cs23, hv23, hb23, hs23, hE23⟩ := hcv.get j (by first | assumption | omega | decide | simp)
  obtain ⟨ca23, va23, cb23, rfl, hA23, hV23, hB23⟩ := hE23
  refine Dq (pp b23 (o23 + j * 73)) (fun _ => Pu.idx j Tryz.runUnderlying41 ty100 hv23 rfl rfl (by first | assumption | omega | decide | simp)) <| Dq (pp b23 (o23 + j * 73)) (fun _ => fa100_0 rfl rfl) <| Dl Z6 (At.im hb23) (sub_sub0 hs23 (YE (Zu hA23))) <| Dc rfl Tryz.call100 (fun _ => rfl) (fun hin => bindsR_ct _ _ _ (RP.mono (Hle.hu _ _) hA23) (by omega)) ?_
  rintro _ _ ⟨rfl, rfl⟩
  refine ZL (M' := [(BX b3 (pkT kind num ref nS nS) 27), (BX b2 (pkT 0 0 zS nS nS) 27), (BX b1 (pkN kind num ref nv ks cv) 43)]) rfl ?_
  show JL _ _ _ [_] _ _ _
  refine JLn (Pu.neq rfl rfl) <| Zb <| Zf rfl (fun h24 => ?_) (fun h24 => ?_)
  ·replace h24 := nt h24
   replace h24 := df h24
   refine Zc <| Za <| JLr (Zg Zs rfl (At.bx 0 rfl) (Z9 ..) <| JLr (Zd 1 (vs := pkT kind num ref nS nS) (l := pkT kind num ref nS nS) Zs rfl rfl rfl rfl rfl (ZI rfl rfl) (Yk ..) <| JLA rfl <| Zb <| Zh <| ⟨.tuple ⟨[.agg ⟨pkT kind num ref nS nS⟩, iv 2]⟩, [[]], Ret.two rfl (RV.cell Zs rfl (At.bx 1 rfl) (Z9 ..)) (RV.tmp rfl), (Sub.emp Sub.nil), ?_⟩))
   have hx : nlT (.mk kind num ref ns kids cases) s = (zT, 2) := nl_e2b (fit_bad h17n h24)
   exact ⟨_, _, _, by rw [hx], rfl, OT_mk.2 ⟨_, _, _, _, _, _, _, _, rfl, hk, hn, Own.nil, OTs.nil, Own.nil, OCs.nil, by simp, (show ([] : List Tm).length ≤ 9223372036854775807 by first | omega | simp), (show ([] : List (Pt × Tm)).length ≤ 9223372036854775807 by first | omega | simp)⟩, fun q => by rw [hx] at q; exact absurd q (by first | decide | assumption)⟩
  replace h24 := nf h24
  replace h24 := dt h24
  refine Zi <| Za <| JLM rfl <| JLn (Pu.inc rfl rfl (by omega)) <| JLA rfl <| Zb <| ⟨_, ?_, (j + 1), rfl, rfl, rfl, rfl, rfl, rfl, (Sk (Sk (Sk Sub.nil))), ?_, ?_, rfl⟩
  ·omega
  ·omega
  exact fit_snoc h17n hfit h24
 replace h17 := df h17
 have h17n : cases.length ≤ j := by omega
 refine Zy _ rfl <| Zc <| Zc ?_
 have hq2 : cases.all fitC = true := by rw [List.take_of_length_le h17n] at hfit; exact hfit
 refine Za <| JLq (pp b1 0) (fa43_0 rfl rfl) <| JLr (Ze ty3 rfl (At.bx 2 rfl) (pkN_0 ..) <| JLn (Pu.eql rfl rfl) <| Zb <| J_weak (N := fun ρ M => ∃ (qx : Int), (qx = (if kind = 1 then YN (ns.getD 0 ltr0) s 0 else num)) ∧ (¬ (kind = 1 ∧ ¬ num = 0)) ∧ (¬ (kind = 1 ∧ YN (ns.getD 0 ltr0) s 0 < 0)) ∧ (inI qx) ∧ ρ 1 = v ∧ ρ 2 = pp b1 0 ∧ ρ 4 = pp b2 0 ∧ ρ 5 = iv 0 ∧ ρ 6 = pp b3 0 ∧ M = [(BX b3 (pkT kind qx ref nS nS) 27), (BX b2 (pkT 0 0 zS nS nS) 27), (BX b1 (pkN kind num ref nv ks cv) 43)]) ?_ ?_)
 ·refine Zf rfl (fun h25 => ?_) (fun h25 => ?_)
  ·replace h25 := dt h25
   refine Zc <| Zc ?_
   have hk1 : kind = 1 := h25
   have hns1 : 0 < ns.length := by rw [hk1, many_one] at hq1; omega
   have hg0 := getD0 hns1
   refine Za <| JLq (pp b1 1) (fa43_1 rfl rfl) <| JLr (Ze ty3 rfl (At.bx 2 rfl) (pkN_1 ..) <| JLn (Pu.neq rfl rfl) <| Zb <| Zf rfl (fun h26 => ?_) (fun h26 => ?_))
   ·replace h26 := nt h26
    replace h26 := df h26
    refine Zc <| Za <| JLr (Zg Zs rfl (At.bx 0 rfl) (Z9 ..) <| JLr (Zd 1 (vs := pkT kind num ref nS nS) (l := pkT kind num ref nS nS) Zs rfl rfl rfl rfl rfl (ZI rfl rfl) (Yk ..) <| JLA rfl <| Zb <| Zh <| ⟨.tuple ⟨[.agg ⟨pkT kind num ref nS nS⟩, iv 7]⟩, [[]], Ret.two rfl (RV.cell Zs rfl (At.bx 1 rfl) (Z9 ..)) (RV.tmp rfl), (Sub.emp Sub.nil), ?_⟩))
    have hx : nlT (.mk kind num ref ns kids cases) s = (zT, 7) := nl_e7 hq1 hq2 ⟨hk1, h26⟩
    exact ⟨_, _, _, by rw [hx], rfl, OT_mk.2 ⟨_, _, _, _, _, _, _, _, rfl, hk, hn, Own.nil, OTs.nil, Own.nil, OCs.nil, by simp, (show ([] : List Tm).length ≤ 9223372036854775807 by first | omega | simp), (show ([] : List (Pt × Tm)).length ≤ 9223372036854775807 by first | omega | simp)⟩, fun q => by rw [hx] at q; exact absurd q (by first | decide | assumption)⟩
   replace h26 := nf h26
   replace h26 := dt h26
   refine Zi <| Zc <| Zl ?_
   have hnum0 : num = 0 := by have := h26; simp_all
   refine ZJ (M' := [(BX b3 (pkT kind 0 ref nS nS) 27), (BX b2 (pkT 0 0 zS nS nS) 27), (BX b1 (pkN kind num ref nv ks cv) 43)]) (by rw [hnum0]; exact Sub.refl) <| ZE (fun k ρ M => ∃ (q : Nat), ρ 1 = v ∧ ρ 2 = pp b1 0 ∧ ρ 4 = pp b2 0 ∧ ρ 5 = iv 0 ∧ ρ 6 = pp b3 0 ∧ Sub [(BX b3 (pkT kind ((q : Int)) ref nS nS) 27), (BX b2 (pkT 0 0 zS nS nS) 27), (BX b1 (pkN kind num ref nv ks cv) 43)] M ∧ q ≤ s.length ∧ YN ns[0] s 0 = YN ns[0] (s.drop q) q ∧ k = s.length - q) _ ⟨0, rfl, rfl, rfl, rfl, rfl, (Sk (Sk (Sk Sub.nil))), (Nat.zero_le _), rfl, rfl⟩ ?_
   rintro _ ρ27 _ ⟨q, e28, e29, e30, e31, e32, hm33, hq, hfq, rfl⟩
   obtain ⟨ρ34, rfl⟩ := Zr (uc e28 (uc e29 (uc e30 (uc e31 (uc e32 un)))))
   clear e28 e29 e30 e31 e32
   refine ZJ hm33 <| Zc <| Zc ?_
   cases h35 : (decide ((q : Int) < (s.length : Int))) with
   | true =>
    replace h35 := dt h35
    have h35n : q < s.length := by omega
    refine ZF mixed #[0, 1, 0, 4, 15, 31, 63, 63, 191, 511, 1023, 63, 2111, 6207, 14399, 32767, 65535] 15 [some 61, some 62, some 63, some 64, some 65, some 66, some 67, some 68, some 69, some 70, some 71, some 72, some 73, some 74, some 75] [] [] rfl (by kernel_rfl) rfl (by kernel_rfl) <| Dq (pp b3 1) (fun _ => ZZ rfl rfl) <| Dl1 ty3 (At.bx 0 rfl) (Yh ..) <| Dm v ?_
    obtain ⟨a39, cap39, hv39⟩ := hs.sl
    have hle39 := hs.le
    refine Dn (fun _ => Pu.lenSl Tryz.runUnderlying28 hv39) <| Dn (fun _ => Pu.lss rfl rfl |>.cast (by rw [decide_eq_true h35])) <| DM (fun _ => rfl) <| Dm v <| Dq (pp b3 1) (fun _ => ZZ rfl rfl) <| Dl1 ty3 (At.bx 0 rfl) (Yh ..) ?_
    obtain ⟨b40, o40, cap40, row40, T40, fr40, cs40, hv40, hb40, hs40, hE40⟩ := hs.get q (by first | assumption | omega | decide | simp)
    refine Dq (pp b40 (o40 + q * 1)) (fun _ => Pu.idx q Tryz.runUnderlying28 ty9 hv40 rfl rfl (by first | assumption | omega | decide | simp)) <| Dl1 ty9 (At.im hb40) (Yi ((show cs40 = [Value.string (s[q])] from hE40) ▸ hs40)) <| Dq (pp b1 34) (fun _ => fa43_3 rfl rfl) <| Dl1 Yy (At.bx 2 rfl) (Xw ..) ?_
    obtain ⟨b41, o41, cap41, row41, T41, fr41, cs41, hv41, hb41, hs41, hE41⟩ := hns.rd.get 0 (by first | assumption | omega | decide | simp)
    refine Dq (pp b41 (o41 + 0 * 1)) (fun _ => Pu.idx 0 Tryz.runUnderlying28 ty9 hv41 rfl rfl (by first | assumption | omega | decide | simp)) <| Dl1 ty9 (At.im hb41) (Yi ((show cs41 = [Value.string (ns[0])] from hE41) ▸ hs41)) <| ZL (M' := [(BX b3 (pkT kind ((q : Int)) ref nS nS) 27), (BX b2 (pkT 0 0 zS nS nS) 27), (BX b1 (pkN kind num ref nv ks cv) 43)]) rfl ?_
    show JL _ _ _ [_, _] _ _ _
    refine JLn (Pu.neqS rfl rfl) <| JLq (.bool (!decide (s[q] = ns[0]))) (Pu.pickT rfl rfl) <| Zb <| Zf rfl (fun h42 => ?_) (fun h42 => ?_)
    ·replace h42 := nt h42
     replace h42 := df h42
     refine Zi <| Zl <| Za <| JLq (pp b3 1) (ZZ rfl rfl) <| JLr (Ze ty3 rfl (At.bx 0 rfl) (Yh ..) <| JLn (Pu.inc rfl rfl (by omega)) <| JLq (pp b3 1) (ZZ rfl rfl) <| JLr (Zd 0 (vs := [iv (((q + 1 : Nat) : Int))]) (l := pkT kind (((q + 1 : Nat) : Int)) ref nS nS) ty3 rfl rfl rfl rfl rfl (Zk rfl Zq) (pkT_s1 ..) <| Zb <| ⟨_, ?_, (q + 1), rfl, rfl, rfl, rfl, rfl, (Sk (Sk (Sk Sub.nil))), ?_, ?_, rfl⟩))
     ·omega
     ·omega
     rw [hfq, fstS_at (by omega), if_neg (by have := h42; simp_all)]
    replace h42 := nf h42
    replace h42 := dt h42
    refine Zy _ rfl <| Zc <| Za <| JLq (pp b3 1) (ZZ rfl rfl) <| JLr (Ze ty3 rfl (At.bx 0 rfl) (Yh ..) <| JLm v ?_)
    obtain ⟨a43, cap43, hv43⟩ := hs.sl
    have hle43 := hs.le
    refine JLn (Pu.lenSl Tryz.runUnderlying28 hv43) <| JLn (Pu.eql rfl rfl) <| Zb <| Zf rfl (fun h44 => ?_) (fun h44 => ?_)
    ·replace h44 := dt h44
     refine Zc <| Za <| JLr (Zg Zs rfl (At.bx 0 rfl) (Z9 ..) <| JLr (Zd 1 (vs := pkT kind ((q : Int)) ref nS nS) (l := pkT kind ((q : Int)) ref nS nS) Zs rfl rfl rfl rfl rfl (ZI rfl rfl) (Yk ..) <| JLA rfl <| Zb <| Zh <| ⟨.tuple ⟨[.agg ⟨pkT kind ((q : Int)) ref nS nS⟩, iv 1]⟩, [[]], Ret.two rfl (RV.cell Zs rfl (At.bx 1 rfl) (Z9 ..)) (RV.tmp rfl), (Sub.emp Sub.nil), ?_⟩))
     have hx : nlT (.mk kind num ref ns kids cases) s = (zT, 1) := nl_e1 hq1 hq2 (fun q => q.2 hnum0) ⟨hk1, by rw [hg0, hfq, Yt (by omega), fstS_nil]; decide⟩
     exact ⟨_, _, _, by rw [hx], rfl, OT_mk.2 ⟨_, _, _, _, _, _, _, _, rfl, hk, (by unfold inI; omega), Own.nil, OTs.nil, Own.nil, OCs.nil, by simp, (show ([] : List Tm).length ≤ 9223372036854775807 by first | omega | simp), (show ([] : List (Pt × Tm)).length ≤ 9223372036854775807 by first | omega | simp)⟩, fun q => by rw [hx] at q; exact absurd q (by first | decide | assumption)⟩
    replace h44 := df h44
    refine Zi ?_
    have hfq2 : YN ns[0] s 0 = (q : Int) := by first | (exfalso; omega) | (rw [hfq, fstS_at (by omega), if_pos (by assumption)])
    exact ⟨((q : Int)), (by rw [if_pos hk1, hg0, hfq2]), (fun z => z.2 hnum0), (fun z => by rw [hg0, hfq2] at z; have := z.2; omega), (by unfold inI; omega), rfl, rfl, rfl, rfl, rfl, rfl⟩
   | false =>
    replace h35 := df h35
    have h35n : s.length ≤ q := by omega
    refine ZF mixed #[0, 1, 0, 4, 15, 31, 63, 63, 191, 511, 1023, 63, 2111, 6207, 14399, 32767, 65535] 15 [some 61, some 62, some 63, some 64, some 65, some 66, some 67, some 68, some 69, some 70, some 71, some 72, some 73, some 74, some 75] [] [] rfl (by kernel_rfl) rfl (by kernel_rfl) <| Dq (pp b3 1) (fun _ => ZZ rfl rfl) <| Dl1 ty3 (At.bx 0 rfl) (Yh ..) <| Dm v ?_
    obtain ⟨a46, cap46, hv46⟩ := hs.sl
    have hle46 := hs.le
    refine Dn (fun _ => Pu.lenSl Tryz.runUnderlying28 hv46) <| Dn (fun _ => Pu.lss rfl rfl |>.cast (by rw [decide_eq_false h35])) <| DM (fun _ => rfl) <| Yv rfl (fun _ => rfl) <| Yv rfl (fun _ => rfl) <| Yv rfl (fun _ => rfl) <| Yv rfl (fun _ => rfl) <| Yv rfl (fun _ => rfl) <| Yv rfl (fun _ => rfl) <| Yv rfl (fun _ => rfl) <| Yv rfl (fun _ => rfl) <| Yv rfl (fun _ => rfl) <| ZL (M' := [(BX b3 (pkT kind ((q : Int)) ref nS nS) 27), (BX b2 (pkT 0 0 zS nS nS) 27), (BX b1 (pkN kind num ref nv ks cv) 43)]) rfl ?_
    show JL _ _ _ [_, _] _ _ _
    refine ZC rfl <| JLq (.bool false) (Pu.pickF rfl rfl) <| Zb <| Zf (b := false) rfl (fun h => absurd h (by simp)) (fun _ => Zy _ rfl <| Zc <| Za <| JLq (pp b3 1) (ZZ rfl rfl) <| JLr (Ze ty3 rfl (At.bx 0 rfl) (Yh ..) <| JLm v ?_))
    obtain ⟨a47, cap47, hv47⟩ := hs.sl
    have hle47 := hs.le
    refine JLn (Pu.lenSl Tryz.runUnderlying28 hv47) <| JLn (Pu.eql rfl rfl) <| Zb <| Zf rfl (fun h48 => ?_) (fun h48 => ?_)
    ·replace h48 := dt h48
     refine Zc <| Za <| JLr (Zg Zs rfl (At.bx 0 rfl) (Z9 ..) <| JLr (Zd 1 (vs := pkT kind ((q : Int)) ref nS nS) (l := pkT kind ((q : Int)) ref nS nS) Zs rfl rfl rfl rfl rfl (ZI rfl rfl) (Yk ..) <| JLA rfl <| Zb <| Zh <| ⟨.tuple ⟨[.agg ⟨pkT kind ((q : Int)) ref nS nS⟩, iv 1]⟩, [[]], Ret.two rfl (RV.cell Zs rfl (At.bx 1 rfl) (Z9 ..)) (RV.tmp rfl), (Sub.emp Sub.nil), ?_⟩))
     have hx : nlT (.mk kind num ref ns kids cases) s = (zT, 1) := nl_e1 hq1 hq2 (fun q => q.2 hnum0) ⟨hk1, by rw [hg0, hfq, Yt (by omega), fstS_nil]; decide⟩
     exact ⟨_, _, _, by rw [hx], rfl, OT_mk.2 ⟨_, _, _, _, _, _, _, _, rfl, hk, (by unfold inI; omega), Own.nil, OTs.nil, Own.nil, OCs.nil, by simp, (show ([] : List Tm).length ≤ 9223372036854775807 by first | omega | simp), (show ([] : List (Pt × Tm)).length ≤ 9223372036854775807 by first | omega | simp)⟩, fun q => by rw [hx] at q; exact absurd q (by first | decide | assumption)⟩
    replace h48 := df h48
    refine Zi ?_
    have hfq2 : YN ns[0] s 0 = (q : Int) := by first | (exfalso; omega) | (rw [hfq, fstS_at (by omega), if_pos (by assumption)])
    exact ⟨((q : Int)), (by rw [if_pos hk1, hg0, hfq2]), (fun z => z.2 hnum0), (fun z => by rw [hg0, hfq2] at z; have := z.2; omega), (by unfold inI; omega), rfl, rfl, rfl, rfl, rfl, rfl⟩
  replace h25 := df h25
  refine Zi ?_
  exact ⟨num, (if_neg h25).symm, (fun q => h25 q.1), (fun q => h25 q.1), hn, rfl, rfl, rfl, rfl, rfl, rfl⟩
 rintro ρ49 _ ⟨qx, hqx, hq3, hq4, hnx, e50, e51, e52, e53, e54, rfl⟩
 obtain ⟨ρ55, rfl⟩ := Zr (uc e50 (uc e51 (uc e52 (uc e53 (uc e54 un)))))
 clear e50 e51 e52 e53 e54
 refine Zc <| Za <| JLA rfl <| Zb <| Zc <| Zc <| Za <| JLA rfl <| Zb <| Zl <| ZE (fun k ρ M => ∃ (j : Nat) (ts : List Tm) (w : Value) (es : List (List Value)) (q1 q2 : Zj), ρ 1 = v ∧ ρ 2 = pp b1 0 ∧ ρ 4 = pp b2 0 ∧ ρ 5 = iv 0 ∧ ρ 6 = pp b3 0 ∧ ρ 8 = iv (((atN kind j : Nat) : Int)) ∧ ρ 9 = iv ((j : Int)) ∧ Sub [(BX b3 (pkT kind qx ref w nS) 27), q1, q2, (BX b2 (pkT 0 0 zS nS nS) 27), (BX b1 (pkN kind num ref nv ks cv) 43)] M ∧ j ≤ kids.length ∧ Own 27 36 w es q1 ∧ OTs ts es q2 ∧ XF kind s ns 0 kids = (ts ++ (XF kind s (ns.drop (atN kind j)) j (kids.drop j)).1, (XF kind s (ns.drop (atN kind j)) j (kids.drop j)).2) ∧ ts.length = j ∧ k = kids.length - j) _ ⟨0, [], nS, [], [], [], rfl, rfl, rfl, rfl, rfl, rfl, rfl, (Sk (Sub.emp (Sub.emp (Sk (Sk Sub.nil))))), Nat.zero_le _, Own.nil, OTs.nil, (by simp [atN]), rfl, rfl⟩ ?_
 rintro _ ρ56 _ ⟨j, ts, w, es, q1, q2, e57, e58, e59, e60, e61, e62, e63, hm64, hj, ho1, hop, hinv, hlt, rfl⟩
 obtain ⟨ρ65, rfl⟩ := Zr (uc e57 (uc e58 (uc e59 (uc e60 (uc e61 (uc e62 (uc e63 un)))))))
 clear e57 e58 e59 e60 e61 e62 e63
 refine ZJ hm64 <| Zc <| Zc <| Za <| JLM rfl <| JLq (pp b1 35) (fa43_4 rfl rfl) <| JLr (Ze ty40 rfl (At.bx 4 rfl) (Xa ..) ?_)
 obtain ⟨a66, cap66, hv66⟩ := hks.sl
 have hle66 := hks.le
 refine JLn (Pu.lenSl Tryz.runUnderlying40 hv66) <| JLn (Pu.lss rfl rfl) <| Zb <| Zf rfl (fun h67 => ?_) (fun h67 => ?_)
 ·replace h67 := dt h67
  have h67n : j < kids.length := by omega
  have hz1 := sk_mem _ _ (List.getElem_mem h67n)
  have hm1 := more_le2 kind j
  have hel := OTs_len hop
  have hat := atN_le kind j
  have hsl := sliceN_le ns (atN kind j) (ZB kind (j : Int)).toNat
  have hat1 : atN kind (j + 1) = atN kind j + (ZB kind (j : Int)).toNat := rfl
  refine Zi <| Zc <| Zl <| Zc <| Za <| JLq (pp b1 0) (fa43_0 rfl rfl) <| JLr (Ze ty3 rfl (At.bx 4 rfl) (pkN_0 ..) <| JLM rfl <| Jc Tryz.call98 rfl (fun hin => moreR_ct _ _ _) rfl ?_)
  rintro _ _ ⟨rfl, rfl⟩
  refine JLA rfl <| Zb <| Zc <| Zc <| Za <| JLq (pp b1 0) (fa43_0 rfl rfl) <| JLr (Ze ty3 rfl (At.bx 4 rfl) (pkN_0 ..) <| JLn (Pu.eql rfl rfl) <| Zb <| J_weak (N := fun ρ M => ∃ (qm : Int), (qm = (((ZB kind (j : Int)).toNat : Nat) : Int)) ∧ ρ 1 = v ∧ ρ 2 = pp b1 0 ∧ ρ 4 = pp b2 0 ∧ ρ 5 = iv 0 ∧ ρ 6 = pp b3 0 ∧ ρ 8 = iv (((atN kind j : Nat) : Int)) ∧ ρ 9 = iv ((j : Int)) ∧ ρ 10 = iv qm ∧ M = [(BX b3 (pkT kind qx ref w nS) 27), q1, q2, (BX b2 (pkT 0 0 zS nS nS) 27), (BX b1 (pkN kind num ref nv ks cv) 43)]) ?_ ?_)
  ·refine Zf rfl (fun h68 => ?_) (fun h68 => ?_)
   ·replace h68 := dt h68
    refine Za <| JLA rfl <| Zb ?_
    exact ⟨0, (by have := more_le2 kind j; have := more_one (j : Int); simp_all), rfl, rfl, rfl, rfl, rfl, rfl, rfl, rfl, rfl⟩
   replace h68 := df h68
   refine Zi ?_
   exact ⟨(ZB kind ((j : Int))), (by have := more_le2 kind j; omega), rfl, rfl, rfl, rfl, rfl, rfl, rfl, rfl, rfl⟩
  rintro ρ69 _ ⟨qm, hqm, e70, e71, e72, e73, e74, e75, e76, e77, rfl⟩
  obtain ⟨ρ78, rfl⟩ := Zr (uc e70 (uc e71 (uc e72 (uc e73 (uc e74 (uc e75 (uc e76 (uc e77 un))))))))
  clear e70 e71 e72 e73 e74 e75 e76 e77
  refine Zc <| ZF mixed #[0, 1, 0, 7, 15, 0, 0, 64, 0, 0, 960, 2016, 4095, 8191, 16383, 16383, 0, 98303, 262143] 18 [some 103, some 104, some 105, some 106, some 107, some 108, some 109, some 110, some 111, some 112, some 113, some 114, some 115, some 102, some 116, some 117, some 11, none] [(17, 16)] [(10, fun _ _ vw qw => qw = [] ∧ ∀ h, strR h nv ns → strR h vw (sliceN ns (atN kind j) (ZB kind (j : Int)).toNat)), (11, fun _ _ vw qw => ∃ u k, vw = u ∧ qw = [k] ∧ Own 9 1 u (Z0 (ZY s (sliceN ns (atN kind j) (ZB kind (j : Int)).toNat))) k), (12, fun _ _ vw qw => ∃ t cs k, vw = .tuple ⟨[.agg ⟨cs⟩, iv (nlT (kids[j]) (ZY s (sliceN ns (atN kind j) (ZB kind (j : Int)).toNat))).2]⟩ ∧ qw = [k] ∧ OT t cs k ∧ ((nlT (kids[j]) (ZY s (sliceN ns (atN kind j) (ZB kind (j : Int)).toNat))).2 = 0 → t = (nlT (kids[j]) (ZY s (sliceN ns (atN kind j) (ZB kind (j : Int)).toNat))).1)), (16, newP 27 (pkT 0 0 zS nS nS)), (17, fun r _ vw qw => vw = undef ∧ qw = [(BX (pblk (r 16)) ((tcel (r 12))) 27)])] rfl (by kernel_rfl) rfl (by kernel_rfl) <| Dq (pp b1 35) (fun _ => fa43_4 rfl rfl) <| Dl1 ty40 (At.bx 4 rfl) (Xa ..) <| DM (fun _ => rfl) ?_
  obtain ⟨b84, o84, cap84, row84, T84, fr84, cs84, hv84, hb84, hs84, hE84⟩ := hks.get j (by first | assumption | omega | decide | simp)
  refine Dq (pp b84 (o84 + j * 37)) (fun _ => Pu.idx j Tryz.runUnderlying40 Y8 hv84 rfl rfl (by first | assumption | omega | decide | simp)) <| Dl Y8 (At.im hb84) hs84 <| Dm v <| Dq (pp b1 34) (fun _ => fa43_3 rfl rfl) <| Dl1 Yy (At.bx 4 rfl) (Xw ..) <| DM (fun _ => rfl) <| DM (fun _ => rfl) <| Dc rfl Tryz.call104 (fun _ => rfl) (fun hin => sliceRI_ct ns (atN kind j) (ZB kind (j : Int)).toNat _ _ _ (strR.mono (Hle.hu _ _) hns) hqm (by omega)) ?_
  rintro u85 _ ⟨rfl, hu85⟩
  have hr85 := hu85 _ hns
  refine Dc rfl Tryz.call99 (fun _ => rfl) (fun hin => frontR_ct _ _ _ _ _ (RSs.mono (Hle.hu _ _) hs) (RSs.mono (Hle.hu _ _) hr85.rd) (by first | (have := sliceN_le ns (atN kind j) (ZB kind (j : Int)).toNat; omega) | (rw [fit_mem hq2 (List.getElem_mem ‹_›)]; omega))) ?_
  rintro u86 _ ⟨_, k86, hu86, rfl, ho86⟩; subst hu86
  refine Dc rfl Tryz.call59 (fun _ => rfl) (fun hin => ih _ (List.getElem_mem h67n) _ _ _ _ (RN.mono (Hle.hu _ _) hE84) (Yc ho86 (by first | omega | (simp only [ZW, List.length_take, List.length_append]; omega)) (hin 0 _ rfl)) (by rw [ZW]; have := sliceN_le ns (atN kind j) (ZB kind (j : Int)).toNat; omega)) ?_
  rintro _ _ ⟨t87, cs87, k87, rfl, rfl, hO87, hE87⟩
  refine DM (fun _ => rfl) <| Dn (fun _ => Pu.extract rfl rfl) <| Dn (fun _ => Pu.extract rfl rfl) <| Da Tryz.zeroValue27 rfl fun b88 => Dr rfl (fun _ => Zd 0 (vs := cs87) (l := cs87) Zs rfl rfl rfl rfl hO87.len hO87.ok (ZM (n := 36) rfl hO87.len) ⟨[_], keptE (i := 0) rfl rfl, rfl, rfl⟩) ?_; rintro _ _ ⟨rfl, rfl⟩
  refine ZL (M' := [(BX b88 cs87 27), k87, k86, (BX b3 (pkT kind qx ref w nS) 27), q1, q2, (BX b2 (pkT 0 0 zS nS nS) 27), (BX b1 (pkN kind num ref nv ks cv) 43)]) rfl ?_
  show JL _ _ _ [_] _ _ _
  refine JLA rfl <| Zb <| Zc <| Zc <| Za <| JLM rfl <| JLn (Pu.neq rfl rfl) <| Zb <| Zf rfl (fun h89 => ?_) (fun h89 => ?_)
  ·replace h89 := nt h89
   replace h89 := df h89
   refine Zc <| Za <| JLr (Zg Zs rfl (At.bx 3 rfl) (Z9 ..) <| JLM rfl <| JLr (Zd 6 (vs := pkT kind qx ref w nS) (l := pkT kind qx ref w nS) Zs rfl rfl rfl rfl rfl (ZI ho1.one rfl) (Yk ..) <| JLA rfl <| Zb <| Zh <| ⟨.tuple ⟨[.agg ⟨pkT kind qx ref w nS⟩, iv ((nlT (kids[j]) (ZY s (sliceN ns (atN kind j) (ZB kind (j : Int)).toNat))).2)]⟩, [q1 ++ q2], Ret.two rfl (RV.cell Zs rfl (At.bx 6 rfl) (Z9 ..)) (RV.tmp rfl), (Sub.join (Sd (Sd (Sd (Sd (Sk (Sk Sub.nil))))))), ?_⟩))
   rw [nlKs_cons h67n, at_in, at_lf hq1 h67n, if_pos (by assumption)] at hinv
   have hx := nl_eK (r := ref) hq1 hq2 hq3 hq4 (by rw [hinv]; assumption)
   rw [hinv] at hx
   exact ⟨_, _, _, by rw [hx], rfl, OT_mk.2 ⟨_, _, _, _, _, _, _, _, rfl, hk, hnx, ho1, hop, Own.nil, OCs.nil, by simp, (show ts.length ≤ 9223372036854775807 by first | omega | simp), (show ([] : List (Pt × Tm)).length ≤ 9223372036854775807 by first | omega | simp)⟩, fun q => by rw [hx] at q; exact absurd q (by first | decide | assumption)⟩
  replace h89 := nf h89
  replace h89 := dt h89
  refine Zi <| Zc <| Za <| JLM rfl <| JLM rfl <| JLn (Pu.add64 rfl rfl (by first | omega | (constructor <;> omega))) <| JLA rfl <| Zb <| Za <| JLq (pp b3 34) (Z8 rfl rfl) <| JLr (Ze YW rfl (At.bx 3 rfl) (Yb ..) <| JLr (Zg Zs rfl (At.bx 0 rfl) (Zt hO87.len) <| JLr (Zp (vs := [.agg ⟨cs87⟩]) [cs87] Tryz.runUnderlying24 el27 rfl rfl (by intro e he; simp only [List.mem_cons, List.not_mem_nil, or_false] at he; subst he; exact hO87.len) rfl (by decide) fun b90 k90 ho90 hk90 => ?_)))
  have hlens91 : ∀ e ∈ ([cs87] : List (List Value)), List.length e = 36 := by
   intro e he; simp only [List.mem_cons, List.not_mem_nil, or_false] at he
   rcases he with rfl
   ·exact hO87.len
  have hoks91 : ∀ e ∈ ([cs87] : List (List Value)), okc e := by
   intro e he; simp only [List.mem_cons, List.not_mem_nil, or_false] at he
   rcases he with rfl
   ·exact hO87.ok
  refine JLr (ZA (i := 5) (n := 1) (es' := [cs87]) Tryz.runUnderlying24 Tryz.runUnderlying24 (Or.inl rfl) el27 rfl rfl rfl ho1 (fun F w m => Src.row (((At.k 0 rfl (by rw [hk90]; exact List.mem_cons_self))).heap m) (Zt (Zz hlens91))) rfl hlens91 hoks91 (by decide) (by omega) fun v91 k91 ho91 => JLq (pp b3 34) (Z8 rfl rfl) <| JLr (Zd 4 (vs := [v91]) (l := pkT kind qx ref v91 nS) YW rfl rfl rfl (ZK ho91.one) rfl (Zk ho91.one Zq) (pkT_s34 ..) <| Zb <| Za <| JLM rfl <| JLn (Pu.inc rfl rfl (by omega)) <| JLA rfl <| Zb <| ⟨_, ?_, (j + 1), (ts ++ [t87]), v91, (es ++ [cs87]), k91, (q2 ++ k87), rfl, rfl, rfl, rfl, rfl, (ieq rfl (by omega)), rfl, (Sd (Sd (Sub.cons 2 rfl (Sub.cons 2 rfl (Sub.join (Sub.cons 2 rfl (Sk (Sd (Sk (Sk Sub.nil)))))))))), ?_, ?_, ?_, ?_, ?_, rfl⟩))
  ·omega
  ·omega
  ·exact ho91
  ·exact OTs.snoc hO87 hop
  ·rw [nlKs_cons h67n, at_in, at_lf hq1 h67n, if_neg (fun q => q (by assumption))] at hinv; rw [hinv, hE87 (by assumption)]; simp
  simp [hlt]
 replace h67 := df h67
 have h67n : kids.length ≤ j := by omega
 refine Zy _ rfl <| Zc <| Zc <| Za <| JLA rfl <| Zb <| Zl ?_
 have hinvK : XF kind s ns 0 kids = (ts, 0) := by rw [hinv, Yt h67n, XF, List.append_nil]
 have htl : ts.length ≤ kids.length := by omega
 refine ZE (fun k ρ M => ∃ (j : Nat) (us : List (Pt × Tm)) (y : Value) (es2 : List (List Value)) (q3 q4 : Zj), ρ 1 = v ∧ ρ 2 = pp b1 0 ∧ ρ 4 = pp b2 0 ∧ ρ 5 = iv 0 ∧ ρ 6 = pp b3 0 ∧ ρ 13 = iv ((j : Int)) ∧ Sub [(BX b3 (pkT kind qx ref w y) 27), q3, q4, q1, q2, (BX b2 (pkT 0 0 zS nS nS) 27), (BX b1 (pkN kind num ref nv ks cv) 43)] M ∧ j ≤ cases.length ∧ Own 80 71 y es2 q3 ∧ OCs us es2 q4 ∧ nlCs s cases = (us ++ (nlCs s (cases.drop j)).1, (nlCs s (cases.drop j)).2) ∧ us.length = j ∧ k = cases.length - j) _ ⟨0, [], nS, [], [], [], rfl, rfl, rfl, rfl, rfl, rfl, (Sk (Sub.emp (Sub.emp (Sk (Sk (Sk (Sk Sub.nil))))))), Nat.zero_le _, Own.nil, OCs.nil, rfl, rfl, rfl⟩ ?_
 rintro _ ρ92 _ ⟨j, us, y, es2, q3, q4, e93, e94, e95, e96, e97, e98, hm99, hj, ho3, hopw, hinv2, hul, rfl⟩
 obtain ⟨ρ100, rfl⟩ := Zr (uc e93 (uc e94 (uc e95 (uc e96 (uc e97 (uc e98 un))))))
 clear e93 e94 e95 e96 e97 e98
 refine ZJ hm99 <| Zc <| Zc <| Za <| JLM rfl <| JLq (pp b1 36) (fa43_5 rfl rfl) <| JLr (Ze ty41 rfl (At.bx 6 rfl) (YP ..) ?_)
 obtain ⟨a101, cap101, hv101⟩ := hcv.sl
 have hle101 := hcv.le
 refine JLn (Pu.lenSl Tryz.runUnderlying41 hv101) <| JLn (Pu.lss rfl rfl) <| Zb <| Zf rfl (fun h102 => ?_) (fun h102 => ?_)
 ·replace h102 := dt h102
  have h102n : j < cases.length := by omega
  have hz1 := skC_mem _ _ (List.getElem_mem h102n)
  have hm1 := YS (cases[j]).1
  have hel := OCs_len hopw
  have hfm := fit_mem hq2 (List.getElem_mem h102n)
  refine Zi <| Zc <| Zl <| Zc <| Za <| JLq (pp b1 36) (fa43_5 rfl rfl) <| JLr (Ze ty41 rfl (At.bx 6 rfl) (YP ..) <| JLM rfl ?_)
  obtain ⟨b103, o103, cap103, row103, T103, fr103, cs103, hv103, hb103, hs103, hE103⟩ := hcv.get j (by first | assumption | omega | decide | simp)
  obtain ⟨ca103, va103, cb103, rfl, hA103, hV103, hB103⟩ := hE103
  refine JLq (pp b103 (o103 + j * 73)) (Pu.idx j Tryz.runUnderlying41 ty100 hv103 rfl rfl (by first | assumption | omega | decide | simp)) <| JLr (Zg ty100 rfl (At.im hb103) hs103 <| JLr (Zn (l := (pkP 0 0 zS nS) ++ (([nS]) ++ (pkN 0 0 zS nS nS nS))) Tryz.zeroValue100 rfl fun b104 => JLr (Zd 0 (vs := ca103 ++ (([va103]) ++ cb103)) (l := ca103 ++ (([va103]) ++ cb103)) ty100 rfl rfl rfl rfl (Zw (Zu hA103) (Zw rfl (ZV hB103))) (ZN (Xj hA103) (ZN (Zk hV103.one Zq) (RN_ok hB103))) (ZM (n := 73) rfl (Zw (Zu hA103) (Zw rfl (ZV hB103)))) <| Zb <| Zc <| ZF mixed #[0, 1, 0, 0, 8, 28, 63, 127, 255, 255, 0, 1535, 4095] 12 [some 144, some 145, some 146, some 147, some 148, some 149, some 150, some 143, some 151, some 152, some 15, none] [(11, 10)] [(5, fun _ _ vw qw => ∃ u k, vw = u ∧ qw = [k] ∧ Own 9 1 u (Z0 (ZY s (cases[j].2.1))) k), (6, fun _ _ vw qw => ∃ t cs k, vw = .tuple ⟨[.agg ⟨cs⟩, iv (nlT (cases[j].2.2) (ZY s (cases[j].2.1))).2]⟩ ∧ qw = [k] ∧ OT t cs k ∧ ((nlT (cases[j].2.2) (ZY s (cases[j].2.1))).2 = 0 → t = (nlT (cases[j].2.2) (ZY s (cases[j].2.1))).1)), (10, newP 27 (pkT 0 0 zS nS nS)), (11, fun r _ vw qw => vw = undef ∧ qw = [(BX (pblk (r 10)) ((tcel (r 6))) 27)])] rfl (by kernel_rfl) rfl (by kernel_rfl) <| Dq (pp b104 36) (fun _ => fa100_2 rfl rfl) <| Dl Y8 (At.bx 0 rfl) (Xe (n := 35) (i := 1) (Zu hA103) (Xg rfl (ZV hB103))) <| Dm v <| Dq (pp b104 35) (fun _ => fa100_1 rfl rfl) <| Dl1 Yy (At.bx 0 rfl) (get_r (n := 35) (i := 0) (Zu hA103) rfl) <| Dc rfl Tryz.call99 (fun _ => rfl) (fun hin => frontR_ct _ _ _ _ _ (RSs.mono (Hle.hu _ _) hs) (RSs.mono (Hle.hu _ _) hV103) (by first | (have := sliceN_le ns (atN kind j) (ZB kind (j : Int)).toNat; omega) | (rw [fit_mem hq2 (List.getElem_mem ‹_›)]; omega))) ?_)))
  rintro u108 _ ⟨_, k108, hu108, rfl, ho108⟩; subst hu108
  refine Dc rfl Tryz.call59 (fun _ => rfl) (fun hin => ih' _ (List.getElem_mem h102n) _ _ _ _ (RN.mono (Hle.hu _ _) hB103) (Yc ho108 (by first | omega | (simp only [ZW, List.length_take, List.length_append]; omega)) (hin 0 _ rfl)) (by rw [ZW, fit_mem hq2 (List.getElem_mem h102n)]; omega)) ?_
  rintro _ _ ⟨t109, cs109, k109, rfl, rfl, hO109, hE109⟩
  refine DM (fun _ => rfl) <| Dn (fun _ => Pu.extract rfl rfl) <| Dn (fun _ => Pu.extract rfl rfl) <| Da Tryz.zeroValue27 rfl fun b110 => Dr rfl (fun _ => Zd 0 (vs := cs109) (l := cs109) Zs rfl rfl rfl rfl hO109.len hO109.ok (ZM (n := 36) rfl hO109.len) ⟨[_], keptE (i := 0) rfl rfl, rfl, rfl⟩) ?_; rintro _ _ ⟨rfl, rfl⟩
  refine ZL (M' := [(BX b110 cs109 27), k109, k108, (BX b104 (ca103 ++ (([va103]) ++ cb103)) 100), (BX b3 (pkT kind qx ref w y) 27), q3, q4, q1, q2, (BX b2 (pkT 0 0 zS nS nS) 27), (BX b1 (pkN kind num ref nv ks cv) 43)]) rfl ?_
  show JL _ _ _ [_] _ _ _
  refine JLA rfl <| Zb <| Zc <| Zc <| Za <| JLM rfl <| JLn (Pu.neq rfl rfl) <| Zb <| Zf rfl (fun h111 => ?_) (fun h111 => ?_)
  ·replace h111 := nt h111
   replace h111 := df h111
   refine Zc <| Za <| JLr (Zg Zs rfl (At.bx 4 rfl) (Z9 ..) <| JLM rfl <| JLr (Zd 9 (vs := pkT kind qx ref w y) (l := pkT kind qx ref w y) Zs rfl rfl rfl rfl rfl (ZI ho1.one ho3.one) (Yk ..) <| JLA rfl <| Zb <| Zh <| ⟨.tuple ⟨[.agg ⟨pkT kind qx ref w y⟩, iv ((nlT (cases[j].2.2) (ZY s (cases[j].2.1))).2)]⟩, [q1 ++ (q2 ++ (q3 ++ q4))], Ret.two rfl (RV.cell Zs rfl (At.bx 9 rfl) (Z9 ..)) (RV.tmp rfl), (Sub.join4 (Sd (Sd (Sd (Sd (Sd (Sub.cons 2 rfl (Sub.cons 2 rfl (Sk (Sk Sub.nil)))))))))), ?_⟩))
   rw [nlCs_cons h102n, if_pos (by assumption)] at hinv2
   have hx := nl_eC (r := ref) hq1 hq2 hq3 hq4 (by rw [hinvK]) (by rw [hinv2]; assumption)
   rw [hinv2] at hx
   exact ⟨_, _, _, by rw [hx], rfl, OT_mk.2 ⟨_, _, _, _, _, _, _, _, rfl, hk, hnx, ho1, hop, ho3, hopw, by simp, (show ts.length ≤ 9223372036854775807 by first | omega | simp), (show us.length ≤ 9223372036854775807 by first | omega | simp)⟩, fun q => by rw [hx] at q; exact absurd q (by first | decide | assumption)⟩
  replace h111 := nf h111
  replace h111 := dt h111
  refine Zi <| ZF mixed #[0, 1, 0, 4, 12, 0, 60, 124, 255, 511, 1023] 8 [some 157, some 158, some 159, some 160, some 161, some 162, some 163, some 164] [] [(4, fun _ _ vw qw => ∃ cs k, vw = .agg ⟨cs⟩ ∧ qw = [k] ∧ OP (cases[j].1) cs k), (7, fun r _ vw qw => ∃ b k, vw = .slice (some ⟨b, 0, none⟩) 1 1 ∧ qw = [k] ∧ Own 80 71 (.slice (some ⟨b, 0, none⟩) 1 1) [((cel (r 4))) ++ cs109] k ∧ k = (BX b (List.flatten [((cel (r 4))) ++ cs109]) 80))] rfl (by kernel_rfl) rfl (by kernel_rfl) <| Dq (pp b3 35) (fun _ => Z1 rfl rfl) <| Dl1 YI (At.bx 4 rfl) (Z2 ..) <| Dq (pp b104 0) (fun _ => fa100_0 rfl rfl) <| Dl Z6 (At.bx 3 rfl) (YE (Zu hA103)) <| Dc rfl Tryz.call101 (fun _ => rfl) (fun hin => ownPatternR_ct _ _ _ (RP.mono (Hle.hu _ _) hA103) (by omega)) ?_
  rintro _ _ ⟨cs114, k114, rfl, rfl, hO114⟩
  refine Dl Zs (At.bx 0 rfl) (Zt hO109.len) <| Dq (.agg ⟨cs114 ++ cs109⟩) (fun _ => Pu.build (pv := [(0, .agg ⟨cs114⟩), (1, .agg ⟨cs109⟩)]) (l := cs114 ++ cs109) rfl (bld80_0_1 hO114.len hO109.len)) <| Dr rfl (fun _ => Zp (vs := [.agg ⟨cs114 ++ cs109⟩]) [cs114 ++ cs109] Tryz.runUnderlying25 el80 rfl rfl (by intro e he; simp only [List.mem_cons, List.not_mem_nil, or_false] at he; subst he; exact (Zw hO114.len hO109.len)) rfl (by decide) fun b k h1 h2 => ⟨[k], by rw [ZR rfl]; exact Sub.refl, b, k, rfl, rfl, h1, h2⟩) (fun _ _ ⟨b115, k115, e1, e2, ho115, hk115⟩ => ?_); subst e1 e2
  refine ZL (M' := [k115, k114, (BX b110 cs109 27), k109, k108, (BX b104 (ca103 ++ (([va103]) ++ cb103)) 100), (BX b3 (pkT kind qx ref w y) 27), q3, q4, q1, q2, (BX b2 (pkT 0 0 zS nS nS) 27), (BX b1 (pkN kind num ref nv ks cv) 43)]) rfl ?_
  show JL _ _ _ [_, _, _] _ _ _
  have hlens116 : ∀ e ∈ ([cs114 ++ cs109] : List (List Value)), List.length e = 71 := by
   intro e he; simp only [List.mem_cons, List.not_mem_nil, or_false] at he
   rcases he with rfl
   ·exact (Zw hO114.len hO109.len)
  have hoks116 : ∀ e ∈ ([cs114 ++ cs109] : List (List Value)), okc e := by
   intro e he; simp only [List.mem_cons, List.not_mem_nil, or_false] at he
   rcases he with rfl
   ·exact (ZN hO114.ok hO109.ok)
  refine JLr (ZA (i := 7) (n := 1) (es' := [cs114 ++ cs109]) Tryz.runUnderlying25 Tryz.runUnderlying25 (Or.inl rfl) el80 rfl rfl rfl ho3 (fun F w m => Src.row (((At.k 0 rfl (by rw [hk115]; exact List.mem_cons_self))).heap m) (Zt (Zz hlens116))) rfl hlens116 hoks116 (by decide) (by omega) fun v116 k116 ho116 => JLq (pp b3 35) (Z1 rfl rfl) <| JLr (Zd 6 (vs := [v116]) (l := pkT kind qx ref w v116) YI rfl rfl rfl (ZK ho116.one) rfl (Zk ho116.one Zq) (pkT_s35 ..) <| Zb <| Za <| JLM rfl <| JLn (Pu.inc rfl rfl (by omega)) <| JLA rfl <| Zb <| ⟨_, ?_, (j + 1), (us ++ [(cases[j].1, t109)]), v116, (es2 ++ [cs114 ++ cs109]), k116, (q4 ++ (k114 ++ k109)), rfl, rfl, rfl, rfl, rfl, rfl, (Sd (Sub.cons 5 rfl (Sub.cons 5 rfl (Sub.join3 (Sub.cons 5 rfl (Sk (Sd (Sk (Sd (Sd (Sk (Sk (Sk (Sk Sub.nil)))))))))))))), ?_, ?_, ?_, ?_, ?_, rfl⟩))
  ·omega
  ·omega
  ·exact ho116
  ·exact OCs.snoc hO114 hO109 hopw
  ·rw [nlCs_cons h102n, if_neg (fun q => q (by assumption))] at hinv2; rw [hinv2, hE109 (by assumption)]; simp
  simp [hul]
 replace h102 := df h102
 have h102n : cases.length ≤ j := by omega
 refine Zy _ rfl <| Zc <| Za <| JLr (Zg Zs rfl (At.bx 0 rfl) (Z9 ..) <| JLr (Zd 5 (vs := pkT kind qx ref w y) (l := pkT kind qx ref w y) Zs rfl rfl rfl rfl rfl (ZI ho1.one ho3.one) (Yk ..) <| JLA rfl <| Zb <| Zh <| ⟨.tuple ⟨[.agg ⟨pkT kind qx ref w y⟩, iv 0]⟩, [q1 ++ (q2 ++ (q3 ++ q4))], Ret.two rfl (RV.cell Zs rfl (At.bx 5 rfl) (Z9 ..)) (RV.tmp rfl), (Sub.join4 (Sd (Sub.cons 2 rfl (Sub.cons 2 rfl (Sk (Sk Sub.nil)))))), ?_⟩))
 have hinvC : nlCs s cases = (us, 0) := by rw [hinv2, Yt h102n, nlCs, List.append_nil]
 have hx := nl_ok (r := ref) hq1 hq2 hq3 hq4 (by rw [hinvK]) (by rw [hinvC])
 rw [hinvK, hinvC, ← hqx] at hx
 exact ⟨_, _, _, by rw [hx], rfl, OT_mk.2 ⟨_, _, _, _, _, _, _, _, rfl, hk, hnx, ho1, hop, ho3, hopw, by simp, (show ts.length ≤ 9223372036854775807 by first | omega | simp), (show us.length ≤ 9223372036854775807 by first | omega | simp)⟩, fun _ => by rw [hx]⟩
end Go.Proofs.YtmophpgiaiemhaaGreat.Hs
/-! Walks, printed by a program of this session's own (gen.py). -/
namespace Go.Proofs.YtmophpgiaiemhaaGreat.Hs
open Go Go.Proofs
set_option maxRecDepth 100000
set_option linter.unusedVariables false
set_option linter.unusedSimpArgs false
attribute [local irreducible] JL J CT wlo DT
theorem namelessER_ct (n : Nm) (s : List ByteArray) (cs : List Value) (v : Value) (H : Heap) (hn_ : RN H cs n) (hs : Hs.rdS RS 1 H v s) (hsl : s.length ≤ 1000) (hsz0 : wnN n ≤ 1000000) : CT Tryz.prog 16 ⟨[.agg ⟨cs⟩, v]⟩ [] H (fun v N => ∃ cs k, v = .tuple ⟨[.agg ⟨cs⟩, iv (Z7 n s).2]⟩ ∧ N = [k] ∧ OT (Z7 n s).1 cs k) := by
 have hsk := sk_wn n
 refine Zm Tryz.func16 rfl rfl <| Zc <| Za <| JLr (Zo (l := cs) rfl rfl fun b1 => JLr (Zn (l := pkT 0 0 zS nS nS) Tryz.zeroValue27 rfl fun b2 => JLA rfl <| Zb <| Zc <| Za <| JLr (Zg Y8 rfl (At.bx 1 rfl) (Zt (ZV hn_)) <| Jc Tryz.call58 rfl (fun hin => extN_ct _ _ _ _ (RN.mono (Hle.hu _ _) hn_) (by omega) (by omega) (by omega)) rfl ?_)))
 rintro _ _ ⟨rfl, rfl⟩
 refine JLM rfl <| JLn (Pu.extract rfl rfl) <| JLn (Pu.extract rfl rfl) <| JLA rfl <| JLA rfl <| Zb <| Zc <| Zc <| Za <| JLm v ?_
 obtain ⟨a3, cap3, hv3⟩ := hs.sl
 have hle3 := hs.le
 refine JLn (Pu.lenSl Tryz.runUnderlying28 hv3) <| JLn (Pu.gtr rfl rfl) <| JLM rfl <| Zx 2 [19, 20] [(20, cond (decide (60 < (s.length : Int))) undef (.bool (decide (300 < (Ym 400 (skN n)).1))))] ?_ fun f5 => ?_
 ·cases h4 : (decide (60 < (s.length : Int))) with
  | false =>
   replace h4 := df h4
   refine JLM rfl <| JLn (Pu.gtr rfl rfl) ?_
   exact Zb ⟨⟨rfl, trivial⟩, rfl⟩
  | true =>
   exact ZG rfl ⟨rfl, trivial⟩
 refine JLn (Pu.pickOr rfl rfl rfl) <| JLM rfl <| Zx 2 [23, 24] [(24, cond ((decide (60 < (s.length : Int))) || (decide (300 < (Ym 400 (skN n)).1))) undef (.bool (decide (60 < (Ym 400 (skN n)).2))))] ?_ fun f7 => ?_
 ·cases h6 : ((decide (60 < (s.length : Int))) || (decide (300 < (Ym 400 (skN n)).1))) with
  | false =>
   obtain ⟨h6a, h6b⟩ := orF h6
   replace h6a := df h6a
   replace h6b := df h6b
   refine JLM rfl <| JLn (Pu.gtr rfl rfl) ?_
   exact Zb ⟨⟨rfl, trivial⟩, rfl⟩
  | true =>
   exact ZG rfl ⟨rfl, trivial⟩
 refine JLn (Pu.pickOr rfl rfl rfl) <| Zb <| Zf rfl (fun h8 => ?_) (fun h8 => ?_)
 ·refine Zc <| Za <| JLq (.agg ⟨pkT 0 0 zS nS nS⟩) (Pu.build (pv := []) (l := pkT 0 0 zS nS nS) rfl (YR )) <| JLr (Zd 0 (vs := pkT 0 0 zS nS nS) (l := pkT 0 0 zS nS nS) Zs rfl rfl rfl rfl rfl (ZI rfl rfl) (Yk ..) <| JLA rfl <| Zb <| Zh <| ⟨.tuple ⟨[.agg ⟨pkT 0 0 zS nS nS⟩, iv 11]⟩, [[]], Ret.two rfl (RV.cell Zs rfl (At.bx 0 rfl) (Z9 ..)) (RV.tmp rfl), (Sub.emp Sub.nil), ?_⟩)
  have hx := nl_11 (n := n) (s := s) (by have := h8; simp only [Bool.or_eq_true, decide_eq_true_eq] at this; omega)
  exact ⟨_, _, by rw [hx], rfl, by rw [hx]; exact YA⟩
 obtain ⟨h8a, h8b⟩ := orF h8
 obtain ⟨h8aa, h8ab⟩ := orF h8a
 replace h8aa := df h8aa
 replace h8ab := df h8ab
 replace h8b := df h8b
 refine Zi <| Zc ?_
 have hq0 := nl_no (n := n) (s := s) (by omega) (by omega) (by omega)
 have hsz3 := long_size (n := n) (Bool.eq_false_iff.2 (fun z => hq0 (.inr z)))
 refine Za <| JLr (Zg Y8 rfl (At.bx 1 rfl) (Zt (ZV hn_)) <| JLm v <| Jc Tryz.call59 rfl (fun hin => namelessR_ct _ _ _ _ _ (RN.mono (Hle.hu _ _) hn_) (RSs.mono (Hle.hu _ _) hs) (by omega)) rfl ?_)
 rintro _ _ ⟨t9, cs9, k9, rfl, rfl, hO9, hE9⟩
 refine JLM rfl <| JLn (Pu.extract rfl rfl) <| JLn (Pu.extract rfl rfl) <| JLr (Zn (l := pkT 0 0 zS nS nS) Tryz.zeroValue27 rfl fun b10 => JLr (Zd 0 (vs := cs9) (l := cs9) Zs rfl rfl rfl rfl hO9.len hO9.ok (ZM (n := 36) rfl hO9.len) <| JLA rfl <| Zb <| Zc <| Zc <| Za <| JLM rfl <| JLn (Pu.eql rfl rfl) <| Zb ?_))
 refine Zf rfl (fun h11 => ?_) (fun h11 => ?_)
 ·replace h11 := dt h11
  have hz0 : (nlT n s).2 = 0 := h11
  have hE_ := hE9 hz0
  have hsz : sizeT t9 ≤ 10000 := by rw [hE_]; have := (nl_good n s hz0).2; omega
  refine Za <| JLr (Zg Zs rfl (At.bx 0 rfl) (Zt hO9.len) <| JLm v ?_)
  obtain ⟨a12, cap12, hv12⟩ := hs.sl
  have hle12 := hs.le
  refine JLn (Pu.lenSl Tryz.runUnderlying28 hv12) <| Jc Tryz.call60 rfl (fun hin => checkR_ct _ _ _ _ _ (hO9.rd (hin 1 _ rfl)) (by omega)) rfl ?_
  rintro _ _ ⟨rfl, rfl⟩
  refine JLA rfl <| Zb <| Zc <| Zc <| Za <| JLM rfl <| JLn (Pu.neq rfl rfl) <| Zb <| Zf rfl (fun h13 => ?_) (fun h13 => ?_)
  ·replace h13 := nt h13
   replace h13 := df h13
   refine Zc <| Za <| JLq (.agg ⟨pkT 0 0 zS nS nS⟩) (Pu.build (pv := []) (l := pkT 0 0 zS nS nS) rfl (YR )) <| JLM rfl <| JLr (Zd 2 (vs := pkT 0 0 zS nS nS) (l := pkT 0 0 zS nS nS) Zs rfl rfl rfl rfl rfl (ZI rfl rfl) (Yk ..) <| JLA rfl <| Zb <| Zh <| ⟨.tuple ⟨[.agg ⟨pkT 0 0 zS nS nS⟩, iv (YB ((s.length : Int)) 8 t9)]⟩, [[]], Ret.two rfl (RV.cell Zs rfl (At.bx 2 rfl) (Z9 ..)) (RV.tmp rfl), (Sub.emp Sub.nil), ?_⟩)
   subst hE_
   have hx := nl_c hq0 hz0 (by assumption)
   exact ⟨_, _, by rw [hx], rfl, by rw [hx]; exact YA⟩
  replace h13 := nf h13
  replace h13 := dt h13
  refine Zi <| Zc <| Za <| JLr (Zg Zs rfl (At.bx 0 rfl) (Zt hO9.len) <| JLr (Zd 2 (vs := cs9) (l := cs9) Zs rfl rfl rfl rfl hO9.len hO9.ok (ZM (n := 36) rfl hO9.len) <| JLA rfl <| Zb <| Zh <| ⟨.tuple ⟨[.agg ⟨cs9⟩, iv 0]⟩, [k9], Ret.two rfl (RV.cell Zs rfl (At.bx 2 rfl) (Zt hO9.len)) (RV.tmp rfl), (Sd (Sk Sub.nil)), ?_⟩))
  subst hE_
  have hx := nl_0 hq0 hz0 (by assumption)
  exact ⟨_, _, by rw [hx], rfl, by rw [hx]; exact hO9⟩
 replace h11 := df h11
 refine Zi <| Zc <| Zc <| Za <| JLM rfl <| JLn (Pu.neq rfl rfl) <| Zb <| Zf rfl (fun h14 => ?_) (fun h14 => ?_)
 ·replace h14 := nt h14
  replace h14 := df h14
  refine Zc <| Za <| JLq (.agg ⟨pkT 0 0 zS nS nS⟩) (Pu.build (pv := []) (l := pkT 0 0 zS nS nS) rfl (YR )) <| JLM rfl <| JLr (Zd 2 (vs := pkT 0 0 zS nS nS) (l := pkT 0 0 zS nS nS) Zs rfl rfl rfl rfl rfl (ZI rfl rfl) (Yk ..) <| JLA rfl <| Zb <| Zh <| ⟨.tuple ⟨[.agg ⟨pkT 0 0 zS nS nS⟩, iv ((nlT n s).2)]⟩, [[]], Ret.two rfl (RV.cell Zs rfl (At.bx 2 rfl) (Z9 ..)) (RV.tmp rfl), (Sub.emp Sub.nil), ?_⟩)
  have hx := nl_e hq0 (by assumption)
  exact ⟨_, _, by rw [hx], rfl, by rw [hx]; exact YA⟩
 replace h14 := nf h14
 replace h14 := dt h14
 exfalso; omega
end Go.Proofs.YtmophpgiaiemhaaGreat.Hs
/-! Walks, printed by a program of this session's own (gen.py). -/
namespace Go.Proofs.YtmophpgiaiemhaaGreat.Hs
open Go Go.Proofs
set_option maxRecDepth 100000
set_option linter.unusedVariables false
set_option linter.unusedSimpArgs false
attribute [local irreducible] JL J CT wlo DT
theorem wide1_ct (x : ByteArray) (H : Heap) : CT Tryz.prog 37 ⟨[.string x]⟩ [] H (fun v N => v = .bool (Xt x) ∧ N = []) := by
 refine Zm Tryz.func37 rfl rfl <| Zc <| Za <| JLA rfl <| Zb <| Zc <| Za <| JLM rfl <| JLn (Pu.lenS Tryz.runUnderlying9 rfl) <| JLn (Pu.gtr rfl rfl) <| JLA rfl <| Zb <| Zh ?_
 refine ⟨.bool (decide (40 < (x.size : Int))), [], Ret.one rfl (RV.tmp rfl), Sub.nil, ?_⟩
 exact ⟨rfl, rfl⟩
theorem wide21_ct (x : ByteArray) (H : Heap) : CT Tryz.prog 44 ⟨[.string x]⟩ [] H (fun v N => v = .bool (Xt x) ∧ N = []) := by
 refine Zm Tryz.func44 rfl rfl <| Zc <| Za <| JLA rfl <| Zb <| Zc <| Za <| JLM rfl <| JLn (Pu.lenS Tryz.runUnderlying9 rfl) <| JLn (Pu.gtr rfl rfl) <| JLA rfl <| Zb <| Zh ?_
 refine ⟨.bool (decide (40 < (x.size : Int))), [], Ret.one rfl (RV.tmp rfl), Sub.nil, ?_⟩
 exact ⟨rfl, rfl⟩
theorem names1_ct (x : ByteArray) (H : Heap) : CT Tryz.prog 8 ⟨[.string x]⟩ [] H (fun v N => v = .bool (Xt x) ∧ N = []) := by
 refine Zm Tryz.func8 rfl rfl <| Zc <| Za <| JLA rfl <| Zb <| Zc <| Za <| JLM rfl <| JLn (Pu.lenS Tryz.runUnderlying9 rfl) <| JLn (Pu.gtr rfl rfl) <| JLA rfl <| Zb <| Zh ?_
 refine ⟨.bool (decide (40 < (x.size : Int))), [], Ret.one rfl (RV.tmp rfl), Sub.nil, ?_⟩
 exact ⟨rfl, rfl⟩
theorem idxSpp_ct (g : Nat) (fs cv : List Value) (hcall : ∀ args w, (callFunc g args).run Tryz.prog w = .ok (.enter g args) w) (pr : ByteArray → Bool) (l : List ByteArray) (v : Value) (H : Heap) (hl : Hs.rdS RS 1 H v l) (hg : ∀ x ∈ l, ∀ h, Hle H h → CT Tryz.prog g ⟨fs ++ [.string x] ++ cv⟩ [] h (fun v N => v = .bool (pr x) ∧ N = [])) : CT Tryz.prog 45 ⟨[v, .func (.func g) ⟨fs⟩ ⟨cv⟩]⟩ [] H (fun v N => v = iv (fstA pr l 0) ∧ N = []) := by
 refine Zm Tryz.func45 rfl rfl <| Zc <| Za <| JLA rfl <| Zb <| Zc <| Zc <| Za <| JLm v ?_
 obtain ⟨a1, cap1, hv1⟩ := hl.sl
 have hle1 := hl.le
 refine JLn (Pu.lenSl Tryz.runUnderlying28 hv1) <| JLM rfl <| Zb <| Zl <| ZE (fun k ρ M => ∃ (j : Nat), ρ 0 = v ∧ ρ 1 = .func (.func g) ⟨fs⟩ ⟨cv⟩ ∧ ρ 4 = iv 0 ∧ ρ 7 = iv ((l.length : Int)) ∧ ρ 8 = iv ((j : Int)) ∧ Sub [] M ∧ j ≤ l.length ∧ fstA pr (l.drop j) j = fstA pr l 0 ∧ k = l.length - j) _ ⟨0, rfl, rfl, rfl, rfl, rfl, Sub.nil, Nat.zero_le _, rfl, rfl⟩ ?_
 rintro _ ρ2 _ ⟨j, e3, e4, e5, e6, e7, hm8, hj, hinv, rfl⟩
 obtain ⟨ρ9, rfl⟩ := Zr (uc e3 (uc e4 (uc e5 (uc e6 (uc e7 un)))))
 clear e3 e4 e5 e6 e7
 refine ZJ hm8 <| Zc <| Za <| JLn (Pu.lss rfl rfl) <| Zb <| Zc <| Zf rfl (fun h10 => ?_) (fun h10 => ?_)
 ·replace h10 := dt h10
  have h10n : j < l.length := by omega
  have hlenl := hl.le
  refine Zi <| Zc <| Zl <| Zc <| Za <| JLM rfl <| JLA rfl <| Zb <| Zc <| Za <| JLM rfl <| JLm v <| JLM rfl ?_
  obtain ⟨b11, o11, cap11, row11, T11, fr11, cs11, hv11, hb11, hs11, hE11⟩ := hl.get j (by first | assumption | omega | decide | simp)
  refine JLq (pp b11 (o11 + j * 1)) (Pu.idx j Tryz.runUnderlying28 ty9 hv11 rfl rfl (by first | assumption | omega | decide | simp)) <| JLr (Ze ty9 rfl (At.im hb11) (Yi ((show cs11 = [Value.string (l[j])] from hE11) ▸ hs11)) <| Jc hcall rfl (fun hin => hg _ (List.getElem_mem h10n) _ (Hle.hu _ _)) rfl ?_)
  rintro _ _ ⟨rfl, rfl⟩
  refine Zb <| Zf rfl (fun h12 => ?_) (fun h12 => ?_)
  ·refine Zc <| Za <| JLM rfl <| JLA rfl <| Zb <| Zh <| ⟨iv ((j : Int)), [], Ret.one rfl (RV.tmp rfl), Sub.nil, ?_⟩
   exact ⟨by rw [← hinv, ZU h10n, fstA, if_pos h12], rfl⟩
  refine Zi <| Za <| JLn (Pu.inc rfl rfl (by omega)) <| JLM rfl <| Zb <| ⟨_, ?_, (j + 1), rfl, rfl, rfl, rfl, rfl, Sub.nil, ?_, ?_, rfl⟩
  ·omega
  ·omega
  rw [ZU h10n, fstA, if_neg (by simp [h12])] at hinv; exact hinv
 replace h10 := df h10
 have h10n : l.length ≤ j := by omega
 refine Zy _ rfl <| Zc <| Za <| JLA rfl <| Zb <| Zh <| ⟨iv (-1), [], Ret.one rfl (RV.tmp rfl), Sub.nil, ?_⟩
 exact ⟨by rw [← hinv, Yt h10n]; rfl, rfl⟩
theorem XL (g : Nat) (fs cv : List Value) (hcall : ∀ args w, (callFunc g args).run Tryz.prog w = .ok (.enter g args) w) (pr : ByteArray → Bool) (l : List ByteArray) (v : Value) (H : Heap) (hl : Hs.rdS RS 1 H v l) (hg : ∀ x ∈ l, ∀ h, Hle H h → CT Tryz.prog g ⟨fs ++ [.string x] ++ cv⟩ [] h (fun v N => v = .bool (pr x) ∧ N = [])) : CT Tryz.prog 7 ⟨[v, .func (.func g) ⟨fs⟩ ⟨cv⟩]⟩ [] H (fun v N => v = .bool (l.any pr) ∧ N = []) := by
 refine Zm Tryz.func7 rfl rfl <| Zc <| Za <| JLA rfl <| Zb <| Zc <| Za <| JLm v <| JLM rfl <| Jc Tryz.call45 rfl (fun hin => idxSpp_ct g fs cv hcall pr _ _ _ (RSs.mono (Hle.hu _ _) hl) (fun x hx h hh => hg x hx h (Hle.trans (Hle.hu _ _) hh))) rfl ?_
 rintro _ _ ⟨rfl, rfl⟩
 refine JLn (Pu.geq rfl rfl) <| JLA rfl <| Zb <| Zh <| ⟨.bool (decide (0 ≤ fstA pr l 0)), [], Ret.one rfl (RV.tmp rfl), Sub.nil, ?_⟩
 exact ⟨by rw [← fstA_any pr l 0], rfl⟩
theorem maW_ct (a : List Value) (hla : a.length = 36) (hka : okc a) (s : Option Addr) (n c : Nat) (H : Heap) : CT Tryz.prog 41 ⟨[.agg ⟨a⟩, .slice s n c]⟩ [] H (fun v N => ∃ cs k, v = .agg ⟨cs⟩ ∧ N = [k] ∧ cs.length = 36 ∧ okc cs ∧ ∀ t l h, Has k h → RT h a t → Hs.rdS RC 71 h (.slice s n c) l → RT h cs (.mk 9 0 zS [t] l)) := by
 refine Zm Tryz.func41 rfl rfl <| Zc <| Za <| JLr (Zo (l := a) rfl rfl fun b1 => JLr (Zn (l := pkT 0 0 zS nS nS) Tryz.zeroValue27 rfl fun b2 => Zb <| Zc <| Za <| JLr (Zg Zs rfl (At.bx 1 rfl) (Zt hla) <| JLr (Zp (vs := [.agg ⟨a⟩]) [a] Tryz.runUnderlying24 el27 rfl rfl (by intro e he; simp only [List.mem_cons, List.not_mem_nil, or_false] at he; subst he; exact hla) rfl (by decide) fun b3 k3 ho3 hk3 => JLM rfl <| JLq (.agg ⟨pkT 9 0 zS (.slice (some ⟨b3, 0, none⟩) 1 1) (.slice s n c)⟩) (Pu.build (pv := [(0, iv 9), (3, .slice (some ⟨b3, 0, none⟩) 1 1), (4, .slice s n c)]) (l := pkT 9 0 zS (.slice (some ⟨b3, 0, none⟩) 1 1) (.slice s n c)) rfl (bld27_0_3_4 _ _ _ _ _ _ _)) <| JLr (Zd 1 (vs := pkT 9 0 zS (.slice (some ⟨b3, 0, none⟩) 1 1) (.slice s n c)) (l := pkT 9 0 zS (.slice (some ⟨b3, 0, none⟩) 1 1) (.slice s n c)) Zs rfl rfl rfl rfl rfl (ZI rfl rfl) (Yk ..) ?_)))))
 refine Zb <| Zh <| ⟨.agg ⟨pkT 9 0 zS (.slice (some ⟨b3, 0, none⟩) 1 1) (.slice s n c)⟩, [k3], Ret.one rfl (RV.cell Zs rfl (At.bx 1 rfl) (Z9 ..)), (Sk Sub.nil), ?_⟩
 exact ⟨_, _, rfl, rfl, rfl, ZI rfl rfl, fun t l h hh ha hl => RT_of (Own.rd1 ho3 hh ha) hl⟩
theorem caW_ct (a b : List Value) (hla : a.length = 35) (hka : okc a) (hlb : b.length = 36) (hkb : okc b) (H : Heap) : CT Tryz.prog 43 ⟨[.agg ⟨a⟩, .agg ⟨b⟩]⟩ [] H (fun v N => v = .agg ⟨a ++ b⟩ ∧ N = []) := by
 refine Zm Tryz.func43 rfl rfl <| Zc <| Za <| JLr (Zo (l := a) rfl rfl fun b1 => JLr (Zo (l := b) rfl rfl fun b2 => JLr (Zn (l := (pkP 0 0 zS nS) ++ (pkT 0 0 zS nS nS)) Tryz.zeroValue80 rfl fun b3 => Zb <| Zc <| Za <| JLr (Zg Z6 rfl (At.bx 2 rfl) (Zt hla) <| JLr (Zg Zs rfl (At.bx 1 rfl) (Zt hlb) <| JLq (.agg ⟨a ++ b⟩) (Pu.build (pv := [(0, .agg ⟨a⟩), (1, .agg ⟨b⟩)]) (l := a ++ b) rfl (bld80_0_1 hla hlb)) <| JLr (Zd 0 (vs := a ++ b) (l := a ++ b) YM rfl rfl rfl rfl (Zw hla hlb) (ZN hka hkb) (ZM (n := 71) rfl (Zw hla hlb)) ?_))))))
 refine Zb <| Zh <| ⟨.agg ⟨a ++ b⟩, [], Ret.one rfl (RV.cell YM rfl (At.bx 0 rfl) (Zt (Zw hla hlb))), Sub.nil, ?_⟩
 exact ⟨rfl, rfl⟩
end Go.Proofs.YtmophpgiaiemhaaGreat.Hs
/-! Walks, printed by a program of this session's own (gen.py). -/
namespace Go.Proofs.YtmophpgiaiemhaaGreat.Hs
open Go Go.Proofs
set_option maxRecDepth 100000
set_option linter.unusedVariables false
set_option linter.unusedSimpArgs false
attribute [local irreducible] JL J CT wlo DT
theorem idxN_ct (g : Nat) (fs cv : List Value) (hcall : ∀ args w, (callFunc g args).run Tryz.prog w = .ok (.enter g args) w) {σ : Type} (Sc : σ → Zj) (Inv : σ → Prop) (step : Nm → σ → Bool × σ) (l : List Nm) (v : Value) (H : Heap) (hl : rdS RN 37 H v l) (s0 : σ) (h0 : Inv s0) (hI : ∀ x ∈ l, ∀ s, Inv s → (step x s).1 = false → Inv (step x s).2) (hg : ∀ x ∈ l, ∀ s, Inv s → ∀ a h, Hle H h → RN h a x → CT Tryz.prog g ⟨fs ++ [.agg ⟨a⟩] ++ cv⟩ [Sc s] h (fun v N => v = .bool (step x s).1 ∧ N = [Sc (step x s).2])) : CT Tryz.prog 92 ⟨[v, .func (.func g) ⟨fs⟩ ⟨cv⟩]⟩ [Sc s0] H (fun v N => v = iv (idxS step l 0 s0).1 ∧ N = [Sc (idxS step l 0 s0).2]) := by
 refine Zm Tryz.func92 rfl rfl <| Zc <| Za <| JLA rfl <| Zb <| Zc <| Zc <| Za <| JLm v ?_
 obtain ⟨a1, cap1, hv1⟩ := hl.sl
 have hle1 := hl.le
 refine JLn (Pu.lenSl Tryz.runUnderlying29 hv1) <| JLM rfl <| Zb <| Zl <| ZE (fun k ρ M => ∃ (j : Nat) (s : σ), ρ 0 = v ∧ ρ 1 = .func (.func g) ⟨fs⟩ ⟨cv⟩ ∧ ρ 4 = iv 0 ∧ ρ 7 = iv ((l.length : Int)) ∧ ρ 8 = iv ((j : Int)) ∧ Sub [Sc s] M ∧ j ≤ l.length ∧ Inv s ∧ idxS step (l.drop j) j s = idxS step l 0 s0 ∧ k = l.length - j) _ ⟨0, s0, rfl, rfl, rfl, rfl, rfl, (Sk Sub.nil), Nat.zero_le _, h0, rfl, rfl⟩ ?_
 rintro _ ρ2 _ ⟨j, s, e3, e4, e5, e6, e7, hm8, hj, hs, hinv, rfl⟩
 obtain ⟨ρ9, rfl⟩ := Zr (uc e3 (uc e4 (uc e5 (uc e6 (uc e7 un)))))
 clear e3 e4 e5 e6 e7
 refine ZJ hm8 <| Zc <| Za <| JLn (Pu.lss rfl rfl) <| Zb <| Zc <| Zf rfl (fun h10 => ?_) (fun h10 => ?_)
 ·replace h10 := dt h10
  have h10n : j < l.length := by omega
  have hlenl := hl.le
  refine Zi <| Zc <| Zl <| Zc <| Za <| JLM rfl <| JLA rfl <| Zb <| Zc <| Za <| JLM rfl <| JLm v <| JLM rfl ?_
  obtain ⟨b11, o11, cap11, row11, T11, fr11, cs11, hv11, hb11, hs11, hE11⟩ := hl.get j (by first | assumption | omega | decide | simp)
  refine JLq (pp b11 (o11 + j * 37)) (Pu.idx j Tryz.runUnderlying29 Ya hv11 rfl rfl (by first | assumption | omega | decide | simp)) <| JLr (Zg Ya rfl (At.im hb11) hs11 <| ZD 0 rfl hcall rfl rfl (fun hin => hg _ (List.getElem_mem h10n) _ hs _ _ (Hle.hu _ _) (RN.mono (Hle.hu _ _) hE11)) rfl ?_)
  rintro _ _ ⟨rfl, rfl⟩
  refine Zb <| Zf rfl (fun h12 => ?_) (fun h12 => ?_)
  ·refine Zc <| Za <| JLM rfl <| JLA rfl <| Zb <| Zh <| ⟨iv ((j : Int)), [Sc (step (l[j]) s).2], Ret.one rfl (RV.tmp rfl), (Sk Sub.nil), ?_⟩
   refine ⟨?_, ?_⟩ <;> rw [← hinv, ZU h10n, idxS, if_pos h12]
  refine Zi <| Za <| JLn (Pu.inc rfl rfl (by omega)) <| JLM rfl <| Zb <| ⟨_, ?_, (j + 1), ((step (l[j]) s).2), rfl, rfl, rfl, rfl, rfl, (Sk Sub.nil), ?_, ?_, ?_, rfl⟩
  ·omega
  ·omega
  ·exact hI _ (List.getElem_mem h10n) s hs h12
  rw [ZU h10n, idxS, if_neg (by simp [h12])] at hinv; exact hinv
 replace h10 := df h10
 have h10n : l.length ≤ j := by omega
 refine Zy _ rfl <| Zc <| Za <| JLA rfl <| Zb <| Zh <| ⟨iv (-1), [Sc s], Ret.one rfl (RV.tmp rfl), (Sk Sub.nil), ?_⟩
 refine ⟨?_, ?_⟩ <;> rw [← hinv, Yt h10n] <;> rfl
theorem idxNC_ct (g : Nat) (fs cv : List Value) (hcall : ∀ args w, (callFunc g args).run Tryz.prog w = .ok (.enter g args) w) {σ : Type} (Sc : σ → Zj) (Inv : σ → Prop) (step : (Pt × List ByteArray × Nm) → σ → Bool × σ) (l : List (Pt × List ByteArray × Nm)) (v : Value) (H : Heap) (hl : rdS RNC 73 H v l) (s0 : σ) (h0 : Inv s0) (hI : ∀ x ∈ l, ∀ s, Inv s → (step x s).1 = false → Inv (step x s).2) (hg : ∀ x ∈ l, ∀ s, Inv s → ∀ a h, Hle H h → RNC h a x → CT Tryz.prog g ⟨fs ++ [.agg ⟨a⟩] ++ cv⟩ [Sc s] h (fun v N => v = .bool (step x s).1 ∧ N = [Sc (step x s).2])) : CT Tryz.prog 93 ⟨[v, .func (.func g) ⟨fs⟩ ⟨cv⟩]⟩ [Sc s0] H (fun v N => v = iv (idxS step l 0 s0).1 ∧ N = [Sc (idxS step l 0 s0).2]) := by
 refine Zm Tryz.func93 rfl rfl <| Zc <| Za <| JLA rfl <| Zb <| Zc <| Zc <| Za <| JLm v ?_
 obtain ⟨a1, cap1, hv1⟩ := hl.sl
 have hle1 := hl.le
 refine JLn (Pu.lenSl Tryz.runUnderlying30 hv1) <| JLM rfl <| Zb <| Zl <| ZE (fun k ρ M => ∃ (j : Nat) (s : σ), ρ 0 = v ∧ ρ 1 = .func (.func g) ⟨fs⟩ ⟨cv⟩ ∧ ρ 4 = iv 0 ∧ ρ 7 = iv ((l.length : Int)) ∧ ρ 8 = iv ((j : Int)) ∧ Sub [Sc s] M ∧ j ≤ l.length ∧ Inv s ∧ idxS step (l.drop j) j s = idxS step l 0 s0 ∧ k = l.length - j) _ ⟨0, s0, rfl, rfl, rfl, rfl, rfl, (Sk Sub.nil), Nat.zero_le _, h0, rfl, rfl⟩ ?_
 rintro _ ρ2 _ ⟨j, s, e3, e4, e5, e6, e7, hm8, hj, hs, hinv, rfl⟩
 obtain ⟨ρ9, rfl⟩ := Zr (uc e3 (uc e4 (uc e5 (uc e6 (uc e7 un)))))
 clear e3 e4 e5 e6 e7
 refine ZJ hm8 <| Zc <| Za <| JLn (Pu.lss rfl rfl) <| Zb <| Zc <| Zf rfl (fun h10 => ?_) (fun h10 => ?_)
 ·replace h10 := dt h10
  have h10n : j < l.length := by omega
  have hlenl := hl.le
  refine Zi <| Zc <| Zl <| Zc <| Za <| JLM rfl <| JLA rfl <| Zb <| Zc <| Za <| JLM rfl <| JLm v <| JLM rfl ?_
  obtain ⟨b11, o11, cap11, row11, T11, fr11, cs11, hv11, hb11, hs11, hE11⟩ := hl.get j (by first | assumption | omega | decide | simp)
  obtain ⟨ca11, va11, cb11, rfl, hA11, hV11, hB11⟩ := hE11
  refine JLq (pp b11 (o11 + j * 73)) (Pu.idx j Tryz.runUnderlying30 ty85 hv11 rfl rfl (by first | assumption | omega | decide | simp)) <| JLr (Zg ty85 rfl (At.im hb11) hs11 <| ZD 0 rfl hcall rfl rfl (fun hin => hg _ (List.getElem_mem h10n) _ hs _ _ (Hle.hu _ _) (RNC.mono (Hle.hu _ _) (RNC_mk hA11 hV11 hB11))) rfl ?_)
  rintro _ _ ⟨rfl, rfl⟩
  refine Zb <| Zf rfl (fun h12 => ?_) (fun h12 => ?_)
  ·refine Zc <| Za <| JLM rfl <| JLA rfl <| Zb <| Zh <| ⟨iv ((j : Int)), [Sc (step (l[j]) s).2], Ret.one rfl (RV.tmp rfl), (Sk Sub.nil), ?_⟩
   refine ⟨?_, ?_⟩ <;> rw [← hinv, ZU h10n, idxS, if_pos h12]
  refine Zi <| Za <| JLn (Pu.inc rfl rfl (by omega)) <| JLM rfl <| Zb <| ⟨_, ?_, (j + 1), ((step (l[j]) s).2), rfl, rfl, rfl, rfl, rfl, (Sk Sub.nil), ?_, ?_, ?_, rfl⟩
  ·omega
  ·omega
  ·exact hI _ (List.getElem_mem h10n) s hs h12
  rw [ZU h10n, idxS, if_neg (by simp [h12])] at hinv; exact hinv
 replace h10 := df h10
 have h10n : l.length ≤ j := by omega
 refine Zy _ rfl <| Zc <| Za <| JLA rfl <| Zb <| Zh <| ⟨iv (-1), [Sc s], Ret.one rfl (RV.tmp rfl), (Sk Sub.nil), ?_⟩
 refine ⟨?_, ?_⟩ <;> rw [← hinv, Yt h10n] <;> rfl
theorem containsN_ct (g : Nat) (fs cv : List Value) (hcall : ∀ args w, (callFunc g args).run Tryz.prog w = .ok (.enter g args) w) {σ : Type} (Sc : σ → Zj) (Inv : σ → Prop) (step : Nm → σ → Bool × σ) (l : List Nm) (v : Value) (H : Heap) (hl : rdS RN 37 H v l) (s0 : σ) (h0 : Inv s0) (hI : ∀ x ∈ l, ∀ s, Inv s → (step x s).1 = false → Inv (step x s).2) (hg : ∀ x ∈ l, ∀ s, Inv s → ∀ a h, Hle H h → RN h a x → CT Tryz.prog g ⟨fs ++ [.agg ⟨a⟩] ++ cv⟩ [Sc s] h (fun v N => v = .bool (step x s).1 ∧ N = [Sc (step x s).2])) : CT Tryz.prog 38 ⟨[v, .func (.func g) ⟨fs⟩ ⟨cv⟩]⟩ [Sc s0] H (fun v N => v = .bool (ZP step l s0).1 ∧ N = [Sc (ZP step l s0).2]) := by
 refine Zm Tryz.func38 rfl rfl <| Zc <| Za <| JLA rfl <| Zb <| Zc <| Za <| JLm v <| JLM rfl <| ZD 0 rfl Tryz.call92 rfl rfl (fun hin => idxN_ct g fs cv hcall Sc Inv step _ _ _ (RNs.mono (Hle.hu _ _) hl) s0 h0 hI (fun x hx s hs a h hh ra => hg x hx s hs a h (Hle.trans (Hle.hu _ _) hh) ra)) rfl ?_
 rintro _ _ ⟨rfl, rfl⟩
 refine JLn (Pu.geq rfl rfl) <| JLA rfl <| Zb <| Zh <| ⟨.bool (decide (0 ≤ (idxS step l 0 s0).1)), [Sc (idxS step l 0 s0).2], Ret.one rfl (RV.tmp rfl), (Sk Sub.nil), ?_⟩
 exact ⟨by rw [(Xr step l 0 s0).1], by rw [(Xr step l 0 s0).2]⟩
theorem containsNC_ct (g : Nat) (fs cv : List Value) (hcall : ∀ args w, (callFunc g args).run Tryz.prog w = .ok (.enter g args) w) {σ : Type} (Sc : σ → Zj) (Inv : σ → Prop) (step : (Pt × List ByteArray × Nm) → σ → Bool × σ) (l : List (Pt × List ByteArray × Nm)) (v : Value) (H : Heap) (hl : rdS RNC 73 H v l) (s0 : σ) (h0 : Inv s0) (hI : ∀ x ∈ l, ∀ s, Inv s → (step x s).1 = false → Inv (step x s).2) (hg : ∀ x ∈ l, ∀ s, Inv s → ∀ a h, Hle H h → RNC h a x → CT Tryz.prog g ⟨fs ++ [.agg ⟨a⟩] ++ cv⟩ [Sc s] h (fun v N => v = .bool (step x s).1 ∧ N = [Sc (step x s).2])) : CT Tryz.prog 39 ⟨[v, .func (.func g) ⟨fs⟩ ⟨cv⟩]⟩ [Sc s0] H (fun v N => v = .bool (ZP step l s0).1 ∧ N = [Sc (ZP step l s0).2]) := by
 refine Zm Tryz.func39 rfl rfl <| Zc <| Za <| JLA rfl <| Zb <| Zc <| Za <| JLm v <| JLM rfl <| ZD 0 rfl Tryz.call93 rfl rfl (fun hin => idxNC_ct g fs cv hcall Sc Inv step _ _ _ (RNCs.mono (Hle.hu _ _) hl) s0 h0 hI (fun x hx s hs a h hh ra => hg x hx s hs a h (Hle.trans (Hle.hu _ _) hh) ra)) rfl ?_
 rintro _ _ ⟨rfl, rfl⟩
 refine JLn (Pu.geq rfl rfl) <| JLA rfl <| Zb <| Zh <| ⟨.bool (decide (0 ≤ (idxS step l 0 s0).1)), [Sc (idxS step l 0 s0).2], Ret.one rfl (RV.tmp rfl), (Sk Sub.nil), ?_⟩
 exact ⟨by rw [(Xr step l 0 s0).1], by rw [(Xr step l 0 s0).2]⟩
end Go.Proofs.YtmophpgiaiemhaaGreat.Hs
/-! Walks, printed by a program of this session's own (gen.py). -/
namespace Go.Proofs.YtmophpgiaiemhaaGreat.Hs
open Go Go.Proofs
set_option maxRecDepth 100000
set_option linter.unusedVariables false
set_option linter.unusedSimpArgs false
attribute [local irreducible] JL J CT wlo DT
theorem chosen1_ct (v : Value) (H : Heap) (hl : rdS RS 1 H v [ltr 0]) : CT Tryz.prog 110 ⟨[v, iv 1]⟩ [] H (fun v N => ∃ u1 u2 k1 k2, v = .tuple ⟨[u1, u2]⟩ ∧ N = [k1, k2] ∧ Own 9 1 u1 (Z0 [ltr 1, ltr 0]) k1 ∧ Own 9 1 u2 (Z0 [ltr 1]) k2) := by
 refine Zm Tryz.func110 rfl rfl <| Zc <| Za <| JLA rfl <| JLA rfl <| Zb <| Zc <| Za <| JLm v ?_
 obtain ⟨a1, cap1, hv1⟩ := hl.sl
 have hle1 := hl.le
 refine JLn (Pu.lenSl Tryz.runUnderlying111 hv1) <| JLM rfl <| JLq (iv 2) (Pu.arith rfl rfl rfl) <| JLr (Runs_make 2 Tryz.runUnderlying181 el4 rfl rfl rfl rfl (by decide) (by decide) fun b2 k2 _ hk2 => ?_)
 obtain rfl : k2 = (BX b2 (bls (List.replicate 2 false)) 4) := hk2
 refine JLA rfl <| Zb <| Zc <| Za <| JLM rfl <| JLq (.func (.func 140) ⟨[.slice (some ⟨b2, 0, none⟩) 2 2]⟩ ⟨[]⟩) (Pu.makeFunc rfl rfl) <| JLA rfl <| Zb <| Zc <| Zc <| Za <| JLm v ?_
 obtain ⟨a3, cap3, hv3⟩ := hl.sl
 have hle3 := hl.le
 refine JLn (Pu.lenSl Tryz.runUnderlying111 hv3) <| JLM rfl <| Zb <| Zl <| YV 2 <| Yg <| Zc <| Za <| JLq (.bool true) (show Pu _ _ _ (.bool (decide ((0 : Int) < 1))) from Pu.lss rfl rfl) <| Zb <| Zc <| Zf (b := true) rfl (fun _ => ?_) (fun h => absurd h (by simp))
 refine Zi <| Zc <| Zl <| Zc <| Za ?_
 obtain ⟨b4, o4, cap4, row4, T4, fr4, cs4, hv4, hb4, hs4, hE4⟩ := hl.get 0 (by first | assumption | omega | decide | simp)
 refine JLq (pp b4 (o4 + 0 * 1)) (Pu.idx 0 Tryz.runUnderlying111 ty9 hv4 rfl rfl (by first | assumption | omega | decide | simp)) <| JLr (Ze ty9 rfl (At.im hb4) (Yi ((show cs4 = [Value.string (ltr 0)] from hE4) ▸ hs4)) <| JLA rfl <| Zb <| Za <| JLM rfl <| JLM rfl <| ZD 0 rfl Tryz.call140 rfl rfl (fun hin => mark_ct 0 2 _ _ _ (by decide) (List.length_replicate ..)) rfl ?_)
 rintro _ _ ⟨rfl, rfl⟩
 refine Zb <| Za <| JLq (iv 1) (Pu.arith rfl rfl rfl) <| JLM rfl <| Zb <| Yg <| Zc <| Za <| JLq (.bool false) (show Pu _ _ _ (.bool (decide ((1 : Int) < 1))) from Pu.lss rfl rfl) <| Zb <| Zc <| Zf (b := false) rfl (fun h => absurd h (by simp)) (fun _ => Zy _ rfl ?_)
 refine Zc <| Za <| JLA rfl <| Zb <| Zc <| Zc <| Za <| JLM rfl <| JLM rfl <| Zb <| Zl <| YV 2 <| Yg ?_
 refine Zc <| Za <| JLq (.bool true) (show Pu _ _ _ (.bool (decide ((0 : Int) < 1))) from Pu.lss rfl rfl) <| Zb <| Zc <| Zf (b := true) rfl (fun _ => ?_) (fun h => absurd h (by simp))
 refine Zi <| Zc <| Zl <| Zc <| Za <| JLM rfl <| Jc Tryz.call141 rfl (fun hin => int_r (r := 1) (idxB_ct false _ _ _ _ ((markL_len ..).trans (List.length_replicate ..)) (by decide) (hin 0 _ rfl _ _ List.mem_cons_self)) (by decide)) rfl ?_
 rintro _ _ ⟨rfl, rfl⟩
 refine JLA rfl <| Zb <| Zc <| Za <| JLM rfl <| JLM rfl <| Jc Tryz.call142 rfl (fun hin => name_ct 1 _ (by decide)) rfl ?_
 rintro _ _ ⟨rfl, rfl⟩
 refine JLr (Zp (vs := [.string (ltr 1)]) [[.string (ltr 1)]] Tryz.runUnderlying28 el9 rfl rfl (by intro e he; simp only [List.mem_cons, List.not_mem_nil, or_false] at he; subst he; exact rfl) rfl (by decide) fun b5 k5 ho5 hk5 => JL_sub (M' := [[], k5, (BX b2 (bls (markL 0 (List.replicate 2 false))) 4)]) (Sub.emp Sub.refl) ?_)
 have hlens6 : ∀ e ∈ ([[.string (ltr 1)]] : List (List Value)), List.length e = 1 := by
  intro e he; simp only [List.mem_cons, List.not_mem_nil, or_false] at he
  rcases he with rfl
  ·exact rfl
 have hoks6 : ∀ e ∈ ([[.string (ltr 1)]] : List (List Value)), okc e := by
  intro e he; simp only [List.mem_cons, List.not_mem_nil, or_false] at he
  rcases he with rfl
  ·exact (Zk rfl Zq)
 refine JLr (ZA (i := 0) (n := 1) (es' := [[.string (ltr 1)]]) Tryz.runUnderlying28 Tryz.runUnderlying28 (Or.inl rfl) el9 rfl rfl rfl (show Own _ _ _ (Z0 []) _ from Own.nil) (fun F w m => Src.row (((At.k 1 rfl (by rw [hk5]; exact List.mem_cons_self))).heap m) (Zt (Zz hlens6))) rfl hlens6 hoks6 (by decide) (by simp [Z0]) fun v6 k6 ho6 => ?_)
 rw [← strs_snoc] at ho6
 refine JLa v6 <| Zb <| Za <| JLM rfl <| JLM rfl <| JLq (pp b2 (0 + 1 * 1)) (Pu.idx 1 Tryz.runUnderlying181 ty4 rfl rfl (by omega) (by omega)) <| JLr (Zd 2 (vs := [.bool true]) (l := bls ((markL 0 (List.replicate 2 false)).set 1 true)) ty4 rfl rfl rfl rfl rfl (Zk rfl Zq) (bls_set1 (by have hbl : List.length (markL 0 (List.replicate 2 false)) = 2 := ((markL_len ..).trans (List.length_replicate ..)); omega)) <| Zb <| Za <| JLq (iv 1) (Pu.arith rfl rfl rfl) <| JLM rfl <| Zb <| Yg ?_)
 refine Zc <| Za <| JLq (.bool false) (show Pu _ _ _ (.bool (decide ((1 : Int) < 1))) from Pu.lss rfl rfl) <| Zb <| Zc <| Zf (b := false) rfl (fun h => absurd h (by simp)) (fun _ => Zy _ rfl <| Zc <| Za <| JLm v <| JLm v6 <| Jc Tryz.call121 rfl (fun hin => with_ct _ _ _ _ _ (RSs.mono (Hle.hu _ _) hl) (Yc ho6 (by simp) (hin 0 _ rfl)) (by simp)) rfl ?_)
 rintro u7 _ ⟨_, k7, hu7, rfl, ho7⟩; subst hu7
 refine JLm v6 <| JLa u7 <| JLa v6 <| Zb <| Zh <| ⟨.tuple ⟨[u7, v6]⟩, [k7, k6], Ret.two rfl (RV.tmp rfl) (RV.tmp rfl), (Sk (Sk Sub.nil)), ?_⟩
 exact ⟨_, _, _, _, rfl, rfl, ho7, ho6⟩
theorem chosen2_ct (v : Value) (H : Heap) (hl : rdS RS 1 H v [ltr 1, ltr 0]) : CT Tryz.prog 110 ⟨[v, iv 1]⟩ [] H (fun v N => ∃ u1 u2 k1 k2, v = .tuple ⟨[u1, u2]⟩ ∧ N = [k1, k2] ∧ Own 9 1 u1 (Z0 [ltr 2, ltr 1, ltr 0]) k1 ∧ Own 9 1 u2 (Z0 [ltr 2]) k2) := by
 refine Zm Tryz.func110 rfl rfl <| Zc <| Za <| JLA rfl <| JLA rfl <| Zb <| Zc <| Za <| JLm v ?_
 obtain ⟨a1, cap1, hv1⟩ := hl.sl
 have hle1 := hl.le
 refine JLn (Pu.lenSl Tryz.runUnderlying111 hv1) <| JLM rfl <| JLq (iv 3) (Pu.arith rfl rfl rfl) <| JLr (Runs_make 3 Tryz.runUnderlying181 el4 rfl rfl rfl rfl (by decide) (by decide) fun b2 k2 _ hk2 => ?_)
 obtain rfl : k2 = (BX b2 (bls (List.replicate 3 false)) 4) := hk2
 refine JLA rfl <| Zb <| Zc <| Za <| JLM rfl <| JLq (.func (.func 140) ⟨[.slice (some ⟨b2, 0, none⟩) 3 3]⟩ ⟨[]⟩) (Pu.makeFunc rfl rfl) <| JLA rfl <| Zb <| Zc <| Zc <| Za <| JLm v ?_
 obtain ⟨a3, cap3, hv3⟩ := hl.sl
 have hle3 := hl.le
 refine JLn (Pu.lenSl Tryz.runUnderlying111 hv3) <| JLM rfl <| Zb <| Zl <| YV 3 <| Yg <| Zc <| Za <| JLq (.bool true) (show Pu _ _ _ (.bool (decide ((0 : Int) < 2))) from Pu.lss rfl rfl) <| Zb <| Zc <| Zf (b := true) rfl (fun _ => ?_) (fun h => absurd h (by simp))
 refine Zi <| Zc <| Zl <| Zc <| Za ?_
 obtain ⟨b4, o4, cap4, row4, T4, fr4, cs4, hv4, hb4, hs4, hE4⟩ := hl.get 0 (by first | assumption | omega | decide | simp)
 refine JLq (pp b4 (o4 + 0 * 1)) (Pu.idx 0 Tryz.runUnderlying111 ty9 hv4 rfl rfl (by first | assumption | omega | decide | simp)) <| JLr (Ze ty9 rfl (At.im hb4) (Yi ((show cs4 = [Value.string (ltr 1)] from hE4) ▸ hs4)) <| JLA rfl <| Zb <| Za <| JLM rfl <| JLM rfl <| ZD 0 rfl Tryz.call140 rfl rfl (fun hin => mark_ct 1 3 _ _ _ (by decide) (List.length_replicate ..)) rfl ?_)
 rintro _ _ ⟨rfl, rfl⟩
 refine Zb <| Za <| JLq (iv 1) (Pu.arith rfl rfl rfl) <| JLM rfl <| Zb <| Yg <| Zc <| Za <| JLq (.bool true) (show Pu _ _ _ (.bool (decide ((1 : Int) < 2))) from Pu.lss rfl rfl) <| Zb <| Zc <| Zf (b := true) rfl (fun _ => ?_) (fun h => absurd h (by simp))
 refine Zi <| Zc <| Zl <| Zc <| Za ?_
 obtain ⟨b5, o5, cap5, row5, T5, fr5, cs5, hv5, hb5, hs5, hE5⟩ := hl.get 1 (by first | assumption | omega | decide | simp)
 refine JLq (pp b5 (o5 + 1 * 1)) (Pu.idx 1 Tryz.runUnderlying111 ty9 hv5 rfl rfl (by first | assumption | omega | decide | simp)) <| JLr (Ze ty9 rfl (At.im hb5) (Yi ((show cs5 = [Value.string (ltr 0)] from hE5) ▸ hs5)) <| JLA rfl <| Zb <| Za <| JLM rfl <| JLM rfl <| ZD 0 rfl Tryz.call140 rfl rfl (fun hin => mark_ct 0 3 _ _ _ (by decide) ((markL_len ..).trans (List.length_replicate ..))) rfl ?_)
 rintro _ _ ⟨rfl, rfl⟩
 refine Zb <| Za <| JLq (iv 2) (Pu.arith rfl rfl rfl) <| JLM rfl <| Zb <| Yg <| Zc <| Za <| JLq (.bool false) (show Pu _ _ _ (.bool (decide ((2 : Int) < 2))) from Pu.lss rfl rfl) <| Zb <| Zc <| Zf (b := false) rfl (fun h => absurd h (by simp)) (fun _ => Zy _ rfl ?_)
 refine Zc <| Za <| JLA rfl <| Zb <| Zc <| Zc <| Za <| JLM rfl <| JLM rfl <| Zb <| Zl <| YV 2 <| Yg ?_
 refine Zc <| Za <| JLq (.bool true) (show Pu _ _ _ (.bool (decide ((0 : Int) < 1))) from Pu.lss rfl rfl) <| Zb <| Zc <| Zf (b := true) rfl (fun _ => ?_) (fun h => absurd h (by simp))
 refine Zi <| Zc <| Zl <| Zc <| Za <| JLM rfl <| Jc Tryz.call141 rfl (fun hin => int_r (r := 2) (idxB_ct false _ _ _ _ ((markL_len ..).trans ((markL_len ..).trans (List.length_replicate ..))) (by decide) (hin 0 _ rfl _ _ List.mem_cons_self)) (by decide)) rfl ?_
 rintro _ _ ⟨rfl, rfl⟩
 refine JLA rfl <| Zb <| Zc <| Za <| JLM rfl <| JLM rfl <| Jc Tryz.call142 rfl (fun hin => name_ct 2 _ (by decide)) rfl ?_
 rintro _ _ ⟨rfl, rfl⟩
 refine JLr (Zp (vs := [.string (ltr 2)]) [[.string (ltr 2)]] Tryz.runUnderlying28 el9 rfl rfl (by intro e he; simp only [List.mem_cons, List.not_mem_nil, or_false] at he; subst he; exact rfl) rfl (by decide) fun b6 k6 ho6 hk6 => JL_sub (M' := [[], k6, (BX b2 (bls (markL 0 (markL 1 (List.replicate 3 false)))) 4)]) (Sub.emp Sub.refl) ?_)
 have hlens7 : ∀ e ∈ ([[.string (ltr 2)]] : List (List Value)), List.length e = 1 := by
  intro e he; simp only [List.mem_cons, List.not_mem_nil, or_false] at he
  rcases he with rfl
  ·exact rfl
 have hoks7 : ∀ e ∈ ([[.string (ltr 2)]] : List (List Value)), okc e := by
  intro e he; simp only [List.mem_cons, List.not_mem_nil, or_false] at he
  rcases he with rfl
  ·exact (Zk rfl Zq)
 refine JLr (ZA (i := 0) (n := 1) (es' := [[.string (ltr 2)]]) Tryz.runUnderlying28 Tryz.runUnderlying28 (Or.inl rfl) el9 rfl rfl rfl (show Own _ _ _ (Z0 []) _ from Own.nil) (fun F w m => Src.row (((At.k 1 rfl (by rw [hk6]; exact List.mem_cons_self))).heap m) (Zt (Zz hlens7))) rfl hlens7 hoks7 (by decide) (by simp [Z0]) fun v7 k7 ho7 => ?_)
 rw [← strs_snoc] at ho7
 refine JLa v7 <| Zb <| Za <| JLM rfl <| JLM rfl <| JLq (pp b2 (0 + 2 * 1)) (Pu.idx 2 Tryz.runUnderlying181 ty4 rfl rfl (by omega) (by omega)) <| JLr (Zd 2 (vs := [.bool true]) (l := bls ((markL 0 (markL 1 (List.replicate 3 false))).set 2 true)) ty4 rfl rfl rfl rfl rfl (Zk rfl Zq) (bls_set1 (by have hbl : List.length (markL 0 (markL 1 (List.replicate 3 false))) = 3 := ((markL_len ..).trans ((markL_len ..).trans (List.length_replicate ..))); omega)) <| Zb <| Za <| JLq (iv 1) (Pu.arith rfl rfl rfl) <| JLM rfl <| Zb <| Yg ?_)
 refine Zc <| Za <| JLq (.bool false) (show Pu _ _ _ (.bool (decide ((1 : Int) < 1))) from Pu.lss rfl rfl) <| Zb <| Zc <| Zf (b := false) rfl (fun h => absurd h (by simp)) (fun _ => Zy _ rfl <| Zc <| Za <| JLm v <| JLm v7 <| Jc Tryz.call121 rfl (fun hin => with_ct _ _ _ _ _ (RSs.mono (Hle.hu _ _) hl) (Yc ho7 (by simp) (hin 0 _ rfl)) (by simp)) rfl ?_)
 rintro u8 _ ⟨_, k8, hu8, rfl, ho8⟩; subst hu8
 refine JLm v7 <| JLa u8 <| JLa v7 <| Zb <| Zh <| ⟨.tuple ⟨[u8, v7]⟩, [k8, k7], Ret.two rfl (RV.tmp rfl) (RV.tmp rfl), (Sk (Sk Sub.nil)), ?_⟩
 exact ⟨_, _, _, _, rfl, rfl, ho8, ho7⟩
end Go.Proofs.YtmophpgiaiemhaaGreat.Hs
/-! Walks, printed by a program of this session's own (gen.py). -/
namespace Go.Proofs.YtmophpgiaiemhaaGreat.Hs
open Go Go.Proofs
set_option maxRecDepth 100000
set_option linter.unusedVariables false
set_option linter.unusedSimpArgs false
attribute [local irreducible] JL J CT wlo DT
set_option maxHeartbeats 1000000 in
theorem named_va : ∀ (cs : List Value) (v : Value) (H : Heap), RT H cs (Tm.mk 1 1 zS [] []) → rdS RS 1 H v [ltr 2, ltr 1, ltr 0] → CT Tryz.prog 65 ⟨[.agg ⟨cs⟩, v]⟩ [] H (fun v N => ∃ cs k, v = .agg ⟨cs⟩ ∧ N = [k] ∧ NC [] cs k) := by
 intro cs v H ht hl
 obtain ⟨ks, cv, rfl, _, _, hks, hcv⟩ := RT_mk.1 ht
 refine Zm Tryz.func65 rfl rfl <| Zc <| Za <| JLr (Zo (l := pkT 1 1 zS ks cv) rfl rfl fun b1 => JLr (Zn (l := (pkT 0 0 zS nS nS) ++ ([nS] : List Value)) Tryz.zeroValue32 rfl fun b2 => Zb <| Zc <| Za <| JLq (pp b1 0) (ZO rfl rfl) <| JLr (Ze ty3 rfl (At.bx 1 rfl) (Z3 ..) <| JLq (pp b1 1) (ZZ rfl rfl) <| JLr (Ze ty3 rfl (At.bx 1 rfl) (Yh ..) <| JLq (pp b1 2) (fa27_2 rfl rfl) ?_))))
 refine JLr (Zg Xm rfl (At.bx 1 rfl) (pkT_2 ..) <| JLq (.agg ⟨(pkT 1 1 zS nS nS) ++ ([nS] : List Value)⟩) (Pu.build (pv := [(0, iv 1), (1, iv 1), (2, .agg ⟨sC zS⟩)]) (l := (pkT 1 1 zS nS nS) ++ ([nS] : List Value)) rfl (bld32_0_1_2 _ _ _)) <| JLr (Zn (l := (pkT 0 0 zS nS nS) ++ ([nS] : List Value)) Tryz.zeroValue32 rfl fun b3 => JLr (Zd 0 (vs := (pkT 1 1 zS nS nS) ++ ([nS] : List Value)) (l := (pkT 1 1 zS nS nS) ++ ([nS] : List Value)) Ya rfl rfl rfl rfl rfl (ZN (ZI rfl rfl) (Zk rfl Zq)) (ZM (n := 37) rfl rfl) <| Zb <| Zc <| Zc <| Za <| JLq (pp b1 0) (ZO rfl rfl) <| JLr (Ze ty3 rfl (At.bx 2 rfl) (Z3 ..) <| JLq (.bool true) (show Pu _ _ _ (.bool (decide ((1 : Int) = 1))) from Pu.eql rfl rfl) <| Zb <| Zf (b := true) rfl (fun _ => ?_) (fun h => absurd h (by simp))))))
 refine ZF mixed #[0, 0, 2, 7, 15, 31, 0, 64, 255, 511] 8 [some 24, some 25, some 26, some 27, some 28, some 29, some 30, none] [(7, 8)] [(5, fun _ _ vw qw => ∃ b k, vw = .slice (some ⟨b, 0, none⟩) 1 1 ∧ qw = [k] ∧ Own 9 1 (.slice (some ⟨b, 0, none⟩) 1 1) [[.string (ltr 1)]] k ∧ k = (BX b (List.flatten [[.string (ltr 1)]]) 9)), (7, fun _ _ vw qw => vw = undef ∧ qw = [(BX b3 ((pkT 1 0 zS nS nS) ++ ([nS] : List Value)) 32)])] rfl (by kernel_rfl) rfl (by kernel_rfl) <| Dm v <| Dq (pp b1 1) (fun _ => ZZ rfl rfl) <| Dl1 ty3 (At.bx 1 rfl) (Yh ..) ?_
 obtain ⟨b6, o6, cap6, row6, T6, fr6, cs6, hv6, hb6, hs6, hE6⟩ := hl.get 1 (by first | assumption | omega | decide | simp)
 refine Dq (pp b6 (o6 + 1 * 1)) (fun _ => Pu.idx 1 Tryz.runUnderlying111 ty9 hv6 rfl rfl (by first | assumption | omega | decide | simp)) <| Dl1 ty9 (At.im hb6) (Yi ((show cs6 = [Value.string (ltr 1)] from hE6) ▸ hs6)) <| Dr rfl (fun _ => Zp (vs := [.string (ltr 1)]) [[.string (ltr 1)]] Tryz.runUnderlying28 el9 rfl rfl (by intro e he; simp only [List.mem_cons, List.not_mem_nil, or_false] at he; subst he; exact rfl) rfl (by decide) fun b k h1 h2 => ⟨[k], by rw [ZR rfl]; exact Sub.refl, b, k, rfl, rfl, h1, h2⟩) (fun _ _ ⟨b7, k7, e1, e2, ho7, hk7⟩ => ?_); subst e1 e2
 refine Dq (pp b3 1) (fun _ => fa32_1 rfl rfl) <| Dr rfl (fun _ => Zd 0 (vs := [iv 0]) (l := (pkT 1 0 zS nS nS) ++ ([nS] : List Value)) ty3 rfl rfl rfl rfl rfl (Zk rfl Zq) (spl_l (pkT_s1 ..)) ⟨[_], keptE (i := 0) rfl rfl, rfl, rfl⟩) ?_; rintro _ _ ⟨rfl, rfl⟩
 refine ZL (M' := [(BX b3 ((pkT 1 0 zS nS nS) ++ ([nS] : List Value)) 32), k7, (BX b2 ((pkT 0 0 zS nS nS) ++ ([nS] : List Value)) 32), (BX b1 (pkT 1 1 zS ks cv) 27)]) rfl ?_
 show JL _ _ _ [_, _] _ _ _
 refine JLq (pp b3 34) (Y2 rfl rfl) <| JLr (Zd 0 (vs := [.slice (some ⟨b7, 0, none⟩) 1 1]) (l := (pkT 1 0 zS (.slice (some ⟨b7, 0, none⟩) 1 1) nS) ++ ([nS] : List Value)) Yy rfl rfl rfl rfl rfl (Zk rfl Zq) (spl_l (pkT_s34 ..)) <| Zb <| Zc <| Zc <| Za <| JLq (pp b1 34) (Z8 rfl rfl) <| JLr (Ze YW rfl (At.bx 3 rfl) (Yb ..) ?_))
 obtain ⟨a8, cap8, hv8⟩ := hks.sl
 have hle8 := hks.le
 refine JLn (Pu.lenSl Tryz.runUnderlying24 hv8) <| JLM rfl <| Zb <| Zl <| YV 1 <| Yg <| Zc <| Za <| JLq (.bool false) (show Pu _ _ _ (.bool (decide ((0 : Int) < 0))) from Pu.lss rfl rfl) <| Zb <| Zc <| Zf (b := false) rfl (fun h => absurd h (by simp)) (fun _ => Zy _ rfl ?_)
 refine Zc <| Zc <| Za <| JLq (pp b1 35) (Z1 rfl rfl) <| JLr (Ze YI rfl (At.bx 3 rfl) (Z2 ..) ?_)
 obtain ⟨a9, cap9, hv9⟩ := hcv.sl
 have hle9 := hcv.le
 refine JLn (Pu.lenSl Tryz.runUnderlying25 hv9) <| JLM rfl <| Zb <| Zl <| YV 1 <| Yg <| Zc <| Za <| JLq (.bool false) (show Pu _ _ _ (.bool (decide ((0 : Int) < 0))) from Pu.lss rfl rfl) <| Zb <| Zc <| Zf (b := false) rfl (fun h => absurd h (by simp)) (fun _ => Zy _ rfl ?_)
 refine Zc <| Za <| JLr (Zg Ya rfl (At.bx 0 rfl) (Zt rfl) <| JLr (Zd 2 (vs := (pkT 1 0 zS (.slice (some ⟨b7, 0, none⟩) 1 1) nS) ++ ([nS] : List Value)) (l := (pkT 1 0 zS (.slice (some ⟨b7, 0, none⟩) 1 1) nS) ++ ([nS] : List Value)) Ya rfl rfl rfl rfl rfl (ZN (ZI rfl rfl) (Zk rfl Zq)) (ZM (n := 37) rfl rfl) <| Zb <| Zh <| ⟨.agg ⟨(pkT 1 0 zS (.slice (some ⟨b7, 0, none⟩) 1 1) nS) ++ ([nS] : List Value)⟩, [[]], Ret.one rfl (RV.cell Ya rfl (At.bx 2 rfl) (Zt rfl)), (Sub.emp Sub.nil), ?_⟩))
 exact ⟨_, _, rfl, rfl, rfl, (ZN (ZI rfl rfl) (Zk rfl Zq))⟩
set_option maxHeartbeats 1000000 in
theorem named1_ct : ∀ (cs : List Value) (v : Value) (H : Heap), RT H cs (Tm.mk 3 0 zS [Tm.mk 1 1 zS [] []] []) → rdS RS 1 H v [ltr 1, ltr 0] → CT Tryz.prog 65 ⟨[.agg ⟨cs⟩, v]⟩ [] H (fun v N => ∃ cs k, v = .agg ⟨cs⟩ ∧ N = [k] ∧ NC [[ltr 2]] cs k) := by
 intro cs v H ht hl
 obtain ⟨ks, cv, rfl, _, _, hks, hcv⟩ := RT_mk.1 ht
 refine Zm Tryz.func65 rfl rfl <| Zc <| Za <| JLr (Zo (l := pkT 3 0 zS ks cv) rfl rfl fun b1 => JLr (Zn (l := (pkT 0 0 zS nS nS) ++ ([nS] : List Value)) Tryz.zeroValue32 rfl fun b2 => Zb <| Zc <| Za <| JLq (pp b1 0) (ZO rfl rfl) <| JLr (Ze ty3 rfl (At.bx 1 rfl) (Z3 ..) <| JLq (pp b1 1) (ZZ rfl rfl) <| JLr (Ze ty3 rfl (At.bx 1 rfl) (Yh ..) <| JLq (pp b1 2) (fa27_2 rfl rfl) ?_))))
 refine JLr (Zg Xm rfl (At.bx 1 rfl) (pkT_2 ..) <| JLq (.agg ⟨(pkT 3 0 zS nS nS) ++ ([nS] : List Value)⟩) (Pu.build (pv := [(0, iv 3), (1, iv 0), (2, .agg ⟨sC zS⟩)]) (l := (pkT 3 0 zS nS nS) ++ ([nS] : List Value)) rfl (bld32_0_1_2 _ _ _)) <| JLr (Zn (l := (pkT 0 0 zS nS nS) ++ ([nS] : List Value)) Tryz.zeroValue32 rfl fun b3 => JLr (Zd 0 (vs := (pkT 3 0 zS nS nS) ++ ([nS] : List Value)) (l := (pkT 3 0 zS nS nS) ++ ([nS] : List Value)) Ya rfl rfl rfl rfl rfl (ZN (ZI rfl rfl) (Zk rfl Zq)) (ZM (n := 37) rfl rfl) <| Zb <| Zc <| Zc <| Za <| JLq (pp b1 0) (ZO rfl rfl) <| JLr (Ze ty3 rfl (At.bx 2 rfl) (Z3 ..) <| JLq (.bool false) (show Pu _ _ _ (.bool (decide ((3 : Int) = 1))) from Pu.eql rfl rfl) <| Zb <| Zf (b := false) rfl (fun h => absurd h (by simp)) (fun _ => ?_)))))
 refine Zi <| Zc <| Zc <| Za <| JLq (pp b1 34) (Z8 rfl rfl) <| JLr (Ze YW rfl (At.bx 2 rfl) (Yb ..) ?_)
 obtain ⟨a4, cap4, hv4⟩ := hks.sl
 have hle4 := hks.le
 refine JLn (Pu.lenSl Tryz.runUnderlying24 hv4) <| JLM rfl <| Zb <| Zl <| YV 2 <| Yg <| Zc <| Za <| JLq (.bool true) (show Pu _ _ _ (.bool (decide ((0 : Int) < 1))) from Pu.lss rfl rfl) <| Zb <| Zc <| Zf (b := true) rfl (fun _ => ?_) (fun h => absurd h (by simp))
 refine Zi <| Zc <| Zl <| Zc <| Za <| JLM rfl ?_
 obtain ⟨b5, o5, cap5, row5, T5, fr5, cs5, hv5, hb5, hs5, hE5⟩ := hks.get 0 (by first | assumption | omega | decide | simp)
 refine JLq (pp b5 (o5 + 0 * 36)) (Pu.idx 0 Tryz.runUnderlying24 Zs hv5 rfl rfl (by first | assumption | omega | decide | simp)) <| JLr (Zg Zs rfl (At.im hb5) hs5 <| JLr (Zn (l := pkT 0 0 zS nS nS) Tryz.zeroValue27 rfl fun b6 => JLA rfl <| JLr (Zd 0 (vs := cs5) (l := cs5) Zs rfl rfl rfl rfl (Zv hE5) (XC hE5) (ZM (n := 36) rfl (Zv hE5)) <| Zb <| Zc <| Za <| JLm v <| JLq (pp b1 0) (ZO rfl rfl) <| JLr (Ze ty3 rfl (At.bx 3 rfl) (Z3 ..) <| JLM rfl <| Jc Tryz.call111 rfl (fun hin => int_r (r := 1) (more_ct _ _ _) (by decide)) rfl ?_))))
 rintro _ _ ⟨rfl, rfl⟩
 refine Jc Tryz.call110 rfl (fun hin => chosen2_ct _ _ (RSs.mono (Hle.hu _ _) hl)) rfl ?_
 rintro _ _ ⟨ua7, ub7, ka7, kb7, rfl, rfl, hoa7, hob7⟩
 refine JLM rfl <| JLn (Pu.extract rfl rfl) <| JLn (Pu.extract rfl rfl) <| JLa ua7 <| JLa ub7 <| Zb <| Zc <| Za <| JLq (pp b3 34) (Y2 rfl rfl) <| JLr (Ze Yy rfl (At.bx 3 rfl) (get_l (Yb ..)) <| JLm ub7 <| JL_sub (M' := [[], ka7, kb7, (BX b6 cs5 27), (BX b3 ((pkT 3 0 zS nS nS) ++ ([nS] : List Value)) 32), (BX b2 ((pkT 0 0 zS nS nS) ++ ([nS] : List Value)) 32), (BX b1 (pkT 3 0 zS ks cv) 27)]) (Sub.emp Sub.refl) <| JLr (ZA (i := 0) (n := ([ltr 2]).length) (es' := Z0 ([ltr 2])) Tryz.runUnderlying28 Tryz.runUnderlying28 (Or.inl rfl) el9 rfl rfl rfl (show Own _ _ _ (Z0 []) _ from Own.nil) (own_src (i := 2) hob7 rfl) (ZT _) (strs_len1 _) (strs_ok _) (by decide) (by simp [Z0]) fun v8 k8 ho8 => ?_))
 rw [← strs_app] at ho8
 refine JLq (pp b3 34) (Y2 rfl rfl) <| JLr (Zd 4 (vs := [v8]) (l := (pkT 3 0 zS v8 nS) ++ ([nS] : List Value)) Yy rfl rfl rfl (ZK ho8.one) rfl (Zk ho8.one Zq) (spl_l (pkT_s34 ..)) <| Zb <| ZF mixed #[0, 1, 0, 0, 12, 28, 63, 127, 255] 6 [some 54, some 55, some 56, some 57, some 58, some 59] [] [(4, fun _ _ vw qw => ∃ cs k, vw = .agg ⟨cs⟩ ∧ qw = [k] ∧ NC ([]) cs k), (5, fun r _ vw qw => ∃ b k, vw = .slice (some ⟨b, 0, none⟩) 1 1 ∧ qw = [k] ∧ Own 32 37 (.slice (some ⟨b, 0, none⟩) 1 1) [(cel (r 4))] k ∧ k = (BX b (List.flatten [(cel (r 4))]) 32))] rfl (by kernel_rfl) rfl (by kernel_rfl) <| Dq (pp b3 35) (fun _ => Xd rfl rfl) <| Dl1 ty29 (At.bx 4 rfl) (get_l (Z2 ..)) <| Dl Zs (At.bx 3 rfl) (Zt (Zv hE5)) <| Dm ua7 <| Dc rfl Tryz.call65 (fun _ => rfl) (fun hin => named_va _ _ _ (RT.mono (Hle.hu _ _) hE5) (Yc hoa7 (by simp) (hin 1 _ rfl))) ?_)
 rintro _ _ ⟨cs11, k11, rfl, rfl, hO11⟩
 refine Dr rfl (fun _ => Zp (vs := [.agg ⟨cs11⟩]) [cs11] Tryz.runUnderlying29 el32 rfl rfl (by intro e he; simp only [List.mem_cons, List.not_mem_nil, or_false] at he; subst he; exact hO11.len) rfl (by decide) fun b k h1 h2 => ⟨[k], by rw [ZR rfl]; exact Sub.refl, b, k, rfl, rfl, h1, h2⟩) (fun _ _ ⟨b12, k12, e1, e2, ho12, hk12⟩ => ?_); subst e1 e2
 refine ZL (M' := [k12, k11, k8, ka7, kb7, (BX b6 cs5 27), (BX b3 ((pkT 3 0 zS v8 nS) ++ ([nS] : List Value)) 32), (BX b2 ((pkT 0 0 zS nS nS) ++ ([nS] : List Value)) 32), (BX b1 (pkT 3 0 zS ks cv) 27)]) rfl ?_
 show JL _ _ _ [_, _, _] _ _ _
 refine JL_sub (M' := [[], k12, k11, k8, ka7, kb7, (BX b6 cs5 27), (BX b3 ((pkT 3 0 zS v8 nS) ++ ([nS] : List Value)) 32), (BX b2 ((pkT 0 0 zS nS nS) ++ ([nS] : List Value)) 32), (BX b1 (pkT 3 0 zS ks cv) 27)]) (Sub.emp Sub.refl) ?_
 have hlens13 : ∀ e ∈ ([cs11] : List (List Value)), List.length e = 37 := by
  intro e he; simp only [List.mem_cons, List.not_mem_nil, or_false] at he
  rcases he with rfl
  ·exact hO11.len
 have hoks13 : ∀ e ∈ ([cs11] : List (List Value)), okc e := by
  intro e he; simp only [List.mem_cons, List.not_mem_nil, or_false] at he
  rcases he with rfl
  ·exact hO11.ok
 refine JLr (ZA (i := 0) (n := 1) (es' := [cs11]) Tryz.runUnderlying29 Tryz.runUnderlying29 (Or.inl rfl) el32 rfl rfl rfl Own.nil (fun F w m => Src.row (((At.k 1 rfl (by rw [hk12]; exact List.mem_cons_self))).heap m) (Zt (Zz hlens13))) rfl hlens13 hoks13 (by decide) (by simp [Z0]) fun v13 k13 ho13 => JLq (pp b3 35) (Xd rfl rfl) <| JLr (Zd 7 (vs := [v13]) (l := (pkT 3 0 zS v8 v13) ++ ([nS] : List Value)) ty29 rfl rfl rfl (ZK ho13.one) rfl (Zk ho13.one Zq) (spl_l (pkT_s35 ..)) <| Zb <| Za <| JLq (iv 1) (Pu.arith rfl rfl rfl) <| JLM rfl <| Zb <| Yg <| Zc <| Za <| JLq (.bool false) (show Pu _ _ _ (.bool (decide ((1 : Int) < 1))) from Pu.lss rfl rfl) <| Zb ?_))
 refine Zc <| Zf (b := false) rfl (fun h => absurd h (by simp)) (fun _ => Zy _ rfl <| Zc <| Zc <| Za <| JLq (pp b1 35) (Z1 rfl rfl) <| JLr (Ze YI rfl (At.bx 9 rfl) (Z2 ..) ?_))
 obtain ⟨a14, cap14, hv14⟩ := hcv.sl
 have hle14 := hcv.le
 refine JLn (Pu.lenSl Tryz.runUnderlying25 hv14) <| JLM rfl <| Zb <| Zl <| YV 1 <| Yg <| Zc <| Za <| JLq (.bool false) (show Pu _ _ _ (.bool (decide ((0 : Int) < 0))) from Pu.lss rfl rfl) <| Zb <| Zc <| Zf (b := false) rfl (fun h => absurd h (by simp)) (fun _ => Zy _ rfl ?_)
 refine Zc <| Za <| JLr (Zg Ya rfl (At.bx 7 rfl) (Zt rfl) <| JLr (Zd 8 (vs := (pkT 3 0 zS v8 v13) ++ ([nS] : List Value)) (l := (pkT 3 0 zS v8 v13) ++ ([nS] : List Value)) Ya rfl rfl rfl rfl rfl (ZN (ZI ho8.one ho13.one) (Zk rfl Zq)) (ZM (n := 37) rfl rfl) <| Zb <| Zh <| ⟨.agg ⟨(pkT 3 0 zS v8 v13) ++ ([nS] : List Value)⟩, [k8 ++ (k13 ++ k11)], Ret.one rfl (RV.cell Ya rfl (At.bx 8 rfl) (Zt rfl)), (Sub.join3 (Sub.cons 3 rfl (Sk (Sd (Sk Sub.nil))))), ?_⟩))
 exact ⟨_, _, rfl, rfl, ⟨_, _, _, _, _, _, _, _, _, _, rfl, rfl, ho8, ho13, hO11, rfl⟩⟩
set_option maxHeartbeats 1000000 in
theorem named0_ct : ∀ (cs : List Value) (v : Value) (H : Heap), RT H cs (Tm.mk 3 0 zS [(Tm.mk 3 0 zS [Tm.mk 1 1 zS [] []] [])] []) → rdS RS 1 H v [ltr 0] → CT Tryz.prog 65 ⟨[.agg ⟨cs⟩, v]⟩ [] H (fun v N => ∃ cs k, v = .agg ⟨cs⟩ ∧ N = [k] ∧ NC [[ltr 1], [ltr 2]] cs k) := by
 intro cs v H ht hl
 obtain ⟨ks, cv, rfl, _, _, hks, hcv⟩ := RT_mk.1 ht
 refine Zm Tryz.func65 rfl rfl <| Zc <| Za <| JLr (Zo (l := pkT 3 0 zS ks cv) rfl rfl fun b1 => JLr (Zn (l := (pkT 0 0 zS nS nS) ++ ([nS] : List Value)) Tryz.zeroValue32 rfl fun b2 => Zb <| Zc <| Za <| JLq (pp b1 0) (ZO rfl rfl) <| JLr (Ze ty3 rfl (At.bx 1 rfl) (Z3 ..) <| JLq (pp b1 1) (ZZ rfl rfl) <| JLr (Ze ty3 rfl (At.bx 1 rfl) (Yh ..) <| JLq (pp b1 2) (fa27_2 rfl rfl) ?_))))
 refine JLr (Zg Xm rfl (At.bx 1 rfl) (pkT_2 ..) <| JLq (.agg ⟨(pkT 3 0 zS nS nS) ++ ([nS] : List Value)⟩) (Pu.build (pv := [(0, iv 3), (1, iv 0), (2, .agg ⟨sC zS⟩)]) (l := (pkT 3 0 zS nS nS) ++ ([nS] : List Value)) rfl (bld32_0_1_2 _ _ _)) <| JLr (Zn (l := (pkT 0 0 zS nS nS) ++ ([nS] : List Value)) Tryz.zeroValue32 rfl fun b3 => JLr (Zd 0 (vs := (pkT 3 0 zS nS nS) ++ ([nS] : List Value)) (l := (pkT 3 0 zS nS nS) ++ ([nS] : List Value)) Ya rfl rfl rfl rfl rfl (ZN (ZI rfl rfl) (Zk rfl Zq)) (ZM (n := 37) rfl rfl) <| Zb <| Zc <| Zc <| Za <| JLq (pp b1 0) (ZO rfl rfl) <| JLr (Ze ty3 rfl (At.bx 2 rfl) (Z3 ..) <| JLq (.bool false) (show Pu _ _ _ (.bool (decide ((3 : Int) = 1))) from Pu.eql rfl rfl) <| Zb <| Zf (b := false) rfl (fun h => absurd h (by simp)) (fun _ => ?_)))))
 refine Zi <| Zc <| Zc <| Za <| JLq (pp b1 34) (Z8 rfl rfl) <| JLr (Ze YW rfl (At.bx 2 rfl) (Yb ..) ?_)
 obtain ⟨a4, cap4, hv4⟩ := hks.sl
 have hle4 := hks.le
 refine JLn (Pu.lenSl Tryz.runUnderlying24 hv4) <| JLM rfl <| Zb <| Zl <| YV 2 <| Yg <| Zc <| Za <| JLq (.bool true) (show Pu _ _ _ (.bool (decide ((0 : Int) < 1))) from Pu.lss rfl rfl) <| Zb <| Zc <| Zf (b := true) rfl (fun _ => ?_) (fun h => absurd h (by simp))
 refine Zi <| Zc <| Zl <| Zc <| Za <| JLM rfl ?_
 obtain ⟨b5, o5, cap5, row5, T5, fr5, cs5, hv5, hb5, hs5, hE5⟩ := hks.get 0 (by first | assumption | omega | decide | simp)
 refine JLq (pp b5 (o5 + 0 * 36)) (Pu.idx 0 Tryz.runUnderlying24 Zs hv5 rfl rfl (by first | assumption | omega | decide | simp)) <| JLr (Zg Zs rfl (At.im hb5) hs5 <| JLr (Zn (l := pkT 0 0 zS nS nS) Tryz.zeroValue27 rfl fun b6 => JLA rfl <| JLr (Zd 0 (vs := cs5) (l := cs5) Zs rfl rfl rfl rfl (Zv hE5) (XC hE5) (ZM (n := 36) rfl (Zv hE5)) <| Zb <| Zc <| Za <| JLm v <| JLq (pp b1 0) (ZO rfl rfl) <| JLr (Ze ty3 rfl (At.bx 3 rfl) (Z3 ..) <| JLM rfl <| Jc Tryz.call111 rfl (fun hin => int_r (r := 1) (more_ct _ _ _) (by decide)) rfl ?_))))
 rintro _ _ ⟨rfl, rfl⟩
 refine Jc Tryz.call110 rfl (fun hin => chosen1_ct _ _ (RSs.mono (Hle.hu _ _) hl)) rfl ?_
 rintro _ _ ⟨ua7, ub7, ka7, kb7, rfl, rfl, hoa7, hob7⟩
 refine JLM rfl <| JLn (Pu.extract rfl rfl) <| JLn (Pu.extract rfl rfl) <| JLa ua7 <| JLa ub7 <| Zb <| Zc <| Za <| JLq (pp b3 34) (Y2 rfl rfl) <| JLr (Ze Yy rfl (At.bx 3 rfl) (get_l (Yb ..)) <| JLm ub7 <| JL_sub (M' := [[], ka7, kb7, (BX b6 cs5 27), (BX b3 ((pkT 3 0 zS nS nS) ++ ([nS] : List Value)) 32), (BX b2 ((pkT 0 0 zS nS nS) ++ ([nS] : List Value)) 32), (BX b1 (pkT 3 0 zS ks cv) 27)]) (Sub.emp Sub.refl) <| JLr (ZA (i := 0) (n := ([ltr 1]).length) (es' := Z0 ([ltr 1])) Tryz.runUnderlying28 Tryz.runUnderlying28 (Or.inl rfl) el9 rfl rfl rfl (show Own _ _ _ (Z0 []) _ from Own.nil) (own_src (i := 2) hob7 rfl) (ZT _) (strs_len1 _) (strs_ok _) (by decide) (by simp [Z0]) fun v8 k8 ho8 => ?_))
 rw [← strs_app] at ho8
 refine JLq (pp b3 34) (Y2 rfl rfl) <| JLr (Zd 4 (vs := [v8]) (l := (pkT 3 0 zS v8 nS) ++ ([nS] : List Value)) Yy rfl rfl rfl (ZK ho8.one) rfl (Zk ho8.one Zq) (spl_l (pkT_s34 ..)) <| Zb <| ZF mixed #[0, 1, 0, 0, 12, 28, 63, 127, 255] 6 [some 54, some 55, some 56, some 57, some 58, some 59] [] [(4, fun _ _ vw qw => ∃ cs k, vw = .agg ⟨cs⟩ ∧ qw = [k] ∧ NC ([[ltr 2]]) cs k), (5, fun r _ vw qw => ∃ b k, vw = .slice (some ⟨b, 0, none⟩) 1 1 ∧ qw = [k] ∧ Own 32 37 (.slice (some ⟨b, 0, none⟩) 1 1) [(cel (r 4))] k ∧ k = (BX b (List.flatten [(cel (r 4))]) 32))] rfl (by kernel_rfl) rfl (by kernel_rfl) <| Dq (pp b3 35) (fun _ => Xd rfl rfl) <| Dl1 ty29 (At.bx 4 rfl) (get_l (Z2 ..)) <| Dl Zs (At.bx 3 rfl) (Zt (Zv hE5)) <| Dm ua7 <| Dc rfl Tryz.call65 (fun _ => rfl) (fun hin => named1_ct _ _ _ (RT.mono (Hle.hu _ _) hE5) (Yc hoa7 (by simp) (hin 1 _ rfl))) ?_)
 rintro _ _ ⟨cs11, k11, rfl, rfl, hO11⟩
 refine Dr rfl (fun _ => Zp (vs := [.agg ⟨cs11⟩]) [cs11] Tryz.runUnderlying29 el32 rfl rfl (by intro e he; simp only [List.mem_cons, List.not_mem_nil, or_false] at he; subst he; exact hO11.len) rfl (by decide) fun b k h1 h2 => ⟨[k], by rw [ZR rfl]; exact Sub.refl, b, k, rfl, rfl, h1, h2⟩) (fun _ _ ⟨b12, k12, e1, e2, ho12, hk12⟩ => ?_); subst e1 e2
 refine ZL (M' := [k12, k11, k8, ka7, kb7, (BX b6 cs5 27), (BX b3 ((pkT 3 0 zS v8 nS) ++ ([nS] : List Value)) 32), (BX b2 ((pkT 0 0 zS nS nS) ++ ([nS] : List Value)) 32), (BX b1 (pkT 3 0 zS ks cv) 27)]) rfl ?_
 show JL _ _ _ [_, _, _] _ _ _
 refine JL_sub (M' := [[], k12, k11, k8, ka7, kb7, (BX b6 cs5 27), (BX b3 ((pkT 3 0 zS v8 nS) ++ ([nS] : List Value)) 32), (BX b2 ((pkT 0 0 zS nS nS) ++ ([nS] : List Value)) 32), (BX b1 (pkT 3 0 zS ks cv) 27)]) (Sub.emp Sub.refl) ?_
 have hlens13 : ∀ e ∈ ([cs11] : List (List Value)), List.length e = 37 := by
  intro e he; simp only [List.mem_cons, List.not_mem_nil, or_false] at he
  rcases he with rfl
  ·exact hO11.len
 have hoks13 : ∀ e ∈ ([cs11] : List (List Value)), okc e := by
  intro e he; simp only [List.mem_cons, List.not_mem_nil, or_false] at he
  rcases he with rfl
  ·exact hO11.ok
 refine JLr (ZA (i := 0) (n := 1) (es' := [cs11]) Tryz.runUnderlying29 Tryz.runUnderlying29 (Or.inl rfl) el32 rfl rfl rfl Own.nil (fun F w m => Src.row (((At.k 1 rfl (by rw [hk12]; exact List.mem_cons_self))).heap m) (Zt (Zz hlens13))) rfl hlens13 hoks13 (by decide) (by simp [Z0]) fun v13 k13 ho13 => JLq (pp b3 35) (Xd rfl rfl) <| JLr (Zd 7 (vs := [v13]) (l := (pkT 3 0 zS v8 v13) ++ ([nS] : List Value)) ty29 rfl rfl rfl (ZK ho13.one) rfl (Zk ho13.one Zq) (spl_l (pkT_s35 ..)) <| Zb <| Za <| JLq (iv 1) (Pu.arith rfl rfl rfl) <| JLM rfl <| Zb <| Yg <| Zc <| Za <| JLq (.bool false) (show Pu _ _ _ (.bool (decide ((1 : Int) < 1))) from Pu.lss rfl rfl) <| Zb ?_))
 refine Zc <| Zf (b := false) rfl (fun h => absurd h (by simp)) (fun _ => Zy _ rfl <| Zc <| Zc <| Za <| JLq (pp b1 35) (Z1 rfl rfl) <| JLr (Ze YI rfl (At.bx 9 rfl) (Z2 ..) ?_))
 obtain ⟨a14, cap14, hv14⟩ := hcv.sl
 have hle14 := hcv.le
 refine JLn (Pu.lenSl Tryz.runUnderlying25 hv14) <| JLM rfl <| Zb <| Zl <| YV 1 <| Yg <| Zc <| Za <| JLq (.bool false) (show Pu _ _ _ (.bool (decide ((0 : Int) < 0))) from Pu.lss rfl rfl) <| Zb <| Zc <| Zf (b := false) rfl (fun h => absurd h (by simp)) (fun _ => Zy _ rfl ?_)
 refine Zc <| Za <| JLr (Zg Ya rfl (At.bx 7 rfl) (Zt rfl) <| JLr (Zd 8 (vs := (pkT 3 0 zS v8 v13) ++ ([nS] : List Value)) (l := (pkT 3 0 zS v8 v13) ++ ([nS] : List Value)) Ya rfl rfl rfl rfl rfl (ZN (ZI ho8.one ho13.one) (Zk rfl Zq)) (ZM (n := 37) rfl rfl) <| Zb <| Zh <| ⟨.agg ⟨(pkT 3 0 zS v8 v13) ++ ([nS] : List Value)⟩, [k8 ++ (k13 ++ k11)], Ret.one rfl (RV.cell Ya rfl (At.bx 8 rfl) (Zt rfl)), (Sub.join3 (Sub.cons 3 rfl (Sk (Sd (Sk Sub.nil))))), ?_⟩))
 exact ⟨_, _, rfl, rfl, ⟨_, _, _, _, _, _, _, _, _, _, rfl, rfl, ho8, ho13, hO11, rfl⟩⟩
end Go.Proofs.YtmophpgiaiemhaaGreat.Hs
/-! Walks, printed by a program of this session's own (gen.py). -/
namespace Go.Proofs.YtmophpgiaiemhaaGreat.Hs
open Go Go.Proofs
set_option maxRecDepth 100000
set_option linter.unusedVariables false
set_option linter.unusedSimpArgs false
attribute [local irreducible] JL J CT wlo DT
theorem nameE_ct (cs : List Value) (v : Value) (H : Heap) (ht : RT H cs eLL) (hl : rdS RS 1 H v [ltr 0]) : CT Tryz.prog 17 ⟨[.agg ⟨cs⟩, v]⟩ [] H (fun v N => ∃ cs k, v = .tuple ⟨[.agg ⟨cs⟩, iv 0]⟩ ∧ N = [k] ∧ NC [[ltr 1], [ltr 2]] cs k) := by
 refine Zm Tryz.func17 rfl rfl <| Zc <| Za <| JLr (Zo (l := cs) rfl rfl fun b1 => JLr (Zo (l := [v]) rfl (ZK hl.one) fun b2 => JLr (Zn (l := (pkT 0 0 zS nS nS) ++ ([nS] : List Value)) Tryz.zeroValue32 rfl fun b3 => JLA rfl <| Zb <| Zc <| Zc <| Za <| JLr (Zg Zs rfl (At.bx 2 rfl) (Zt (Zv ht)) <| JLr (Zp (vs := [.agg ⟨cs⟩]) [cs] Tryz.runUnderlying24 el27 rfl rfl (by intro e he; simp only [List.mem_cons, List.not_mem_nil, or_false] at he; subst he; exact (Zv ht)) rfl (by decide) fun b4 k4 ho4 hk4 => ?_)))))
 refine Jc Tryz.call61 rfl (fun hin => int_r (r := 0) (right_ct [eLL] _ _ (Own.rd1 ho4 (hin 0 _ rfl) (RT.mono (Hle.hu _ _) ht))) right_ll) rfl ?_
 rintro _ _ ⟨rfl, rfl⟩
 refine JLA rfl <| Zb <| Zc <| Za <| JLM rfl <| JLq (.bool false) (show Pu _ _ _ (.bool (!decide ((0 : Int) = 0))) from Pu.neq rfl rfl) <| Zb <| Zf (b := false) rfl (fun h => absurd h (by simp)) (fun _ => Zi <| Zc <| Zc <| Za <| JLr (Ze Yy rfl (At.bx 2 rfl) rfl ?_))
 refine Jc Tryz.call62 rfl (fun hin => Y3 (r := false) (containsS_ct _ _ _ _ (RSs.mono (Hle.hu _ _) hl)) (by decide)) rfl ?_
 rintro _ _ ⟨rfl, rfl⟩
 refine Zb <| Zf (b := false) rfl (fun h => absurd h (by simp)) (fun _ => Zi <| Zc <| Zc <| Za <| JLr (Ze Yy rfl (At.bx 2 rfl) rfl ?_))
 obtain ⟨a5, cap5, hv5⟩ := hl.sl
 have hle5 := hl.le
 refine JLn (Pu.lenSl Tryz.runUnderlying28 hv5) <| JLM rfl <| Zb <| Zl <| YV 2 <| Yg <| Zc <| Za <| JLq (.bool true) (show Pu _ _ _ (.bool (decide ((0 : Int) < 1))) from Pu.lss rfl rfl) <| Zb <| Zc <| Zf (b := true) rfl (fun _ => ?_) (fun h => absurd h (by simp))
 refine Zi <| Zc <| Zl <| Zc <| Za <| JLM rfl ?_
 obtain ⟨b6, o6, cap6, row6, T6, fr6, cs6, hv6, hb6, hs6, hE6⟩ := hl.get 0 (by first | assumption | omega | decide | simp)
 refine JLq (pp b6 (o6 + 0 * 1)) (Pu.idx 0 Tryz.runUnderlying28 ty9 hv6 rfl rfl (by first | assumption | omega | decide | simp)) <| JLr (Ze ty9 rfl (At.im hb6) (Yi ((show cs6 = [Value.string (ltr 0)] from hE6) ▸ hs6)) <| JLA rfl <| JLA rfl <| Zb <| Zc <| Za <| JLr (Ze Yy rfl (At.bx 2 rfl) rfl <| JLM rfl ?_))
 obtain ⟨a7, cap7, hv7⟩ := hl.sl
 have hle7 := hl.le
 refine JLr (Runs_slice0 Tryz.runUnderlying28 Tryz.sizeOf9 hv7 rfl fun sa8 sc8 => JLM rfl <| Jc Tryz.call62 rfl (fun hin => Y3 (r := false) (containsS_ct _ _ _ _ (RSs.mono (Hle.hu _ _) (rdS.none : Hs.rdS RS 1 H (.slice sa8 0 sc8) []))) (by decide)) rfl ?_)
 rintro _ _ ⟨rfl, rfl⟩
 refine Zb <| Zf (b := false) rfl (fun h => absurd h (by simp)) (fun _ => Zi <| Za <| JLq (iv 1) (Pu.arith rfl rfl rfl) <| JLM rfl <| Zb <| Yg <| Zc <| Za <| JLq (.bool false) (show Pu _ _ _ (.bool (decide ((1 : Int) < 1))) from Pu.lss rfl rfl) <| Zb <| Zc ?_)
 refine Zf (b := false) rfl (fun h => absurd h (by simp)) (fun _ => Zy _ rfl <| Zc <| Za <| JLr (Zg Zs rfl (At.bx 3 rfl) (Zt (Zv ht)) <| Jc Tryz.call49 rfl (fun hin => freeE_ct eLL _ _ (RT.mono (Hle.hu _ _) ht)) rfl ?_))
 rintro _ _ ⟨u9, e9, k9, rfl, rfl, ho9, he9⟩
 rw [free_ll] at ho9 he9
 replace ho9 : Own 3 1 u9 (ints ([])) k9 := ho9
 obtain rfl : e9 = 0 := he9
 refine JLM rfl <| JLn (Pu.extract rfl rfl) <| JLn (Pu.extract rfl rfl) <| JLa u9 <| JLA rfl <| Zb <| Zc <| Zc <| Za <| JLm u9 <| JLq (.func (.func 64) ⟨[]⟩ ⟨[pp b2 0]⟩) (Pu.makeFunc rfl rfl) <| Jc Tryz.call63 rfl (fun hin => Y3 (r := true) (every_ct 64 [] [pp b2 0] Tryz.call64 (fun _ => true) [] _ _ (own_ints ho9 (by simp) (hin 0 _ rfl)) (fun x hx => by cases hx)) rfl) rfl ?_
 rintro _ _ ⟨rfl, rfl⟩
 refine JLq (.bool false) (show Pu _ _ _ (.bool (!true)) from Pu.not rfl) <| Zb <| Zf (b := false) rfl (fun h => absurd h (by simp)) (fun _ => Zi <| Zc <| Za <| JLr (Zg Zs rfl (At.bx 4 rfl) (Zt (Zv ht)) <| JLr (Ze Yy rfl (At.bx 3 rfl) rfl <| Jc Tryz.call65 rfl (fun hin => named0_ct _ _ _ (RT.mono (Hle.hu _ _) ht) (RSs.mono (Hle.hu _ _) hl)) rfl ?_)))
 rintro _ _ ⟨cs10, k10, rfl, rfl, hO10⟩
 refine JLr (Zd 3 (vs := cs10) (l := cs10) Ya rfl rfl rfl rfl hO10.len hO10.ok (ZM (n := 37) rfl hO10.len) <| JLA rfl <| Zb <| Zh <| ⟨.tuple ⟨[.agg ⟨cs10⟩, iv 0]⟩, [k10], Ret.two rfl (RV.cell Ya rfl (At.bx 3 rfl) (Zt hO10.len)) (RV.tmp rfl), (Sk Sub.nil), ?_⟩)
 exact ⟨_, _, rfl, rfl, hO10⟩
theorem nu_ct (n : Int) (H : Heap) (hb : inI n) : CT Tryz.prog 42 ⟨[iv n]⟩ [] H (fun v N => ∃ cs k, v = .agg ⟨cs⟩ ∧ N = [k] ∧ OT (.mk 2 n zS [] []) cs k) := by
 refine Zm Tryz.func42 rfl rfl <| Zc <| Za <| JLr (Zn (l := pkT 0 0 zS nS nS) Tryz.zeroValue27 rfl fun b1 => Zb <| Zc <| Za <| JLM rfl <| JLq (.agg ⟨pkT 2 n zS nS nS⟩) (Pu.build (pv := [(0, iv 2), (1, iv n)]) (l := pkT 2 n zS nS nS) rfl (bld27_0_1 _ _)) <| JLr (Zd 0 (vs := pkT 2 n zS nS nS) (l := pkT 2 n zS nS nS) Zs rfl rfl rfl rfl rfl (ZI rfl rfl) (Yk ..) <| Zb <| Zh <| ⟨.agg ⟨pkT 2 n zS nS nS⟩, [[]], Ret.one rfl (RV.cell Zs rfl (At.bx 0 rfl) (Z9 ..)), (Sub.emp Sub.nil), ?_⟩))
 exact ⟨_, _, rfl, rfl, OT_leaf (by unfold inI; omega) hb⟩
theorem va_ct (n : Int) (H : Heap) (hb : inI n) : CT Tryz.prog 48 ⟨[iv n]⟩ [] H (fun v N => ∃ cs k, v = .agg ⟨cs⟩ ∧ N = [k] ∧ OT (.mk 1 n zS [] []) cs k) := by
 refine Zm Tryz.func48 rfl rfl <| Zc <| Za <| JLr (Zn (l := pkT 0 0 zS nS nS) Tryz.zeroValue27 rfl fun b1 => Zb <| Zc <| Za <| JLM rfl <| JLq (.agg ⟨pkT 1 n zS nS nS⟩) (Pu.build (pv := [(0, iv 1), (1, iv n)]) (l := pkT 1 n zS nS nS) rfl (bld27_0_1 _ _)) <| JLr (Zd 0 (vs := pkT 1 n zS nS nS) (l := pkT 1 n zS nS nS) Zs rfl rfl rfl rfl rfl (ZI rfl rfl) (Yk ..) <| Zb <| Zh <| ⟨.agg ⟨pkT 1 n zS nS nS⟩, [[]], Ret.one rfl (RV.cell Zs rfl (At.bx 0 rfl) (Z9 ..)), (Sub.emp Sub.nil), ?_⟩))
 exact ⟨_, _, rfl, rfl, OT_leaf (by unfold inI; omega) hb⟩
theorem la_ct (H : Heap) (a : List Value) (hla : a.length = 36) (hka : okc a) : CT Tryz.prog 46 ⟨[.agg ⟨a⟩]⟩ [] H (fun v N => ∃ cs k, v = .agg ⟨cs⟩ ∧ N = [k] ∧ cs.length = 36 ∧ okc cs ∧ ∀ ta h, Has k h → RT h a ta → RT h cs (.mk 3 0 zS [ta] [])) := by
 refine Zm Tryz.func46 rfl rfl <| Zc <| Za <| JLr (Zo (l := a) rfl rfl fun b1 => JLr (Zn (l := pkT 0 0 zS nS nS) Tryz.zeroValue27 rfl fun b2 => Zb <| Zc <| Za <| JLr (Zg Zs rfl (At.bx 1 rfl) (Zt hla) <| JLr (Zp (vs := [.agg ⟨a⟩]) [a] Tryz.runUnderlying24 el27 rfl rfl (by intro e he; simp only [List.mem_cons, List.not_mem_nil, or_false] at he; subst he; exact hla) rfl (by decide) fun b3 k3 ho3 hk3 => JLq (.agg ⟨pkT 3 0 zS (.slice (some ⟨b3, 0, none⟩) 1 1) nS⟩) (Pu.build (pv := [(0, iv 3), (3, .slice (some ⟨b3, 0, none⟩) 1 1)]) (l := pkT 3 0 zS (.slice (some ⟨b3, 0, none⟩) 1 1) nS) rfl (bld27_0_3 _ _ _ _)) <| JLr (Zd 1 (vs := pkT 3 0 zS (.slice (some ⟨b3, 0, none⟩) 1 1) nS) (l := pkT 3 0 zS (.slice (some ⟨b3, 0, none⟩) 1 1) nS) Zs rfl rfl rfl rfl rfl (ZI rfl rfl) (Yk ..) <| Zb ?_)))))
 refine Zh <| ⟨.agg ⟨pkT 3 0 zS (.slice (some ⟨b3, 0, none⟩) 1 1) nS⟩, [k3], Ret.one rfl (RV.cell Zs rfl (At.bx 1 rfl) (Z9 ..)), (Sk Sub.nil), ?_⟩
 exact ⟨_, _, rfl, rfl, rfl, ZI rfl rfl, fun ta h hh hta => RT_mk.2 ⟨_, _, rfl, (by unfold inI; omega), (by unfold inI; omega), Own.rd1 ho3 hh hta, Hs.rdS.nil⟩⟩
theorem ap_ct (H : Heap) (a : List Value) (hla : a.length = 36) (hka : okc a) (b : List Value) (hlb : b.length = 36) (hkb : okc b) : CT Tryz.prog 47 ⟨[.agg ⟨a⟩, .agg ⟨b⟩]⟩ [] H (fun v N => ∃ cs k, v = .agg ⟨cs⟩ ∧ N = [k] ∧ cs.length = 36 ∧ okc cs ∧ ∀ ta tb h, Has k h → RT h a ta → RT h b tb → RT h cs (.mk 4 0 zS [ta, tb] [])) := by
 refine Zm Tryz.func47 rfl rfl <| Zc <| Za <| JLr (Zo (l := a) rfl rfl fun b1 => JLr (Zo (l := b) rfl rfl fun b2 => JLr (Zn (l := pkT 0 0 zS nS nS) Tryz.zeroValue27 rfl fun b3 => Zb <| Zc <| Za <| JLr (Zg Zs rfl (At.bx 2 rfl) (Zt hla) <| JLr (Zg Zs rfl (At.bx 1 rfl) (Zt hlb) <| JLr (Zp (vs := [.agg ⟨a⟩, .agg ⟨b⟩]) [a, b] Tryz.runUnderlying24 el27 rfl rfl (by intro e he; simp only [List.mem_cons, List.not_mem_nil, or_false] at he; rcases he with rfl | rfl <;> first | exact hla | exact hlb) rfl (by decide) fun b4 k4 ho4 hk4 => JLq (.agg ⟨pkT 4 0 zS (.slice (some ⟨b4, 0, none⟩) 2 2) nS⟩) (Pu.build (pv := [(0, iv 4), (3, .slice (some ⟨b4, 0, none⟩) 2 2)]) (l := pkT 4 0 zS (.slice (some ⟨b4, 0, none⟩) 2 2) nS) rfl (bld27_0_3 _ _ _ _)) ?_))))))
 refine JLr (Zd 1 (vs := pkT 4 0 zS (.slice (some ⟨b4, 0, none⟩) 2 2) nS) (l := pkT 4 0 zS (.slice (some ⟨b4, 0, none⟩) 2 2) nS) Zs rfl rfl rfl rfl rfl (ZI rfl rfl) (Yk ..) <| Zb <| Zh <| ⟨.agg ⟨pkT 4 0 zS (.slice (some ⟨b4, 0, none⟩) 2 2) nS⟩, [k4], Ret.one rfl (RV.cell Zs rfl (At.bx 1 rfl) (Z9 ..)), (Sk Sub.nil), ?_⟩)
 exact ⟨_, _, rfl, rfl, rfl, ZI rfl rfl, fun ta tb h hh hta htb => RT_mk.2 ⟨_, _, rfl, (by unfold inI; omega), (by unfold inI; omega), Own.rd2 ho4 hh hta htb, Hs.rdS.nil⟩⟩
theorem ha_ct (r : Sm) (a : Option Addr) (n c : Nat) (H : Heap) : CT Tryz.prog 52 ⟨[.agg ⟨sC r⟩, .slice a n c]⟩ [] H (fun v N => v = .agg ⟨pkT 12 0 r (.slice a n c) nS⟩ ∧ N = []) := by
 refine Zm Tryz.func52 rfl rfl <| Zc <| Za <| JLr (Zo (l := sC r) rfl rfl fun b1 => JLr (Zn (l := pkT 0 0 zS nS nS) Tryz.zeroValue27 rfl fun b2 => Zb <| Zc <| Za <| JLr (Zg Xm rfl (At.bx 1 rfl) (Zt rfl) <| JLM rfl <| JLq (.agg ⟨pkT 12 0 r (.slice a n c) nS⟩) (Pu.build (pv := [(0, iv 12), (2, .agg ⟨sC r⟩), (3, .slice a n c)]) (l := pkT 12 0 r (.slice a n c) nS) rfl (bld27_0_2_3 _ _ _ _ _)) <| JLr (Zd 0 (vs := pkT 12 0 r (.slice a n c) nS) (l := pkT 12 0 r (.slice a n c) nS) Zs rfl rfl rfl rfl rfl (ZI rfl rfl) (Yk ..) <| Zb ?_))))
 refine Zh <| ⟨.agg ⟨pkT 12 0 r (.slice a n c) nS⟩, [], Ret.one rfl (RV.cell Zs rfl (At.bx 0 rfl) (Z9 ..)), Sub.nil, ?_⟩
 exact ⟨rfl, rfl⟩
end Go.Proofs.YtmophpgiaiemhaaGreat.Hs
/-! Walks, printed by a program of this session's own (gen.py). -/
namespace Go.Proofs.YtmophpgiaiemhaaGreat.Hs
open Go Go.Proofs
set_option maxRecDepth 100000
set_option linter.unusedVariables false
set_option linter.unusedSimpArgs false
attribute [local irreducible] JL J CT wlo DT
set_option maxHeartbeats 2000000 in
theorem wide2_ct : ∀ (c : Pt × List ByteArray × Nm) (n : Int) (a : List Value) (H : Heap) (bN bW : Nat), RNC H a c → 0 ≤ n → n ≤ 900 → c.2.1.length ≤ 2000000 → H bW = some (.cells ⟨[.func (.func 36) ⟨[]⟩ ⟨[pp bN 0, pp bW 0]⟩]⟩ 34 (0, 0)) → (∀ s a h, Hle H h → RN h a c.2.2 → 0 ≤ s → s ≤ 2000900 → CT Tryz.prog 36 ⟨[.agg ⟨a⟩, pp bN 0, pp bW 0]⟩ [(BX bN [iv s] 3)] h (fun v N => v = .bool (wdN c.2.2 s).1 ∧ N = [(BX bN [iv ((wdN c.2.2 s).2)] 3)])) → CT Tryz.prog 40 ⟨[.agg ⟨a⟩, pp bN 0, pp bW 0]⟩ [(BX bN [iv n] 3)] H (fun v N => v = .bool (wdC c n).1 ∧ N = [(BX bN [iv ((wdC c n).2)] 3)]) := by
 intro c n a H bN bW ⟨ca, va, cb, e1, ra1, ra2, ra3⟩ hn0 hn1 hcl hW hg
 subst e1
 refine Zm Tryz.func40 rfl rfl <| Zc <| Za <| JLr (Zo (l := ca ++ (([va]) ++ cb)) rfl rfl fun b1 => JLA rfl <| Zb <| Zc <| Za <| JLr (Ze ty3 rfl (At.bx 1 rfl) rfl <| JLq (pp b1 35) (fa85_1 rfl rfl) <| JLr (Ze Yy rfl (At.bx 0 rfl) (get_r (n := 35) (i := 0) (Zu ra1) rfl) ?_)))
 obtain ⟨a2, cap2, hv2⟩ := ra2.sl
 have hle2 := ra2.le
 refine JLn (Pu.lenSl Tryz.runUnderlying28 hv2) <| JLn (Pu.add64 rfl rfl (by first | omega | (constructor <;> omega))) <| JLr (Zd 1 (vs := [iv (n + (((c.2.1).length : Int)))]) (l := [iv (n + (((c.2.1).length : Int)))]) ty3 rfl rfl rfl rfl rfl (Zk rfl Zq) rfl <| Zb <| Zc ?_)
 cases h3 : (gtW c.1) with
 | true =>
  refine ZF mixed #[0, 0, 2, 1, 15, 31, 63, 127, 255, 511, 1023, 2047, 4095, 8191, 16383, 16383, 49151, 131071, 262143, 524287] 17 [some 10, some 11, some 12, some 13, some 14, some 15, some 16, some 17, some 18, some 19, some 20, some 21, some 22, some 23, some 24, some 25, some 26] [] [(0, fun _ _ vw qw => ∃ cs k, vw = .agg ⟨cs⟩ ∧ qw = [k] ∧ OT (eNu 0) cs k), (3, fun _ _ vw qw => ∃ cs k, vw = .agg ⟨cs⟩ ∧ qw = [k] ∧ OT (eNu 0) cs k), (4, fun r _ vw qw => vw = .agg ⟨ca ++ ((cel (r 3)))⟩ ∧ qw = []), (5, fun r _ vw qw => ∃ b k, vw = .slice (some ⟨b, 0, none⟩) 1 1 ∧ qw = [k] ∧ Own 80 71 (.slice (some ⟨b, 0, none⟩) 1 1) [ca ++ ((cel (r 3)))] k ∧ k = (BX b (List.flatten [ca ++ ((cel (r 3)))]) 80)), (6, fun r _ vw qw => ∃ cs k, vw = .agg ⟨cs⟩ ∧ qw = [k] ∧ cs.length = 36 ∧ okc cs ∧ ∀ t l h, Has k h → RT h ((cel (r 0))) t → Hs.rdS RC 71 h (.slice (some ⟨(sblk (r 5)), 0, none⟩) 1 1) l → RT h cs (.mk 9 0 zS [t] l)), (7, fun _ _ vw qw => vw = .bool true ∧ qw = [])] rfl (by kernel_rfl) rfl (by kernel_rfl) <| Dc rfl Tryz.call42 (fun _ => rfl) (fun hin => nu_ct _ _ (by unfold inI; omega)) ?_
  rintro _ _ ⟨cs8, k8, rfl, rfl, hO8⟩
  refine Dq (pp b1 0) (fun _ => fa85_0 rfl rfl) <| Dl Z6 (At.bx 0 rfl) (YE (Zu ra1)) <| Dc rfl Tryz.call42 (fun _ => rfl) (fun hin => nu_ct _ _ (by unfold inI; omega)) ?_
  rintro _ _ ⟨cs9, k9, rfl, rfl, hO9⟩
  refine Dc rfl Tryz.call43 (fun _ => rfl) (fun hin => caW_ct _ _ (Zu ra1) (Xj ra1) hO9.len hO9.ok _) ?_
  rintro _ _ ⟨rfl, rfl⟩
  refine Dr rfl (fun _ => Zp (vs := [.agg ⟨ca ++ cs9⟩]) [ca ++ cs9] Tryz.runUnderlying25 el80 rfl rfl (by intro e he; simp only [List.mem_cons, List.not_mem_nil, or_false] at he; subst he; exact (Zw (Zu ra1) hO9.len)) rfl (by decide) fun b k h1 h2 => ⟨[k], by rw [ZR rfl]; exact Sub.refl, b, k, rfl, rfl, h1, h2⟩) (fun _ _ ⟨b10, k10, e1, e2, ho10, hk10⟩ => ?_); subst e1 e2
  refine Dc rfl Tryz.call41 (fun _ => rfl) (fun hin => maW_ct _ hO8.len hO8.ok _ _ _ _) ?_
  rintro _ _ ⟨cs11, k11, rfl, rfl, hC11⟩
  replace hC11 : (cs11.length = 36 ∧ okc cs11 ∧ ∀ h, Has k11 h → RT h cs8 (eNu 0) → Hs.rdS RC 71 h (.slice (some ⟨b10, 0, none⟩) 1 1) [(c.1, eNu 0)] → RT h cs11 (ofP c.1)) := ⟨hC11.1, hC11.2.1, hC11.2.2 (eNu 0) [(c.1, eNu 0)]⟩
  refine Dc rfl Tryz.call5 (fun _ => rfl) (fun hin => Y3 (r := true) (great_ct _ _ _ (hC11.2.2 _ (hin 0 _ rfl) (hO8.rd (hin 3 _ rfl)) (Own.rdC1 ho10 (hin 1 _ rfl) (RP.mono (Hle.hu _ _) ra1) (hO9.rd (hin 2 _ rfl))))) h3) ?_
  rintro _ _ ⟨rfl, rfl⟩
  refine DM (fun _ => rfl) <| Yv rfl (fun _ => rfl) <| Yv rfl (fun _ => rfl) <| Yv rfl (fun _ => rfl) <| Dq (.bool true) (fun _ => Pu.pickT rfl rfl) <| DM (fun _ => rfl) <| Yv rfl (fun _ => rfl) <| Yv rfl (fun _ => rfl) <| Yv rfl (fun _ => rfl) <| ZL (M' := [k11, k10, k9, k8, (BX b1 (ca ++ (([va]) ++ cb)) 85), (BX bN [iv (n + (((c.2.1).length : Int)))] 3)]) rfl ?_
  show JL _ _ _ [_, _, _] _ _ _
  refine ZC rfl <| JLq (.bool true) (Pu.pickT rfl rfl) <| JLA rfl <| Zb <| Zh <| ⟨.bool true, [(BX bN [iv (n + (((c.2.1).length : Int)))] 3)], Ret.one rfl (RV.tmp rfl), (Sd (Sd (Sd (Sd (Sd (Sk Sub.nil)))))), ?_⟩
  exact ⟨by rw [wdC, if_pos (by simp_all)], by rw [wdC, if_pos (by simp_all)]⟩
 | false =>
  cases h12 : ((c.2.1).any Xt) with
  | true =>
   refine ZF mixed #[0, 0, 2, 1, 15, 31, 63, 127, 255, 511, 1023, 2047, 4095, 8191, 16383, 16383, 49151, 131071, 262143, 524287] 17 [some 10, some 11, some 12, some 13, some 14, some 15, some 16, some 17, some 18, some 19, some 20, some 21, some 22, some 23, some 24, some 25, some 26] [] [(0, fun _ _ vw qw => ∃ cs k, vw = .agg ⟨cs⟩ ∧ qw = [k] ∧ OT (eNu 0) cs k), (3, fun _ _ vw qw => ∃ cs k, vw = .agg ⟨cs⟩ ∧ qw = [k] ∧ OT (eNu 0) cs k), (4, fun r _ vw qw => vw = .agg ⟨ca ++ ((cel (r 3)))⟩ ∧ qw = []), (5, fun r _ vw qw => ∃ b k, vw = .slice (some ⟨b, 0, none⟩) 1 1 ∧ qw = [k] ∧ Own 80 71 (.slice (some ⟨b, 0, none⟩) 1 1) [ca ++ ((cel (r 3)))] k ∧ k = (BX b (List.flatten [ca ++ ((cel (r 3)))]) 80)), (6, fun r _ vw qw => ∃ cs k, vw = .agg ⟨cs⟩ ∧ qw = [k] ∧ cs.length = 36 ∧ okc cs ∧ ∀ t l h, Has k h → RT h ((cel (r 0))) t → Hs.rdS RC 71 h (.slice (some ⟨(sblk (r 5)), 0, none⟩) 1 1) l → RT h cs (.mk 9 0 zS [t] l)), (7, fun _ _ vw qw => vw = .bool false ∧ qw = []), (11, fun _ _ vw qw => vw = .bool true ∧ qw = [])] rfl (by kernel_rfl) rfl (by kernel_rfl) <| Dc rfl Tryz.call42 (fun _ => rfl) (fun hin => nu_ct _ _ (by unfold inI; omega)) ?_
   rintro _ _ ⟨cs17, k17, rfl, rfl, hO17⟩
   refine Dq (pp b1 0) (fun _ => fa85_0 rfl rfl) <| Dl Z6 (At.bx 0 rfl) (YE (Zu ra1)) <| Dc rfl Tryz.call42 (fun _ => rfl) (fun hin => nu_ct _ _ (by unfold inI; omega)) ?_
   rintro _ _ ⟨cs18, k18, rfl, rfl, hO18⟩
   refine Dc rfl Tryz.call43 (fun _ => rfl) (fun hin => caW_ct _ _ (Zu ra1) (Xj ra1) hO18.len hO18.ok _) ?_
   rintro _ _ ⟨rfl, rfl⟩
   refine Dr rfl (fun _ => Zp (vs := [.agg ⟨ca ++ cs18⟩]) [ca ++ cs18] Tryz.runUnderlying25 el80 rfl rfl (by intro e he; simp only [List.mem_cons, List.not_mem_nil, or_false] at he; subst he; exact (Zw (Zu ra1) hO18.len)) rfl (by decide) fun b k h1 h2 => ⟨[k], by rw [ZR rfl]; exact Sub.refl, b, k, rfl, rfl, h1, h2⟩) (fun _ _ ⟨b19, k19, e1, e2, ho19, hk19⟩ => ?_); subst e1 e2
   refine Dc rfl Tryz.call41 (fun _ => rfl) (fun hin => maW_ct _ hO17.len hO17.ok _ _ _ _) ?_
   rintro _ _ ⟨cs20, k20, rfl, rfl, hC20⟩
   replace hC20 : (cs20.length = 36 ∧ okc cs20 ∧ ∀ h, Has k20 h → RT h cs17 (eNu 0) → Hs.rdS RC 71 h (.slice (some ⟨b19, 0, none⟩) 1 1) [(c.1, eNu 0)] → RT h cs20 (ofP c.1)) := ⟨hC20.1, hC20.2.1, hC20.2.2 (eNu 0) [(c.1, eNu 0)]⟩
   refine Dc rfl Tryz.call5 (fun _ => rfl) (fun hin => Y3 (r := false) (great_ct _ _ _ (hC20.2.2 _ (hin 0 _ rfl) (hO17.rd (hin 3 _ rfl)) (Own.rdC1 ho19 (hin 1 _ rfl) (RP.mono (Hle.hu _ _) ra1) (hO18.rd (hin 2 _ rfl))))) h3) ?_
   rintro _ _ ⟨rfl, rfl⟩
   refine DM (fun _ => rfl) <| Dq (pp b1 35) (fun _ => fa85_1 rfl rfl) <| Dl1 Yy (At.bx 4 rfl) (get_r (n := 35) (i := 0) (Zu ra1) rfl) <| Dc rfl Tryz.call7 (fun _ => rfl) (fun hin => Y3 (r := true) (XL 44 [] [] Tryz.call44 Xt _ _ _ (RSs.mono (Hle.hu _ _) ra2) (fun x hx h hh => wide21_ct x h)) h12) ?_
   rintro _ _ ⟨rfl, rfl⟩
   refine Dq (.bool true) (fun _ => Pu.pickF rfl rfl) <| DM (fun _ => rfl) <| Yv rfl (fun _ => rfl) <| Yv rfl (fun _ => rfl) <| Yv rfl (fun _ => rfl) <| ZL (M' := [k20, k19, k18, k17, (BX b1 (ca ++ (([va]) ++ cb)) 85), (BX bN [iv (n + (((c.2.1).length : Int)))] 3)]) rfl ?_
   show JL _ _ _ [_, _, _] _ _ _
   refine ZC rfl <| JLq (.bool true) (Pu.pickT rfl rfl) <| JLA rfl <| Zb <| Zh <| ⟨.bool true, [(BX bN [iv (n + (((c.2.1).length : Int)))] 3)], Ret.one rfl (RV.tmp rfl), (Sd (Sd (Sd (Sd (Sd (Sk Sub.nil)))))), ?_⟩
   exact ⟨by rw [wdC, if_pos (by simp_all)], by rw [wdC, if_pos (by simp_all)]⟩
  | false =>
   refine ZF mixed #[0, 0, 2, 1, 15, 31, 63, 127, 255, 511, 1023, 2047, 4095, 8191, 16383, 16383, 49151, 131071, 262143, 524287] 17 [some 10, some 11, some 12, some 13, some 14, some 15, some 16, some 17, some 18, some 19, some 20, some 21, some 22, some 23, some 24, some 25, some 26] [] [(0, fun _ _ vw qw => ∃ cs k, vw = .agg ⟨cs⟩ ∧ qw = [k] ∧ OT (eNu 0) cs k), (3, fun _ _ vw qw => ∃ cs k, vw = .agg ⟨cs⟩ ∧ qw = [k] ∧ OT (eNu 0) cs k), (4, fun r _ vw qw => vw = .agg ⟨ca ++ ((cel (r 3)))⟩ ∧ qw = []), (5, fun r _ vw qw => ∃ b k, vw = .slice (some ⟨b, 0, none⟩) 1 1 ∧ qw = [k] ∧ Own 80 71 (.slice (some ⟨b, 0, none⟩) 1 1) [ca ++ ((cel (r 3)))] k ∧ k = (BX b (List.flatten [ca ++ ((cel (r 3)))]) 80)), (6, fun r _ vw qw => ∃ cs k, vw = .agg ⟨cs⟩ ∧ qw = [k] ∧ cs.length = 36 ∧ okc cs ∧ ∀ t l h, Has k h → RT h ((cel (r 0))) t → Hs.rdS RC 71 h (.slice (some ⟨(sblk (r 5)), 0, none⟩) 1 1) l → RT h cs (.mk 9 0 zS [t] l)), (7, fun _ _ vw qw => vw = .bool false ∧ qw = []), (11, fun _ _ vw qw => vw = .bool false ∧ qw = [])] rfl (by kernel_rfl) rfl (by kernel_rfl) <| Dc rfl Tryz.call42 (fun _ => rfl) (fun hin => nu_ct _ _ (by unfold inI; omega)) ?_
   rintro _ _ ⟨cs25, k25, rfl, rfl, hO25⟩
   refine Dq (pp b1 0) (fun _ => fa85_0 rfl rfl) <| Dl Z6 (At.bx 0 rfl) (YE (Zu ra1)) <| Dc rfl Tryz.call42 (fun _ => rfl) (fun hin => nu_ct _ _ (by unfold inI; omega)) ?_
   rintro _ _ ⟨cs26, k26, rfl, rfl, hO26⟩
   refine Dc rfl Tryz.call43 (fun _ => rfl) (fun hin => caW_ct _ _ (Zu ra1) (Xj ra1) hO26.len hO26.ok _) ?_
   rintro _ _ ⟨rfl, rfl⟩
   refine Dr rfl (fun _ => Zp (vs := [.agg ⟨ca ++ cs26⟩]) [ca ++ cs26] Tryz.runUnderlying25 el80 rfl rfl (by intro e he; simp only [List.mem_cons, List.not_mem_nil, or_false] at he; subst he; exact (Zw (Zu ra1) hO26.len)) rfl (by decide) fun b k h1 h2 => ⟨[k], by rw [ZR rfl]; exact Sub.refl, b, k, rfl, rfl, h1, h2⟩) (fun _ _ ⟨b27, k27, e1, e2, ho27, hk27⟩ => ?_); subst e1 e2
   refine Dc rfl Tryz.call41 (fun _ => rfl) (fun hin => maW_ct _ hO25.len hO25.ok _ _ _ _) ?_
   rintro _ _ ⟨cs28, k28, rfl, rfl, hC28⟩
   replace hC28 : (cs28.length = 36 ∧ okc cs28 ∧ ∀ h, Has k28 h → RT h cs25 (eNu 0) → Hs.rdS RC 71 h (.slice (some ⟨b27, 0, none⟩) 1 1) [(c.1, eNu 0)] → RT h cs28 (ofP c.1)) := ⟨hC28.1, hC28.2.1, hC28.2.2 (eNu 0) [(c.1, eNu 0)]⟩
   refine Dc rfl Tryz.call5 (fun _ => rfl) (fun hin => Y3 (r := false) (great_ct _ _ _ (hC28.2.2 _ (hin 0 _ rfl) (hO25.rd (hin 3 _ rfl)) (Own.rdC1 ho27 (hin 1 _ rfl) (RP.mono (Hle.hu _ _) ra1) (hO26.rd (hin 2 _ rfl))))) h3) ?_
   rintro _ _ ⟨rfl, rfl⟩
   refine DM (fun _ => rfl) <| Dq (pp b1 35) (fun _ => fa85_1 rfl rfl) <| Dl1 Yy (At.bx 4 rfl) (get_r (n := 35) (i := 0) (Zu ra1) rfl) <| Dc rfl Tryz.call7 (fun _ => rfl) (fun hin => Y3 (r := false) (XL 44 [] [] Tryz.call44 Xt _ _ _ (RSs.mono (Hle.hu _ _) ra2) (fun x hx h hh => wide21_ct x h)) h12) ?_
   rintro _ _ ⟨rfl, rfl⟩
   refine Dq (.bool false) (fun _ => Pu.pickF rfl rfl) <| DM (fun _ => rfl) <| Dl1 ty34 (At.im hW) rfl <| Dq (pp b1 36) (fun _ => fa85_2 rfl rfl) <| Dl Ya (At.bx 4 rfl) (Xe (n := 35) (i := 1) (Zu ra1) (Xg rfl (ZV ra3))) <| ZL (M' := [k28, k27, k26, k25, (BX b1 (ca ++ (([va]) ++ cb)) 85), (BX bN [iv (n + (((c.2.1).length : Int)))] 3)]) rfl ?_
   show JL _ _ _ [_, _, _] _ _ _
   refine ZD 5 rfl Tryz.call36 rfl rfl (fun hin => hg _ _ _ (Hle.hu _ _) (RN.mono (Hle.hu _ _) ra3) (by omega) (by omega)) rfl ?_
   rintro _ _ ⟨rfl, rfl⟩
   refine JLq (.bool ((wdN (c.2.2) (n + (((c.2.1).length : Int)))).1)) (Pu.pickF rfl rfl) <| JLA rfl <| Zb <| Zh <| ⟨.bool ((wdN (c.2.2) (n + (((c.2.1).length : Int)))).1), [(BX bN [iv ((wdN (c.2.2) (n + (((c.2.1).length : Int)))).2)] 3)], Ret.one rfl (RV.tmp rfl), (Sk Sub.nil), ?_⟩
   exact ⟨by rw [wdC, if_neg (by simp_all)], by rw [wdC, if_neg (by simp_all)]⟩
theorem wideN_ct : ∀ (t : Nm) (n : Int) (cs : List Value) (H : Heap) (bN bW : Nat), RN H cs t → 0 ≤ n → n ≤ 2000900 → wnN t ≤ 2000000 → H bW = some (.cells ⟨[.func (.func 36) ⟨[]⟩ ⟨[pp bN 0, pp bW 0]⟩]⟩ 34 (0, 0)) → CT Tryz.prog 36 ⟨[.agg ⟨cs⟩, pp bN 0, pp bW 0]⟩ [(BX bN [iv n] 3)] H (fun v N => v = .bool (wdN t n).1 ∧ N = [(BX bN [iv ((wdN t n).2)] 3)]) := by
 intro t
 induction t using Nm.ind with
 | h kind num ref ns kids cases ih ih' =>
 intro n cs H bN bW ht hn0 hn1 hz hW
 obtain ⟨nv, ks, cv, rfl, hk, hn, hns, hks, hcv⟩ := RN_mk.1 ht
 rw [wnN] at hz
 refine Zm Tryz.func36 rfl rfl <| Zc <| Za <| JLr (Zo (l := pkN kind num ref nv ks cv) rfl rfl fun b1 => JLA rfl <| Zb <| Zc <| Za <| JLr (Ze ty3 rfl (At.bx 1 rfl) rfl <| JLq (pp b1 34) (Y2 rfl rfl) <| JLr (Ze Yy rfl (At.bx 0 rfl) (Xw ..) ?_)))
 obtain ⟨a2, cap2, hv2⟩ := hns.rd.sl
 have hle2 := hns.rd.le
 refine JLn (Pu.lenSl Tryz.runUnderlying28 hv2) <| JLn (Pu.add64 rfl rfl (by first | omega | (constructor <;> omega))) <| JLn (Pu.add64 rfl rfl (by first | omega | (constructor <;> omega))) <| JLr (Zd 1 (vs := [iv (n + (1 + ((ns.length : Int))))]) (l := [iv (n + (1 + ((ns.length : Int))))]) ty3 rfl rfl rfl rfl rfl (Zk rfl Zq) rfl <| Zb <| Zc <| Za <| JLr (Ze ty3 rfl (At.bx 1 rfl) rfl <| JLn (Pu.gtr rfl rfl) <| JLM rfl ?_))
 cases h3 : (decide (900 < n + (1 + ((ns.length : Int))))) with
 | true =>
  replace h3 := dt h3
  iterate 3 refine ZC rfl ?_
  refine JLq (.bool true) (Pu.pickT rfl rfl) <| JLM rfl ?_
  iterate 4 refine ZC rfl ?_
  refine JLq (.bool true) (Pu.pickT rfl rfl) <| JLM rfl ?_
  iterate 4 refine ZC rfl ?_
  refine JLq (.bool true) (Pu.pickT rfl rfl) <| JLA rfl <| Zb <| Zh <| ⟨.bool true, [(BX bN [iv (n + (1 + ((ns.length : Int))))] 3)], Ret.one rfl (RV.tmp rfl), (Sd (Sk Sub.nil)), ?_⟩
  refine ⟨?_, ?_⟩ <;> first | rw [wdN_eq, if_pos (by omega)] | rw [wdN_eq, if_neg (by omega), if_pos (by assumption)] | rw [wdN_eq, if_neg (by omega), if_neg (by simp_all), if_pos (by assumption)]
 | false =>
  replace h3 := df h3
  refine JLq (pp b1 34) (Y2 rfl rfl) <| JLr (Ze Yy rfl (At.bx 0 rfl) (Xw ..) <| Jc Tryz.call7 rfl (fun hin => XL 37 [] [] Tryz.call37 Xt _ _ _ (RSs.mono (Hle.hu _ _) hns.rd) (fun x hx h hh => wide1_ct x h)) rfl ?_)
  rintro _ _ ⟨rfl, rfl⟩
  refine JLq (.bool (ns.any Xt)) (Pu.pickF rfl rfl) <| JLM rfl ?_
  cases h4 : (ns.any Xt) with
  | true =>
   iterate 4 refine ZC rfl ?_
   refine JLq (.bool true) (Pu.pickT rfl rfl) <| JLM rfl ?_
   iterate 4 refine ZC rfl ?_
   refine JLq (.bool true) (Pu.pickT rfl rfl) <| JLA rfl <| Zb <| Zh <| ⟨.bool true, [(BX bN [iv (n + (1 + ((ns.length : Int))))] 3)], Ret.one rfl (RV.tmp rfl), (Sd (Sk Sub.nil)), ?_⟩
   refine ⟨?_, ?_⟩ <;> first | rw [wdN_eq, if_pos (by omega)] | rw [wdN_eq, if_neg (by omega), if_pos (by assumption)] | rw [wdN_eq, if_neg (by omega), if_neg (by simp_all), if_pos (by assumption)]
  | false =>
   refine JLq (pp b1 35) (Xd rfl rfl) <| JLr (Ze ty29 rfl (At.bx 0 rfl) (Xa ..) <| JLr (Ze ty34 rfl (At.im hW) rfl <| ZD 1 rfl Tryz.call38 rfl rfl (fun hin => containsN_ct 36 [] [pp bN 0, pp bW 0] (fun _ _ => rfl) (fun n => (BX bN [iv n] 3)) (fun n => 0 ≤ n ∧ n ≤ 900) wdN _ _ _ (RNs.mono (Hle.hu _ _) hks) (n + (1 + ((ns.length : Int)))) ⟨by omega, by omega⟩ (fun x hx s hs hf => wdN_keep x s hs.1 hf) (fun x hx s hs a h hh ra => ih x hx s a h bN bW ra hs.1 (by omega) (by have := wnNs_mem kids x hx; omega) (hh _ _ (Hle.hu _ _ _ _ hW)))) rfl ?_))
   rintro _ _ ⟨rfl, rfl⟩
   refine JLq (.bool ((ZP wdN kids (n + (1 + ((ns.length : Int))))).1)) (Pu.pickF rfl rfl) <| JLM rfl ?_
   cases h6 : ((ZP wdN kids (n + (1 + ((ns.length : Int))))).1) with
   | true =>
    iterate 4 refine ZC rfl ?_
    refine JLq (.bool true) (Pu.pickT rfl rfl) <| JLA rfl <| Zb <| Zh <| ⟨.bool true, [(BX bN [iv ((ZP wdN kids (n + (1 + ((ns.length : Int))))).2)] 3)], Ret.one rfl (RV.tmp rfl), (Sk Sub.nil), ?_⟩
    refine ⟨?_, ?_⟩ <;> first | rw [wdN_eq, if_pos (by omega)] | rw [wdN_eq, if_neg (by omega), if_pos (by assumption)] | rw [wdN_eq, if_neg (by omega), if_neg (by simp_all), if_pos (by assumption)]
   | false =>
    refine JLq (pp b1 36) (fa32_5 rfl rfl) <| JLr (Ze ty30 rfl (At.bx 1 rfl) (YP ..) <| JLq (.func (.func 40) ⟨[]⟩ ⟨[pp bN 0, pp bW 0]⟩) (Pu.makeFunc rfl rfl) <| ZD 0 rfl Tryz.call39 rfl rfl (fun hin => containsNC_ct 40 [] [pp bN 0, pp bW 0] (fun _ _ => rfl) (fun n => (BX bN [iv n] 3)) (fun n => 0 ≤ n ∧ n ≤ 900) wdC _ _ _ (RNCs.mono (Hle.hu _ _) hcv) ((ZP wdN kids (n + (1 + ((ns.length : Int))))).2) (anyW_keep _ _ (by omega) (by omega) h6) (fun x hx s hs hf => wdC_keep x s hs.1 hf) (fun x hx s hs a h hh ra => wide2_ct x s a h bN bW ra hs.1 hs.2 (by have := wnNCs_mem cases x hx; omega) (hh _ _ (Hle.hu _ _ _ _ hW)) (fun s' a' h' hh' ra' k1 k2 => ih' x hx s' a' h' bN bW ra' k1 k2 (by have := wnNCs_mem cases x hx; omega) (hh' _ _ (hh _ _ (Hle.hu _ _ _ _ hW)))))) rfl ?_)
    rintro _ _ ⟨rfl, rfl⟩
    refine JLq (.bool ((ZP wdC cases ((ZP wdN kids (n + (1 + ((ns.length : Int))))).2)).1)) (Pu.pickF rfl rfl) <| JLA rfl <| Zb <| Zh <| ⟨.bool ((ZP wdC cases ((ZP wdN kids (n + (1 + ((ns.length : Int))))).2)).1), [(BX bN [iv ((ZP wdC cases ((ZP wdN kids (n + (1 + ((ns.length : Int))))).2)).2)] 3)], Ret.one rfl (RV.tmp rfl), (Sk Sub.nil), ?_⟩
    refine ⟨?_, ?_⟩ <;> first | rw [wdN_eq, if_neg (by omega), if_neg (by simp_all), if_neg (by simp_all)]
theorem wide_ct (n : Nm) (cs : List Value) (H : Heap) (hn_ : RN H cs n) (hz : wnN n ≤ 2000000) : CT Tryz.prog 6 ⟨[.agg ⟨cs⟩]⟩ [] H (fun v N => v = .bool (wdN n 0).1 ∧ N = []) := by
 refine Zm Tryz.func6 rfl rfl <| Zc <| Za <| JLr (Zo (l := cs) rfl rfl fun b1 => JLA rfl <| Zb <| Zc <| Za <| JLr (Zn (l := [iv 0]) Tryz.zeroValue3 rfl fun b2 => JLr (Zd 0 (vs := [iv 0]) (l := [iv 0]) ty3 rfl rfl rfl rfl rfl (Zk rfl Zq) rfl <| Zb <| Zc <| Za ?_)))
 refine JLr (Zn (l := [.nilFunc]) Tryz.zeroValue34 rfl fun b3 => Zb <| Zc <| Za <| JLq (.func (.func 36) ⟨[]⟩ ⟨[pp b2 0, pp b3 0]⟩) (Pu.makeFunc rfl rfl) <| JLr (Zd 0 (vs := [.func (.func 36) ⟨[]⟩ ⟨[pp b2 0, pp b3 0]⟩]) (l := [.func (.func 36) ⟨[]⟩ ⟨[pp b2 0, pp b3 0]⟩]) ty34 rfl rfl rfl rfl rfl (Zk rfl Zq) rfl <| Zb <| Zc <| Za <| JLr (Ze ty34 rfl (At.bx 0 rfl) rfl <| JLr (Zg Ya rfl (At.bx 2 rfl) (Zt (ZV hn_)) <| ZD 1 rfl Tryz.call36 rfl rfl (fun hin => wideN_ct _ _ _ _ _ _ (RN.mono (Hle.hu _ _) hn_) (by decide) (by decide) (by omega) (hin 0 _ rfl _ _ List.mem_cons_self)) rfl ?_))))
 rintro _ _ ⟨rfl, rfl⟩
 refine JLA rfl <| Zb <| Zh <| ⟨.bool ((wdN n 0).1), [], Ret.one rfl (RV.tmp rfl), Sub.nil, ?_⟩
 exact ⟨rfl, rfl⟩
end Go.Proofs.YtmophpgiaiemhaaGreat.Hs
/-! Walks, printed by a program of this session's own (gen.py). -/
namespace Go.Proofs.YtmophpgiaiemhaaGreat.Hs
open Go Go.Proofs
set_option maxRecDepth 100000
set_option linter.unusedVariables false
set_option linter.unusedSimpArgs false
attribute [local irreducible] JL J CT wlo DT
set_option maxHeartbeats 2000000 in
theorem ours_ct : ∀ (n : Nm) (cs : List Value) (H : Heap), RN H cs n → wnN n ≤ 1000000 → CT Tryz.prog 11 ⟨[.agg ⟨cs⟩]⟩ [] H (fun r N => ∃ cs k, r = .agg ⟨cs⟩ ∧ N = [k] ∧ ON n cs k) := by
 intro n
 induction n using Nm.ind with
 | h kind num ref ns kids cases ih ih' =>
 intro cs H ht hz
 obtain ⟨nv, ks, cv, rfl, hk, hn, hns, hks, hcv⟩ := RN_mk.1 ht
 rw [wnN] at hz
 have hkl := wnNs_len kids
 have hcl := wnNCs_len cases
 refine Zm Tryz.func11 rfl rfl <| Zc <| Za <| JLr (Zo (l := pkN kind num ref nv ks cv) rfl rfl fun b1 => JLr (Zn (l := pkN 0 0 zS nS nS nS) Tryz.zeroValue32 rfl fun b2 => Zb <| Zc <| ZF mixed #[0, 1, 0, 4, 0, 16, 0, 64, 192, 511, 0, 2047] 11 [some 8, some 9, some 10, some 11, some 12, some 13, some 14, some 15, some 16, some 17, some 3] [] [(8, fun _ _ vw qw => ∃ k, qw = [k] ∧ Own 9 1 vw (Z0 ns) k), (10, newP 32 (pkN 0 0 zS nS nS nS))] rfl (by kernel_rfl) rfl (by kernel_rfl) <| Dq (pp b1 0) (fun _ => fa43_0 rfl rfl) <| Dl1 ty3 (At.bx 1 rfl) (pkN_0 ..) <| Dq (pp b1 1) (fun _ => fa43_1 rfl rfl) <| Dl1 ty3 (At.bx 1 rfl) (pkN_1 ..) <| Dq (pp b1 2) (fun _ => fa43_2 rfl rfl) ?_))
 refine Dl Xm (At.bx 1 rfl) (pkN_2 ..) <| Dq (pp b1 34) (fun _ => fa43_3 rfl rfl) <| Dl1 Yy (At.bx 1 rfl) (Xw ..) <| Dc rfl Tryz.call13 (fun _ => rfl) (fun hin => cloneS_ct _ _ _ (RSs.mono (Hle.hu _ _) hns.rd) (by omega)) ?_
 rintro u5 _ ⟨k5, rfl, ho5⟩
 refine Dq (.agg ⟨pkN kind num ref u5 nS nS⟩) (fun _ => Pu.build (pv := [(0, iv kind), (1, iv num), (2, .agg ⟨sC ref⟩), (3, u5)]) (l := pkN kind num ref u5 nS nS) rfl (bldN4 ho5.one _ _ _)) <| Da Tryz.zeroValue32 rfl fun b6 => ZL (M' := [(BX b6 (pkN 0 0 zS nS nS nS) 32), k5, (BX b2 (pkN 0 0 zS nS nS nS) 32), (BX b1 (pkN kind num ref nv ks cv) 43)]) rfl ?_
 show JL _ _ _ [_] _ _ _
 refine JLr (Zd 0 (vs := pkN kind num ref u5 nS nS) (l := pkN kind num ref u5 nS nS) Ya rfl rfl rfl rfl rfl (YZ ho5.one rfl rfl) (pkN_s ..) <| Zb <| Zc <| Zc <| Za <| JLq (pp b1 35) (fa43_4 rfl rfl) <| JLr (Ze ty40 rfl (At.bx 3 rfl) (Xa ..) ?_))
 obtain ⟨a7, cap7, hv7⟩ := hks.sl
 have hle7 := hks.le
 refine JLn (Pu.lenSl Tryz.runUnderlying40 hv7) <| JLM rfl <| Zb <| Zl ?_
 have hoN := ho5
 refine ZE (fun k ρ M => ∃ (j : Nat) (w : Value) (es : List (List Value)) (q2 q3 : Zj), ρ 1 = pp b1 0 ∧ ρ 2 = pp b2 0 ∧ ρ 3 = pp b6 0 ∧ ρ 19 = ks ∧ ρ 20 = iv ((kids.length : Int)) ∧ ρ 21 = iv ((j : Int)) ∧ Sub [(BX b6 (pkN kind num ref u5 w nS) 32), q2, q3, k5, (BX b2 (pkN 0 0 zS nS nS nS) 32), (BX b1 (pkN kind num ref nv ks cv) 43)] M ∧ j ≤ kids.length ∧ Own 32 37 w es q2 ∧ ONs (kids.take j) es q3 ∧ k = kids.length - j) _ ⟨0, nS, [], [], [], rfl, rfl, rfl, rfl, rfl, rfl, (Sk (Sub.emp (Sub.emp (Sk (Sk (Sk Sub.nil)))))), Nat.zero_le _, Own.nil, ONs.nil, rfl⟩ ?_
 rintro _ ρ8 _ ⟨j, w, es, q2, q3, e9, e10, e11, e12, e13, e14, hm15, hj, ho2, hop, rfl⟩
 obtain ⟨ρ16, rfl⟩ := Zr (uc e9 (uc e10 (uc e11 (uc e12 (uc e13 (uc e14 un))))))
 clear e9 e10 e11 e12 e13 e14
 refine ZJ hm15 <| Zc <| Za <| JLn (Pu.lss rfl rfl) <| Zb <| Zc <| Zf rfl (fun h17 => ?_) (fun h17 => ?_)
 ·replace h17 := dt h17
  have h17n : j < kids.length := by omega
  have hz1 := wnNs_mem _ _ (List.getElem_mem h17n)
  have hel := ONs_len hop
  rw [List.length_take] at hel
  refine Zi <| Zc <| Zl <| Zc <| Za ?_
  obtain ⟨b18, o18, cap18, row18, T18, fr18, cs18, hv18, hb18, hs18, hE18⟩ := hks.get j (by first | assumption | omega | decide | simp)
  refine JLq (pp b18 (o18 + j * 37)) (Pu.idx j Tryz.runUnderlying40 Y8 hv18 rfl rfl (by first | assumption | omega | decide | simp)) <| JLr (Zg Y8 rfl (At.im hb18) hs18 <| JLr (Zn (l := pkN 0 0 zS nS nS nS) Tryz.zeroValue43 rfl fun b19 => JLr (Zd 0 (vs := cs18) (l := cs18) Y8 rfl rfl rfl rfl (ZV hE18) (RN_ok hE18) (ZM (n := 37) rfl (ZV hE18)) <| Zb <| ZF mixed #[0, 1, 0, 4, 12, 31, 63, 127] 5 [some 25, some 26, some 27, some 28, some 29] [] [(3, fun _ _ vw qw => ∃ cs k, vw = .agg ⟨cs⟩ ∧ qw = [k] ∧ ON (kids[j]) cs k), (4, fun r _ vw qw => ∃ b k, vw = .slice (some ⟨b, 0, none⟩) 1 1 ∧ qw = [k] ∧ Own 32 37 (.slice (some ⟨b, 0, none⟩) 1 1) [(cel (r 3))] k ∧ k = (BX b (List.flatten [(cel (r 3))]) 32))] rfl (by kernel_rfl) rfl (by kernel_rfl) <| Dq (pp b6 35) (fun _ => Xd rfl rfl) <| Dl1 ty29 (At.bx 1 rfl) (Xa ..) <| Dl Y8 (At.bx 0 rfl) (Zt (ZV hE18)) <| Dc rfl Tryz.call11 (fun _ => rfl) (fun hin => ih _ (List.getElem_mem h17n) _ _ (RN.mono (Hle.hu _ _) hE18) (by omega)) ?_)))
  rintro _ _ ⟨cs22, k22, rfl, rfl, hO22⟩
  refine Dr rfl (fun _ => Zp (vs := [.agg ⟨cs22⟩]) [cs22] Tryz.runUnderlying29 el32 rfl rfl (by intro e he; simp only [List.mem_cons, List.not_mem_nil, or_false] at he; subst he; exact hO22.len) rfl (by decide) fun b k h1 h2 => ⟨[k], by rw [ZR rfl]; exact Sub.refl, b, k, rfl, rfl, h1, h2⟩) (fun _ _ ⟨b23, k23, e1, e2, ho23, hk23⟩ => ?_); subst e1 e2
  refine ZL (M' := [k23, k22, (BX b19 cs18 43), (BX b6 (pkN kind num ref u5 w nS) 32), q2, q3, k5, (BX b2 (pkN 0 0 zS nS nS nS) 32), (BX b1 (pkN kind num ref nv ks cv) 43)]) rfl ?_
  show JL _ _ _ [_, _, _] _ _ _
  have hlens24 : ∀ e ∈ ([cs22] : List (List Value)), List.length e = 37 := by
   intro e he; simp only [List.mem_cons, List.not_mem_nil, or_false] at he
   rcases he with rfl
   ·exact hO22.len
  have hoks24 : ∀ e ∈ ([cs22] : List (List Value)), okc e := by
   intro e he; simp only [List.mem_cons, List.not_mem_nil, or_false] at he
   rcases he with rfl
   ·exact hO22.ok
  refine JLr (ZA (i := 4) (n := 1) (es' := [cs22]) Tryz.runUnderlying29 Tryz.runUnderlying29 (Or.inl rfl) el32 rfl rfl rfl ho2 (fun F w m => Src.row (((At.k 0 rfl (by rw [hk23]; exact List.mem_cons_self))).heap m) (Zt (Zz hlens24))) rfl hlens24 hoks24 (by decide) (by first | omega | (simp only [ZT, List.length_append]; omega)) fun v24 k24 ho24 => JLq (pp b6 35) (Xd rfl rfl) <| JLr (Zd 3 (vs := [v24]) (l := pkN kind num ref u5 v24 nS) ty29 rfl rfl rfl (ZK ho24.one) rfl (Zk ho24.one Zq) (pkN_s35 ..) <| Zb <| Za <| JLn (Pu.inc rfl rfl (by omega)) <| JLM rfl <| Zb <| ⟨_, ?_, (j + 1), v24, (es ++ [cs22]), k24, (q3 ++ k22), rfl, rfl, rfl, rfl, rfl, rfl, (Sd (Sub.cons 2 rfl (Sub.cons 2 rfl (Sub.join (Sub.cons 2 rfl (Sk (Sd (Sk (Sk (Sk Sub.nil)))))))))), ?_, ?_, ?_, rfl⟩))
  ·omega
  ·omega
  ·exact ho24
  rw [List.take_succ_eq_append_getElem h17n]; exact ONs.snoc hO22 hop
 replace h17 := df h17
 have h17n : kids.length ≤ j := by omega
 refine Zy _ rfl <| Zc <| Zc <| Za <| JLq (pp b1 36) (fa43_5 rfl rfl) <| JLr (Ze ty41 rfl (At.bx 5 rfl) (YP ..) ?_)
 obtain ⟨a25, cap25, hv25⟩ := hcv.sl
 have hle25 := hcv.le
 refine JLn (Pu.lenSl Tryz.runUnderlying41 hv25) <| JLM rfl <| Zb <| Zl ?_
 have hjk := h17n
 rw [List.take_of_length_le hjk] at hop
 refine ZE (fun k ρ M => ∃ (j : Nat) (y : Value) (es2 : List (List Value)) (q4 q5 : Zj), ρ 2 = pp b2 0 ∧ ρ 3 = pp b6 0 ∧ ρ 34 = cv ∧ ρ 35 = iv ((cases.length : Int)) ∧ ρ 36 = iv ((j : Int)) ∧ Sub [(BX b6 (pkN kind num ref u5 w y) 32), q4, q5, k5, q2, q3, (BX b2 (pkN 0 0 zS nS nS nS) 32), (BX b1 (pkN kind num ref nv ks cv) 43)] M ∧ j ≤ cases.length ∧ Own 85 73 y es2 q4 ∧ ONCs (cases.take j) es2 q5 ∧ k = cases.length - j) _ ⟨0, nS, [], [], [], rfl, rfl, rfl, rfl, rfl, (Sk (Sub.emp (Sub.emp (Sub.cons 2 rfl (Sk (Sk (Sk (Sk Sub.nil)))))))), Nat.zero_le _, Own.nil, ONCs.nil, rfl⟩ ?_
 rintro _ ρ26 _ ⟨j, y, es2, q4, q5, e27, e28, e29, e30, e31, hm32, hj, ho3, hopw, rfl⟩
 obtain ⟨ρ33, rfl⟩ := Zr (uc e27 (uc e28 (uc e29 (uc e30 (uc e31 un)))))
 clear e27 e28 e29 e30 e31
 refine ZJ hm32 <| Zc <| Za <| JLn (Pu.lss rfl rfl) <| Zb <| Zc <| Zf rfl (fun h34 => ?_) (fun h34 => ?_)
 ·replace h34 := dt h34
  have h34n : j < cases.length := by omega
  have hz1 := wnNCs_mem _ _ (List.getElem_mem h34n)
  have hel := ONCs_len hopw
  rw [List.length_take] at hel
  refine Zi <| Zc <| Zl <| Zc <| Za ?_
  obtain ⟨b35, o35, cap35, row35, T35, fr35, cs35, hv35, hb35, hs35, hE35⟩ := hcv.get j (by first | assumption | omega | decide | simp)
  obtain ⟨ca35, va35, cb35, rfl, hA35, hV35, hB35⟩ := hE35
  refine JLq (pp b35 (o35 + j * 73)) (Pu.idx j Tryz.runUnderlying41 ty100 hv35 rfl rfl (by first | assumption | omega | decide | simp)) <| JLr (Zg ty100 rfl (At.im hb35) hs35 <| JLr (Zn (l := (pkP 0 0 zS nS) ++ (([nS]) ++ (pkN 0 0 zS nS nS nS))) Tryz.zeroValue100 rfl fun b36 => JLr (Zd 0 (vs := ca35 ++ (([va35]) ++ cb35)) (l := ca35 ++ (([va35]) ++ cb35)) ty100 rfl rfl rfl rfl (Zw (Zu hA35) (Zw rfl (ZV hB35))) (ZN (Xj hA35) (ZN (Zk hV35.one Zq) (RN_ok hB35))) (ZM (n := 73) rfl (Zw (Zu hA35) (Zw rfl (ZV hB35)))) <| Zb <| ZF mixed #[0, 1, 0, 4, 12, 0, 32, 124, 0, 256, 1020, 2044, 4092, 8191, 16383, 32767] 13 [some 40, some 41, some 42, some 43, some 44, some 45, some 46, some 47, some 48, some 49, some 50, some 51, some 52] [] [(4, fun _ _ vw qw => ∃ cs k, vw = .agg ⟨cs⟩ ∧ qw = [k] ∧ OP (cases[j].1) cs k), (7, fun _ _ vw qw => ∃ k, qw = [k] ∧ Own 9 1 vw (Z0 (cases[j].2.1)) k), (10, fun _ _ vw qw => ∃ cs k, vw = .agg ⟨cs⟩ ∧ qw = [k] ∧ ON (cases[j].2.2) cs k), (12, fun r _ vw qw => ∃ b k, vw = .slice (some ⟨b, 0, none⟩) 1 1 ∧ qw = [k] ∧ Own 85 73 (.slice (some ⟨b, 0, none⟩) 1 1) [((cel (r 4))) ++ (([(r 7)]) ++ ((cel (r 10))))] k ∧ k = (BX b (List.flatten [((cel (r 4))) ++ (([(r 7)]) ++ ((cel (r 10))))]) 85))] rfl (by kernel_rfl) rfl (by kernel_rfl) <| Dq (pp b6 36) (fun _ => fa32_5 rfl rfl) <| Dl1 ty30 (At.bx 1 rfl) (YP ..) <| Dq (pp b36 0) (fun _ => fa100_0 rfl rfl) <| Dl Z6 (At.bx 0 rfl) (YE (Zu hA35)) <| Dc rfl Tryz.call53 (fun _ => rfl) (fun hin => ownPattern_ct _ _ _ (RP.mono (Hle.hu _ _) hA35) (by omega)) ?_)))
  rintro _ _ ⟨cs41, k41, rfl, rfl, hO41⟩
  refine Dq (pp b36 35) (fun _ => fa100_1 rfl rfl) <| Dl1 Yy (At.bx 0 rfl) (get_r (n := 35) (i := 0) (Zu hA35) rfl) <| Dc rfl Tryz.call13 (fun _ => rfl) (fun hin => cloneS_ct _ _ _ (RSs.mono (Hle.hu _ _) hV35) (by omega)) ?_
  rintro u42 _ ⟨k42, rfl, ho42⟩
  refine Dq (pp b36 36) (fun _ => fa100_2 rfl rfl) <| Dl Y8 (At.bx 0 rfl) (Xe (n := 35) (i := 1) (Zu hA35) (Xg rfl (ZV hB35))) <| Dc rfl Tryz.call11 (fun _ => rfl) (fun hin => ih' _ (List.getElem_mem h34n) _ _ (RN.mono (Hle.hu _ _) hB35) (by omega)) ?_
  rintro _ _ ⟨cs43, k43, rfl, rfl, hO43⟩
  refine Dq (.agg ⟨cs41 ++ (([u42]) ++ cs43)⟩) (fun _ => Pu.build (pv := [(0, .agg ⟨cs41⟩), (1, u42), (2, .agg ⟨cs43⟩)]) (l := cs41 ++ (([u42]) ++ cs43)) rfl (bldNC hO41.len ho42.one hO43.len)) <| Dr rfl (fun _ => Zp (vs := [.agg ⟨cs41 ++ (([u42]) ++ cs43)⟩]) [cs41 ++ (([u42]) ++ cs43)] Tryz.runUnderlying30 el85 rfl rfl (by intro e he; simp only [List.mem_cons, List.not_mem_nil, or_false] at he; subst he; exact (Zw hO41.len (Zw rfl hO43.len))) rfl (by decide) fun b k h1 h2 => ⟨[k], by rw [ZR rfl]; exact Sub.refl, b, k, rfl, rfl, h1, h2⟩) (fun _ _ ⟨b44, k44, e1, e2, ho44, hk44⟩ => ?_); subst e1 e2
  refine ZL (M' := [k44, k43, k42, k41, (BX b36 (ca35 ++ (([va35]) ++ cb35)) 100), (BX b6 (pkN kind num ref u5 w y) 32), q4, q5, k5, q2, q3, (BX b2 (pkN 0 0 zS nS nS nS) 32), (BX b1 (pkN kind num ref nv ks cv) 43)]) rfl ?_
  show JL _ _ _ [_, _, _] _ _ _
  have hlens45 : ∀ e ∈ ([cs41 ++ (([u42]) ++ cs43)] : List (List Value)), List.length e = 73 := by
   intro e he; simp only [List.mem_cons, List.not_mem_nil, or_false] at he
   rcases he with rfl
   ·exact (Zw hO41.len (Zw rfl hO43.len))
  have hoks45 : ∀ e ∈ ([cs41 ++ (([u42]) ++ cs43)] : List (List Value)), okc e := by
   intro e he; simp only [List.mem_cons, List.not_mem_nil, or_false] at he
   rcases he with rfl
   ·exact (ZN hO41.ok (ZN (Zk ho42.one Zq) hO43.ok))
  refine JLr (ZA (i := 6) (n := 1) (es' := [cs41 ++ (([u42]) ++ cs43)]) Tryz.runUnderlying30 Tryz.runUnderlying30 (Or.inl rfl) el85 rfl rfl rfl ho3 (fun F w m => Src.row (((At.k 0 rfl (by rw [hk44]; exact List.mem_cons_self))).heap m) (Zt (Zz hlens45))) rfl hlens45 hoks45 (by decide) (by first | omega | (simp only [ZT, List.length_append]; omega)) fun v45 k45 ho45 => JLq (pp b6 36) (fa32_5 rfl rfl) <| JLr (Zd 5 (vs := [v45]) (l := pkN kind num ref u5 w v45) ty30 rfl rfl rfl (ZK ho45.one) rfl (Zk ho45.one Zq) (pkN_s36 ..) <| Zb <| Za <| JLn (Pu.inc rfl rfl (by omega)) <| JLM rfl <| Zb <| ⟨_, ?_, (j + 1), v45, (es2 ++ [cs41 ++ (([u42]) ++ cs43)]), k45, (q5 ++ (k41 ++ (k42 ++ k43))), rfl, rfl, rfl, rfl, rfl, (Sd (Sub.cons 4 rfl (Sub.cons 4 rfl (Sub.join4 (Sub.cons 4 rfl (Sub.cons 2 rfl (Sub.cons 1 rfl (Sk (Sd (Sk (Sk (Sk (Sk (Sk Sub.nil)))))))))))))), ?_, ?_, ?_, rfl⟩))
  ·omega
  ·omega
  ·exact ho45
  rw [List.take_succ_eq_append_getElem h34n]; exact ONCs.snoc hO41 ho42 (by omega) hO43 hopw
 replace h34 := df h34
 have h34n : cases.length ≤ j := by omega
 refine Zy _ rfl <| Zc <| Za <| JLr (Zg Ya rfl (At.bx 0 rfl) (XA ..) <| JLr (Zd 6 (vs := pkN kind num ref u5 w y) (l := pkN kind num ref u5 w y) Ya rfl rfl rfl rfl rfl (YZ ho5.one ho2.one ho3.one) (pkN_s ..) <| Zb <| Zh <| ⟨.agg ⟨pkN kind num ref u5 w y⟩, [k5 ++ (q2 ++ (q3 ++ (q4 ++ q5)))], Ret.one rfl (RV.cell Ya rfl (At.bx 6 rfl) (XA ..)), (Sub.join5 (Sd (Sub.cons 2 rfl (Sub.cons 2 rfl (Sub.cons 2 rfl (Sk (Sk Sub.nil))))))), ?_⟩))
 rw [List.take_of_length_le h34n] at hopw
 exact ⟨_, _, rfl, rfl, ON_mk.2 ⟨_, _, _, _, _, _, _, _, _, _, rfl, hk, hn, ho5, ho2, hop, ho3, hopw, rfl, by omega, by omega, by omega⟩⟩
set_option maxHeartbeats 2000000 in
theorem theirs_ct : ∀ (n : Nm) (cs : List Value) (H : Heap), RN H cs n → wnN n ≤ 1000000 → CT Tryz.prog 12 ⟨[.agg ⟨cs⟩]⟩ [] H (fun r N => ∃ cs k, r = .agg ⟨cs⟩ ∧ N = [k] ∧ OM n cs k) := by
 intro n
 induction n using Nm.ind with
 | h kind num ref ns kids cases ih ih' =>
 intro cs H ht hz
 obtain ⟨nv, ks, cv, rfl, hk, hn, hns, hks, hcv⟩ := RN_mk.1 ht
 rw [wnN] at hz
 have hkl := wnNs_len kids
 have hcl := wnNCs_len cases
 refine Zm Tryz.func12 rfl rfl <| Zc <| Za <| JLr (Zo (l := pkN kind num ref nv ks cv) rfl rfl fun b1 => JLr (Zn (l := pkN 0 0 zS nS nS nS) Tryz.zeroValue43 rfl fun b2 => Zb <| Zc <| ZF mixed #[0, 1, 0, 4, 0, 16, 0, 64, 192, 511, 0, 2047] 11 [some 8, some 9, some 10, some 11, some 12, some 13, some 14, some 15, some 16, some 17, some 3] [] [(8, fun _ _ vw qw => ∃ k, qw = [k] ∧ Own 9 1 vw (Z0 ns) k), (10, newP 43 (pkN 0 0 zS nS nS nS))] rfl (by kernel_rfl) rfl (by kernel_rfl) <| Dq (pp b1 0) (fun _ => fa32_0 rfl rfl) <| Dl1 ty3 (At.bx 1 rfl) (pkN_0 ..) <| Dq (pp b1 1) (fun _ => fa32_1 rfl rfl) <| Dl1 ty3 (At.bx 1 rfl) (pkN_1 ..) <| Dq (pp b1 2) (fun _ => fa32_2 rfl rfl) ?_))
 refine Dl Xm (At.bx 1 rfl) (pkN_2 ..) <| Dq (pp b1 34) (fun _ => Y2 rfl rfl) <| Dl1 Yy (At.bx 1 rfl) (Xw ..) <| Dc rfl Tryz.call13 (fun _ => rfl) (fun hin => cloneS_ct _ _ _ (RSs.mono (Hle.hu _ _) hns.rd) (by omega)) ?_
 rintro u5 _ ⟨k5, rfl, ho5⟩
 refine Dq (.agg ⟨pkN kind num ref u5 nS nS⟩) (fun _ => Pu.build (pv := [(0, iv kind), (1, iv num), (2, .agg ⟨sC ref⟩), (3, u5)]) (l := pkN kind num ref u5 nS nS) rfl (bldN4r ho5.one _ _ _)) <| Da Tryz.zeroValue43 rfl fun b6 => ZL (M' := [(BX b6 (pkN 0 0 zS nS nS nS) 43), k5, (BX b2 (pkN 0 0 zS nS nS nS) 43), (BX b1 (pkN kind num ref nv ks cv) 32)]) rfl ?_
 show JL _ _ _ [_] _ _ _
 refine JLr (Zd 0 (vs := pkN kind num ref u5 nS nS) (l := pkN kind num ref u5 nS nS) Y8 rfl rfl rfl rfl rfl (YZ ho5.one rfl rfl) (pkN_s ..) <| Zb <| Zc <| Zc <| Za <| JLq (pp b1 35) (Xd rfl rfl) <| JLr (Ze ty29 rfl (At.bx 3 rfl) (Xa ..) ?_))
 obtain ⟨a7, cap7, hv7⟩ := hks.sl
 have hle7 := hks.le
 refine JLn (Pu.lenSl Tryz.runUnderlying29 hv7) <| JLM rfl <| Zb <| Zl ?_
 have hoN := ho5
 refine ZE (fun k ρ M => ∃ (j : Nat) (w : Value) (es : List (List Value)) (q2 q3 : Zj), ρ 1 = pp b1 0 ∧ ρ 2 = pp b2 0 ∧ ρ 3 = pp b6 0 ∧ ρ 19 = ks ∧ ρ 20 = iv ((kids.length : Int)) ∧ ρ 21 = iv ((j : Int)) ∧ Sub [(BX b6 (pkN kind num ref u5 w nS) 43), q2, q3, k5, (BX b2 (pkN 0 0 zS nS nS nS) 43), (BX b1 (pkN kind num ref nv ks cv) 32)] M ∧ j ≤ kids.length ∧ Own 43 37 w es q2 ∧ OMs (kids.take j) es q3 ∧ k = kids.length - j) _ ⟨0, nS, [], [], [], rfl, rfl, rfl, rfl, rfl, rfl, (Sk (Sub.emp (Sub.emp (Sk (Sk (Sk Sub.nil)))))), Nat.zero_le _, Own.nil, OMs.nil, rfl⟩ ?_
 rintro _ ρ8 _ ⟨j, w, es, q2, q3, e9, e10, e11, e12, e13, e14, hm15, hj, ho2, hop, rfl⟩
 obtain ⟨ρ16, rfl⟩ := Zr (uc e9 (uc e10 (uc e11 (uc e12 (uc e13 (uc e14 un))))))
 clear e9 e10 e11 e12 e13 e14
 refine ZJ hm15 <| Zc <| Za <| JLn (Pu.lss rfl rfl) <| Zb <| Zc <| Zf rfl (fun h17 => ?_) (fun h17 => ?_)
 ·replace h17 := dt h17
  have h17n : j < kids.length := by omega
  have hz1 := wnNs_mem _ _ (List.getElem_mem h17n)
  have hel := OMs_len hop
  rw [List.length_take] at hel
  refine Zi <| Zc <| Zl <| Zc <| Za ?_
  obtain ⟨b18, o18, cap18, row18, T18, fr18, cs18, hv18, hb18, hs18, hE18⟩ := hks.get j (by first | assumption | omega | decide | simp)
  refine JLq (pp b18 (o18 + j * 37)) (Pu.idx j Tryz.runUnderlying29 Ya hv18 rfl rfl (by first | assumption | omega | decide | simp)) <| JLr (Zg Ya rfl (At.im hb18) hs18 <| JLr (Zn (l := pkN 0 0 zS nS nS nS) Tryz.zeroValue32 rfl fun b19 => JLr (Zd 0 (vs := cs18) (l := cs18) Ya rfl rfl rfl rfl (ZV hE18) (RN_ok hE18) (ZM (n := 37) rfl (ZV hE18)) <| Zb <| ZF mixed #[0, 1, 0, 4, 12, 31, 63, 127] 5 [some 25, some 26, some 27, some 28, some 29] [] [(3, fun _ _ vw qw => ∃ cs k, vw = .agg ⟨cs⟩ ∧ qw = [k] ∧ OM (kids[j]) cs k), (4, fun r _ vw qw => ∃ b k, vw = .slice (some ⟨b, 0, none⟩) 1 1 ∧ qw = [k] ∧ Own 43 37 (.slice (some ⟨b, 0, none⟩) 1 1) [(cel (r 3))] k ∧ k = (BX b (List.flatten [(cel (r 3))]) 43))] rfl (by kernel_rfl) rfl (by kernel_rfl) <| Dq (pp b6 35) (fun _ => fa43_4 rfl rfl) <| Dl1 ty40 (At.bx 1 rfl) (Xa ..) <| Dl Ya (At.bx 0 rfl) (Zt (ZV hE18)) <| Dc rfl Tryz.call12 (fun _ => rfl) (fun hin => ih _ (List.getElem_mem h17n) _ _ (RN.mono (Hle.hu _ _) hE18) (by omega)) ?_)))
  rintro _ _ ⟨cs22, k22, rfl, rfl, hO22⟩
  refine Dr rfl (fun _ => Zp (vs := [.agg ⟨cs22⟩]) [cs22] Tryz.runUnderlying40 el43 rfl rfl (by intro e he; simp only [List.mem_cons, List.not_mem_nil, or_false] at he; subst he; exact hO22.len) rfl (by decide) fun b k h1 h2 => ⟨[k], by rw [ZR rfl]; exact Sub.refl, b, k, rfl, rfl, h1, h2⟩) (fun _ _ ⟨b23, k23, e1, e2, ho23, hk23⟩ => ?_); subst e1 e2
  refine ZL (M' := [k23, k22, (BX b19 cs18 32), (BX b6 (pkN kind num ref u5 w nS) 43), q2, q3, k5, (BX b2 (pkN 0 0 zS nS nS nS) 43), (BX b1 (pkN kind num ref nv ks cv) 32)]) rfl ?_
  show JL _ _ _ [_, _, _] _ _ _
  have hlens24 : ∀ e ∈ ([cs22] : List (List Value)), List.length e = 37 := by
   intro e he; simp only [List.mem_cons, List.not_mem_nil, or_false] at he
   rcases he with rfl
   ·exact hO22.len
  have hoks24 : ∀ e ∈ ([cs22] : List (List Value)), okc e := by
   intro e he; simp only [List.mem_cons, List.not_mem_nil, or_false] at he
   rcases he with rfl
   ·exact hO22.ok
  refine JLr (ZA (i := 4) (n := 1) (es' := [cs22]) Tryz.runUnderlying40 Tryz.runUnderlying40 (Or.inl rfl) el43 rfl rfl rfl ho2 (fun F w m => Src.row (((At.k 0 rfl (by rw [hk23]; exact List.mem_cons_self))).heap m) (Zt (Zz hlens24))) rfl hlens24 hoks24 (by decide) (by first | omega | (simp only [ZT, List.length_append]; omega)) fun v24 k24 ho24 => JLq (pp b6 35) (fa43_4 rfl rfl) <| JLr (Zd 3 (vs := [v24]) (l := pkN kind num ref u5 v24 nS) ty40 rfl rfl rfl (ZK ho24.one) rfl (Zk ho24.one Zq) (pkN_s35 ..) <| Zb <| Za <| JLn (Pu.inc rfl rfl (by omega)) <| JLM rfl <| Zb <| ⟨_, ?_, (j + 1), v24, (es ++ [cs22]), k24, (q3 ++ k22), rfl, rfl, rfl, rfl, rfl, rfl, (Sd (Sub.cons 2 rfl (Sub.cons 2 rfl (Sub.join (Sub.cons 2 rfl (Sk (Sd (Sk (Sk (Sk Sub.nil)))))))))), ?_, ?_, ?_, rfl⟩))
  ·omega
  ·omega
  ·exact ho24
  rw [List.take_succ_eq_append_getElem h17n]; exact OMs.snoc hO22 hop
 replace h17 := df h17
 have h17n : kids.length ≤ j := by omega
 refine Zy _ rfl <| Zc <| Zc <| Za <| JLq (pp b1 36) (fa32_5 rfl rfl) <| JLr (Ze ty30 rfl (At.bx 5 rfl) (YP ..) ?_)
 obtain ⟨a25, cap25, hv25⟩ := hcv.sl
 have hle25 := hcv.le
 refine JLn (Pu.lenSl Tryz.runUnderlying30 hv25) <| JLM rfl <| Zb <| Zl ?_
 have hjk := h17n
 rw [List.take_of_length_le hjk] at hop
 refine ZE (fun k ρ M => ∃ (j : Nat) (y : Value) (es2 : List (List Value)) (q4 q5 : Zj), ρ 2 = pp b2 0 ∧ ρ 3 = pp b6 0 ∧ ρ 34 = cv ∧ ρ 35 = iv ((cases.length : Int)) ∧ ρ 36 = iv ((j : Int)) ∧ Sub [(BX b6 (pkN kind num ref u5 w y) 43), q4, q5, k5, q2, q3, (BX b2 (pkN 0 0 zS nS nS nS) 43), (BX b1 (pkN kind num ref nv ks cv) 32)] M ∧ j ≤ cases.length ∧ Own 100 73 y es2 q4 ∧ OMCs (cases.take j) es2 q5 ∧ k = cases.length - j) _ ⟨0, nS, [], [], [], rfl, rfl, rfl, rfl, rfl, (Sk (Sub.emp (Sub.emp (Sub.cons 2 rfl (Sk (Sk (Sk (Sk Sub.nil)))))))), Nat.zero_le _, Own.nil, OMCs.nil, rfl⟩ ?_
 rintro _ ρ26 _ ⟨j, y, es2, q4, q5, e27, e28, e29, e30, e31, hm32, hj, ho3, hopw, rfl⟩
 obtain ⟨ρ33, rfl⟩ := Zr (uc e27 (uc e28 (uc e29 (uc e30 (uc e31 un)))))
 clear e27 e28 e29 e30 e31
 refine ZJ hm32 <| Zc <| Za <| JLn (Pu.lss rfl rfl) <| Zb <| Zc <| Zf rfl (fun h34 => ?_) (fun h34 => ?_)
 ·replace h34 := dt h34
  have h34n : j < cases.length := by omega
  have hz1 := wnNCs_mem _ _ (List.getElem_mem h34n)
  have hel := OMCs_len hopw
  rw [List.length_take] at hel
  refine Zi <| Zc <| Zl <| Zc <| Za ?_
  obtain ⟨b35, o35, cap35, row35, T35, fr35, cs35, hv35, hb35, hs35, hE35⟩ := hcv.get j (by first | assumption | omega | decide | simp)
  obtain ⟨ca35, va35, cb35, rfl, hA35, hV35, hB35⟩ := hE35
  refine JLq (pp b35 (o35 + j * 73)) (Pu.idx j Tryz.runUnderlying30 ty85 hv35 rfl rfl (by first | assumption | omega | decide | simp)) <| JLr (Zg ty85 rfl (At.im hb35) hs35 <| JLr (Zn (l := (pkP 0 0 zS nS) ++ (([nS]) ++ (pkN 0 0 zS nS nS nS))) Tryz.zeroValue85 rfl fun b36 => JLr (Zd 0 (vs := ca35 ++ (([va35]) ++ cb35)) (l := ca35 ++ (([va35]) ++ cb35)) ty85 rfl rfl rfl rfl (Zw (Zu hA35) (Zw rfl (ZV hB35))) (ZN (Xj hA35) (ZN (Zk hV35.one Zq) (RN_ok hB35))) (ZM (n := 73) rfl (Zw (Zu hA35) (Zw rfl (ZV hB35)))) <| Zb <| ZF mixed #[0, 1, 0, 4, 12, 0, 32, 124, 0, 256, 1020, 2044, 4092, 8191, 16383, 32767] 13 [some 40, some 41, some 42, some 43, some 44, some 45, some 46, some 47, some 48, some 49, some 50, some 51, some 52] [] [(4, fun _ _ vw qw => ∃ cs k, vw = .agg ⟨cs⟩ ∧ qw = [k] ∧ OP (cases[j].1) cs k), (7, fun _ _ vw qw => ∃ k, qw = [k] ∧ Own 9 1 vw (Z0 (cases[j].2.1)) k), (10, fun _ _ vw qw => ∃ cs k, vw = .agg ⟨cs⟩ ∧ qw = [k] ∧ OM (cases[j].2.2) cs k), (12, fun r _ vw qw => ∃ b k, vw = .slice (some ⟨b, 0, none⟩) 1 1 ∧ qw = [k] ∧ Own 100 73 (.slice (some ⟨b, 0, none⟩) 1 1) [((cel (r 4))) ++ (([(r 7)]) ++ ((cel (r 10))))] k ∧ k = (BX b (List.flatten [((cel (r 4))) ++ (([(r 7)]) ++ ((cel (r 10))))]) 100))] rfl (by kernel_rfl) rfl (by kernel_rfl) <| Dq (pp b6 36) (fun _ => fa43_5 rfl rfl) <| Dl1 ty41 (At.bx 1 rfl) (YP ..) <| Dq (pp b36 0) (fun _ => fa85_0 rfl rfl) <| Dl Z6 (At.bx 0 rfl) (YE (Zu hA35)) <| Dc rfl Tryz.call53 (fun _ => rfl) (fun hin => ownPattern_ct _ _ _ (RP.mono (Hle.hu _ _) hA35) (by omega)) ?_)))
  rintro _ _ ⟨cs41, k41, rfl, rfl, hO41⟩
  refine Dq (pp b36 35) (fun _ => fa85_1 rfl rfl) <| Dl1 Yy (At.bx 0 rfl) (get_r (n := 35) (i := 0) (Zu hA35) rfl) <| Dc rfl Tryz.call13 (fun _ => rfl) (fun hin => cloneS_ct _ _ _ (RSs.mono (Hle.hu _ _) hV35) (by omega)) ?_
  rintro u42 _ ⟨k42, rfl, ho42⟩
  refine Dq (pp b36 36) (fun _ => fa85_2 rfl rfl) <| Dl Ya (At.bx 0 rfl) (Xe (n := 35) (i := 1) (Zu hA35) (Xg rfl (ZV hB35))) <| Dc rfl Tryz.call12 (fun _ => rfl) (fun hin => ih' _ (List.getElem_mem h34n) _ _ (RN.mono (Hle.hu _ _) hB35) (by omega)) ?_
  rintro _ _ ⟨cs43, k43, rfl, rfl, hO43⟩
  refine Dq (.agg ⟨cs41 ++ (([u42]) ++ cs43)⟩) (fun _ => Pu.build (pv := [(0, .agg ⟨cs41⟩), (1, u42), (2, .agg ⟨cs43⟩)]) (l := cs41 ++ (([u42]) ++ cs43)) rfl (bldNCr hO41.len ho42.one hO43.len)) <| Dr rfl (fun _ => Zp (vs := [.agg ⟨cs41 ++ (([u42]) ++ cs43)⟩]) [cs41 ++ (([u42]) ++ cs43)] Tryz.runUnderlying41 el100 rfl rfl (by intro e he; simp only [List.mem_cons, List.not_mem_nil, or_false] at he; subst he; exact (Zw hO41.len (Zw rfl hO43.len))) rfl (by decide) fun b k h1 h2 => ⟨[k], by rw [ZR rfl]; exact Sub.refl, b, k, rfl, rfl, h1, h2⟩) (fun _ _ ⟨b44, k44, e1, e2, ho44, hk44⟩ => ?_); subst e1 e2
  refine ZL (M' := [k44, k43, k42, k41, (BX b36 (ca35 ++ (([va35]) ++ cb35)) 85), (BX b6 (pkN kind num ref u5 w y) 43), q4, q5, k5, q2, q3, (BX b2 (pkN 0 0 zS nS nS nS) 43), (BX b1 (pkN kind num ref nv ks cv) 32)]) rfl ?_
  show JL _ _ _ [_, _, _] _ _ _
  have hlens45 : ∀ e ∈ ([cs41 ++ (([u42]) ++ cs43)] : List (List Value)), List.length e = 73 := by
   intro e he; simp only [List.mem_cons, List.not_mem_nil, or_false] at he
   rcases he with rfl
   ·exact (Zw hO41.len (Zw rfl hO43.len))
  have hoks45 : ∀ e ∈ ([cs41 ++ (([u42]) ++ cs43)] : List (List Value)), okc e := by
   intro e he; simp only [List.mem_cons, List.not_mem_nil, or_false] at he
   rcases he with rfl
   ·exact (ZN hO41.ok (ZN (Zk ho42.one Zq) hO43.ok))
  refine JLr (ZA (i := 6) (n := 1) (es' := [cs41 ++ (([u42]) ++ cs43)]) Tryz.runUnderlying41 Tryz.runUnderlying41 (Or.inl rfl) el100 rfl rfl rfl ho3 (fun F w m => Src.row (((At.k 0 rfl (by rw [hk44]; exact List.mem_cons_self))).heap m) (Zt (Zz hlens45))) rfl hlens45 hoks45 (by decide) (by first | omega | (simp only [ZT, List.length_append]; omega)) fun v45 k45 ho45 => JLq (pp b6 36) (fa43_5 rfl rfl) <| JLr (Zd 5 (vs := [v45]) (l := pkN kind num ref u5 w v45) ty41 rfl rfl rfl (ZK ho45.one) rfl (Zk ho45.one Zq) (pkN_s36 ..) <| Zb <| Za <| JLn (Pu.inc rfl rfl (by omega)) <| JLM rfl <| Zb <| ⟨_, ?_, (j + 1), v45, (es2 ++ [cs41 ++ (([u42]) ++ cs43)]), k45, (q5 ++ (k41 ++ (k42 ++ k43))), rfl, rfl, rfl, rfl, rfl, (Sd (Sub.cons 4 rfl (Sub.cons 4 rfl (Sub.join4 (Sub.cons 4 rfl (Sub.cons 2 rfl (Sub.cons 1 rfl (Sk (Sd (Sk (Sk (Sk (Sk (Sk Sub.nil)))))))))))))), ?_, ?_, ?_, rfl⟩))
  ·omega
  ·omega
  ·exact ho45
  rw [List.take_succ_eq_append_getElem h34n]; exact OMCs.snoc hO41 ho42 (by omega) hO43 hopw
 replace h34 := df h34
 have h34n : cases.length ≤ j := by omega
 refine Zy _ rfl <| Zc <| Za <| JLr (Zg Y8 rfl (At.bx 0 rfl) (XA ..) <| JLr (Zd 6 (vs := pkN kind num ref u5 w y) (l := pkN kind num ref u5 w y) Y8 rfl rfl rfl rfl rfl (YZ ho5.one ho2.one ho3.one) (pkN_s ..) <| Zb <| Zh <| ⟨.agg ⟨pkN kind num ref u5 w y⟩, [k5 ++ (q2 ++ (q3 ++ (q4 ++ q5)))], Ret.one rfl (RV.cell Y8 rfl (At.bx 6 rfl) (XA ..)), (Sub.join5 (Sd (Sub.cons 2 rfl (Sub.cons 2 rfl (Sub.cons 2 rfl (Sk (Sk Sub.nil))))))), ?_⟩))
 rw [List.take_of_length_le h34n] at hopw
 exact ⟨_, _, rfl, rfl, OM_mk.2 ⟨_, _, _, _, _, _, _, _, _, _, rfl, hk, hn, ho5, ho2, hop, ho3, hopw, rfl, by omega, by omega, by omega⟩⟩
end Go.Proofs.YtmophpgiaiemhaaGreat.Hs
/-! Walks, printed by a program of this session's own (gen.py). -/
namespace Go.Proofs.YtmophpgiaiemhaaGreat.Hs
open Go Go.Proofs
set_option maxRecDepth 100000
set_option linter.unusedVariables false
set_option linter.unusedSimpArgs false
attribute [local irreducible] JL J CT wlo DT
theorem eqFuncN_ct (g : Nat) (fs cv : List Value) (hcall : ∀ args w, (callFunc g args).run Tryz.prog w = .ok (.enter g args) w) (l m : List Nm) (v u : Value) (H : Heap) (hl : Hs.rdS RN 37 H v l) (hm : Hs.rdS RN 37 H u m) (hg : ∀ x ∈ l, ∀ y ∈ m, ∀ a b h, Hle H h → RN h a x → RN h b y → CT Tryz.prog g ⟨fs ++ [.agg ⟨a⟩, .agg ⟨b⟩] ++ cv⟩ [] h (fun v N => v = .bool (decide (x = y)) ∧ N = [])) : CT Tryz.prog 68 ⟨[v, u, .func (.func g) ⟨fs⟩ ⟨cv⟩]⟩ [] H (fun v N => v = .bool (decide (l = m)) ∧ N = []) := by
 refine Zm Tryz.func68 rfl rfl <| Zc <| Za <| JLA rfl <| Zb <| Zc <| Zc <| Za <| JLm v ?_
 obtain ⟨a1, cap1, hv1⟩ := hl.sl
 have hle1 := hl.le
 refine JLn (Pu.lenSl Tryz.runUnderlying29 hv1) <| JLm u ?_
 obtain ⟨a2, cap2, hv2⟩ := hm.sl
 have hle2 := hm.le
 refine JLn (Pu.lenSl Tryz.runUnderlying29 hv2) <| JLn (Pu.neq rfl rfl) <| Zb <| Zf rfl (fun h3 => ?_) (fun h3 => ?_)
 ·replace h3 := nt h3
  replace h3 := df h3
  refine Zc <| Za <| JLA rfl <| Zb <| Zh <| ⟨.bool false, [], Ret.one rfl (RV.tmp rfl), Sub.nil, ?_⟩
  exact ⟨by rw [decide_eq_false]; intro e; subst e; exact h3 rfl, rfl⟩
 replace h3 := nf h3
 replace h3 := dt h3
 refine Zi <| Zc <| Zc <| Za <| JLm v ?_
 obtain ⟨a4, cap4, hv4⟩ := hl.sl
 have hle4 := hl.le
 refine JLn (Pu.lenSl Tryz.runUnderlying29 hv4) <| JLM rfl <| Zb <| Zl <| ZE (fun k ρ M => ∃ (j : Nat), ρ 1 = u ∧ ρ 2 = .func (.func g) ⟨fs⟩ ⟨cv⟩ ∧ ρ 6 = .bool false ∧ ρ 15 = v ∧ ρ 16 = iv ((l.length : Int)) ∧ ρ 17 = iv ((j : Int)) ∧ Sub [] M ∧ j ≤ l.length ∧ l.length = m.length ∧ l.take j = m.take j ∧ k = l.length - j) _ ⟨0, rfl, rfl, rfl, rfl, rfl, rfl, Sub.nil, Nat.zero_le _, (by omega), rfl, rfl⟩ ?_
 rintro _ ρ5 _ ⟨j, e6, e7, e8, e9, e10, e11, hm12, hj, hlen, htake, rfl⟩
 obtain ⟨ρ13, rfl⟩ := Zr (uc e6 (uc e7 (uc e8 (uc e9 (uc e10 (uc e11 un))))))
 clear e6 e7 e8 e9 e10 e11
 refine ZJ hm12 <| Zc <| Za <| JLn (Pu.lss rfl rfl) <| Zb <| Zc <| Zf rfl (fun h14 => ?_) (fun h14 => ?_)
 ·replace h14 := dt h14
  have h14n : j < l.length := by omega
  have hlenl := hl.le
  have hltm : j < m.length := by omega
  refine Zi <| Zc <| Zl <| Zc <| Za <| JLM rfl ?_
  obtain ⟨b15, o15, cap15, row15, T15, fr15, cs15, hv15, hb15, hs15, hE15⟩ := hl.get j (by first | assumption | omega | decide | simp)
  refine JLq (pp b15 (o15 + j * 37)) (Pu.idx j Tryz.runUnderlying29 Ya hv15 rfl rfl (by first | assumption | omega | decide | simp)) <| JLr (Zg Ya rfl (At.im hb15) hs15 <| JLr (Zn (l := pkN 0 0 zS nS nS nS) Tryz.zeroValue32 rfl fun b16 => JLA rfl <| JLr (Zd 0 (vs := cs15) (l := cs15) Ya rfl rfl rfl rfl (ZV hE15) (RN_ok hE15) (ZM (n := 37) rfl (ZV hE15)) <| Zb <| Zc <| Za <| JLm u <| JLM rfl ?_)))
  obtain ⟨b17, o17, cap17, row17, T17, fr17, cs17, hv17, hb17, hs17, hE17⟩ := hm.get j (by first | assumption | omega | decide | simp)
  refine JLq (pp b17 (o17 + j * 37)) (Pu.idx j Tryz.runUnderlying29 Ya hv17 rfl rfl (by first | assumption | omega | decide | simp)) <| JLr (Zg Ya rfl (At.im hb17) hs17 <| JLr (Zn (l := pkN 0 0 zS nS nS nS) Tryz.zeroValue32 rfl fun b18 => JLr (Zd 0 (vs := cs17) (l := cs17) Ya rfl rfl rfl rfl (ZV hE17) (RN_ok hE17) (ZM (n := 37) rfl (ZV hE17)) <| Zb <| Zc <| Za <| JLM rfl <| JLr (Zg Ya rfl (At.bx 1 rfl) (Zt (ZV hE15)) <| JLr (Zg Ya rfl (At.bx 0 rfl) (Zt (ZV hE17)) <| Jc hcall rfl (fun hin => hg _ (List.getElem_mem h14n) _ (List.getElem_mem (by omega)) _ _ _ (Hle.hu _ _) (RN.mono (Hle.hu _ _) hE15) (RN.mono (Hle.hu _ _) hE17)) rfl ?_)))))
  rintro _ _ ⟨rfl, rfl⟩
  refine JLn (Pu.not rfl) <| Zb <| Zf rfl (fun h19 => ?_) (fun h19 => ?_)
  ·replace h19 := nt h19
   replace h19 := df h19
   refine Zc <| Za <| JLA rfl <| Zb <| Zh <| ⟨.bool false, [], Ret.one rfl (RV.tmp rfl), Sub.nil, ?_⟩
   exact ⟨by rw [decide_eq_false]; intro e; subst e; exact h19 rfl, rfl⟩
  replace h19 := nf h19
  replace h19 := dt h19
  refine Zi <| Za <| JLn (Pu.inc rfl rfl (by omega)) <| JLM rfl <| Zb <| ⟨_, ?_, (j + 1), rfl, rfl, rfl, rfl, rfl, rfl, Sub.nil, ?_, ?_, ?_, rfl⟩
  ·omega
  ·omega
  ·assumption
  rw [List.take_succ_eq_append_getElem h14n, List.take_succ_eq_append_getElem (by omega), htake, h19]
 replace h14 := df h14
 have h14n : l.length ≤ j := by omega
 refine Zy _ rfl <| Zc <| Za <| JLA rfl <| Zb <| Zh <| ⟨.bool true, [], Ret.one rfl (RV.tmp rfl), Sub.nil, ?_⟩
 exact ⟨by rw [decide_eq_true]; have e := htake; rw [List.take_of_length_le h14n, List.take_of_length_le (by omega)] at e; exact e, rfl⟩
theorem eqFuncNC_ct (g : Nat) (fs cv : List Value) (hcall : ∀ args w, (callFunc g args).run Tryz.prog w = .ok (.enter g args) w) (l m : List (Pt × List ByteArray × Nm)) (v u : Value) (H : Heap) (hl : Hs.rdS RNC 73 H v l) (hm : Hs.rdS RNC 73 H u m) (hg : ∀ x ∈ l, ∀ y ∈ m, ∀ a b h, Hle H h → RNC h a x → RNC h b y → CT Tryz.prog g ⟨fs ++ [.agg ⟨a⟩, .agg ⟨b⟩] ++ cv⟩ [] h (fun v N => v = .bool (decide (x = y)) ∧ N = [])) : CT Tryz.prog 69 ⟨[v, u, .func (.func g) ⟨fs⟩ ⟨cv⟩]⟩ [] H (fun v N => v = .bool (decide (l = m)) ∧ N = []) := by
 refine Zm Tryz.func69 rfl rfl <| Zc <| Za <| JLA rfl <| Zb <| Zc <| Zc <| Za <| JLm v ?_
 obtain ⟨a1, cap1, hv1⟩ := hl.sl
 have hle1 := hl.le
 refine JLn (Pu.lenSl Tryz.runUnderlying30 hv1) <| JLm u ?_
 obtain ⟨a2, cap2, hv2⟩ := hm.sl
 have hle2 := hm.le
 refine JLn (Pu.lenSl Tryz.runUnderlying30 hv2) <| JLn (Pu.neq rfl rfl) <| Zb <| Zf rfl (fun h3 => ?_) (fun h3 => ?_)
 ·replace h3 := nt h3
  replace h3 := df h3
  refine Zc <| Za <| JLA rfl <| Zb <| Zh <| ⟨.bool false, [], Ret.one rfl (RV.tmp rfl), Sub.nil, ?_⟩
  exact ⟨by rw [decide_eq_false]; intro e; subst e; exact h3 rfl, rfl⟩
 replace h3 := nf h3
 replace h3 := dt h3
 refine Zi <| Zc <| Zc <| Za <| JLm v ?_
 obtain ⟨a4, cap4, hv4⟩ := hl.sl
 have hle4 := hl.le
 refine JLn (Pu.lenSl Tryz.runUnderlying30 hv4) <| JLM rfl <| Zb <| Zl <| ZE (fun k ρ M => ∃ (j : Nat), ρ 1 = u ∧ ρ 2 = .func (.func g) ⟨fs⟩ ⟨cv⟩ ∧ ρ 6 = .bool false ∧ ρ 15 = v ∧ ρ 16 = iv ((l.length : Int)) ∧ ρ 17 = iv ((j : Int)) ∧ Sub [] M ∧ j ≤ l.length ∧ l.length = m.length ∧ l.take j = m.take j ∧ k = l.length - j) _ ⟨0, rfl, rfl, rfl, rfl, rfl, rfl, Sub.nil, Nat.zero_le _, (by omega), rfl, rfl⟩ ?_
 rintro _ ρ5 _ ⟨j, e6, e7, e8, e9, e10, e11, hm12, hj, hlen, htake, rfl⟩
 obtain ⟨ρ13, rfl⟩ := Zr (uc e6 (uc e7 (uc e8 (uc e9 (uc e10 (uc e11 un))))))
 clear e6 e7 e8 e9 e10 e11
 refine ZJ hm12 <| Zc <| Za <| JLn (Pu.lss rfl rfl) <| Zb <| Zc <| Zf rfl (fun h14 => ?_) (fun h14 => ?_)
 ·replace h14 := dt h14
  have h14n : j < l.length := by omega
  have hlenl := hl.le
  have hltm : j < m.length := by omega
  refine Zi <| Zc <| Zl <| Zc <| Za <| JLM rfl ?_
  obtain ⟨b15, o15, cap15, row15, T15, fr15, cs15, hv15, hb15, hs15, hE15⟩ := hl.get j (by first | assumption | omega | decide | simp)
  obtain ⟨ca15, va15, cb15, rfl, hA15, hV15, hB15⟩ := hE15
  refine JLq (pp b15 (o15 + j * 73)) (Pu.idx j Tryz.runUnderlying30 ty85 hv15 rfl rfl (by first | assumption | omega | decide | simp)) <| JLr (Zg ty85 rfl (At.im hb15) hs15 <| JLr (Zn (l := (pkP 0 0 zS nS) ++ (([nS]) ++ (pkN 0 0 zS nS nS nS))) Tryz.zeroValue85 rfl fun b16 => JLA rfl <| JLr (Zd 0 (vs := ca15 ++ (([va15]) ++ cb15)) (l := ca15 ++ (([va15]) ++ cb15)) ty85 rfl rfl rfl rfl (Zw (Zu hA15) (Zw rfl (ZV hB15))) (ZN (Xj hA15) (ZN (Zk hV15.one Zq) (RN_ok hB15))) (ZM (n := 73) rfl (Zw (Zu hA15) (Zw rfl (ZV hB15)))) <| Zb <| Zc <| Za <| JLm u <| JLM rfl ?_)))
  obtain ⟨b17, o17, cap17, row17, T17, fr17, cs17, hv17, hb17, hs17, hE17⟩ := hm.get j (by first | assumption | omega | decide | simp)
  obtain ⟨ca17, va17, cb17, rfl, hA17, hV17, hB17⟩ := hE17
  refine JLq (pp b17 (o17 + j * 73)) (Pu.idx j Tryz.runUnderlying30 ty85 hv17 rfl rfl (by first | assumption | omega | decide | simp)) <| JLr (Zg ty85 rfl (At.im hb17) hs17 <| JLr (Zn (l := (pkP 0 0 zS nS) ++ (([nS]) ++ (pkN 0 0 zS nS nS nS))) Tryz.zeroValue85 rfl fun b18 => JLr (Zd 0 (vs := ca17 ++ (([va17]) ++ cb17)) (l := ca17 ++ (([va17]) ++ cb17)) ty85 rfl rfl rfl rfl (Zw (Zu hA17) (Zw rfl (ZV hB17))) (ZN (Xj hA17) (ZN (Zk hV17.one Zq) (RN_ok hB17))) (ZM (n := 73) rfl (Zw (Zu hA17) (Zw rfl (ZV hB17)))) <| Zb <| Zc <| Za <| JLM rfl <| JLr (Zg ty85 rfl (At.bx 1 rfl) (Zt (Zw (Zu hA15) (Zw rfl (ZV hB15)))) <| JLr (Zg ty85 rfl (At.bx 0 rfl) (Zt (Zw (Zu hA17) (Zw rfl (ZV hB17)))) <| Jc hcall rfl (fun hin => hg _ (List.getElem_mem h14n) _ (List.getElem_mem (by omega)) _ _ _ (Hle.hu _ _) (RNC.mono (Hle.hu _ _) (RNC_mk hA15 hV15 hB15)) (RNC.mono (Hle.hu _ _) (RNC_mk hA17 hV17 hB17))) rfl ?_)))))
  rintro _ _ ⟨rfl, rfl⟩
  refine JLn (Pu.not rfl) <| Zb <| Zf rfl (fun h19 => ?_) (fun h19 => ?_)
  ·replace h19 := nt h19
   replace h19 := df h19
   refine Zc <| Za <| JLA rfl <| Zb <| Zh <| ⟨.bool false, [], Ret.one rfl (RV.tmp rfl), Sub.nil, ?_⟩
   exact ⟨by rw [decide_eq_false]; intro e; subst e; exact h19 rfl, rfl⟩
  replace h19 := nf h19
  replace h19 := dt h19
  refine Zi <| Za <| JLn (Pu.inc rfl rfl (by omega)) <| JLM rfl <| Zb <| ⟨_, ?_, (j + 1), rfl, rfl, rfl, rfl, rfl, rfl, Sub.nil, ?_, ?_, ?_, rfl⟩
  ·omega
  ·omega
  ·assumption
  rw [List.take_succ_eq_append_getElem h14n, List.take_succ_eq_append_getElem (by omega), htake, h19]
 replace h14 := df h14
 have h14n : l.length ≤ j := by omega
 refine Zy _ rfl <| Zc <| Za <| JLA rfl <| Zb <| Zh <| ⟨.bool true, [], Ret.one rfl (RV.tmp rfl), Sub.nil, ?_⟩
 exact ⟨by rw [decide_eq_true]; have e := htake; rw [List.take_of_length_le h14n, List.take_of_length_le (by omega)] at e; exact e, rfl⟩
theorem sameNC_ct : ∀ (c d : Pt × List ByteArray × Nm) (a b : List Value) (H : Heap), RNC H a c → RNC H b d → (∀ h a b, Hle H h → RN h a c.2.2 → RN h b d.2.2 → CT Tryz.prog 19 ⟨[.agg ⟨a⟩, .agg ⟨b⟩]⟩ [] h (fun v N => v = .bool (decide (c.2.2 = d.2.2)) ∧ N = [])) → CT Tryz.prog 70 ⟨[.agg ⟨a⟩, .agg ⟨b⟩]⟩ [] H (fun v N => v = .bool (decide (c = d)) ∧ N = []) := by
 intro c d a b H ⟨ca, va, cb, e1, ra1, ra2, ra3⟩ ⟨da, dv, db, e2, rb1, rb2, rb3⟩ hg
 subst e1 e2
 refine Zm Tryz.func70 rfl rfl <| Zc <| Za <| JLr (Zo (l := ca ++ (([va]) ++ cb)) rfl rfl fun b1 => JLr (Zo (l := da ++ (([dv]) ++ db)) rfl rfl fun b2 => JLA rfl <| Zb <| Zc <| Za <| JLq (pp b1 0) (fa85_0 rfl rfl) <| JLr (Zg Z6 rfl (At.bx 1 rfl) (YE (Zu ra1)) <| JLq (pp b2 0) (fa85_0 rfl rfl) <| JLr (Zg Z6 rfl (At.bx 0 rfl) (YE (Zu rb1)) ?_))))
 refine Jc Tryz.call71 rfl (fun hin => samePattern_ct _ _ _ _ _ (RP.mono (Hle.hu _ _) ra1) (RP.mono (Hle.hu _ _) rb1)) rfl ?_
 rintro _ _ ⟨rfl, rfl⟩
 refine JLM rfl <| Zx 5 [11, 12, 13, 14, 15] [(15, cond (decide ((c.1) = (d.1))) (.bool (eqL (c.2.1) (d.2.1))) undef)] ?_ fun f4 => ?_
 ·cases h3 : (decide ((c.1) = (d.1))) with
  | true =>
   replace h3 := dt h3
   refine JLq (pp b1 35) (fa85_1 rfl rfl) <| JLr (Ze Yy rfl (At.bx 1 rfl) (get_r (n := 35) (i := 0) (Zu ra1) rfl) <| JLq (pp b2 35) (fa85_1 rfl rfl) <| JLr (Ze Yy rfl (At.bx 0 rfl) (get_r (n := 35) (i := 0) (Zu rb1) rfl) <| Jc Tryz.call22 rfl (fun hin => equalS_ct _ _ _ _ _ (RSs.mono (Hle.hu _ _) ra2) (RSs.mono (Hle.hu _ _) rb2)) rfl ?_))
   rintro _ _ ⟨rfl, rfl⟩
   exact Zb ⟨⟨rfl, trivial⟩, rfl⟩
  | false =>
   exact ZG rfl ⟨rfl, trivial⟩
 refine JLn (Pu.pickAnd rfl rfl rfl) <| JLM rfl <| Zx 5 [18, 19, 20, 21, 22] [(22, cond ((decide ((c.1) = (d.1))) && (eqL (c.2.1) (d.2.1))) (.bool (decide ((c.2.2) = (d.2.2)))) undef)] ?_ fun f6 => ?_
 ·cases h5 : ((decide ((c.1) = (d.1))) && (eqL (c.2.1) (d.2.1))) with
  | true =>
   obtain ⟨h5a, h5b⟩ := Yr h5
   replace h5a := dt h5a
   refine JLq (pp b1 36) (fa85_2 rfl rfl) <| JLr (Zg Ya rfl (At.bx 1 rfl) (Xe (n := 35) (i := 1) (Zu ra1) (Xg rfl (ZV ra3))) <| JLq (pp b2 36) (fa85_2 rfl rfl) <| JLr (Zg Ya rfl (At.bx 0 rfl) (Xe (n := 35) (i := 1) (Zu rb1) (Xg rfl (ZV rb3))) <| Jc Tryz.call19 rfl (fun hin => hg _ _ _ (Hle.hu _ _) (RN.mono (Hle.hu _ _) ra3) (RN.mono (Hle.hu _ _) rb3)) rfl ?_))
   rintro _ _ ⟨rfl, rfl⟩
   exact Zb ⟨⟨rfl, trivial⟩, rfl⟩
  | false =>
   exact ZG rfl ⟨rfl, trivial⟩
 refine JLn (Pu.pickAnd rfl rfl rfl) <| JLA rfl <| Zb <| Zh <| ⟨.bool (((decide ((c.1) = (d.1))) && (eqL (c.2.1) (d.2.1))) && (decide ((c.2.2) = (d.2.2)))), [], Ret.one rfl (RV.tmp rfl), Sub.nil, ?_⟩
 exact ⟨by obtain ⟨c1, c2, c3⟩ := c; obtain ⟨d1, d2, d3⟩ := d; refine congrArg Value.bool ?_; rw [Bool.eq_iff_iff]; simp [eqL_iff, and_assoc], rfl⟩
theorem sameNamed_ct : ∀ (t u : Nm) (cs ds : List Value) (H : Heap), RN H cs t → RN H ds u → CT Tryz.prog 19 ⟨[.agg ⟨cs⟩, .agg ⟨ds⟩]⟩ [] H (fun v N => v = .bool (decide (t = u)) ∧ N = []) := by
 intro t
 induction t using Nm.ind with
 | h kind num ref ns kids cases ih ih' =>
 intro u cs ds H ht hu
 obtain ⟨nv, ks, cv, rfl, hk, hn, hns, hks, hcv⟩ := RN_mk.1 ht
 obtain ⟨nvu, ksu, cvu, rfl, hku, hnu, hnsu, hksu, hcvu⟩ := RN_open hu
 refine Zm Tryz.func19 rfl rfl <| Zc <| Za <| JLr (Zo (l := pkN kind num ref nv ks cv) rfl rfl fun b1 => JLr (Zo (l := pkN (u.kind) (u.num) (u.ref) nvu ksu cvu) rfl rfl fun b2 => JLA rfl <| Zb <| Zc <| Za <| JLq (pp b1 0) (fa32_0 rfl rfl) <| JLr (Ze ty3 rfl (At.bx 1 rfl) (pkN_0 ..) <| JLq (pp b2 0) (fa32_0 rfl rfl) <| JLr (Ze ty3 rfl (At.bx 0 rfl) (pkN_0 ..) ?_))))
 refine JLn (Pu.eql rfl rfl) <| JLM rfl <| Zx 5 [11, 12, 13, 14, 15] [(15, cond (decide (kind = u.kind)) (.bool (decide (num = u.num))) undef)] ?_ fun f4 => ?_
 ·cases h3 : (decide (kind = u.kind)) with
  | true =>
   replace h3 := dt h3
   refine JLq (pp b1 1) (fa32_1 rfl rfl) <| JLr (Ze ty3 rfl (At.bx 1 rfl) (pkN_1 ..) <| JLq (pp b2 1) (fa32_1 rfl rfl) <| JLr (Ze ty3 rfl (At.bx 0 rfl) (pkN_1 ..) <| JLn (Pu.eql rfl rfl) ?_))
   exact Zb ⟨⟨rfl, trivial⟩, rfl⟩
  | false =>
   exact ZG rfl ⟨rfl, trivial⟩
 refine JLn (Pu.pickAnd rfl rfl rfl) <| JLM rfl <| Zx 5 [18, 19, 20, 21, 22] [(22, cond ((decide (kind = u.kind)) && (decide (num = u.num))) (.bool (decide (ref = u.ref))) undef)] ?_ fun f6 => ?_
 ·cases h5 : ((decide (kind = u.kind)) && (decide (num = u.num))) with
  | true =>
   obtain ⟨h5a, h5b⟩ := Yr h5
   replace h5a := dt h5a
   replace h5b := dt h5b
   refine JLq (pp b1 2) (fa32_2 rfl rfl) <| JLr (Zg Xm rfl (At.bx 1 rfl) (pkN_2 ..) <| JLq (pp b2 2) (fa32_2 rfl rfl) <| JLr (Zg Xm rfl (At.bx 0 rfl) (pkN_2 ..) <| JLn (eqS rfl rfl) ?_))
   exact Zb ⟨⟨rfl, trivial⟩, rfl⟩
  | false =>
   exact ZG rfl ⟨rfl, trivial⟩
 refine JLn (Pu.pickAnd rfl rfl rfl) <| JLM rfl <| Zx 5 [25, 26, 27, 28, 29] [(29, cond (((decide (kind = u.kind)) && (decide (num = u.num))) && (decide (ref = u.ref))) (.bool (eqL ns (u.names))) undef)] ?_ fun f8 => ?_
 ·cases h7 : (((decide (kind = u.kind)) && (decide (num = u.num))) && (decide (ref = u.ref))) with
  | true =>
   obtain ⟨h7a, h7b⟩ := Yr h7
   obtain ⟨h7aa, h7ab⟩ := Yr h7a
   replace h7aa := dt h7aa
   replace h7ab := dt h7ab
   replace h7b := dt h7b
   refine JLq (pp b1 34) (Y2 rfl rfl) <| JLr (Ze Yy rfl (At.bx 1 rfl) (Xw ..) <| JLq (pp b2 34) (Y2 rfl rfl) <| JLr (Ze Yy rfl (At.bx 0 rfl) (Xw ..) <| Jc Tryz.call22 rfl (fun hin => equalS_ct _ _ _ _ _ (RSs.mono (Hle.hu _ _) hns.rd) (RSs.mono (Hle.hu _ _) hnsu.rd)) rfl ?_))
   rintro _ _ ⟨rfl, rfl⟩
   exact Zb ⟨⟨rfl, trivial⟩, rfl⟩
  | false =>
   exact ZG rfl ⟨rfl, trivial⟩
 refine JLn (Pu.pickAnd rfl rfl rfl) <| JLM rfl <| Zx 5 [32, 33, 34, 35, 36] [(36, cond ((((decide (kind = u.kind)) && (decide (num = u.num))) && (decide (ref = u.ref))) && (eqL ns (u.names))) (.bool (decide (kids = (u.kids)))) undef)] ?_ fun f10 => ?_
 ·cases h9 : ((((decide (kind = u.kind)) && (decide (num = u.num))) && (decide (ref = u.ref))) && (eqL ns (u.names))) with
  | true =>
   obtain ⟨h9a, h9b⟩ := Yr h9
   obtain ⟨h9aa, h9ab⟩ := Yr h9a
   obtain ⟨h9aaa, h9aab⟩ := Yr h9aa
   replace h9aaa := dt h9aaa
   replace h9aab := dt h9aab
   replace h9ab := dt h9ab
   refine JLq (pp b1 35) (Xd rfl rfl) <| JLr (Ze ty29 rfl (At.bx 1 rfl) (Xa ..) <| JLq (pp b2 35) (Xd rfl rfl) <| JLr (Ze ty29 rfl (At.bx 0 rfl) (Xa ..) <| Jc Tryz.call68 rfl (fun hin => eqFuncN_ct 19 [] [] (fun _ _ => rfl) _ _ _ _ _ (RNs.mono (Hle.hu _ _) hks) (RNs.mono (Hle.hu _ _) hksu) (fun x hx y hy a b h hh ra rb => ih x hx y a b h ra rb)) rfl ?_))
   rintro _ _ ⟨rfl, rfl⟩
   exact Zb ⟨⟨rfl, trivial⟩, rfl⟩
  | false =>
   exact ZG rfl ⟨rfl, trivial⟩
 refine JLn (Pu.pickAnd rfl rfl rfl) <| JLM rfl <| Zx 5 [39, 40, 41, 42, 43] [(43, cond (((((decide (kind = u.kind)) && (decide (num = u.num))) && (decide (ref = u.ref))) && (eqL ns (u.names))) && (decide (kids = (u.kids)))) (.bool (decide (cases = (u.cases)))) undef)] ?_ fun f12 => ?_
 ·cases h11 : (((((decide (kind = u.kind)) && (decide (num = u.num))) && (decide (ref = u.ref))) && (eqL ns (u.names))) && (decide (kids = (u.kids)))) with
  | true =>
   obtain ⟨h11a, h11b⟩ := Yr h11
   obtain ⟨h11aa, h11ab⟩ := Yr h11a
   obtain ⟨h11aaa, h11aab⟩ := Yr h11aa
   obtain ⟨h11aaaa, h11aaab⟩ := Yr h11aaa
   replace h11aaaa := dt h11aaaa
   replace h11aaab := dt h11aaab
   replace h11aab := dt h11aab
   replace h11b := dt h11b
   refine JLq (pp b1 36) (fa32_5 rfl rfl) <| JLr (Ze ty30 rfl (At.bx 1 rfl) (YP ..) <| JLq (pp b2 36) (fa32_5 rfl rfl) <| JLr (Ze ty30 rfl (At.bx 0 rfl) (YP ..) <| Jc Tryz.call69 rfl (fun hin => eqFuncNC_ct 70 [] [] (fun _ _ => rfl) _ _ _ _ _ (RNCs.mono (Hle.hu _ _) hcv) (RNCs.mono (Hle.hu _ _) hcvu) (fun x hx y hy a b h hh ra rb => sameNC_ct x y a b h ra rb (fun h' a' b' _ r1 r2 => ih' x hx y.2.2 a' b' h' r1 r2))) rfl ?_))
   rintro _ _ ⟨rfl, rfl⟩
   exact Zb ⟨⟨rfl, trivial⟩, rfl⟩
  | false =>
   exact ZG rfl ⟨rfl, trivial⟩
 refine JLn (Pu.pickAnd rfl rfl rfl) <| JLA rfl <| Zb <| Zh <| ⟨.bool ((((((decide (kind = u.kind)) && (decide (num = u.num))) && (decide (ref = u.ref))) && (eqL ns (u.names))) && (decide (kids = (u.kids)))) && (decide (cases = (u.cases)))), [], Ret.one rfl (RV.tmp rfl), Sub.nil, ?_⟩
 exact ⟨by refine congrArg Value.bool ?_; rw [Bool.eq_iff_iff]; simp only [Bool.and_eq_true, decide_eq_true_eq, eqL_iff]; cases u; simp [Nm.kind, Nm.num, Nm.ref, Nm.names, Nm.kids, Nm.cases, and_assoc], rfl⟩
end Go.Proofs.YtmophpgiaiemhaaGreat.Hs
/-! Walks, printed by a program of this session's own (gen.py). -/
namespace Go.Proofs.YtmophpgiaiemhaaGreat.Hs
open Go Go.Proofs
set_option maxRecDepth 100000
set_option linter.unusedVariables false
set_option linter.unusedSimpArgs false
attribute [local irreducible] JL J CT wlo DT
theorem longNK_ct : ∀ (x : Nm) (d s : Int) (a : List Value) (H : Heap) (bL bA bD : Nat), RN H a x → H bA = some (.cells ⟨[pp bL 0]⟩ 112 (0, 0)) → H bD = some (.cells ⟨[iv d]⟩ 3 (0, 0)) → 0 ≤ d → d ≤ 100 → (∀ h a, Hle H h → RN h a x → CT Tryz.prog 66 ⟨[pp bL 0, .agg ⟨a⟩, iv (d + 1)]⟩ [(BX bL [iv s] 114)] h (fun v N => v = .bool (cnN stL (d + 1) x s).1 ∧ N = [(BX bL [iv ((cnN stL (d + 1) x s).2)] 114)])) → CT Tryz.prog 114 ⟨[.agg ⟨a⟩, pp bA 0, pp bD 0]⟩ [(BX bL [iv s] 114)] H (fun v N => v = .bool (cnN stL (d + 1) x s).1 ∧ N = [(BX bL [iv ((cnN stL (d + 1) x s).2)] 114)]) := by
 intro x d s a H bL bA bD ra hH1 hH5 hd0 hd1 hg
 refine Zm Tryz.func114 rfl rfl <| Zc <| Za <| JLr (Zo (l := a) rfl rfl fun b1 => JLA rfl <| Zb <| Zc <| Za <| JLr (Ze ty112 rfl (At.im hH1) rfl <| JLr (Zg Ya rfl (At.bx 0 rfl) (Zt (ZV ra)) <| JLr (Ze ty3 rfl (At.im hH5) rfl <| JLn (Pu.add64 rfl rfl (by first | omega | (constructor <;> omega))) <| ZD 1 rfl Tryz.call66 rfl rfl (fun hin => hg _ _ (Hle.hu _ _) (RN.mono (Hle.hu _ _) ra)) rfl ?_))))
 rintro _ _ ⟨rfl, rfl⟩
 refine JLA rfl <| Zb <| Zh <| ⟨.bool ((cnN stL (d + 1) x s).1), [(BX bL [iv ((cnN stL (d + 1) x s).2)] 114)], Ret.one rfl (RV.tmp rfl), (Sk Sub.nil), ?_⟩
 exact ⟨rfl, rfl⟩
theorem longNC_ct : ∀ (c : Pt × List ByteArray × Nm) (d n : Int) (a : List Value) (H : Heap) (bL bA bD bK : Nat), RNC H a c → 0 ≤ n → n ≤ 300 → 0 ≤ d → d ≤ 60 → H bA = some (.cells ⟨[pp bL 0]⟩ 112 (0, 0)) → H bD = some (.cells ⟨[iv d]⟩ 3 (0, 0)) → H bK = some (.cells ⟨[.func (.func 114) ⟨[]⟩ ⟨[pp bA 0, pp bD 0]⟩]⟩ 34 (0, 0)) → (∀ s a h, Hle H h → RN h a c.2.2 → 0 ≤ s → s ≤ 300 → CT Tryz.prog 66 ⟨[pp bL 0, .agg ⟨a⟩, iv (d + 1)]⟩ [(BX bL [iv s] 114)] h (fun v N => v = .bool (cnN stL (d + 1) c.2.2 s).1 ∧ N = [(BX bL [iv ((cnN stL (d + 1) c.2.2 s).2)] 114)])) → CT Tryz.prog 115 ⟨[.agg ⟨a⟩, pp bA 0, pp bD 0, pp bK 0]⟩ [(BX bL [iv n] 114)] H (fun v N => v = .bool (cnNC stL (d + 1) c n).1 ∧ N = [(BX bL [iv ((cnNC stL (d + 1) c n).2)] 114)]) := by
 intro c d n a H bL bA bD bK ⟨ca, va, cb, e1, ra1, ra2, ra3⟩ hn0 hn1 hd0 hd1 hH1 hH5 hH7 hg
 subst e1
 refine Zm Tryz.func115 rfl rfl <| Zc <| Za <| JLr (Zo (l := ca ++ (([va]) ++ cb)) rfl rfl fun b1 => JLA rfl <| Zb <| Zc <| Za <| JLr (Ze ty112 rfl (At.im hH1) rfl <| JLq (pp b1 0) (fa85_0 rfl rfl) <| JLr (Zg Z6 rfl (At.bx 0 rfl) (YE (Zu ra1)) <| JLr (Ze ty3 rfl (At.im hH5) rfl <| JLn (Pu.add64 rfl rfl (by first | omega | (constructor <;> omega))) ?_))))
 refine ZD 1 rfl Tryz.call116 rfl rfl (fun hin => longP_ct _ _ _ _ _ _ (RP.mono (Hle.hu _ _) ra1) (by omega) (by omega) (by omega) (by omega)) rfl ?_
 rintro _ _ ⟨rfl, rfl⟩
 refine JLM rfl ?_
 cases h3 : ((cnP stL (d + 1) (c.1) n).1) with
 | true =>
  iterate 4 refine ZC rfl ?_
  refine JLq (.bool true) (Pu.pickT rfl rfl) <| JLA rfl <| Zb <| Zh <| ⟨.bool true, [(BX bL [iv ((cnP stL (d + 1) (c.1) n).2)] 114)], Ret.one rfl (RV.tmp rfl), (Sk Sub.nil), ?_⟩
  refine ⟨?_, ?_⟩ <;> rw [cnNC, cnC, if_pos h3]
 | false =>
  refine JLr (Ze ty34 rfl (At.im hH7) rfl <| JLq (pp b1 36) (fa85_2 rfl rfl) <| JLr (Zg Ya rfl (At.bx 1 rfl) (Xe (n := 35) (i := 1) (Zu ra1) (Xg rfl (ZV ra3))) <| ZD 0 rfl Tryz.call114 rfl rfl (fun hin => longNK_ct _ d _ _ _ bL bA bD (RN.mono (Hle.hu _ _) ra3) (Hle.hu _ _ _ _ hH1) (Hle.hu _ _ _ _ hH5) (by omega) (by omega) (fun h' a' hh' ra' => hg _ _ _ (Hle.trans (Hle.hu _ _) hh') ra' (XM stL_le _ _ _ hn0 h3).1 (XM stL_le _ _ _ hn0 h3).2)) rfl ?_))
  rintro _ _ ⟨rfl, rfl⟩
  refine JLq (.bool ((cnN stL (d + 1) (c.2.2) ((cnP stL (d + 1) (c.1) n).2)).1)) (Pu.pickF rfl rfl) <| JLA rfl <| Zb <| Zh <| ⟨.bool ((cnN stL (d + 1) (c.2.2) ((cnP stL (d + 1) (c.1) n).2)).1), [(BX bL [iv ((cnN stL (d + 1) (c.2.2) ((cnP stL (d + 1) (c.1) n).2)).2)] 114)], Ret.one rfl (RV.tmp rfl), (Sk Sub.nil), ?_⟩
  refine ⟨?_, ?_⟩ <;> rw [cnNC, cnC, if_neg (by simp [h3])] <;> rfl
theorem longN_ct : ∀ (t : Nm) (d n : Int) (cs : List Value) (H : Heap) (bL : Nat), RN H cs t → 0 ≤ n → n ≤ 300 → 0 ≤ d → d ≤ 61 → CT Tryz.prog 66 ⟨[pp bL 0, .agg ⟨cs⟩, iv d]⟩ [(BX bL [iv n] 114)] H (fun v N => v = .bool (cnN stL d t n).1 ∧ N = [(BX bL [iv ((cnN stL d t n).2)] 114)]) := by
 intro t
 induction t using Nm.ind with
 | h kind num ref ns kids cases ih ih' =>
 intro d n cs H bL ht hn0 hn1 hd0 hd1
 obtain ⟨nv, ks, cv, rfl, hk, hn, hns, hks, hcv⟩ := RN_mk.1 ht
 refine Zm Tryz.func66 rfl rfl <| Zc <| Za <| JLr (Zo (l := [pp bL 0]) rfl rfl fun b1 => JLr (Zo (l := pkN kind num ref nv ks cv) rfl rfl fun b2 => JLr (Zo (l := [iv d]) rfl rfl fun b3 => JLA rfl <| Zb <| Zc <| Zc <| Za <| JLr (Ze ty112 rfl (At.bx 2 rfl) rfl <| JLq (pp bL 0) (Pu.nilCheck rfl) ?_))))
 refine JLq (pp bL 0) (fa114_0 rfl rfl) <| JLr (Ze ty3 rfl (At.bx 3 rfl) rfl <| JLn (Pu.add64 rfl rfl (by first | omega | (constructor <;> omega))) <| JLq (pp bL 0) (Pu.nilCheck rfl) <| JLq (pp bL 0) (fa114_0 rfl rfl) <| JLr (Zd 3 (vs := [iv (n + 1)]) (l := [iv (n + 1)]) ty3 rfl rfl rfl rfl rfl (Zk rfl Zq) rfl <| Zb <| Zc <| Za <| JLr (Ze ty112 rfl (At.bx 2 rfl) rfl <| JLq (pp bL 0) (Pu.nilCheck rfl) <| JLq (pp bL 0) (fa114_0 rfl rfl) <| JLr (Ze ty3 rfl (At.bx 3 rfl) rfl ?_))))
 refine JLn (Pu.gtr rfl rfl) <| JLM rfl <| Zx 2 [21, 22] [(22, cond (decide (300 < n + 1)) undef (.bool (decide (60 < d))))] ?_ fun f5 => ?_
 ·cases h4 : (decide (300 < n + 1)) with
  | false =>
   replace h4 := df h4
   refine JLr (Ze ty3 rfl (At.bx 0 rfl) rfl <| JLn (Pu.gtr rfl rfl) ?_)
   exact Zb ⟨⟨rfl, trivial⟩, rfl⟩
  | true =>
   exact ZG rfl ⟨rfl, trivial⟩
 refine JLn (Pu.pickOr rfl rfl rfl) <| Zb <| Zf rfl (fun h6 => ?_) (fun h6 => ?_)
 ·refine Zc <| Za <| JLA rfl <| Zb <| Zh <| ⟨.bool true, [(BX bL [iv (n + 1)] 114)], Ret.one rfl (RV.tmp rfl), (Sd (Sd (Sd (Sk Sub.nil)))), ?_⟩
  refine ⟨?_, ?_⟩ <;> rw [cnN_eq, if_pos (by simpa [stL] using h6)]
 obtain ⟨h6a, h6b⟩ := orF h6
 replace h6a := df h6a
 replace h6b := df h6b
 refine Zi <| Zc <| Za <| JLq (.func (.func 114) ⟨[]⟩ ⟨[pp b1 0, pp b3 0]⟩) (Pu.makeFunc rfl rfl) <| JLr (Zn (l := [.nilFunc]) Tryz.zeroValue34 rfl fun b7 => JLr (Zd 0 (vs := [.func (.func 114) ⟨[]⟩ ⟨[pp b1 0, pp b3 0]⟩]) (l := [.func (.func 114) ⟨[]⟩ ⟨[pp b1 0, pp b3 0]⟩]) ty34 rfl rfl rfl rfl rfl (Zk rfl Zq) rfl <| Zb <| Zc <| Za <| JLq (pp b2 35) (Xd rfl rfl) <| JLr (Ze ty29 rfl (At.bx 2 rfl) (Xa ..) <| JLr (Ze ty34 rfl (At.bx 0 rfl) rfl <| ZD 4 rfl Tryz.call38 rfl rfl (fun hin => containsN_ct 114 [] [pp b1 0, pp b3 0] (fun _ _ => rfl) (fun n => (BX bL [iv n] 114)) (fun n => 0 ≤ n ∧ n ≤ 300) (cnN stL (d + 1)) _ _ _ (RNs.mono (Hle.hu _ _) hks) (n + 1) ⟨by omega, by omega⟩ (fun x hx s hs hf => cnN_keep stL_le x _ s hs.1 hf) (fun x hx s hs a h hh ra => longNK_ct x d s a h bL b1 b3 ra (hh _ _ (hin 3 _ rfl _ _ List.mem_cons_self)) (hh _ _ (hin 1 _ rfl _ _ List.mem_cons_self)) (by omega) (by omega) (fun h' a' hh' ra' => ih x hx (d + 1) s a' h' bL ra' hs.1 hs.2 (by omega) (by omega)))) rfl ?_))))
 rintro _ _ ⟨rfl, rfl⟩
 refine JLM rfl ?_
 cases h9 : ((ZP (cnN stL (d + 1)) kids (n + 1)).1) with
 | true =>
  iterate 4 refine ZC rfl ?_
  refine JLq (.bool true) (Pu.pickT rfl rfl) <| JLA rfl <| Zb <| Zh <| ⟨.bool true, [(BX bL [iv ((ZP (cnN stL (d + 1)) kids (n + 1)).2)] 114)], Ret.one rfl (RV.tmp rfl), (Sk Sub.nil), ?_⟩
  refine ⟨?_, ?_⟩ <;> rw [cnN_eq, if_neg (by simp [stL]; omega), if_pos h9]
 | false =>
  refine JLq (pp b2 36) (fa32_5 rfl rfl) <| JLr (Ze ty30 rfl (At.bx 3 rfl) (YP ..) <| JLq (.func (.func 115) ⟨[]⟩ ⟨[pp b1 0, pp b3 0, pp b7 0]⟩) (Pu.makeFunc rfl rfl) <| ZD 0 rfl Tryz.call39 rfl rfl (fun hin => containsNC_ct 115 [] [pp b1 0, pp b3 0, pp b7 0] (fun _ _ => rfl) (fun n => (BX bL [iv n] 114)) (fun n => 0 ≤ n ∧ n ≤ 300) (cnNC stL (d + 1)) _ _ _ (RNCs.mono (Hle.hu _ _) hcv) ((ZP (cnN stL (d + 1)) kids (n + 1)).2) (anyN_keep stL_le _ _ _ (by omega) (by omega) h9) (fun x hx s hs hf => cnNC_keep stL_le x _ s hs.1 hf) (fun x hx s hs a h hh ra => longNC_ct x d s a h bL b1 b3 b7 ra hs.1 hs.2 (by omega) (by omega) (hh _ _ (hin 3 _ rfl _ _ List.mem_cons_self)) (hh _ _ (hin 1 _ rfl _ _ List.mem_cons_self)) (hh _ _ (hin 0 _ rfl _ _ List.mem_cons_self)) (fun s' a' h' hh' ra' k1 k2 => ih' x hx (d + 1) s' a' h' bL ra' k1 k2 (by omega) (by omega)))) rfl ?_)
  rintro _ _ ⟨rfl, rfl⟩
  refine JLq (.bool ((ZP (cnNC stL (d + 1)) cases ((ZP (cnN stL (d + 1)) kids (n + 1)).2)).1)) (Pu.pickF rfl rfl) <| JLA rfl <| Zb <| Zh <| ⟨.bool ((ZP (cnNC stL (d + 1)) cases ((ZP (cnN stL (d + 1)) kids (n + 1)).2)).1), [(BX bL [iv ((ZP (cnNC stL (d + 1)) cases ((ZP (cnN stL (d + 1)) kids (n + 1)).2)).2)] 114)], Ret.one rfl (RV.tmp rfl), (Sk Sub.nil), ?_⟩
  refine ⟨?_, ?_⟩ <;> rw [cnN_eq, if_neg (by simp [stL]; omega), if_neg (by simp [h9])]
theorem nameF_ct (n : Int) (s : List ByteArray) (v : Value) (H : Heap) (bF : Nat) (hs : Hs.rdS RS 1 H v s) (hF : H bF = some (.cells ⟨[v]⟩ 28 (0, 0))) : CT Tryz.prog 64 ⟨[iv n, pp bF 0]⟩ [] H (fun v N => v = .bool (decide (n < (s.length : Int))) ∧ N = []) := by
 refine Zm Tryz.func64 rfl rfl <| Zc <| Za <| JLA rfl <| Zb <| Zc <| Za <| JLM rfl <| JLr (Ze Yy rfl (At.im hF) rfl ?_)
 obtain ⟨a1, cap1, hv1⟩ := hs.sl
 have hle1 := hs.le
 refine JLn (Pu.lenSl Tryz.runUnderlying28 hv1) <| JLn (Pu.lss rfl rfl) <| JLA rfl <| Zb <| Zh <| ⟨.bool (decide (n < (s.length : Int))), [], Ret.one rfl (RV.tmp rfl), Sub.nil, ?_⟩
 exact ⟨rfl, rfl⟩
end Go.Proofs.YtmophpgiaiemhaaGreat.Hs
/-! Walks, printed by a program of this session's own (gen.py). -/
namespace Go.Proofs.YtmophpgiaiemhaaGreat.Hs
open Go Go.Proofs
set_option maxRecDepth 100000
set_option linter.unusedVariables false
set_option linter.unusedSimpArgs false
attribute [local irreducible] JL J CT wlo DT
theorem nameG2_ct (t : Tm) (s : List ByteArray) (cs : List Value) (v : Value) (H : Heap) (ht : RT H cs t) (hs : strR H v s) (hsl : s.length ≤ 1000) : CT Tryz.prog 17 ⟨[.agg ⟨cs⟩, v]⟩ [] H (fun r N => ∃ cs k, r = .tuple ⟨[.agg ⟨cs⟩, iv (YJ t s).2]⟩ ∧ N = [k] ∧ ON (YJ t s).1 cs k) := by
 refine Zm Tryz.func17 rfl rfl <| Zc <| Za <| JLr (Zo (l := cs) rfl rfl fun b1 => JLr (Zo (l := [v]) rfl (ZK hs.one) fun b2 => JLr (Zn (l := pkN 0 0 zS nS nS nS) Tryz.zeroValue32 rfl fun b3 => JLA rfl <| Zb <| Zc <| Zc <| Za <| JLr (Zg Zs rfl (At.bx 2 rfl) (Zt (Zv ht)) <| JLr (Zp (vs := [.agg ⟨cs⟩]) [cs] Tryz.runUnderlying24 el27 rfl rfl (by intro e he; simp only [List.mem_cons, List.not_mem_nil, or_false] at he; subst he; exact (Zv ht)) rfl (by decide) fun b4 k4 ho4 hk4 => ?_)))))
 refine Jc Tryz.call61 rfl (fun hin => right_ct _ _ _ (Own.rd1 ho4 (hin 0 _ rfl) (RT.mono (Hle.hu _ _) ht))) rfl ?_
 rintro _ _ ⟨rfl, rfl⟩
 refine JLA rfl <| Zb <| Zc <| Za <| JLM rfl <| JLn (Pu.neq rfl rfl) <| Zb <| Zf rfl (fun h5 => ?_) (fun h5 => ?_)
 ·replace h5 := nt h5
  replace h5 := df h5
  refine Zc <| Za <| JLq (.agg ⟨pkN 0 0 zS nS nS nS⟩) (Pu.build (pv := []) (l := pkN 0 0 zS nS nS nS) rfl (bld32_ )) <| JLM rfl <| JLr (Zd 1 (vs := pkN 0 0 zS nS nS nS) (l := pkN 0 0 zS nS nS nS) Ya rfl rfl rfl rfl rfl (YZ rfl rfl rfl) (pkN_s ..) <| JLA rfl <| Zb <| Zh <| ⟨.tuple ⟨[.agg ⟨pkN 0 0 zS nS nS nS⟩, iv (ZS [t])]⟩, [[]], Ret.two rfl (RV.cell Ya rfl (At.bx 1 rfl) (XA ..)) (RV.tmp rfl), (Sub.emp Sub.nil), ?_⟩)
  have hx : YJ t s = (zN, ZS [t]) := by rw [YJ, if_pos (by assumption)]
  exact ⟨_, _, by rw [hx], rfl, by rw [hx]; exact ON_zero⟩
 replace h5 := nf h5
 replace h5 := dt h5
 refine Zi <| Zc <| Zc <| Za <| JLr (Ze Yy rfl (At.bx 2 rfl) rfl <| Jc Tryz.call62 rfl (fun hin => containsS_ct _ _ _ _ (RSs.mono (Hle.hu _ _) hs.rd)) rfl ?_)
 rintro _ _ ⟨rfl, rfl⟩
 refine Zb <| Zf rfl (fun h6 => ?_) (fun h6 => ?_)
 ·refine Zc <| Za <| JLq (.agg ⟨pkN 0 0 zS nS nS nS⟩) (Pu.build (pv := []) (l := pkN 0 0 zS nS nS nS) rfl (bld32_ )) <| JLr (Zd 1 (vs := pkN 0 0 zS nS nS nS) (l := pkN 0 0 zS nS nS nS) Ya rfl rfl rfl rfl rfl (YZ rfl rfl rfl) (pkN_s ..) <| JLA rfl <| Zb <| Zh <| ⟨.tuple ⟨[.agg ⟨pkN 0 0 zS nS nS nS⟩, iv 4]⟩, [[]], Ret.two rfl (RV.cell Ya rfl (At.bx 1 rfl) (XA ..)) (RV.tmp rfl), (Sub.emp Sub.nil), ?_⟩)
  have hx : YJ t s = (zN, 4) := by rw [YJ, if_neg (fun q => q (by assumption)), if_pos (by assumption)]
  exact ⟨_, _, by rw [hx], rfl, by rw [hx]; exact ON_zero⟩
 refine Zi <| Zc <| Zc <| Za <| JLr (Ze Yy rfl (At.bx 2 rfl) rfl ?_)
 obtain ⟨a7, cap7, hv7⟩ := hs.rd.sl
 have hle7 := hs.rd.le
 refine JLn (Pu.lenSl Tryz.runUnderlying28 hv7) <| JLM rfl <| Zb <| Zl <| ZE (fun k ρ M => ∃ (j : Nat), ρ 2 = pp b1 0 ∧ ρ 3 = pp b2 0 ∧ ρ 4 = pp b3 0 ∧ ρ 5 = iv 0 ∧ ρ 21 = v ∧ ρ 22 = iv ((s.length : Int)) ∧ ρ 23 = iv ((j : Int)) ∧ Sub [k4, (BX b3 (pkN 0 0 zS nS nS nS) 32), (BX b2 [v] 28), (BX b1 cs 27)] M ∧ j ≤ s.length ∧ (s.take j).Nodup ∧ k = s.length - j) _ ⟨0, rfl, rfl, rfl, rfl, rfl, rfl, rfl, (Sk (Sk (Sk (Sk Sub.nil)))), Nat.zero_le _, (by simp), rfl⟩ ?_
 rintro _ ρ8 _ ⟨j, e9, e10, e11, e12, e13, e14, e15, hm16, hj, hnd, rfl⟩
 obtain ⟨ρ17, rfl⟩ := Zr (uc e9 (uc e10 (uc e11 (uc e12 (uc e13 (uc e14 (uc e15 un)))))))
 clear e9 e10 e11 e12 e13 e14 e15
 refine ZJ hm16 <| Zc <| Za <| JLn (Pu.lss rfl rfl) <| Zb <| Zc <| Zf rfl (fun h18 => ?_) (fun h18 => ?_)
 ·replace h18 := dt h18
  have h18n : j < s.length := by omega
  have hlenl := hs.rd.le
  refine Zi <| Zc <| Zl <| Zc <| Za <| JLM rfl ?_
  obtain ⟨b19, o19, cap19, row19, T19, fr19, cs19, hv19, hb19, hs19, hE19⟩ := hs.rd.get j (by first | assumption | omega | decide | simp)
  refine JLq (pp b19 (o19 + j * 1)) (Pu.idx j Tryz.runUnderlying28 ty9 hv19 rfl rfl (by first | assumption | omega | decide | simp)) <| JLr (Ze ty9 rfl (At.im hb19) (Yi ((show cs19 = [Value.string (s[j])] from hE19) ▸ hs19)) <| JLA rfl <| JLA rfl <| Zb <| Zc <| Za <| JLr (Ze Yy rfl (At.bx 2 rfl) rfl <| JLM rfl <| JLr (Runs_takeS (n := j) hs (by first | rfl | omega) (by omega) Tryz.runUnderlying28 Tryz.sizeOf9 rfl rfl fun u20 hu20 => ?_)))
  have hr20 := hu20 _ hs
  refine JLM rfl <| Jc Tryz.call62 rfl (fun hin => containsS_ct _ _ _ _ (RSs.mono (Hle.hu _ _) hr20.rd)) rfl ?_
  rintro _ _ ⟨rfl, rfl⟩
  refine Zb <| Zf rfl (fun h21 => ?_) (fun h21 => ?_)
  ·refine Zc <| Za <| JLq (.agg ⟨pkN 0 0 zS nS nS nS⟩) (Pu.build (pv := []) (l := pkN 0 0 zS nS nS nS) rfl (bld32_ )) <| JLr (Zd 1 (vs := pkN 0 0 zS nS nS nS) (l := pkN 0 0 zS nS nS nS) Ya rfl rfl rfl rfl rfl (YZ rfl rfl rfl) (pkN_s ..) <| JLA rfl <| Zb <| Zh <| ⟨.tuple ⟨[.agg ⟨pkN 0 0 zS nS nS nS⟩, iv 5]⟩, [[]], Ret.two rfl (RV.cell Ya rfl (At.bx 1 rfl) (XA ..)) (RV.tmp rfl), (Sub.emp Sub.nil), ?_⟩)
   have hx : YJ t s = (zN, 5) := by rw [YJ, if_neg (fun q => q (by assumption)), if_neg (by rw [show s.any (fun y => decide (emS = y)) = false by assumption]; decide), if_pos (dup_mem h18n h21)]
   exact ⟨_, _, by rw [hx], rfl, by rw [hx]; exact ON_zero⟩
  refine Zi <| Za <| JLn (Pu.inc rfl rfl (by omega)) <| JLM rfl <| Zb <| ⟨_, ?_, (j + 1), rfl, rfl, rfl, rfl, rfl, rfl, rfl, (Sk (Sk (Sk (Sk Sub.nil)))), ?_, ?_, rfl⟩
  ·omega
  ·omega
  exact nodup_take h18n hnd h21
 replace h18 := df h18
 have h18n : s.length ≤ j := by omega
 refine Zy _ rfl <| Zc <| Za <| JLr (Zg Zs rfl (At.bx 3 rfl) (Zt (Zv ht)) <| Jc Tryz.call49 rfl (fun hin => freeE_ct _ _ _ (RT.mono (Hle.hu _ _) ht)) rfl ?_)
 rintro _ _ ⟨u22, e22, k22, rfl, rfl, ho22, rfl⟩
 have hfe22 : freeE t = (XI t, 0) := by rw [freeE, if_pos (by assumption)]
 replace ho22 : Own 3 1 u22 (ints (XI t)) k22 := by rw [hfe22] at ho22; exact ho22
 rw [hfe22]
 refine JLM rfl <| JLn (Pu.extract rfl rfl) <| JLn (Pu.extract rfl rfl) <| JLa u22 <| JLA rfl <| Zb <| Zc <| Zc <| Za <| JLm u22 <| JLq (.func (.func 64) ⟨[]⟩ ⟨[pp b2 0]⟩) (Pu.makeFunc rfl rfl) <| Jc Tryz.call63 rfl (fun hin => every_ct 64 [] [pp b2 0] Tryz.call64 (fun n => decide (n < (s.length : Int))) _ _ _ (own_ints ho22 (by have := freeP_len t; omega) (hin 0 _ rfl)) (fun x hx h hh => nameF_ct x s v h b2 (RSs.mono (Hle.trans (Hle.hu _ _) hh) hs.rd) (hh _ _ (hin 3 _ rfl _ _ List.mem_cons_self)))) rfl ?_
 rintro _ _ ⟨rfl, rfl⟩
 refine JLn (Pu.not rfl) <| Zb <| Zf rfl (fun h23 => ?_) (fun h23 => ?_)
 ·replace h23 := nt h23
  refine Zc <| Za <| JLq (.agg ⟨pkN 0 0 zS nS nS nS⟩) (Pu.build (pv := []) (l := pkN 0 0 zS nS nS nS) rfl (bld32_ )) <| JLr (Zd 2 (vs := pkN 0 0 zS nS nS nS) (l := pkN 0 0 zS nS nS nS) Ya rfl rfl rfl rfl rfl (YZ rfl rfl rfl) (pkN_s ..) <| JLA rfl <| Zb <| Zh ?_)
  have hnd_ : s.Nodup := by rw [List.take_of_length_le h18n] at hnd; exact hnd
  refine ⟨.tuple ⟨[.agg ⟨pkN 0 0 zS nS nS nS⟩, iv 1]⟩, [[]], Ret.two rfl (RV.cell Ya rfl (At.bx 2 rfl) (XA ..)) (RV.tmp rfl), (Sub.emp Sub.nil), ?_⟩
  have hx : YJ t s = (zN, 1) := by rw [YJ, if_neg (fun q => q (by assumption)), if_neg (by rw [show s.any (fun y => decide (emS = y)) = false by assumption]; decide), if_neg (fun q => q hnd_), if_neg (by rw [show (XI t).all (fun n => decide (n < (s.length : Int))) = false by assumption]; decide)]
  exact ⟨_, _, by rw [hx], rfl, by rw [hx]; exact ON_zero⟩
 replace h23 := nf h23
 refine Zi <| Zc <| Za <| JLr (Zg Zs rfl (At.bx 4 rfl) (Zt (Zv ht)) <| JLr (Ze Yy rfl (At.bx 3 rfl) rfl <| Jc Tryz.call65 rfl (fun hin => namedG_ct _ _ _ _ _ (RT.mono (Hle.hu _ _) ht) (RSs.mono (Hle.hu _ _) hs.rd) (free_sc (by assumption) h23) (by have := (Yz (rightT1 (t := t) (by assumption))).1; omega)) rfl ?_))
 rintro _ _ ⟨cs24, k24, rfl, rfl, hO24⟩
 refine JLr (Zd 3 (vs := cs24) (l := cs24) Ya rfl rfl rfl rfl hO24.len hO24.ok (ZM (n := 37) rfl hO24.len) <| JLA rfl <| Zb <| Zh ?_)
 have hnd_ : s.Nodup := by rw [List.take_of_length_le h18n] at hnd; exact hnd
 refine ⟨.tuple ⟨[.agg ⟨cs24⟩, iv 0]⟩, [k24], Ret.two rfl (RV.cell Ya rfl (At.bx 3 rfl) (Zt hO24.len)) (RV.tmp rfl), (Sk Sub.nil), ?_⟩
 have hx : YJ t s = (nmT t s, 0) := by rw [YJ, if_neg (fun q => q (by assumption)), if_neg (by rw [show s.any (fun y => decide (emS = y)) = false by assumption]; decide), if_neg (fun q => q hnd_), if_pos h23]
 exact ⟨_, _, by rw [hx], rfl, by rw [hx]; exact hO24⟩
end Go.Proofs.YtmophpgiaiemhaaGreat.Hs
/-! Walks, printed by a program of this session's own (gen.py). -/
namespace Go.Proofs.YtmophpgiaiemhaaGreat.Hs
open Go Go.Proofs
set_option maxRecDepth 100000
set_option linter.unusedVariables false
set_option linter.unusedSimpArgs false
attribute [local irreducible] JL J CT wlo DT
set_option maxHeartbeats 4000000 in
theorem namelessI_ct : ∀ (n : Nm) (s : List ByteArray) (cs : List Value) (v : Value) (H : Heap), RN H cs n → Hs.rdS RS 1 H v s → s.length + 2 * sizeT (skN n) ≤ 1000000 → CT Tryz.prog 67 ⟨[.agg ⟨cs⟩, v]⟩ [] H (fun r N => ∃ cs k, r = .tuple ⟨[.agg ⟨cs⟩, iv (nlT n s).2]⟩ ∧ N = [k] ∧ OT (nlT n s).1 cs k) := by
 intro n
 induction n using Nm.ind with
 | h kind num ref ns kids cases ih ih' =>
 intro s cs v H ht hs hz
 obtain ⟨nv, ks, cv, rfl, hk, hn, hns, hks, hcv⟩ := RN_mk.1 ht
 have hkl := Xx (Y9 kids)
 have hcl := Xy (YF cases)
 rw [sk_len] at hkl
 rw [skC_len] at hcl
 rw [skN, sizeT] at hz
 refine Zm Tryz.func67 rfl rfl <| Zc <| Za <| JLr (Zo (l := pkN kind num ref nv ks cv) rfl rfl fun b1 => JLr (Zn (l := pkT 0 0 zS nS nS) Tryz.zeroValue27 rfl fun b2 => JLA rfl <| Zb <| Zc <| Za <| JLA rfl <| Zb <| Zc <| Zl ?_))
 refine Zc ?_
 cases h3 : (decide ((ns.length : Int) = Ys kind kids.length)) with
 | true =>
  replace h3 := dt h3
  refine ZF mixed #[0, 1, 3, 0, 8, 31, 63, 127, 255, 127, 1023, 2047, 4095, 8191] 10 [some 20, some 21, some 22, some 23, some 24, some 25, some 26, some 27, some 28, some 29] [] [(4, fun _ _ vw qw => vw = iv (Ys kind kids.length) ∧ qw = [])] rfl (by kernel_rfl) rfl (by kernel_rfl) <| Dq (pp b1 34) (fun _ => Y2 rfl rfl) <| Dl1 Yy (At.bx 1 rfl) (Xw ..) ?_
  obtain ⟨a5, cap5, hv5⟩ := hns.rd.sl
  have hle5 := hns.rd.le
  refine Dn (fun _ => Pu.lenSl Tryz.runUnderlying28 hv5) <| Dl Ya (At.bx 1 rfl) (XA ..) <| Dc rfl Tryz.call118 (fun _ => rfl) (fun hin => manyN_ct (.mk kind num ref ns kids cases) _ _ (RN.mono (Hle.hu _ _) (RN_mk.2 ⟨_, _, _, rfl, hk, hn, hns, hks, hcv⟩)) (show kids.length ≤ 1000000 by omega)) ?_
  rintro _ _ ⟨rfl, rfl⟩
  refine Dq (.bool false) (fun _ => (Pu.neq rfl rfl).cast (by rw [decide_eq_true h3]; rfl)) <| DM (fun _ => rfl) <| Dq (pp b1 36) (fun _ => fa32_5 rfl rfl) <| Dl1 ty30 (At.bx 1 rfl) (YP ..) <| DM (fun _ => rfl) <| ZL (M' := [(BX b2 (pkT 0 0 zS nS nS) 27), (BX b1 (pkN kind num ref nv ks cv) 32)]) rfl ?_
  show JL _ _ _ [_, _, _, _] _ _ _
  refine Jc Tryz.call119 rfl (fun hin => everyNC_ct 117 [] [] Tryz.call117 fitC _ _ _ (RNCs.mono (Hle.hu _ _) hcv) (fun x hx a h hh ra => by obtain ⟨ca, va, cb, rfl, q1, q2, q3⟩ := ra; exact fits_ct x ca cb va h q1 q2 q3 (by have e1 := skC_mem _ x hx; have e2 := YS x.1; omega))) rfl ?_
  rintro _ _ ⟨rfl, rfl⟩
  refine JLn (Pu.not rfl) <| JLq (.bool (!(cases.all fitC))) (Pu.pickF rfl rfl) <| JLA rfl <| Zb <| Zf rfl (fun h6 => ?_) (fun h6 => ?_)
  ·replace h6 := nt h6
   refine Zc <| Za <| JLq (.agg ⟨pkT 0 0 zS nS nS⟩) (Pu.build (pv := []) (l := pkT 0 0 zS nS nS) rfl (YR )) <| JLr (Zd 0 (vs := pkT 0 0 zS nS nS) (l := pkT 0 0 zS nS nS) Zs rfl rfl rfl rfl rfl (ZI rfl rfl) (Yk ..) <| JLA rfl <| Zb <| Zh <| ⟨.tuple ⟨[.agg ⟨pkT 0 0 zS nS nS⟩, iv 2]⟩, [[]], Ret.two rfl (RV.cell Zs rfl (At.bx 0 rfl) (Z9 ..)) (RV.tmp rfl), (Sub.emp Sub.nil), ?_⟩)
   have hx : nlT (.mk kind num ref ns kids cases) s = (zT, 2) := nl_e2b (by assumption)
   exact ⟨_, _, by rw [hx], rfl, by rw [hx]; exact YA⟩
  replace h6 := nf h6
  refine Zc <| Za <| JLq (pp b1 0) (fa32_0 rfl rfl) <| JLr (Ze ty3 rfl (At.bx 1 rfl) (pkN_0 ..) <| JLn (Pu.eql rfl rfl) <| JLM rfl <| Zx 3 [39, 40, 41] [(41, cond (decide (kind = 1)) (.bool (!decide (num = 0))) undef)] ?_ fun f8 => ?_)
  ·cases h7 : (decide (kind = 1)) with
   | true =>
    replace h7 := dt h7
    refine JLq (pp b1 1) (fa32_1 rfl rfl) <| JLr (Ze ty3 rfl (At.bx 1 rfl) (pkN_1 ..) <| JLn (Pu.neq rfl rfl) ?_)
    exact Zb ⟨⟨rfl, trivial⟩, rfl⟩
   | false =>
    exact ZG rfl ⟨rfl, trivial⟩
  refine JLn (Pu.pickAnd rfl rfl rfl) <| JLA rfl <| Zb <| Zf rfl (fun h9 => ?_) (fun h9 => ?_)
  ·obtain ⟨h9a, h9b⟩ := Yr h9
   replace h9a := dt h9a
   replace h9b := nt h9b
   replace h9b := df h9b
   refine Zc <| Za <| JLq (.agg ⟨pkT 0 0 zS nS nS⟩) (Pu.build (pv := []) (l := pkT 0 0 zS nS nS) rfl (YR )) <| JLr (Zd 0 (vs := pkT 0 0 zS nS nS) (l := pkT 0 0 zS nS nS) Zs rfl rfl rfl rfl rfl (ZI rfl rfl) (Yk ..) <| JLA rfl <| Zb <| Zh ?_)
   have hq1_ := h3
   have hq2_ : cases.all fitC = true := by assumption
   refine ⟨.tuple ⟨[.agg ⟨pkT 0 0 zS nS nS⟩, iv 7]⟩, [[]], Ret.two rfl (RV.cell Zs rfl (At.bx 0 rfl) (Z9 ..)) (RV.tmp rfl), (Sub.emp Sub.nil), ?_⟩
   have hx : nlT (.mk kind num ref ns kids cases) s = (zT, 7) := nl_e7 hq1_ hq2_ (by have q := h9; simpa using q)
   exact ⟨_, _, by rw [hx], rfl, by rw [hx]; exact YA⟩
  refine Zi <| Zc ?_
  have hq1 := h3
  have hq2 : cases.all fitC = true := by assumption
  have hq3 : ¬ (kind = 1 ∧ ¬ num = 0) := by intro q; have q2 := h9; simp [q.1, q.2] at q2
  refine Za <| JLq (pp b1 0) (fa32_0 rfl rfl) <| JLr (Ze ty3 rfl (At.bx 1 rfl) (pkN_0 ..) <| JLq (pp b1 1) (fa32_1 rfl rfl) <| JLr (Ze ty3 rfl (At.bx 1 rfl) (pkN_1 ..) <| JLq (pp b1 2) (fa32_2 rfl rfl) <| JLr (Zg Xm rfl (At.bx 1 rfl) (pkN_2 ..) <| JLq (.agg ⟨pkT kind num ref nS nS⟩) (Pu.build (pv := [(0, iv kind), (1, iv num), (2, .agg ⟨sC ref⟩)]) (l := pkT kind num ref nS nS) rfl (bld27_0_1_2 _ _ _)) <| JLr (Zn (l := pkT 0 0 zS nS nS) Tryz.zeroValue27 rfl fun b10 => JLr (Zd 0 (vs := pkT kind num ref nS nS) (l := pkT kind num ref nS nS) Zs rfl rfl rfl rfl rfl (ZI rfl rfl) (Yk ..) <| Zb <| Zc <| Zc ?_)))))
  refine Za <| JLq (pp b1 0) (fa32_0 rfl rfl) <| JLr (Ze ty3 rfl (At.bx 2 rfl) (pkN_0 ..) <| JLn (Pu.eql rfl rfl) <| Zb <| J_weak (N := fun ρ M => ∃ (qx : Int), (qx = (if kind = 1 then YN (ns.getD 0 ltr0) s 0 else num)) ∧ (¬ (kind = 1 ∧ YN (ns.getD 0 ltr0) s 0 < 0)) ∧ (inI qx) ∧ ρ 1 = v ∧ ρ 2 = pp b1 0 ∧ ρ 4 = pp b2 0 ∧ ρ 5 = iv 0 ∧ ρ 7 = pp b10 0 ∧ M = [(BX b10 (pkT kind qx ref nS nS) 27), (BX b2 (pkT 0 0 zS nS nS) 27), (BX b1 (pkN kind num ref nv ks cv) 32)]) ?_ ?_)
  ·refine Zf rfl (fun h11 => ?_) (fun h11 => ?_)
   ·replace h11 := dt h11
    refine Zc ?_
    have hk1 : kind = 1 := h11
    have hns1 : 0 < ns.length := by rw [hk1, many_one] at hq1; omega
    have hg0 := getD0 hns1
    refine Za <| JLm v <| JLq (pp b1 34) (Y2 rfl rfl) <| JLr (Ze Yy rfl (At.bx 2 rfl) (Xw ..) ?_)
    obtain ⟨b12, o12, cap12, row12, T12, fr12, cs12, hv12, hb12, hs12, hE12⟩ := hns.rd.get 0 (by first | assumption | omega | decide | simp)
    refine JLq (pp b12 (o12 + 0 * 1)) (Pu.idx 0 Tryz.runUnderlying28 ty9 hv12 rfl rfl (by first | assumption | omega | decide | simp)) <| JLr (Ze ty9 rfl (At.im hb12) (Yi ((show cs12 = [Value.string (ns[0])] from hE12) ▸ hs12)) <| Jc Tryz.call120 rfl (fun hin => idxSc_ct _ _ _ _ (RSs.mono (Hle.hu _ _) hs)) rfl ?_)
    rintro _ _ ⟨rfl, rfl⟩
    refine JLq (pp b10 1) (ZZ rfl rfl) <| JLr (Zd 0 (vs := [iv (YN (ns[0]) s 0)]) (l := pkT kind (YN (ns[0]) s 0) ref nS nS) ty3 rfl rfl rfl rfl rfl (Zk rfl Zq) (pkT_s1 ..) <| Zb <| Zc <| Za <| JLq (pp b10 1) (ZZ rfl rfl) <| JLr (Ze ty3 rfl (At.bx 0 rfl) (Yh ..) <| JLn (Pu.lss rfl rfl) <| Zb <| Zf rfl (fun h13 => ?_) (fun h13 => ?_)))
    ·replace h13 := dt h13
     refine Zc <| Za <| JLq (.agg ⟨pkT 0 0 zS nS nS⟩) (Pu.build (pv := []) (l := pkT 0 0 zS nS nS) rfl (YR )) <| JLr (Zd 1 (vs := pkT 0 0 zS nS nS) (l := pkT 0 0 zS nS nS) Zs rfl rfl rfl rfl rfl (ZI rfl rfl) (Yk ..) <| JLA rfl <| Zb <| Zh <| ⟨.tuple ⟨[.agg ⟨pkT 0 0 zS nS nS⟩, iv 1]⟩, [[]], Ret.two rfl (RV.cell Zs rfl (At.bx 1 rfl) (Z9 ..)) (RV.tmp rfl), (Sub.emp Sub.nil), ?_⟩)
     have hx : nlT (.mk kind num ref ns kids cases) s = (zT, 1) := nl_e1 hq1 hq2 hq3 ⟨hk1, by rw [hg0]; exact h13⟩
     exact ⟨_, _, by rw [hx], rfl, by rw [hx]; exact YA⟩
    replace h13 := df h13
    refine Zi ?_
    exact ⟨(YN (ns[0]) s 0), (by rw [if_pos hk1, hg0]), (fun q => h13 (by rw [← hg0]; exact q.2)), (by have hfb := fstS_bound ns[0] s 0; unfold inI; omega), rfl, rfl, rfl, rfl, rfl, rfl⟩
   replace h11 := df h11
   refine Zi ?_
   exact ⟨num, (if_neg h11).symm, (fun q => h11 q.1), hn, rfl, rfl, rfl, rfl, rfl, rfl⟩
  rintro ρ14 _ ⟨qx, hqx, hq4, hnx, e15, e16, e17, e18, e19, rfl⟩
  obtain ⟨ρ20, rfl⟩ := Zr (uc e15 (uc e16 (uc e17 (uc e18 (uc e19 un)))))
  clear e15 e16 e17 e18 e19
  refine Zc <| Za <| JLq (pp b1 34) (Y2 rfl rfl) <| JLr (Ze Yy rfl (At.bx 2 rfl) (Xw ..) <| JLa nv <| Zb <| Zc <| Zc <| Za <| JLq (pp b1 35) (Xd rfl rfl) <| JLr (Ze ty29 rfl (At.bx 2 rfl) (Xa ..) ?_))
  obtain ⟨a21, cap21, hv21⟩ := hks.sl
  have hle21 := hks.le
  refine JLn (Pu.lenSl Tryz.runUnderlying29 hv21) <| JLM rfl <| Zb <| Zl <| ZE (fun k ρ M => ∃ (j : Nat) (nj : List ByteArray) (nw : Value) (ts : List Tm) (w : Value) (es : List (List Value)) (k1 k2 : Zj), ρ 1 = v ∧ ρ 2 = pp b1 0 ∧ ρ 4 = pp b2 0 ∧ ρ 5 = iv 0 ∧ ρ 7 = pp b10 0 ∧ ρ 8 = nw ∧ ρ 68 = ks ∧ ρ 69 = iv ((kids.length : Int)) ∧ ρ 70 = iv ((j : Int)) ∧ Sub [(BX b10 (pkT kind qx ref w nS) 27), k1, k2, (BX b2 (pkT 0 0 zS nS nS) 27), (BX b1 (pkN kind num ref nv ks cv) 32)] M ∧ j ≤ kids.length ∧ strR H nw nj ∧ Own 27 36 w es k1 ∧ OTs ts es k2 ∧ XF kind s ns 0 kids = (ts ++ (XF kind s nj j (kids.drop j)).1, (XF kind s nj j (kids.drop j)).2) ∧ ts.length = j ∧ k = kids.length - j) _ ⟨0, ns, nv, [], nS, [], [], [], rfl, rfl, rfl, rfl, rfl, rfl, rfl, rfl, rfl, (Sk (Sub.emp (Sub.emp (Sk (Sk Sub.nil))))), Nat.zero_le _, hns, Own.nil, OTs.nil, rfl, rfl, rfl⟩ ?_
  rintro _ ρ22 _ ⟨j, nj, nw, ts, w, es, k1, k2, e23, e24, e25, e26, e27, e28, e29, e30, e31, hm32, hj, hnj, ho1, hop, hinv, hlt, rfl⟩
  obtain ⟨ρ33, rfl⟩ := Zr (uc e23 (uc e24 (uc e25 (uc e26 (uc e27 (uc e28 (uc e29 (uc e30 (uc e31 un)))))))))
  clear e23 e24 e25 e26 e27 e28 e29 e30 e31
  refine ZJ hm32 <| Zc <| Za <| JLn (Pu.lss rfl rfl) <| Zb <| Zc <| Zf rfl (fun h34 => ?_) (fun h34 => ?_)
  ·replace h34 := dt h34
   have h34n : j < kids.length := by omega
   have hz1 := sk_mem _ _ (List.getElem_mem h34n)
   have hm1 := Xu kind j
   have hel := OTs_len hop
   refine Zi <| Zc <| Zl <| Zc <| Za <| JLM rfl ?_
   obtain ⟨b35, o35, cap35, row35, T35, fr35, cs35, hv35, hb35, hs35, hE35⟩ := hks.get j (by first | assumption | omega | decide | simp)
   refine JLq (pp b35 (o35 + j * 37)) (Pu.idx j Tryz.runUnderlying29 Ya hv35 rfl rfl (by first | assumption | omega | decide | simp)) <| JLr (Zg Ya rfl (At.im hb35) hs35 <| JLr (Zn (l := pkN 0 0 zS nS nS nS) Tryz.zeroValue32 rfl fun b36 => JLA rfl <| JLr (Zd 0 (vs := cs35) (l := cs35) Ya rfl rfl rfl rfl (ZV hE35) (RN_ok hE35) (ZM (n := 37) rfl (ZV hE35)) <| Zb <| Zc <| Za <| JLm v <| JLa v <| Zb <| Zc <| Zc ?_)))
   refine Za <| JLq (pp b1 0) (fa32_0 rfl rfl) <| JLr (Ze ty3 rfl (At.bx 5 rfl) (pkN_0 ..) <| JLM rfl <| Jc Tryz.call111 rfl (fun hin => more_ct _ _ _) rfl ?_)
   rintro _ _ ⟨rfl, rfl⟩
   refine JLA rfl <| Zb <| Zc <| Za <| JLM rfl <| JLn (Pu.gtr rfl rfl) <| JLM rfl <| Zx 4 [83, 84, 85, 86] [(86, cond (decide (0 < ZB kind ((j : Int)))) (.bool (decide (ZB kind ((j : Int)) ≤ (nj.length : Int)))) undef)] ?_ fun f39 => ?_
   ·cases h37 : (decide (0 < ZB kind ((j : Int)))) with
    | true =>
     replace h37 := dt h37
     refine JLM rfl <| JLm nw ?_
     obtain ⟨a38, cap38, hv38⟩ := hnj.rd.sl
     have hle38 := hnj.rd.le
     refine JLn (Pu.lenSl Tryz.runUnderlying28 hv38) <| JLn (Pu.leq rfl rfl) ?_
     exact Zb ⟨⟨rfl, trivial⟩, rfl⟩
    | false =>
     exact ZG rfl ⟨rfl, trivial⟩
   refine JLn (Pu.pickAnd rfl rfl rfl) <| Zb <| Zf rfl (fun h40 => ?_) (fun h40 => ?_)
   ·obtain ⟨h40a, h40b⟩ := Yr h40
    replace h40a := dt h40a
    replace h40b := dt h40b
    refine ZF mixed #[0, 0, 0, 6, 15, 0, 0, 96, 31, 511] 9 [some 88, some 89, some 90, some 91, some 92, some 93, some 94, some 95, some 11] [] [(3, fun _ _ vw qw => qw = [] ∧ ∀ h, strR h nw nj → strR h vw (nj.take ((ZB kind (j : Int)).toNat))), (4, fun _ _ vw qw => ∃ u k, vw = u ∧ qw = [k] ∧ Own 9 1 u (Z0 ((nj.take ((ZB kind (j : Int)).toNat)).reverse ++ s)) k), (7, fun _ _ vw qw => qw = [] ∧ ∀ h, strR h nw nj → strR h vw (nj.drop ((ZB kind (j : Int)).toNat)))] rfl (by kernel_rfl) rfl (by kernel_rfl) <| Dm v <| Dm nw <| DM (fun _ => rfl) <| Dr rfl (fun _ => Runs_takeS (n := (ZB kind (j : Int)).toNat) hnj (by first | rfl | omega) (by omega) Tryz.runUnderlying28 Tryz.sizeOf9 rfl rfl fun u h1 => ⟨[], by rw [ZR rfl]; exact Sub.refl, rfl, h1⟩) ?_; rintro u44 _ ⟨rfl, hu44⟩
    have hr44 := hu44 _ hnj
    refine Dc rfl Tryz.call121 (fun _ => rfl) (fun hin => with_ct _ _ _ _ _ (RSs.mono (Hle.hu _ _) hs) (RSs.mono (Hle.hu _ _) hr44.rd) (by first | (rw [List.length_take]; omega) | (rw [fit_mem hq2 (List.getElem_mem ‹_›)]; omega) | omega)) ?_
    rintro u45 _ ⟨_, k45, hu45, rfl, ho45⟩; subst hu45
    replace ho45 : Own 9 1 u45 (Z0 (ZY s (nj.take ((ZB kind (j : Int)).toNat)))) k45 := ho45
    refine Dm nw <| DM (fun _ => rfl) <| Dr rfl (fun _ => Runs_dropS (n := (ZB kind (j : Int)).toNat) hnj (by first | rfl | omega) (by omega) Tryz.runUnderlying28 Tryz.sizeOf9 rfl rfl fun u h1 => ⟨[], by rw [ZR rfl]; exact Sub.refl, rfl, h1⟩) ?_; rintro u46 _ ⟨rfl, hu46⟩
    have hr46 := hu46 _ hnj
    refine Dq u45 (fun _ => Pu.assign rfl) <| ZL (M' := [k45, (BX b36 cs35 32), (BX b10 (pkT kind qx ref w nS) 27), k1, k2, (BX b2 (pkT 0 0 zS nS nS) 27), (BX b1 (pkN kind num ref nv ks cv) 32)]) rfl ?_
    show JL _ _ _ [_] _ _ _
    refine JLa u46 <| Zb <| Zc <| Za <| JLr (Zg Ya rfl (At.bx 1 rfl) (Zt (ZV hE35)) <| JLm u45 <| Jc Tryz.call67 rfl (fun hin => ih _ (List.getElem_mem h34n) _ _ _ _ (RN.mono (Hle.hu _ _) hE35) (Yc ho45 (by first | omega | (simp only [ZW, List.length_take, List.length_append]; omega)) (hin 0 _ rfl)) (by rw [ZW, List.length_take]; omega)) rfl ?_)
    rintro _ _ ⟨cs47, k47, rfl, rfl, hO47⟩
    refine JLM rfl <| JLn (Pu.extract rfl rfl) <| JLn (Pu.extract rfl rfl) <| JLr (Zn (l := pkT 0 0 zS nS nS) Tryz.zeroValue27 rfl fun b48 => JLr (Zd 0 (vs := cs47) (l := cs47) Zs rfl rfl rfl rfl hO47.len hO47.ok (ZM (n := 36) rfl hO47.len) <| JLA rfl <| Zb <| Zc <| Zc <| Za <| JLM rfl <| JLn (Pu.neq rfl rfl) <| Zb ?_))
    refine Zf rfl (fun h49 => ?_) (fun h49 => ?_)
    ·replace h49 := nt h49
     replace h49 := df h49
     refine Zc <| Za <| JLq (.agg ⟨pkT 0 0 zS nS nS⟩) (Pu.build (pv := []) (l := pkT 0 0 zS nS nS) rfl (YR )) <| JLM rfl <| JLr (Zd 7 (vs := pkT 0 0 zS nS nS) (l := pkT 0 0 zS nS nS) Zs rfl rfl rfl rfl rfl (ZI rfl rfl) (Yk ..) <| JLA rfl <| Zb <| Zh <| ⟨.tuple ⟨[.agg ⟨pkT 0 0 zS nS nS⟩, iv ((nlT (kids[j]) (ZY s (nj.take ((ZB kind (j : Int)).toNat)))).2)]⟩, [[]], Ret.two rfl (RV.cell Zs rfl (At.bx 7 rfl) (Z9 ..)) (RV.tmp rfl), (Sub.emp Sub.nil), ?_⟩)
     have hio := in_pos (k := kind) (s := s) (ns := nj) (i := j) (by omega) (by omega)
     rw [nlKs_cons h34n, hio.1, hio.2, if_pos (by assumption)] at hinv
     have hx := nl_eK (r := ref) hq1 hq2 hq3 hq4 (by rw [hinv]; assumption)
     rw [hinv] at hx
     exact ⟨_, _, by rw [hx], rfl, by rw [hx]; exact YA⟩
    replace h49 := nf h49
    replace h49 := dt h49
    refine Zi <| Za <| JLq (pp b10 34) (Z8 rfl rfl) <| JLr (Ze YW rfl (At.bx 4 rfl) (Yb ..) <| JLr (Zg Zs rfl (At.bx 0 rfl) (Zt hO47.len) <| JLr (Zp (vs := [.agg ⟨cs47⟩]) [cs47] Tryz.runUnderlying24 el27 rfl rfl (by intro e he; simp only [List.mem_cons, List.not_mem_nil, or_false] at he; subst he; exact hO47.len) rfl (by decide) fun b50 k50 ho50 hk50 => ?_)))
    have hlens51 : ∀ e ∈ ([cs47] : List (List Value)), List.length e = 36 := by
     intro e he; simp only [List.mem_cons, List.not_mem_nil, or_false] at he
     rcases he with rfl
     ·exact hO47.len
    have hoks51 : ∀ e ∈ ([cs47] : List (List Value)), okc e := by
     intro e he; simp only [List.mem_cons, List.not_mem_nil, or_false] at he
     rcases he with rfl
     ·exact hO47.ok
    refine JLr (ZA (i := 6) (n := 1) (es' := [cs47]) Tryz.runUnderlying24 Tryz.runUnderlying24 (Or.inl rfl) el27 rfl rfl rfl ho1 (fun F w m => Src.row (((At.k 0 rfl (by rw [hk50]; exact List.mem_cons_self))).heap m) (Zt (Zz hlens51))) rfl hlens51 hoks51 (by decide) (by omega) fun v51 k51 ho51 => JLq (pp b10 34) (Z8 rfl rfl) <| JLr (Zd 5 (vs := [v51]) (l := pkT kind qx ref v51 nS) YW rfl rfl rfl (ZK ho51.one) rfl (Zk ho51.one Zq) (pkT_s34 ..) <| Zb <| Za <| JLn (Pu.inc rfl rfl (by omega)) <| JLM rfl <| Zb <| ⟨_, ?_, (j + 1), (nj.drop ((ZB kind (j : Int)).toNat)), u46, (ts ++ [(nlT (kids[j]) (ZY s (nj.take ((ZB kind (j : Int)).toNat)))).1]), v51, (es ++ [cs47]), k51, (k2 ++ k47), rfl, rfl, rfl, rfl, rfl, rfl, rfl, rfl, rfl, (Sd (Sd (Sub.cons 3 rfl (Sub.cons 3 rfl (Sub.join (Sub.cons 3 rfl (Sk (Sd (Sd (Sk (Sk Sub.nil))))))))))), ?_, ?_, ?_, ?_, ?_, ?_, rfl⟩))
    ·omega
    ·omega
    ·exact hr46
    ·exact ho51
    ·exact OTs.snoc hO47 hop
    ·have hio := in_pos (k := kind) (s := s) (ns := nj) (i := j) (by omega) (by omega); rw [nlKs_cons h34n, hio.1, hio.2, if_neg (fun q => q (by assumption))] at hinv; rw [hinv]; simp
    simp [hlt]
   refine Zi <| Zc ?_
   have hng : ¬ (0 < ZB kind (j : Int) ∧ (ZB kind (j : Int)).toNat ≤ nj.length) := by rintro ⟨q1, q2⟩; have q3 : (ZB kind (j : Int)) ≤ (nj.length : Int) := (by omega); have q4 := h40; simp [q1, q3] at q4
   refine Za <| JLr (Zg Ya rfl (At.bx 0 rfl) (Zt (ZV hE35)) <| JLm v <| Jc Tryz.call67 rfl (fun hin => ih _ (List.getElem_mem h34n) _ _ _ _ (RN.mono (Hle.hu _ _) hE35) (RSs.mono (Hle.hu _ _) hs) (by omega)) rfl ?_)
   rintro _ _ ⟨cs52, k52, rfl, rfl, hO52⟩
   refine JLM rfl <| JLn (Pu.extract rfl rfl) <| JLn (Pu.extract rfl rfl) <| JLr (Zn (l := pkT 0 0 zS nS nS) Tryz.zeroValue27 rfl fun b53 => JLr (Zd 0 (vs := cs52) (l := cs52) Zs rfl rfl rfl rfl hO52.len hO52.ok (ZM (n := 36) rfl hO52.len) <| JLA rfl <| Zb <| Zc <| Zc <| Za <| JLM rfl <| JLn (Pu.neq rfl rfl) <| Zb ?_))
   refine Zf rfl (fun h54 => ?_) (fun h54 => ?_)
   ·replace h54 := nt h54
    replace h54 := df h54
    refine Zc <| Za <| JLq (.agg ⟨pkT 0 0 zS nS nS⟩) (Pu.build (pv := []) (l := pkT 0 0 zS nS nS) rfl (YR )) <| JLM rfl <| JLr (Zd 6 (vs := pkT 0 0 zS nS nS) (l := pkT 0 0 zS nS nS) Zs rfl rfl rfl rfl rfl (ZI rfl rfl) (Yk ..) <| JLA rfl <| Zb <| Zh <| ⟨.tuple ⟨[.agg ⟨pkT 0 0 zS nS nS⟩, iv ((nlT (kids[j]) s).2)]⟩, [[]], Ret.two rfl (RV.cell Zs rfl (At.bx 6 rfl) (Z9 ..)) (RV.tmp rfl), (Sub.emp Sub.nil), ?_⟩)
    have hio := in_neg (k := kind) (s := s) (ns := nj) (i := j) hng
    rw [nlKs_cons h34n, hio.1, hio.2, if_pos (by assumption)] at hinv
    have hx := nl_eK (r := ref) hq1 hq2 hq3 hq4 (by rw [hinv]; assumption)
    rw [hinv] at hx
    exact ⟨_, _, by rw [hx], rfl, by rw [hx]; exact YA⟩
   replace h54 := nf h54
   replace h54 := dt h54
   refine Zi <| Za <| JLq (pp b10 34) (Z8 rfl rfl) <| JLr (Ze YW rfl (At.bx 3 rfl) (Yb ..) <| JLr (Zg Zs rfl (At.bx 0 rfl) (Zt hO52.len) <| JLr (Zp (vs := [.agg ⟨cs52⟩]) [cs52] Tryz.runUnderlying24 el27 rfl rfl (by intro e he; simp only [List.mem_cons, List.not_mem_nil, or_false] at he; subst he; exact hO52.len) rfl (by decide) fun b55 k55 ho55 hk55 => ?_)))
   have hlens56 : ∀ e ∈ ([cs52] : List (List Value)), List.length e = 36 := by
    intro e he; simp only [List.mem_cons, List.not_mem_nil, or_false] at he
    rcases he with rfl
    ·exact hO52.len
   have hoks56 : ∀ e ∈ ([cs52] : List (List Value)), okc e := by
    intro e he; simp only [List.mem_cons, List.not_mem_nil, or_false] at he
    rcases he with rfl
    ·exact hO52.ok
   refine JLr (ZA (i := 5) (n := 1) (es' := [cs52]) Tryz.runUnderlying24 Tryz.runUnderlying24 (Or.inl rfl) el27 rfl rfl rfl ho1 (fun F w m => Src.row (((At.k 0 rfl (by rw [hk55]; exact List.mem_cons_self))).heap m) (Zt (Zz hlens56))) rfl hlens56 hoks56 (by decide) (by omega) fun v56 k56 ho56 => JLq (pp b10 34) (Z8 rfl rfl) <| JLr (Zd 4 (vs := [v56]) (l := pkT kind qx ref v56 nS) YW rfl rfl rfl (ZK ho56.one) rfl (Zk ho56.one Zq) (pkT_s34 ..) <| Zb <| Za <| JLn (Pu.inc rfl rfl (by omega)) <| JLM rfl <| Zb <| ⟨_, ?_, (j + 1), nj, nw, (ts ++ [(nlT (kids[j]) s).1]), v56, (es ++ [cs52]), k56, (k2 ++ k52), rfl, rfl, rfl, rfl, rfl, rfl, rfl, rfl, rfl, (Sd (Sd (Sub.cons 2 rfl (Sub.cons 2 rfl (Sub.join (Sub.cons 2 rfl (Sk (Sd (Sk (Sk Sub.nil)))))))))), ?_, ?_, ?_, ?_, ?_, ?_, rfl⟩))
   ·omega
   ·omega
   ·exact hnj
   ·exact ho56
   ·exact OTs.snoc hO52 hop
   ·have hio := in_neg (k := kind) (s := s) (ns := nj) (i := j) hng; rw [nlKs_cons h34n, hio.1, hio.2, if_neg (fun q => q (by assumption))] at hinv; rw [hinv]; simp
   simp [hlt]
  replace h34 := df h34
  have h34n : kids.length ≤ j := by omega
  refine Zy _ rfl <| Zc <| Zc <| Za <| JLq (pp b1 36) (fa32_5 rfl rfl) <| JLr (Ze ty30 rfl (At.bx 4 rfl) (YP ..) ?_)
  obtain ⟨a57, cap57, hv57⟩ := hcv.sl
  have hle57 := hcv.le
  refine JLn (Pu.lenSl Tryz.runUnderlying30 hv57) <| JLM rfl <| Zb <| Zl ?_
  have hinvK : XF kind s ns 0 kids = (ts, 0) := by rw [hinv, Yt h34n, XF, List.append_nil]
  have htl : ts.length ≤ kids.length := by omega
  refine ZE (fun k ρ M => ∃ (j : Nat) (us : List (Pt × Tm)) (y : Value) (es2 : List (List Value)) (k3 k4 : Zj), ρ 1 = v ∧ ρ 4 = pp b2 0 ∧ ρ 5 = iv 0 ∧ ρ 7 = pp b10 0 ∧ ρ 114 = cv ∧ ρ 115 = iv ((cases.length : Int)) ∧ ρ 116 = iv ((j : Int)) ∧ Sub [(BX b10 (pkT kind qx ref w y) 27), k3, k4, k1, k2, (BX b2 (pkT 0 0 zS nS nS) 27), (BX b1 (pkN kind num ref nv ks cv) 32)] M ∧ j ≤ cases.length ∧ Own 80 71 y es2 k3 ∧ OCs us es2 k4 ∧ nlCs s cases = (us ++ (nlCs s (cases.drop j)).1, (nlCs s (cases.drop j)).2) ∧ us.length = j ∧ k = cases.length - j) _ ⟨0, [], nS, [], [], [], rfl, rfl, rfl, rfl, rfl, rfl, rfl, (Sk (Sub.emp (Sub.emp (Sk (Sk (Sk (Sk Sub.nil))))))), Nat.zero_le _, Own.nil, OCs.nil, rfl, rfl, rfl⟩ ?_
  rintro _ ρ58 _ ⟨j, us, y, es2, k3, k4, e59, e60, e61, e62, e63, e64, e65, hm66, hj, ho3, hopw, hinv2, hul, rfl⟩
  obtain ⟨ρ67, rfl⟩ := Zr (uc e59 (uc e60 (uc e61 (uc e62 (uc e63 (uc e64 (uc e65 un)))))))
  clear e59 e60 e61 e62 e63 e64 e65
  refine ZJ hm66 <| Zc <| Za <| JLn (Pu.lss rfl rfl) <| Zb <| Zc <| Zf rfl (fun h68 => ?_) (fun h68 => ?_)
  ·replace h68 := dt h68
   have h68n : j < cases.length := by omega
   have hz1 := skC_mem _ _ (List.getElem_mem h68n)
   have hm1 := YS (cases[j]).1
   have hel := OCs_len hopw
   have hfm := fit_mem hq2 (List.getElem_mem h68n)
   refine Zi <| Zc <| Zl <| Zc <| Za ?_
   obtain ⟨b69, o69, cap69, row69, T69, fr69, cs69, hv69, hb69, hs69, hE69⟩ := hcv.get j (by first | assumption | omega | decide | simp)
   obtain ⟨ca69, va69, cb69, rfl, hA69, hV69, hB69⟩ := hE69
   refine JLq (pp b69 (o69 + j * 73)) (Pu.idx j Tryz.runUnderlying30 ty85 hv69 rfl rfl (by first | assumption | omega | decide | simp)) <| JLr (Zg ty85 rfl (At.im hb69) hs69 <| JLr (Zn (l := (pkP 0 0 zS nS) ++ (([nS]) ++ (pkN 0 0 zS nS nS nS))) Tryz.zeroValue85 rfl fun b70 => JLr (Zd 0 (vs := ca69 ++ (([va69]) ++ cb69)) (l := ca69 ++ (([va69]) ++ cb69)) ty85 rfl rfl rfl rfl (Zw (Zu hA69) (Zw rfl (ZV hB69))) (ZN (Xj hA69) (ZN (Zk hV69.one Zq) (RN_ok hB69))) (ZM (n := 73) rfl (Zw (Zu hA69) (Zw rfl (ZV hB69)))) <| Zb <| Zc <| ZF mixed #[0, 1, 0, 0, 8, 28, 63, 127, 255, 255, 0, 1535, 4095] 12 [some 121, some 122, some 123, some 124, some 125, some 126, some 127, some 120, some 128, some 129, some 17, none] [(11, 10)] [(5, fun _ _ vw qw => ∃ u k, vw = u ∧ qw = [k] ∧ Own 9 1 u (Z0 ((cases[j].2.1).reverse ++ s)) k), (6, fun _ _ vw qw => ∃ cs k, vw = .tuple ⟨[.agg ⟨cs⟩, iv (nlT (cases[j].2.2) (ZY s (cases[j].2.1))).2]⟩ ∧ qw = [k] ∧ OT (nlT (cases[j].2.2) (ZY s (cases[j].2.1))).1 cs k), (10, newP 27 (pkT 0 0 zS nS nS)), (11, fun r _ vw qw => vw = undef ∧ qw = [(BX (pblk (r 10)) ((tcel (r 6))) 27)])] rfl (by kernel_rfl) rfl (by kernel_rfl) <| Dq (pp b70 36) (fun _ => fa85_2 rfl rfl) <| Dl Ya (At.bx 0 rfl) (Xe (n := 35) (i := 1) (Zu hA69) (Xg rfl (ZV hB69))) <| Dm v <| Dq (pp b70 35) (fun _ => fa85_1 rfl rfl) <| Dl1 Yy (At.bx 0 rfl) (get_r (n := 35) (i := 0) (Zu hA69) rfl) <| Dc rfl Tryz.call121 (fun _ => rfl) (fun hin => with_ct _ _ _ _ _ (RSs.mono (Hle.hu _ _) hs) (RSs.mono (Hle.hu _ _) hV69) (by first | (rw [List.length_take]; omega) | (rw [fit_mem hq2 (List.getElem_mem ‹_›)]; omega) | omega)) ?_)))
   rintro u74 _ ⟨_, k74, hu74, rfl, ho74⟩; subst hu74
   replace ho74 : Own 9 1 u74 (Z0 (ZY s (cases[j].2.1))) k74 := ho74
   refine Dc rfl Tryz.call67 (fun _ => rfl) (fun hin => ih' _ (List.getElem_mem h68n) _ _ _ _ (RN.mono (Hle.hu _ _) hB69) (Yc ho74 (by first | omega | (simp only [ZW, List.length_take, List.length_append]; omega)) (hin 0 _ rfl)) (by rw [ZW, fit_mem hq2 (List.getElem_mem h68n)]; omega)) ?_
   rintro _ _ ⟨cs75, k75, rfl, rfl, hO75⟩
   refine DM (fun _ => rfl) <| Dn (fun _ => Pu.extract rfl rfl) <| Dn (fun _ => Pu.extract rfl rfl) <| Da Tryz.zeroValue27 rfl fun b76 => Dr rfl (fun _ => Zd 0 (vs := cs75) (l := cs75) Zs rfl rfl rfl rfl hO75.len hO75.ok (ZM (n := 36) rfl hO75.len) ⟨[_], keptE (i := 0) rfl rfl, rfl, rfl⟩) ?_; rintro _ _ ⟨rfl, rfl⟩
   refine ZL (M' := [(BX b76 cs75 27), k75, k74, (BX b70 (ca69 ++ (([va69]) ++ cb69)) 85), (BX b10 (pkT kind qx ref w y) 27), k3, k4, k1, k2, (BX b2 (pkT 0 0 zS nS nS) 27), (BX b1 (pkN kind num ref nv ks cv) 32)]) rfl ?_
   show JL _ _ _ [_] _ _ _
   refine JLA rfl <| Zb <| Zc <| Zc <| Za <| JLM rfl <| JLn (Pu.neq rfl rfl) <| Zb <| Zf rfl (fun h77 => ?_) (fun h77 => ?_)
   ·replace h77 := nt h77
    replace h77 := df h77
    refine Zc <| Za <| JLq (.agg ⟨pkT 0 0 zS nS nS⟩) (Pu.build (pv := []) (l := pkT 0 0 zS nS nS) rfl (YR )) <| JLM rfl <| JLr (Zd 9 (vs := pkT 0 0 zS nS nS) (l := pkT 0 0 zS nS nS) Zs rfl rfl rfl rfl rfl (ZI rfl rfl) (Yk ..) <| JLA rfl <| Zb <| Zh <| ⟨.tuple ⟨[.agg ⟨pkT 0 0 zS nS nS⟩, iv ((nlT (cases[j].2.2) (ZY s (cases[j].2.1))).2)]⟩, [[]], Ret.two rfl (RV.cell Zs rfl (At.bx 9 rfl) (Z9 ..)) (RV.tmp rfl), (Sub.emp Sub.nil), ?_⟩)
    rw [nlCs_cons h68n, if_pos (by assumption)] at hinv2
    have hx := nl_eC (r := ref) hq1 hq2 hq3 hq4 (by rw [hinvK]) (by rw [hinv2]; assumption)
    rw [hinv2] at hx
    exact ⟨_, _, by rw [hx], rfl, by rw [hx]; exact YA⟩
   replace h77 := nf h77
   replace h77 := dt h77
   refine Zi <| ZF mixed #[0, 1, 0, 0, 8, 28, 0, 124, 252, 511, 1023, 2047] 9 [some 134, some 135, some 136, some 137, some 138, some 139, some 140, some 141, some 142] [] [(5, fun _ _ vw qw => ∃ cs k, vw = .agg ⟨cs⟩ ∧ qw = [k] ∧ OP (cases[j].1) cs k), (8, fun r _ vw qw => ∃ b k, vw = .slice (some ⟨b, 0, none⟩) 1 1 ∧ qw = [k] ∧ Own 80 71 (.slice (some ⟨b, 0, none⟩) 1 1) [((cel (r 5))) ++ cs75] k ∧ k = (BX b (List.flatten [((cel (r 5))) ++ cs75]) 80))] rfl (by kernel_rfl) rfl (by kernel_rfl) <| Dq (pp b10 35) (fun _ => Z1 rfl rfl) <| Dl1 YI (At.bx 4 rfl) (Z2 ..) <| Dq (.agg ⟨[.func (.func 83) ⟨[]⟩ ⟨[]⟩, .func (.func 84) ⟨[]⟩ ⟨[]⟩]⟩) (fun _ => Pu.build (pv := [(0, .func (.func 83) ⟨[]⟩ ⟨[]⟩), (1, .func (.func 84) ⟨[]⟩ ⟨[]⟩)]) (l := [.func (.func 83) ⟨[]⟩ ⟨[]⟩, .func (.func 84) ⟨[]⟩ ⟨[]⟩]) rfl (bld136_0_1 _ _ _ _ _ _)) <| Dq (pp b70 0) (fun _ => fa85_0 rfl rfl) <| Dl Z6 (At.bx 3 rfl) (YE (Zu hA69)) <| Dc rfl Tryz.call113 (fun _ => rfl) (fun hin => mapPatternP_ct _ _ _ (RP.mono (Hle.hu _ _) hA69) (by omega)) ?_
   rintro _ _ ⟨cs80, k80, rfl, rfl, hO80⟩
   refine Dl Zs (At.bx 0 rfl) (Zt hO75.len) <| Dq (.agg ⟨cs80 ++ cs75⟩) (fun _ => Pu.build (pv := [(0, .agg ⟨cs80⟩), (1, .agg ⟨cs75⟩)]) (l := cs80 ++ cs75) rfl (bld80_0_1 hO80.len hO75.len)) <| Dr rfl (fun _ => Zp (vs := [.agg ⟨cs80 ++ cs75⟩]) [cs80 ++ cs75] Tryz.runUnderlying25 el80 rfl rfl (by intro e he; simp only [List.mem_cons, List.not_mem_nil, or_false] at he; subst he; exact (Zw hO80.len hO75.len)) rfl (by decide) fun b k h1 h2 => ⟨[k], by rw [ZR rfl]; exact Sub.refl, b, k, rfl, rfl, h1, h2⟩) (fun _ _ ⟨b81, k81, e1, e2, ho81, hk81⟩ => ?_); subst e1 e2
   refine ZL (M' := [k81, k80, (BX b76 cs75 27), k75, k74, (BX b70 (ca69 ++ (([va69]) ++ cb69)) 85), (BX b10 (pkT kind qx ref w y) 27), k3, k4, k1, k2, (BX b2 (pkT 0 0 zS nS nS) 27), (BX b1 (pkN kind num ref nv ks cv) 32)]) rfl ?_
   show JL _ _ _ [_, _, _] _ _ _
   have hlens82 : ∀ e ∈ ([cs80 ++ cs75] : List (List Value)), List.length e = 71 := by
    intro e he; simp only [List.mem_cons, List.not_mem_nil, or_false] at he
    rcases he with rfl
    ·exact (Zw hO80.len hO75.len)
   have hoks82 : ∀ e ∈ ([cs80 ++ cs75] : List (List Value)), okc e := by
    intro e he; simp only [List.mem_cons, List.not_mem_nil, or_false] at he
    rcases he with rfl
    ·exact (ZN hO80.ok hO75.ok)
   refine JLr (ZA (i := 7) (n := 1) (es' := [cs80 ++ cs75]) Tryz.runUnderlying25 Tryz.runUnderlying25 (Or.inl rfl) el80 rfl rfl rfl ho3 (fun F w m => Src.row (((At.k 0 rfl (by rw [hk81]; exact List.mem_cons_self))).heap m) (Zt (Zz hlens82))) rfl hlens82 hoks82 (by decide) (by omega) fun v82 k82 ho82 => JLq (pp b10 35) (Z1 rfl rfl) <| JLr (Zd 6 (vs := [v82]) (l := pkT kind qx ref w v82) YI rfl rfl rfl (ZK ho82.one) rfl (Zk ho82.one Zq) (pkT_s35 ..) <| Zb <| Za <| JLn (Pu.inc rfl rfl (by omega)) <| JLM rfl <| Zb <| ⟨_, ?_, (j + 1), (us ++ [(cases[j].1, (nlT (cases[j].2.2) (ZY s (cases[j].2.1))).1)]), v82, (es2 ++ [cs80 ++ cs75]), k82, (k4 ++ (k80 ++ k75)), rfl, rfl, rfl, rfl, rfl, rfl, rfl, (Sd (Sub.cons 5 rfl (Sub.cons 5 rfl (Sub.join3 (Sub.cons 5 rfl (Sk (Sd (Sk (Sd (Sd (Sk (Sk (Sk (Sk Sub.nil)))))))))))))), ?_, ?_, ?_, ?_, ?_, rfl⟩))
   ·omega
   ·omega
   ·exact ho82
   ·exact OCs.snoc hO80 hO75 hopw
   ·rw [nlCs_cons h68n, if_neg (fun q => q (by assumption))] at hinv2; rw [hinv2]; simp
   simp [hul]
  replace h68 := df h68
  have h68n : cases.length ≤ j := by omega
  refine Zy _ rfl <| Zc <| Za <| JLr (Zg Zs rfl (At.bx 0 rfl) (Z9 ..) <| JLr (Zd 5 (vs := pkT kind qx ref w y) (l := pkT kind qx ref w y) Zs rfl rfl rfl rfl rfl (ZI ho1.one ho3.one) (Yk ..) <| JLA rfl <| Zb <| Zh <| ⟨.tuple ⟨[.agg ⟨pkT kind qx ref w y⟩, iv 0]⟩, [k1 ++ (k2 ++ (k3 ++ k4))], Ret.two rfl (RV.cell Zs rfl (At.bx 5 rfl) (Z9 ..)) (RV.tmp rfl), (Sub.join4 (Sd (Sub.cons 2 rfl (Sub.cons 2 rfl (Sk (Sk Sub.nil)))))), ?_⟩))
  have hinvC : nlCs s cases = (us, 0) := by rw [hinv2, Yt h68n, nlCs, List.append_nil]
  have hx := nl_ok (r := ref) hq1 hq2 hq3 hq4 (by rw [hinvK]) (by rw [hinvC])
  rw [hinvK, hinvC, ← hqx] at hx
  exact ⟨_, _, by rw [hx], rfl, by rw [hx]; exact OT_mk.2 ⟨_, _, _, _, _, _, _, _, rfl, hk, hnx, ho1, hop, ho3, hopw, rfl, (show ts.length ≤ 9223372036854775807 by omega), (show us.length ≤ 9223372036854775807 by omega)⟩⟩
 | false =>
  replace h3 := df h3
  refine ZF mixed #[0, 1, 3, 0, 8, 31, 63, 127, 255, 127, 1023, 2047, 4095, 8191] 10 [some 20, some 21, some 22, some 23, some 24, some 25, some 26, some 27, some 28, some 29] [] [(4, fun _ _ vw qw => vw = iv (Ys kind kids.length) ∧ qw = [])] rfl (by kernel_rfl) rfl (by kernel_rfl) <| Dq (pp b1 34) (fun _ => Y2 rfl rfl) <| Dl1 Yy (At.bx 1 rfl) (Xw ..) ?_
  obtain ⟨a84, cap84, hv84⟩ := hns.rd.sl
  have hle84 := hns.rd.le
  refine Dn (fun _ => Pu.lenSl Tryz.runUnderlying28 hv84) <| Dl Ya (At.bx 1 rfl) (XA ..) <| Dc rfl Tryz.call118 (fun _ => rfl) (fun hin => manyN_ct (.mk kind num ref ns kids cases) _ _ (RN.mono (Hle.hu _ _) (RN_mk.2 ⟨_, _, _, rfl, hk, hn, hns, hks, hcv⟩)) (show kids.length ≤ 1000000 by omega)) ?_
  rintro _ _ ⟨rfl, rfl⟩
  refine Dq (.bool true) (fun _ => (Pu.neq rfl rfl).cast (by rw [decide_eq_false h3]; rfl)) <| DM (fun _ => rfl) <| Yv rfl (fun _ => rfl) <| Yv rfl (fun _ => rfl) <| Yv rfl (fun _ => rfl) <| ZL (M' := [(BX b2 (pkT 0 0 zS nS nS) 27), (BX b1 (pkN kind num ref nv ks cv) 32)]) rfl ?_
  show JL _ _ _ [_, _, _, _] _ _ _
  iterate 2 refine ZC rfl ?_
  refine JLq (.bool true) (Pu.pickT rfl rfl) <| JLA rfl <| Zb <| Zf (b := true) rfl (fun _ => ?_) (fun h => absurd h (by simp))
  refine Zc <| Za <| JLq (.agg ⟨pkT 0 0 zS nS nS⟩) (Pu.build (pv := []) (l := pkT 0 0 zS nS nS) rfl (YR )) <| JLr (Zd 0 (vs := pkT 0 0 zS nS nS) (l := pkT 0 0 zS nS nS) Zs rfl rfl rfl rfl rfl (ZI rfl rfl) (Yk ..) <| JLA rfl <| Zb <| Zh <| ⟨.tuple ⟨[.agg ⟨pkT 0 0 zS nS nS⟩, iv 2]⟩, [[]], Ret.two rfl (RV.cell Zs rfl (At.bx 0 rfl) (Z9 ..)) (RV.tmp rfl), (Sub.emp Sub.nil), ?_⟩)
  have hx : nlT (.mk kind num ref ns kids cases) s = (zT, 2) := nl_e2a h3
  exact ⟨_, _, by rw [hx], rfl, by rw [hx]; exact YA⟩
end Go.Proofs.YtmophpgiaiemhaaGreat.Hs
/-! Walks, printed by a program of this session's own (gen.py). -/
namespace Go.Proofs.YtmophpgiaiemhaaGreat.Hs
open Go Go.Proofs
set_option maxRecDepth 100000
set_option linter.unusedVariables false
set_option linter.unusedSimpArgs false
attribute [local irreducible] JL J CT wlo DT
theorem namelessE_ct (n : Nm) (s : List ByteArray) (cs : List Value) (v : Value) (H : Heap) (hn_ : RN H cs n) (hs : strR H v s) : CT Tryz.prog 18 ⟨[.agg ⟨cs⟩, v]⟩ [] H (fun v N => ∃ cs k, v = .tuple ⟨[.agg ⟨cs⟩, iv (Z7 n s).2]⟩ ∧ N = [k] ∧ OT (Z7 n s).1 cs k) := by
 refine Zm Tryz.func18 rfl rfl <| Zc <| Za <| JLr (Zo (l := cs) rfl rfl fun b1 => JLr (Zn (l := pkT 0 0 zS nS nS) Tryz.zeroValue27 rfl fun b2 => JLA rfl <| Zb <| Zc <| Zc <| Za <| JLm v ?_))
 obtain ⟨a3, cap3, hv3⟩ := hs.rd.sl
 have hle3 := hs.rd.le
 refine JLn (Pu.lenSl Tryz.runUnderlying28 hv3) <| JLn (Pu.gtr rfl rfl) <| JLM rfl ?_
 cases h4 : (decide (60 < (s.length : Int))) with
 | true =>
  replace h4 := dt h4
  iterate 4 refine ZC rfl ?_
  refine JLq (.bool true) (Pu.pickT rfl rfl) <| Zb <| Zf (b := true) rfl (fun _ => ?_) (fun h => absurd h (by simp))
  refine Zc <| Za <| JLq (.agg ⟨pkT 0 0 zS nS nS⟩) (Pu.build (pv := []) (l := pkT 0 0 zS nS nS) rfl (YR )) <| JLr (Zd 0 (vs := pkT 0 0 zS nS nS) (l := pkT 0 0 zS nS nS) Zs rfl rfl rfl rfl rfl (ZI rfl rfl) (Yk ..) <| JLA rfl <| Zb <| Zh <| ⟨.tuple ⟨[.agg ⟨pkT 0 0 zS nS nS⟩, iv 11]⟩, [[]], Ret.two rfl (RV.cell Zs rfl (At.bx 0 rfl) (Z9 ..)) (RV.tmp rfl), (Sub.emp Sub.nil), ?_⟩)
  have hx : Z7 n s = (zT, 11) := by rw [Z7, if_pos (by first | exact .inl (by omega) | exact .inr (by assumption))]
  exact ⟨_, _, by rw [hx], rfl, by rw [hx]; exact YA⟩
 | false =>
  replace h4 := df h4
  refine JLq (.agg ⟨[iv 0]⟩) (Pu.build (pv := []) (l := [iv 0]) rfl bld114_) <| JLr (Zo (l := [iv 0]) rfl rfl fun b5 => JLr (Zg Ya rfl (At.bx 2 rfl) (Zt (ZV hn_)) <| ZD 0 rfl Tryz.call66 rfl rfl (fun hin => longN_ct _ _ _ _ _ _ (RN.mono (Hle.hu _ _) hn_) (by omega) (by omega) (by omega) (by omega)) rfl ?_))
  rintro _ _ ⟨rfl, rfl⟩
  refine JLq (.bool ((cnN stL 1 n 0).1)) (Pu.pickF rfl rfl) <| Zb <| Zf rfl (fun h7 => ?_) (fun h7 => ?_)
  ·refine Zc <| Za <| JLq (.agg ⟨pkT 0 0 zS nS nS⟩) (Pu.build (pv := []) (l := pkT 0 0 zS nS nS) rfl (YR )) <| JLr (Zd 1 (vs := pkT 0 0 zS nS nS) (l := pkT 0 0 zS nS nS) Zs rfl rfl rfl rfl rfl (ZI rfl rfl) (Yk ..) <| JLA rfl <| Zb <| Zh <| ⟨.tuple ⟨[.agg ⟨pkT 0 0 zS nS nS⟩, iv 11]⟩, [[]], Ret.two rfl (RV.cell Zs rfl (At.bx 1 rfl) (Z9 ..)) (RV.tmp rfl), (Sub.emp Sub.nil), ?_⟩)
   have hx : Z7 n s = (zT, 11) := by rw [Z7, if_pos (by first | exact .inl (by omega) | exact .inr (by assumption))]
   exact ⟨_, _, by rw [hx], rfl, by rw [hx]; exact YA⟩
  refine Zi <| Zc ?_
  have hq0 : ¬ (60 < s.length ∨ (cnN stL 1 n 0).1 = true) := by rintro (q | q); omega; simp_all
  refine Za <| JLr (Zg Ya rfl (At.bx 2 rfl) (Zt (ZV hn_)) <| JLm v <| Jc Tryz.call67 rfl (fun hin => namelessI_ct _ _ _ _ _ (RN.mono (Hle.hu _ _) hn_) (RSs.mono (Hle.hu _ _) hs.rd) (by have := long_size ‹(cnN stL 1 n 0).1 = false›; omega)) rfl ?_)
  rintro _ _ ⟨cs8, k8, rfl, rfl, hO8⟩
  refine JLM rfl <| JLn (Pu.extract rfl rfl) <| JLn (Pu.extract rfl rfl) <| JLr (Zn (l := pkT 0 0 zS nS nS) Tryz.zeroValue27 rfl fun b9 => JLr (Zd 0 (vs := cs8) (l := cs8) Zs rfl rfl rfl rfl hO8.len hO8.ok (ZM (n := 36) rfl hO8.len) <| JLA rfl <| Zb <| Zc <| Zc <| Za <| JLM rfl <| JLn (Pu.eql rfl rfl) <| Zb ?_))
  refine Zf rfl (fun h10 => ?_) (fun h10 => ?_)
  ·replace h10 := dt h10
   refine Za <| JLr (Zg Zs rfl (At.bx 0 rfl) (Zt hO8.len) <| JLr (Zp (vs := [.agg ⟨cs8⟩]) [cs8] Tryz.runUnderlying24 el27 rfl rfl (by intro e he; simp only [List.mem_cons, List.not_mem_nil, or_false] at he; subst he; exact hO8.len) rfl (by decide) fun b11 k11 ho11 hk11 => Jc Tryz.call61 rfl (fun hin => right_ct _ _ _ (Own.rd1 ho11 (hin 0 _ rfl) (hO8.rd (hin 2 _ rfl)))) rfl ?_))
   rintro _ _ ⟨rfl, rfl⟩
   refine JLA rfl <| Zb <| Zc <| Zc <| Za <| JLM rfl <| JLn (Pu.neq rfl rfl) <| Zb <| Zf rfl (fun h12 => ?_) (fun h12 => ?_)
   ·replace h12 := nt h12
    replace h12 := df h12
    refine Zc <| Za <| JLq (.agg ⟨pkT 0 0 zS nS nS⟩) (Pu.build (pv := []) (l := pkT 0 0 zS nS nS) rfl (YR )) <| JLM rfl <| JLr (Zd 4 (vs := pkT 0 0 zS nS nS) (l := pkT 0 0 zS nS nS) Zs rfl rfl rfl rfl rfl (ZI rfl rfl) (Yk ..) <| JLA rfl <| Zb <| Zh <| ⟨.tuple ⟨[.agg ⟨pkT 0 0 zS nS nS⟩, iv (ZS [(nlT n s).1])]⟩, [[]], Ret.two rfl (RV.cell Zs rfl (At.bx 4 rfl) (Z9 ..)) (RV.tmp rfl), (Sub.emp Sub.nil), ?_⟩)
    have hx : Z7 n s = (zT, ZS [(nlT n s).1]) := by rw [Z7, if_neg hq0, if_neg (fun q => q (by assumption)), if_neg (by assumption)]
    exact ⟨_, _, by rw [hx], rfl, by rw [hx]; exact YA⟩
   replace h12 := nf h12
   replace h12 := dt h12
   refine Zi <| Zc <| Za <| JLr (Zg Zs rfl (At.bx 1 rfl) (Zt hO8.len) <| JLr (Zd 4 (vs := cs8) (l := cs8) Zs rfl rfl rfl rfl hO8.len hO8.ok (ZM (n := 36) rfl hO8.len) <| JLA rfl <| Zb <| Zh <| ⟨.tuple ⟨[.agg ⟨cs8⟩, iv 0]⟩, [k8], Ret.two rfl (RV.cell Zs rfl (At.bx 4 rfl) (Zt hO8.len)) (RV.tmp rfl), (Sd (Sd (Sk Sub.nil))), ?_⟩))
   have hx : Z7 n s = ((nlT n s).1, 0) := by rw [Z7, if_neg hq0, if_neg (fun q => q (by assumption)), if_pos (by assumption)]
   exact ⟨_, _, by rw [hx], rfl, by rw [hx]; exact hO8⟩
  replace h10 := df h10
  refine Zi <| Zc <| Zc <| Za <| JLM rfl <| JLn (Pu.neq rfl rfl) <| Zb <| Zf rfl (fun h13 => ?_) (fun h13 => ?_)
  ·replace h13 := nt h13
   replace h13 := df h13
   refine Zc <| Za <| JLq (.agg ⟨pkT 0 0 zS nS nS⟩) (Pu.build (pv := []) (l := pkT 0 0 zS nS nS) rfl (YR )) <| JLM rfl <| JLr (Zd 3 (vs := pkT 0 0 zS nS nS) (l := pkT 0 0 zS nS nS) Zs rfl rfl rfl rfl rfl (ZI rfl rfl) (Yk ..) <| JLA rfl <| Zb <| Zh <| ⟨.tuple ⟨[.agg ⟨pkT 0 0 zS nS nS⟩, iv ((nlT n s).2)]⟩, [[]], Ret.two rfl (RV.cell Zs rfl (At.bx 3 rfl) (Z9 ..)) (RV.tmp rfl), (Sub.emp Sub.nil), ?_⟩)
   have hx : Z7 n s = (zT, (nlT n s).2) := by rw [Z7, if_neg hq0, if_pos (by assumption)]
   exact ⟨_, _, by rw [hx], rfl, by rw [hx]; exact YA⟩
  replace h13 := nf h13
  replace h13 := dt h13
  exfalso; omega
end Go.Proofs.YtmophpgiaiemhaaGreat.Hs
/-! Walks, printed by a program of this session's own (gen.py). -/
namespace Go.Proofs.YtmophpgiaiemhaaGreat.Hs
open Go Go.Proofs
set_option maxRecDepth 100000
set_option linter.unusedVariables false
set_option linter.unusedSimpArgs false
attribute [local irreducible] JL J CT wlo DT
set_option maxHeartbeats 8000000 in
theorem awake_ct (H : Heap) : CT Tryz.prog 9 ⟨[]⟩ [] H (fun v N => v = .bool true ∧ N = []) := by
 refine Zm Tryz.func9 rfl rfl <| Zc <| Za <| JLA rfl <| Zb <| Zc <| Zf (b := false) rfl (fun h => absurd h (by simp)) (fun _ => Zi <| Zc <| Za <| Jc Tryz.call48 rfl (fun hin => va_ct _ _ (by unfold inI; omega)) rfl ?_)
 rintro _ _ ⟨cs1, k1, rfl, rfl, hO1⟩
 refine Jc Tryz.call48 rfl (fun hin => va_ct _ _ (by unfold inI; omega)) rfl ?_
 rintro _ _ ⟨cs2, k2, rfl, rfl, hO2⟩
 refine Jc Tryz.call47 rfl (fun hin => ap_ct _ _ hO1.len hO1.ok _ hO2.len hO2.ok) rfl ?_
 rintro _ _ ⟨cs3, k3, rfl, rfl, hC3⟩
 replace hC3 : (cs3.length = 36 ∧ okc cs3 ∧ ∀ h, Has k3 h → RT h cs1 (eVa 0) → RT h cs2 (eVa 1) → RT h cs3 (eAp (eVa 0) (eVa 1))) := ⟨hC3.1, hC3.2.1, hC3.2.2 (eVa 0) (eVa 1)⟩
 refine Jc Tryz.call46 rfl (fun hin => la_ct _ _ hC3.1 hC3.2.1) rfl ?_
 rintro _ _ ⟨cs4, k4, rfl, rfl, hC4⟩
 replace hC4 : (cs4.length = 36 ∧ okc cs4 ∧ ∀ h, Has k4 h → RT h cs3 (eAp (eVa 0) (eVa 1)) → RT h cs4 (eLa (eAp (eVa 0) (eVa 1)))) := ⟨hC4.1, hC4.2.1, hC4.2.2 (eAp (eVa 0) (eVa 1))⟩
 refine JLr (Zn (l := pkT 0 0 zS nS nS) Tryz.zeroValue27 rfl fun b5 => JLr (Zd 0 (vs := cs4) (l := cs4) Zs rfl rfl rfl rfl hC4.1 hC4.2.1 (ZM (n := 36) rfl hC4.1) <| Zb <| Zc <| Za <| JLr (Zg Zs rfl (At.bx 0 rfl) (Zt hC4.1) <| Jc Tryz.call49 rfl (fun hin => freeE_ct eLam _ _ (hC4.2.2 _ (hin 1 _ rfl) (hC3.2.2 _ (hin 2 _ rfl) (hO1.rd (hin 4 _ rfl)) (hO2.rd (hin 3 _ rfl))))) rfl ?_)))
 rintro _ _ ⟨u6, e6, k6, rfl, rfl, ho6, he6⟩
 rw [free_lam] at ho6 he6
 replace ho6 : Own 3 1 u6 (ints ([0])) k6 := ho6
 obtain rfl : e6 = 0 := he6
 refine JLM rfl <| JLn (Pu.extract rfl rfl) <| JLn (Pu.extract rfl rfl) <| JLa u6 <| JLA rfl <| Zb <| Zc <| ZF mixed #[0, 0, 3, 7, 15, 15, 0, 95, 255] 8 [some 24, some 25, some 26, some 23, some 27, some 28, some 4, none] [(7, 6)] [(1, fun _ _ vw qw => ∃ cs k, vw = .agg ⟨cs⟩ ∧ qw = [k] ∧ OT (eNu 5) cs k), (2, fun _ _ vw qw => ∃ cs k, vw = .tuple ⟨[.agg ⟨cs⟩, iv 0]⟩ ∧ qw = [k] ∧ OT (eLa (eAp (eVa 0) (eNu 5))) cs k), (6, newP 27 (pkT 0 0 zS nS nS)), (7, fun r _ vw qw => vw = undef ∧ qw = [(BX (pblk (r 6)) ((tcel (r 2))) 27)])] rfl (by kernel_rfl) rfl (by kernel_rfl) <| Dl Zs (At.bx 1 rfl) (Zt hC4.1) <| Dc rfl Tryz.call42 (fun _ => rfl) (fun hin => nu_ct _ _ (by unfold inI; omega)) ?_
 rintro _ _ ⟨cs10, k10, rfl, rfl, hO10⟩
 refine Dc rfl Tryz.call27 (fun _ => rfl) (fun hin => ble_at (substP_ct eLam 0 (eNu 5) _ _ _ (hC4.2.2 _ (hin 3 _ rfl) (hC3.2.2 _ (hin 4 _ rfl) (hO1.rd (hin 6 _ rfl)) (hO2.rd (hin 5 _ rfl)))) (hO10.rd (hin 0 _ rfl))) five_lam) ?_
 rintro _ _ ⟨cs11, k11, rfl, rfl, hO11⟩
 refine DM (fun _ => rfl) <| Dn (fun _ => Pu.extract rfl rfl) <| Dn (fun _ => Pu.extract rfl rfl) <| Da Tryz.zeroValue27 rfl fun b12 => Dr rfl (fun _ => Zd 0 (vs := cs11) (l := cs11) Zs rfl rfl rfl rfl hO11.len hO11.ok (ZM (n := 36) rfl hO11.len) ⟨[_], keptE (i := 0) rfl rfl, rfl, rfl⟩) ?_; rintro _ _ ⟨rfl, rfl⟩
 refine ZL (M' := [(BX b12 cs11 27), k11, k10, k6, (BX b5 cs4 27), k4, k3, k2, k1]) rfl ?_
 show JL _ _ _ [_] _ _ _
 refine JLA rfl <| Zb <| Zc <| ZF mixed #[0, 0, 3, 7, 15, 15, 0, 95, 255] 8 [some 30, some 31, some 32, some 29, some 33, some 34, some 6, none] [(7, 6)] [(1, fun _ _ vw qw => ∃ cs k, vw = .agg ⟨cs⟩ ∧ qw = [k] ∧ OT (eVa 3) cs k), (2, fun _ _ vw qw => ∃ cs k, vw = .tuple ⟨[.agg ⟨cs⟩, iv 0]⟩ ∧ qw = [k] ∧ OT (eLa (eAp (eVa 0) (eVa 4))) cs k), (6, newP 27 (pkT 0 0 zS nS nS)), (7, fun r _ vw qw => vw = undef ∧ qw = [(BX (pblk (r 6)) ((tcel (r 2))) 27)])] rfl (by kernel_rfl) rfl (by kernel_rfl) <| Dl Zs (At.bx 4 rfl) (Zt hC4.1) <| Dc rfl Tryz.call48 (fun _ => rfl) (fun hin => va_ct _ _ (by unfold inI; omega)) ?_
 rintro _ _ ⟨cs16, k16, rfl, rfl, hO16⟩
 refine Dc rfl Tryz.call27 (fun _ => rfl) (fun hin => ble_at (substP_ct eLam 0 (eVa 3) _ _ _ (hC4.2.2 _ (hin 6 _ rfl) (hC3.2.2 _ (hin 7 _ rfl) (hO1.rd (hin 9 _ rfl)) (hO2.rd (hin 8 _ rfl)))) (hO16.rd (hin 0 _ rfl))) three_lam) ?_
 rintro _ _ ⟨cs17, k17, rfl, rfl, hO17⟩
 refine DM (fun _ => rfl) <| Dn (fun _ => Pu.extract rfl rfl) <| Dn (fun _ => Pu.extract rfl rfl) <| Da Tryz.zeroValue27 rfl fun b18 => Dr rfl (fun _ => Zd 0 (vs := cs17) (l := cs17) Zs rfl rfl rfl rfl hO17.len hO17.ok (ZM (n := 36) rfl hO17.len) ⟨[_], keptE (i := 0) rfl rfl, rfl, rfl⟩) ?_; rintro _ _ ⟨rfl, rfl⟩
 refine ZL (M' := [(BX b18 cs17 27), k17, k16, (BX b12 cs11 27), k11, k10, k6, (BX b5 cs4 27), k4, k3, k2, k1]) rfl ?_
 show JL _ _ _ [_] _ _ _
 refine JLA rfl <| Zb <| Zc <| Za <| JLr (Zg Zs rfl (At.bx 7 rfl) (Zt hC4.1) <| Jc Tryz.call50 rfl (fun hin => ble_at (shiftP_ct eLam 2 0 _ _ (hC4.2.2 _ (hin 8 _ rfl) (hC3.2.2 _ (hin 9 _ rfl) (hO1.rd (hin 11 _ rfl)) (hO2.rd (hin 10 _ rfl))))) up_lam) rfl ?_)
 rintro _ _ ⟨cs19, k19, rfl, rfl, hO19⟩
 refine JLM rfl <| JLn (Pu.extract rfl rfl) <| JLn (Pu.extract rfl rfl) <| JLr (Zn (l := pkT 0 0 zS nS nS) Tryz.zeroValue27 rfl fun b20 => JLr (Zd 0 (vs := cs19) (l := cs19) Zs rfl rfl rfl rfl hO19.len hO19.ok (ZM (n := 36) rfl hO19.len) <| JLA rfl <| Zb <| Zc <| Za <| Jc Tryz.call48 rfl (fun hin => va_ct _ _ (by unfold inI; omega)) rfl ?_))
 rintro _ _ ⟨cs21, k21, rfl, rfl, hO21⟩
 refine Jc Tryz.call50 rfl (fun hin => ble_at (shiftP_ct (eVa 0) (-1) 0 _ _ (hO21.rd (hin 0 _ rfl))) down_va) rfl ?_
 rintro _ _ ⟨cs22, k22, rfl, rfl, hO22⟩
 refine JLM rfl <| JLn (Pu.extract rfl rfl) <| JLn (Pu.extract rfl rfl) <| JLr (Zn (l := pkT 0 0 zS nS nS) Tryz.zeroValue27 rfl fun b23 => JLr (Zd 0 (vs := cs22) (l := cs22) Zs rfl rfl rfl rfl hO22.len hO22.ok (ZM (n := 36) rfl hO22.len) <| JLA rfl <| Zb <| Zc <| Za <| Jc Tryz.call48 rfl (fun hin => va_ct _ _ (by unfold inI; omega)) rfl ?_))
 rintro _ _ ⟨cs24, k24, rfl, rfl, hO24⟩
 refine Jc Tryz.call46 rfl (fun hin => la_ct _ _ hO24.len hO24.ok) rfl ?_
 rintro _ _ ⟨cs25, k25, rfl, rfl, hC25⟩
 replace hC25 : (cs25.length = 36 ∧ okc cs25 ∧ ∀ h, Has k25 h → RT h cs24 (eVa 1) → RT h cs25 (eLa (eVa 1))) := ⟨hC25.1, hC25.2.1, hC25.2.2 (eVa 1)⟩
 refine Jc Tryz.call46 rfl (fun hin => la_ct _ _ hC25.1 hC25.2.1) rfl ?_
 rintro _ _ ⟨cs26, k26, rfl, rfl, hC26⟩
 replace hC26 : (cs26.length = 36 ∧ okc cs26 ∧ ∀ h, Has k26 h → RT h cs25 (eLa (eVa 1)) → RT h cs26 (eLa (eLa (eVa 1)))) := ⟨hC26.1, hC26.2.1, hC26.2.2 (eLa (eVa 1))⟩
 refine JLr (Zp (vs := [.string (ltr 0)]) [[.string (ltr 0)]] Tryz.runUnderlying28 el9 rfl rfl (by intro e he; simp only [List.mem_cons, List.not_mem_nil, or_false] at he; subst he; exact rfl) rfl (by decide) fun b27 k27 ho27 hk27 => Jc Tryz.call17 rfl (fun hin => nameE_ct _ _ _ (hC26.2.2 _ (hin 1 _ rfl) (hC25.2.2 _ (hin 2 _ rfl) (hO24.rd (hin 3 _ rfl)))) (Yc (l := [ltr 0]) ho27 (by simp) (hin 0 _ rfl))) rfl ?_)
 rintro _ _ ⟨_, _, rfl, rfl, nk28, nn28, nr28, ns28, nks28, ncv28, ne28, nk128, nk228, nk328, rfl, hone28, hon28, hok28, ⟨mk28, mn28, mr28, ms28, mks28, mcv28, me28, mk128, mk228, mk328, rfl, hmone28, hom28, hmk28, _, rfl⟩, rfl⟩
 refine JL_sub (M' := [nk128, nk228, mk128, mk228, mk328, k27, k26, k25, k24, (BX b23 cs22 27), k22, k21, (BX b20 cs19 27), k19, (BX b18 cs17 27), k17, k16, (BX b12 cs11 27), k11, k10, k6, (BX b5 cs4 27), k4, k3, k2, k1]) (Sub.flat Sub.refl (by simp)) <| JLM rfl <| JLn (Pu.extract rfl rfl) <| JLn (Pu.extract rfl rfl) <| JLr (Zn (l := (pkT 0 0 zS nS nS) ++ ([nS] : List Value)) Tryz.zeroValue32 rfl fun b29 => JLr (Zd 0 (vs := (pkT nk28 nn28 nr28 ns28 nks28) ++ ([ncv28] : List Value)) (l := (pkT nk28 nn28 nr28 ns28 nks28) ++ ([ncv28] : List Value)) Ya rfl rfl rfl rfl rfl (ZN (ZI hon28.one hok28.one) (Zk hone28 Zq)) (ZM (n := 37) rfl rfl) <| JLA rfl <| Zb <| Zc <| ZF mixed #[0, 1, 3, 7, 15, 31, 63, 127, 255, 511, 1023, 2047, 4095, 8191, 16383, 32767, 65535, 131071, 262143, 524287, 1048575, 2097151, 4194303, 8388607, 8388607, 33554431, 67108863, 134217727, 268435455, 268435455, 805306367, 1879048191, 4026531839, 8589934591, 17179869183, 34359738367, 68719476735, 68719476735, 206158430207, 481036337151, 1030792151039, 2199023255551, 4398046511103, 8796093022207, 17592186044415, 17592186044415, 52776558133247, 123145302310911, 263882790666239, 562949953421311, 1125899906842623, 2251799813685247, 4503599627370495, 9007199254740991, 4503599627370495, 36028797018963967, 72057594037927935, 144115188075855871, 288230376151711743, 576460752303423487, 1152921504606846975, 2305843009213693951, 4611686018427387903, 9223372036854775807, 18446744073709551615, 36893488147419103231, 73786976294838206463, 147573952589676412927, 295147905179352825855, 18446744073709551615, 1180591620717411303423, 2361183241434822606847, 4722366482869645213695, 9444732965739290427391, 9444732965739290427391, 28334198897217871282175, 66113130760175032991743, 151115727451828646838271, 302231454903657293676543, 604462909807314587353087, 1208925819614629174706175, 2417851639229258349412351, 4835703278458516698824703, 4835703278458516698824703, 14507109835375550096474111, 38685626227668133590597631, 77371252455336267181195263, 154742504910672534362390527, 309485009821345068724781055, 618970019642690137449562111] 85 [some 53, some 54, some 55, some 56, some 57, some 58, some 59, some 60, some 61, some 62, some 63, some 64, some 65, some 66, some 67, some 68, some 69, some 70, some 71, some 72, some 73, some 74, some 75, some 76, some 77, some 78, some 79, some 80, some 81, some 82, some 83, some 84, some 85, some 86, some 87, some 88, some 89, some 90, some 91, some 92, some 93, some 94, some 95, some 96, some 97, some 98, some 99, some 100, some 101, some 102, some 103, some 104, some 105, some 106, some 107, some 108, some 109, some 110, some 111, some 112, some 113, some 114, some 115, some 116, some 117, some 118, some 119, some 120, some 121, some 122, some 123, some 124, some 125, some 126, some 127, some 128, some 129, some 130, some 131, some 132, some 133, some 134, some 135, some 136, some 137] [] [(24, fun _ _ vw qw => ∃ b k, vw = .slice (some ⟨b, 0, none⟩) 1 1 ∧ qw = [k] ∧ Own 3 1 (.slice (some ⟨b, 0, none⟩) 1 1) [[iv 0]] k ∧ k = (BX b (List.flatten [[iv 0]]) 3)), (25, fun _ _ vw qw => vw = .bool true ∧ qw = []), (29, fun _ _ vw qw => ∃ cs k, vw = .agg ⟨cs⟩ ∧ qw = [k] ∧ OT (eVa 0) cs k), (30, fun _ _ vw qw => ∃ cs k, vw = .agg ⟨cs⟩ ∧ qw = [k] ∧ OT (eNu 5) cs k), (31, fun r _ vw qw => ∃ cs k, vw = .agg ⟨cs⟩ ∧ qw = [k] ∧ cs.length = 36 ∧ okc cs ∧ ∀ t0 t1 h, Has k h → RT h ((cel (r 29))) t0 → RT h ((cel (r 30))) t1 → RT h cs (.mk 4 0 zS [t0, t1] [])), (32, fun r _ vw qw => ∃ cs k, vw = .agg ⟨cs⟩ ∧ qw = [k] ∧ cs.length = 36 ∧ okc cs ∧ ∀ t0 h, Has k h → RT h ((cel (r 31))) t0 → RT h cs (.mk 3 0 zS [t0] [])), (33, fun _ _ vw qw => vw = .bool true ∧ qw = []), (37, fun _ _ vw qw => ∃ cs k, vw = .agg ⟨cs⟩ ∧ qw = [k] ∧ OT (eVa 0) cs k), (38, fun _ _ vw qw => ∃ cs k, vw = .agg ⟨cs⟩ ∧ qw = [k] ∧ OT (eVa 4) cs k), (39, fun r _ vw qw => ∃ cs k, vw = .agg ⟨cs⟩ ∧ qw = [k] ∧ cs.length = 36 ∧ okc cs ∧ ∀ t0 t1 h, Has k h → RT h ((cel (r 37))) t0 → RT h ((cel (r 38))) t1 → RT h cs (.mk 4 0 zS [t0, t1] [])), (40, fun r _ vw qw => ∃ cs k, vw = .agg ⟨cs⟩ ∧ qw = [k] ∧ cs.length = 36 ∧ okc cs ∧ ∀ t0 h, Has k h → RT h ((cel (r 39))) t0 → RT h cs (.mk 3 0 zS [t0] [])), (41, fun _ _ vw qw => vw = .bool true ∧ qw = []), (45, fun _ _ vw qw => ∃ cs k, vw = .agg ⟨cs⟩ ∧ qw = [k] ∧ OT (eVa 0) cs k), (46, fun _ _ vw qw => ∃ cs k, vw = .agg ⟨cs⟩ ∧ qw = [k] ∧ OT (eVa 3) cs k), (47, fun r _ vw qw => ∃ cs k, vw = .agg ⟨cs⟩ ∧ qw = [k] ∧ cs.length = 36 ∧ okc cs ∧ ∀ t0 t1 h, Has k h → RT h ((cel (r 45))) t0 → RT h ((cel (r 46))) t1 → RT h cs (.mk 4 0 zS [t0, t1] [])), (48, fun r _ vw qw => ∃ cs k, vw = .agg ⟨cs⟩ ∧ qw = [k] ∧ cs.length = 36 ∧ okc cs ∧ ∀ t0 h, Has k h → RT h ((cel (r 47))) t0 → RT h cs (.mk 3 0 zS [t0] [])), (49, fun _ _ vw qw => vw = .bool true ∧ qw = []), (54, fun _ _ vw qw => ∃ b k, vw = .slice (some ⟨b, 0, none⟩) 1 1 ∧ qw = [k] ∧ Own 9 1 (.slice (some ⟨b, 0, none⟩) 1 1) [[.string (ltr 1)]] k ∧ k = (BX b (List.flatten [[.string (ltr 1)]]) 9)), (55, fun _ _ vw qw => vw = .bool true ∧ qw = []), (69, fun _ _ vw qw => ∃ b k, vw = .slice (some ⟨b, 0, none⟩) 1 1 ∧ qw = [k] ∧ Own 9 1 (.slice (some ⟨b, 0, none⟩) 1 1) [[.string (ltr 2)]] k ∧ k = (BX b (List.flatten [[.string (ltr 2)]]) 9)), (70, fun _ _ vw qw => vw = .bool true ∧ qw = []), (74, fun _ _ vw qw => ∃ cs k, vw = .agg ⟨cs⟩ ∧ qw = [k] ∧ OT (eNu 1) cs k), (75, fun _ _ vw qw => ∃ cs k, vw = .agg ⟨cs⟩ ∧ qw = [k] ∧ OT (eVa 0) cs k), (76, fun r _ vw qw => ∃ b k, vw = .slice (some ⟨b, 0, none⟩) 2 2 ∧ qw = [k] ∧ Own 27 36 (.slice (some ⟨b, 0, none⟩) 2 2) [(cel (r 74)), (cel (r 75))] k ∧ k = (BX b (List.flatten [(cel (r 74)), (cel (r 75))]) 27)), (77, fun r _ vw qw => vw = .agg ⟨pkT 12 0 zS (.slice (some ⟨(sblk (r 76)), 0, none⟩) 2 2) nS⟩ ∧ qw = []), (78, fun _ _ vw qw => vw = iv 0 ∧ qw = []), (83, fun _ _ vw qw => ∃ cs k, vw = .agg ⟨cs⟩ ∧ qw = [k] ∧ OT (eNu 1) cs k), (84, fun r _ vw qw => ∃ b k, vw = .slice (some ⟨b, 0, none⟩) 1 1 ∧ qw = [k] ∧ Own 27 36 (.slice (some ⟨b, 0, none⟩) 1 1) [(cel (r 83))] k ∧ k = (BX b (List.flatten [(cel (r 83))]) 27))] rfl (by kernel_rfl) rfl (by kernel_rfl) <| DM (fun _ => rfl) <| Dq (.bool true) (fun _ => show Pu _ _ _ (.bool (decide ((0 : Int) = 0))) from Pu.eql rfl rfl) <| DM (fun _ => rfl) ?_))
 refine DM (fun _ => rfl) <| Dq (.bool true) (fun _ => show Pu _ _ _ (.bool (decide ((0 : Int) = 0))) from Pu.eql rfl rfl) <| Dq (.bool true) (fun _ => Pu.pickT rfl rfl) <| DM (fun _ => rfl) <| DM (fun _ => rfl) <| Dq (.bool true) (fun _ => show Pu _ _ _ (.bool (decide ((0 : Int) = 0))) from Pu.eql rfl rfl) <| Dq (.bool true) (fun _ => Pu.pickT rfl rfl) <| DM (fun _ => rfl) <| DM (fun _ => rfl) <| Dq (.bool true) (fun _ => show Pu _ _ _ (.bool (decide ((0 : Int) = 0))) from Pu.eql rfl rfl) <| Dq (.bool true) (fun _ => Pu.pickT rfl rfl) <| DM (fun _ => rfl) <| DM (fun _ => rfl) ?_
 refine Dq (.bool true) (fun _ => show Pu _ _ _ (.bool (decide ((1 : Int) = 1))) from Pu.eql rfl rfl) <| Dq (.bool true) (fun _ => Pu.pickT rfl rfl) <| DM (fun _ => rfl) <| DM (fun _ => rfl) <| Dq (.bool true) (fun _ => show Pu _ _ _ (.bool (decide ((0 : Int) = 0))) from Pu.eql rfl rfl) <| Dq (.bool true) (fun _ => Pu.pickT rfl rfl) <| DM (fun _ => rfl) <| Dm u6 <| Dr rfl (fun _ => Zp (vs := [iv 0]) [[iv 0]] Tryz.runUnderlying92 el3 rfl rfl (by intro e he; simp only [List.mem_cons, List.not_mem_nil, or_false] at he; subst he; exact rfl) rfl (by decide) fun b k h1 h2 => ⟨[k], by rw [ZR rfl]; exact Sub.refl, b, k, rfl, rfl, h1, h2⟩) (fun _ _ ⟨b52, k52, e1, e2, ho52, hk52⟩ => ?_); subst e1 e2
 refine Dc rfl Tryz.call51 (fun _ => rfl) (fun hin => Y3 (r := true) (equalI_ct _ _ _ _ _ (own_ints ho6 (by simp) (hin 22 _ rfl)) (own_ints (l := [0]) ho52 (by simp) (hin 0 _ rfl))) (eqL_true rfl)) ?_
 rintro _ _ ⟨rfl, rfl⟩
 refine Dq (.bool true) (fun _ => Pu.pickT rfl rfl) <| DM (fun _ => rfl) <| Dl Zs (At.bx 19 rfl) (Zt hO11.len) <| Dc rfl Tryz.call48 (fun _ => rfl) (fun hin => va_ct _ _ (by unfold inI; omega)) ?_
 rintro _ _ ⟨cs53, k53, rfl, rfl, hO53⟩
 refine Dc rfl Tryz.call42 (fun _ => rfl) (fun hin => nu_ct _ _ (by unfold inI; omega)) ?_
 rintro _ _ ⟨cs54, k54, rfl, rfl, hO54⟩
 refine Dc rfl Tryz.call47 (fun _ => rfl) (fun hin => ap_ct _ _ hO53.len hO53.ok _ hO54.len hO54.ok) ?_
 rintro _ _ ⟨cs55, k55, rfl, rfl, hC55⟩
 replace hC55 : (cs55.length = 36 ∧ okc cs55 ∧ ∀ h, Has k55 h → RT h cs53 (eVa 0) → RT h cs54 (eNu 5) → RT h cs55 (eAp (eVa 0) (eNu 5))) := ⟨hC55.1, hC55.2.1, hC55.2.2 (eVa 0) (eNu 5)⟩
 refine Dc rfl Tryz.call46 (fun _ => rfl) (fun hin => la_ct _ _ hC55.1 hC55.2.1) ?_
 rintro _ _ ⟨cs56, k56, rfl, rfl, hC56⟩
 replace hC56 : (cs56.length = 36 ∧ okc cs56 ∧ ∀ h, Has k56 h → RT h cs55 (eAp (eVa 0) (eNu 5)) → RT h cs56 (eLa (eAp (eVa 0) (eNu 5)))) := ⟨hC56.1, hC56.2.1, hC56.2.2 (eAp (eVa 0) (eNu 5))⟩
 refine Dc rfl Tryz.call21 (fun _ => rfl) (fun hin => Y3 (r := true) (sameTerm_ct _ _ _ _ _ (hO11.rd (hin 24 _ rfl)) (hC56.2.2 _ (hin 0 _ rfl) (hC55.2.2 _ (hin 1 _ rfl) (hO53.rd (hin 3 _ rfl)) (hO54.rd (hin 2 _ rfl))))) (decide_eq_true rfl)) ?_
 rintro _ _ ⟨rfl, rfl⟩
 refine Dq (.bool true) (fun _ => Pu.pickT rfl rfl) <| DM (fun _ => rfl) <| Dl Zs (At.bx 20 rfl) (Zt hO17.len) <| Dc rfl Tryz.call48 (fun _ => rfl) (fun hin => va_ct _ _ (by unfold inI; omega)) ?_
 rintro _ _ ⟨cs57, k57, rfl, rfl, hO57⟩
 refine Dc rfl Tryz.call48 (fun _ => rfl) (fun hin => va_ct _ _ (by unfold inI; omega)) ?_
 rintro _ _ ⟨cs58, k58, rfl, rfl, hO58⟩
 refine Dc rfl Tryz.call47 (fun _ => rfl) (fun hin => ap_ct _ _ hO57.len hO57.ok _ hO58.len hO58.ok) ?_
 rintro _ _ ⟨cs59, k59, rfl, rfl, hC59⟩
 replace hC59 : (cs59.length = 36 ∧ okc cs59 ∧ ∀ h, Has k59 h → RT h cs57 (eVa 0) → RT h cs58 (eVa 4) → RT h cs59 (eAp (eVa 0) (eVa 4))) := ⟨hC59.1, hC59.2.1, hC59.2.2 (eVa 0) (eVa 4)⟩
 refine Dc rfl Tryz.call46 (fun _ => rfl) (fun hin => la_ct _ _ hC59.1 hC59.2.1) ?_
 rintro _ _ ⟨cs60, k60, rfl, rfl, hC60⟩
 replace hC60 : (cs60.length = 36 ∧ okc cs60 ∧ ∀ h, Has k60 h → RT h cs59 (eAp (eVa 0) (eVa 4)) → RT h cs60 (eLa (eAp (eVa 0) (eVa 4)))) := ⟨hC60.1, hC60.2.1, hC60.2.2 (eAp (eVa 0) (eVa 4))⟩
 refine Dc rfl Tryz.call21 (fun _ => rfl) (fun hin => Y3 (r := true) (sameTerm_ct _ _ _ _ _ (hO17.rd (hin 25 _ rfl)) (hC60.2.2 _ (hin 0 _ rfl) (hC59.2.2 _ (hin 1 _ rfl) (hO57.rd (hin 3 _ rfl)) (hO58.rd (hin 2 _ rfl))))) (decide_eq_true rfl)) ?_
 rintro _ _ ⟨rfl, rfl⟩
 refine Dq (.bool true) (fun _ => Pu.pickT rfl rfl) <| DM (fun _ => rfl) <| Dl Zs (At.bx 22 rfl) (Zt hO19.len) <| Dc rfl Tryz.call48 (fun _ => rfl) (fun hin => va_ct _ _ (by unfold inI; omega)) ?_
 rintro _ _ ⟨cs61, k61, rfl, rfl, hO61⟩
 refine Dc rfl Tryz.call48 (fun _ => rfl) (fun hin => va_ct _ _ (by unfold inI; omega)) ?_
 rintro _ _ ⟨cs62, k62, rfl, rfl, hO62⟩
 refine Dc rfl Tryz.call47 (fun _ => rfl) (fun hin => ap_ct _ _ hO61.len hO61.ok _ hO62.len hO62.ok) ?_
 rintro _ _ ⟨cs63, k63, rfl, rfl, hC63⟩
 replace hC63 : (cs63.length = 36 ∧ okc cs63 ∧ ∀ h, Has k63 h → RT h cs61 (eVa 0) → RT h cs62 (eVa 3) → RT h cs63 (eAp (eVa 0) (eVa 3))) := ⟨hC63.1, hC63.2.1, hC63.2.2 (eVa 0) (eVa 3)⟩
 refine Dc rfl Tryz.call46 (fun _ => rfl) (fun hin => la_ct _ _ hC63.1 hC63.2.1) ?_
 rintro _ _ ⟨cs64, k64, rfl, rfl, hC64⟩
 replace hC64 : (cs64.length = 36 ∧ okc cs64 ∧ ∀ h, Has k64 h → RT h cs63 (eAp (eVa 0) (eVa 3)) → RT h cs64 (eLa (eAp (eVa 0) (eVa 3)))) := ⟨hC64.1, hC64.2.1, hC64.2.2 (eAp (eVa 0) (eVa 3))⟩
 refine Dc rfl Tryz.call21 (fun _ => rfl) (fun hin => Y3 (r := true) (sameTerm_ct _ _ _ _ _ (hO19.rd (hin 27 _ rfl)) (hC64.2.2 _ (hin 0 _ rfl) (hC63.2.2 _ (hin 1 _ rfl) (hO61.rd (hin 3 _ rfl)) (hO62.rd (hin 2 _ rfl))))) (decide_eq_true rfl)) ?_
 rintro _ _ ⟨rfl, rfl⟩
 refine Dq (.bool true) (fun _ => Pu.pickT rfl rfl) <| DM (fun _ => rfl) <| Dq (pp b29 34) (fun _ => Y2 rfl rfl) <| Dl1 Yy (At.bx 13 rfl) (get_l (Yb ..)) <| Dr rfl (fun _ => Zp (vs := [.string (ltr 1)]) [[.string (ltr 1)]] Tryz.runUnderlying28 el9 rfl rfl (by intro e he; simp only [List.mem_cons, List.not_mem_nil, or_false] at he; subst he; exact rfl) rfl (by decide) fun b k h1 h2 => ⟨[k], by rw [ZR rfl]; exact Sub.refl, b, k, rfl, rfl, h1, h2⟩) (fun _ _ ⟨b65, k65, e1, e2, ho65, hk65⟩ => ?_); subst e1 e2
 refine Dc rfl Tryz.call22 (fun _ => rfl) (fun hin => Y3 (r := true) (equalS_ct _ _ _ _ _ (Yc hon28 (by simp) (hin 15 _ rfl)) (Yc (l := [ltr 1]) ho65 (by simp) (hin 0 _ rfl))) (eqL_true rfl)) ?_
 rintro _ _ ⟨rfl, rfl⟩
 refine Dq (.bool true) (fun _ => Pu.pickT rfl rfl) <| DM (fun _ => rfl) <| Dq (pp b29 35) (fun _ => Xd rfl rfl) <| Dl1 ty29 (At.bx 14 rfl) (get_l (Z2 ..)) ?_
 obtain ⟨a66, cap66, hv66⟩ := hok28.sl
 rw [(rfl : List.length [_] = 1)] at hv66
 refine Dn (fun _ => Pu.lenSl Tryz.runUnderlying29 hv66) <| Dq (.bool true) (fun _ => show Pu _ _ _ (.bool (decide ((1 : Int) = 1))) from Pu.eql rfl rfl) <| Dq (.bool true) (fun _ => Pu.pickT rfl rfl) <| DM (fun _ => rfl) <| Dq (pp b29 35) (fun _ => Xd rfl rfl) <| Dl1 ty29 (At.bx 14 rfl) (get_l (Z2 ..)) ?_
 obtain ⟨b67, cap67, row67, hv67, hm67, hs67⟩ := hok28.at' (j := 0) rfl
 refine Dq (pp b67 (0 + 0 * 37)) (fun _ => Pu.idx 0 Tryz.runUnderlying29 Ya hv67 rfl (by first | rfl | omega) (by simp)) <| Dq (pp b67 (0 + 0 * 37 + 34)) (fun _ => Y2 rfl rfl) <| Dl1 Yy (At.k 16 rfl hm67) (sub_get hs67 (get_l (Yb ..))) <| Dr rfl (fun _ => Zp (vs := [.string (ltr 2)]) [[.string (ltr 2)]] Tryz.runUnderlying28 el9 rfl rfl (by intro e he; simp only [List.mem_cons, List.not_mem_nil, or_false] at he; subst he; exact rfl) rfl (by decide) fun b k h1 h2 => ⟨[k], by rw [ZR rfl]; exact Sub.refl, b, k, rfl, rfl, h1, h2⟩) (fun _ _ ⟨b68, k68, e1, e2, ho68, hk68⟩ => ?_); subst e1 e2
 refine Dc rfl Tryz.call22 (fun _ => rfl) (fun hin => Y3 (r := true) (equalS_ct _ _ _ _ _ (Yc hom28 (by simp) (hin 18 _ rfl)) (Yc (l := [ltr 2]) ho68 (by simp) (hin 0 _ rfl))) (eqL_true rfl)) ?_
 rintro _ _ ⟨rfl, rfl⟩
 refine Dq (.bool true) (fun _ => Pu.pickT rfl rfl) <| DM (fun _ => rfl) <| Dq (.agg ⟨sC zS⟩) (fun _ => Pu.build (pv := []) (l := sC zS) rfl bld23_) <| Dc rfl Tryz.call42 (fun _ => rfl) (fun hin => nu_ct _ _ (by unfold inI; omega)) ?_
 rintro _ _ ⟨cs69, k69, rfl, rfl, hO69⟩
 refine Dc rfl Tryz.call48 (fun _ => rfl) (fun hin => va_ct _ _ (by unfold inI; omega)) ?_
 rintro _ _ ⟨cs70, k70, rfl, rfl, hO70⟩
 refine Dr rfl (fun _ => Zp (vs := [.agg ⟨cs69⟩, .agg ⟨cs70⟩]) [cs69, cs70] Tryz.runUnderlying24 el27 rfl rfl (by intro e he; simp only [List.mem_cons, List.not_mem_nil, or_false] at he; rcases he with rfl | rfl <;> first | exact hO69.len | exact hO70.len) rfl (by decide) fun b k h1 h2 => ⟨[k], by rw [ZR rfl]; exact Sub.refl, b, k, rfl, rfl, h1, h2⟩) (fun _ _ ⟨b71, k71, e1, e2, ho71, hk71⟩ => ?_); subst e1 e2
 refine Dc rfl Tryz.call52 (fun _ => rfl) (fun hin => ha_ct _ _ _ _ _) ?_
 rintro _ _ ⟨rfl, rfl⟩
 refine Dc rfl Tryz.call29 (fun _ => rfl) (fun hin => int_r (r := 0) (check_ct (.mk 12 0 zS [eNu 1, eVa 0] []) 0 0 _ _ (RT_mk.2 ⟨_, _, rfl, (by unfold inI; omega), (by unfold inI; omega), (Own.rd2 ho71 (hin 0 _ rfl) (hO69.rd (hin 2 _ rfl)) (hO70.rd (hin 1 _ rfl))), Hs.rdS.nil⟩)) check_h2) ?_
 rintro _ _ ⟨rfl, rfl⟩
 refine Dq (.bool true) (fun _ => show Pu _ _ _ (.bool (decide ((0 : Int) = 0))) from Pu.eql rfl rfl) <| Dq (.bool true) (fun _ => Pu.pickT rfl rfl) <| DM (fun _ => rfl) <| Dq (.agg ⟨sC zS⟩) (fun _ => Pu.build (pv := []) (l := sC zS) rfl bld23_) <| Dc rfl Tryz.call42 (fun _ => rfl) (fun hin => nu_ct _ _ (by unfold inI; omega)) ?_
 rintro _ _ ⟨cs72, k72, rfl, rfl, hO72⟩
 refine Dr rfl (fun _ => Zp (vs := [.agg ⟨cs72⟩]) [cs72] Tryz.runUnderlying24 el27 rfl rfl (by intro e he; simp only [List.mem_cons, List.not_mem_nil, or_false] at he; subst he; exact hO72.len) rfl (by decide) fun b k h1 h2 => ⟨[k], by rw [ZR rfl]; exact Sub.refl, b, k, rfl, rfl, h1, h2⟩) (fun _ _ ⟨b73, k73, e1, e2, ho73, hk73⟩ => ?_); subst e1 e2
 refine ZL (M' := [k73, k72, k71, k70, k69, k68, k65, k64, k63, k62, k61, k60, k59, k58, k57, k56, k55, k54, k53, k52, (BX b29 ((pkT nk28 nn28 nr28 ns28 nks28) ++ ([ncv28] : List Value)) 32), nk128, nk228, mk128, mk228, mk328, k27, k26, k25, k24, (BX b23 cs22 27), k22, k21, (BX b20 cs19 27), k19, (BX b18 cs17 27), k17, k16, (BX b12 cs11 27), k11, k10, k6, (BX b5 cs4 27), k4, k3, k2, k1]) rfl ?_
 show JL _ _ _ [_, _, _, _, _] _ _ _
 refine Jc Tryz.call52 rfl (fun hin => ha_ct _ _ _ _ _) rfl ?_
 rintro _ _ ⟨rfl, rfl⟩
 refine Jc Tryz.call29 rfl (fun hin => int_r (r := 2) (check_ct (.mk 12 0 zS [eNu 1] []) 0 0 _ _ (RT_mk.2 ⟨_, _, rfl, (by unfold inI; omega), (by unfold inI; omega), (Own.rd1 ho73 (hin 0 _ rfl) (hO72.rd (hin 1 _ rfl))), Hs.rdS.nil⟩)) check_h1) rfl ?_
 rintro _ _ ⟨rfl, rfl⟩
 refine JLq (.bool true) (show Pu _ _ _ (.bool (decide ((2 : Int) = 2))) from Pu.eql rfl rfl) <| JLq (.bool true) (Pu.pickT rfl rfl) <| JLA rfl <| Zb <| Zh <| ⟨.bool true, [], Ret.one rfl (RV.tmp rfl), Sub.nil, ?_⟩
 exact ⟨rfl, rfl⟩
end Go.Proofs.YtmophpgiaiemhaaGreat.Hs
/-! Walks, printed by a program of this session's own (gen.py). -/
namespace Go.Proofs.YtmophpgiaiemhaaGreat.Hs
open Go Go.Proofs
set_option maxRecDepth 100000
set_option linter.unusedVariables false
set_option linter.unusedSimpArgs false
attribute [local irreducible] JL J CT wlo DT
theorem told_ct (a b : Tm) (e w : Int) (cs ws : List Value) (k : Zj) (H : Heap) (hO : OT a cs k) (hb : RT H ws b) : CT Tryz.prog 20 ⟨[.agg ⟨cs⟩, .agg ⟨ws⟩, iv e, iv w]⟩ [k] H (fun v N => v = .bool (decide (e = w) && decide (a = b)) ∧ N = []) := by
 refine Zm Tryz.func20 rfl rfl <| Zc <| Za <| JLr (Zo (l := cs) rfl rfl fun b1 => JLr (Zo (l := ws) rfl rfl fun b2 => JLA rfl <| Zb <| Zc <| Za <| JLM rfl <| JLM rfl <| JLn (Pu.eql rfl rfl) <| JLM rfl ?_))
 cases h3 : (decide (e = w)) with
 | true =>
  replace h3 := dt h3
  refine JLr (Zg Zs rfl (At.bx 1 rfl) (Zt hO.len) <| JLr (Zg Zs rfl (At.bx 0 rfl) (Zt (Zv hb)) <| Jc Tryz.call21 rfl (fun hin => sameTerm_ct _ _ _ _ _ (hO.rd (hin 2 _ rfl)) (RT.mono (Hle.hu _ _) hb)) rfl ?_))
  rintro _ _ ⟨rfl, rfl⟩
  refine JLq (.bool (decide (a = b))) (Pu.pickT rfl rfl) <| JLA rfl <| Zb <| Zc <| Za <| JLr (Zg Zs rfl (At.bx 1 rfl) (Zt hO.len) <| ZD 2 rfl Tryz.call72 rfl rfl (fun hin => spoil_ct _ _ _ _ hO) rfl ?_)
  rintro _ _ ⟨rfl, rfl⟩
  refine Zb <| Zc <| Za <| JLM rfl <| JLA rfl <| Zb <| Zh <| ⟨.bool (decide (a = b)), [], Ret.one rfl (RV.tmp rfl), Sub.nil, ?_⟩
  exact ⟨by simp_all, rfl⟩
 | false =>
  replace h3 := df h3
  iterate 3 refine ZC rfl ?_
  refine JLq (.bool false) (Pu.pickF rfl rfl) <| JLA rfl <| Zb <| Zc <| Za <| JLr (Zg Zs rfl (At.bx 1 rfl) (Zt hO.len) <| ZD 2 rfl Tryz.call72 rfl rfl (fun hin => spoil_ct _ _ _ _ hO) rfl ?_)
  rintro _ _ ⟨rfl, rfl⟩
  refine Zb <| Zc <| Za <| JLM rfl <| JLA rfl <| Zb <| Zh <| ⟨.bool false, [], Ret.one rfl (RV.tmp rfl), Sub.nil, ?_⟩
  exact ⟨by simp_all, rfl⟩
end Go.Proofs.YtmophpgiaiemhaaGreat.Hs
/-! Walks, printed by a program of this session's own (gen.py). -/
namespace Go.Proofs.YtmophpgiaiemhaaGreat.Hs
open Go Go.Proofs
set_option maxRecDepth 100000
set_option linter.unusedVariables false
set_option linter.unusedSimpArgs false
attribute [local irreducible] JL J CT wlo DT
set_option maxHeartbeats 8000000 in
theorem names_law (t : Tm) (n : Nm) (s : List ByteArray) (cs ns : List Value) (v : Value) (H : Heap) (ht : RT H cs t) (hn_ : RN H ns n) (hs : strR H v s) (hz : wnN n ≤ 2000000) : CT Tryz.prog 3 ⟨[.agg ⟨cs⟩, .agg ⟨ns⟩, v]⟩ [] H (fun v N => v = .bool true ∧ N = []) := by
 refine Zm Tryz.func3 rfl rfl <| Zc <| Za <| JLr (Zo (l := cs) rfl rfl fun b1 => JLr (Zo (l := ns) rfl rfl fun b2 => JLA rfl <| Zb <| Zc <| Zc <| Za <| JLr (Zg Zs rfl (At.bx 1 rfl) (Zt (Zv ht)) <| Jc Tryz.call5 rfl (fun hin => great_ct _ _ _ (RT.mono (Hle.hu _ _) ht)) rfl ?_)))
 rintro _ _ ⟨rfl, rfl⟩
 refine JLM rfl <| Zx 2 [22, 23] [(23, cond ((cnT stG 0 t 0).1) undef (.bool ((wdN n 0).1)))] ?_ fun f4 => ?_
 ·cases h3 : ((cnT stG 0 t 0).1) with
  | false =>
   refine JLr (Zg Ya rfl (At.bx 0 rfl) (Zt (ZV hn_)) <| Jc Tryz.call6 rfl (fun hin => wide_ct _ _ _ (RN.mono (Hle.hu _ _) hn_) (by omega)) rfl ?_)
   rintro _ _ ⟨rfl, rfl⟩
   exact Zb ⟨⟨rfl, trivial⟩, rfl⟩
  | true =>
   exact ZG rfl ⟨rfl, trivial⟩
 refine JLn (Pu.pickOr rfl rfl rfl) <| JLM rfl <| Zx 3 [26, 27, 28] [(28, cond (((cnT stG 0 t 0).1) || ((wdN n 0).1)) undef (.bool (decide (100 < (s.length : Int)))))] ?_ fun f7 => ?_
 ·cases h5 : (((cnT stG 0 t 0).1) || ((wdN n 0).1)) with
  | false =>
   obtain ⟨h5a, h5b⟩ := orF h5
   refine JLm v ?_
   obtain ⟨a6, cap6, hv6⟩ := hs.rd.sl
   have hle6 := hs.rd.le
   refine JLn (Pu.lenSl Tryz.runUnderlying28 hv6) <| JLn (Pu.gtr rfl rfl) ?_
   exact Zb ⟨⟨rfl, trivial⟩, rfl⟩
  | true =>
   exact ZG rfl ⟨rfl, trivial⟩
 refine JLn (Pu.pickOr rfl rfl rfl) <| JLM rfl <| Zx 2 [31, 32] [(32, cond ((((cnT stG 0 t 0).1) || ((wdN n 0).1)) || (decide (100 < (s.length : Int)))) undef (.bool (s.any Xt)))] ?_ fun f9 => ?_
 ·cases h8 : ((((cnT stG 0 t 0).1) || ((wdN n 0).1)) || (decide (100 < (s.length : Int)))) with
  | false =>
   obtain ⟨h8a, h8b⟩ := orF h8
   obtain ⟨h8aa, h8ab⟩ := orF h8a
   replace h8b := df h8b
   refine JLm v <| Jc Tryz.call7 rfl (fun hin => XL 8 [] [] Tryz.call8 Xt _ _ _ (RSs.mono (Hle.hu _ _) hs.rd) (fun x hx h hh => names1_ct x h)) rfl ?_
   rintro _ _ ⟨rfl, rfl⟩
   exact Zb ⟨⟨rfl, trivial⟩, rfl⟩
  | true =>
   exact ZG rfl ⟨rfl, trivial⟩
 refine JLn (Pu.pickOr rfl rfl rfl) <| Zb <| Zf rfl (fun h10 => ?_) (fun h10 => ?_)
 ·refine Zc <| Za <| Jc Tryz.call9 rfl (fun hin => awake_ct _) rfl ?_
  rintro _ _ ⟨rfl, rfl⟩
  refine JLA rfl <| Zb <| Zh <| ⟨.bool true, [], Ret.one rfl (RV.tmp rfl), Sub.nil, ?_⟩
  exact ⟨rfl, rfl⟩
 obtain ⟨h10a, h10b⟩ := orF h10
 obtain ⟨h10aa, h10ab⟩ := orF h10a
 obtain ⟨h10aaa, h10aab⟩ := orF h10aa
 replace h10ab := df h10ab
 refine Zi <| Zc ?_
 have hgt : sizeT t ≤ 400 := great_size (by simp_all)
 have hwd : wnN n ≤ 361000 := wd_small (by simp_all)
 have hsl : s.length ≤ 100 := by have := h10; simp_all; omega
 have hne_ := nE_wn t s
 refine ZF mixed #[0, 1, 0, 7, 15, 0, 63, 0, 0, 511, 1023, 2047] 9 [some 35, some 36, some 37, some 38, some 39, some 40, some 41, some 7, some 8] [] [(1, fun _ _ vw qw => ∃ cs k, vw = .agg ⟨cs⟩ ∧ qw = [k] ∧ OT t cs k), (3, fun _ _ vw qw => ∃ cs k, vw = .agg ⟨cs⟩ ∧ qw = [k] ∧ OM n cs k), (4, fun _ _ vw qw => ∃ cs k, vw = .agg ⟨cs⟩ ∧ qw = [k] ∧ ON n cs k), (6, fun _ _ vw qw => ∃ k, qw = [k] ∧ Own 9 1 vw (Z0 s) k), (7, newP 27 (pkT 0 0 zS nS nS)), (8, newP 32 (pkN 0 0 zS nS nS nS))] rfl (by kernel_rfl) rfl (by kernel_rfl) <| Dl Zs (At.bx 1 rfl) (Zt (Zv ht)) <| Dc rfl Tryz.call10 (fun _ => rfl) (fun hin => ownTerm_ct _ _ _ (RT.mono (Hle.hu _ _) ht) (by omega)) ?_
 rintro _ _ ⟨cs17, k17, rfl, rfl, hO17⟩
 refine Dl Ya (At.bx 0 rfl) (Zt (ZV hn_)) <| Dc rfl Tryz.call12 (fun _ => rfl) (fun hin => theirs_ct _ _ _ (RN.mono (Hle.hu _ _) hn_) (by omega)) ?_
 rintro _ _ ⟨cs18, k18, rfl, rfl, hO18⟩
 refine Dc rfl Tryz.call11 (fun _ => rfl) (fun hin => ours_ct _ _ _ (hO18.rd (hin 0 _ rfl)) (by omega)) ?_
 rintro _ _ ⟨cs19, k19, rfl, rfl, hO19⟩
 refine Dm v <| Dc rfl Tryz.call13 (fun _ => rfl) (fun hin => cloneS_ct _ _ _ (RSs.mono (Hle.hu _ _) hs.rd) (by omega)) ?_
 rintro u20 _ ⟨k20, rfl, ho20⟩
 refine Da Tryz.zeroValue27 rfl fun b21 => Da Tryz.zeroValue32 rfl fun b22 => ZL (M' := [(BX b22 (pkN 0 0 zS nS nS nS) 32), (BX b21 (pkT 0 0 zS nS nS) 27), k20, k19, k18, k17, (BX b2 ns 32), (BX b1 cs 27)]) rfl ?_
 show JL _ _ _ [_, _, _] _ _ _
 refine JLr (Zd 1 (vs := cs17) (l := cs17) Zs rfl rfl rfl rfl hO17.len hO17.ok (ZM (n := 36) rfl hO17.len) <| JLr (Zd 0 (vs := cs19) (l := cs19) Ya rfl rfl rfl rfl hO19.len hO19.ok (ZM (n := 37) rfl hO19.len) <| JLa u20 <| Zb <| Zc <| Za <| JLr (Zg Zs rfl (At.bx 7 rfl) (Zt (Zv ht)) <| Jc Tryz.call14 rfl (fun hin => rightL_ct _ _ _ (RT.mono (Hle.hu _ _) ht) (by omega)) rfl ?_)))
 rintro _ _ ⟨rfl, rfl⟩
 refine JLM rfl <| JLn (Pu.extract rfl rfl) <| JLn (Pu.extract rfl rfl) <| JLA rfl <| JLA rfl <| Zb <| Zc <| Za <| JLr (Zn (l := pkN 0 0 zS nS nS nS) Tryz.zeroValue43 rfl fun b23 => Zb <| Zc <| Zc <| ZJ (M' := [[], (BX b23 (pkN 0 0 zS nS nS nS) 43), (BX b22 cs19 32), (BX b21 cs17 27), k20, k19, k18, k17, (BX b2 ns 32), (BX b1 cs 27)]) (Sub.emp Sub.refl) ?_)
 refine Za <| JLM rfl <| Zb <| J_weak (N := fun ρ M => ∃ (qc : List Value) (qk : Zj), (OM (YJ t s).1 qc qk) ∧ ρ 2 = v ∧ ρ 3 = pp b1 0 ∧ ρ 4 = pp b2 0 ∧ ρ 6 = .bool false ∧ ρ 7 = pp b21 0 ∧ ρ 8 = pp b22 0 ∧ ρ 9 = u20 ∧ ρ 11 = iv ((YJ t s).2) ∧ ρ 12 = pp b23 0 ∧ M = [qk, (BX b23 qc 43), (BX b22 cs19 32), (BX b21 cs17 27), k20, k19, k18, k17, (BX b2 ns 32), (BX b1 cs 27)]) ?_ ?_
 ·refine Zf rfl (fun h24 => ?_) (fun h24 => ?_)
  ·replace h24 := dt h24
   refine Za <| JLr (Zg Zs rfl (At.bx 9 rfl) (Zt (Zv ht)) <| JLm v <| Jc Tryz.call15 rfl (fun hin => nameR_ct _ _ _ _ _ (RT.mono (Hle.hu _ _) ht) (strR.mono (Hle.hu _ _) hs) (by omega) (by rw [rightT_one]; assumption)) rfl ?_)
   rintro _ _ ⟨cs25, k25, rfl, rfl, hO25⟩
   refine JLM rfl <| JLn (Pu.extract rfl rfl) <| JLn (Pu.extract rfl rfl) <| JLr (Zd 2 (vs := cs25) (l := cs25) Y8 rfl rfl rfl rfl hO25.len hO25.ok (ZM (n := 37) rfl hO25.len) <| JLA rfl <| JL_sub (Sk (Sd (Sk (Sk (Sk (Sk (Sk (Sk (Sk (Sk (Sk Sub.nil))))))))))) <| Zb ?_)
   exact ⟨cs25, k25, hO25, rfl, rfl, rfl, rfl, rfl, rfl, rfl, rfl, rfl, rfl⟩
  replace h24 := df h24
  refine Zi ?_
  rw [nE_not (t := t) (s := s) (by assumption)]
  exact ⟨(pkN 0 0 zS nS nS nS), [], OM_zero, rfl, rfl, rfl, rfl, rfl, rfl, rfl, rfl, rfl, rfl⟩
 rintro ρ26 _ ⟨qc, qk, hqo, e27, e28, e29, e30, e31, e32, e33, e34, e35, rfl⟩
 obtain ⟨ρ36, rfl⟩ := Zr (uc e27 (uc e28 (uc e29 (uc e30 (uc e31 (uc e32 (uc e33 (uc e34 (uc e35 un)))))))))
 clear e27 e28 e29 e30 e31 e32 e33 e34 e35
 refine Zc <| Za <| JLr (Zg Ya rfl (At.bx 8 rfl) (Zt (ZV hn_)) <| Jc Tryz.call12 rfl (fun hin => theirs_ct _ _ _ (RN.mono (Hle.hu _ _) hn_) (by omega)) rfl ?_)
 rintro _ _ ⟨cs37, k37, rfl, rfl, hO37⟩
 refine JLm v <| Jc Tryz.call16 rfl (fun hin => namelessER_ct _ _ _ _ _ (hO37.rd (hin 0 _ rfl)) (strR.mono (Hle.hu _ _) hs).rd (by omega) (by omega)) rfl ?_
 rintro _ _ ⟨cs38, k38, rfl, rfl, hO38⟩
 refine JLM rfl <| JLn (Pu.extract rfl rfl) <| JLn (Pu.extract rfl rfl) <| JLr (Zn (l := pkT 0 0 zS nS nS) Tryz.zeroValue27 rfl fun b39 => JLr (Zd 0 (vs := cs38) (l := cs38) Zs rfl rfl rfl rfl hO38.len hO38.ok (ZM (n := 36) rfl hO38.len) <| JLA rfl <| Zb <| Zc <| Za <| JLr (Zg Zs rfl (At.bx 6 rfl) (Zt hO17.len) <| JLm u20 <| Jc Tryz.call17 rfl (fun hin => nameG2_ct _ _ _ _ _ (hO17.rd (hin 10 _ rfl)) (strR.own ho20 (by omega) (hin 7 _ rfl)) (by omega)) rfl ?_)))
 rintro _ _ ⟨cs40, k40, rfl, rfl, hO40⟩
 refine JLM rfl <| JLn (Pu.extract rfl rfl) <| JLn (Pu.extract rfl rfl) <| JLr (Zn (l := pkN 0 0 zS nS nS nS) Tryz.zeroValue32 rfl fun b41 => JLr (Zd 0 (vs := cs40) (l := cs40) Ya rfl rfl rfl rfl hO40.len hO40.ok (ZM (n := 37) rfl hO40.len) <| JLA rfl <| Zb <| Zc <| Za <| JLr (Zg Ya rfl (At.bx 7 rfl) (Zt hO19.len) <| JLm u20 <| Jc Tryz.call18 rfl (fun hin => namelessE_ct _ _ _ _ _ (hO19.rd (hin 10 _ rfl)) (strR.own ho20 (by omega) (hin 9 _ rfl))) rfl ?_)))
 rintro _ _ ⟨cs42, k42, rfl, rfl, hO42⟩
 refine JLM rfl <| JLn (Pu.extract rfl rfl) <| JLn (Pu.extract rfl rfl) <| JLr (Zn (l := pkT 0 0 zS nS nS) Tryz.zeroValue27 rfl fun b43 => JLr (Zd 0 (vs := cs42) (l := cs42) Zs rfl rfl rfl rfl hO42.len hO42.ok (ZM (n := 36) rfl hO42.len) <| JLA rfl <| Zb <| Zc <| ZF mixed #[0, 0, 3, 7, 15, 15, 47, 127, 255, 511, 1023, 1023, 1023, 1023, 16383, 32767, 65535, 131071, 131071, 524287, 1048575, 2097151, 4194303, 4194303, 16777215, 33554431, 67108863, 134217727, 134217727, 536870911, 1073741823, 2147483647, 4294967295, 8589934591, 17179869183] 29 [some 73, some 74, some 75, some 76, some 77, some 78, some 79, some 80, some 81, some 82, some 83, some 84, some 85, some 86, some 87, some 88, some 89, some 90, some 91, some 92, some 93, some 94, some 95, some 96, some 97, some 98, some 99, some 100, some 101] [(14, 30)] [(6, fun _ _ vw qw => ∃ cs k, vw = .agg ⟨cs⟩ ∧ qw = [k] ∧ ON ((YJ t s).1) cs k), (7, fun _ _ vw qw => vw = .bool true ∧ qw = []), (14, fun _ _ vw qw => vw = .bool true ∧ qw = []), (19, fun _ _ vw qw => vw = .bool true ∧ qw = []), (24, fun _ _ vw qw => vw = .bool true ∧ qw = [])] rfl (by kernel_rfl) rfl (by kernel_rfl) <| DM (fun _ => rfl) <| DM (fun _ => rfl) <| Dq (.bool true) (fun _ => (Pu.eql rfl rfl).decT rfl) <| DM (fun _ => rfl) ?_))
 refine Dl Ya (At.bx 2 rfl) (Zt hO40.len) <| Dl Y8 (At.bx 8 rfl) (Zt hqo.len) <| Dc rfl Tryz.call11 (fun _ => rfl) (fun hin => ours_ct _ _ _ (hqo.rd (hin 7 _ rfl)) (by omega)) ?_
 rintro _ _ ⟨cs45, k45, rfl, rfl, hO45⟩
 refine Dc rfl Tryz.call19 (fun _ => rfl) (fun hin => Y3 (r := true) (sameNamed_ct _ _ _ _ _ (hO40.rd (hin 4 _ rfl)) (hO45.rd (hin 0 _ rfl))) (decide_eq_true rfl)) ?_
 rintro _ _ ⟨rfl, rfl⟩
 refine Dq (.bool true) (fun _ => Pu.pickT rfl rfl) <| DM (fun _ => rfl) <| Dl Zs (At.bx 1 rfl) (Zt hO42.len) <| Dl Zs (At.bx 5 rfl) (Zt hO38.len) <| DM (fun _ => rfl) <| DM (fun _ => rfl) <| DJ_call1 2 rfl rfl (fun _ => rfl) Tryz.call20 (fun _ => rfl) rfl (fun hin => Y3 (r := true) (told_ct _ _ _ _ _ _ _ _ hO42 (hO38.rd (hin 5 _ rfl))) (by simp)) (fun _ => rfl) ?_
 rintro _ _ ⟨rfl, rfl⟩
 refine Dq (.bool true) (fun _ => Pu.pickT rfl rfl) <| DM (fun _ => rfl) <| Dl Zs (At.bx 10 rfl) (Zt hO17.len) <| Dl Zs (At.bx 16 rfl) (Zt (Zv ht)) <| Dc rfl Tryz.call21 (fun _ => rfl) (fun hin => Y3 (r := true) (sameTerm_ct _ _ _ _ _ (hO17.rd (hin 14 _ rfl)) (RT.mono (Hle.hu _ _) ht)) (decide_eq_true rfl)) ?_
 rintro _ _ ⟨rfl, rfl⟩
 refine Dq (.bool true) (fun _ => Pu.pickT rfl rfl) <| DM (fun _ => rfl) <| Dl Ya (At.bx 9 rfl) (Zt hO19.len) <| Dl Ya (At.bx 15 rfl) (Zt (ZV hn_)) <| Dc rfl Tryz.call19 (fun _ => rfl) (fun hin => Y3 (r := true) (sameNamed_ct _ _ _ _ _ (hO19.rd (hin 12 _ rfl)) (RN.mono (Hle.hu _ _) hn_)) (decide_eq_true rfl)) ?_
 rintro _ _ ⟨rfl, rfl⟩
 refine Dq (.bool true) (fun _ => Pu.pickT rfl rfl) <| DM (fun _ => rfl) <| Dm u20 <| Dm v <| ZL (M' := [k45, (BX b43 cs42 27), (BX b41 cs40 32), k40, (BX b39 cs38 27), k38, k37, qk, (BX b23 qc 43), (BX b22 cs19 32), (BX b21 cs17 27), k20, k19, k18, k17, (BX b2 ns 32), (BX b1 cs 27)]) rfl ?_
 show JL _ _ _ [_, _, _, _, _, _] _ _ _
 refine Jc Tryz.call22 rfl (fun hin => Y3 (r := true) (equalS_ct _ _ _ _ _ (strR.own ho20 (by omega) (hin 11 _ rfl)).rd (strR.mono (Hle.hu _ _) hs).rd) (eqL_iff.2 rfl)) rfl ?_
 rintro _ _ ⟨rfl, rfl⟩
 refine JLq (.bool true) (Pu.pickT rfl rfl) <| JLM rfl <| Jc Tryz.call9 rfl (fun hin => awake_ct _) rfl ?_
 rintro _ _ ⟨rfl, rfl⟩
 refine JLq (.bool true) (Pu.pickT rfl rfl) <| JLA rfl <| Zb <| Zh <| ⟨.bool true, [], Ret.one rfl (RV.tmp rfl), Sub.nil, ?_⟩
 exact ⟨rfl, rfl⟩
end Go.Proofs.YtmophpgiaiemhaaGreat.Hs
