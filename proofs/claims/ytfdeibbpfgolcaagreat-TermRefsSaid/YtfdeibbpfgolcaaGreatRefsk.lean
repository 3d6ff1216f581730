import Derived.Test.YtfdeibbpfgolcaaGreatRefsj
/-! Walks, printed by a program of this session's own (gen.py). -/
namespace Go.Proofs.YtfdeibbpfgolcaaGreat.Hs
open Go Go.Proofs
set_option maxRecDepth 100000
set_option linter.unusedVariables false
set_option linter.unusedSimpArgs false
attribute [local irreducible] JL J CT wlo DT
theorem spoil_ct : ∀ (t : Tm) (cs : List Value) (k : Zh) (H : Heap), OT t cs k → CT Tryz.prog 62 ⟨[.agg ⟨cs⟩]⟩ [k] H (fun v N => v = .tuple ⟨[]⟩ ∧ N = []) := by
 intro t
 induction t using Tm.ind with
 | h kind num ref kids cases ih ih' =>
 intro cs k H hO
 obtain ⟨ks, cv, es, es', k1, k2, k3, k4, rfl, hk, hn, ho1, ho2, ho3, ho4, rfl, hlK, hlC⟩ := OT_mk.1 hO
 refine Zn Tryz.func62 rfl rfl <| ZI (M' := [k1, k2, k3, k4]) (Sub.flat Sub.refl (by simp)) <| Zc <| Za <| JLr (Zo (l := pkT kind num ref ks cv) rfl rfl fun b1 => Zb <| Zc <| Zc <| Za <| JLq (pp b1 34) (ZY rfl rfl) <| JLr (Zd YA rfl (At.bx 0 rfl) (ZV ..) ?_))
 obtain ⟨a2, cap2, hv2⟩ := ho1.sl
 rw [(OTs_len ho2)] at hv2
 refine JLn (Pu.lenSl Tryz.runUnderlying24 hv2) <| JLM rfl <| Zb <| Zk <| ZF (fun k ρ M => ∃ (j : Nat) (es5 : List (List Value)) (k5 c0 : Zh), ρ 1 = pp b1 0 ∧ ρ 7 = iv ((kids.length : Int)) ∧ ρ 8 = iv ((j : Int)) ∧ Sub [(BX b1 (pkT kind num ref ks cv) 27), k5, c0, k3, k4] M ∧ j ≤ kids.length ∧ Own 27 36 ks es5 k5 ∧ es5.length = kids.length ∧ OTs (kids.drop j) (es5.drop j) c0 ∧ k = kids.length - j) _ ⟨0, es, k1, k2, rfl, rfl, rfl, (Sk (Sk (Sk (Sk (Sk Sub.nil))))), Nat.zero_le _, ho1, OTs_len ho2, by simpa using ho2, rfl⟩ ?_
 rintro _ ρ3 _ ⟨j, es5, k5, c0, e4, e5, e6, hm7, hj, ho5, hl5, hr5, rfl⟩
 obtain ⟨ρ8, rfl⟩ := Zu (uc e4 (uc e5 (uc e6 un)))
 clear e4 e5 e6
 refine ZI hm7 <| Zc <| Za <| JLn (Pu.lss rfl rfl) <| Zb <| Zc <| Zf rfl (fun h9 => ?_) (fun h9 => ?_)
 ·replace h9 := dt h9
  have h9n : j < kids.length := by omega
  obtain ⟨e5, kc5, c5, hE, hO5, rfl, hR5⟩ := OTs.take hr5 h9n
  refine ZI (M' := [(BX b1 (pkT kind num ref ks cv) 27), k5, kc5, c5, k3, k4]) (Sub.flat Sub.refl (by simp)) <| Zj <| Zc <| Zk <| Zc <| Za <| JLM rfl <| JLA rfl <| Zb <| Zc <| Za <| JLq (pp b1 34) (ZY rfl rfl) <| JLr (Zd YA rfl (At.bx 0 rfl) (ZV ..) ?_)
  refine JLM rfl ?_
  obtain ⟨b10, cap10, row10, hv10, hm10, hs10⟩ := ho5.at' hE
  refine JLq (pp b10 (0 + j * 36)) (Pu.idx j Tryz.runUnderlying24 Zt hv10 rfl rfl (by rw [hl5]; exact h9n)) <| JLr (Zg Zt rfl (At.k 1 rfl hm10) hs10 <| Zw 2 rfl Tryz.call62 rfl rfl (fun hin => ih _ (List.getElem_mem h9n) _ _ _ hO5) rfl ?_)
  rintro _ _ ⟨rfl, rfl⟩
  refine Zb <| Za <| JLq (pp b1 34) (ZY rfl rfl) <| JLr (Zd YA rfl (At.bx 0 rfl) (ZV ..) <| JLM rfl <| JLq (.agg ⟨pkT 98 0 zS nS nS⟩) (Pu.build (pv := [(0, iv 98)]) (l := pkT 98 0 zS nS nS) rfl (bld27_0 _)) ?_)
  obtain ⟨b11, cap11, row11, hv11, hm11, hs11⟩ := ho5.at' hE
  refine JLq (pp b11 (0 + j * 36)) (Pu.idx j Tryz.runUnderlying24 Zt hv11 rfl rfl (by rw [hl5]; exact h9n)) <| JLr (Yr (i := 1) (j := j) (b := b11) Zt rfl ho5 ⟨_, _, hv11⟩ rfl (by rw [hl5]; exact h9n) rfl rfl rfl (Z2 rfl rfl) fun k12 ho12 => Zb <| Za <| JLn (Pu.inc rfl rfl (by omega)) <| JLM rfl <| Zb <| ⟨_, ?_, (j + 1), (es5.set j (pkT 98 0 zS nS nS)), k12, c5, rfl, rfl, rfl, (Sk (Sk (Sk (Sk (Sk Sub.nil))))), ?_, ?_, ?_, ?_, rfl⟩)
  ·omega
  ·omega
  ·exact ho12
  ·rw [List.length_set]; exact hl5
  exact hR5 _
 replace h9 := df h9
 have h9n : kids.length ≤ j := by omega
 refine Zy _ rfl <| Zc <| Za <| JLq (pp b1 35) (ZP rfl rfl) <| JLr (Zd Ym rfl (At.bx 0 rfl) (ZO ..) ?_)
 obtain ⟨a13, cap13, hv13⟩ := ho3.sl
 rw [(OCs_len ho4)] at hv13
 refine JLn (Pu.lenSl Tryz.runUnderlying25 hv13) <| JLM rfl <| Zb <| Zk <| ZF (fun k ρ M => ∃ (j : Nat) (es7 : List (List Value)) (k7 c1 : Zh), ρ 1 = pp b1 0 ∧ ρ 25 = iv ((cases.length : Int)) ∧ ρ 26 = iv ((j : Int)) ∧ Sub [(BX b1 (pkT kind num ref ks cv) 27), k7, c1] M ∧ j ≤ cases.length ∧ Own 56 71 cv es7 k7 ∧ es7.length = cases.length ∧ OCs (cases.drop j) (es7.drop j) c1 ∧ k = cases.length - j) _ ⟨0, es', k3, k4, rfl, rfl, rfl, (Sk (Sd (Sd (Sk (Sk Sub.nil))))), Nat.zero_le _, ho3, OCs_len ho4, by simpa using ho4, rfl⟩ ?_
 rintro _ ρ14 _ ⟨j, es7, k7, c1, e15, e16, e17, hm18, hj, ho7, hl7, hr6, rfl⟩
 obtain ⟨ρ19, rfl⟩ := Zu (uc e15 (uc e16 (uc e17 un)))
 clear e15 e16 e17
 refine ZI hm18 <| Zc <| Za <| JLn (Pu.lss rfl rfl) <| Zb <| Zc <| Zf rfl (fun h20 => ?_) (fun h20 => ?_)
 ·replace h20 := dt h20
  have h20n : j < cases.length := by omega
  obtain ⟨kk6, n6, r6, ks6, e6, esp6, q6, kp6, kq6, kc6, c6, hE, hOp, hq6, hq66, hO6, rfl, hR6⟩ := OCs.take hr6 h20n
  refine ZI (M' := [(BX b1 (pkT kind num ref ks cv) 27), k7, kp6, kq6, kc6, c6]) (Sub.flat Sub.refl (by simp)) <| Zj <| Zc <| Zk <| Zc <| Za <| JLM rfl <| JLA rfl <| Zb <| Zc <| Za <| JLq (pp b1 35) (ZP rfl rfl) <| JLr (Zd Ym rfl (At.bx 0 rfl) (ZO ..) ?_)
  refine JLM rfl ?_
  obtain ⟨b21, cap21, row21, hv21, hm21, hs21⟩ := ho7.at' hE
  refine JLq (pp b21 (0 + j * 71)) (Pu.idx j Tryz.runUnderlying25 Yl hv21 rfl rfl (by rw [hl7]; exact h20n)) <| JLq (pp b21 (0 + j * 71 + 35)) (Y9 rfl rfl) <| JLr (Zg Zt rfl (At.k 1 rfl hm21) (sub_sub hs21 (sub_r rfl hO6.len)) <| Zw 4 rfl Tryz.call62 rfl rfl (fun hin => ih' _ (List.getElem_mem h20n) _ _ _ hO6) rfl ?_)
  rintro _ _ ⟨rfl, rfl⟩
  refine Zb <| Zc <| Zc <| Za <| JLq (pp b1 35) (ZP rfl rfl) <| JLr (Zd Ym rfl (At.bx 0 rfl) (ZO ..) <| JLM rfl ?_)
  obtain ⟨b22, cap22, row22, hv22, hm22, hs22⟩ := ho7.at' hE
  refine JLq (pp b22 (0 + j * 71)) (Pu.idx j Tryz.runUnderlying25 Yl hv22 rfl rfl (by rw [hl7]; exact h20n)) <| JLq (pp b22 (0 + j * 71)) (YE rfl rfl) <| JLq (pp b22 (0 + j * 71 + 34)) (ZX rfl rfl) <| JLr (Zd Yz rfl (At.k 1 rfl hm22) (sub_get hs22 (get_l (Z3 ..))) ?_)
  obtain ⟨a23, cap23, hv23⟩ := hOp.sl
  rw [hq6] at hv23
  refine JLn (Pu.lenSl Tryz.runUnderlying52 hv23) <| JLM rfl <| Zb <| Zk <| ZF (fun k ρ M => ∃ (i : Nat) (es8 : List (List Value)) (k8 : Zh), ρ 1 = pp b1 0 ∧ ρ 3 = iv ((j : Int)) ∧ ρ 25 = iv ((cases.length : Int)) ∧ ρ 26 = iv ((j : Int)) ∧ ρ 43 = iv ((q6 : Int)) ∧ ρ 44 = iv ((i : Int)) ∧ Sub [k8, (BX b1 (pkT kind num ref ks cv) 27), k7, kq6, c6] M ∧ i ≤ q6 ∧ Own 54 35 ks6 es8 k8 ∧ es8.length = q6 ∧ k = q6 - i) _ ⟨0, esp6, kp6, rfl, rfl, rfl, rfl, rfl, rfl, (Sub.cons 2 rfl (Sk (Sk (Sk (Sk Sub.nil))))), Nat.zero_le _, hOp, hq6, rfl⟩ ?_
  rintro _ ρ24 _ ⟨i, es8, k8, e25, e26, e27, e28, e29, e30, hm31, hi, ho8, hl8, rfl⟩
  obtain ⟨ρ32, rfl⟩ := Zu (uc e25 (uc e26 (uc e27 (uc e28 (uc e29 (uc e30 un))))))
  clear e25 e26 e27 e28 e29 e30
  refine ZI hm31 <| Zc <| Za <| JLn (Pu.lss rfl rfl) <| Zb <| Zc <| Zf rfl (fun h33 => ?_) (fun h33 => ?_)
  ·replace h33 := dt h33
   have h33n : i < q6 := by omega
   refine Zj <| Zc <| Zk <| Zc <| Za <| JLM rfl <| JLA rfl <| Zb <| Za <| JLq (pp b1 35) (ZP rfl rfl) <| JLr (Zd Ym rfl (At.bx 1 rfl) (ZO ..) <| JLM rfl ?_)
   obtain ⟨b34, cap34, row34, hv34, hm34, hs34⟩ := ho7.at' hE
   refine JLq (pp b34 (0 + j * 71)) (Pu.idx j Tryz.runUnderlying25 Yl hv34 rfl rfl (by rw [hl7]; exact h20n)) <| JLq (pp b34 (0 + j * 71)) (YE rfl rfl) <| JLq (pp b34 (0 + j * 71 + 34)) (ZX rfl rfl) <| JLr (Zd Yz rfl (At.k 2 rfl hm34) (sub_get hs34 (get_l (Z3 ..))) <| JLM rfl <| JLq (.agg ⟨pkP 98 0 zS nS⟩) (Pu.build (pv := [(0, iv 98)]) (l := pkP 98 0 zS nS) rfl (bld54_0 _)) ?_)
   obtain ⟨b35, cap35, row35, hv35, hm35, hs35⟩ := ho8.at (j := i) (by rw [hl8]; exact h33n)
   refine JLq (pp b35 (0 + i * 35)) (Pu.idx i Tryz.runUnderlying52 ZQ hv35 rfl rfl (by rw [hl8]; exact h33n)) <| JLr (Yr (i := 0) (j := i) (b := b35) ZQ rfl ho8 ⟨_, _, hv35⟩ rfl (by rw [hl8]; exact h33n) rfl rfl rfl (pkP_ok rfl) fun k36 ho36 => Zb <| Za <| JLn (Pu.inc rfl rfl (by omega)) <| JLM rfl <| Zb <| ⟨_, ?_, (i + 1), (es8.set i (pkP 98 0 zS nS)), k36, rfl, rfl, rfl, rfl, rfl, rfl, (Sk (Sk (Sk (Sk (Sk Sub.nil))))), ?_, ?_, ?_, rfl⟩)
   ·omega
   ·omega
   ·exact ho36
   rw [List.length_set]; exact hl8
  replace h33 := df h33
  have h33n : q6 ≤ i := by omega
  refine Zy _ rfl <| Za <| JLq (pp b1 35) (ZP rfl rfl) <| JLr (Zd Ym rfl (At.bx 1 rfl) (ZO ..) <| JLM rfl <| JLq (.agg ⟨(pkP 0 0 zS nS) ++ (pkT 0 0 zS nS nS)⟩) (Pu.build (pv := []) (l := (pkP 0 0 zS nS) ++ (pkT 0 0 zS nS nS)) rfl bld56_) ?_)
  obtain ⟨b37, cap37, row37, hv37, hm37, hs37⟩ := ho7.at' hE
  refine JLq (pp b37 (0 + j * 71)) (Pu.idx j Tryz.runUnderlying25 Yl hv37 rfl rfl (by rw [hl7]; exact h20n)) <| JLr (Yr (i := 2) (j := j) (b := b37) Yl rfl ho7 ⟨_, _, hv37⟩ rfl (by rw [hl7]; exact h20n) rfl rfl rfl (Z6 (pkP_ok rfl) (Z2 rfl rfl)) fun k38 ho38 => Zb <| Za <| JLn (Pu.inc rfl rfl (by omega)) <| JLM rfl <| Zb <| ⟨_, ?_, (j + 1), (es7.set j ((pkP 0 0 zS nS) ++ (pkT 0 0 zS nS nS))), k38, c6, rfl, rfl, rfl, (Sd (Sk (Sk (Sd (Sk Sub.nil))))), ?_, ?_, ?_, ?_, rfl⟩)
  ·omega
  ·omega
  ·exact ho38
  ·rw [List.length_set]; exact hl7
  exact hR6 _
 replace h20 := df h20
 have h20n : cases.length ≤ j := by omega
 refine Zy _ rfl <| ⟨.tuple ⟨[]⟩, [], Ret.none rfl, Sub.nil, ?_⟩
 exact ⟨rfl, rfl⟩
end Go.Proofs.YtfdeibbpfgolcaaGreat.Hs
/-! Walks, printed by a program of this session's own (gen.py). -/
namespace Go.Proofs.YtfdeibbpfgolcaaGreat.Hs
open Go Go.Proofs
set_option maxRecDepth 100000
set_option linter.unusedVariables false
set_option linter.unusedSimpArgs false
attribute [local irreducible] JL J CT wlo DT
theorem ownPattern_ct : ∀ (p : Pt) (cs : List Value) (H : Heap), RP H cs p → sizeP p ≤ 1000000 → CT Tryz.prog 44 ⟨[.agg ⟨cs⟩]⟩ [] H (fun v N => ∃ cs k, v = .agg ⟨cs⟩ ∧ N = [k] ∧ OP p cs k) := by
 intro p
 induction p using Pt.ind with
 | h kind num ref kids ih =>
 intro cs H hp hz
 rw [sizeP] at hz
 have hlk := len_sizePs kids
 obtain ⟨ks, rfl, hk, hn, hks⟩ := RP_mk.1 hp
 refine Zn Tryz.func44 rfl rfl <| Zc <| Za <| JLr (Zo (l := pkP kind num ref ks) rfl rfl fun b1 => JLr (Zl (l := pkP 0 0 zS nS) Tryz.zeroValue54 rfl fun b2 => Zb <| Zc <| Za <| JLq (pp b1 34) (ZX rfl rfl) <| JLr (Zd Yz rfl (At.bx 1 rfl) (Z3 ..) <| JLa ks <| Zb <| Zc ?_)))
 refine Za <| JLq (pp b1 34) (ZX rfl rfl) <| JLr (Ze 1 (vs := [nS]) (l := pkP kind num ref nS) Yz rfl rfl rfl rfl rfl (Zi rfl Zp) (pkP_s34 ..) <| Zb <| Zc <| Zc <| Za <| JLm ks ?_)
 obtain ⟨a3, cap3, hv3⟩ := hks.sl
 have hle3 := hks.le
 refine JLn (Pu.lenSl Tryz.runUnderlying52 hv3) <| JLM rfl <| Zb <| Zk <| ZF (fun k ρ M => ∃ (j : Nat) (v : Value) (es : List (List Value)) (k1 k2 : Zh), ρ 1 = pp b1 0 ∧ ρ 2 = pp b2 0 ∧ ρ 9 = ks ∧ ρ 10 = iv ((kids.length : Int)) ∧ ρ 11 = iv ((j : Int)) ∧ Sub [(BX b1 (pkP kind num ref v) 54), k1, k2, (BX b2 (pkP 0 0 zS nS) 54)] M ∧ j ≤ kids.length ∧ Own 54 35 v es k1 ∧ OPs ((kids.take j)) es k2 ∧ k = kids.length - j) _ ⟨0, nS, [], [], [], rfl, rfl, rfl, rfl, rfl, (Sub.cons 1 rfl (Sub.emp (Sub.emp (Sk Sub.nil)))), Nat.zero_le _, Own.nil, OPs.nil, rfl⟩ ?_
 rintro _ ρ4 _ ⟨j, v, es, k1, k2, e5, e6, e7, e8, e9, hm10, hj, hov, hopv, rfl⟩
 obtain ⟨ρ11, rfl⟩ := Zu (uc e5 (uc e6 (uc e7 (uc e8 (uc e9 un)))))
 clear e5 e6 e7 e8 e9
 refine ZI hm10 ?_
 have hlen := hks.le
 refine Zc <| Za <| JLn (Pu.lss rfl rfl) <| Zb <| Zc <| Zf rfl (fun h12 => ?_) (fun h12 => ?_)
 ·replace h12 := dt h12
  have h12n : j < kids.length := by omega
  have helv := OPs_len hopv
  rw [List.length_take] at helv
  have hs1 := sizePs_mem _ (List.getElem_mem h12n)
  refine Zj <| Zc <| Zk <| Zc <| Za ?_
  obtain ⟨b13, o13, cap13, row13, T13, fr13, cs13, hv13, hb13, hs13, hE13⟩ := hks.get j (by first | assumption | omega | decide | simp)
  refine JLq (pp b13 (o13 + j * 35)) (Pu.idx j Tryz.runUnderlying52 ZQ hv13 rfl rfl (by first | assumption | omega | decide | simp)) <| JLr (Zg ZQ rfl (At.im hb13) hs13 <| JLr (Zl (l := pkP 0 0 zS nS) Tryz.zeroValue54 rfl fun b14 => JLr (Ze 0 (vs := cs13) (l := cs13) ZQ rfl rfl rfl rfl (Zz hE13) (RP_ok hE13) (ZL (n := 35) rfl (Zz hE13)) <| Zb <| ZC mixed #[0, 1, 0, 4, 12, 31, 63, 127] 5 [some 15, some 16, some 17, some 18, some 19] [] [(3, fun _ _ vw qw => ∃ cs k, vw = .agg ⟨cs⟩ ∧ qw = [k] ∧ OP (kids[j]) cs k), (4, fun r _ vw qw => ∃ b k, vw = .slice (some ⟨b, 0, none⟩) 1 1 ∧ qw = [k] ∧ Own 54 35 (.slice (some ⟨b, 0, none⟩) 1 1) [(cel (r 3))] k ∧ k = (BX b (List.flatten [(cel (r 3))]) 54))] rfl (by kernel_rfl) rfl (by kernel_rfl) <| Dq (pp b1 34) (fun _ => ZX rfl rfl) <| Dl1 Yz (At.bx 1 rfl) (Z3 ..) <| Dl ZQ (At.bx 0 rfl) (Zr (Zz hE13)) ?_)))
  refine Dc rfl Tryz.call44 (fun _ => rfl) (fun hin => ih _ (List.getElem_mem h12n) _ _ (RP.mono (Hle.hu _ _) hE13) (by omega)) ?_
  rintro _ _ ⟨cs17, k17, rfl, rfl, hO17⟩
  refine Dr rfl (fun _ => Zs (vs := [.agg ⟨cs17⟩]) [cs17] Tryz.runUnderlying52 el54 rfl rfl (by intro e he; simp only [List.mem_cons, List.not_mem_nil, or_false] at he; subst he; exact hO17.len) rfl (by decide) fun b k h1 h2 => ⟨[k], by rw [Z9 rfl]; exact Sub.refl, b, k, rfl, rfl, h1, h2⟩) (fun _ _ ⟨b18, k18, e1, e2, ho18, hk18⟩ => ?_); subst e1 e2
  refine ZK (M' := [k18, k17, (BX b14 cs13 54), (BX b1 (pkP kind num ref v) 54), k1, k2, (BX b2 (pkP 0 0 zS nS) 54)]) rfl ?_
  show JL _ _ _ [_, _, _] _ _ _
  have hlens19 : ∀ e ∈ ([cs17] : List (List Value)), List.length e = 35 := by
   intro e he; simp only [List.mem_cons, List.not_mem_nil, or_false] at he
   rcases he with rfl
   ·exact hO17.len
  have hoks19 : ∀ e ∈ ([cs17] : List (List Value)), okc e := by
   intro e he; simp only [List.mem_cons, List.not_mem_nil, or_false] at he
   rcases he with rfl
   ·exact hO17.ok
  refine JLr (ZB (i := 4) (n := 1) (es' := [cs17]) Tryz.runUnderlying52 Tryz.runUnderlying52 (Or.inl rfl) el54 rfl rfl rfl hov (fun F w m => Src.row (((At.k 0 rfl (by rw [hk18]; exact List.mem_cons_self))).heap m) (Zr (ZA hlens19))) rfl hlens19 hoks19 (by decide) (by omega) fun v19 k19 ho19 => JLq (pp b1 34) (ZX rfl rfl) <| JLr (Ze 3 (vs := [v19]) (l := pkP kind num ref v19) Yz rfl rfl rfl (ZJ ho19.one) rfl (Zi ho19.one Zp) (pkP_s34 ..) <| Zb <| Za <| JLn (Pu.inc rfl rfl (by omega)) <| JLM rfl <| Zb <| ⟨_, ?_, (j + 1), v19, (es ++ [cs17]), k19, (k2 ++ k17), rfl, rfl, rfl, rfl, rfl, (Sd (Sub.cons 2 rfl (Sub.cons 2 rfl (Sub.join (Sub.cons 2 rfl (Sk (Sd (Sk Sub.nil)))))))), ?_, ?_, ?_, rfl⟩))
  ·omega
  ·omega
  ·assumption
  rw [List.take_succ_eq_append_getElem h12n]; exact OPs.snoc hO17 hopv
 replace h12 := df h12
 have h12n : kids.length ≤ j := by omega
 refine Zy _ rfl <| Zc <| Za <| JLr (Zg ZQ rfl (At.bx 0 rfl) (pkP_a ..) <| JLr (Ze 3 (vs := pkP kind num ref v) (l := pkP kind num ref v) ZQ rfl rfl rfl rfl rfl (pkP_ok hov.one) (pkP_s ..) <| Zb <| Zm <| ⟨.agg ⟨pkP kind num ref v⟩, [k1 ++ k2], Ret.one rfl (RV.cell ZQ rfl (At.bx 3 rfl) (pkP_a ..)), (Sub.join (Sd (Sk (Sk Sub.nil)))), ?_⟩))
 rw [List.take_of_length_le h12n] at hopv
 exact ⟨_, _, rfl, rfl, OP_mk.2 ⟨v, es, k1, k2, rfl, hk, hn, hov, hopv, rfl, hks.le⟩⟩
end Go.Proofs.YtfdeibbpfgolcaaGreat.Hs
/-! Walks, printed by a program of this session's own (gen.py). -/
namespace Go.Proofs.YtfdeibbpfgolcaaGreat.Hs
open Go Go.Proofs
set_option maxRecDepth 100000
set_option linter.unusedVariables false
set_option linter.unusedSimpArgs false
attribute [local irreducible] JL J CT wlo DT
theorem ownTerm_ct : ∀ (t : Tm) (cs : List Value) (H : Heap), RT H cs t → sizeT t ≤ 1000000 → CT Tryz.prog 8 ⟨[.agg ⟨cs⟩]⟩ [] H (fun v N => ∃ cs k, v = .agg ⟨cs⟩ ∧ N = [k] ∧ OT t cs k) := by
 intro t
 induction t using Tm.ind with
 | h kind num ref kids cases ih ih' =>
 intro cs H ht hz
 rw [sizeT] at hz
 have hlk := len_sizeTs kids
 have hlc := len_sizeCs cases
 obtain ⟨ks, cv, rfl, hk, hn, hks, hcv⟩ := RT_mk.1 ht
 refine Zn Tryz.func8 rfl rfl <| Zc <| Za <| JLr (Zo (l := pkT kind num ref ks cv) rfl rfl fun b1 => JLr (Zl (l := pkT 0 0 zS nS nS) Tryz.zeroValue27 rfl fun b2 => Zb <| Zc <| ZC mixed #[0, 1, 0, 4, 3, 31] 5 [some 9, some 10, some 11, some 12, some 3] [] [] rfl (by kernel_rfl) rfl (by kernel_rfl) <| Dq (pp b1 34) (fun _ => ZY rfl rfl) <| Dl1 YA (At.bx 1 rfl) (ZV ..) <| Dq (pp b1 35) (fun _ => ZP rfl rfl) <| Dl1 Ym (At.bx 1 rfl) (ZO ..) <| Dq ks (fun _ => Pu.assign rfl) ?_))
 refine ZK (M' := [(BX b2 (pkT 0 0 zS nS nS) 27), (BX b1 (pkT kind num ref ks cv) 27)]) rfl ?_
 show JL _ _ _ [_] _ _ _
 refine JLa cv <| Zb <| Zc <| Za <| JLq (pp b1 34) (ZY rfl rfl) <| JLr (Ze 1 (vs := [nS]) (l := pkT kind num ref nS cv) YA rfl rfl rfl rfl rfl (Zi rfl Zp) (pkT_s34 ..) <| JLq (pp b1 35) (ZP rfl rfl) <| JLr (Ze 1 (vs := [nS]) (l := pkT kind num ref nS nS) Ym rfl rfl rfl rfl rfl (Zi rfl Zp) (pkT_s35 ..) <| Zb <| Zc <| Zc <| Za <| JLm ks ?_))
 obtain ⟨a3, cap3, hv3⟩ := hks.sl
 have hle3 := hks.le
 refine JLn (Pu.lenSl Tryz.runUnderlying24 hv3) <| JLM rfl <| Zb <| Zk <| ZF (fun k ρ M => ∃ (j : Nat) (v : Value) (es : List (List Value)) (k1 k2 : Zh), ρ 1 = pp b1 0 ∧ ρ 2 = pp b2 0 ∧ ρ 4 = cv ∧ ρ 15 = ks ∧ ρ 16 = iv ((kids.length : Int)) ∧ ρ 17 = iv ((j : Int)) ∧ Sub [(BX b1 (pkT kind num ref v nS) 27), k1, k2, (BX b2 (pkT 0 0 zS nS nS) 27)] M ∧ j ≤ kids.length ∧ Own 27 36 v es k1 ∧ OTs ((kids.take j)) es k2 ∧ k = kids.length - j) _ ⟨0, nS, [], [], [], rfl, rfl, rfl, rfl, rfl, rfl, (Sub.cons 1 rfl (Sub.emp (Sub.emp (Sk Sub.nil)))), Nat.zero_le _, Own.nil, OTs.nil, rfl⟩ ?_
 rintro _ ρ4 _ ⟨j, v, es, k1, k2, e5, e6, e7, e8, e9, e10, hm11, hj, hov, hopv, rfl⟩
 obtain ⟨ρ12, rfl⟩ := Zu (uc e5 (uc e6 (uc e7 (uc e8 (uc e9 (uc e10 un))))))
 clear e5 e6 e7 e8 e9 e10
 refine ZI hm11 ?_
 have hlen := hks.le
 refine Zc <| Za <| JLn (Pu.lss rfl rfl) <| Zb <| Zc <| Zf rfl (fun h13 => ?_) (fun h13 => ?_)
 ·replace h13 := dt h13
  have h13n : j < kids.length := by omega
  have helv := OTs_len hopv
  rw [List.length_take] at helv
  have hs1 := YY _ (List.getElem_mem h13n)
  refine Zj <| Zc <| Zk <| Zc <| Za ?_
  obtain ⟨b14, o14, cap14, row14, T14, fr14, cs14, hv14, hb14, hs14, hE14⟩ := hks.get j (by first | assumption | omega | decide | simp)
  refine JLq (pp b14 (o14 + j * 36)) (Pu.idx j Tryz.runUnderlying24 Zt hv14 rfl rfl (by first | assumption | omega | decide | simp)) <| JLr (Zg Zt rfl (At.im hb14) hs14 <| JLr (Zl (l := pkT 0 0 zS nS nS) Tryz.zeroValue27 rfl fun b15 => JLr (Ze 0 (vs := cs14) (l := cs14) Zt rfl rfl rfl rfl (Zq hE14) (YV hE14) (ZL (n := 36) rfl (Zq hE14)) <| Zb <| ZC mixed #[0, 1, 0, 4, 12, 31, 63, 127] 5 [some 21, some 22, some 23, some 24, some 25] [] [(3, fun _ _ vw qw => ∃ cs k, vw = .agg ⟨cs⟩ ∧ qw = [k] ∧ OT (kids[j]) cs k), (4, fun r _ vw qw => ∃ b k, vw = .slice (some ⟨b, 0, none⟩) 1 1 ∧ qw = [k] ∧ Own 27 36 (.slice (some ⟨b, 0, none⟩) 1 1) [(cel (r 3))] k ∧ k = (BX b (List.flatten [(cel (r 3))]) 27))] rfl (by kernel_rfl) rfl (by kernel_rfl) <| Dq (pp b1 34) (fun _ => ZY rfl rfl) <| Dl1 YA (At.bx 1 rfl) (ZV ..) <| Dl Zt (At.bx 0 rfl) (Zr (Zq hE14)) ?_)))
  refine Dc rfl Tryz.call8 (fun _ => rfl) (fun hin => ih _ (List.getElem_mem h13n) _ _ (RT.mono (Hle.hu _ _) hE14) (by omega)) ?_
  rintro _ _ ⟨cs18, k18, rfl, rfl, hO18⟩
  refine Dr rfl (fun _ => Zs (vs := [.agg ⟨cs18⟩]) [cs18] Tryz.runUnderlying24 el27 rfl rfl (by intro e he; simp only [List.mem_cons, List.not_mem_nil, or_false] at he; subst he; exact hO18.len) rfl (by decide) fun b k h1 h2 => ⟨[k], by rw [Z9 rfl]; exact Sub.refl, b, k, rfl, rfl, h1, h2⟩) (fun _ _ ⟨b19, k19, e1, e2, ho19, hk19⟩ => ?_); subst e1 e2
  refine ZK (M' := [k19, k18, (BX b15 cs14 27), (BX b1 (pkT kind num ref v nS) 27), k1, k2, (BX b2 (pkT 0 0 zS nS nS) 27)]) rfl ?_
  show JL _ _ _ [_, _, _] _ _ _
  have hlens20 : ∀ e ∈ ([cs18] : List (List Value)), List.length e = 36 := by
   intro e he; simp only [List.mem_cons, List.not_mem_nil, or_false] at he
   rcases he with rfl
   ·exact hO18.len
  have hoks20 : ∀ e ∈ ([cs18] : List (List Value)), okc e := by
   intro e he; simp only [List.mem_cons, List.not_mem_nil, or_false] at he
   rcases he with rfl
   ·exact hO18.ok
  refine JLr (ZB (i := 4) (n := 1) (es' := [cs18]) Tryz.runUnderlying24 Tryz.runUnderlying24 (Or.inl rfl) el27 rfl rfl rfl hov (fun F w m => Src.row (((At.k 0 rfl (by rw [hk19]; exact List.mem_cons_self))).heap m) (Zr (ZA hlens20))) rfl hlens20 hoks20 (by decide) (by omega) fun v20 k20 ho20 => JLq (pp b1 34) (ZY rfl rfl) <| JLr (Ze 3 (vs := [v20]) (l := pkT kind num ref v20 nS) YA rfl rfl rfl (ZJ ho20.one) rfl (Zi ho20.one Zp) (pkT_s34 ..) <| Zb <| Za <| JLn (Pu.inc rfl rfl (by omega)) <| JLM rfl <| Zb <| ⟨_, ?_, (j + 1), v20, (es ++ [cs18]), k20, (k2 ++ k18), rfl, rfl, rfl, rfl, rfl, rfl, (Sd (Sub.cons 2 rfl (Sub.cons 2 rfl (Sub.join (Sub.cons 2 rfl (Sk (Sd (Sk Sub.nil)))))))), ?_, ?_, ?_, rfl⟩))
  ·omega
  ·omega
  ·assumption
  rw [List.take_succ_eq_append_getElem h13n]; exact OTs.snoc hO18 hopv
 replace h13 := df h13
 have h13n : kids.length ≤ j := by omega
 refine Zy _ rfl <| Zc <| Zc <| Za <| JLm cv ?_
 obtain ⟨a21, cap21, hv21⟩ := hcv.sl
 have hle21 := hcv.le
 refine JLn (Pu.lenSl Tryz.runUnderlying25 hv21) <| JLM rfl <| Zb <| Zk ?_
 rw [List.take_of_length_le h13n] at hopv
 refine ZF (fun k ρ M => ∃ (j : Nat) (w : Value) (es2 : List (List Value)) (k3 k4 : Zh), ρ 1 = pp b1 0 ∧ ρ 2 = pp b2 0 ∧ ρ 29 = cv ∧ ρ 30 = iv ((cases.length : Int)) ∧ ρ 31 = iv ((j : Int)) ∧ Sub [(BX b1 (pkT kind num ref v w) 27), k3, k4, k1, k2, (BX b2 (pkT 0 0 zS nS nS) 27)] M ∧ j ≤ cases.length ∧ Own 56 71 w es2 k3 ∧ OCs ((cases.take j)) es2 k4 ∧ k = cases.length - j) _ ⟨0, nS, [], [], [], rfl, rfl, rfl, rfl, rfl, (Sk (Sub.emp (Sub.emp (Sk (Sk (Sk Sub.nil)))))), Nat.zero_le _, Own.nil, OCs.nil, rfl⟩ ?_
 rintro _ ρ22 _ ⟨j, w, es2, k3, k4, e23, e24, e25, e26, e27, hm28, hj, how, hopw, rfl⟩
 obtain ⟨ρ29, rfl⟩ := Zu (uc e23 (uc e24 (uc e25 (uc e26 (uc e27 un)))))
 clear e23 e24 e25 e26 e27
 refine ZI hm28 ?_
 have hlen := hcv.le
 refine Zc <| Za <| JLn (Pu.lss rfl rfl) <| Zb <| Zc <| Zf rfl (fun h30 => ?_) (fun h30 => ?_)
 ·replace h30 := dt h30
  have h30n : j < cases.length := by omega
  have helw := OCs_len hopw
  rw [List.length_take] at helw
  have hs1 := Yp _ (List.getElem_mem h30n)
  refine Zj <| Zc <| Zk <| Zc <| Za ?_
  obtain ⟨b31, o31, cap31, row31, T31, fr31, cs31, hv31, hb31, hs31, hE31⟩ := hcv.get j (by first | assumption | omega | decide | simp)
  obtain ⟨ca31, cb31, rfl, hA31, hB31⟩ := hE31
  refine JLq (pp b31 (o31 + j * 71)) (Pu.idx j Tryz.runUnderlying25 Yl hv31 rfl rfl (by first | assumption | omega | decide | simp)) <| JLr (Zg Yl rfl (At.im hb31) hs31 <| JLr (Zl (l := (pkP 0 0 zS nS) ++ (pkT 0 0 zS nS nS)) Tryz.zeroValue56 rfl fun b32 => JLr (Ze 0 (vs := ca31 ++ cb31) (l := ca31 ++ cb31) Yl rfl rfl rfl rfl (ZW (Zz hA31) (Zq hB31)) (Z6 (RP_ok hA31) (YV hB31)) (ZL (n := 71) rfl (ZW (Zz hA31) (Zq hB31))) <| Zb <| ZC mixed #[0, 1, 0, 4, 12, 0, 32, 124, 252, 508, 1023, 2047, 4095] 10 [some 35, some 36, some 37, some 38, some 39, some 40, some 41, some 42, some 43, some 44] [] [(4, fun _ _ vw qw => ∃ cs k, vw = .agg ⟨cs⟩ ∧ qw = [k] ∧ OP (cases[j].1) cs k), (7, fun _ _ vw qw => ∃ cs k, vw = .agg ⟨cs⟩ ∧ qw = [k] ∧ OT (cases[j].2) cs k), (9, fun r _ vw qw => ∃ b k, vw = .slice (some ⟨b, 0, none⟩) 1 1 ∧ qw = [k] ∧ Own 56 71 (.slice (some ⟨b, 0, none⟩) 1 1) [((cel (r 4))) ++ ((cel (r 7)))] k ∧ k = (BX b (List.flatten [((cel (r 4))) ++ ((cel (r 7)))]) 56))] rfl (by kernel_rfl) rfl (by kernel_rfl) <| Dq (pp b1 35) (fun _ => ZP rfl rfl) <| Dl1 Ym (At.bx 1 rfl) (ZO ..) <| Dq (pp b32 0) (fun _ => YE rfl rfl) <| Dl ZQ (At.bx 0 rfl) (Y3 (Zz hA31)) ?_)))
  refine Dc rfl Tryz.call44 (fun _ => rfl) (fun hin => ownPattern_ct _ _ _ (RP.mono (Hle.hu _ _) hA31) (by omega)) ?_
  rintro _ _ ⟨cs36, k36, rfl, rfl, hO36⟩
  refine Dq (pp b32 35) (fun _ => Y9 rfl rfl) <| Dl Zt (At.bx 0 rfl) (sub_r (Zz hA31) (Zq hB31)) ?_
  refine Dc rfl Tryz.call8 (fun _ => rfl) (fun hin => ih' _ (List.getElem_mem h30n) _ _ (RT.mono (Hle.hu _ _) hB31) (by omega)) ?_
  rintro _ _ ⟨cs37, k37, rfl, rfl, hO37⟩
  refine Dq (.agg ⟨cs36 ++ cs37⟩) (fun _ => Pu.build (pv := [(0, .agg ⟨cs36⟩), (1, .agg ⟨cs37⟩)]) (l := cs36 ++ cs37) rfl (bld56_0_1 hO36.len hO37.len)) <| Dr rfl (fun _ => Zs (vs := [.agg ⟨cs36 ++ cs37⟩]) [cs36 ++ cs37] Tryz.runUnderlying25 el56 rfl rfl (by intro e he; simp only [List.mem_cons, List.not_mem_nil, or_false] at he; subst he; exact (ZW hO36.len hO37.len)) rfl (by decide) fun b k h1 h2 => ⟨[k], by rw [Z9 rfl]; exact Sub.refl, b, k, rfl, rfl, h1, h2⟩) (fun _ _ ⟨b38, k38, e1, e2, ho38, hk38⟩ => ?_); subst e1 e2
  refine ZK (M' := [k38, k37, k36, (BX b32 (ca31 ++ cb31) 56), (BX b1 (pkT kind num ref v w) 27), k3, k4, k1, k2, (BX b2 (pkT 0 0 zS nS nS) 27)]) rfl ?_
  show JL _ _ _ [_, _, _] _ _ _
  have hlens39 : ∀ e ∈ ([cs36 ++ cs37] : List (List Value)), List.length e = 71 := by
   intro e he; simp only [List.mem_cons, List.not_mem_nil, or_false] at he
   rcases he with rfl
   ·exact (ZW hO36.len hO37.len)
  have hoks39 : ∀ e ∈ ([cs36 ++ cs37] : List (List Value)), okc e := by
   intro e he; simp only [List.mem_cons, List.not_mem_nil, or_false] at he
   rcases he with rfl
   ·exact (Z6 hO36.ok hO37.ok)
  refine JLr (ZB (i := 5) (n := 1) (es' := [cs36 ++ cs37]) Tryz.runUnderlying25 Tryz.runUnderlying25 (Or.inl rfl) el56 rfl rfl rfl how (fun F w m => Src.row (((At.k 0 rfl (by rw [hk38]; exact List.mem_cons_self))).heap m) (Zr (ZA hlens39))) rfl hlens39 hoks39 (by decide) (by omega) fun v39 k39 ho39 => JLq (pp b1 35) (ZP rfl rfl) <| JLr (Ze 4 (vs := [v39]) (l := pkT kind num ref v v39) Ym rfl rfl rfl (ZJ ho39.one) rfl (Zi ho39.one Zp) (pkT_s35 ..) <| Zb <| Za <| JLn (Pu.inc rfl rfl (by omega)) <| JLM rfl <| Zb <| ⟨_, ?_, (j + 1), v39, (es2 ++ [cs36 ++ cs37]), k39, (k4 ++ (k36 ++ k37)), rfl, rfl, rfl, rfl, rfl, (Sd (Sub.cons 3 rfl (Sub.cons 3 rfl (Sub.join3 (Sub.cons 3 rfl (Sub.cons 1 rfl (Sk (Sd (Sk (Sk (Sk Sub.nil))))))))))), ?_, ?_, ?_, rfl⟩))
  ·omega
  ·omega
  ·assumption
  rw [List.take_succ_eq_append_getElem h30n]; exact OCs.snoc hO36 hO37 hopw
 replace h30 := df h30
 have h30n : cases.length ≤ j := by omega
 refine Zy _ rfl <| Zc <| Za <| JLr (Zg Zt rfl (At.bx 0 rfl) (YI ..) <| JLr (Ze 5 (vs := pkT kind num ref v w) (l := pkT kind num ref v w) Zt rfl rfl rfl rfl rfl (Z2 hov.one how.one) (Y4 ..) <| Zb <| Zm <| ⟨.agg ⟨pkT kind num ref v w⟩, [k1 ++ (k2 ++ (k3 ++ k4))], Ret.one rfl (RV.cell Zt rfl (At.bx 5 rfl) (YI ..)), (Sub.join4 (Sd (Sub.cons 2 rfl (Sub.cons 2 rfl (Sk (Sk Sub.nil)))))), ?_⟩))
 rw [List.take_of_length_le h30n] at hopw
 exact ⟨_, _, rfl, rfl, OT_mk.2 ⟨v, w, es, es2, k1, k2, k3, k4, rfl, hk, hn, hov, hopv, how, hopw, rfl, hks.le, hcv.le⟩⟩
end Go.Proofs.YtfdeibbpfgolcaaGreat.Hs
/-! Walks, printed by a program of this session's own (gen.py). -/
namespace Go.Proofs.YtfdeibbpfgolcaaGreat.Hs
open Go Go.Proofs
set_option maxRecDepth 100000
set_option linter.unusedVariables false
set_option linter.unusedSimpArgs false
attribute [local irreducible] JL J CT wlo DT
theorem greatP_ct : ∀ (p : Pt) (d n : Int) (cs : List Value) (H : Heap) (bN bP : Nat), RP H cs p → 0 ≤ n → n ≤ 400 → H bP = some (.cells ⟨[.func (.func 26) ⟨[]⟩ ⟨[pp bN 0, pp bP 0]⟩]⟩ 68 (0, 0)) → CT Tryz.prog 26 ⟨[.agg ⟨cs⟩, pp bN 0, pp bP 0]⟩ [(BX bN [iv n] 3)] H (fun v N => v = .bool (cnP stG d p n).1 ∧ N = [(BX bN [iv ((cnP stG d p n).2)] 3)]) := by
 intro p
 induction p using Pt.ind with
 | h kind num ref kids ih =>
 intro d n cs H bN bP hp hn0 hn1 hP
 obtain ⟨ks, rfl, hk, hn, hks⟩ := RP_mk.1 hp
 refine Zn Tryz.func26 rfl rfl <| Zc <| Za <| JLr (Zo (l := pkP kind num ref ks) rfl rfl fun b1 => JLA rfl <| Zb <| Zc <| Za <| JLr (Zd ty3 rfl (At.bx 1 rfl) rfl <| JLn (Pu.add64 rfl rfl (by first | omega | (constructor <;> omega))) <| JLr (Ze 1 (vs := [iv (n + 1)]) (l := [iv (n + 1)]) ty3 rfl rfl rfl rfl rfl (Zi rfl Zp) rfl <| Zb <| Zc ?_)))
 refine Za <| JLr (Zd ty3 rfl (At.bx 1 rfl) rfl <| JLn (Pu.gtr rfl rfl) <| JLM rfl ?_)
 cases h2 : (decide (400 < n + 1)) with
 | true =>
  replace h2 := dt h2
  iterate 4 refine YG rfl ?_
  refine JLq (.bool true) (Pu.pickT rfl rfl) <| JLA rfl <| Zb <| Zm <| ⟨.bool true, [(BX bN [iv (n + 1)] 3)], Ret.one rfl (RV.tmp rfl), (Sd (Sk Sub.nil)), ?_⟩
  refine ⟨?_, ?_⟩ <;> rw [cnP, if_pos (by simp [stG]; omega)]
 | false =>
  replace h2 := df h2
  refine JLq (pp b1 34) (ZX rfl rfl) <| JLr (Zd Yz rfl (At.bx 0 rfl) (Z3 ..) <| JLr (Zd ty68 rfl (At.im hP) rfl <| Zw 1 rfl Tryz.call27 rfl rfl (fun hin => containsP_ct 26 [] [pp bN 0, pp bP 0] (fun _ _ => rfl) (fun n => (BX bN [iv n] 3)) (fun n => 0 ≤ n ∧ n ≤ 400) (cnP stG (d + 1)) _ _ _ (RPs.mono (Hle.hu _ _) hks) (n + 1) ⟨by omega, by omega⟩ (fun x hx s hs hf => cnP_keep stG_le x _ s hs.1 hf) (fun x hx s hs a h hh ra => ih x hx (d + 1) s a h bN bP ra hs.1 hs.2 (hh _ _ (Hle.hu _ _ _ _ hP)))) rfl ?_))
  rintro _ _ ⟨rfl, rfl⟩
  refine JLq (.bool ((Yk (cnP stG (d + 1)) kids (n + 1)).1)) (Pu.pickF rfl rfl) <| JLA rfl <| Zb <| Zm <| ⟨.bool ((Yk (cnP stG (d + 1)) kids (n + 1)).1), [(BX bN [iv ((Yk (cnP stG (d + 1)) kids (n + 1)).2)] 3)], Ret.one rfl (RV.tmp rfl), (Sk Sub.nil), ?_⟩
  refine ⟨?_, ?_⟩ <;> rw [cnP, if_neg (by simp [stG]; omega), cnPs_any]
theorem greatC_ct : ∀ (c : Pt × Tm) (d n : Int) (a : List Value) (H : Heap) (bN bW bP : Nat), RC H a c → 0 ≤ n → n ≤ 400 → H bW = some (.cells ⟨[.func (.func 28) ⟨[]⟩ ⟨[pp bN 0, pp bW 0, pp bP 0]⟩]⟩ 28 (0, 0)) → H bP = some (.cells ⟨[.func (.func 26) ⟨[]⟩ ⟨[pp bN 0, pp bP 0]⟩]⟩ 68 (0, 0)) → (∀ s a h, Hle H h → RT h a c.2 → 0 ≤ s → s ≤ 400 → CT Tryz.prog 28 ⟨[.agg ⟨a⟩, pp bN 0, pp bW 0, pp bP 0]⟩ [(BX bN [iv s] 3)] h (fun v N => v = .bool (cnT stG d c.2 s).1 ∧ N = [(BX bN [iv ((cnT stG d c.2 s).2)] 3)])) → CT Tryz.prog 31 ⟨[.agg ⟨a⟩, pp bP 0, pp bW 0]⟩ [(BX bN [iv n] 3)] H (fun v N => v = .bool (cnC stG d c n).1 ∧ N = [(BX bN [iv ((cnC stG d c n).2)] 3)]) := by
 intro c d n a H bN bW bP ⟨ca, cb, e1, ra1, ra2⟩ hn0 hn1 hW hP hg
 subst e1
 refine Zn Tryz.func31 rfl rfl <| Zc <| Za <| JLr (Zo (l := ca ++ cb) rfl rfl fun b1 => JLA rfl <| Zb <| Zc <| Za <| JLr (Zd ty68 rfl (At.im hP) rfl <| JLq (pp b1 0) (YE rfl rfl) <| JLr (Zg ZQ rfl (At.bx 0 rfl) (Y3 (Zz ra1)) <| Zw 1 rfl Tryz.call26 rfl rfl (fun hin => greatP_ct _ d _ _ _ bN bP (RP.mono (Hle.hu _ _) ra1) hn0 hn1 (Hle.hu _ _ _ _ hP)) rfl ?_)))
 rintro _ _ ⟨rfl, rfl⟩
 refine JLM rfl ?_
 cases h3 : ((cnP stG d (c.1) n).1) with
 | true =>
  iterate 4 refine YG rfl ?_
  refine JLq (.bool true) (Pu.pickT rfl rfl) <| JLA rfl <| Zb <| Zm <| ⟨.bool true, [(BX bN [iv ((cnP stG d (c.1) n).2)] 3)], Ret.one rfl (RV.tmp rfl), (Sk Sub.nil), ?_⟩
  refine ⟨?_, ?_⟩ <;> rw [cnC, if_pos h3]
 | false =>
  refine JLr (Zd ty28 rfl (At.im hW) rfl <| JLq (pp b1 35) (Y9 rfl rfl) <| JLr (Zg Zt rfl (At.bx 1 rfl) (sub_r (Zz ra1) (Zq ra2)) <| Zw 0 rfl Tryz.call28 rfl rfl (fun hin => hg _ _ _ (Hle.hu _ _) (RT.mono (Hle.hu _ _) ra2) (cnP_keep stG_le _ _ _ hn0 h3).1 (cnP_keep stG_le _ _ _ hn0 h3).2) rfl ?_))
  rintro _ _ ⟨rfl, rfl⟩
  refine JLq (.bool ((cnT stG d (c.2) ((cnP stG d (c.1) n).2)).1)) (Pu.pickF rfl rfl) <| JLA rfl <| Zb <| Zm <| ⟨.bool ((cnT stG d (c.2) ((cnP stG d (c.1) n).2)).1), [(BX bN [iv ((cnT stG d (c.2) ((cnP stG d (c.1) n).2)).2)] 3)], Ret.one rfl (RV.tmp rfl), (Sk Sub.nil), ?_⟩
  refine ⟨?_, ?_⟩ <;> rw [cnC, if_neg (by simp [h3])]
theorem greatT_ct : ∀ (t : Tm) (d n : Int) (cs : List Value) (H : Heap) (bN bW bP : Nat), RT H cs t → 0 ≤ n → n ≤ 400 → H bW = some (.cells ⟨[.func (.func 28) ⟨[]⟩ ⟨[pp bN 0, pp bW 0, pp bP 0]⟩]⟩ 28 (0, 0)) → H bP = some (.cells ⟨[.func (.func 26) ⟨[]⟩ ⟨[pp bN 0, pp bP 0]⟩]⟩ 68 (0, 0)) → CT Tryz.prog 28 ⟨[.agg ⟨cs⟩, pp bN 0, pp bW 0, pp bP 0]⟩ [(BX bN [iv n] 3)] H (fun v N => v = .bool (cnT stG d t n).1 ∧ N = [(BX bN [iv ((cnT stG d t n).2)] 3)]) := by
 intro t
 induction t using Tm.ind with
 | h kind num ref kids cases ih ih' =>
 intro d n cs H bN bW bP ht hn0 hn1 hW hP
 obtain ⟨ks, cv, rfl, hk, hn, hks, hcv⟩ := RT_mk.1 ht
 refine Zn Tryz.func28 rfl rfl <| Zc <| Za <| JLr (Zo (l := pkT kind num ref ks cv) rfl rfl fun b1 => JLA rfl <| Zb <| Zc <| Za <| JLr (Zd ty3 rfl (At.bx 1 rfl) rfl <| JLn (Pu.add64 rfl rfl (by first | omega | (constructor <;> omega))) <| JLr (Ze 1 (vs := [iv (n + 1)]) (l := [iv (n + 1)]) ty3 rfl rfl rfl rfl rfl (Zi rfl Zp) rfl <| Zb <| Zc ?_)))
 refine Za <| JLr (Zd ty3 rfl (At.bx 1 rfl) rfl <| JLn (Pu.gtr rfl rfl) <| JLM rfl ?_)
 cases h2 : (decide (400 < n + 1)) with
 | true =>
  replace h2 := dt h2
  iterate 4 refine YG rfl ?_
  refine JLq (.bool true) (Pu.pickT rfl rfl) <| JLM rfl ?_
  iterate 4 refine YG rfl ?_
  refine JLq (.bool true) (Pu.pickT rfl rfl) <| JLA rfl <| Zb <| Zm <| ⟨.bool true, [(BX bN [iv (n + 1)] 3)], Ret.one rfl (RV.tmp rfl), (Sd (Sk Sub.nil)), ?_⟩
  refine ⟨?_, ?_⟩ <;> rw [cnT, if_pos (by simp [stG]; omega)]
 | false =>
  replace h2 := df h2
  refine JLq (pp b1 34) (ZY rfl rfl) <| JLr (Zd YA rfl (At.bx 0 rfl) (ZV ..) <| JLr (Zd ty28 rfl (At.im hW) rfl <| Zw 1 rfl Tryz.call29 rfl rfl (fun hin => containsT_ct 28 [] [pp bN 0, pp bW 0, pp bP 0] (fun _ _ => rfl) (fun n => (BX bN [iv n] 3)) (fun n => 0 ≤ n ∧ n ≤ 400) (cnT stG (d + 1)) _ _ _ (RTs.mono (Hle.hu _ _) hks) (n + 1) ⟨by omega, by omega⟩ (fun x hx s hs hf => cnT_keep stG_le x _ s hs.1 hf) (fun x hx s hs a h hh ra => ih x hx (d + 1) s a h bN bW bP ra hs.1 hs.2 (hh _ _ (Hle.hu _ _ _ _ hW)) (hh _ _ (Hle.hu _ _ _ _ hP)))) rfl ?_))
  rintro _ _ ⟨rfl, rfl⟩
  refine JLq (.bool ((Yk (cnT stG (d + 1)) kids (n + 1)).1)) (Pu.pickF rfl rfl) <| JLM rfl ?_
  cases h4 : ((Yk (cnT stG (d + 1)) kids (n + 1)).1) with
  | true =>
   iterate 4 refine YG rfl ?_
   refine JLq (.bool true) (Pu.pickT rfl rfl) <| JLA rfl <| Zb <| Zm <| ⟨.bool true, [(BX bN [iv ((Yk (cnT stG (d + 1)) kids (n + 1)).2)] 3)], Ret.one rfl (RV.tmp rfl), (Sk Sub.nil), ?_⟩
   refine ⟨?_, ?_⟩ <;> rw [cnT, if_neg (by simp [stG]; omega), cnTs_any, if_pos h4]
  | false =>
   refine JLq (pp b1 35) (ZP rfl rfl) <| JLr (Zd Ym rfl (At.bx 1 rfl) (ZO ..) <| JLq (.func (.func 31) ⟨[]⟩ ⟨[pp bP 0, pp bW 0]⟩) (Pu.makeFunc rfl rfl) <| Zw 0 rfl Tryz.call30 rfl rfl (fun hin => containsC_ct 31 [] [pp bP 0, pp bW 0] (fun _ _ => rfl) (fun n => (BX bN [iv n] 3)) (fun n => 0 ≤ n ∧ n ≤ 400) (cnC stG (d + 1)) _ _ _ (RCs.mono (Hle.hu _ _) hcv) ((Yk (cnT stG (d + 1)) kids (n + 1)).2) (anyT_keep stG_le _ _ _ (by omega) (by omega) h4) (fun x hx s hs hf => cnC_keep stG_le x _ s hs.1 hf) (fun x hx s hs a h hh ra => greatC_ct x (d + 1) s a h bN bW bP ra hs.1 hs.2 (hh _ _ (Hle.hu _ _ _ _ hW)) (hh _ _ (Hle.hu _ _ _ _ hP)) (fun s' a' h' hh' ra' k1 k2 => ih' x hx (d + 1) s' a' h' bN bW bP ra' k1 k2 (hh' _ _ (hh _ _ (Hle.hu _ _ _ _ hW))) (hh' _ _ (hh _ _ (Hle.hu _ _ _ _ hP)))))) rfl ?_)
   rintro _ _ ⟨rfl, rfl⟩
   refine JLq (.bool ((Yk (cnC stG (d + 1)) cases ((Yk (cnT stG (d + 1)) kids (n + 1)).2)).1)) (Pu.pickF rfl rfl) <| JLA rfl <| Zb <| Zm <| ⟨.bool ((Yk (cnC stG (d + 1)) cases ((Yk (cnT stG (d + 1)) kids (n + 1)).2)).1), [(BX bN [iv ((Yk (cnC stG (d + 1)) cases ((Yk (cnT stG (d + 1)) kids (n + 1)).2)).2)] 3)], Ret.one rfl (RV.tmp rfl), (Sk Sub.nil), ?_⟩
   refine ⟨?_, ?_⟩ <;> rw [cnT, if_neg (by simp [stG]; omega), cnTs_any, if_neg (by simp [h4]), cnCs_any]
theorem great_ct (t : Tm) (cs : List Value) (H : Heap) (ht : RT H cs t) : CT Tryz.prog 6 ⟨[.agg ⟨cs⟩]⟩ [] H (fun v N => v = .bool (cnT stG 0 t 0).1 ∧ N = []) := by
 refine Zn Tryz.func6 rfl rfl <| Zc <| Za <| JLr (Zo (l := cs) rfl rfl fun b1 => JLA rfl <| Zb <| Zc <| Za <| JLr (Zl (l := [iv 0]) Tryz.zeroValue3 rfl fun b2 => JLr (Ze 0 (vs := [iv 0]) (l := [iv 0]) ty3 rfl rfl rfl rfl rfl (Zi rfl Zp) rfl <| Zb <| Zc <| Za ?_)))
 refine JLr (Zl (l := [.nilFunc]) Tryz.zeroValue68 rfl fun b3 => Zb <| Zc <| Za <| JLq (.func (.func 26) ⟨[]⟩ ⟨[pp b2 0, pp b3 0]⟩) (Pu.makeFunc rfl rfl) <| JLr (Ze 0 (vs := [.func (.func 26) ⟨[]⟩ ⟨[pp b2 0, pp b3 0]⟩]) (l := [.func (.func 26) ⟨[]⟩ ⟨[pp b2 0, pp b3 0]⟩]) ty68 rfl rfl rfl rfl rfl (Zi rfl Zp) rfl <| Zb <| Zc <| Za <| JLr (Zl (l := [.nilFunc]) Tryz.zeroValue28 rfl fun b4 => Zb <| Zc <| Za ?_)))
 refine JLq (.func (.func 28) ⟨[]⟩ ⟨[pp b2 0, pp b4 0, pp b3 0]⟩) (Pu.makeFunc rfl rfl) <| JLr (Ze 0 (vs := [.func (.func 28) ⟨[]⟩ ⟨[pp b2 0, pp b4 0, pp b3 0]⟩]) (l := [.func (.func 28) ⟨[]⟩ ⟨[pp b2 0, pp b4 0, pp b3 0]⟩]) ty28 rfl rfl rfl rfl rfl (Zi rfl Zp) rfl <| Zb <| Zc <| Za <| JLr (Zd ty28 rfl (At.bx 0 rfl) rfl <| JLr (Zg Zt rfl (At.bx 3 rfl) (Zr (Zq ht)) <| Zw 2 rfl Tryz.call28 rfl rfl (fun hin => greatT_ct _ 0 _ _ _ _ _ _ (RT.mono (Hle.hu _ _) ht) (by decide) (by decide) (hin 0 _ rfl _ _ List.mem_cons_self) (hin 1 _ rfl _ _ List.mem_cons_self)) rfl ?_)))
 rintro _ _ ⟨rfl, rfl⟩
 refine JLA rfl <| Zb <| Zm <| ⟨.bool ((cnT stG 0 t 0).1), [], Ret.one rfl (RV.tmp rfl), Sub.nil, ?_⟩
 exact ⟨rfl, rfl⟩
end Go.Proofs.YtfdeibbpfgolcaaGreat.Hs
/-! Walks, printed by a program of this session's own (gen.py). -/
namespace Go.Proofs.YtfdeibbpfgolcaaGreat.Hs
open Go Go.Proofs
set_option maxRecDepth 100000
set_option linter.unusedVariables false
set_option linter.unusedSimpArgs false
attribute [local irreducible] JL J CT wlo DT
theorem patternSize_ct : ∀ (p : Pt) (m : Int) (cs : List Value) (H : Heap), RP H cs p → sizeP p ≤ 1000000000 → sizeP p ≤ m + 2000000000 → m ≤ 2000000000 → CT Tryz.prog 170 ⟨[.agg ⟨cs⟩, iv m]⟩ [] H (fun v N => v = .tuple ⟨[iv (Xb m p).1, iv (Xb m p).2]⟩ ∧ N = []) := by
 intro p
 induction p using Pt.ind with
 | h kind num ref kids ih =>
 intro m cs H hp hz1 hz2 hz3
 obtain ⟨ks, rfl, hk, hn, hks⟩ := RP_mk.1 hp
 rw [sizeP] at hz1 hz2
 refine Zn Tryz.func170 rfl rfl <| Zc <| Za <| JLr (Zo (l := pkP kind num ref ks) rfl rfl fun b1 => JLA rfl <| JLA rfl <| Zb <| Zc <| Za <| JLA rfl <| JLA rfl <| Zb <| Zc ?_)
 refine Zc <| Za <| JLA rfl <| Zb <| Zk <| ZF (fun k ρ M => ∃ (j : Nat) (n d : Int), ρ 1 = iv m ∧ ρ 2 = pp b1 0 ∧ ρ 4 = iv 0 ∧ ρ 5 = iv 0 ∧ ρ 6 = iv n ∧ ρ 7 = iv d ∧ ρ 8 = iv ((j : Int)) ∧ Sub [(BX b1 (pkP kind num ref ks) 54)] M ∧ j ≤ kids.length ∧ Xa m (kids.drop j) n d = Xa m kids 1 0 ∧ 0 ≤ d ∧ d < n ∧ n + ZE (kids.drop j) ≤ 1 + ZE kids ∧ k = kids.length - j) _ ⟨0, 1, 0, rfl, rfl, rfl, rfl, rfl, rfl, rfl, (Sk Sub.nil), Nat.zero_le _, rfl, (by omega), (by omega), (by simp), rfl⟩ ?_
 rintro _ ρ2 _ ⟨j, n, d, e3, e4, e5, e6, e7, e8, e9, hm10, hj, hinv, hd0, hdn, hnn, rfl⟩
 obtain ⟨ρ11, rfl⟩ := Zu (uc e3 (uc e4 (uc e5 (uc e6 (uc e7 (uc e8 (uc e9 un)))))))
 clear e3 e4 e5 e6 e7 e8 e9
 refine ZI hm10 ?_
 have hlen := hks.le
 refine Zc <| Zc <| Za <| JLM rfl <| JLq (pp b1 34) (ZX rfl rfl) <| JLr (Zd Yz rfl (At.bx 0 rfl) (Z3 ..) ?_)
 obtain ⟨a12, cap12, hv12⟩ := hks.sl
 have hle12 := hks.le
 refine JLn (Pu.lenSl Tryz.runUnderlying52 hv12) <| JLn (Pu.lss rfl rfl) <| JLM rfl <| Zv 3 [17, 18, 19] [(19, cond (decide ((j : Int) < (kids.length : Int))) (.bool (decide (n ≤ m))) undef)] ?_ fun f14 => ?_
 ·cases h13 : (decide ((j : Int) < (kids.length : Int))) with
  | true =>
   replace h13 := dt h13
   have h13n : j < kids.length := by omega
   have hs1 := sizePs_mem _ (List.getElem_mem h13n)
   have hs2 : ZE (kids.drop j) = sizeP kids[j] + ZE (kids.drop (j + 1)) := by rw [ZT h13n, ZE]
   have hs3 := extP_le kids[j] (m - 1)
   refine JLM rfl <| JLM rfl <| JLn (Pu.leq rfl rfl) ?_
   exact Zb ⟨⟨rfl, trivial⟩, rfl⟩
  | false =>
   exact Zx rfl ⟨rfl, trivial⟩
 refine JLn (Pu.pickAnd rfl rfl rfl) <| Zb <| Zf rfl (fun h15 => ?_) (fun h15 => ?_)
 ·obtain ⟨h15a, h15b⟩ := YM h15
  replace h15a := dt h15a
  have h15an : j < kids.length := by omega
  have hs1 := sizePs_mem _ (List.getElem_mem h15an)
  have hs2 : ZE (kids.drop j) = sizeP kids[j] + ZE (kids.drop (j + 1)) := by rw [ZT h15an, ZE]
  have hs3 := extP_le kids[j] (m - 1)
  replace h15b := dt h15b
  refine Zj <| Zc <| Zk <| Zc <| Za <| JLq (pp b1 34) (ZX rfl rfl) <| JLr (Zd Yz rfl (At.bx 0 rfl) (Z3 ..) <| JLM rfl ?_)
  obtain ⟨b16, o16, cap16, row16, T16, fr16, cs16, hv16, hb16, hs16, hE16⟩ := hks.get j (by first | assumption | omega | decide | simp)
  refine JLq (pp b16 (o16 + j * 35)) (Pu.idx j Tryz.runUnderlying52 ZQ hv16 rfl rfl (by first | assumption | omega | decide | simp)) <| JLr (Zg ZQ rfl (At.im hb16) hs16 <| JLM rfl <| JLn (Pu.sub64 rfl rfl (by first | omega | (constructor <;> omega))) <| Jc Tryz.call170 rfl (fun hin => ih _ (List.getElem_mem h15an) _ _ _ (RP.mono (Hle.hu _ _) hE16) (by omega) (by omega) (by omega)) rfl ?_)
  rintro _ _ ⟨rfl, rfl⟩
  refine JLM rfl <| JLn (Pu.extract rfl rfl) <| JLn (Pu.extract rfl rfl) <| JLA rfl <| JLA rfl <| Zb <| Za <| JLM rfl <| JLM rfl <| JLn (Pu.add64 rfl rfl (by first | omega | (constructor <;> omega))) <| JLM rfl <| JLM rfl <| JLq (iv (max d ((Xb (m - 1) (kids[j])).2))) (Pu.max2 rfl rfl) ?_
  refine JLA rfl <| JLA rfl <| Zb <| Za <| JLM rfl <| JLn (Pu.inc rfl rfl (by omega)) <| JLA rfl <| Zb <| ⟨_, ?_, (j + 1), (n + ((Xb (m - 1) (kids[j])).1)), (max d ((Xb (m - 1) (kids[j])).2)), rfl, rfl, rfl, rfl, rfl, rfl, rfl, (Sk Sub.nil), ?_, ?_, ?_, ?_, ?_, rfl⟩
  ·omega
  ·omega
  ·rw [ZT h15an, Xa, if_pos (by omega)] at hinv; exact hinv
  ·omega
  ·omega
  omega
 refine Zy _ rfl <| Zc <| Za <| JLM rfl <| JLM rfl <| JLn (Pu.add64 rfl rfl (by first | omega | (constructor <;> omega))) <| JLA rfl <| JLA rfl <| Zb <| Zm <| ⟨.tuple ⟨[iv n, iv (d + 1)]⟩, [], Ret.two rfl (RV.tmp rfl) (RV.tmp rfl), Sub.nil, ?_⟩
 have hf : ¬ ((j : Int) < (kids.length : Int) ∧ n ≤ m) := by
  intro ⟨hx1, hx2⟩
  have := h15
  simp [hx1, hx2] at this
  try omega
 have hr : Xa m kids 1 0 = (n, d) := by
  rw [← hinv]; rcases Nat.lt_or_ge j kids.length with hl | hl
  ·have hnm : ¬ n ≤ m := fun hle => hf ⟨by omega, hle⟩
   rw [ZT hl, Xa, if_neg hnm]
  ·rw [YL hl, Xa]
 exact ⟨by rw [Xb, hr], rfl⟩
theorem extent_ct : ∀ (t : Tm) (m : Int) (cs : List Value) (H : Heap), RT H cs t → sizeT t ≤ 1000000000 → sizeT t ≤ m + 2000000000 → m ≤ 2000000000 → CT Tryz.prog 151 ⟨[.agg ⟨cs⟩, iv m]⟩ [] H (fun v N => v = .tuple ⟨[iv (YC m t).1, iv (YC m t).2]⟩ ∧ N = []) := by
 intro t
 induction t using Tm.ind with
 | h kind num ref kids cases ih ih' =>
 intro m cs H ht hz1 hz2 hz3
 obtain ⟨ks, cv, rfl, hk, hn, hks, hcv⟩ := RT_mk.1 ht
 rw [sizeT] at hz1 hz2
 refine Zn Tryz.func151 rfl rfl <| Zc <| Za <| JLr (Zo (l := pkT kind num ref ks cv) rfl rfl fun b1 => JLA rfl <| JLA rfl <| Zb <| Zc <| Za <| JLA rfl <| JLA rfl <| Zb <| Zc ?_)
 refine Zc <| Za <| JLA rfl <| Zb <| Zk <| ZF (fun k ρ M => ∃ (j : Nat) (n d : Int), ρ 1 = iv m ∧ ρ 2 = pp b1 0 ∧ ρ 4 = iv 0 ∧ ρ 5 = iv 0 ∧ ρ 6 = iv n ∧ ρ 7 = iv d ∧ ρ 8 = iv ((j : Int)) ∧ Sub [(BX b1 (pkT kind num ref ks cv) 27)] M ∧ j ≤ kids.length ∧ Ys m (kids.drop j) n d = Ys m kids 1 0 ∧ 0 ≤ d ∧ d < n ∧ n + ZD (kids.drop j) ≤ 1 + ZD kids ∧ k = kids.length - j) _ ⟨0, 1, 0, rfl, rfl, rfl, rfl, rfl, rfl, rfl, (Sk Sub.nil), Nat.zero_le _, rfl, (by omega), (by omega), (by simp), rfl⟩ ?_
 rintro _ ρ2 _ ⟨j, n, d, e3, e4, e5, e6, e7, e8, e9, hm10, hj, hinv, hd0, hdn, hnn, rfl⟩
 obtain ⟨ρ11, rfl⟩ := Zu (uc e3 (uc e4 (uc e5 (uc e6 (uc e7 (uc e8 (uc e9 un)))))))
 clear e3 e4 e5 e6 e7 e8 e9
 refine ZI hm10 ?_
 have hlen := hks.le
 refine Zc <| Zc <| Za <| JLM rfl <| JLq (pp b1 34) (ZY rfl rfl) <| JLr (Zd YA rfl (At.bx 0 rfl) (ZV ..) ?_)
 obtain ⟨a12, cap12, hv12⟩ := hks.sl
 have hle12 := hks.le
 refine JLn (Pu.lenSl Tryz.runUnderlying24 hv12) <| JLn (Pu.lss rfl rfl) <| JLM rfl <| Zv 3 [22, 23, 24] [(24, cond (decide ((j : Int) < (kids.length : Int))) (.bool (decide (n ≤ m))) undef)] ?_ fun f14 => ?_
 ·cases h13 : (decide ((j : Int) < (kids.length : Int))) with
  | true =>
   replace h13 := dt h13
   have h13n : j < kids.length := by omega
   have hs1 := YY _ (List.getElem_mem h13n)
   have hs2 : ZD (kids.drop j) = sizeT kids[j] + ZD (kids.drop (j + 1)) := by rw [ZT h13n, ZD]
   have hs3 := extT_le kids[j] (m - 1)
   refine JLM rfl <| JLM rfl <| JLn (Pu.leq rfl rfl) ?_
   exact Zb ⟨⟨rfl, trivial⟩, rfl⟩
  | false =>
   exact Zx rfl ⟨rfl, trivial⟩
 refine JLn (Pu.pickAnd rfl rfl rfl) <| Zb <| Zf rfl (fun h15 => ?_) (fun h15 => ?_)
 ·obtain ⟨h15a, h15b⟩ := YM h15
  replace h15a := dt h15a
  have h15an : j < kids.length := by omega
  have hs1 := YY _ (List.getElem_mem h15an)
  have hs2 : ZD (kids.drop j) = sizeT kids[j] + ZD (kids.drop (j + 1)) := by rw [ZT h15an, ZD]
  have hs3 := extT_le kids[j] (m - 1)
  replace h15b := dt h15b
  refine Zj <| Zc <| Zk <| Zc <| Za <| JLq (pp b1 34) (ZY rfl rfl) <| JLr (Zd YA rfl (At.bx 0 rfl) (ZV ..) <| JLM rfl ?_)
  obtain ⟨b16, o16, cap16, row16, T16, fr16, cs16, hv16, hb16, hs16, hE16⟩ := hks.get j (by first | assumption | omega | decide | simp)
  refine JLq (pp b16 (o16 + j * 36)) (Pu.idx j Tryz.runUnderlying24 Zt hv16 rfl rfl (by first | assumption | omega | decide | simp)) <| JLr (Zg Zt rfl (At.im hb16) hs16 <| JLM rfl <| JLn (Pu.sub64 rfl rfl (by first | omega | (constructor <;> omega))) <| Jc Tryz.call151 rfl (fun hin => ih _ (List.getElem_mem h15an) _ _ _ (RT.mono (Hle.hu _ _) hE16) (by omega) (by omega) (by omega)) rfl ?_)
  rintro _ _ ⟨rfl, rfl⟩
  refine JLM rfl <| JLn (Pu.extract rfl rfl) <| JLn (Pu.extract rfl rfl) <| JLA rfl <| JLA rfl <| Zb <| Za <| JLM rfl <| JLM rfl <| JLn (Pu.add64 rfl rfl (by first | omega | (constructor <;> omega))) <| JLM rfl <| JLM rfl <| JLq (iv (max d ((YC (m - 1) (kids[j])).2))) (Pu.max2 rfl rfl) ?_
  refine JLA rfl <| JLA rfl <| Zb <| Za <| JLM rfl <| JLn (Pu.inc rfl rfl (by omega)) <| JLA rfl <| Zb <| ⟨_, ?_, (j + 1), (n + ((YC (m - 1) (kids[j])).1)), (max d ((YC (m - 1) (kids[j])).2)), rfl, rfl, rfl, rfl, rfl, rfl, rfl, (Sk Sub.nil), ?_, ?_, ?_, ?_, ?_, rfl⟩
  ·omega
  ·omega
  ·rw [ZT h15an, Ys, if_pos (by omega)] at hinv; exact hinv
  ·omega
  ·omega
  omega
 refine Zy _ rfl <| Zc <| Zc <| Za <| JLA rfl <| Zb <| Zk ?_
 have hf : ¬ ((j : Int) < (kids.length : Int) ∧ n ≤ m) := by
  intro ⟨hx1, hx2⟩
  have := h15
  simp [hx1, hx2] at this
  try omega
 have hr : Ys m kids 1 0 = (n, d) := by
  rw [← hinv]; rcases Nat.lt_or_ge j kids.length with hl | hl
  ·have hnm : ¬ n ≤ m := fun hle => hf ⟨by omega, hle⟩
   rw [ZT hl, Ys, if_neg hnm]
  ·rw [YL hl, Ys]
 refine ZF (fun k ρ M => ∃ (j : Nat) (n d : Int), ρ 1 = iv m ∧ ρ 2 = pp b1 0 ∧ ρ 4 = iv 0 ∧ ρ 5 = iv 0 ∧ ρ 6 = iv n ∧ ρ 7 = iv d ∧ ρ 11 = iv ((j : Int)) ∧ Sub [(BX b1 (pkT kind num ref ks cv) 27)] M ∧ j ≤ cases.length ∧ Xc m (cases.drop j) n d = Xc m cases (Ys m kids 1 0).1 (Ys m kids 1 0).2 ∧ 0 ≤ d ∧ d < n ∧ n + ZM (cases.drop j) ≤ 1 + ZD kids + ZM cases ∧ k = cases.length - j) _ ⟨0, n, d, rfl, rfl, rfl, rfl, rfl, rfl, rfl, (Sk Sub.nil), Nat.zero_le _, (by rw [hr]; rfl), (by omega), (by omega), (by simp only [List.drop_zero]; omega), rfl⟩ ?_
 rintro _ ρ17 _ ⟨j, n, d, e18, e19, e20, e21, e22, e23, e24, hm25, hj, hinv, hd0, hdn, hnn, rfl⟩
 obtain ⟨ρ26, rfl⟩ := Zu (uc e18 (uc e19 (uc e20 (uc e21 (uc e22 (uc e23 (uc e24 un)))))))
 clear e18 e19 e20 e21 e22 e23 e24
 refine ZI hm25 ?_
 have hlen := hcv.le
 refine Zc <| Zc <| Za <| JLM rfl <| JLq (pp b1 35) (ZP rfl rfl) <| JLr (Zd Ym rfl (At.bx 0 rfl) (ZO ..) ?_)
 obtain ⟨a27, cap27, hv27⟩ := hcv.sl
 have hle27 := hcv.le
 refine JLn (Pu.lenSl Tryz.runUnderlying25 hv27) <| JLn (Pu.lss rfl rfl) <| JLM rfl <| Zv 3 [51, 52, 53] [(53, cond (decide ((j : Int) < (cases.length : Int))) (.bool (decide (n ≤ m))) undef)] ?_ fun f29 => ?_
 ·cases h28 : (decide ((j : Int) < (cases.length : Int))) with
  | true =>
   replace h28 := dt h28
   have h28n : j < cases.length := by omega
   have hs1 := Yp _ (List.getElem_mem h28n)
   have hs2 : ZM (cases.drop j) = sizeP cases[j].1 + sizeT cases[j].2 + ZM (cases.drop (j + 1)) := by rw [ZT h28n, ZM]
   have hs3 := extT_le cases[j].2 (m - 1)
   have hs4 := extP_le cases[j].1 (m - 1)
   refine JLM rfl <| JLM rfl <| JLn (Pu.leq rfl rfl) ?_
   exact Zb ⟨⟨rfl, trivial⟩, rfl⟩
  | false =>
   exact Zx rfl ⟨rfl, trivial⟩
 refine JLn (Pu.pickAnd rfl rfl rfl) <| Zb <| Zf rfl (fun h30 => ?_) (fun h30 => ?_)
 ·obtain ⟨h30a, h30b⟩ := YM h30
  replace h30a := dt h30a
  have h30an : j < cases.length := by omega
  have hs1 := Yp _ (List.getElem_mem h30an)
  have hs2 : ZM (cases.drop j) = sizeP cases[j].1 + sizeT cases[j].2 + ZM (cases.drop (j + 1)) := by rw [ZT h30an, ZM]
  have hs3 := extT_le cases[j].2 (m - 1)
  have hs4 := extP_le cases[j].1 (m - 1)
  replace h30b := dt h30b
  refine Zj <| Zc <| Zk <| Zc <| Za <| JLq (pp b1 35) (ZP rfl rfl) <| JLr (Zd Ym rfl (At.bx 0 rfl) (ZO ..) <| JLM rfl ?_)
  obtain ⟨b31, o31, cap31, row31, T31, fr31, cs31, hv31, hb31, hs31, hE31⟩ := hcv.get j (by first | assumption | omega | decide | simp)
  obtain ⟨ca31, cb31, rfl, hA31, hB31⟩ := hE31
  refine JLq (pp b31 (o31 + j * 71)) (Pu.idx j Tryz.runUnderlying25 Yl hv31 rfl rfl (by first | assumption | omega | decide | simp)) <| JLq (pp b31 (o31 + j * 71)) (YE rfl rfl) <| JLr (Zg ZQ rfl (At.im hb31) (sub_sub0 hs31 (Y3 (Zz hA31))) <| JLM rfl <| JLn (Pu.sub64 rfl rfl (by first | omega | (constructor <;> omega))) <| Jc Tryz.call170 rfl (fun hin => patternSize_ct _ _ _ _ (RP.mono (Hle.hu _ _) hA31) (by omega) (by omega) (by omega)) rfl ?_)
  rintro _ _ ⟨rfl, rfl⟩
  refine JLM rfl <| JLn (Pu.extract rfl rfl) <| JLn (Pu.extract rfl rfl) <| JLA rfl <| JLA rfl <| Zb <| Zc <| Za <| JLq (pp b1 35) (ZP rfl rfl) <| JLr (Zd Ym rfl (At.bx 0 rfl) (ZO ..) <| JLM rfl ?_)
  obtain ⟨b32, o32, cap32, row32, T32, fr32, cs32, hv32, hb32, hs32, hE32⟩ := hcv.get j (by first | assumption | omega | decide | simp)
  obtain ⟨ca32, cb32, rfl, hA32, hB32⟩ := hE32
  refine JLq (pp b32 (o32 + j * 71)) (Pu.idx j Tryz.runUnderlying25 Yl hv32 rfl rfl (by first | assumption | omega | decide | simp)) <| JLq (pp b32 (o32 + j * 71 + 35)) (Y9 rfl rfl) <| JLr (Zg Zt rfl (At.im hb32) (sub_sub hs32 (sub_r (Zz hA32) (Zq hB32))) <| JLM rfl <| JLn (Pu.sub64 rfl rfl (by first | omega | (constructor <;> omega))) <| Jc Tryz.call151 rfl (fun hin => ih' _ (List.getElem_mem h30an) _ _ _ (RT.mono (Hle.hu _ _) hB32) (by omega) (by omega) (by omega)) rfl ?_)
  rintro _ _ ⟨rfl, rfl⟩
  refine JLM rfl <| JLn (Pu.extract rfl rfl) <| JLn (Pu.extract rfl rfl) <| JLA rfl <| JLA rfl <| Zb <| Za <| JLM rfl <| JLM rfl <| JLn (Pu.add64 rfl rfl (by first | omega | (constructor <;> omega))) <| JLM rfl <| JLn (Pu.add64 rfl rfl (by first | omega | (constructor <;> omega))) <| JLM rfl ?_
  refine JLM rfl <| JLM rfl <| JLq (iv (max (max d ((Xb (m - 1) (cases[j].1)).2)) ((YC (m - 1) (cases[j].2)).2))) (Pu.max3 rfl rfl rfl) <| JLA rfl <| JLA rfl <| Zb <| Za <| JLM rfl <| JLn (Pu.inc rfl rfl (by omega)) <| JLA rfl <| Zb <| ⟨_, ?_, (j + 1), (n + ((Xb (m - 1) (cases[j].1)).1) + ((YC (m - 1) (cases[j].2)).1)), (max (max d ((Xb (m - 1) (cases[j].1)).2)) ((YC (m - 1) (cases[j].2)).2)), rfl, rfl, rfl, rfl, rfl, rfl, rfl, (Sk Sub.nil), ?_, ?_, ?_, ?_, ?_, rfl⟩
  ·omega
  ·omega
  ·rw [ZT h30an, Xc, if_pos (by omega)] at hinv; exact hinv
  ·omega
  ·omega
  omega
 refine Zy _ rfl <| Zc <| Za <| JLM rfl <| JLM rfl <| JLn (Pu.add64 rfl rfl (by first | omega | (constructor <;> omega))) <| JLA rfl <| JLA rfl <| Zb <| Zm <| ⟨.tuple ⟨[iv n, iv (d + 1)]⟩, [], Ret.two rfl (RV.tmp rfl) (RV.tmp rfl), Sub.nil, ?_⟩
 have hf : ¬ ((j : Int) < (cases.length : Int) ∧ n ≤ m) := by
  intro ⟨hx1, hx2⟩
  have := h30
  simp [hx1, hx2] at this
  try omega
 have hr : Xc m cases (Ys m kids 1 0).1 (Ys m kids 1 0).2 = (n, d) := by
  rw [← hinv]; rcases Nat.lt_or_ge j cases.length with hl | hl
  ·have hnm : ¬ n ≤ m := fun hle => hf ⟨by omega, hle⟩
   rw [ZT hl, Xc, if_neg hnm]
  ·rw [YL hl, Xc]
 exact ⟨by rw [YC, hr], rfl⟩
theorem longR_ct (t : Tm) (cs : List Value) (H : Heap) (ht : RT H cs t) (hz : sizeT t ≤ 1000000000) : CT Tryz.prog 116 ⟨[.agg ⟨cs⟩]⟩ [] H (fun v N => v = .bool (longB t) ∧ N = []) := by
 refine Zn Tryz.func116 rfl rfl <| Zc <| Za <| JLr (Zo (l := cs) rfl rfl fun b1 => JLA rfl <| Zb <| Zc <| Za <| JLr (Zg Zt rfl (At.bx 0 rfl) (Zr (Zq ht)) <| Jc Tryz.call151 rfl (fun hin => extent_ct _ _ _ _ (RT.mono (Hle.hu _ _) ht) (by omega) (by omega) (by omega)) rfl ?_))
 rintro _ _ ⟨rfl, rfl⟩
 refine JLM rfl <| JLn (Pu.extract rfl rfl) <| JLn (Pu.extract rfl rfl) <| JLA rfl <| JLA rfl <| Zb <| Zc <| Za <| JLM rfl <| JLn (Pu.gtr rfl rfl) <| JLM rfl <| Zv 2 [13, 14] [(14, cond (decide (300 < (YC 400 t).1)) undef (.bool (decide (60 < (YC 400 t).2))))] ?_ fun f3 => ?_
 ·cases h2 : (decide (300 < (YC 400 t).1)) with
  | false =>
   replace h2 := df h2
   refine JLM rfl <| JLn (Pu.gtr rfl rfl) ?_
   exact Zb ⟨⟨rfl, trivial⟩, rfl⟩
  | true =>
   exact Zx rfl ⟨rfl, trivial⟩
 refine JLn (Pu.pickOr rfl rfl rfl) <| JLA rfl <| Zb <| Zm <| ⟨.bool ((decide (300 < (YC 400 t).1)) || (decide (60 < (YC 400 t).2))), [], Ret.one rfl (RV.tmp rfl), Sub.nil, ?_⟩
 exact ⟨rfl, rfl⟩
theorem checkR_ct (t : Tm) (d m : Int) (cs : List Value) (H : Heap) (ht : RT H cs t) (hz : sizeT t ≤ 400000) : CT Tryz.prog 92 ⟨[.agg ⟨cs⟩, iv d, iv m]⟩ [] H (fun v N => v = iv (Xd d m t) ∧ N = []) := by
 refine Zn Tryz.func92 rfl rfl <| Zc <| Za <| JLr (Zo (l := cs) rfl rfl fun b1 => JLA rfl <| Zb <| Zc <| Zc <| Za <| JLr (Zg Zt rfl (At.bx 0 rfl) (Zr (Zq ht)) <| Jc Tryz.call116 rfl (fun hin => longR_ct _ _ _ (RT.mono (Hle.hu _ _) ht) (by omega)) rfl ?_))
 rintro _ _ ⟨rfl, rfl⟩
 refine Zb <| Zf rfl (fun h2 => ?_) (fun h2 => ?_)
 ·refine Zc <| Za <| JLA rfl <| Zb <| Zm <| ⟨iv 11, [], Ret.one rfl (RV.tmp rfl), Sub.nil, ?_⟩
  exact ⟨by rw [Xd, if_pos (by simp [h2])], rfl⟩
 refine Zj <| Zc <| Za <| JLr (Zg Zt rfl (At.bx 0 rfl) (Zr (Zq ht)) <| JLM rfl <| JLM rfl <| Jc Tryz.call117 rfl (fun hin => nodeError_ct _ _ _ _ _ _ (RT.mono (Hle.hu _ _) ht) (by omega) (by omega)) rfl ?_)
 rintro _ _ ⟨rfl, rfl⟩
 refine JLA rfl <| Zb <| Zm <| ⟨iv (nErr d m 0 t), [], Ret.one rfl (RV.tmp rfl), Sub.nil, ?_⟩
 exact ⟨by rw [Xd, if_neg (by simp [h2])], rfl⟩
theorem rightR_ct (t : Tm) (cs : List Value) (H : Heap) (ht : RT H cs t) (hz : sizeT t ≤ 400000) : CT Tryz.prog 45 ⟨[.agg ⟨cs⟩]⟩ [] H (fun v N => v = iv (Xd 60 8 t) ∧ N = []) := by
 refine Zn Tryz.func45 rfl rfl <| Zc <| Za <| JLr (Zo (l := cs) rfl rfl fun b1 => JLA rfl <| Zb <| Zc <| Za <| JLr (Zg Zt rfl (At.bx 0 rfl) (Zr (Zq ht)) <| Jc Tryz.call92 rfl (fun hin => checkR_ct _ _ _ _ _ (RT.mono (Hle.hu _ _) ht) (by omega)) rfl ?_))
 rintro _ _ ⟨rfl, rfl⟩
 refine JLA rfl <| Zb <| Zm <| ⟨iv (Xd 60 8 t), [], Ret.one rfl (RV.tmp rfl), Sub.nil, ?_⟩
 exact ⟨rfl, rfl⟩
theorem rightL_ct (t : Tm) (cs : List Value) (H : Heap) (ht : RT H cs t) (hz : sizeT t ≤ 400000) : CT Tryz.prog 9 ⟨[.agg ⟨cs⟩]⟩ [] H (fun v N => v = .tuple ⟨[.bool (decide (Xd 60 8 t = 0)), iv (Xd 60 8 t)]⟩ ∧ N = []) := by
 refine Zn Tryz.func9 rfl rfl <| Zc <| Za <| JLr (Zo (l := cs) rfl rfl fun b1 => JLA rfl <| JLA rfl <| Zb <| Zc <| Za <| JLr (Zg Zt rfl (At.bx 0 rfl) (Zr (Zq ht)) <| Jc Tryz.call45 rfl (fun hin => rightR_ct _ _ _ (RT.mono (Hle.hu _ _) ht) (by omega)) rfl ?_))
 rintro _ _ ⟨rfl, rfl⟩
 refine JLA rfl <| Zb <| Zc <| Za <| JLM rfl <| JLn (Pu.eql rfl rfl) <| JLM rfl <| JLA rfl <| JLA rfl <| Zb <| Zm <| ⟨.tuple ⟨[.bool (decide (Xd 60 8 t = 0)), iv (Xd 60 8 t)]⟩, [], Ret.two rfl (RV.tmp rfl) (RV.tmp rfl), Sub.nil, ?_⟩
 exact ⟨rfl, rfl⟩
end Go.Proofs.YtfdeibbpfgolcaaGreat.Hs
/-! Walks, printed by a program of this session's own (gen.py). -/
namespace Go.Proofs.YtfdeibbpfgolcaaGreat.Hs
open Go Go.Proofs
set_option maxRecDepth 100000
set_option linter.unusedVariables false
set_option linter.unusedSimpArgs false
attribute [local irreducible] JL J CT wlo DT
theorem ownQ_ct (t : Tm) (cs : List Value) (H : Heap) (ht : RT H cs t) (hz : sizeT t ≤ 900000) (hv : vOK t) : CT Tryz.prog 61 ⟨[.agg ⟨cs⟩]⟩ [] H (fun v N => ∃ cs k, v = .agg ⟨cs⟩ ∧ N = [k] ∧ OT (ownQ t) cs k) := by
 refine Zn Tryz.func61 rfl rfl <| Zc <| Za <| JLr (Zo (l := cs) rfl rfl fun b1 => JLr (Zl (l := pkT 0 0 zS nS nS) Tryz.zeroValue27 rfl fun b2 => Zb <| Zc <| Za <| JLq (.agg ⟨[.func (.func 82) ⟨[]⟩ ⟨[]⟩, .func (.func 83) ⟨[]⟩ ⟨[]⟩]⟩) (Pu.build (pv := [(0, .func (.func 82) ⟨[]⟩ ⟨[]⟩), (1, .func (.func 83) ⟨[]⟩ ⟨[]⟩)]) (l := [.func (.func 82) ⟨[]⟩ ⟨[]⟩, .func (.func 83) ⟨[]⟩ ⟨[]⟩]) rfl (bld141_0_1 _ _ _ _ _ _)) <| JLr (Zg Zt rfl (At.bx 1 rfl) (Zr (Zq ht)) <| Jc Tryz.call84 rfl (fun hin => mapTermP_ct 83 [] [] Tryz.call83 (fun s => s) 82 [] [] Tryz.call82 stayV _ _ _ _ (RT.mono (Hle.hu _ _) ht) (by omega) hv (by decide) (by omega) (fun s h hh => same_ct s h) (fun n b h hh h1 h2 h3 h4 => stay_ct n b h (by unfold inI; omega))) rfl ?_)))
 rintro _ _ ⟨cs3, k3, rfl, rfl, hO3⟩
 refine JLr (Ze 1 (vs := cs3) (l := cs3) Zt rfl rfl rfl rfl hO3.len hO3.ok (ZL (n := 36) rfl hO3.len) <| Zb <| Zm <| ⟨.agg ⟨cs3⟩, [k3], Ret.one rfl (RV.cell Zt rfl (At.bx 1 rfl) (Zr hO3.len)), (Sk Sub.nil), ?_⟩)
 have hx : ownQ t = mapQ (fun s => s) stayV 0 t := by first | rfl | (simp only [ownQ]; (repeat' split) <;> first | rfl | (exfalso; omega))
 exact ⟨_, _, rfl, rfl, by rw [hx]; exact hO3⟩
end Go.Proofs.YtfdeibbpfgolcaaGreat.Hs
/-! Walks, printed by a program of this session's own (gen.py). -/
namespace Go.Proofs.YtfdeibbpfgolcaaGreat.Hs
open Go Go.Proofs
set_option maxRecDepth 100000
set_option linter.unusedVariables false
set_option linter.unusedSimpArgs false
attribute [local irreducible] JL J CT wlo DT
theorem equalI_ct (l m : List Int) (v u : Value) (H : Heap) (hl : rdS RI 1 H v l) (hm : rdS RI 1 H u m) : CT Tryz.prog 40 ⟨[v, u]⟩ [] H (fun v N => v = .bool (eqL l m) ∧ N = []) := by
 refine Zn Tryz.func40 rfl rfl <| Zc <| Za <| JLA rfl <| Zb <| Zc <| Zc <| Za <| JLm v ?_
 obtain ⟨a1, cap1, hv1⟩ := hl.sl
 have hle1 := hl.le
 refine JLn (Pu.lenSl Tryz.runUnderlying51 hv1) <| JLm u ?_
 obtain ⟨a2, cap2, hv2⟩ := hm.sl
 have hle2 := hm.le
 refine JLn (Pu.lenSl Tryz.runUnderlying51 hv2) <| JLn (Pu.neq rfl rfl) <| Zb <| Zf rfl (fun h3 => ?_) (fun h3 => ?_)
 ·replace h3 := nt h3
  replace h3 := df h3
  refine Zc <| Za <| JLA rfl <| Zb <| Zm <| ⟨.bool false, [], Ret.one rfl (RV.tmp rfl), Sub.nil, ?_⟩
  exact ⟨by rw [eqL_false (fun e => by subst e; exact absurd rfl h3)], rfl⟩
 replace h3 := nf h3
 replace h3 := dt h3
 refine Zj <| Zc <| Zc <| Za <| JLm v ?_
 obtain ⟨a4, cap4, hv4⟩ := hl.sl
 have hle4 := hl.le
 refine JLn (Pu.lenSl Tryz.runUnderlying51 hv4) <| JLM rfl <| Zb <| Zk <| ZF (fun k ρ M => ∃ (j : Nat), ρ 0 = v ∧ ρ 1 = u ∧ ρ 4 = .bool false ∧ ρ 12 = iv ((l.length : Int)) ∧ ρ 13 = iv ((j : Int)) ∧ Sub [] M ∧ j ≤ l.length ∧ l.take j = m.take j ∧ k = l.length - j) _ ⟨0, rfl, rfl, rfl, rfl, rfl, Sub.nil, Nat.zero_le _, rfl, rfl⟩ ?_
 rintro _ ρ5 _ ⟨j, e6, e7, e8, e9, e10, hm11, hj, hinv, rfl⟩
 obtain ⟨ρ12, rfl⟩ := Zu (uc e6 (uc e7 (uc e8 (uc e9 (uc e10 un)))))
 clear e6 e7 e8 e9 e10
 refine ZI hm11 <| Zc <| Za <| JLn (Pu.lss rfl rfl) <| Zb <| Zc <| Zf rfl (fun h13 => ?_) (fun h13 => ?_)
 ·replace h13 := dt h13
  have h13n : j < l.length := by omega
  have hlenl := hl.le
  have hjm : j < m.length := by omega
  refine Zj <| Zc <| Zk <| Zc <| Za <| JLM rfl <| JLA rfl <| Zb <| Zc <| ZC mixed #[0, 0, 3, 7, 0, 0, 48, 112, 255] 8 [some 16, some 17, some 18, some 19, some 20, some 21, some 22, some 23] [] [] rfl (by kernel_rfl) rfl (by kernel_rfl) <| Dm v <| DM (fun _ => rfl) ?_
  obtain ⟨b16, o16, cap16, row16, T16, fr16, cs16, hv16, hb16, hs16, hE16⟩ := hl.get j (by first | assumption | omega | decide | simp)
  refine Dq (pp b16 (o16 + j * 1)) (fun _ => Pu.idx j Tryz.runUnderlying51 ty3 hv16 rfl rfl (by first | assumption | omega | decide | simp)) <| Dl1 ty3 (At.im hb16) (YW ((show cs16 = [Value.int .i64 (l[j])] from hE16) ▸ hs16)) <| Dm u <| DM (fun _ => rfl) ?_
  obtain ⟨b17, o17, cap17, row17, T17, fr17, cs17, hv17, hb17, hs17, hE17⟩ := hm.get j (by first | assumption | omega | decide | simp)
  refine Dq (pp b17 (o17 + j * 1)) (fun _ => Pu.idx j Tryz.runUnderlying51 ty3 hv17 rfl rfl (by first | assumption | omega | decide | simp)) <| Dl1 ty3 (At.im hb17) (YW ((show cs17 = [Value.int .i64 (m[j])] from hE17) ▸ hs17)) <| ZK (M' := []) rfl ?_
  show JL _ _ _ [_] _ _ _
  refine JLn (Pu.neq rfl rfl) <| Zb <| Zf rfl (fun h18 => ?_) (fun h18 => ?_)
  ·replace h18 := nt h18
   replace h18 := df h18
   refine Zc <| Za <| JLA rfl <| Zb <| Zm <| ⟨.bool false, [], Ret.one rfl (RV.tmp rfl), Sub.nil, ?_⟩
   exact ⟨by rw [eqL_false (fun e => by subst e; exact h18 rfl)], rfl⟩
  replace h18 := nf h18
  replace h18 := dt h18
  refine Zj <| Za <| JLn (Pu.inc rfl rfl (by omega)) <| JLM rfl <| Zb <| ⟨_, ?_, (j + 1), rfl, rfl, rfl, rfl, rfl, Sub.nil, ?_, ?_, rfl⟩
  ·omega
  ·omega
  rw [List.take_succ_eq_append_getElem h13n, List.take_succ_eq_append_getElem hjm, hinv, h18]
 replace h13 := df h13
 have h13n : l.length ≤ j := by omega
 refine Zy _ rfl <| Zc <| Za <| JLA rfl <| Zb <| Zm <| ⟨.bool true, [], Ret.one rfl (RV.tmp rfl), Sub.nil, ?_⟩
 exact ⟨by rw [eqL_true (by rw [← List.take_of_length_le h13n, hinv, List.take_of_length_le (by omega)])], rfl⟩
theorem equalS_ct (l m : List ByteArray) (v u : Value) (H : Heap) (hl : rdS RS 1 H v l) (hm : rdS RS 1 H u m) : CT Tryz.prog 41 ⟨[v, u]⟩ [] H (fun v N => v = .bool (eqL l m) ∧ N = []) := by
 refine Zn Tryz.func41 rfl rfl <| Zc <| Za <| JLA rfl <| Zb <| Zc <| Zc <| Za <| JLm v ?_
 obtain ⟨a1, cap1, hv1⟩ := hl.sl
 have hle1 := hl.le
 refine JLn (Pu.lenSl Tryz.runUnderlying79 hv1) <| JLm u ?_
 obtain ⟨a2, cap2, hv2⟩ := hm.sl
 have hle2 := hm.le
 refine JLn (Pu.lenSl Tryz.runUnderlying79 hv2) <| JLn (Pu.neq rfl rfl) <| Zb <| Zf rfl (fun h3 => ?_) (fun h3 => ?_)
 ·replace h3 := nt h3
  replace h3 := df h3
  refine Zc <| Za <| JLA rfl <| Zb <| Zm <| ⟨.bool false, [], Ret.one rfl (RV.tmp rfl), Sub.nil, ?_⟩
  exact ⟨by rw [eqL_false (fun e => by subst e; exact absurd rfl h3)], rfl⟩
 replace h3 := nf h3
 replace h3 := dt h3
 refine Zj <| Zc <| Zc <| Za <| JLm v ?_
 obtain ⟨a4, cap4, hv4⟩ := hl.sl
 have hle4 := hl.le
 refine JLn (Pu.lenSl Tryz.runUnderlying79 hv4) <| JLM rfl <| Zb <| Zk <| ZF (fun k ρ M => ∃ (j : Nat), ρ 0 = v ∧ ρ 1 = u ∧ ρ 4 = .bool false ∧ ρ 12 = iv ((l.length : Int)) ∧ ρ 13 = iv ((j : Int)) ∧ Sub [] M ∧ j ≤ l.length ∧ l.take j = m.take j ∧ k = l.length - j) _ ⟨0, rfl, rfl, rfl, rfl, rfl, Sub.nil, Nat.zero_le _, rfl, rfl⟩ ?_
 rintro _ ρ5 _ ⟨j, e6, e7, e8, e9, e10, hm11, hj, hinv, rfl⟩
 obtain ⟨ρ12, rfl⟩ := Zu (uc e6 (uc e7 (uc e8 (uc e9 (uc e10 un)))))
 clear e6 e7 e8 e9 e10
 refine ZI hm11 <| Zc <| Za <| JLn (Pu.lss rfl rfl) <| Zb <| Zc <| Zf rfl (fun h13 => ?_) (fun h13 => ?_)
 ·replace h13 := dt h13
  have h13n : j < l.length := by omega
  have hlenl := hl.le
  have hjm : j < m.length := by omega
  refine Zj <| Zc <| Zk <| Zc <| Za <| JLM rfl <| JLA rfl <| Zb <| Zc <| ZC mixed #[0, 0, 3, 7, 0, 0, 48, 112, 255] 8 [some 16, some 17, some 18, some 19, some 20, some 21, some 22, some 23] [] [] rfl (by kernel_rfl) rfl (by kernel_rfl) <| Dm v <| DM (fun _ => rfl) ?_
  obtain ⟨b16, o16, cap16, row16, T16, fr16, cs16, hv16, hb16, hs16, hE16⟩ := hl.get j (by first | assumption | omega | decide | simp)
  refine Dq (pp b16 (o16 + j * 1)) (fun _ => Pu.idx j Tryz.runUnderlying79 ty9 hv16 rfl rfl (by first | assumption | omega | decide | simp)) <| Dl1 ty9 (At.im hb16) (YW ((show cs16 = [Value.string (l[j])] from hE16) ▸ hs16)) <| Dm u <| DM (fun _ => rfl) ?_
  obtain ⟨b17, o17, cap17, row17, T17, fr17, cs17, hv17, hb17, hs17, hE17⟩ := hm.get j (by first | assumption | omega | decide | simp)
  refine Dq (pp b17 (o17 + j * 1)) (fun _ => Pu.idx j Tryz.runUnderlying79 ty9 hv17 rfl rfl (by first | assumption | omega | decide | simp)) <| Dl1 ty9 (At.im hb17) (YW ((show cs17 = [Value.string (m[j])] from hE17) ▸ hs17)) <| ZK (M' := []) rfl ?_
  show JL _ _ _ [_] _ _ _
  refine JLn (Pu.neqS rfl rfl) <| Zb <| Zf rfl (fun h18 => ?_) (fun h18 => ?_)
  ·replace h18 := nt h18
   replace h18 := df h18
   refine Zc <| Za <| JLA rfl <| Zb <| Zm <| ⟨.bool false, [], Ret.one rfl (RV.tmp rfl), Sub.nil, ?_⟩
   exact ⟨by rw [eqL_false (fun e => by subst e; exact h18 rfl)], rfl⟩
  replace h18 := nf h18
  replace h18 := dt h18
  refine Zj <| Za <| JLn (Pu.inc rfl rfl (by omega)) <| JLM rfl <| Zb <| ⟨_, ?_, (j + 1), rfl, rfl, rfl, rfl, rfl, Sub.nil, ?_, ?_, rfl⟩
  ·omega
  ·omega
  rw [List.take_succ_eq_append_getElem h13n, List.take_succ_eq_append_getElem hjm, hinv, h18]
 replace h13 := df h13
 have h13n : l.length ≤ j := by omega
 refine Zy _ rfl <| Zc <| Za <| JLA rfl <| Zb <| Zm <| ⟨.bool true, [], Ret.one rfl (RV.tmp rfl), Sub.nil, ?_⟩
 exact ⟨by rw [eqL_true (by rw [← List.take_of_length_le h13n, hinv, List.take_of_length_le (by omega)])], rfl⟩
theorem idxS_ct (l : List ByteArray) (x : ByteArray) (v : Value) (H : Heap) (hl : rdS RS 1 H v l) : CT Tryz.prog 112 ⟨[v, .string x]⟩ [] H (fun v N => v = iv (fstS x l 0) ∧ N = []) := by
 refine Zn Tryz.func112 rfl rfl <| Zc <| Za <| JLA rfl <| Zb <| Zc <| Zc <| Za <| JLm v ?_
 obtain ⟨a1, cap1, hv1⟩ := hl.sl
 have hle1 := hl.le
 refine JLn (Pu.lenSl Tryz.runUnderlying79 hv1) <| JLM rfl <| Zb <| Zk <| ZF (fun k ρ M => ∃ (j : Nat), ρ 0 = v ∧ ρ 1 = .string x ∧ ρ 4 = iv 0 ∧ ρ 7 = iv ((l.length : Int)) ∧ ρ 8 = iv ((j : Int)) ∧ Sub [] M ∧ j ≤ l.length ∧ fstS x (l.drop j) j = fstS x l 0 ∧ k = l.length - j) _ ⟨0, rfl, rfl, rfl, rfl, rfl, Sub.nil, Nat.zero_le _, rfl, rfl⟩ ?_
 rintro _ ρ2 _ ⟨j, e3, e4, e5, e6, e7, hm8, hj, hinv, rfl⟩
 obtain ⟨ρ9, rfl⟩ := Zu (uc e3 (uc e4 (uc e5 (uc e6 (uc e7 un)))))
 clear e3 e4 e5 e6 e7
 refine ZI hm8 <| Zc <| Za <| JLn (Pu.lss rfl rfl) <| Zb <| Zc <| Zf rfl (fun h10 => ?_) (fun h10 => ?_)
 ·replace h10 := dt h10
  have h10n : j < l.length := by omega
  have hlenl := hl.le
  refine Zj <| Zc <| Zk <| Zc <| Za <| JLM rfl <| JLA rfl <| Zb <| Zc <| Za <| JLM rfl <| JLm v <| JLM rfl ?_
  obtain ⟨b11, o11, cap11, row11, T11, fr11, cs11, hv11, hb11, hs11, hE11⟩ := hl.get j (by first | assumption | omega | decide | simp)
  refine JLq (pp b11 (o11 + j * 1)) (Pu.idx j Tryz.runUnderlying79 ty9 hv11 rfl rfl (by first | assumption | omega | decide | simp)) <| JLr (Zd ty9 rfl (At.im hb11) (YW ((show cs11 = [Value.string (l[j])] from hE11) ▸ hs11)) <| JLn (Pu.eqlS rfl rfl) <| Zb <| Zf rfl (fun h12 => ?_) (fun h12 => ?_))
  ·replace h12 := dt h12
   refine Zc <| Za <| JLM rfl <| JLA rfl <| Zb <| Zm <| ⟨iv ((j : Int)), [], Ret.one rfl (RV.tmp rfl), Sub.nil, ?_⟩
   exact ⟨by rw [← hinv, ZT h10n, fstS, if_pos h12], rfl⟩
  replace h12 := df h12
  refine Zj <| Za <| JLn (Pu.inc rfl rfl (by omega)) <| JLM rfl <| Zb <| ⟨_, ?_, (j + 1), rfl, rfl, rfl, rfl, rfl, Sub.nil, ?_, ?_, rfl⟩
  ·omega
  ·omega
  rw [ZT h10n, fstS, if_neg h12] at hinv; exact hinv
 replace h10 := df h10
 have h10n : l.length ≤ j := by omega
 refine Zy _ rfl <| Zc <| Za <| JLA rfl <| Zb <| Zm <| ⟨iv (-1), [], Ret.one rfl (RV.tmp rfl), Sub.nil, ?_⟩
 exact ⟨by rw [← hinv, YL h10n]; rfl, rfl⟩
theorem containsS_ct (l : List ByteArray) (x : ByteArray) (v : Value) (H : Heap) (hl : rdS RS 1 H v l) : CT Tryz.prog 87 ⟨[v, .string x]⟩ [] H (fun v N => v = .bool (l.any (fun y => decide (x = y))) ∧ N = []) := by
 refine Zn Tryz.func87 rfl rfl <| Zc <| Za <| JLA rfl <| Zb <| Zc <| Za <| JLm v <| JLM rfl <| Jc Tryz.call112 rfl (fun hin => idxS_ct _ _ _ _ (RSs.mono (Hle.hu _ _) hl)) rfl ?_
 rintro _ _ ⟨rfl, rfl⟩
 refine JLn (Pu.geq rfl rfl) <| JLA rfl <| Zb <| Zm <| ⟨.bool (decide (0 ≤ fstS x l 0)), [], Ret.one rfl (RV.tmp rfl), Sub.nil, ?_⟩
 exact ⟨by rw [← fstS_mem x l 0], rfl⟩
theorem number_ct (i : Nat) (H : Heap) (hi : i < 26) : CT Tryz.prog 167 ⟨[.string (ltr i)]⟩ [] H (fun v N => v = iv (i : Int) ∧ N = []) := by
 refine Zn Tryz.func167 rfl rfl <| Zc <| Za <| JLA rfl <| Zb <| Zc <| Za <| JLA rfl <| Zb <| Zc <| Zc <| Za <| JLM rfl ?_
 refine JLr (Runs_rangeS Tryz.underlying9 rfl fun r1 => Zb <| Zk <| Yo 2 <| Z0 <| Zc <| Za <| JLr (Runs_nextL (i := 0) rfl rfl hi <| JLn (Pu.extract rfl rfl) <| Zb <| Zc <| Zf (b := true) rfl (fun _ => ?_) (fun h => absurd h (by simp))))
 refine Zj <| Zk <| Zc <| Za <| JLn (Pu.extract rfl rfl) <| JLA rfl <| Zb <| Zc <| Zc <| Za <| JLM rfl <| JLn (Pu.lss rfl rfl) <| JLM rfl ?_
 refine Zv 2 [14, 15] [(15, cond (decide (97 + (i : Int) < 97)) undef (.bool (decide (122 < 97 + (i : Int)))))] ?_ fun f3 => ?_
 ·cases h2 : (decide (97 + (i : Int) < 97)) with
  | false =>
   replace h2 := df h2
   refine JLM rfl <| JLn (Pu.gtr rfl rfl) ?_
   exact Zb ⟨⟨rfl, trivial⟩, rfl⟩
  | true =>
   exact Zx rfl ⟨rfl, trivial⟩
 refine JLn (Pu.pickOr rfl rfl rfl) <| JLM rfl <| Zv 2 [18, 19] [(19, cond ((decide (97 + (i : Int) < 97)) || (decide (122 < 97 + (i : Int)))) undef (.bool false))] ?_ fun f5 => ?_
 ·cases h4 : ((decide (97 + (i : Int) < 97)) || (decide (122 < 97 + (i : Int)))) with
  | false =>
   obtain ⟨h4a, h4b⟩ := orF h4
   replace h4a := df h4a
   replace h4b := df h4b
   refine JLM rfl <| JLq (.bool false) (show Pu _ _ _ (.bool (decide ((1073741824 : Int) < -1))) from Pu.gtr rfl rfl) ?_
   exact Zb ⟨⟨rfl, trivial⟩, rfl⟩
  | true =>
   exact Zx rfl ⟨rfl, trivial⟩
 refine JLn (Pu.pickOr rfl rfl rfl) <| Zb <| Zf rfl (fun h6 => ?_) (fun h6 => ?_)
 ·exfalso; simp at h6; omega
 obtain ⟨h6a, h6b⟩ := orF h6
 obtain ⟨h6aa, h6ab⟩ := orF h6a
 replace h6aa := df h6aa
 replace h6ab := df h6ab
 refine Zj <| Za <| JLM rfl <| JLq (iv 0) (Pu.arith rfl rfl rfl) <| JLq (iv 0) (Pu.arithM rfl rfl rfl) <| JLM rfl <| JLq (.int .i32 ((i : Int))) (Pu.arithS rfl rfl ((w32 (by omega)).trans (by omega))) <| JLq (iv ((i : Int))) (Pu.conv Tryz.runUnderlying21 Tryz.runUnderlying3 rfl (w64 (by omega))) <| JLn (Pu.add64 rfl rfl (by first | omega | (constructor <;> omega))) <| JLA rfl <| Zb <| Z0 <| Zc ?_
 refine Za <| JLr (Runs_nextE (i := 0) rfl rfl (by rw [ltr_size]; decide) <| JLn (Pu.extract rfl rfl) <| Zb <| Zc <| Zf (b := false) rfl (fun h => absurd h (by simp)) (fun _ => Zy _ rfl <| Zc <| Za <| JLM rfl <| JLA rfl <| Zb <| Zm ?_))
 refine ⟨iv (0 + ((i : Int))), [], Ret.one rfl (RV.tmp rfl), Sub.nil, ?_⟩
 exact ⟨congrArg (Value.int .i64) (by omega), rfl⟩
theorem name_ct (i : Nat) (H : Heap) (hi : i < 26) : CT Tryz.prog 146 ⟨[iv ((i : Int))]⟩ [] H (fun v N => v = .string (ltr i) ∧ N = []) := by
 refine Zn Tryz.func146 rfl rfl <| Zc <| Za <| JLA rfl <| Zb <| Zc <| Zc <| Za <| JLM rfl <| JLn (Pu.lss rfl rfl) <| Zb <| Zf rfl (fun h1 => ?_) (fun h1 => ?_)
 ·replace h1 := dt h1
  have h1n : i < 26 := by omega
  refine Zc <| Za <| JLM rfl <| JLn (Pu.add64 rfl rfl (by first | omega | (constructor <;> omega))) <| JLq (.int .i32 (97 + ((i : Int)))) (Pu.conv Tryz.runUnderlying3 Tryz.runUnderlying21 rfl (w32 (by omega))) <| JLq (.string (ltr i)) (Pu.convS Tryz.runUnderlying21 Tryz.runUnderlying9 rfl (ltr_enc' i hi)) <| JLA rfl <| Zb <| Zm <| ⟨.string (ltr i), [], Ret.one rfl (RV.tmp rfl), Sub.nil, ?_⟩
  exact ⟨rfl, rfl⟩
 replace h1 := df h1
 have h1n : 26 ≤ i := by omega
 exfalso; omega
theorem mark_ct (i n : Nat) (l : List Bool) (bF : Nat) (H : Heap) (hi : i < 26) (hl : l.length = n) : CT Tryz.prog 144 ⟨[.slice (some ⟨bF, 0, none⟩) n n, .string (ltr i)]⟩ [(BX bF (bls l) 4)] H (fun v N => v = .tuple ⟨[]⟩ ∧ N = [(BX bF (bls (markL i l)) 4)]) := by
 refine Zn Tryz.func144 rfl rfl <| Zc <| Za <| JLM rfl <| Jc Tryz.call167 rfl (fun hin => number_ct i _ hi) rfl ?_
 rintro _ _ ⟨rfl, rfl⟩
 refine JLA rfl <| Zb <| Zc <| Za <| JLM rfl <| JLn (Pu.geq rfl rfl) <| JLM rfl ?_
 cases h1 : (decide (0 ≤ (i : Int))) with
 | true =>
  replace h1 := dt h1
  refine JLM rfl <| JLM rfl <| JLn (Pu.lenSl Tryz.runUnderlying196 rfl) <| JLn (Pu.lss rfl rfl) <| JLq (.bool (decide ((i : Int) < (n : Int)))) (Pu.pickT rfl rfl) <| Zb <| Zf rfl (fun h2 => ?_) (fun h2 => ?_)
  ·replace h2 := dt h2
   have h2n : i < n := by omega
   refine Za <| JLM rfl <| JLM rfl <| JLq (pp bF (0 + i * 1)) (Pu.idx i Tryz.runUnderlying196 ty4 rfl rfl (by omega) (by omega)) <| JLr (Ze 0 (vs := [.bool true]) (l := bls (l.set i true)) ty4 rfl rfl rfl rfl rfl (Zi rfl Zp) (bls_set1 (by have hbl : List.length l = n := hl; omega)) <| Zb <| ⟨.tuple ⟨[]⟩, [(BX bF (bls (l.set i true)) 4)], Ret.none rfl, (Sk Sub.nil), ?_⟩)
   exact ⟨rfl, by rw [markL, if_pos (by omega)]⟩
  replace h2 := df h2
  have h2n : n ≤ i := by omega
  refine Zj <| ⟨.tuple ⟨[]⟩, [(BX bF (bls l) 4)], Ret.none rfl, (Sk Sub.nil), ?_⟩
  exact ⟨rfl, by rw [markL, if_neg (by omega)] <;> rfl⟩
 | false =>
  replace h1 := df h1
  iterate 4 refine YG rfl ?_
  refine JLq (.bool false) (Pu.pickF rfl rfl) <| Zb <| Zf (b := false) rfl (fun h => absurd h (by simp)) (fun _ => Zj <| ⟨.tuple ⟨[]⟩, [(BX bF (bls l) 4)], Ret.none rfl, (Sk Sub.nil), ?_⟩)
  exact ⟨rfl, by rw [markL, if_neg (by omega)] <;> rfl⟩
theorem idxB_ct (x : Bool) (l : List Bool) (bF n : Nat) (H : Heap) (hl : l.length = n) (hn : n ≤ 1000000) (hB : H bF = some (.cells ⟨bls l⟩ 4 (0, 0))) : CT Tryz.prog 145 ⟨[.slice (some ⟨bF, 0, none⟩) n n, .bool x]⟩ [] H (fun v N => v = iv (fstB x l 0) ∧ N = []) := by
 refine Zn Tryz.func145 rfl rfl <| Zc <| Za <| JLA rfl <| Zb <| Zc <| Zc <| Za <| JLM rfl <| JLn (Pu.lenSl Tryz.runUnderlying196 rfl) <| JLM rfl <| Zb <| Zk ?_
 refine ZF (fun k ρ M => ∃ (j : Nat), ρ 0 = .slice (some ⟨bF, 0, none⟩) n n ∧ ρ 1 = .bool x ∧ ρ 4 = iv 0 ∧ ρ 7 = iv ((n : Int)) ∧ ρ 8 = iv ((j : Int)) ∧ Sub [] M ∧ j ≤ l.length ∧ fstB x (l.drop j) j = fstB x l 0 ∧ k = l.length - j) _ ⟨0, rfl, rfl, rfl, rfl, rfl, Sub.nil, Nat.zero_le _, rfl, rfl⟩ ?_
 rintro _ ρ1 _ ⟨j, e2, e3, e4, e5, e6, hm7, hj, hinv, rfl⟩
 obtain ⟨ρ8, rfl⟩ := Zu (uc e2 (uc e3 (uc e4 (uc e5 (uc e6 un)))))
 clear e2 e3 e4 e5 e6
 refine ZI hm7 <| Zc <| Za <| JLn (Pu.lss rfl rfl) <| Zb <| Zc <| Zf rfl (fun h9 => ?_) (fun h9 => ?_)
 ·replace h9 := dt h9
  have h9n : j < n := by omega
  refine Zj <| Zc <| Zk <| Zc <| Za <| JLM rfl <| JLA rfl <| Zb <| Zc <| Za <| JLM rfl <| JLM rfl <| JLM rfl ?_
  refine JLq (pp bF (0 + j * 1)) (Pu.idx j Tryz.runUnderlying196 ty4 rfl rfl (by omega) (by omega)) <| JLr (Zd ty4 rfl (At.im hB) (bls_get1 (by omega)) <| JLn (Pu.eqlB Tryz.runUnderlying4 rfl rfl) <| Zb <| Zf rfl (fun h10 => ?_) (fun h10 => ?_))
  ·refine Zc <| Za <| JLM rfl <| JLA rfl <| Zb <| Zm <| ⟨iv ((j : Int)), [], Ret.one rfl (RV.tmp rfl), Sub.nil, ?_⟩
   exact ⟨by rw [← hinv, ZT (by omega : j < l.length), fstB, if_pos (by simpa [(by omega : j < l.length)] using h10)], rfl⟩
  refine Zj <| Za <| JLn (Pu.inc rfl rfl (by omega)) <| JLM rfl <| Zb <| ⟨_, ?_, (j + 1), rfl, rfl, rfl, rfl, rfl, Sub.nil, ?_, ?_, rfl⟩
  ·omega
  ·omega
  rw [ZT (by omega : j < l.length), fstB, if_neg (by simpa [(by omega : j < l.length)] using h10)] at hinv; exact hinv
 replace h9 := df h9
 have h9n : n ≤ j := by omega
 refine Zy _ rfl <| Zc <| Za <| JLA rfl <| Zb <| Zm <| ⟨iv (-1), [], Ret.one rfl (RV.tmp rfl), Sub.nil, ?_⟩
 exact ⟨by rw [← hinv, YL (by omega)]; rfl, rfl⟩
end Go.Proofs.YtfdeibbpfgolcaaGreat.Hs
/-! Walks, printed by a program of this session's own (gen.py). -/
namespace Go.Proofs.YtfdeibbpfgolcaaGreat.Hs
open Go Go.Proofs
set_option maxRecDepth 100000
set_option linter.unusedVariables false
set_option linter.unusedSimpArgs false
attribute [local irreducible] JL J CT wlo DT
theorem backward_ct (v : Value) (H : Heap) (hv : v.oneCell' = true) : CT Tryz.prog 168 ⟨[v]⟩ [] H (fun u N => ∃ b, u = .func (.func 172) ⟨[]⟩ ⟨[pp b 0]⟩ ∧ N = [(BX b [v] 79)]) := by
 refine Zn Tryz.func168 rfl rfl <| Zc <| Za <| JLr (Zo (l := [v]) rfl (ZJ hv) fun b1 => JLa .nilFunc <| Zb <| Zc <| Za <| JLq (.func (.func 172) ⟨[]⟩ ⟨[pp b1 0]⟩) (Pu.makeFunc rfl rfl) <| JLA rfl <| Zb <| Zm <| ⟨.func (.func 172) ⟨[]⟩ ⟨[pp b1 0]⟩, [(BX b1 [v] 79)], Ret.one rfl (RV.tmp rfl), (Sk Sub.nil), ?_⟩)
 exact ⟨_, rfl, rfl⟩
theorem backward1_ct (L : List ByteArray) (v : Value) (H : Heap) (bK : Nat) (hl : rdS RS 1 H v L) (hK : H bK = some (.cells ⟨[v]⟩ 79 (0, 0))) (l : Nat) {σ : Type} (yc : σ → Zh) (Inv : Nat → σ → Prop) (s0 : σ) (h0 : Inv L.length s0) (hy : ∀ (i : Nat) (hi : i < L.length) (s : σ) (h : Heap), Inv (i + 1) s → Hle H h → YT Tryz.prog l ⟨[iv (i : Int), .string L[i]]⟩ [yc s] h (fun v N => ∃ s2, v = .bool true ∧ N = [yc s2] ∧ Inv i s2)) : CT Tryz.prog 172 ⟨[.func (.yield l) ⟨[]⟩ ⟨[]⟩, pp bK 0]⟩ [yc s0] H (fun _ N => ∃ s, N = [yc s] ∧ Inv 0 s) := by
 refine Zn Tryz.func172 rfl rfl <| Zc <| Za <| JLr (Zd ty79 rfl (At.im hK) rfl ?_)
 obtain ⟨a1, cap1, hv1⟩ := hl.sl
 have hle1 := hl.le
 refine JLn (Pu.lenSl Tryz.runUnderlying79 hv1) <| JLn (Pu.sub64 rfl rfl (by first | omega | (constructor <;> omega))) <| JLA rfl <| Zb <| Zk <| ZF (fun k ρ M => ∃ (e : Int) (s : σ), ρ 0 = .func (.yield l) ⟨[]⟩ ⟨[]⟩ ∧ ρ 1 = pp bK 0 ∧ ρ 3 = iv e ∧ Sub [yc s] M ∧ (-1 ≤ e ∧ e < (L.length : Int)) ∧ Inv (e + 1).toNat s ∧ k = (e + 1).toNat) _ ⟨((L.length : Int) - 1), s0, rfl, rfl, rfl, (Sk Sub.nil), ⟨by omega, by omega⟩, (by rw [show ((L.length : Int) - 1 + 1).toNat = L.length from by omega]; exact h0), rfl⟩ ?_
 rintro _ ρ2 _ ⟨e, s, e3, e4, e5, hm6, hb, hI, rfl⟩
 obtain ⟨ρ7, rfl⟩ := Zu (uc e3 (uc e4 (uc e5 un)))
 clear e3 e4 e5
 refine ZI hm6 <| Zc <| Zc <| Za <| JLM rfl <| JLn (Pu.geq rfl rfl) <| Zb <| Zf rfl (fun h8 => ?_) (fun h8 => ?_)
 ·replace h8 := dt h8
  obtain ⟨j, rfl⟩ := Int.eq_ofNat_of_zero_le h8
  have hjl : j < L.length := by omega
  refine Zj <| Zc <| Zk <| Zc <| Za <| JLM rfl <| JLM rfl <| JLr (Zd ty79 rfl (At.im hK) rfl <| JLM rfl ?_)
  obtain ⟨b9, o9, cap9, row9, T9, fr9, cs9, hv9, hb9, hs9, hE9⟩ := hl.get j (by first | assumption | omega | decide | simp)
  refine JLq (pp b9 (o9 + j * 1)) (Pu.idx j Tryz.runUnderlying79 ty9 hv9 rfl rfl (by first | assumption | omega | decide | simp)) <| JLr (Zd ty9 rfl (At.im hb9) (YW ((show cs9 = [Value.string (L[j])] from hE9) ▸ hs9)) <| JL_yield1 0 rfl rfl rfl (fun hin => hy j hjl s _ (by simpa using hI) (Hle.hu _ _)) rfl ?_)
  rintro _ _ ⟨s5, rfl, rfl, hI5⟩
  refine JLq (.bool false) (show Pu _ _ _ (.bool (!true)) from Pu.not rfl) <| Zb <| Zf (b := false) rfl (fun h => absurd h (by simp)) (fun _ => Zj <| Za <| JLM rfl <| JLn (Pu.sub64 rfl rfl (by first | omega | (constructor <;> omega))) <| JLA rfl <| Zb <| ⟨_, ?_, ((j : Int) - 1), s5, rfl, rfl, rfl, (Sk Sub.nil), ?_, ?_, rfl⟩)
  ·omega
  ·constructor <;> omega
  rw [show ((j : Int) - 1 + 1).toNat = j from by omega]; exact hI5
 replace h8 := df h8
 refine Zy _ rfl <| ⟨.tuple ⟨[]⟩, [yc s], Ret.none rfl, (Sk Sub.nil), ?_⟩
 exact ⟨s, rfl, by rw [show (e + 1).toNat = 0 from by omega] at hI; exact hI⟩
theorem with_ct (l m : List ByteArray) (v u : Value) (H : Heap) (hl : rdS RS 1 H v l) (hm : rdS RS 1 H u m) (hb : l.length + m.length ≤ 1000000) : CT Tryz.prog 147 ⟨[v, u]⟩ [] H (fun w N => ∃ u k, w = u ∧ N = [k] ∧ Own 9 1 u (Yu (m.reverse ++ l)) k) := by
 refine Zn Tryz.func147 rfl rfl <| Zc <| Za <| JLA rfl <| Zb <| Zc <| Za <| JLr (Zs (vs := []) [] Tryz.runUnderlying146 el9 rfl rfl (by intro e he; cases he) rfl (by decide) fun b1 k1 ho1 hk1 => JLr (Zl (l := [nS]) Tryz.zeroValue146 rfl fun b2 => JLr (Ze 0 (vs := [.slice (some ⟨b1, 0, none⟩) 0 0]) (l := [.slice (some ⟨b1, 0, none⟩) 0 0]) ty146 rfl rfl rfl rfl rfl (Zi rfl Zp) rfl <| Zb <| Zc <| Zc ?_)))
 refine Za <| JLm u <| Jc Tryz.call168 rfl (fun hin => backward_ct _ _ hm.one) rfl ?_
 rintro _ _ ⟨bK3, rfl, rfl⟩
 refine Zb <| Zk <| ZI (Sub.cons 1 rfl (Sub.cons 1 rfl (Sk Sub.nil))) <| J_range (L := [(BX bK3 [u] 79)]) (fun s : Value × Zh => [(BX b2 [s.1] 146), s.2]) (fun _ => false) (.slice (some ⟨b1, 0, none⟩) 0 0, k1) (fun s => Own 9 1 s.1 (Yu ((m.drop 0).reverse)) s.2) rfl rfl Tryz.call172 (List.Perm.of_eq (by simp)) ?_ ?_ ?_
 ·intro l yc hY hin
  refine CT.mono (backward1_ct m u _ bK3 (RSs.mono (Hle.hu _ _) hm) (hin 0 _ rfl _ _ List.mem_cons_self) l yc (fun i s => Own 9 1 s.1 (Yu ((m.drop i).reverse)) s.2) (.slice (some ⟨b1, 0, none⟩) 0 0, k1) (by rw [List.drop_length]; exact ho1) ?_) (fun v N hN => hN)
  intro i hi s h hI hh
  refine YT.mono (hY s [_, _] h (fun s => Own 9 1 s.1 (Yu ((m.drop i).reverse)) s.2) rfl rfl (RoundOk.mk ?_)) ?_
  ·show J _ _ _ _ [(BX b2 [s.1] 146), s.2] _
   refine Za <| JLA rfl <| Zb <| Zk <| Za <| JLr (Zd ty146 rfl (At.bx 0 rfl) rfl <| JLM rfl <| JLr (Zs (vs := [.string (m[i])]) [[.string (m[i])]] Tryz.runUnderlying146 el9 rfl rfl (by intro e he; simp only [List.mem_cons, List.not_mem_nil, or_false] at he; subst he; exact rfl) rfl (by decide) fun b4 k4 ho4 hk4 => ?_))
   have hlens5 : ∀ e ∈ ([[.string (m[i])]] : List (List Value)), List.length e = 1 := by
    intro e he; simp only [List.mem_cons, List.not_mem_nil, or_false] at he
    rcases he with rfl
    ·exact rfl
   have hoks5 : ∀ e ∈ ([[.string (m[i])]] : List (List Value)), okc e := by
    intro e he; simp only [List.mem_cons, List.not_mem_nil, or_false] at he
    rcases he with rfl
    ·exact (Zi rfl Zp)
   refine JLr (ZB (i := 2) (n := 1) (es' := [[.string (m[i])]]) Tryz.runUnderlying146 Tryz.runUnderlying146 (Or.inl rfl) el9 rfl rfl rfl hI (fun F w m => Src.row (((At.k 0 rfl (by rw [hk4]; exact List.mem_cons_self))).heap m) (Zr (ZA hlens5))) rfl hlens5 hoks5 (by decide) (by simp only [YO, List.length_reverse, List.length_drop, List.length_append]; omega) fun v5 k5 ho5 => JLr (Ze 1 (vs := [v5]) (l := [v5]) ty146 rfl rfl rfl (ZJ ho5.one) rfl (Zi ho5.one Zp) rfl <| Zb ?_))
   exact ⟨(v5, k5), rfl, (Sd (Sk (Sk Sub.nil))), (by rw [List.drop_eq_getElem_cons hi, List.reverse_cons, strs_snoc]; exact ho5)⟩
  rintro v N ⟨s2, rfl, rfl, h2⟩; exact ⟨s2, rfl, rfl, h2⟩
 ·rintro s hI hp
  have hIF := hI
  rw [List.drop_zero] at hIF
  refine Zc <| Za <| JLr (Zd ty146 rfl (At.bx 0 rfl) rfl <| JLm v <| JLr (ZB (i := 1) (n := l.length) (es' := Yu l) Tryz.runUnderlying146 Tryz.runUnderlying146 (Or.inl rfl) el9 rfl rfl rfl hIF (fun F w m => strs_src hl w _ m) (YO _) (strs_len1 _) (strs_ok _) (by decide) (by simp only [YO, List.length_reverse, List.length_drop, List.length_append]; omega) fun v6 k6 ho6 => ?_))
  rw [← strs_app] at ho6
  refine JLa v6 <| Zb <| Zm <| ⟨v6, [k6], Ret.one rfl (RV.tmp rfl), (Sd (Sk Sub.nil)), ?_⟩
  exact ⟨_, _, rfl, rfl, ho6⟩
 intro s _ hp; cases hp
end Go.Proofs.YtfdeibbpfgolcaaGreat.Hs
/-! Walks, printed by a program of this session's own (gen.py). -/
namespace Go.Proofs.YtfdeibbpfgolcaaGreat.Hs
open Go Go.Proofs
set_option maxRecDepth 100000
set_option linter.unusedVariables false
set_option linter.unusedSimpArgs false
attribute [local irreducible] JL J CT wlo DT
theorem chosen1_ct (v : Value) (H : Heap) (hl : rdS RS 1 H v [ltr 0]) : CT Tryz.prog 113 ⟨[v, iv 1]⟩ [] H (fun v N => ∃ u1 u2 k1 k2, v = .tuple ⟨[u1, u2]⟩ ∧ N = [k1, k2] ∧ Own 9 1 u1 (Yu [ltr 1, ltr 0]) k1 ∧ Own 9 1 u2 (Yu [ltr 1]) k2) := by
 refine Zn Tryz.func113 rfl rfl <| Zc <| Za <| JLA rfl <| JLA rfl <| Zb <| Zc <| Za <| JLm v ?_
 obtain ⟨a1, cap1, hv1⟩ := hl.sl
 have hle1 := hl.le
 refine JLn (Pu.lenSl Tryz.runUnderlying146 hv1) <| JLM rfl <| JLq (iv 2) (Pu.arith rfl rfl rfl) <| JLr (Runs_make 2 Tryz.runUnderlying196 el4 rfl rfl rfl rfl (by decide) (by decide) fun b2 k2 _ hk2 => ?_)
 obtain rfl : k2 = (BX b2 (bls (List.replicate 2 false)) 4) := hk2
 refine JLA rfl <| Zb <| Zc <| Za <| JLM rfl <| JLq (.func (.func 144) ⟨[.slice (some ⟨b2, 0, none⟩) 2 2]⟩ ⟨[]⟩) (Pu.makeFunc rfl rfl) <| JLA rfl <| Zb <| Zc <| Zc <| Za <| JLm v ?_
 obtain ⟨a3, cap3, hv3⟩ := hl.sl
 have hle3 := hl.le
 refine JLn (Pu.lenSl Tryz.runUnderlying146 hv3) <| JLM rfl <| Zb <| Zk <| Yo 2 <| Z0 <| Zc <| Za <| JLq (.bool true) (show Pu _ _ _ (.bool (decide ((0 : Int) < 1))) from Pu.lss rfl rfl) <| Zb <| Zc <| Zf (b := true) rfl (fun _ => ?_) (fun h => absurd h (by simp))
 refine Zj <| Zc <| Zk <| Zc <| Za ?_
 obtain ⟨b4, o4, cap4, row4, T4, fr4, cs4, hv4, hb4, hs4, hE4⟩ := hl.get 0 (by first | assumption | omega | decide | simp)
 refine JLq (pp b4 (o4 + 0 * 1)) (Pu.idx 0 Tryz.runUnderlying146 ty9 hv4 rfl rfl (by first | assumption | omega | decide | simp)) <| JLr (Zd ty9 rfl (At.im hb4) (YW ((show cs4 = [Value.string (ltr 0)] from hE4) ▸ hs4)) <| JLA rfl <| Zb <| Za <| JLM rfl <| JLM rfl <| Zw 0 rfl Tryz.call144 rfl rfl (fun hin => mark_ct 0 2 _ _ _ (by decide) (List.length_replicate ..)) rfl ?_)
 rintro _ _ ⟨rfl, rfl⟩
 refine Zb <| Za <| JLq (iv 1) (Pu.arith rfl rfl rfl) <| JLM rfl <| Zb <| Z0 <| Zc <| Za <| JLq (.bool false) (show Pu _ _ _ (.bool (decide ((1 : Int) < 1))) from Pu.lss rfl rfl) <| Zb <| Zc <| Zf (b := false) rfl (fun h => absurd h (by simp)) (fun _ => Zy _ rfl ?_)
 refine Zc <| Za <| JLA rfl <| Zb <| Zc <| Zc <| Za <| JLM rfl <| JLM rfl <| Zb <| Zk <| Yo 2 <| Z0 ?_
 refine Zc <| Za <| JLq (.bool true) (show Pu _ _ _ (.bool (decide ((0 : Int) < 1))) from Pu.lss rfl rfl) <| Zb <| Zc <| Zf (b := true) rfl (fun _ => ?_) (fun h => absurd h (by simp))
 refine Zj <| Zc <| Zk <| Zc <| Za <| JLM rfl <| Jc Tryz.call145 rfl (fun hin => int_r (r := 1) (idxB_ct false _ _ _ _ ((markL_len ..).trans (List.length_replicate ..)) (by decide) (hin 0 _ rfl _ _ List.mem_cons_self)) (by decide)) rfl ?_
 rintro _ _ ⟨rfl, rfl⟩
 refine JLA rfl <| Zb <| Zc <| Za <| JLM rfl <| JLM rfl <| Jc Tryz.call146 rfl (fun hin => name_ct 1 _ (by decide)) rfl ?_
 rintro _ _ ⟨rfl, rfl⟩
 refine JLr (Zs (vs := [.string (ltr 1)]) [[.string (ltr 1)]] Tryz.runUnderlying79 el9 rfl rfl (by intro e he; simp only [List.mem_cons, List.not_mem_nil, or_false] at he; subst he; exact rfl) rfl (by decide) fun b5 k5 ho5 hk5 => ZZ (M' := [[], k5, (BX b2 (bls (markL 0 (List.replicate 2 false))) 4)]) (Sub.emp Sub.refl) ?_)
 have hlens6 : ∀ e ∈ ([[.string (ltr 1)]] : List (List Value)), List.length e = 1 := by
  intro e he; simp only [List.mem_cons, List.not_mem_nil, or_false] at he
  rcases he with rfl
  ·exact rfl
 have hoks6 : ∀ e ∈ ([[.string (ltr 1)]] : List (List Value)), okc e := by
  intro e he; simp only [List.mem_cons, List.not_mem_nil, or_false] at he
  rcases he with rfl
  ·exact (Zi rfl Zp)
 refine JLr (ZB (i := 0) (n := 1) (es' := [[.string (ltr 1)]]) Tryz.runUnderlying79 Tryz.runUnderlying79 (Or.inl rfl) el9 rfl rfl rfl (show Own _ _ _ (Yu []) _ from Own.nil) (fun F w m => Src.row (((At.k 1 rfl (by rw [hk5]; exact List.mem_cons_self))).heap m) (Zr (ZA hlens6))) rfl hlens6 hoks6 (by decide) (by simp [Yu]) fun v6 k6 ho6 => ?_)
 rw [← strs_snoc] at ho6
 refine JLa v6 <| Zb <| Za <| JLM rfl <| JLM rfl <| JLq (pp b2 (0 + 1 * 1)) (Pu.idx 1 Tryz.runUnderlying196 ty4 rfl rfl (by omega) (by omega)) <| JLr (Ze 2 (vs := [.bool true]) (l := bls ((markL 0 (List.replicate 2 false)).set 1 true)) ty4 rfl rfl rfl rfl rfl (Zi rfl Zp) (bls_set1 (by have hbl : List.length (markL 0 (List.replicate 2 false)) = 2 := ((markL_len ..).trans (List.length_replicate ..)); omega)) <| Zb <| Za <| JLq (iv 1) (Pu.arith rfl rfl rfl) <| JLM rfl <| Zb <| Z0 ?_)
 refine Zc <| Za <| JLq (.bool false) (show Pu _ _ _ (.bool (decide ((1 : Int) < 1))) from Pu.lss rfl rfl) <| Zb <| Zc <| Zf (b := false) rfl (fun h => absurd h (by simp)) (fun _ => Zy _ rfl <| Zc <| Za <| JLm v <| JLm v6 <| Jc Tryz.call147 rfl (fun hin => with_ct _ _ _ _ _ (RSs.mono (Hle.hu _ _) hl) (Y6 ho6 (by simp) (hin 0 _ rfl)) (by simp)) rfl ?_)
 rintro u7 _ ⟨_, k7, hu7, rfl, ho7⟩; subst hu7
 refine JLm v6 <| JLa u7 <| JLa v6 <| Zb <| Zm <| ⟨.tuple ⟨[u7, v6]⟩, [k7, k6], Ret.two rfl (RV.tmp rfl) (RV.tmp rfl), (Sk (Sk Sub.nil)), ?_⟩
 exact ⟨_, _, _, _, rfl, rfl, ho7, ho6⟩
theorem chosen2_ct (v : Value) (H : Heap) (hl : rdS RS 1 H v [ltr 1, ltr 0]) : CT Tryz.prog 113 ⟨[v, iv 1]⟩ [] H (fun v N => ∃ u1 u2 k1 k2, v = .tuple ⟨[u1, u2]⟩ ∧ N = [k1, k2] ∧ Own 9 1 u1 (Yu [ltr 2, ltr 1, ltr 0]) k1 ∧ Own 9 1 u2 (Yu [ltr 2]) k2) := by
 refine Zn Tryz.func113 rfl rfl <| Zc <| Za <| JLA rfl <| JLA rfl <| Zb <| Zc <| Za <| JLm v ?_
 obtain ⟨a1, cap1, hv1⟩ := hl.sl
 have hle1 := hl.le
 refine JLn (Pu.lenSl Tryz.runUnderlying146 hv1) <| JLM rfl <| JLq (iv 3) (Pu.arith rfl rfl rfl) <| JLr (Runs_make 3 Tryz.runUnderlying196 el4 rfl rfl rfl rfl (by decide) (by decide) fun b2 k2 _ hk2 => ?_)
 obtain rfl : k2 = (BX b2 (bls (List.replicate 3 false)) 4) := hk2
 refine JLA rfl <| Zb <| Zc <| Za <| JLM rfl <| JLq (.func (.func 144) ⟨[.slice (some ⟨b2, 0, none⟩) 3 3]⟩ ⟨[]⟩) (Pu.makeFunc rfl rfl) <| JLA rfl <| Zb <| Zc <| Zc <| Za <| JLm v ?_
 obtain ⟨a3, cap3, hv3⟩ := hl.sl
 have hle3 := hl.le
 refine JLn (Pu.lenSl Tryz.runUnderlying146 hv3) <| JLM rfl <| Zb <| Zk <| Yo 3 <| Z0 <| Zc <| Za <| JLq (.bool true) (show Pu _ _ _ (.bool (decide ((0 : Int) < 2))) from Pu.lss rfl rfl) <| Zb <| Zc <| Zf (b := true) rfl (fun _ => ?_) (fun h => absurd h (by simp))
 refine Zj <| Zc <| Zk <| Zc <| Za ?_
 obtain ⟨b4, o4, cap4, row4, T4, fr4, cs4, hv4, hb4, hs4, hE4⟩ := hl.get 0 (by first | assumption | omega | decide | simp)
 refine JLq (pp b4 (o4 + 0 * 1)) (Pu.idx 0 Tryz.runUnderlying146 ty9 hv4 rfl rfl (by first | assumption | omega | decide | simp)) <| JLr (Zd ty9 rfl (At.im hb4) (YW ((show cs4 = [Value.string (ltr 1)] from hE4) ▸ hs4)) <| JLA rfl <| Zb <| Za <| JLM rfl <| JLM rfl <| Zw 0 rfl Tryz.call144 rfl rfl (fun hin => mark_ct 1 3 _ _ _ (by decide) (List.length_replicate ..)) rfl ?_)
 rintro _ _ ⟨rfl, rfl⟩
 refine Zb <| Za <| JLq (iv 1) (Pu.arith rfl rfl rfl) <| JLM rfl <| Zb <| Z0 <| Zc <| Za <| JLq (.bool true) (show Pu _ _ _ (.bool (decide ((1 : Int) < 2))) from Pu.lss rfl rfl) <| Zb <| Zc <| Zf (b := true) rfl (fun _ => ?_) (fun h => absurd h (by simp))
 refine Zj <| Zc <| Zk <| Zc <| Za ?_
 obtain ⟨b5, o5, cap5, row5, T5, fr5, cs5, hv5, hb5, hs5, hE5⟩ := hl.get 1 (by first | assumption | omega | decide | simp)
 refine JLq (pp b5 (o5 + 1 * 1)) (Pu.idx 1 Tryz.runUnderlying146 ty9 hv5 rfl rfl (by first | assumption | omega | decide | simp)) <| JLr (Zd ty9 rfl (At.im hb5) (YW ((show cs5 = [Value.string (ltr 0)] from hE5) ▸ hs5)) <| JLA rfl <| Zb <| Za <| JLM rfl <| JLM rfl <| Zw 0 rfl Tryz.call144 rfl rfl (fun hin => mark_ct 0 3 _ _ _ (by decide) ((markL_len ..).trans (List.length_replicate ..))) rfl ?_)
 rintro _ _ ⟨rfl, rfl⟩
 refine Zb <| Za <| JLq (iv 2) (Pu.arith rfl rfl rfl) <| JLM rfl <| Zb <| Z0 <| Zc <| Za <| JLq (.bool false) (show Pu _ _ _ (.bool (decide ((2 : Int) < 2))) from Pu.lss rfl rfl) <| Zb <| Zc <| Zf (b := false) rfl (fun h => absurd h (by simp)) (fun _ => Zy _ rfl ?_)
 refine Zc <| Za <| JLA rfl <| Zb <| Zc <| Zc <| Za <| JLM rfl <| JLM rfl <| Zb <| Zk <| Yo 2 <| Z0 ?_
 refine Zc <| Za <| JLq (.bool true) (show Pu _ _ _ (.bool (decide ((0 : Int) < 1))) from Pu.lss rfl rfl) <| Zb <| Zc <| Zf (b := true) rfl (fun _ => ?_) (fun h => absurd h (by simp))
 refine Zj <| Zc <| Zk <| Zc <| Za <| JLM rfl <| Jc Tryz.call145 rfl (fun hin => int_r (r := 2) (idxB_ct false _ _ _ _ ((markL_len ..).trans ((markL_len ..).trans (List.length_replicate ..))) (by decide) (hin 0 _ rfl _ _ List.mem_cons_self)) (by decide)) rfl ?_
 rintro _ _ ⟨rfl, rfl⟩
 refine JLA rfl <| Zb <| Zc <| Za <| JLM rfl <| JLM rfl <| Jc Tryz.call146 rfl (fun hin => name_ct 2 _ (by decide)) rfl ?_
 rintro _ _ ⟨rfl, rfl⟩
 refine JLr (Zs (vs := [.string (ltr 2)]) [[.string (ltr 2)]] Tryz.runUnderlying79 el9 rfl rfl (by intro e he; simp only [List.mem_cons, List.not_mem_nil, or_false] at he; subst he; exact rfl) rfl (by decide) fun b6 k6 ho6 hk6 => ZZ (M' := [[], k6, (BX b2 (bls (markL 0 (markL 1 (List.replicate 3 false)))) 4)]) (Sub.emp Sub.refl) ?_)
 have hlens7 : ∀ e ∈ ([[.string (ltr 2)]] : List (List Value)), List.length e = 1 := by
  intro e he; simp only [List.mem_cons, List.not_mem_nil, or_false] at he
  rcases he with rfl
  ·exact rfl
 have hoks7 : ∀ e ∈ ([[.string (ltr 2)]] : List (List Value)), okc e := by
  intro e he; simp only [List.mem_cons, List.not_mem_nil, or_false] at he
  rcases he with rfl
  ·exact (Zi rfl Zp)
 refine JLr (ZB (i := 0) (n := 1) (es' := [[.string (ltr 2)]]) Tryz.runUnderlying79 Tryz.runUnderlying79 (Or.inl rfl) el9 rfl rfl rfl (show Own _ _ _ (Yu []) _ from Own.nil) (fun F w m => Src.row (((At.k 1 rfl (by rw [hk6]; exact List.mem_cons_self))).heap m) (Zr (ZA hlens7))) rfl hlens7 hoks7 (by decide) (by simp [Yu]) fun v7 k7 ho7 => ?_)
 rw [← strs_snoc] at ho7
 refine JLa v7 <| Zb <| Za <| JLM rfl <| JLM rfl <| JLq (pp b2 (0 + 2 * 1)) (Pu.idx 2 Tryz.runUnderlying196 ty4 rfl rfl (by omega) (by omega)) <| JLr (Ze 2 (vs := [.bool true]) (l := bls ((markL 0 (markL 1 (List.replicate 3 false))).set 2 true)) ty4 rfl rfl rfl rfl rfl (Zi rfl Zp) (bls_set1 (by have hbl : List.length (markL 0 (markL 1 (List.replicate 3 false))) = 3 := ((markL_len ..).trans ((markL_len ..).trans (List.length_replicate ..))); omega)) <| Zb <| Za <| JLq (iv 1) (Pu.arith rfl rfl rfl) <| JLM rfl <| Zb <| Z0 ?_)
 refine Zc <| Za <| JLq (.bool false) (show Pu _ _ _ (.bool (decide ((1 : Int) < 1))) from Pu.lss rfl rfl) <| Zb <| Zc <| Zf (b := false) rfl (fun h => absurd h (by simp)) (fun _ => Zy _ rfl <| Zc <| Za <| JLm v <| JLm v7 <| Jc Tryz.call147 rfl (fun hin => with_ct _ _ _ _ _ (RSs.mono (Hle.hu _ _) hl) (Y6 ho7 (by simp) (hin 0 _ rfl)) (by simp)) rfl ?_)
 rintro u8 _ ⟨_, k8, hu8, rfl, ho8⟩; subst hu8
 refine JLm v7 <| JLa u8 <| JLa v7 <| Zb <| Zm <| ⟨.tuple ⟨[u8, v7]⟩, [k8, k7], Ret.two rfl (RV.tmp rfl) (RV.tmp rfl), (Sk (Sk Sub.nil)), ?_⟩
 exact ⟨_, _, _, _, rfl, rfl, ho8, ho7⟩
end Go.Proofs.YtfdeibbpfgolcaaGreat.Hs
/-! Walks, printed by a program of this session's own (gen.py). -/
namespace Go.Proofs.YtfdeibbpfgolcaaGreat.Hs
open Go Go.Proofs
set_option maxRecDepth 100000
set_option linter.unusedVariables false
set_option linter.unusedSimpArgs false
attribute [local irreducible] JL J CT wlo DT
set_option maxHeartbeats 1000000 in
theorem named_va : ∀ (cs : List Value) (v : Value) (H : Heap), RT H cs (Tm.mk 1 1 zS [] []) → rdS RS 1 H v [ltr 2, ltr 1, ltr 0] → CT Tryz.prog 89 ⟨[.agg ⟨cs⟩, v]⟩ [] H (fun v N => ∃ cs k, v = .agg ⟨cs⟩ ∧ N = [k] ∧ NC [] cs k) := by
 intro cs v H ht hl
 obtain ⟨ks, cv, rfl, _, _, hks, hcv⟩ := RT_mk.1 ht
 refine Zn Tryz.func89 rfl rfl <| Zc <| Za <| JLr (Zo (l := pkT 1 1 zS ks cv) rfl rfl fun b1 => JLr (Zl (l := (pkT 0 0 zS nS nS) ++ ([nS] : List Value)) Tryz.zeroValue83 rfl fun b2 => Zb <| Zc <| Za <| JLq (pp b1 0) (ZG rfl rfl) <| JLr (Zd ty3 rfl (At.bx 1 rfl) (ZU ..) <| JLq (pp b1 1) (Ya rfl rfl) <| JLr (Zd ty3 rfl (At.bx 1 rfl) (Yn ..) <| JLq (pp b1 2) (Yq rfl rfl) ?_))))
 refine JLr (Zg ZR rfl (At.bx 1 rfl) (Y5 ..) <| JLq (.agg ⟨(pkT 1 1 zS nS nS) ++ ([nS] : List Value)⟩) (Pu.build (pv := [(0, iv 1), (1, iv 1), (2, .agg ⟨sC zS⟩)]) (l := (pkT 1 1 zS nS nS) ++ ([nS] : List Value)) rfl (bld83_0_1_2 _ _ _)) <| JLr (Zl (l := (pkT 0 0 zS nS nS) ++ ([nS] : List Value)) Tryz.zeroValue83 rfl fun b3 => JLr (Ze 0 (vs := (pkT 1 1 zS nS nS) ++ ([nS] : List Value)) (l := (pkT 1 1 zS nS nS) ++ ([nS] : List Value)) ty83 rfl rfl rfl rfl rfl (Z6 (Z2 rfl rfl) (Zi rfl Zp)) (ZL (n := 37) rfl rfl) <| Zb <| Zc <| Zc <| Za <| JLq (pp b1 0) (ZG rfl rfl) <| JLr (Zd ty3 rfl (At.bx 2 rfl) (ZU ..) <| JLq (.bool true) (show Pu _ _ _ (.bool (decide ((1 : Int) = 1))) from Pu.eql rfl rfl) <| Zb <| Zf (b := true) rfl (fun _ => ?_) (fun h => absurd h (by simp))))))
 refine ZC mixed #[0, 0, 2, 7, 15, 31, 0, 64, 255, 511] 8 [some 24, some 25, some 26, some 27, some 28, some 29, some 30, none] [(7, 8)] [(5, fun _ _ vw qw => ∃ b k, vw = .slice (some ⟨b, 0, none⟩) 1 1 ∧ qw = [k] ∧ Own 9 1 (.slice (some ⟨b, 0, none⟩) 1 1) [[.string (ltr 1)]] k ∧ k = (BX b (List.flatten [[.string (ltr 1)]]) 9)), (7, fun _ _ vw qw => vw = undef ∧ qw = [(BX b3 ((pkT 1 0 zS nS nS) ++ ([nS] : List Value)) 83)])] rfl (by kernel_rfl) rfl (by kernel_rfl) <| Dm v <| Dq (pp b1 1) (fun _ => Ya rfl rfl) <| Dl1 ty3 (At.bx 1 rfl) (Yn ..) ?_
 obtain ⟨b6, o6, cap6, row6, T6, fr6, cs6, hv6, hb6, hs6, hE6⟩ := hl.get 1 (by first | assumption | omega | decide | simp)
 refine Dq (pp b6 (o6 + 1 * 1)) (fun _ => Pu.idx 1 Tryz.runUnderlying146 ty9 hv6 rfl rfl (by first | assumption | omega | decide | simp)) <| Dl1 ty9 (At.im hb6) (YW ((show cs6 = [Value.string (ltr 1)] from hE6) ▸ hs6)) <| Dr rfl (fun _ => Zs (vs := [.string (ltr 1)]) [[.string (ltr 1)]] Tryz.runUnderlying79 el9 rfl rfl (by intro e he; simp only [List.mem_cons, List.not_mem_nil, or_false] at he; subst he; exact rfl) rfl (by decide) fun b k h1 h2 => ⟨[k], by rw [Z9 rfl]; exact Sub.refl, b, k, rfl, rfl, h1, h2⟩) (fun _ _ ⟨b7, k7, e1, e2, ho7, hk7⟩ => ?_); subst e1 e2
 refine Dq (pp b3 1) (fun _ => fa83_1 rfl rfl) <| Dr rfl (fun _ => Ze 0 (vs := [iv 0]) (l := (pkT 1 0 zS nS nS) ++ ([nS] : List Value)) ty3 rfl rfl rfl rfl rfl (Zi rfl Zp) (spl_l (pkT_s1 ..)) ⟨[_], keptE (i := 0) rfl rfl, rfl, rfl⟩) ?_; rintro _ _ ⟨rfl, rfl⟩
 refine ZK (M' := [(BX b3 ((pkT 1 0 zS nS nS) ++ ([nS] : List Value)) 83), k7, (BX b2 ((pkT 0 0 zS nS nS) ++ ([nS] : List Value)) 83), (BX b1 (pkT 1 1 zS ks cv) 27)]) rfl ?_
 show JL _ _ _ [_, _] _ _ _
 refine JLq (pp b3 34) (fa83_3 rfl rfl) <| JLr (Ze 0 (vs := [.slice (some ⟨b7, 0, none⟩) 1 1]) (l := (pkT 1 0 zS (.slice (some ⟨b7, 0, none⟩) 1 1) nS) ++ ([nS] : List Value)) ty79 rfl rfl rfl rfl rfl (Zi rfl Zp) (spl_l (pkT_s34 ..)) <| Zb <| Zc <| Zc <| Za <| JLq (pp b1 34) (ZY rfl rfl) <| JLr (Zd YA rfl (At.bx 3 rfl) (ZV ..) ?_))
 obtain ⟨a8, cap8, hv8⟩ := hks.sl
 have hle8 := hks.le
 refine JLn (Pu.lenSl Tryz.runUnderlying24 hv8) <| JLM rfl <| Zb <| Zk <| Yo 1 <| Z0 <| Zc <| Za <| JLq (.bool false) (show Pu _ _ _ (.bool (decide ((0 : Int) < 0))) from Pu.lss rfl rfl) <| Zb <| Zc <| Zf (b := false) rfl (fun h => absurd h (by simp)) (fun _ => Zy _ rfl ?_)
 refine Zc <| Zc <| Za <| JLq (pp b1 35) (ZP rfl rfl) <| JLr (Zd Ym rfl (At.bx 3 rfl) (ZO ..) ?_)
 obtain ⟨a9, cap9, hv9⟩ := hcv.sl
 have hle9 := hcv.le
 refine JLn (Pu.lenSl Tryz.runUnderlying25 hv9) <| JLM rfl <| Zb <| Zk <| Yo 1 <| Z0 <| Zc <| Za <| JLq (.bool false) (show Pu _ _ _ (.bool (decide ((0 : Int) < 0))) from Pu.lss rfl rfl) <| Zb <| Zc <| Zf (b := false) rfl (fun h => absurd h (by simp)) (fun _ => Zy _ rfl ?_)
 refine Zc <| Za <| JLr (Zg ty83 rfl (At.bx 0 rfl) (Zr rfl) <| JLr (Ze 2 (vs := (pkT 1 0 zS (.slice (some ⟨b7, 0, none⟩) 1 1) nS) ++ ([nS] : List Value)) (l := (pkT 1 0 zS (.slice (some ⟨b7, 0, none⟩) 1 1) nS) ++ ([nS] : List Value)) ty83 rfl rfl rfl rfl rfl (Z6 (Z2 rfl rfl) (Zi rfl Zp)) (ZL (n := 37) rfl rfl) <| Zb <| Zm <| ⟨.agg ⟨(pkT 1 0 zS (.slice (some ⟨b7, 0, none⟩) 1 1) nS) ++ ([nS] : List Value)⟩, [[]], Ret.one rfl (RV.cell ty83 rfl (At.bx 2 rfl) (Zr rfl)), (Sub.emp Sub.nil), ?_⟩))
 exact ⟨_, _, rfl, rfl, rfl, (Z6 (Z2 rfl rfl) (Zi rfl Zp))⟩
set_option maxHeartbeats 1000000 in
theorem named1_ct : ∀ (cs : List Value) (v : Value) (H : Heap), RT H cs (Tm.mk 3 0 zS [Tm.mk 1 1 zS [] []] []) → rdS RS 1 H v [ltr 1, ltr 0] → CT Tryz.prog 89 ⟨[.agg ⟨cs⟩, v]⟩ [] H (fun v N => ∃ cs k, v = .agg ⟨cs⟩ ∧ N = [k] ∧ NC [[ltr 2]] cs k) := by
 intro cs v H ht hl
 obtain ⟨ks, cv, rfl, _, _, hks, hcv⟩ := RT_mk.1 ht
 refine Zn Tryz.func89 rfl rfl <| Zc <| Za <| JLr (Zo (l := pkT 3 0 zS ks cv) rfl rfl fun b1 => JLr (Zl (l := (pkT 0 0 zS nS nS) ++ ([nS] : List Value)) Tryz.zeroValue83 rfl fun b2 => Zb <| Zc <| Za <| JLq (pp b1 0) (ZG rfl rfl) <| JLr (Zd ty3 rfl (At.bx 1 rfl) (ZU ..) <| JLq (pp b1 1) (Ya rfl rfl) <| JLr (Zd ty3 rfl (At.bx 1 rfl) (Yn ..) <| JLq (pp b1 2) (Yq rfl rfl) ?_))))
 refine JLr (Zg ZR rfl (At.bx 1 rfl) (Y5 ..) <| JLq (.agg ⟨(pkT 3 0 zS nS nS) ++ ([nS] : List Value)⟩) (Pu.build (pv := [(0, iv 3), (1, iv 0), (2, .agg ⟨sC zS⟩)]) (l := (pkT 3 0 zS nS nS) ++ ([nS] : List Value)) rfl (bld83_0_1_2 _ _ _)) <| JLr (Zl (l := (pkT 0 0 zS nS nS) ++ ([nS] : List Value)) Tryz.zeroValue83 rfl fun b3 => JLr (Ze 0 (vs := (pkT 3 0 zS nS nS) ++ ([nS] : List Value)) (l := (pkT 3 0 zS nS nS) ++ ([nS] : List Value)) ty83 rfl rfl rfl rfl rfl (Z6 (Z2 rfl rfl) (Zi rfl Zp)) (ZL (n := 37) rfl rfl) <| Zb <| Zc <| Zc <| Za <| JLq (pp b1 0) (ZG rfl rfl) <| JLr (Zd ty3 rfl (At.bx 2 rfl) (ZU ..) <| JLq (.bool false) (show Pu _ _ _ (.bool (decide ((3 : Int) = 1))) from Pu.eql rfl rfl) <| Zb <| Zf (b := false) rfl (fun h => absurd h (by simp)) (fun _ => ?_)))))
 refine Zj <| Zc <| Zc <| Za <| JLq (pp b1 34) (ZY rfl rfl) <| JLr (Zd YA rfl (At.bx 2 rfl) (ZV ..) ?_)
 obtain ⟨a4, cap4, hv4⟩ := hks.sl
 have hle4 := hks.le
 refine JLn (Pu.lenSl Tryz.runUnderlying24 hv4) <| JLM rfl <| Zb <| Zk <| Yo 2 <| Z0 <| Zc <| Za <| JLq (.bool true) (show Pu _ _ _ (.bool (decide ((0 : Int) < 1))) from Pu.lss rfl rfl) <| Zb <| Zc <| Zf (b := true) rfl (fun _ => ?_) (fun h => absurd h (by simp))
 refine Zj <| Zc <| Zk <| Zc <| Za <| JLM rfl ?_
 obtain ⟨b5, o5, cap5, row5, T5, fr5, cs5, hv5, hb5, hs5, hE5⟩ := hks.get 0 (by first | assumption | omega | decide | simp)
 refine JLq (pp b5 (o5 + 0 * 36)) (Pu.idx 0 Tryz.runUnderlying24 Zt hv5 rfl rfl (by first | assumption | omega | decide | simp)) <| JLr (Zg Zt rfl (At.im hb5) hs5 <| JLr (Zl (l := pkT 0 0 zS nS nS) Tryz.zeroValue27 rfl fun b6 => JLA rfl <| JLr (Ze 0 (vs := cs5) (l := cs5) Zt rfl rfl rfl rfl (Zq hE5) (YV hE5) (ZL (n := 36) rfl (Zq hE5)) <| Zb <| Zc <| Za <| JLm v <| JLq (pp b1 0) (ZG rfl rfl) <| JLr (Zd ty3 rfl (At.bx 3 rfl) (ZU ..) <| JLM rfl <| Jc Tryz.call96 rfl (fun hin => int_r (r := 1) (more_ct _ _ _) (by decide)) rfl ?_))))
 rintro _ _ ⟨rfl, rfl⟩
 refine Jc Tryz.call113 rfl (fun hin => chosen2_ct _ _ (RSs.mono (Hle.hu _ _) hl)) rfl ?_
 rintro _ _ ⟨ua7, ub7, ka7, kb7, rfl, rfl, hoa7, hob7⟩
 refine JLM rfl <| JLn (Pu.extract rfl rfl) <| JLn (Pu.extract rfl rfl) <| JLa ua7 <| JLa ub7 <| Zb <| Zc <| Za <| JLq (pp b3 34) (fa83_3 rfl rfl) <| JLr (Zd ty79 rfl (At.bx 3 rfl) (get_l (ZV ..)) <| JLm ub7 <| ZZ (M' := [[], ka7, kb7, (BX b6 cs5 27), (BX b3 ((pkT 3 0 zS nS nS) ++ ([nS] : List Value)) 83), (BX b2 ((pkT 0 0 zS nS nS) ++ ([nS] : List Value)) 83), (BX b1 (pkT 3 0 zS ks cv) 27)]) (Sub.emp Sub.refl) <| JLr (ZB (i := 0) (n := ([ltr 2]).length) (es' := Yu ([ltr 2])) Tryz.runUnderlying79 Tryz.runUnderlying79 (Or.inl rfl) el9 rfl rfl rfl (show Own _ _ _ (Yu []) _ from Own.nil) (own_src (i := 2) hob7 rfl) (YO _) (strs_len1 _) (strs_ok _) (by decide) (by simp [Yu]) fun v8 k8 ho8 => ?_))
 rw [← strs_app] at ho8
 refine JLq (pp b3 34) (fa83_3 rfl rfl) <| JLr (Ze 4 (vs := [v8]) (l := (pkT 3 0 zS v8 nS) ++ ([nS] : List Value)) ty79 rfl rfl rfl (ZJ ho8.one) rfl (Zi ho8.one Zp) (spl_l (pkT_s34 ..)) <| Zb <| ZC mixed #[0, 1, 0, 0, 12, 28, 63, 127, 255] 6 [some 54, some 55, some 56, some 57, some 58, some 59] [] [(4, fun _ _ vw qw => ∃ cs k, vw = .agg ⟨cs⟩ ∧ qw = [k] ∧ NC ([]) cs k), (5, fun r _ vw qw => ∃ b k, vw = .slice (some ⟨b, 0, none⟩) 1 1 ∧ qw = [k] ∧ Own 83 37 (.slice (some ⟨b, 0, none⟩) 1 1) [(cel (r 4))] k ∧ k = (BX b (List.flatten [(cel (r 4))]) 83))] rfl (by kernel_rfl) rfl (by kernel_rfl) <| Dq (pp b3 35) (fun _ => fa83_4 rfl rfl) <| Dl1 ty80 (At.bx 4 rfl) (get_l (ZO ..)) <| Dl Zt (At.bx 3 rfl) (Zr (Zq hE5)) <| Dm ua7 <| Dc rfl Tryz.call89 (fun _ => rfl) (fun hin => named_va _ _ _ (RT.mono (Hle.hu _ _) hE5) (Y6 hoa7 (by simp) (hin 1 _ rfl))) ?_)
 rintro _ _ ⟨cs11, k11, rfl, rfl, hO11⟩
 refine Dr rfl (fun _ => Zs (vs := [.agg ⟨cs11⟩]) [cs11] Tryz.runUnderlying80 el83 rfl rfl (by intro e he; simp only [List.mem_cons, List.not_mem_nil, or_false] at he; subst he; exact hO11.len) rfl (by decide) fun b k h1 h2 => ⟨[k], by rw [Z9 rfl]; exact Sub.refl, b, k, rfl, rfl, h1, h2⟩) (fun _ _ ⟨b12, k12, e1, e2, ho12, hk12⟩ => ?_); subst e1 e2
 refine ZK (M' := [k12, k11, k8, ka7, kb7, (BX b6 cs5 27), (BX b3 ((pkT 3 0 zS v8 nS) ++ ([nS] : List Value)) 83), (BX b2 ((pkT 0 0 zS nS nS) ++ ([nS] : List Value)) 83), (BX b1 (pkT 3 0 zS ks cv) 27)]) rfl ?_
 show JL _ _ _ [_, _, _] _ _ _
 refine ZZ (M' := [[], k12, k11, k8, ka7, kb7, (BX b6 cs5 27), (BX b3 ((pkT 3 0 zS v8 nS) ++ ([nS] : List Value)) 83), (BX b2 ((pkT 0 0 zS nS nS) ++ ([nS] : List Value)) 83), (BX b1 (pkT 3 0 zS ks cv) 27)]) (Sub.emp Sub.refl) ?_
 have hlens13 : ∀ e ∈ ([cs11] : List (List Value)), List.length e = 37 := by
  intro e he; simp only [List.mem_cons, List.not_mem_nil, or_false] at he
  rcases he with rfl
  ·exact hO11.len
 have hoks13 : ∀ e ∈ ([cs11] : List (List Value)), okc e := by
  intro e he; simp only [List.mem_cons, List.not_mem_nil, or_false] at he
  rcases he with rfl
  ·exact hO11.ok
 refine JLr (ZB (i := 0) (n := 1) (es' := [cs11]) Tryz.runUnderlying80 Tryz.runUnderlying80 (Or.inl rfl) el83 rfl rfl rfl Own.nil (fun F w m => Src.row (((At.k 1 rfl (by rw [hk12]; exact List.mem_cons_self))).heap m) (Zr (ZA hlens13))) rfl hlens13 hoks13 (by decide) (by simp [Yu]) fun v13 k13 ho13 => JLq (pp b3 35) (fa83_4 rfl rfl) <| JLr (Ze 7 (vs := [v13]) (l := (pkT 3 0 zS v8 v13) ++ ([nS] : List Value)) ty80 rfl rfl rfl (ZJ ho13.one) rfl (Zi ho13.one Zp) (spl_l (pkT_s35 ..)) <| Zb <| Za <| JLq (iv 1) (Pu.arith rfl rfl rfl) <| JLM rfl <| Zb <| Z0 <| Zc <| Za <| JLq (.bool false) (show Pu _ _ _ (.bool (decide ((1 : Int) < 1))) from Pu.lss rfl rfl) <| Zb ?_))
 refine Zc <| Zf (b := false) rfl (fun h => absurd h (by simp)) (fun _ => Zy _ rfl <| Zc <| Zc <| Za <| JLq (pp b1 35) (ZP rfl rfl) <| JLr (Zd Ym rfl (At.bx 9 rfl) (ZO ..) ?_))
 obtain ⟨a14, cap14, hv14⟩ := hcv.sl
 have hle14 := hcv.le
 refine JLn (Pu.lenSl Tryz.runUnderlying25 hv14) <| JLM rfl <| Zb <| Zk <| Yo 1 <| Z0 <| Zc <| Za <| JLq (.bool false) (show Pu _ _ _ (.bool (decide ((0 : Int) < 0))) from Pu.lss rfl rfl) <| Zb <| Zc <| Zf (b := false) rfl (fun h => absurd h (by simp)) (fun _ => Zy _ rfl ?_)
 refine Zc <| Za <| JLr (Zg ty83 rfl (At.bx 7 rfl) (Zr rfl) <| JLr (Ze 8 (vs := (pkT 3 0 zS v8 v13) ++ ([nS] : List Value)) (l := (pkT 3 0 zS v8 v13) ++ ([nS] : List Value)) ty83 rfl rfl rfl rfl rfl (Z6 (Z2 ho8.one ho13.one) (Zi rfl Zp)) (ZL (n := 37) rfl rfl) <| Zb <| Zm <| ⟨.agg ⟨(pkT 3 0 zS v8 v13) ++ ([nS] : List Value)⟩, [k8 ++ (k13 ++ k11)], Ret.one rfl (RV.cell ty83 rfl (At.bx 8 rfl) (Zr rfl)), (Sub.join3 (Sub.cons 3 rfl (Sk (Sd (Sk Sub.nil))))), ?_⟩))
 exact ⟨_, _, rfl, rfl, ⟨_, _, _, _, _, _, _, _, _, _, rfl, rfl, ho8, ho13, hO11, rfl⟩⟩
set_option maxHeartbeats 1000000 in
theorem named0_ct : ∀ (cs : List Value) (v : Value) (H : Heap), RT H cs (Tm.mk 3 0 zS [(Tm.mk 3 0 zS [Tm.mk 1 1 zS [] []] [])] []) → rdS RS 1 H v [ltr 0] → CT Tryz.prog 89 ⟨[.agg ⟨cs⟩, v]⟩ [] H (fun v N => ∃ cs k, v = .agg ⟨cs⟩ ∧ N = [k] ∧ NC [[ltr 1], [ltr 2]] cs k) := by
 intro cs v H ht hl
 obtain ⟨ks, cv, rfl, _, _, hks, hcv⟩ := RT_mk.1 ht
 refine Zn Tryz.func89 rfl rfl <| Zc <| Za <| JLr (Zo (l := pkT 3 0 zS ks cv) rfl rfl fun b1 => JLr (Zl (l := (pkT 0 0 zS nS nS) ++ ([nS] : List Value)) Tryz.zeroValue83 rfl fun b2 => Zb <| Zc <| Za <| JLq (pp b1 0) (ZG rfl rfl) <| JLr (Zd ty3 rfl (At.bx 1 rfl) (ZU ..) <| JLq (pp b1 1) (Ya rfl rfl) <| JLr (Zd ty3 rfl (At.bx 1 rfl) (Yn ..) <| JLq (pp b1 2) (Yq rfl rfl) ?_))))
 refine JLr (Zg ZR rfl (At.bx 1 rfl) (Y5 ..) <| JLq (.agg ⟨(pkT 3 0 zS nS nS) ++ ([nS] : List Value)⟩) (Pu.build (pv := [(0, iv 3), (1, iv 0), (2, .agg ⟨sC zS⟩)]) (l := (pkT 3 0 zS nS nS) ++ ([nS] : List Value)) rfl (bld83_0_1_2 _ _ _)) <| JLr (Zl (l := (pkT 0 0 zS nS nS) ++ ([nS] : List Value)) Tryz.zeroValue83 rfl fun b3 => JLr (Ze 0 (vs := (pkT 3 0 zS nS nS) ++ ([nS] : List Value)) (l := (pkT 3 0 zS nS nS) ++ ([nS] : List Value)) ty83 rfl rfl rfl rfl rfl (Z6 (Z2 rfl rfl) (Zi rfl Zp)) (ZL (n := 37) rfl rfl) <| Zb <| Zc <| Zc <| Za <| JLq (pp b1 0) (ZG rfl rfl) <| JLr (Zd ty3 rfl (At.bx 2 rfl) (ZU ..) <| JLq (.bool false) (show Pu _ _ _ (.bool (decide ((3 : Int) = 1))) from Pu.eql rfl rfl) <| Zb <| Zf (b := false) rfl (fun h => absurd h (by simp)) (fun _ => ?_)))))
 refine Zj <| Zc <| Zc <| Za <| JLq (pp b1 34) (ZY rfl rfl) <| JLr (Zd YA rfl (At.bx 2 rfl) (ZV ..) ?_)
 obtain ⟨a4, cap4, hv4⟩ := hks.sl
 have hle4 := hks.le
 refine JLn (Pu.lenSl Tryz.runUnderlying24 hv4) <| JLM rfl <| Zb <| Zk <| Yo 2 <| Z0 <| Zc <| Za <| JLq (.bool true) (show Pu _ _ _ (.bool (decide ((0 : Int) < 1))) from Pu.lss rfl rfl) <| Zb <| Zc <| Zf (b := true) rfl (fun _ => ?_) (fun h => absurd h (by simp))
 refine Zj <| Zc <| Zk <| Zc <| Za <| JLM rfl ?_
 obtain ⟨b5, o5, cap5, row5, T5, fr5, cs5, hv5, hb5, hs5, hE5⟩ := hks.get 0 (by first | assumption | omega | decide | simp)
 refine JLq (pp b5 (o5 + 0 * 36)) (Pu.idx 0 Tryz.runUnderlying24 Zt hv5 rfl rfl (by first | assumption | omega | decide | simp)) <| JLr (Zg Zt rfl (At.im hb5) hs5 <| JLr (Zl (l := pkT 0 0 zS nS nS) Tryz.zeroValue27 rfl fun b6 => JLA rfl <| JLr (Ze 0 (vs := cs5) (l := cs5) Zt rfl rfl rfl rfl (Zq hE5) (YV hE5) (ZL (n := 36) rfl (Zq hE5)) <| Zb <| Zc <| Za <| JLm v <| JLq (pp b1 0) (ZG rfl rfl) <| JLr (Zd ty3 rfl (At.bx 3 rfl) (ZU ..) <| JLM rfl <| Jc Tryz.call96 rfl (fun hin => int_r (r := 1) (more_ct _ _ _) (by decide)) rfl ?_))))
 rintro _ _ ⟨rfl, rfl⟩
 refine Jc Tryz.call113 rfl (fun hin => chosen1_ct _ _ (RSs.mono (Hle.hu _ _) hl)) rfl ?_
 rintro _ _ ⟨ua7, ub7, ka7, kb7, rfl, rfl, hoa7, hob7⟩
 refine JLM rfl <| JLn (Pu.extract rfl rfl) <| JLn (Pu.extract rfl rfl) <| JLa ua7 <| JLa ub7 <| Zb <| Zc <| Za <| JLq (pp b3 34) (fa83_3 rfl rfl) <| JLr (Zd ty79 rfl (At.bx 3 rfl) (get_l (ZV ..)) <| JLm ub7 <| ZZ (M' := [[], ka7, kb7, (BX b6 cs5 27), (BX b3 ((pkT 3 0 zS nS nS) ++ ([nS] : List Value)) 83), (BX b2 ((pkT 0 0 zS nS nS) ++ ([nS] : List Value)) 83), (BX b1 (pkT 3 0 zS ks cv) 27)]) (Sub.emp Sub.refl) <| JLr (ZB (i := 0) (n := ([ltr 1]).length) (es' := Yu ([ltr 1])) Tryz.runUnderlying79 Tryz.runUnderlying79 (Or.inl rfl) el9 rfl rfl rfl (show Own _ _ _ (Yu []) _ from Own.nil) (own_src (i := 2) hob7 rfl) (YO _) (strs_len1 _) (strs_ok _) (by decide) (by simp [Yu]) fun v8 k8 ho8 => ?_))
 rw [← strs_app] at ho8
 refine JLq (pp b3 34) (fa83_3 rfl rfl) <| JLr (Ze 4 (vs := [v8]) (l := (pkT 3 0 zS v8 nS) ++ ([nS] : List Value)) ty79 rfl rfl rfl (ZJ ho8.one) rfl (Zi ho8.one Zp) (spl_l (pkT_s34 ..)) <| Zb <| ZC mixed #[0, 1, 0, 0, 12, 28, 63, 127, 255] 6 [some 54, some 55, some 56, some 57, some 58, some 59] [] [(4, fun _ _ vw qw => ∃ cs k, vw = .agg ⟨cs⟩ ∧ qw = [k] ∧ NC ([[ltr 2]]) cs k), (5, fun r _ vw qw => ∃ b k, vw = .slice (some ⟨b, 0, none⟩) 1 1 ∧ qw = [k] ∧ Own 83 37 (.slice (some ⟨b, 0, none⟩) 1 1) [(cel (r 4))] k ∧ k = (BX b (List.flatten [(cel (r 4))]) 83))] rfl (by kernel_rfl) rfl (by kernel_rfl) <| Dq (pp b3 35) (fun _ => fa83_4 rfl rfl) <| Dl1 ty80 (At.bx 4 rfl) (get_l (ZO ..)) <| Dl Zt (At.bx 3 rfl) (Zr (Zq hE5)) <| Dm ua7 <| Dc rfl Tryz.call89 (fun _ => rfl) (fun hin => named1_ct _ _ _ (RT.mono (Hle.hu _ _) hE5) (Y6 hoa7 (by simp) (hin 1 _ rfl))) ?_)
 rintro _ _ ⟨cs11, k11, rfl, rfl, hO11⟩
 refine Dr rfl (fun _ => Zs (vs := [.agg ⟨cs11⟩]) [cs11] Tryz.runUnderlying80 el83 rfl rfl (by intro e he; simp only [List.mem_cons, List.not_mem_nil, or_false] at he; subst he; exact hO11.len) rfl (by decide) fun b k h1 h2 => ⟨[k], by rw [Z9 rfl]; exact Sub.refl, b, k, rfl, rfl, h1, h2⟩) (fun _ _ ⟨b12, k12, e1, e2, ho12, hk12⟩ => ?_); subst e1 e2
 refine ZK (M' := [k12, k11, k8, ka7, kb7, (BX b6 cs5 27), (BX b3 ((pkT 3 0 zS v8 nS) ++ ([nS] : List Value)) 83), (BX b2 ((pkT 0 0 zS nS nS) ++ ([nS] : List Value)) 83), (BX b1 (pkT 3 0 zS ks cv) 27)]) rfl ?_
 show JL _ _ _ [_, _, _] _ _ _
 refine ZZ (M' := [[], k12, k11, k8, ka7, kb7, (BX b6 cs5 27), (BX b3 ((pkT 3 0 zS v8 nS) ++ ([nS] : List Value)) 83), (BX b2 ((pkT 0 0 zS nS nS) ++ ([nS] : List Value)) 83), (BX b1 (pkT 3 0 zS ks cv) 27)]) (Sub.emp Sub.refl) ?_
 have hlens13 : ∀ e ∈ ([cs11] : List (List Value)), List.length e = 37 := by
  intro e he; simp only [List.mem_cons, List.not_mem_nil, or_false] at he
  rcases he with rfl
  ·exact hO11.len
 have hoks13 : ∀ e ∈ ([cs11] : List (List Value)), okc e := by
  intro e he; simp only [List.mem_cons, List.not_mem_nil, or_false] at he
  rcases he with rfl
  ·exact hO11.ok
 refine JLr (ZB (i := 0) (n := 1) (es' := [cs11]) Tryz.runUnderlying80 Tryz.runUnderlying80 (Or.inl rfl) el83 rfl rfl rfl Own.nil (fun F w m => Src.row (((At.k 1 rfl (by rw [hk12]; exact List.mem_cons_self))).heap m) (Zr (ZA hlens13))) rfl hlens13 hoks13 (by decide) (by simp [Yu]) fun v13 k13 ho13 => JLq (pp b3 35) (fa83_4 rfl rfl) <| JLr (Ze 7 (vs := [v13]) (l := (pkT 3 0 zS v8 v13) ++ ([nS] : List Value)) ty80 rfl rfl rfl (ZJ ho13.one) rfl (Zi ho13.one Zp) (spl_l (pkT_s35 ..)) <| Zb <| Za <| JLq (iv 1) (Pu.arith rfl rfl rfl) <| JLM rfl <| Zb <| Z0 <| Zc <| Za <| JLq (.bool false) (show Pu _ _ _ (.bool (decide ((1 : Int) < 1))) from Pu.lss rfl rfl) <| Zb ?_))
 refine Zc <| Zf (b := false) rfl (fun h => absurd h (by simp)) (fun _ => Zy _ rfl <| Zc <| Zc <| Za <| JLq (pp b1 35) (ZP rfl rfl) <| JLr (Zd Ym rfl (At.bx 9 rfl) (ZO ..) ?_))
 obtain ⟨a14, cap14, hv14⟩ := hcv.sl
 have hle14 := hcv.le
 refine JLn (Pu.lenSl Tryz.runUnderlying25 hv14) <| JLM rfl <| Zb <| Zk <| Yo 1 <| Z0 <| Zc <| Za <| JLq (.bool false) (show Pu _ _ _ (.bool (decide ((0 : Int) < 0))) from Pu.lss rfl rfl) <| Zb <| Zc <| Zf (b := false) rfl (fun h => absurd h (by simp)) (fun _ => Zy _ rfl ?_)
 refine Zc <| Za <| JLr (Zg ty83 rfl (At.bx 7 rfl) (Zr rfl) <| JLr (Ze 8 (vs := (pkT 3 0 zS v8 v13) ++ ([nS] : List Value)) (l := (pkT 3 0 zS v8 v13) ++ ([nS] : List Value)) ty83 rfl rfl rfl rfl rfl (Z6 (Z2 ho8.one ho13.one) (Zi rfl Zp)) (ZL (n := 37) rfl rfl) <| Zb <| Zm <| ⟨.agg ⟨(pkT 3 0 zS v8 v13) ++ ([nS] : List Value)⟩, [k8 ++ (k13 ++ k11)], Ret.one rfl (RV.cell ty83 rfl (At.bx 8 rfl) (Zr rfl)), (Sub.join3 (Sub.cons 3 rfl (Sk (Sd (Sk Sub.nil))))), ?_⟩))
 exact ⟨_, _, rfl, rfl, ⟨_, _, _, _, _, _, _, _, _, _, rfl, rfl, ho8, ho13, hO11, rfl⟩⟩
end Go.Proofs.YtfdeibbpfgolcaaGreat.Hs
/-! Walks, printed by a program of this session's own (gen.py). -/
namespace Go.Proofs.YtfdeibbpfgolcaaGreat.Hs
open Go Go.Proofs
set_option maxRecDepth 100000
set_option linter.unusedVariables false
set_option linter.unusedSimpArgs false
attribute [local irreducible] JL J CT wlo DT
theorem nameE_ct (cs : List Value) (v : Value) (H : Heap) (ht : RT H cs eLL) (hl : rdS RS 1 H v [ltr 0]) : CT Tryz.prog 39 ⟨[.agg ⟨cs⟩, v]⟩ [] H (fun v N => ∃ cs k, v = .tuple ⟨[.agg ⟨cs⟩, iv 0]⟩ ∧ N = [k] ∧ NC [[ltr 1], [ltr 2]] cs k) := by
 refine Zn Tryz.func39 rfl rfl <| Zc <| Za <| JLr (Zo (l := cs) rfl rfl fun b1 => JLr (Zo (l := [v]) rfl (ZJ hl.one) fun b2 => JLr (Zl (l := (pkT 0 0 zS nS nS) ++ ([nS] : List Value)) Tryz.zeroValue83 rfl fun b3 => JLA rfl <| Zb <| Zc <| Zc <| Za <| JLr (Zg Zt rfl (At.bx 2 rfl) (Zr (Zq ht)) <| JLr (Zs (vs := [.agg ⟨cs⟩]) [cs] Tryz.runUnderlying24 el27 rfl rfl (by intro e he; simp only [List.mem_cons, List.not_mem_nil, or_false] at he; subst he; exact (Zq ht)) rfl (by decide) fun b4 k4 ho4 hk4 => ?_)))))
 refine Jc Tryz.call49 rfl (fun hin => int_r (r := 0) (right_ct [eLL] _ _ (Own.rd1 ho4 (hin 0 _ rfl) (RT.mono (Hle.hu _ _) ht))) right_ll) rfl ?_
 rintro _ _ ⟨rfl, rfl⟩
 refine JLA rfl <| Zb <| Zc <| Za <| JLM rfl <| JLq (.bool false) (show Pu _ _ _ (.bool (!decide ((0 : Int) = 0))) from Pu.neq rfl rfl) <| Zb <| Zf (b := false) rfl (fun h => absurd h (by simp)) (fun _ => Zj <| Zc <| Zc <| Za <| JLr (Zd ty79 rfl (At.bx 2 rfl) rfl ?_))
 refine Jc Tryz.call87 rfl (fun hin => YF (r := false) (containsS_ct _ _ _ _ (RSs.mono (Hle.hu _ _) hl)) (by decide)) rfl ?_
 rintro _ _ ⟨rfl, rfl⟩
 refine Zb <| Zf (b := false) rfl (fun h => absurd h (by simp)) (fun _ => Zj <| Zc <| Zc <| Za <| JLr (Zd ty79 rfl (At.bx 2 rfl) rfl ?_))
 obtain ⟨a5, cap5, hv5⟩ := hl.sl
 have hle5 := hl.le
 refine JLn (Pu.lenSl Tryz.runUnderlying79 hv5) <| JLM rfl <| Zb <| Zk <| Yo 2 <| Z0 <| Zc <| Za <| JLq (.bool true) (show Pu _ _ _ (.bool (decide ((0 : Int) < 1))) from Pu.lss rfl rfl) <| Zb <| Zc <| Zf (b := true) rfl (fun _ => ?_) (fun h => absurd h (by simp))
 refine Zj <| Zc <| Zk <| Zc <| Za <| JLM rfl ?_
 obtain ⟨b6, o6, cap6, row6, T6, fr6, cs6, hv6, hb6, hs6, hE6⟩ := hl.get 0 (by first | assumption | omega | decide | simp)
 refine JLq (pp b6 (o6 + 0 * 1)) (Pu.idx 0 Tryz.runUnderlying79 ty9 hv6 rfl rfl (by first | assumption | omega | decide | simp)) <| JLr (Zd ty9 rfl (At.im hb6) (YW ((show cs6 = [Value.string (ltr 0)] from hE6) ▸ hs6)) <| JLA rfl <| JLA rfl <| Zb <| Zc <| Za <| JLr (Zd ty79 rfl (At.bx 2 rfl) rfl <| JLM rfl ?_))
 obtain ⟨a7, cap7, hv7⟩ := hl.sl
 have hle7 := hl.le
 refine JLr (Runs_slice0 Tryz.runUnderlying79 Tryz.sizeOf9 hv7 rfl fun sa8 sc8 => JLM rfl <| Jc Tryz.call87 rfl (fun hin => YF (r := false) (containsS_ct _ _ _ _ (RSs.mono (Hle.hu _ _) (rdS.none : Hs.rdS RS 1 H (.slice sa8 0 sc8) []))) (by decide)) rfl ?_)
 rintro _ _ ⟨rfl, rfl⟩
 refine Zb <| Zf (b := false) rfl (fun h => absurd h (by simp)) (fun _ => Zj <| Za <| JLq (iv 1) (Pu.arith rfl rfl rfl) <| JLM rfl <| Zb <| Z0 <| Zc <| Za <| JLq (.bool false) (show Pu _ _ _ (.bool (decide ((1 : Int) < 1))) from Pu.lss rfl rfl) <| Zb <| Zc ?_)
 refine Zf (b := false) rfl (fun h => absurd h (by simp)) (fun _ => Zy _ rfl <| Zc <| Za <| JLr (Zg Zt rfl (At.bx 3 rfl) (Zr (Zq ht)) <| Jc Tryz.call35 rfl (fun hin => freeE_ct eLL _ _ (RT.mono (Hle.hu _ _) ht)) rfl ?_))
 rintro _ _ ⟨u9, e9, k9, rfl, rfl, ho9, he9⟩
 rw [free_ll] at ho9 he9
 replace ho9 : Own 3 1 u9 (ints ([])) k9 := ho9
 obtain rfl : e9 = 0 := he9
 refine JLM rfl <| JLn (Pu.extract rfl rfl) <| JLn (Pu.extract rfl rfl) <| JLa u9 <| JLA rfl <| Zb <| Zc <| Zc <| Za <| JLm u9 <| JLq (.func (.func 88) ⟨[]⟩ ⟨[pp b2 0]⟩) (Pu.makeFunc rfl rfl) <| Jc Tryz.call85 rfl (fun hin => YF (r := true) (every_ct 88 [] [pp b2 0] Tryz.call88 (fun _ => true) [] _ _ (own_ints ho9 (by simp) (hin 0 _ rfl)) (fun x hx => by cases hx)) rfl) rfl ?_
 rintro _ _ ⟨rfl, rfl⟩
 refine JLq (.bool false) (show Pu _ _ _ (.bool (!true)) from Pu.not rfl) <| Zb <| Zf (b := false) rfl (fun h => absurd h (by simp)) (fun _ => Zj <| Zc <| Za <| JLr (Zg Zt rfl (At.bx 4 rfl) (Zr (Zq ht)) <| JLr (Zd ty79 rfl (At.bx 3 rfl) rfl <| Jc Tryz.call89 rfl (fun hin => named0_ct _ _ _ (RT.mono (Hle.hu _ _) ht) (RSs.mono (Hle.hu _ _) hl)) rfl ?_)))
 rintro _ _ ⟨cs10, k10, rfl, rfl, hO10⟩
 refine JLr (Ze 3 (vs := cs10) (l := cs10) ty83 rfl rfl rfl rfl hO10.len hO10.ok (ZL (n := 37) rfl hO10.len) <| JLA rfl <| Zb <| Zm <| ⟨.tuple ⟨[.agg ⟨cs10⟩, iv 0]⟩, [k10], Ret.two rfl (RV.cell ty83 rfl (At.bx 3 rfl) (Zr hO10.len)) (RV.tmp rfl), (Sk Sub.nil), ?_⟩)
 exact ⟨_, _, rfl, rfl, hO10⟩
theorem nu_ct (n : Int) (H : Heap) (hb : inI n) : CT Tryz.prog 37 ⟨[iv n]⟩ [] H (fun v N => ∃ cs k, v = .agg ⟨cs⟩ ∧ N = [k] ∧ OT (.mk 2 n zS [] []) cs k) := by
 refine Zn Tryz.func37 rfl rfl <| Zc <| Za <| JLr (Zl (l := pkT 0 0 zS nS nS) Tryz.zeroValue27 rfl fun b1 => Zb <| Zc <| Za <| JLM rfl <| JLq (.agg ⟨pkT 2 n zS nS nS⟩) (Pu.build (pv := [(0, iv 2), (1, iv n)]) (l := pkT 2 n zS nS nS) rfl (bld27_0_1 _ _)) <| JLr (Ze 0 (vs := pkT 2 n zS nS nS) (l := pkT 2 n zS nS nS) Zt rfl rfl rfl rfl rfl (Z2 rfl rfl) (Y4 ..) <| Zb <| Zm <| ⟨.agg ⟨pkT 2 n zS nS nS⟩, [[]], Ret.one rfl (RV.cell Zt rfl (At.bx 0 rfl) (YI ..)), (Sub.emp Sub.nil), ?_⟩))
 exact ⟨_, _, rfl, rfl, OT_leaf (by unfold inI; omega) hb⟩
theorem va_ct (n : Int) (H : Heap) (hb : inI n) : CT Tryz.prog 34 ⟨[iv n]⟩ [] H (fun v N => ∃ cs k, v = .agg ⟨cs⟩ ∧ N = [k] ∧ OT (.mk 1 n zS [] []) cs k) := by
 refine Zn Tryz.func34 rfl rfl <| Zc <| Za <| JLr (Zl (l := pkT 0 0 zS nS nS) Tryz.zeroValue27 rfl fun b1 => Zb <| Zc <| Za <| JLM rfl <| JLq (.agg ⟨pkT 1 n zS nS nS⟩) (Pu.build (pv := [(0, iv 1), (1, iv n)]) (l := pkT 1 n zS nS nS) rfl (bld27_0_1 _ _)) <| JLr (Ze 0 (vs := pkT 1 n zS nS nS) (l := pkT 1 n zS nS nS) Zt rfl rfl rfl rfl rfl (Z2 rfl rfl) (Y4 ..) <| Zb <| Zm <| ⟨.agg ⟨pkT 1 n zS nS nS⟩, [[]], Ret.one rfl (RV.cell Zt rfl (At.bx 0 rfl) (YI ..)), (Sub.emp Sub.nil), ?_⟩))
 exact ⟨_, _, rfl, rfl, OT_leaf (by unfold inI; omega) hb⟩
theorem la_ct (H : Heap) (a : List Value) (hla : a.length = 36) (hka : okc a) : CT Tryz.prog 32 ⟨[.agg ⟨a⟩]⟩ [] H (fun v N => ∃ cs k, v = .agg ⟨cs⟩ ∧ N = [k] ∧ cs.length = 36 ∧ okc cs ∧ ∀ ta h, Has k h → RT h a ta → RT h cs (.mk 3 0 zS [ta] [])) := by
 refine Zn Tryz.func32 rfl rfl <| Zc <| Za <| JLr (Zo (l := a) rfl rfl fun b1 => JLr (Zl (l := pkT 0 0 zS nS nS) Tryz.zeroValue27 rfl fun b2 => Zb <| Zc <| Za <| JLr (Zg Zt rfl (At.bx 1 rfl) (Zr hla) <| JLr (Zs (vs := [.agg ⟨a⟩]) [a] Tryz.runUnderlying24 el27 rfl rfl (by intro e he; simp only [List.mem_cons, List.not_mem_nil, or_false] at he; subst he; exact hla) rfl (by decide) fun b3 k3 ho3 hk3 => JLq (.agg ⟨pkT 3 0 zS (.slice (some ⟨b3, 0, none⟩) 1 1) nS⟩) (Pu.build (pv := [(0, iv 3), (3, .slice (some ⟨b3, 0, none⟩) 1 1)]) (l := pkT 3 0 zS (.slice (some ⟨b3, 0, none⟩) 1 1) nS) rfl (bld27_0_3 _ _ _ _)) <| JLr (Ze 1 (vs := pkT 3 0 zS (.slice (some ⟨b3, 0, none⟩) 1 1) nS) (l := pkT 3 0 zS (.slice (some ⟨b3, 0, none⟩) 1 1) nS) Zt rfl rfl rfl rfl rfl (Z2 rfl rfl) (Y4 ..) <| Zb ?_)))))
 refine Zm <| ⟨.agg ⟨pkT 3 0 zS (.slice (some ⟨b3, 0, none⟩) 1 1) nS⟩, [k3], Ret.one rfl (RV.cell Zt rfl (At.bx 1 rfl) (YI ..)), (Sk Sub.nil), ?_⟩
 exact ⟨_, _, rfl, rfl, rfl, Z2 rfl rfl, fun ta h hh hta => RT_mk.2 ⟨_, _, rfl, (by unfold inI; omega), (by unfold inI; omega), Own.rd1 ho3 hh hta, Hs.rdS.nil⟩⟩
theorem ap_ct (H : Heap) (a : List Value) (hla : a.length = 36) (hka : okc a) (b : List Value) (hlb : b.length = 36) (hkb : okc b) : CT Tryz.prog 33 ⟨[.agg ⟨a⟩, .agg ⟨b⟩]⟩ [] H (fun v N => ∃ cs k, v = .agg ⟨cs⟩ ∧ N = [k] ∧ cs.length = 36 ∧ okc cs ∧ ∀ ta tb h, Has k h → RT h a ta → RT h b tb → RT h cs (.mk 4 0 zS [ta, tb] [])) := by
 refine Zn Tryz.func33 rfl rfl <| Zc <| Za <| JLr (Zo (l := a) rfl rfl fun b1 => JLr (Zo (l := b) rfl rfl fun b2 => JLr (Zl (l := pkT 0 0 zS nS nS) Tryz.zeroValue27 rfl fun b3 => Zb <| Zc <| Za <| JLr (Zg Zt rfl (At.bx 2 rfl) (Zr hla) <| JLr (Zg Zt rfl (At.bx 1 rfl) (Zr hlb) <| JLr (Zs (vs := [.agg ⟨a⟩, .agg ⟨b⟩]) [a, b] Tryz.runUnderlying24 el27 rfl rfl (by intro e he; simp only [List.mem_cons, List.not_mem_nil, or_false] at he; rcases he with rfl | rfl <;> first | exact hla | exact hlb) rfl (by decide) fun b4 k4 ho4 hk4 => JLq (.agg ⟨pkT 4 0 zS (.slice (some ⟨b4, 0, none⟩) 2 2) nS⟩) (Pu.build (pv := [(0, iv 4), (3, .slice (some ⟨b4, 0, none⟩) 2 2)]) (l := pkT 4 0 zS (.slice (some ⟨b4, 0, none⟩) 2 2) nS) rfl (bld27_0_3 _ _ _ _)) ?_))))))
 refine JLr (Ze 1 (vs := pkT 4 0 zS (.slice (some ⟨b4, 0, none⟩) 2 2) nS) (l := pkT 4 0 zS (.slice (some ⟨b4, 0, none⟩) 2 2) nS) Zt rfl rfl rfl rfl rfl (Z2 rfl rfl) (Y4 ..) <| Zb <| Zm <| ⟨.agg ⟨pkT 4 0 zS (.slice (some ⟨b4, 0, none⟩) 2 2) nS⟩, [k4], Ret.one rfl (RV.cell Zt rfl (At.bx 1 rfl) (YI ..)), (Sk Sub.nil), ?_⟩)
 exact ⟨_, _, rfl, rfl, rfl, Z2 rfl rfl, fun ta tb h hh hta htb => RT_mk.2 ⟨_, _, rfl, (by unfold inI; omega), (by unfold inI; omega), Own.rd2 ho4 hh hta htb, Hs.rdS.nil⟩⟩
theorem ha_ct (r : Sm) (a : Option Addr) (n c : Nat) (H : Heap) : CT Tryz.prog 43 ⟨[.agg ⟨sC r⟩, .slice a n c]⟩ [] H (fun v N => v = .agg ⟨pkT 12 0 r (.slice a n c) nS⟩ ∧ N = []) := by
 refine Zn Tryz.func43 rfl rfl <| Zc <| Za <| JLr (Zo (l := sC r) rfl rfl fun b1 => JLr (Zl (l := pkT 0 0 zS nS nS) Tryz.zeroValue27 rfl fun b2 => Zb <| Zc <| Za <| JLr (Zg ZR rfl (At.bx 1 rfl) (Zr rfl) <| JLM rfl <| JLq (.agg ⟨pkT 12 0 r (.slice a n c) nS⟩) (Pu.build (pv := [(0, iv 12), (2, .agg ⟨sC r⟩), (3, .slice a n c)]) (l := pkT 12 0 r (.slice a n c) nS) rfl (bld27_0_2_3 _ _ _ _ _)) <| JLr (Ze 0 (vs := pkT 12 0 r (.slice a n c) nS) (l := pkT 12 0 r (.slice a n c) nS) Zt rfl rfl rfl rfl rfl (Z2 rfl rfl) (Y4 ..) <| Zb ?_))))
 refine Zm <| ⟨.agg ⟨pkT 12 0 r (.slice a n c) nS⟩, [], Ret.one rfl (RV.cell Zt rfl (At.bx 0 rfl) (YI ..)), Sub.nil, ?_⟩
 exact ⟨rfl, rfl⟩
end Go.Proofs.YtfdeibbpfgolcaaGreat.Hs
/-! Walks, printed by a program of this session's own (gen.py). -/
namespace Go.Proofs.YtfdeibbpfgolcaaGreat.Hs
open Go Go.Proofs
set_option maxRecDepth 100000
set_option linter.unusedVariables false
set_option linter.unusedSimpArgs false
attribute [local irreducible] JL J CT wlo DT
set_option maxHeartbeats 8000000 in
theorem awake_ct (H : Heap) : CT Tryz.prog 7 ⟨[]⟩ [] H (fun v N => v = .bool true ∧ N = []) := by
 refine Zn Tryz.func7 rfl rfl <| Zc <| Za <| JLA rfl <| Zb <| Zc <| Zf (b := false) rfl (fun h => absurd h (by simp)) (fun _ => Zj <| Zc <| Za <| Jc Tryz.call34 rfl (fun hin => va_ct _ _ (by unfold inI; omega)) rfl ?_)
 rintro _ _ ⟨cs1, k1, rfl, rfl, hO1⟩
 refine Jc Tryz.call34 rfl (fun hin => va_ct _ _ (by unfold inI; omega)) rfl ?_
 rintro _ _ ⟨cs2, k2, rfl, rfl, hO2⟩
 refine Jc Tryz.call33 rfl (fun hin => ap_ct _ _ hO1.len hO1.ok _ hO2.len hO2.ok) rfl ?_
 rintro _ _ ⟨cs3, k3, rfl, rfl, hC3⟩
 replace hC3 : (cs3.length = 36 ∧ okc cs3 ∧ ∀ h, Has k3 h → RT h cs1 (eVa 0) → RT h cs2 (eVa 1) → RT h cs3 (eAp (eVa 0) (eVa 1))) := ⟨hC3.1, hC3.2.1, hC3.2.2 (eVa 0) (eVa 1)⟩
 refine Jc Tryz.call32 rfl (fun hin => la_ct _ _ hC3.1 hC3.2.1) rfl ?_
 rintro _ _ ⟨cs4, k4, rfl, rfl, hC4⟩
 replace hC4 : (cs4.length = 36 ∧ okc cs4 ∧ ∀ h, Has k4 h → RT h cs3 (eAp (eVa 0) (eVa 1)) → RT h cs4 (eLa (eAp (eVa 0) (eVa 1)))) := ⟨hC4.1, hC4.2.1, hC4.2.2 (eAp (eVa 0) (eVa 1))⟩
 refine JLr (Zl (l := pkT 0 0 zS nS nS) Tryz.zeroValue27 rfl fun b5 => JLr (Ze 0 (vs := cs4) (l := cs4) Zt rfl rfl rfl rfl hC4.1 hC4.2.1 (ZL (n := 36) rfl hC4.1) <| Zb <| Zc <| Za <| JLr (Zg Zt rfl (At.bx 0 rfl) (Zr hC4.1) <| Jc Tryz.call35 rfl (fun hin => freeE_ct eLam _ _ (hC4.2.2 _ (hin 1 _ rfl) (hC3.2.2 _ (hin 2 _ rfl) (hO1.rd (hin 4 _ rfl)) (hO2.rd (hin 3 _ rfl))))) rfl ?_)))
 rintro _ _ ⟨u6, e6, k6, rfl, rfl, ho6, he6⟩
 rw [free_lam] at ho6 he6
 replace ho6 : Own 3 1 u6 (ints ([0])) k6 := ho6
 obtain rfl : e6 = 0 := he6
 refine JLM rfl <| JLn (Pu.extract rfl rfl) <| JLn (Pu.extract rfl rfl) <| JLa u6 <| JLA rfl <| Zb <| Zc <| ZC mixed #[0, 0, 3, 7, 15, 15, 0, 95, 255] 8 [some 24, some 25, some 26, some 23, some 27, some 28, some 4, none] [(7, 6)] [(1, fun _ _ vw qw => ∃ cs k, vw = .agg ⟨cs⟩ ∧ qw = [k] ∧ OT (eNu 5) cs k), (2, fun _ _ vw qw => ∃ cs k, vw = .tuple ⟨[.agg ⟨cs⟩, iv 0]⟩ ∧ qw = [k] ∧ OT (eLa (eAp (eVa 0) (eNu 5))) cs k), (6, newP 27 (pkT 0 0 zS nS nS)), (7, fun r _ vw qw => vw = undef ∧ qw = [(BX (pblk (r 6)) ((tcel (r 2))) 27)])] rfl (by kernel_rfl) rfl (by kernel_rfl) <| Dl Zt (At.bx 1 rfl) (Zr hC4.1) ?_
 refine Dc rfl Tryz.call37 (fun _ => rfl) (fun hin => nu_ct _ _ (by unfold inI; omega)) ?_
 rintro _ _ ⟨cs10, k10, rfl, rfl, hO10⟩
 refine Dc rfl Tryz.call36 (fun _ => rfl) (fun hin => ble_at (substP_ct eLam 0 (eNu 5) _ _ _ (hC4.2.2 _ (hin 3 _ rfl) (hC3.2.2 _ (hin 4 _ rfl) (hO1.rd (hin 6 _ rfl)) (hO2.rd (hin 5 _ rfl)))) (hO10.rd (hin 0 _ rfl))) five_lam) ?_
 rintro _ _ ⟨cs11, k11, rfl, rfl, hO11⟩
 refine DM (fun _ => rfl) <| Dn (fun _ => Pu.extract rfl rfl) <| Dn (fun _ => Pu.extract rfl rfl) <| Da Tryz.zeroValue27 rfl fun b12 => Dr rfl (fun _ => Ze 0 (vs := cs11) (l := cs11) Zt rfl rfl rfl rfl hO11.len hO11.ok (ZL (n := 36) rfl hO11.len) ⟨[_], keptE (i := 0) rfl rfl, rfl, rfl⟩) ?_; rintro _ _ ⟨rfl, rfl⟩
 refine ZK (M' := [(BX b12 cs11 27), k11, k10, k6, (BX b5 cs4 27), k4, k3, k2, k1]) rfl ?_
 show JL _ _ _ [_] _ _ _
 refine JLA rfl <| Zb <| Zc <| ZC mixed #[0, 0, 3, 7, 15, 15, 0, 95, 255] 8 [some 30, some 31, some 32, some 29, some 33, some 34, some 6, none] [(7, 6)] [(1, fun _ _ vw qw => ∃ cs k, vw = .agg ⟨cs⟩ ∧ qw = [k] ∧ OT (eVa 3) cs k), (2, fun _ _ vw qw => ∃ cs k, vw = .tuple ⟨[.agg ⟨cs⟩, iv 0]⟩ ∧ qw = [k] ∧ OT (eLa (eAp (eVa 0) (eVa 4))) cs k), (6, newP 27 (pkT 0 0 zS nS nS)), (7, fun r _ vw qw => vw = undef ∧ qw = [(BX (pblk (r 6)) ((tcel (r 2))) 27)])] rfl (by kernel_rfl) rfl (by kernel_rfl) <| Dl Zt (At.bx 4 rfl) (Zr hC4.1) ?_
 refine Dc rfl Tryz.call34 (fun _ => rfl) (fun hin => va_ct _ _ (by unfold inI; omega)) ?_
 rintro _ _ ⟨cs16, k16, rfl, rfl, hO16⟩
 refine Dc rfl Tryz.call36 (fun _ => rfl) (fun hin => ble_at (substP_ct eLam 0 (eVa 3) _ _ _ (hC4.2.2 _ (hin 6 _ rfl) (hC3.2.2 _ (hin 7 _ rfl) (hO1.rd (hin 9 _ rfl)) (hO2.rd (hin 8 _ rfl)))) (hO16.rd (hin 0 _ rfl))) three_lam) ?_
 rintro _ _ ⟨cs17, k17, rfl, rfl, hO17⟩
 refine DM (fun _ => rfl) <| Dn (fun _ => Pu.extract rfl rfl) <| Dn (fun _ => Pu.extract rfl rfl) <| Da Tryz.zeroValue27 rfl fun b18 => Dr rfl (fun _ => Ze 0 (vs := cs17) (l := cs17) Zt rfl rfl rfl rfl hO17.len hO17.ok (ZL (n := 36) rfl hO17.len) ⟨[_], keptE (i := 0) rfl rfl, rfl, rfl⟩) ?_; rintro _ _ ⟨rfl, rfl⟩
 refine ZK (M' := [(BX b18 cs17 27), k17, k16, (BX b12 cs11 27), k11, k10, k6, (BX b5 cs4 27), k4, k3, k2, k1]) rfl ?_
 show JL _ _ _ [_] _ _ _
 refine JLA rfl <| Zb <| Zc <| Za <| JLr (Zg Zt rfl (At.bx 7 rfl) (Zr hC4.1) <| Jc Tryz.call38 rfl (fun hin => ble_at (shiftP_ct eLam 2 0 _ _ (hC4.2.2 _ (hin 8 _ rfl) (hC3.2.2 _ (hin 9 _ rfl) (hO1.rd (hin 11 _ rfl)) (hO2.rd (hin 10 _ rfl))))) up_lam) rfl ?_)
 rintro _ _ ⟨cs19, k19, rfl, rfl, hO19⟩
 refine JLM rfl <| JLn (Pu.extract rfl rfl) <| JLn (Pu.extract rfl rfl) <| JLr (Zl (l := pkT 0 0 zS nS nS) Tryz.zeroValue27 rfl fun b20 => JLr (Ze 0 (vs := cs19) (l := cs19) Zt rfl rfl rfl rfl hO19.len hO19.ok (ZL (n := 36) rfl hO19.len) <| JLA rfl <| Zb <| Zc <| Za <| Jc Tryz.call34 rfl (fun hin => va_ct _ _ (by unfold inI; omega)) rfl ?_))
 rintro _ _ ⟨cs21, k21, rfl, rfl, hO21⟩
 refine Jc Tryz.call38 rfl (fun hin => ble_at (shiftP_ct (eVa 0) (-1) 0 _ _ (hO21.rd (hin 0 _ rfl))) down_va) rfl ?_
 rintro _ _ ⟨cs22, k22, rfl, rfl, hO22⟩
 refine JLM rfl <| JLn (Pu.extract rfl rfl) <| JLn (Pu.extract rfl rfl) <| JLr (Zl (l := pkT 0 0 zS nS nS) Tryz.zeroValue27 rfl fun b23 => JLr (Ze 0 (vs := cs22) (l := cs22) Zt rfl rfl rfl rfl hO22.len hO22.ok (ZL (n := 36) rfl hO22.len) <| JLA rfl <| Zb <| Zc <| Za <| Jc Tryz.call34 rfl (fun hin => va_ct _ _ (by unfold inI; omega)) rfl ?_))
 rintro _ _ ⟨cs24, k24, rfl, rfl, hO24⟩
 refine Jc Tryz.call32 rfl (fun hin => la_ct _ _ hO24.len hO24.ok) rfl ?_
 rintro _ _ ⟨cs25, k25, rfl, rfl, hC25⟩
 replace hC25 : (cs25.length = 36 ∧ okc cs25 ∧ ∀ h, Has k25 h → RT h cs24 (eVa 1) → RT h cs25 (eLa (eVa 1))) := ⟨hC25.1, hC25.2.1, hC25.2.2 (eVa 1)⟩
 refine Jc Tryz.call32 rfl (fun hin => la_ct _ _ hC25.1 hC25.2.1) rfl ?_
 rintro _ _ ⟨cs26, k26, rfl, rfl, hC26⟩
 replace hC26 : (cs26.length = 36 ∧ okc cs26 ∧ ∀ h, Has k26 h → RT h cs25 (eLa (eVa 1)) → RT h cs26 (eLa (eLa (eVa 1)))) := ⟨hC26.1, hC26.2.1, hC26.2.2 (eLa (eVa 1))⟩
 refine JLr (Zs (vs := [.string (ltr 0)]) [[.string (ltr 0)]] Tryz.runUnderlying79 el9 rfl rfl (by intro e he; simp only [List.mem_cons, List.not_mem_nil, or_false] at he; subst he; exact rfl) rfl (by decide) fun b27 k27 ho27 hk27 => Jc Tryz.call39 rfl (fun hin => nameE_ct _ _ _ (hC26.2.2 _ (hin 1 _ rfl) (hC25.2.2 _ (hin 2 _ rfl) (hO24.rd (hin 3 _ rfl)))) (Y6 (l := [ltr 0]) ho27 (by simp) (hin 0 _ rfl))) rfl ?_)
 rintro _ _ ⟨_, _, rfl, rfl, nk28, nn28, nr28, ns28, nks28, ncv28, ne28, nk128, nk228, nk328, rfl, hone28, hon28, hok28, ⟨mk28, mn28, mr28, ms28, mks28, mcv28, me28, mk128, mk228, mk328, rfl, hmone28, hom28, hmk28, _, rfl⟩, rfl⟩
 refine ZZ (M' := [nk128, nk228, mk128, mk228, mk328, k27, k26, k25, k24, (BX b23 cs22 27), k22, k21, (BX b20 cs19 27), k19, (BX b18 cs17 27), k17, k16, (BX b12 cs11 27), k11, k10, k6, (BX b5 cs4 27), k4, k3, k2, k1]) (Sub.flat Sub.refl (by simp)) <| JLM rfl <| JLn (Pu.extract rfl rfl) <| JLn (Pu.extract rfl rfl) <| JLr (Zl (l := (pkT 0 0 zS nS nS) ++ ([nS] : List Value)) Tryz.zeroValue83 rfl fun b29 => JLr (Ze 0 (vs := (pkT nk28 nn28 nr28 ns28 nks28) ++ ([ncv28] : List Value)) (l := (pkT nk28 nn28 nr28 ns28 nks28) ++ ([ncv28] : List Value)) ty83 rfl rfl rfl rfl rfl (Z6 (Z2 hon28.one hok28.one) (Zi hone28 Zp)) (ZL (n := 37) rfl rfl) <| JLA rfl <| Zb <| Zc <| ZC mixed #[0, 1, 3, 7, 15, 31, 63, 127, 255, 511, 1023, 2047, 4095, 8191, 16383, 32767, 65535, 131071, 262143, 524287, 1048575, 2097151, 4194303, 8388607, 8388607, 33554431, 67108863, 134217727, 268435455, 268435455, 805306367, 1879048191, 4026531839, 8589934591, 17179869183, 34359738367, 68719476735, 68719476735, 206158430207, 481036337151, 1030792151039, 2199023255551, 4398046511103, 8796093022207, 17592186044415, 17592186044415, 52776558133247, 123145302310911, 263882790666239, 562949953421311, 1125899906842623, 2251799813685247, 4503599627370495, 9007199254740991, 4503599627370495, 36028797018963967, 72057594037927935, 144115188075855871, 288230376151711743, 576460752303423487, 1152921504606846975, 2305843009213693951, 4611686018427387903, 9223372036854775807, 18446744073709551615, 36893488147419103231, 73786976294838206463, 147573952589676412927, 295147905179352825855, 18446744073709551615, 1180591620717411303423, 2361183241434822606847, 4722366482869645213695, 9444732965739290427391, 9444732965739290427391, 28334198897217871282175, 66113130760175032991743, 151115727451828646838271, 302231454903657293676543, 604462909807314587353087, 1208925819614629174706175, 2417851639229258349412351, 4835703278458516698824703, 4835703278458516698824703, 14507109835375550096474111, 38685626227668133590597631, 77371252455336267181195263, 154742504910672534362390527, 309485009821345068724781055, 618970019642690137449562111] 85 [some 53, some 54, some 55, some 56, some 57, some 58, some 59, some 60, some 61, some 62, some 63, some 64, some 65, some 66, some 67, some 68, some 69, some 70, some 71, some 72, some 73, some 74, some 75, some 76, some 77, some 78, some 79, some 80, some 81, some 82, some 83, some 84, some 85, some 86, some 87, some 88, some 89, some 90, some 91, some 92, some 93, some 94, some 95, some 96, some 97, some 98, some 99, some 100, some 101, some 102, some 103, some 104, some 105, some 106, some 107, some 108, some 109, some 110, some 111, some 112, some 113, some 114, some 115, some 116, some 117, some 118, some 119, some 120, some 121, some 122, some 123, some 124, some 125, some 126, some 127, some 128, some 129, some 130, some 131, some 132, some 133, some 134, some 135, some 136, some 137] [] [(24, fun _ _ vw qw => ∃ b k, vw = .slice (some ⟨b, 0, none⟩) 1 1 ∧ qw = [k] ∧ Own 3 1 (.slice (some ⟨b, 0, none⟩) 1 1) [[iv 0]] k ∧ k = (BX b (List.flatten [[iv 0]]) 3)), (25, fun _ _ vw qw => vw = .bool true ∧ qw = []), (29, fun _ _ vw qw => ∃ cs k, vw = .agg ⟨cs⟩ ∧ qw = [k] ∧ OT (eVa 0) cs k), (30, fun _ _ vw qw => ∃ cs k, vw = .agg ⟨cs⟩ ∧ qw = [k] ∧ OT (eNu 5) cs k), (31, fun r _ vw qw => ∃ cs k, vw = .agg ⟨cs⟩ ∧ qw = [k] ∧ cs.length = 36 ∧ okc cs ∧ ∀ t0 t1 h, Has k h → RT h ((cel (r 29))) t0 → RT h ((cel (r 30))) t1 → RT h cs (.mk 4 0 zS [t0, t1] [])), (32, fun r _ vw qw => ∃ cs k, vw = .agg ⟨cs⟩ ∧ qw = [k] ∧ cs.length = 36 ∧ okc cs ∧ ∀ t0 h, Has k h → RT h ((cel (r 31))) t0 → RT h cs (.mk 3 0 zS [t0] [])), (33, fun _ _ vw qw => vw = .bool true ∧ qw = []), (37, fun _ _ vw qw => ∃ cs k, vw = .agg ⟨cs⟩ ∧ qw = [k] ∧ OT (eVa 0) cs k), (38, fun _ _ vw qw => ∃ cs k, vw = .agg ⟨cs⟩ ∧ qw = [k] ∧ OT (eVa 4) cs k), (39, fun r _ vw qw => ∃ cs k, vw = .agg ⟨cs⟩ ∧ qw = [k] ∧ cs.length = 36 ∧ okc cs ∧ ∀ t0 t1 h, Has k h → RT h ((cel (r 37))) t0 → RT h ((cel (r 38))) t1 → RT h cs (.mk 4 0 zS [t0, t1] [])), (40, fun r _ vw qw => ∃ cs k, vw = .agg ⟨cs⟩ ∧ qw = [k] ∧ cs.length = 36 ∧ okc cs ∧ ∀ t0 h, Has k h → RT h ((cel (r 39))) t0 → RT h cs (.mk 3 0 zS [t0] [])), (41, fun _ _ vw qw => vw = .bool true ∧ qw = []), (45, fun _ _ vw qw => ∃ cs k, vw = .agg ⟨cs⟩ ∧ qw = [k] ∧ OT (eVa 0) cs k), (46, fun _ _ vw qw => ∃ cs k, vw = .agg ⟨cs⟩ ∧ qw = [k] ∧ OT (eVa 3) cs k), (47, fun r _ vw qw => ∃ cs k, vw = .agg ⟨cs⟩ ∧ qw = [k] ∧ cs.length = 36 ∧ okc cs ∧ ∀ t0 t1 h, Has k h → RT h ((cel (r 45))) t0 → RT h ((cel (r 46))) t1 → RT h cs (.mk 4 0 zS [t0, t1] [])), (48, fun r _ vw qw => ∃ cs k, vw = .agg ⟨cs⟩ ∧ qw = [k] ∧ cs.length = 36 ∧ okc cs ∧ ∀ t0 h, Has k h → RT h ((cel (r 47))) t0 → RT h cs (.mk 3 0 zS [t0] [])), (49, fun _ _ vw qw => vw = .bool true ∧ qw = []), (54, fun _ _ vw qw => ∃ b k, vw = .slice (some ⟨b, 0, none⟩) 1 1 ∧ qw = [k] ∧ Own 9 1 (.slice (some ⟨b, 0, none⟩) 1 1) [[.string (ltr 1)]] k ∧ k = (BX b (List.flatten [[.string (ltr 1)]]) 9)), (55, fun _ _ vw qw => vw = .bool true ∧ qw = []), (69, fun _ _ vw qw => ∃ b k, vw = .slice (some ⟨b, 0, none⟩) 1 1 ∧ qw = [k] ∧ Own 9 1 (.slice (some ⟨b, 0, none⟩) 1 1) [[.string (ltr 2)]] k ∧ k = (BX b (List.flatten [[.string (ltr 2)]]) 9)), (70, fun _ _ vw qw => vw = .bool true ∧ qw = []), (74, fun _ _ vw qw => ∃ cs k, vw = .agg ⟨cs⟩ ∧ qw = [k] ∧ OT (eNu 1) cs k), (75, fun _ _ vw qw => ∃ cs k, vw = .agg ⟨cs⟩ ∧ qw = [k] ∧ OT (eVa 0) cs k), (76, fun r _ vw qw => ∃ b k, vw = .slice (some ⟨b, 0, none⟩) 2 2 ∧ qw = [k] ∧ Own 27 36 (.slice (some ⟨b, 0, none⟩) 2 2) [(cel (r 74)), (cel (r 75))] k ∧ k = (BX b (List.flatten [(cel (r 74)), (cel (r 75))]) 27)), (77, fun r _ vw qw => vw = .agg ⟨pkT 12 0 zS (.slice (some ⟨(sblk (r 76)), 0, none⟩) 2 2) nS⟩ ∧ qw = []), (78, fun _ _ vw qw => vw = iv 0 ∧ qw = []), (83, fun _ _ vw qw => ∃ cs k, vw = .agg ⟨cs⟩ ∧ qw = [k] ∧ OT (eNu 1) cs k), (84, fun r _ vw qw => ∃ b k, vw = .slice (some ⟨b, 0, none⟩) 1 1 ∧ qw = [k] ∧ Own 27 36 (.slice (some ⟨b, 0, none⟩) 1 1) [(cel (r 83))] k ∧ k = (BX b (List.flatten [(cel (r 83))]) 27))] rfl (by kernel_rfl) rfl (by kernel_rfl) <| DM (fun _ => rfl) <| Dq (.bool true) (fun _ => show Pu _ _ _ (.bool (decide ((0 : Int) = 0))) from Pu.eql rfl rfl) <| DM (fun _ => rfl) ?_))
 refine DM (fun _ => rfl) <| Dq (.bool true) (fun _ => show Pu _ _ _ (.bool (decide ((0 : Int) = 0))) from Pu.eql rfl rfl) <| Dq (.bool true) (fun _ => Pu.pickT rfl rfl) <| DM (fun _ => rfl) <| DM (fun _ => rfl) <| Dq (.bool true) (fun _ => show Pu _ _ _ (.bool (decide ((0 : Int) = 0))) from Pu.eql rfl rfl) <| Dq (.bool true) (fun _ => Pu.pickT rfl rfl) <| DM (fun _ => rfl) <| DM (fun _ => rfl) <| Dq (.bool true) (fun _ => show Pu _ _ _ (.bool (decide ((0 : Int) = 0))) from Pu.eql rfl rfl) <| Dq (.bool true) (fun _ => Pu.pickT rfl rfl) <| DM (fun _ => rfl) <| DM (fun _ => rfl) ?_
 refine Dq (.bool true) (fun _ => show Pu _ _ _ (.bool (decide ((1 : Int) = 1))) from Pu.eql rfl rfl) <| Dq (.bool true) (fun _ => Pu.pickT rfl rfl) <| DM (fun _ => rfl) <| DM (fun _ => rfl) <| Dq (.bool true) (fun _ => show Pu _ _ _ (.bool (decide ((0 : Int) = 0))) from Pu.eql rfl rfl) <| Dq (.bool true) (fun _ => Pu.pickT rfl rfl) <| DM (fun _ => rfl) <| Dm u6 <| Dr rfl (fun _ => Zs (vs := [iv 0]) [[iv 0]] Tryz.runUnderlying51 el3 rfl rfl (by intro e he; simp only [List.mem_cons, List.not_mem_nil, or_false] at he; subst he; exact rfl) rfl (by decide) fun b k h1 h2 => ⟨[k], by rw [Z9 rfl]; exact Sub.refl, b, k, rfl, rfl, h1, h2⟩) (fun _ _ ⟨b52, k52, e1, e2, ho52, hk52⟩ => ?_); subst e1 e2
 refine Dc rfl Tryz.call40 (fun _ => rfl) (fun hin => YF (r := true) (equalI_ct _ _ _ _ _ (own_ints ho6 (by simp) (hin 22 _ rfl)) (own_ints (l := [0]) ho52 (by simp) (hin 0 _ rfl))) (eqL_true rfl)) ?_
 rintro _ _ ⟨rfl, rfl⟩
 refine Dq (.bool true) (fun _ => Pu.pickT rfl rfl) <| DM (fun _ => rfl) <| Dl Zt (At.bx 19 rfl) (Zr hO11.len) ?_
 refine Dc rfl Tryz.call34 (fun _ => rfl) (fun hin => va_ct _ _ (by unfold inI; omega)) ?_
 rintro _ _ ⟨cs53, k53, rfl, rfl, hO53⟩
 refine Dc rfl Tryz.call37 (fun _ => rfl) (fun hin => nu_ct _ _ (by unfold inI; omega)) ?_
 rintro _ _ ⟨cs54, k54, rfl, rfl, hO54⟩
 refine Dc rfl Tryz.call33 (fun _ => rfl) (fun hin => ap_ct _ _ hO53.len hO53.ok _ hO54.len hO54.ok) ?_
 rintro _ _ ⟨cs55, k55, rfl, rfl, hC55⟩
 replace hC55 : (cs55.length = 36 ∧ okc cs55 ∧ ∀ h, Has k55 h → RT h cs53 (eVa 0) → RT h cs54 (eNu 5) → RT h cs55 (eAp (eVa 0) (eNu 5))) := ⟨hC55.1, hC55.2.1, hC55.2.2 (eVa 0) (eNu 5)⟩
 refine Dc rfl Tryz.call32 (fun _ => rfl) (fun hin => la_ct _ _ hC55.1 hC55.2.1) ?_
 rintro _ _ ⟨cs56, k56, rfl, rfl, hC56⟩
 replace hC56 : (cs56.length = 36 ∧ okc cs56 ∧ ∀ h, Has k56 h → RT h cs55 (eAp (eVa 0) (eNu 5)) → RT h cs56 (eLa (eAp (eVa 0) (eNu 5)))) := ⟨hC56.1, hC56.2.1, hC56.2.2 (eAp (eVa 0) (eNu 5))⟩
 refine Dc rfl Tryz.call16 (fun _ => rfl) (fun hin => YF (r := true) (Y0 _ _ _ _ _ (hO11.rd (hin 24 _ rfl)) (hC56.2.2 _ (hin 0 _ rfl) (hC55.2.2 _ (hin 1 _ rfl) (hO53.rd (hin 3 _ rfl)) (hO54.rd (hin 2 _ rfl))))) (decide_eq_true rfl)) ?_
 rintro _ _ ⟨rfl, rfl⟩
 refine Dq (.bool true) (fun _ => Pu.pickT rfl rfl) <| DM (fun _ => rfl) <| Dl Zt (At.bx 20 rfl) (Zr hO17.len) ?_
 refine Dc rfl Tryz.call34 (fun _ => rfl) (fun hin => va_ct _ _ (by unfold inI; omega)) ?_
 rintro _ _ ⟨cs57, k57, rfl, rfl, hO57⟩
 refine Dc rfl Tryz.call34 (fun _ => rfl) (fun hin => va_ct _ _ (by unfold inI; omega)) ?_
 rintro _ _ ⟨cs58, k58, rfl, rfl, hO58⟩
 refine Dc rfl Tryz.call33 (fun _ => rfl) (fun hin => ap_ct _ _ hO57.len hO57.ok _ hO58.len hO58.ok) ?_
 rintro _ _ ⟨cs59, k59, rfl, rfl, hC59⟩
 replace hC59 : (cs59.length = 36 ∧ okc cs59 ∧ ∀ h, Has k59 h → RT h cs57 (eVa 0) → RT h cs58 (eVa 4) → RT h cs59 (eAp (eVa 0) (eVa 4))) := ⟨hC59.1, hC59.2.1, hC59.2.2 (eVa 0) (eVa 4)⟩
 refine Dc rfl Tryz.call32 (fun _ => rfl) (fun hin => la_ct _ _ hC59.1 hC59.2.1) ?_
 rintro _ _ ⟨cs60, k60, rfl, rfl, hC60⟩
 replace hC60 : (cs60.length = 36 ∧ okc cs60 ∧ ∀ h, Has k60 h → RT h cs59 (eAp (eVa 0) (eVa 4)) → RT h cs60 (eLa (eAp (eVa 0) (eVa 4)))) := ⟨hC60.1, hC60.2.1, hC60.2.2 (eAp (eVa 0) (eVa 4))⟩
 refine Dc rfl Tryz.call16 (fun _ => rfl) (fun hin => YF (r := true) (Y0 _ _ _ _ _ (hO17.rd (hin 25 _ rfl)) (hC60.2.2 _ (hin 0 _ rfl) (hC59.2.2 _ (hin 1 _ rfl) (hO57.rd (hin 3 _ rfl)) (hO58.rd (hin 2 _ rfl))))) (decide_eq_true rfl)) ?_
 rintro _ _ ⟨rfl, rfl⟩
 refine Dq (.bool true) (fun _ => Pu.pickT rfl rfl) <| DM (fun _ => rfl) <| Dl Zt (At.bx 22 rfl) (Zr hO19.len) ?_
 refine Dc rfl Tryz.call34 (fun _ => rfl) (fun hin => va_ct _ _ (by unfold inI; omega)) ?_
 rintro _ _ ⟨cs61, k61, rfl, rfl, hO61⟩
 refine Dc rfl Tryz.call34 (fun _ => rfl) (fun hin => va_ct _ _ (by unfold inI; omega)) ?_
 rintro _ _ ⟨cs62, k62, rfl, rfl, hO62⟩
 refine Dc rfl Tryz.call33 (fun _ => rfl) (fun hin => ap_ct _ _ hO61.len hO61.ok _ hO62.len hO62.ok) ?_
 rintro _ _ ⟨cs63, k63, rfl, rfl, hC63⟩
 replace hC63 : (cs63.length = 36 ∧ okc cs63 ∧ ∀ h, Has k63 h → RT h cs61 (eVa 0) → RT h cs62 (eVa 3) → RT h cs63 (eAp (eVa 0) (eVa 3))) := ⟨hC63.1, hC63.2.1, hC63.2.2 (eVa 0) (eVa 3)⟩
 refine Dc rfl Tryz.call32 (fun _ => rfl) (fun hin => la_ct _ _ hC63.1 hC63.2.1) ?_
 rintro _ _ ⟨cs64, k64, rfl, rfl, hC64⟩
 replace hC64 : (cs64.length = 36 ∧ okc cs64 ∧ ∀ h, Has k64 h → RT h cs63 (eAp (eVa 0) (eVa 3)) → RT h cs64 (eLa (eAp (eVa 0) (eVa 3)))) := ⟨hC64.1, hC64.2.1, hC64.2.2 (eAp (eVa 0) (eVa 3))⟩
 refine Dc rfl Tryz.call16 (fun _ => rfl) (fun hin => YF (r := true) (Y0 _ _ _ _ _ (hO19.rd (hin 27 _ rfl)) (hC64.2.2 _ (hin 0 _ rfl) (hC63.2.2 _ (hin 1 _ rfl) (hO61.rd (hin 3 _ rfl)) (hO62.rd (hin 2 _ rfl))))) (decide_eq_true rfl)) ?_
 rintro _ _ ⟨rfl, rfl⟩
 refine Dq (.bool true) (fun _ => Pu.pickT rfl rfl) <| DM (fun _ => rfl) <| Dq (pp b29 34) (fun _ => fa83_3 rfl rfl) <| Dl1 ty79 (At.bx 13 rfl) (get_l (ZV ..)) <| Dr rfl (fun _ => Zs (vs := [.string (ltr 1)]) [[.string (ltr 1)]] Tryz.runUnderlying79 el9 rfl rfl (by intro e he; simp only [List.mem_cons, List.not_mem_nil, or_false] at he; subst he; exact rfl) rfl (by decide) fun b k h1 h2 => ⟨[k], by rw [Z9 rfl]; exact Sub.refl, b, k, rfl, rfl, h1, h2⟩) (fun _ _ ⟨b65, k65, e1, e2, ho65, hk65⟩ => ?_); subst e1 e2
 refine Dc rfl Tryz.call41 (fun _ => rfl) (fun hin => YF (r := true) (equalS_ct _ _ _ _ _ (Y6 hon28 (by simp) (hin 15 _ rfl)) (Y6 (l := [ltr 1]) ho65 (by simp) (hin 0 _ rfl))) (eqL_true rfl)) ?_
 rintro _ _ ⟨rfl, rfl⟩
 refine Dq (.bool true) (fun _ => Pu.pickT rfl rfl) <| DM (fun _ => rfl) <| Dq (pp b29 35) (fun _ => fa83_4 rfl rfl) <| Dl1 ty80 (At.bx 14 rfl) (get_l (ZO ..)) ?_
 obtain ⟨a66, cap66, hv66⟩ := hok28.sl
 rw [(rfl : List.length [_] = 1)] at hv66
 refine Dn (fun _ => Pu.lenSl Tryz.runUnderlying80 hv66) <| Dq (.bool true) (fun _ => show Pu _ _ _ (.bool (decide ((1 : Int) = 1))) from Pu.eql rfl rfl) <| Dq (.bool true) (fun _ => Pu.pickT rfl rfl) <| DM (fun _ => rfl) <| Dq (pp b29 35) (fun _ => fa83_4 rfl rfl) <| Dl1 ty80 (At.bx 14 rfl) (get_l (ZO ..)) ?_
 obtain ⟨b67, cap67, row67, hv67, hm67, hs67⟩ := hok28.at' (j := 0) rfl
 refine Dq (pp b67 (0 + 0 * 37)) (fun _ => Pu.idx 0 Tryz.runUnderlying80 ty83 hv67 rfl (by first | rfl | omega) (by simp)) <| Dq (pp b67 (0 + 0 * 37 + 34)) (fun _ => fa83_3 rfl rfl) <| Dl1 ty79 (At.k 16 rfl hm67) (sub_get hs67 (get_l (ZV ..))) <| Dr rfl (fun _ => Zs (vs := [.string (ltr 2)]) [[.string (ltr 2)]] Tryz.runUnderlying79 el9 rfl rfl (by intro e he; simp only [List.mem_cons, List.not_mem_nil, or_false] at he; subst he; exact rfl) rfl (by decide) fun b k h1 h2 => ⟨[k], by rw [Z9 rfl]; exact Sub.refl, b, k, rfl, rfl, h1, h2⟩) (fun _ _ ⟨b68, k68, e1, e2, ho68, hk68⟩ => ?_); subst e1 e2
 refine Dc rfl Tryz.call41 (fun _ => rfl) (fun hin => YF (r := true) (equalS_ct _ _ _ _ _ (Y6 hom28 (by simp) (hin 18 _ rfl)) (Y6 (l := [ltr 2]) ho68 (by simp) (hin 0 _ rfl))) (eqL_true rfl)) ?_
 rintro _ _ ⟨rfl, rfl⟩
 refine Dq (.bool true) (fun _ => Pu.pickT rfl rfl) <| DM (fun _ => rfl) <| Dq (.agg ⟨sC zS⟩) (fun _ => Pu.build (pv := []) (l := sC zS) rfl bld23_) ?_
 refine Dc rfl Tryz.call37 (fun _ => rfl) (fun hin => nu_ct _ _ (by unfold inI; omega)) ?_
 rintro _ _ ⟨cs69, k69, rfl, rfl, hO69⟩
 refine Dc rfl Tryz.call34 (fun _ => rfl) (fun hin => va_ct _ _ (by unfold inI; omega)) ?_
 rintro _ _ ⟨cs70, k70, rfl, rfl, hO70⟩
 refine Dr rfl (fun _ => Zs (vs := [.agg ⟨cs69⟩, .agg ⟨cs70⟩]) [cs69, cs70] Tryz.runUnderlying24 el27 rfl rfl (by intro e he; simp only [List.mem_cons, List.not_mem_nil, or_false] at he; rcases he with rfl | rfl <;> first | exact hO69.len | exact hO70.len) rfl (by decide) fun b k h1 h2 => ⟨[k], by rw [Z9 rfl]; exact Sub.refl, b, k, rfl, rfl, h1, h2⟩) (fun _ _ ⟨b71, k71, e1, e2, ho71, hk71⟩ => ?_); subst e1 e2
 refine Dc rfl Tryz.call43 (fun _ => rfl) (fun hin => ha_ct _ _ _ _ _) ?_
 rintro _ _ ⟨rfl, rfl⟩
 refine Dc rfl Tryz.call42 (fun _ => rfl) (fun hin => int_r (r := 0) (check_ct (.mk 12 0 zS [eNu 1, eVa 0] []) 0 0 _ _ (RT_mk.2 ⟨_, _, rfl, (by unfold inI; omega), (by unfold inI; omega), (Own.rd2 ho71 (hin 0 _ rfl) (hO69.rd (hin 2 _ rfl)) (hO70.rd (hin 1 _ rfl))), Hs.rdS.nil⟩)) check_h2) ?_
 rintro _ _ ⟨rfl, rfl⟩
 refine Dq (.bool true) (fun _ => show Pu _ _ _ (.bool (decide ((0 : Int) = 0))) from Pu.eql rfl rfl) <| Dq (.bool true) (fun _ => Pu.pickT rfl rfl) <| DM (fun _ => rfl) <| Dq (.agg ⟨sC zS⟩) (fun _ => Pu.build (pv := []) (l := sC zS) rfl bld23_) ?_
 refine Dc rfl Tryz.call37 (fun _ => rfl) (fun hin => nu_ct _ _ (by unfold inI; omega)) ?_
 rintro _ _ ⟨cs72, k72, rfl, rfl, hO72⟩
 refine Dr rfl (fun _ => Zs (vs := [.agg ⟨cs72⟩]) [cs72] Tryz.runUnderlying24 el27 rfl rfl (by intro e he; simp only [List.mem_cons, List.not_mem_nil, or_false] at he; subst he; exact hO72.len) rfl (by decide) fun b k h1 h2 => ⟨[k], by rw [Z9 rfl]; exact Sub.refl, b, k, rfl, rfl, h1, h2⟩) (fun _ _ ⟨b73, k73, e1, e2, ho73, hk73⟩ => ?_); subst e1 e2
 refine ZK (M' := [k73, k72, k71, k70, k69, k68, k65, k64, k63, k62, k61, k60, k59, k58, k57, k56, k55, k54, k53, k52, (BX b29 ((pkT nk28 nn28 nr28 ns28 nks28) ++ ([ncv28] : List Value)) 83), nk128, nk228, mk128, mk228, mk328, k27, k26, k25, k24, (BX b23 cs22 27), k22, k21, (BX b20 cs19 27), k19, (BX b18 cs17 27), k17, k16, (BX b12 cs11 27), k11, k10, k6, (BX b5 cs4 27), k4, k3, k2, k1]) rfl ?_
 show JL _ _ _ [_, _, _, _, _] _ _ _
 refine Jc Tryz.call43 rfl (fun hin => ha_ct _ _ _ _ _) rfl ?_
 rintro _ _ ⟨rfl, rfl⟩
 refine Jc Tryz.call42 rfl (fun hin => int_r (r := 2) (check_ct (.mk 12 0 zS [eNu 1] []) 0 0 _ _ (RT_mk.2 ⟨_, _, rfl, (by unfold inI; omega), (by unfold inI; omega), (Own.rd1 ho73 (hin 0 _ rfl) (hO72.rd (hin 1 _ rfl))), Hs.rdS.nil⟩)) check_h1) rfl ?_
 rintro _ _ ⟨rfl, rfl⟩
 refine JLq (.bool true) (show Pu _ _ _ (.bool (decide ((2 : Int) = 2))) from Pu.eql rfl rfl) <| JLq (.bool true) (Pu.pickT rfl rfl) <| JLA rfl <| Zb <| Zm <| ⟨.bool true, [], Ret.one rfl (RV.tmp rfl), Sub.nil, ?_⟩
 exact ⟨rfl, rfl⟩
end Go.Proofs.YtfdeibbpfgolcaaGreat.Hs
/-! Walks, printed by a program of this session's own (gen.py). -/
namespace Go.Proofs.YtfdeibbpfgolcaaGreat.Hs
open Go Go.Proofs
set_option maxRecDepth 100000
set_option linter.unusedVariables false
set_option linter.unusedSimpArgs false
attribute [local irreducible] JL J CT wlo DT
theorem told_ct (a b : Tm) (e w : Int) (cs ws : List Value) (k : Zh) (H : Heap) (hO : OT a cs k) (hb : RT H ws b) : CT Tryz.prog 15 ⟨[.agg ⟨cs⟩, .agg ⟨ws⟩, iv e, iv w]⟩ [k] H (fun v N => v = .bool (decide (e = w) && decide (a = b)) ∧ N = []) := by
 refine Zn Tryz.func15 rfl rfl <| Zc <| Za <| JLr (Zo (l := cs) rfl rfl fun b1 => JLr (Zo (l := ws) rfl rfl fun b2 => JLA rfl <| Zb <| Zc <| Za <| JLM rfl <| JLM rfl <| JLn (Pu.eql rfl rfl) <| JLM rfl ?_))
 cases h3 : (decide (e = w)) with
 | true =>
  replace h3 := dt h3
  refine JLr (Zg Zt rfl (At.bx 1 rfl) (Zr hO.len) <| JLr (Zg Zt rfl (At.bx 0 rfl) (Zr (Zq hb)) <| Jc Tryz.call16 rfl (fun hin => Y0 _ _ _ _ _ (hO.rd (hin 2 _ rfl)) (RT.mono (Hle.hu _ _) hb)) rfl ?_))
  rintro _ _ ⟨rfl, rfl⟩
  refine JLq (.bool (decide (a = b))) (Pu.pickT rfl rfl) <| JLA rfl <| Zb <| Zc <| Za <| JLr (Zg Zt rfl (At.bx 1 rfl) (Zr hO.len) <| Zw 2 rfl Tryz.call62 rfl rfl (fun hin => spoil_ct _ _ _ _ hO) rfl ?_)
  rintro _ _ ⟨rfl, rfl⟩
  refine Zb <| Zc <| Za <| JLM rfl <| JLA rfl <| Zb <| Zm <| ⟨.bool (decide (a = b)), [], Ret.one rfl (RV.tmp rfl), Sub.nil, ?_⟩
  exact ⟨by simp_all, rfl⟩
 | false =>
  replace h3 := df h3
  iterate 3 refine YG rfl ?_
  refine JLq (.bool false) (Pu.pickF rfl rfl) <| JLA rfl <| Zb <| Zc <| Za <| JLr (Zg Zt rfl (At.bx 1 rfl) (Zr hO.len) <| Zw 2 rfl Tryz.call62 rfl rfl (fun hin => spoil_ct _ _ _ _ hO) rfl ?_)
  rintro _ _ ⟨rfl, rfl⟩
  refine Zb <| Zc <| Za <| JLM rfl <| JLA rfl <| Zb <| Zm <| ⟨.bool false, [], Ret.one rfl (RV.tmp rfl), Sub.nil, ?_⟩
  exact ⟨by simp_all, rfl⟩
end Go.Proofs.YtfdeibbpfgolcaaGreat.Hs
