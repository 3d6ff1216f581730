import Derived.Test.YtjhenmdcnbaobaaGreatCodedi
/-! Walks, printed by a program of this session's own (gen.py). -/
namespace Go.Proofs.YtjhenmdcnbaobaaGreat.Hs
open Go Go.Proofs
set_option maxRecDepth 100000
set_option linter.unusedVariables false
set_option linter.unusedSimpArgs false
attribute [local irreducible] JL J CT wlo DT
theorem eqFuncP_ct (g : Nat) (fs cv : List Value) (hcall : ∀ args w, (callFunc g args).run Tryz.prog w = .ok (.enter g args) w) (l m : List Pt) (v u : Value) (H : Heap) (hl : rdS RP 35 H v l) (hm : rdS RP 35 H u m) (hg : ∀ x ∈ l, ∀ y ∈ m, ∀ a b h, Hle H h → RP h a x → RP h b y → CT Tryz.prog g ⟨fs ++ [.agg ⟨a⟩, .agg ⟨b⟩] ++ cv⟩ [] h (fun v N => v = .bool (decide (x = y)) ∧ N = [])) : CT Tryz.prog 73 ⟨[v, u, .func (.func g) ⟨fs⟩ ⟨cv⟩]⟩ [] H (fun v N => v = .bool (decide (l = m)) ∧ N = []) := by
 refine Zk Tryz.func73 rfl rfl <| Zc <| Za <| JLA rfl <| Zb <| Zc <| Zc <| Za <| JLm v ?_
 obtain ⟨a1, cap1, hv1⟩ := hl.sl
 have hle1 := hl.le
 refine JLn (Pu.lenSl Tryz.runUnderlying83 hv1) <| JLm u ?_
 obtain ⟨a2, cap2, hv2⟩ := hm.sl
 have hle2 := hm.le
 refine JLn (Pu.lenSl Tryz.runUnderlying83 hv2) <| JLn (Pu.neq rfl rfl) <| Zb <| Zg rfl (fun h3 => ?_) (fun h3 => ?_)
 ·replace h3 := nt h3
  replace h3 := df h3
  refine Zc <| Za <| JLA rfl <| Zb <| Zj <| ⟨.bool false, [], Ret.one rfl (RV.tmp rfl), Sub.nil, ?_⟩
  exact ⟨by rw [decide_eq_false]; intro e; subst e; exact h3 rfl, rfl⟩
 replace h3 := nf h3
 replace h3 := dt h3
 refine Zm <| Zc <| Zc <| Za <| JLm v ?_
 obtain ⟨a4, cap4, hv4⟩ := hl.sl
 have hle4 := hl.le
 refine JLn (Pu.lenSl Tryz.runUnderlying83 hv4) <| JLM rfl <| Zb <| Zq <| ZS (fun k ρ M => ∃ (j : Nat), ρ 1 = u ∧ ρ 2 = .func (.func g) ⟨fs⟩ ⟨cv⟩ ∧ ρ 6 = .bool false ∧ ρ 15 = v ∧ ρ 16 = iv ((l.length : Int)) ∧ ρ 17 = iv ((j : Int)) ∧ Sub [] M ∧ j ≤ l.length ∧ l.length = m.length ∧ l.take j = m.take j ∧ k = l.length - j) _ ⟨0, rfl, rfl, rfl, rfl, rfl, rfl, Sub.nil, Nat.zero_le _, (by omega), rfl, rfl⟩ ?_
 rintro _ ρ5 _ ⟨j, e6, e7, e8, e9, e10, e11, hm12, hj, hlen, htake, rfl⟩
 obtain ⟨ρ13, rfl⟩ := Zo (uc e6 (uc e7 (uc e8 (uc e9 (uc e10 (uc e11 un))))))
 clear e6 e7 e8 e9 e10 e11
 refine ZY hm12 <| Zc <| Za <| JLn (Pu.lss rfl rfl) <| Zb <| Zc <| Zg rfl (fun h14 => ?_) (fun h14 => ?_)
 ·replace h14 := dt h14
  have h14n : j < l.length := by omega
  have hlenl := hl.le
  have hltm : j < m.length := by omega
  refine Zm <| Zc <| Zq <| Zc <| Za <| JLM rfl ?_
  obtain ⟨b15, o15, cap15, row15, T15, fr15, cs15, hv15, hb15, hs15, hE15⟩ := hl.get j (by first | assumption | omega | decide | simp)
  refine JLq (pp b15 (o15 + j * 35)) (Pu.idx j Tryz.runUnderlying83 Z1 hv15 rfl rfl (by first | assumption | omega | decide | simp)) <| JLr (Zl Z1 rfl (At.im hb15) hs15 <| JLr (Zi (l := pkP 0 0 zS nS) Tryz.zeroValue85 rfl fun b16 => JLA rfl <| JLr (Zd 0 (vs := cs15) (l := cs15) Z1 rfl rfl rfl rfl (ZJ hE15) (RP_ok hE15) (ZD (n := 35) rfl (ZJ hE15)) <| Zb <| Zc <| Za <| JLm u <| JLM rfl ?_)))
  obtain ⟨b17, o17, cap17, row17, T17, fr17, cs17, hv17, hb17, hs17, hE17⟩ := hm.get j (by first | assumption | omega | decide | simp)
  refine JLq (pp b17 (o17 + j * 35)) (Pu.idx j Tryz.runUnderlying83 Z1 hv17 rfl rfl (by first | assumption | omega | decide | simp)) <| JLr (Zl Z1 rfl (At.im hb17) hs17 <| JLr (Zi (l := pkP 0 0 zS nS) Tryz.zeroValue85 rfl fun b18 => JLr (Zd 0 (vs := cs17) (l := cs17) Z1 rfl rfl rfl rfl (ZJ hE17) (RP_ok hE17) (ZD (n := 35) rfl (ZJ hE17)) <| Zb <| Zc <| Za <| JLM rfl <| JLr (Zl Z1 rfl (At.bx 1 rfl) (Zu (ZJ hE15)) <| JLr (Zl Z1 rfl (At.bx 0 rfl) (Zu (ZJ hE17)) <| Jc hcall rfl (fun hin => hg _ (List.getElem_mem h14n) _ (List.getElem_mem (by omega)) _ _ _ (Hle.hu _ _) (RP.mono (Hle.hu _ _) hE15) (RP.mono (Hle.hu _ _) hE17)) rfl ?_)))))
  rintro _ _ ⟨rfl, rfl⟩
  refine JLn (Pu.not rfl) <| Zb <| Zg rfl (fun h19 => ?_) (fun h19 => ?_)
  ·replace h19 := nt h19
   replace h19 := df h19
   refine Zc <| Za <| JLA rfl <| Zb <| Zj <| ⟨.bool false, [], Ret.one rfl (RV.tmp rfl), Sub.nil, ?_⟩
   exact ⟨by rw [decide_eq_false]; intro e; subst e; exact h19 rfl, rfl⟩
  replace h19 := nf h19
  replace h19 := dt h19
  refine Zm <| Za <| JLn (Pu.inc rfl rfl (by omega)) <| JLM rfl <| Zb <| ⟨_, ?_, (j + 1), rfl, rfl, rfl, rfl, rfl, rfl, Sub.nil, ?_, ?_, ?_, rfl⟩
  ·omega
  ·omega
  ·assumption
  rw [List.take_succ_eq_append_getElem h14n, List.take_succ_eq_append_getElem (by omega), htake, h19]
 replace h14 := df h14
 have h14n : l.length ≤ j := by omega
 refine ZB _ rfl <| Zc <| Za <| JLA rfl <| Zb <| Zj <| ⟨.bool true, [], Ret.one rfl (RV.tmp rfl), Sub.nil, ?_⟩
 exact ⟨by rw [decide_eq_true]; have e := htake; rw [List.take_of_length_le h14n, List.take_of_length_le (by omega)] at e; exact e, rfl⟩
theorem eqFuncT_ct (g : Nat) (fs cv : List Value) (hcall : ∀ args w, (callFunc g args).run Tryz.prog w = .ok (.enter g args) w) (l m : List Tm) (v u : Value) (H : Heap) (hl : rdS RT 36 H v l) (hm : rdS RT 36 H u m) (hg : ∀ x ∈ l, ∀ y ∈ m, ∀ a b h, Hle H h → RT h a x → RT h b y → CT Tryz.prog g ⟨fs ++ [.agg ⟨a⟩, .agg ⟨b⟩] ++ cv⟩ [] h (fun v N => v = .bool (decide (x = y)) ∧ N = [])) : CT Tryz.prog 72 ⟨[v, u, .func (.func g) ⟨fs⟩ ⟨cv⟩]⟩ [] H (fun v N => v = .bool (decide (l = m)) ∧ N = []) := by
 refine Zk Tryz.func72 rfl rfl <| Zc <| Za <| JLA rfl <| Zb <| Zc <| Zc <| Za <| JLm v ?_
 obtain ⟨a1, cap1, hv1⟩ := hl.sl
 have hle1 := hl.le
 refine JLn (Pu.lenSl Tryz.runUnderlying25 hv1) <| JLm u ?_
 obtain ⟨a2, cap2, hv2⟩ := hm.sl
 have hle2 := hm.le
 refine JLn (Pu.lenSl Tryz.runUnderlying25 hv2) <| JLn (Pu.neq rfl rfl) <| Zb <| Zg rfl (fun h3 => ?_) (fun h3 => ?_)
 ·replace h3 := nt h3
  replace h3 := df h3
  refine Zc <| Za <| JLA rfl <| Zb <| Zj <| ⟨.bool false, [], Ret.one rfl (RV.tmp rfl), Sub.nil, ?_⟩
  exact ⟨by rw [decide_eq_false]; intro e; subst e; exact h3 rfl, rfl⟩
 replace h3 := nf h3
 replace h3 := dt h3
 refine Zm <| Zc <| Zc <| Za <| JLm v ?_
 obtain ⟨a4, cap4, hv4⟩ := hl.sl
 have hle4 := hl.le
 refine JLn (Pu.lenSl Tryz.runUnderlying25 hv4) <| JLM rfl <| Zb <| Zq <| ZS (fun k ρ M => ∃ (j : Nat), ρ 1 = u ∧ ρ 2 = .func (.func g) ⟨fs⟩ ⟨cv⟩ ∧ ρ 6 = .bool false ∧ ρ 15 = v ∧ ρ 16 = iv ((l.length : Int)) ∧ ρ 17 = iv ((j : Int)) ∧ Sub [] M ∧ j ≤ l.length ∧ l.length = m.length ∧ l.take j = m.take j ∧ k = l.length - j) _ ⟨0, rfl, rfl, rfl, rfl, rfl, rfl, Sub.nil, Nat.zero_le _, (by omega), rfl, rfl⟩ ?_
 rintro _ ρ5 _ ⟨j, e6, e7, e8, e9, e10, e11, hm12, hj, hlen, htake, rfl⟩
 obtain ⟨ρ13, rfl⟩ := Zo (uc e6 (uc e7 (uc e8 (uc e9 (uc e10 (uc e11 un))))))
 clear e6 e7 e8 e9 e10 e11
 refine ZY hm12 <| Zc <| Za <| JLn (Pu.lss rfl rfl) <| Zb <| Zc <| Zg rfl (fun h14 => ?_) (fun h14 => ?_)
 ·replace h14 := dt h14
  have h14n : j < l.length := by omega
  have hlenl := hl.le
  have hltm : j < m.length := by omega
  refine Zm <| Zc <| Zq <| Zc <| Za <| JLM rfl ?_
  obtain ⟨b15, o15, cap15, row15, T15, fr15, cs15, hv15, hb15, hs15, hE15⟩ := hl.get j (by first | assumption | omega | decide | simp)
  refine JLq (pp b15 (o15 + j * 36)) (Pu.idx j Tryz.runUnderlying25 Zt hv15 rfl rfl (by first | assumption | omega | decide | simp)) <| JLr (Zl Zt rfl (At.im hb15) hs15 <| JLr (Zi (l := pkT 0 0 zS nS nS) Tryz.zeroValue28 rfl fun b16 => JLA rfl <| JLr (Zd 0 (vs := cs15) (l := cs15) Zt rfl rfl rfl rfl (Zv hE15) (RT_ok hE15) (ZD (n := 36) rfl (Zv hE15)) <| Zb <| Zc <| Za <| JLm u <| JLM rfl ?_)))
  obtain ⟨b17, o17, cap17, row17, T17, fr17, cs17, hv17, hb17, hs17, hE17⟩ := hm.get j (by first | assumption | omega | decide | simp)
  refine JLq (pp b17 (o17 + j * 36)) (Pu.idx j Tryz.runUnderlying25 Zt hv17 rfl rfl (by first | assumption | omega | decide | simp)) <| JLr (Zl Zt rfl (At.im hb17) hs17 <| JLr (Zi (l := pkT 0 0 zS nS nS) Tryz.zeroValue28 rfl fun b18 => JLr (Zd 0 (vs := cs17) (l := cs17) Zt rfl rfl rfl rfl (Zv hE17) (RT_ok hE17) (ZD (n := 36) rfl (Zv hE17)) <| Zb <| Zc <| Za <| JLM rfl <| JLr (Zl Zt rfl (At.bx 1 rfl) (Zu (Zv hE15)) <| JLr (Zl Zt rfl (At.bx 0 rfl) (Zu (Zv hE17)) <| Jc hcall rfl (fun hin => hg _ (List.getElem_mem h14n) _ (List.getElem_mem (by omega)) _ _ _ (Hle.hu _ _) (RT.mono (Hle.hu _ _) hE15) (RT.mono (Hle.hu _ _) hE17)) rfl ?_)))))
  rintro _ _ ⟨rfl, rfl⟩
  refine JLn (Pu.not rfl) <| Zb <| Zg rfl (fun h19 => ?_) (fun h19 => ?_)
  ·replace h19 := nt h19
   replace h19 := df h19
   refine Zc <| Za <| JLA rfl <| Zb <| Zj <| ⟨.bool false, [], Ret.one rfl (RV.tmp rfl), Sub.nil, ?_⟩
   exact ⟨by rw [decide_eq_false]; intro e; subst e; exact h19 rfl, rfl⟩
  replace h19 := nf h19
  replace h19 := dt h19
  refine Zm <| Za <| JLn (Pu.inc rfl rfl (by omega)) <| JLM rfl <| Zb <| ⟨_, ?_, (j + 1), rfl, rfl, rfl, rfl, rfl, rfl, Sub.nil, ?_, ?_, ?_, rfl⟩
  ·omega
  ·omega
  ·assumption
  rw [List.take_succ_eq_append_getElem h14n, List.take_succ_eq_append_getElem (by omega), htake, h19]
 replace h14 := df h14
 have h14n : l.length ≤ j := by omega
 refine ZB _ rfl <| Zc <| Za <| JLA rfl <| Zb <| Zj <| ⟨.bool true, [], Ret.one rfl (RV.tmp rfl), Sub.nil, ?_⟩
 exact ⟨by rw [decide_eq_true]; have e := htake; rw [List.take_of_length_le h14n, List.take_of_length_le (by omega)] at e; exact e, rfl⟩
theorem eqFuncC_ct (g : Nat) (fs cv : List Value) (hcall : ∀ args w, (callFunc g args).run Tryz.prog w = .ok (.enter g args) w) (l m : List (Pt × Tm)) (v u : Value) (H : Heap) (hl : rdS RC 71 H v l) (hm : rdS RC 71 H u m) (hg : ∀ x ∈ l, ∀ y ∈ m, ∀ a b h, Hle H h → RC h a x → RC h b y → CT Tryz.prog g ⟨fs ++ [.agg ⟨a⟩, .agg ⟨b⟩] ++ cv⟩ [] h (fun v N => v = .bool (decide (x = y)) ∧ N = [])) : CT Tryz.prog 34 ⟨[v, u, .func (.func g) ⟨fs⟩ ⟨cv⟩]⟩ [] H (fun v N => v = .bool (decide (l = m)) ∧ N = []) := by
 refine Zk Tryz.func34 rfl rfl <| Zc <| Za <| JLA rfl <| Zb <| Zc <| Zc <| Za <| JLm v ?_
 obtain ⟨a1, cap1, hv1⟩ := hl.sl
 have hle1 := hl.le
 refine JLn (Pu.lenSl Tryz.runUnderlying26 hv1) <| JLm u ?_
 obtain ⟨a2, cap2, hv2⟩ := hm.sl
 have hle2 := hm.le
 refine JLn (Pu.lenSl Tryz.runUnderlying26 hv2) <| JLn (Pu.neq rfl rfl) <| Zb <| Zg rfl (fun h3 => ?_) (fun h3 => ?_)
 ·replace h3 := nt h3
  replace h3 := df h3
  refine Zc <| Za <| JLA rfl <| Zb <| Zj <| ⟨.bool false, [], Ret.one rfl (RV.tmp rfl), Sub.nil, ?_⟩
  exact ⟨by rw [decide_eq_false]; intro e; subst e; exact h3 rfl, rfl⟩
 replace h3 := nf h3
 replace h3 := dt h3
 refine Zm <| Zc <| Zc <| Za <| JLm v ?_
 obtain ⟨a4, cap4, hv4⟩ := hl.sl
 have hle4 := hl.le
 refine JLn (Pu.lenSl Tryz.runUnderlying26 hv4) <| JLM rfl <| Zb <| Zq <| ZS (fun k ρ M => ∃ (j : Nat), ρ 1 = u ∧ ρ 2 = .func (.func g) ⟨fs⟩ ⟨cv⟩ ∧ ρ 6 = .bool false ∧ ρ 15 = v ∧ ρ 16 = iv ((l.length : Int)) ∧ ρ 17 = iv ((j : Int)) ∧ Sub [] M ∧ j ≤ l.length ∧ l.length = m.length ∧ l.take j = m.take j ∧ k = l.length - j) _ ⟨0, rfl, rfl, rfl, rfl, rfl, rfl, Sub.nil, Nat.zero_le _, (by omega), rfl, rfl⟩ ?_
 rintro _ ρ5 _ ⟨j, e6, e7, e8, e9, e10, e11, hm12, hj, hlen, htake, rfl⟩
 obtain ⟨ρ13, rfl⟩ := Zo (uc e6 (uc e7 (uc e8 (uc e9 (uc e10 (uc e11 un))))))
 clear e6 e7 e8 e9 e10 e11
 refine ZY hm12 <| Zc <| Za <| JLn (Pu.lss rfl rfl) <| Zb <| Zc <| Zg rfl (fun h14 => ?_) (fun h14 => ?_)
 ·replace h14 := dt h14
  have h14n : j < l.length := by omega
  have hlenl := hl.le
  have hltm : j < m.length := by omega
  refine Zm <| Zc <| Zq <| Zc <| Za <| JLM rfl ?_
  obtain ⟨b15, o15, cap15, row15, T15, fr15, cs15, hv15, hb15, hs15, hE15⟩ := hl.get j (by first | assumption | omega | decide | simp)
  obtain ⟨ca15, cb15, rfl, hA15, hB15⟩ := hE15
  refine JLq (pp b15 (o15 + j * 71)) (Pu.idx j Tryz.runUnderlying26 ty87 hv15 rfl rfl (by first | assumption | omega | decide | simp)) <| JLr (Zl ty87 rfl (At.im hb15) hs15 <| JLr (Zi (l := (pkP 0 0 zS nS) ++ (pkT 0 0 zS nS nS)) Tryz.zeroValue87 rfl fun b16 => JLA rfl <| JLr (Zd 0 (vs := ca15 ++ cb15) (l := ca15 ++ cb15) ty87 rfl rfl rfl rfl (Z6 (ZJ hA15) (Zv hB15)) (Yf (RP_ok hA15) (RT_ok hB15)) (ZD (n := 71) rfl (Z6 (ZJ hA15) (Zv hB15))) <| Zb <| Zc <| Za <| JLm u <| JLM rfl ?_)))
  obtain ⟨b17, o17, cap17, row17, T17, fr17, cs17, hv17, hb17, hs17, hE17⟩ := hm.get j (by first | assumption | omega | decide | simp)
  obtain ⟨ca17, cb17, rfl, hA17, hB17⟩ := hE17
  refine JLq (pp b17 (o17 + j * 71)) (Pu.idx j Tryz.runUnderlying26 ty87 hv17 rfl rfl (by first | assumption | omega | decide | simp)) <| JLr (Zl ty87 rfl (At.im hb17) hs17 <| JLr (Zi (l := (pkP 0 0 zS nS) ++ (pkT 0 0 zS nS nS)) Tryz.zeroValue87 rfl fun b18 => JLr (Zd 0 (vs := ca17 ++ cb17) (l := ca17 ++ cb17) ty87 rfl rfl rfl rfl (Z6 (ZJ hA17) (Zv hB17)) (Yf (RP_ok hA17) (RT_ok hB17)) (ZD (n := 71) rfl (Z6 (ZJ hA17) (Zv hB17))) <| Zb <| Zc <| Za <| JLM rfl <| JLr (Zl ty87 rfl (At.bx 1 rfl) (Zu (Z6 (ZJ hA15) (Zv hB15))) <| JLr (Zl ty87 rfl (At.bx 0 rfl) (Zu (Z6 (ZJ hA17) (Zv hB17))) <| Jc hcall rfl (fun hin => hg _ (List.getElem_mem h14n) _ (List.getElem_mem (by omega)) _ _ _ (Hle.hu _ _) (RC.mono (Hle.hu _ _) (RC_mk hA15 hB15)) (RC.mono (Hle.hu _ _) (RC_mk hA17 hB17))) rfl ?_)))))
  rintro _ _ ⟨rfl, rfl⟩
  refine JLn (Pu.not rfl) <| Zb <| Zg rfl (fun h19 => ?_) (fun h19 => ?_)
  ·replace h19 := nt h19
   replace h19 := df h19
   refine Zc <| Za <| JLA rfl <| Zb <| Zj <| ⟨.bool false, [], Ret.one rfl (RV.tmp rfl), Sub.nil, ?_⟩
   exact ⟨by rw [decide_eq_false]; intro e; subst e; exact h19 rfl, rfl⟩
  replace h19 := nf h19
  replace h19 := dt h19
  refine Zm <| Za <| JLn (Pu.inc rfl rfl (by omega)) <| JLM rfl <| Zb <| ⟨_, ?_, (j + 1), rfl, rfl, rfl, rfl, rfl, rfl, Sub.nil, ?_, ?_, ?_, rfl⟩
  ·omega
  ·omega
  ·assumption
  rw [List.take_succ_eq_append_getElem h14n, List.take_succ_eq_append_getElem (by omega), htake, h19]
 replace h14 := df h14
 have h14n : l.length ≤ j := by omega
 refine ZB _ rfl <| Zc <| Za <| JLA rfl <| Zb <| Zj <| ⟨.bool true, [], Ret.one rfl (RV.tmp rfl), Sub.nil, ?_⟩
 exact ⟨by rw [decide_eq_true]; have e := htake; rw [List.take_of_length_le h14n, List.take_of_length_le (by omega)] at e; exact e, rfl⟩
theorem samePattern_ct : ∀ (p q : Pt) (cs ds : List Value) (H : Heap), RP H cs p → RP H ds q → CT Tryz.prog 36 ⟨[.agg ⟨cs⟩, .agg ⟨ds⟩]⟩ [] H (fun v N => v = .bool (decide (p = q)) ∧ N = []) := by
 intro p
 induction p using Pt.ind with
 | h kind num ref kids ih =>
 intro q cs ds H hp hq
 obtain ⟨ks, rfl, hk, hn, hks⟩ := RP_mk.1 hp
 obtain ⟨ksq, rfl, hkq, hnq, hksq⟩ := RP_open hq
 refine Zk Tryz.func36 rfl rfl <| Zc <| Za <| JLr (Zr (l := pkP kind num ref ks) rfl rfl fun b1 => JLr (Zr (l := pkP (q.kind) (q.num) (q.ref) ksq) rfl rfl fun b2 => JLA rfl <| Zb <| Zc <| Za <| JLq (pp b1 0) (YZ rfl rfl) <| JLr (Ze ty3 rfl (At.bx 1 rfl) (pkP_0 ..) <| JLq (pp b2 0) (YZ rfl rfl) <| JLr (Ze ty3 rfl (At.bx 0 rfl) (pkP_0 ..) ?_))))
 refine JLn (Pu.eql rfl rfl) <| JLM rfl <| ZA 5 [11, 12, 13, 14, 15] [(15, cond (decide (kind = q.kind)) (.bool (decide (num = q.num))) undef)] ?_ fun f4 => ?_
 ·cases h3 : (decide (kind = q.kind)) with
  | true =>
   replace h3 := dt h3
   refine JLq (pp b1 1) (fa85_1 rfl rfl) <| JLr (Ze ty3 rfl (At.bx 1 rfl) (pkP_1 ..) <| JLq (pp b2 1) (fa85_1 rfl rfl) <| JLr (Ze ty3 rfl (At.bx 0 rfl) (pkP_1 ..) <| JLn (Pu.eql rfl rfl) ?_))
   exact Zb ⟨⟨rfl, trivial⟩, rfl⟩
  | false =>
   exact ZL rfl ⟨rfl, trivial⟩
 refine JLn (Pu.pickAnd rfl rfl rfl) <| JLM rfl <| ZA 5 [18, 19, 20, 21, 22] [(22, cond ((decide (kind = q.kind)) && (decide (num = q.num))) (.bool (decide (ref = q.ref))) undef)] ?_ fun f6 => ?_
 ·cases h5 : ((decide (kind = q.kind)) && (decide (num = q.num))) with
  | true =>
   obtain ⟨h5a, h5b⟩ := Xd h5
   replace h5a := dt h5a
   replace h5b := dt h5b
   refine JLq (pp b1 2) (fa85_2 rfl rfl) <| JLr (Zl Y4 rfl (At.bx 1 rfl) (pkP_2 ..) <| JLq (pp b2 2) (fa85_2 rfl rfl) <| JLr (Zl Y4 rfl (At.bx 0 rfl) (pkP_2 ..) <| JLn (eqS rfl rfl) ?_))
   exact Zb ⟨⟨rfl, trivial⟩, rfl⟩
  | false =>
   exact ZL rfl ⟨rfl, trivial⟩
 refine JLn (Pu.pickAnd rfl rfl rfl) <| JLM rfl <| ZA 5 [25, 26, 27, 28, 29] [(29, cond (((decide (kind = q.kind)) && (decide (num = q.num))) && (decide (ref = q.ref))) (.bool (decide (kids = (q.kids)))) undef)] ?_ fun f8 => ?_
 ·cases h7 : (((decide (kind = q.kind)) && (decide (num = q.num))) && (decide (ref = q.ref))) with
  | true =>
   obtain ⟨h7a, h7b⟩ := Xd h7
   obtain ⟨h7aa, h7ab⟩ := Xd h7a
   replace h7aa := dt h7aa
   replace h7ab := dt h7ab
   replace h7b := dt h7b
   refine JLq (pp b1 34) (YY rfl rfl) <| JLr (Ze ty83 rfl (At.bx 1 rfl) (Xm ..) <| JLq (pp b2 34) (YY rfl rfl) <| JLr (Ze ty83 rfl (At.bx 0 rfl) (Xm ..) <| Jc Tryz.call73 rfl (fun hin => eqFuncP_ct 36 [] [] (fun _ _ => rfl) _ _ _ _ _ (RPs.mono (Hle.hu _ _) hks) (RPs.mono (Hle.hu _ _) hksq) (fun x hx y hy a b h hh ra rb => ih x hx y a b h ra rb)) rfl ?_))
   rintro _ _ ⟨rfl, rfl⟩
   exact Zb ⟨⟨rfl, trivial⟩, rfl⟩
  | false =>
   exact ZL rfl ⟨rfl, trivial⟩
 refine JLn (Pu.pickAnd rfl rfl rfl) <| JLA rfl <| Zb <| Zj <| ⟨.bool ((((decide (kind = q.kind)) && (decide (num = q.num))) && (decide (ref = q.ref))) && (decide (kids = (q.kids)))), [], Ret.one rfl (RV.tmp rfl), Sub.nil, ?_⟩
 exact ⟨congrArg Value.bool (eqPd ..), rfl⟩
theorem sameCase_ct : ∀ (c d : Pt × Tm) (a b : List Value) (H : Heap), RC H a c → RC H b d → (∀ h a b, Hle H h → RT h a c.2 → RT h b d.2 → CT Tryz.prog 11 ⟨[.agg ⟨a⟩, .agg ⟨b⟩]⟩ [] h (fun v N => v = .bool (decide (c.2 = d.2)) ∧ N = [])) → CT Tryz.prog 35 ⟨[.agg ⟨a⟩, .agg ⟨b⟩]⟩ [] H (fun v N => v = .bool (decide (c = d)) ∧ N = []) := by
 intro c d a b H ⟨ca, cb, e1, ra1, ra2⟩ ⟨da, db, e2, rb1, rb2⟩ hg
 subst e1 e2
 refine Zk Tryz.func35 rfl rfl <| Zc <| Za <| JLr (Zr (l := ca ++ cb) rfl rfl fun b1 => JLr (Zr (l := da ++ db) rfl rfl fun b2 => JLA rfl <| Zb <| Zc <| Za <| JLq (pp b1 0) (fa87_0 rfl rfl) <| JLr (Zl Z1 rfl (At.bx 1 rfl) (sub_l (ZJ ra1)) <| JLq (pp b2 0) (fa87_0 rfl rfl) <| JLr (Zl Z1 rfl (At.bx 0 rfl) (sub_l (ZJ rb1)) ?_))))
 refine Jc Tryz.call36 rfl (fun hin => samePattern_ct _ _ _ _ _ (RP.mono (Hle.hu _ _) ra1) (RP.mono (Hle.hu _ _) rb1)) rfl ?_
 rintro _ _ ⟨rfl, rfl⟩
 refine JLM rfl <| ZA 5 [11, 12, 13, 14, 15] [(15, cond (decide ((c.1) = (d.1))) (.bool (decide ((c.2) = (d.2)))) undef)] ?_ fun f4 => ?_
 ·cases h3 : (decide ((c.1) = (d.1))) with
  | true =>
   replace h3 := dt h3
   refine JLq (pp b1 35) (fa87_1 rfl rfl) <| JLr (Zl Zt rfl (At.bx 1 rfl) (sub_r (ZJ ra1) (Zv ra2)) <| JLq (pp b2 35) (fa87_1 rfl rfl) <| JLr (Zl Zt rfl (At.bx 0 rfl) (sub_r (ZJ rb1) (Zv rb2)) <| Jc Tryz.call11 rfl (fun hin => hg _ _ _ (Hle.hu _ _) (RT.mono (Hle.hu _ _) ra2) (RT.mono (Hle.hu _ _) rb2)) rfl ?_))
   rintro _ _ ⟨rfl, rfl⟩
   exact Zb ⟨⟨rfl, trivial⟩, rfl⟩
  | false =>
   exact ZL rfl ⟨rfl, trivial⟩
 refine JLn (Pu.pickAnd rfl rfl rfl) <| JLA rfl <| Zb <| Zj <| ⟨.bool ((decide ((c.1) = (d.1))) && (decide ((c.2) = (d.2)))), [], Ret.one rfl (RV.tmp rfl), Sub.nil, ?_⟩
 exact ⟨by obtain ⟨c1, c2⟩ := c; obtain ⟨d1, d2⟩ := d; refine congrArg Value.bool ?_; rw [Bool.eq_iff_iff]; simp, rfl⟩
theorem sameTerms_ct : ∀ (l m : List Tm) (v u : Value) (H : Heap) (_ : rdS RT 36 H v l) (_ : rdS RT 36 H u m) (_ : ∀ x ∈ l, ∀ y a b h, Hle H h → RT h a x → RT h b y → CT Tryz.prog 11 ⟨[.agg ⟨a⟩, .agg ⟨b⟩]⟩ [] h (fun v N => v = .bool (decide (x = y)) ∧ N = [])), CT Tryz.prog 33 ⟨[v, u]⟩ [] H (fun v N => v = .bool (decide (l = m)) ∧ N = []) := by
 intro l m v u H hl hm hg
 refine Zk Tryz.func33 rfl rfl <| Zc <| Za <| JLA rfl <| Zb <| Zc <| Za <| JLm v <| JLm u <| Jc Tryz.call72 rfl (fun hin => eqFuncT_ct 11 [] [] (fun _ _ => rfl) _ _ _ _ _ (RTs.mono (Hle.hu _ _) hl) (RTs.mono (Hle.hu _ _) hm) (fun x hx y hy a b h hh ra rb => hg x hx y a b h (Hle.trans (Hle.hu _ _) hh) ra rb)) rfl ?_
 rintro _ _ ⟨rfl, rfl⟩
 refine JLA rfl <| Zb <| Zj <| ⟨.bool (decide (l = m)), [], Ret.one rfl (RV.tmp rfl), Sub.nil, ?_⟩
 exact ⟨rfl, rfl⟩
theorem Xh : ∀ (t u : Tm) (cs ds : List Value) (H : Heap), RT H cs t → RT H ds u → CT Tryz.prog 11 ⟨[.agg ⟨cs⟩, .agg ⟨ds⟩]⟩ [] H (fun v N => v = .bool (decide (t = u)) ∧ N = []) := by
 intro t
 induction t using Tm.ind with
 | h kind num ref kids cases ih ih' =>
 intro u cs ds H ht hu
 obtain ⟨ks, cv, rfl, hk, hn, hks, hcv⟩ := RT_mk.1 ht
 obtain ⟨ksu, cvu, rfl, hku, hnu, hksu, hcvu⟩ := RT_open hu
 refine Zk Tryz.func11 rfl rfl <| Zc <| Za <| JLr (Zr (l := pkT kind num ref ks cv) rfl rfl fun b1 => JLr (Zr (l := pkT (u.kind) (u.num) (u.ref) ksu cvu) rfl rfl fun b2 => JLA rfl <| Zb <| Zc <| Za <| JLq (pp b1 0) (ZV rfl rfl) <| JLr (Ze ty3 rfl (At.bx 1 rfl) (Yb ..) <| JLq (pp b2 0) (ZV rfl rfl) <| JLr (Ze ty3 rfl (At.bx 0 rfl) (Yb ..) ?_))))
 refine JLn (Pu.eql rfl rfl) <| JLM rfl <| ZA 5 [11, 12, 13, 14, 15] [(15, cond (decide (kind = u.kind)) (.bool (decide (num = u.num))) undef)] ?_ fun f4 => ?_
 ·cases h3 : (decide (kind = u.kind)) with
  | true =>
   replace h3 := dt h3
   refine JLq (pp b1 1) (Yu rfl rfl) <| JLr (Ze ty3 rfl (At.bx 1 rfl) (Y9 ..) <| JLq (pp b2 1) (Yu rfl rfl) <| JLr (Ze ty3 rfl (At.bx 0 rfl) (Y9 ..) <| JLn (Pu.eql rfl rfl) ?_))
   exact Zb ⟨⟨rfl, trivial⟩, rfl⟩
  | false =>
   exact ZL rfl ⟨rfl, trivial⟩
 refine JLn (Pu.pickAnd rfl rfl rfl) <| JLM rfl <| ZA 5 [18, 19, 20, 21, 22] [(22, cond ((decide (kind = u.kind)) && (decide (num = u.num))) (.bool (decide (ref = u.ref))) undef)] ?_ fun f6 => ?_
 ·cases h5 : ((decide (kind = u.kind)) && (decide (num = u.num))) with
  | true =>
   obtain ⟨h5a, h5b⟩ := Xd h5
   replace h5a := dt h5a
   replace h5b := dt h5b
   refine JLq (pp b1 2) (fa28_2 rfl rfl) <| JLr (Zl Y4 rfl (At.bx 1 rfl) (pkT_2 ..) <| JLq (pp b2 2) (fa28_2 rfl rfl) <| JLr (Zl Y4 rfl (At.bx 0 rfl) (pkT_2 ..) <| JLn (eqS rfl rfl) ?_))
   exact Zb ⟨⟨rfl, trivial⟩, rfl⟩
  | false =>
   exact ZL rfl ⟨rfl, trivial⟩
 refine JLn (Pu.pickAnd rfl rfl rfl) <| JLM rfl <| ZA 5 [25, 26, 27, 28, 29] [(29, cond (((decide (kind = u.kind)) && (decide (num = u.num))) && (decide (ref = u.ref))) (.bool (decide (kids = (u.kids)))) undef)] ?_ fun f8 => ?_
 ·cases h7 : (((decide (kind = u.kind)) && (decide (num = u.num))) && (decide (ref = u.ref))) with
  | true =>
   obtain ⟨h7a, h7b⟩ := Xd h7
   obtain ⟨h7aa, h7ab⟩ := Xd h7a
   replace h7aa := dt h7aa
   replace h7ab := dt h7ab
   replace h7b := dt h7b
   refine JLq (pp b1 34) (Yn rfl rfl) <| JLr (Ze ty25 rfl (At.bx 1 rfl) (Ym ..) <| JLq (pp b2 34) (Yn rfl rfl) <| JLr (Ze ty25 rfl (At.bx 0 rfl) (Ym ..) <| Jc Tryz.call33 rfl (fun hin => sameTerms_ct _ _ _ _ _ (RTs.mono (Hle.hu _ _) hks) (RTs.mono (Hle.hu _ _) hksu) (fun x hx y a b h _ ra rb => ih x hx y a b h ra rb)) rfl ?_))
   rintro _ _ ⟨rfl, rfl⟩
   exact Zb ⟨⟨rfl, trivial⟩, rfl⟩
  | false =>
   exact ZL rfl ⟨rfl, trivial⟩
 refine JLn (Pu.pickAnd rfl rfl rfl) <| JLM rfl <| ZA 5 [32, 33, 34, 35, 36] [(36, cond ((((decide (kind = u.kind)) && (decide (num = u.num))) && (decide (ref = u.ref))) && (decide (kids = (u.kids)))) (.bool (decide (cases = (u.cases)))) undef)] ?_ fun f10 => ?_
 ·cases h9 : ((((decide (kind = u.kind)) && (decide (num = u.num))) && (decide (ref = u.ref))) && (decide (kids = (u.kids)))) with
  | true =>
   obtain ⟨h9a, h9b⟩ := Xd h9
   obtain ⟨h9aa, h9ab⟩ := Xd h9a
   obtain ⟨h9aaa, h9aab⟩ := Xd h9aa
   replace h9aaa := dt h9aaa
   replace h9aab := dt h9aab
   replace h9ab := dt h9ab
   replace h9b := dt h9b
   refine JLq (pp b1 35) (YI rfl rfl) <| JLr (Ze ty26 rfl (At.bx 1 rfl) (Yz ..) <| JLq (pp b2 35) (YI rfl rfl) <| JLr (Ze ty26 rfl (At.bx 0 rfl) (Yz ..) <| Jc Tryz.call34 rfl (fun hin => eqFuncC_ct 35 [] [] (fun _ _ => rfl) _ _ _ _ _ (RCs.mono (Hle.hu _ _) hcv) (RCs.mono (Hle.hu _ _) hcvu) (fun x hx y hy a b h hh ra rb => sameCase_ct x y a b h ra rb (fun h' a' b' _ r1 r2 => ih' x hx y.2 a' b' h' r1 r2))) rfl ?_))
   rintro _ _ ⟨rfl, rfl⟩
   exact Zb ⟨⟨rfl, trivial⟩, rfl⟩
  | false =>
   exact ZL rfl ⟨rfl, trivial⟩
 refine JLn (Pu.pickAnd rfl rfl rfl) <| JLA rfl <| Zb <| Zj <| ⟨.bool (((((decide (kind = u.kind)) && (decide (num = u.num))) && (decide (ref = u.ref))) && (decide (kids = (u.kids)))) && (decide (cases = (u.cases)))), [], Ret.one rfl (RV.tmp rfl), Sub.nil, ?_⟩
 exact ⟨congrArg Value.bool (eqTd ..), rfl⟩
end Go.Proofs.YtjhenmdcnbaobaaGreat.Hs
/-! How a term is read from an item by the reference; both answers are the same. -/
namespace Go.Proofs.YtjhenmdcnbaobaaGreat.Hs
open Go Go.Proofs
mutual
def szI : It → Nat
  | .mk _ _ _ kids => 1 + Z5 kids
def Z5 : List It → Nat
  | [] => 0
  | x :: l => szI x + Z5 l
end
theorem szI_pos (x : It) : 1 ≤ szI x := by cases x; rw [szI]; omega
theorem szIs_drop {l : List It} {j : Nat} (h : j < l.length) : Z5 (l.drop j) = szI l[j] + Z5 (l.drop (j + 1)) := by rw [YE h, Z5]
theorem szIs_mem {l : List It} : ∀ {x : It}, x ∈ l → szI x ≤ Z5 l := by
  induction l with
  | nil => intro x hx; cases hx
  | cons y l ih =>
    intro x hx
    rw [Z5]
    rcases List.mem_cons.1 hx with rfl | hx
    · omega
    · have := ih hx; omega
theorem szIs_len (l : List It) : l.length ≤ Z5 l := by
  induction l with
  | nil => simp
  | cons x l ih => rw [Z5, List.length_cons]; have := szI_pos x; omega
/-- what was begun is counted -/
theorem ptG_cnt (x : It) : ∀ (d : Int) (σ : Int × Bool), σ.1 + 1 ≤ (ptG x d σ).2.1 ∧ (ptG x d σ).2.1 ≤ σ.1 + szI x := by
  induction x using It.ind with
  | h k m t kids ih =>
    intro d σ
    rw [ptG, szI]
    split
    · simp only; omega
    · have hK : ∀ (l : List It) (σ : Int × Bool), (∀ x ∈ l, ∀ (d : Int) (σ : Int × Bool), σ.1 + 1 ≤ (ptG x d σ).2.1 ∧ (ptG x d σ).2.1 ≤ σ.1 + szI x) → σ.1 ≤ (ptGs l (d + 1) σ).2.1 ∧ (ptGs l (d + 1) σ).2.1 ≤ σ.1 + Z5 l := by
        intro l
        induction l with
        | nil => intro σ _; rw [ptGs, Z5]; simp
        | cons x l ihl =>
          intro σ hl
          rw [ptGs, Z5]
          have h1 := hl x (by simp) (d + 1) σ
          have h2 := ihl (ptG x (d + 1) σ).2 (fun y hy => hl y (by simp [hy]))
          simp only at h2 ⊢
          omega
      have := hK kids (σ.1 + 1, YS (decide (k = 33)) t) ih
      simp only at this ⊢
      omega
theorem tmG_cnt (x : It) : (∀ (d : Int) (σ : Int × Bool), σ.1 + 1 ≤ (tmG x d σ).2.1 ∧ (tmG x d σ).2.1 ≤ σ.1 + szI x) ∧ (∀ y ∈ x.kids, ∀ (d : Int) (σ : Int × Bool), σ.1 + 1 ≤ (tmG y d σ).2.1 ∧ (tmG y d σ).2.1 ≤ σ.1 + szI y) := by
  induction x using It.ind with
  | h k m t kids ih =>
    refine ⟨?_, fun y hy => (ih y hy).1⟩
    intro d σ
    rw [tmG, szI]
    split
    · simp only; omega
    · have hK : ∀ (l : List It) (ks : List Tm) (cs : List (Pt × Tm)) (σ : Int × Bool), (∀ x ∈ l, (∀ (d : Int) (σ : Int × Bool), σ.1 + 1 ≤ (tmG x d σ).2.1 ∧ (tmG x d σ).2.1 ≤ σ.1 + szI x) ∧ (∀ y ∈ x.kids, ∀ (d : Int) (σ : Int × Bool), σ.1 + 1 ≤ (tmG y d σ).2.1 ∧ (tmG y d σ).2.1 ≤ σ.1 + szI y)) → σ.1 ≤ (Y1 l (d + 1) ks cs σ).2.1 ∧ (Y1 l (d + 1) ks cs σ).2.1 ≤ σ.1 + Z5 l := by
        intro l
        induction l with
        | nil => intro ks cs σ _; rw [Y1, Z5]; simp
        | cons x l ihl =>
          intro ks cs σ hl
          rw [Z5]
          have h1 := hl x (by simp)
          have hl' := fun y hy => hl y (List.mem_cons_of_mem x hy)
          by_cases hc : ∃ t a b, x = .mk 20 0 t [a, b]
          · obtain ⟨t, a, b, rfl⟩ := hc
            rw [tmGs_case]
            rw [szI, Z5, Z5, Z5]
            split
            · have := ihl ks cs (σ.1, true) hl'
              simp only at this ⊢
              omega
            · have h2 := ptG_cnt a (d + 1) σ
              have h3 := h1.2 b (by simp [It.kids]) (d + 1) (ptG a (d + 1) σ).2
              have := ihl ks (cs ++ [((ptG a (d + 1) σ).1, (tmG b (d + 1) (ptG a (d + 1) σ).2).1)]) (tmG b (d + 1) (ptG a (d + 1) σ).2).2 hl'
              omega
          · rw [tmGs_kid (fun t a b e => hc ⟨t, a, b, e⟩)]
            split
            · have h2 := h1.1 (d + 1) (σ.1, σ.2 || decide (0 < cs.length))
              have := ihl (ks ++ [(tmG x (d + 1) (σ.1, σ.2 || decide (0 < cs.length))).1]) cs (tmG x (d + 1) (σ.1, σ.2 || decide (0 < cs.length))).2 hl'
              simp only at h2 this ⊢
              omega
            · have := ihl ks cs (σ.1, true) hl'
              simp only at this ⊢
              have := szI_pos x
              omega
      have := hK kids [] [] (σ.1 + 1, YS (ZW k) t) ih
      simp only at this ⊢
      omega
/-! steps of the program's rounds -/
theorem it_case {y : It} (h1 : y.kind = 20) (h2 : y.num = 0) (h3 : y.text = ⟨#[]⟩) (h4 : y.kids.length = 2) : y = .mk 20 0 ⟨#[]⟩ [y.kids[0], y.kids[1]] := by
  cases y with
  | mk k n t kids =>
    simp only [It.kind, It.num, It.text, It.kids] at h1 h2 h3 h4 ⊢
    subst h1 h2 h3
    congr 1
    apply List.ext_getElem
    · simp [h4]
    · intro i hi1 hi2
      have : i = 0 ∨ i = 1 := by simp at hi2; omega
      rcases this with rfl | rfl <;> rfl
theorem tmGs_c {y : It} (h1 : y.kind = 20) (h2 : y.num = 0) (h3 : y.text = ⟨#[]⟩) (h4 : y.kids.length = 2) (l : List It) (d : Int) (ks : List Tm) (cs : List (Pt × Tm)) (σ : Int × Bool) : Y1 (y :: l) d ks cs σ = Y1 l d ks (cs ++ [((ptG y.kids[0] d σ).1, (tmG y.kids[1] d (ptG y.kids[0] d σ).2).1)]) (tmG y.kids[1] d (ptG y.kids[0] d σ).2).2 := by
  obtain ⟨a, ha⟩ : ∃ a, a = y.kids[0] := ⟨_, rfl⟩
  obtain ⟨b, hb⟩ : ∃ b, b = y.kids[1] := ⟨_, rfl⟩
  have e := it_case h1 h2 h3 h4
  rw [← ha, ← hb] at e ⊢
  rw [e, tmGs_case, if_neg (fun z => z rfl)]
theorem tmGs_k {y : It} (h1 : ¬ y.kind = 20) (l : List It) (d : Int) (ks : List Tm) (cs : List (Pt × Tm)) (σ : Int × Bool) : Y1 (y :: l) d ks cs σ = Y1 l d (ks ++ [(tmG y d (σ.1, σ.2 || decide (0 < cs.length))).1]) cs (tmG y d (σ.1, σ.2 || decide (0 < cs.length))).2 := by
  rw [tmGs_kid (fun t a b e => h1 (by rw [e]; rfl)), if_pos h1]
theorem tmGs_w {y : It} (h1 : y.kind = 20) (h2 : ¬ (y.num = 0 ∧ y.text = ⟨#[]⟩ ∧ y.kids.length = 2)) (l : List It) (d : Int) (ks : List Tm) (cs : List (Pt × Tm)) (σ : Int × Bool) : Y1 (y :: l) d ks cs σ = Y1 l d ks cs (σ.1, true) := by
  by_cases hc : ∃ t a b, y = .mk 20 0 t [a, b]
  · obtain ⟨t, a, b, rfl⟩ := hc
    have ht : ¬ t = ⟨#[]⟩ := fun z => h2 ⟨rfl, z, rfl⟩
    rw [tmGs_case, if_pos ht]
  · rw [tmGs_kid (fun t a b e => hc ⟨t, a, b, e⟩), if_neg (fun z => z h1)]
theorem ptGs_cons {kids : List It} {j : Nat} (hj : j < kids.length) (d : Int) (σ : Int × Bool) : ptGs (kids.drop j) d σ = ((ptG kids[j] d σ).1 :: (ptGs (kids.drop (j + 1)) d (ptG kids[j] d σ).2).1, (ptGs (kids.drop (j + 1)) d (ptG kids[j] d σ).2).2) := by rw [YE hj, ptGs]
theorem refW_eq (has : Bool) (t : ByteArray) : ((has && !decide ((t.size : Int) = 32)) || (!has && !decide (t = ⟨#[]⟩))) = YS has t := by
  unfold YS
  have : decide ((t.size : Int) = 32) = decide (t.size = 32) := by
    apply decide_eq_decide.2; omega
  rw [this]
  simp
theorem refV_w {has : Bool} {t : ByteArray} (h : YS has t = true) : Yl has t = zS := by unfold Yl; rw [if_pos h]
theorem refV_ok {has : Bool} {t : ByteArray} (h : YS has t = false) : t.size ≤ 32 ∧ spl (sC zS) 0 ((sB t).map (fun n => Value.int .u8 n)) = some (sC (Yl has t)) := by
  cases has with
  | true =>
    have h1 : t.size = 32 := by simpa [YS] using h
    refine ⟨by omega, ?_⟩
    have e : Yl true t = smS t := by unfold Yl; rw [h]; rfl
    rw [e, ← sC_str h1]
    have hl : ((sB t).map (fun n => Value.int .u8 n)).length = 32 := by rw [List.length_map, Ys]; exact h1
    rw [spl_mk (by rw [hl, sC_len]; omega), hl]
    rw [List.take_zero, List.nil_append, List.drop_of_length_le (by rw [sC_len]; omega), List.append_nil]
  | false =>
    have h1 : t = ⟨#[]⟩ := by simpa [YS] using h
    subst h1
    refine ⟨by decide, ?_⟩
    have e : Yl false ⟨#[]⟩ = zS := by unfold Yl; rw [h]; rfl
    rw [e]
    have e2 : (sB ⟨#[]⟩).map (fun n => Value.int .u8 n) = [] := rfl
    rw [e2, spl_mk (by simp)]
    simp
end Go.Proofs.YtjhenmdcnbaobaaGreat.Hs
/-! Right terms are read from their items by the reference too; both answers are the same. -/
namespace Go.Proofs.YtjhenmdcnbaobaaGreat.Hs
open Go Go.Proofs
mutual
def dpI : It → Int
  | .mk _ _ _ kids => 1 + dpIs kids
def dpIs : List It → Int
  | [] => 0
  | x :: l => max (dpI x) (dpIs l)
end
theorem dpIs_nn (l : List It) : 0 ≤ dpIs l := by
  induction l with
  | nil => rw [dpIs]; omega
  | cons x l ih => rw [dpIs]; omega
theorem szP_it (p : Pt) : (szI (itP p) : Int) = sizeP p ∧ dpI (itP p) = depP p := by
  induction p using Pt.ind with
  | h k n r kids ih =>
    rw [itP, szI, dpI, sizeP, depP]
    have hK : ∀ l : List Pt, (∀ x ∈ l, (szI (itP x) : Int) = sizeP x ∧ dpI (itP x) = depP x) → (Z5 (itPs l) : Int) = ZU l ∧ dpIs (itPs l) = Xp l := by
      intro l
      induction l with
      | nil => intro _; rw [itPs, Z5, dpIs, ZU, Xp]; simp
      | cons x l ihl =>
        intro hl
        have h1 := hl x (by simp)
        have h2 := ihl (fun y hy => hl y (by simp [hy]))
        rw [itPs, Z5, dpIs, ZU, Xp]
        omega
    have := hK kids ih
    omega
theorem szIs_app (a b : List It) : Z5 (a ++ b) = Z5 a + Z5 b := by
  induction a with
  | nil => rw [Z5]; simp
  | cons x a ih => rw [List.cons_append, Z5, Z5, ih]; omega
theorem dpIs_app (a b : List It) : dpIs (a ++ b) = max (dpIs a) (dpIs b) := by
  induction a with
  | nil => rw [dpIs]; have := dpIs_nn b; simp only [List.nil_append]; omega
  | cons x a ih => rw [List.cons_append, dpIs, dpIs, ih]; omega
theorem szT_it (t : Tm) : (szI (itT t) : Int) ≤ 2 * sizeT t ∧ dpI (itT t) ≤ 2 * depT t := by
  induction t using Tm.ind with
  | h k n r kids cases ih ih' =>
    rw [itT, szI, dpI, sizeT, depT, szIs_app, dpIs_app]
    have hK : ∀ l : List Tm, (∀ x ∈ l, (szI (itT x) : Int) ≤ 2 * sizeT x ∧ dpI (itT x) ≤ 2 * depT x) → (Z5 (itTs l) : Int) ≤ 2 * sizeTs l ∧ dpIs (itTs l) ≤ 2 * depTs l := by
      intro l
      induction l with
      | nil => intro _; rw [itTs, Z5, dpIs, sizeTs, depTs]; simp
      | cons x l ihl =>
        intro hl
        have h1 := hl x (by simp)
        have h2 := ihl (fun y hy => hl y (by simp [hy]))
        rw [itTs, Z5, dpIs, sizeTs, depTs]
        omega
    have hC : ∀ l : List (Pt × Tm), (∀ c ∈ l, (szI (itT c.2) : Int) ≤ 2 * sizeT c.2 ∧ dpI (itT c.2) ≤ 2 * depT c.2) → (Z5 (itCs l) : Int) ≤ 2 * sizeCs l ∧ dpIs (itCs l) ≤ 2 * depCs l + 1 := by
      intro l
      induction l with
      | nil => intro _; rw [itCs, Z5, dpIs, sizeCs, depCs]; simp
      | cons c l ihl =>
        intro hl
        obtain ⟨p, x⟩ := c
        have h1 := hl (p, x) (by simp)
        have h2 := ihl (fun y hy => hl y (by simp [hy]))
        have h3 := szP_it p
        have h4 := depP_ge p
        have h5 := sizeP_pos p
        simp only at h1
        rw [itCs, Z5, dpIs, sizeCs, depCs, szI, dpI, Z5, Z5, Z5, dpIs, dpIs, dpIs]
        omega
    have h1 := hK kids ih
    have h2 := hC cases ih'
    have h3 := depTs_nn kids
    omega
end Go.Proofs.YtjhenmdcnbaobaaGreat.Hs
