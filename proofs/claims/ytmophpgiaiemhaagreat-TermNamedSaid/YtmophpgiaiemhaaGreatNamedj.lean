import Derived.Test.YtmophpgiaiemhaaGreatNamedi
/-! Walks, printed by a program of this session's own (gen.py). -/
namespace Go.Proofs.YtmophpgiaiemhaaGreat.Hs
open Go Go.Proofs
set_option maxRecDepth 100000
set_option linter.unusedVariables false
set_option linter.unusedSimpArgs false
attribute [local irreducible] JL J CT wlo
theorem eqFuncP_ct (g : Nat) (fs cv : List Value) (hcall : ∀ args w, (callFunc g args).run Tryz.prog w = .ok (.enter g args) w) (l m : List Pt) (v u : Value) (H : Heap) (hl : rdS RP 35 H v l) (hm : rdS RP 35 H u m) (hg : ∀ x ∈ l, ∀ y ∈ m, ∀ a b h, Hle H h → RP h a x → RP h b y → CT Tryz.prog g ⟨fs ++ [.agg ⟨a⟩, .agg ⟨b⟩] ++ cv⟩ [] h (fun v N => v = .bool (decide (x = y)) ∧ N = [])) : CT Tryz.prog 122 ⟨[v, u, .func (.func g) ⟨fs⟩ ⟨cv⟩]⟩ [] H (fun v N => v = .bool (decide (l = m)) ∧ N = []) := by
 refine Zo Tryz.func122 rfl rfl <| Zd <| Zb <| JLa (.bool false) <| Za <| Zd <| Zd <| Zb <| JLm v ?_
 obtain ⟨a1, cap1, hv1⟩ := hl.sl
 have hle1 := hl.le
 refine JLq (.int .i64 ((l.length : Int))) (Pu.lenSl Tryz.runUnderlying73 hv1) <| JLm u ?_
 obtain ⟨a2, cap2, hv2⟩ := hm.sl
 have hle2 := hm.le
 refine JLq (.int .i64 ((m.length : Int))) (Pu.lenSl Tryz.runUnderlying73 hv2) <| JLq (.bool (!decide ((l.length : Int) = (m.length : Int)))) (Pu.neq rfl rfl) <| Za <| Zi (b := !decide ((l.length : Int) = (m.length : Int))) rfl (fun h3 => ?_) (fun h3 => ?_)
 ·replace h3 := nt h3
  replace h3 := df h3
  refine Zd <| Zb <| JLa (.bool false) <| Za <| Zl <| ⟨.bool false, [], Ret.one rfl (RV.tmp rfl), Sub.nil, ?_⟩
  exact ⟨by rw [decide_eq_false]; intro e; subst e; exact h3 rfl, rfl⟩
 replace h3 := nf h3
 replace h3 := dt h3
 refine Zp <| Zd <| Zd <| Zb <| JLm v ?_
 obtain ⟨a4, cap4, hv4⟩ := hl.sl
 have hle4 := hl.le
 refine JLq (.int .i64 ((l.length : Int))) (Pu.lenSl Tryz.runUnderlying73 hv4) <| JLm (.int .i64 0) <| Za <| Zs <| ZU (fun k ρ M => ∃ (j : Nat), ρ 1 = u ∧ ρ 2 = .func (.func g) ⟨fs⟩ ⟨cv⟩ ∧ ρ 6 = .bool false ∧ ρ 15 = v ∧ ρ 16 = .int .i64 ((l.length : Int)) ∧ ρ 17 = .int .i64 ((j : Int)) ∧ Sub [] M ∧ j ≤ l.length ∧ l.length = m.length ∧ l.take j = m.take j ∧ k = l.length - j) _ ⟨0, rfl, rfl, rfl, rfl, rfl, rfl, Sub.nil, Nat.zero_le _, (by omega), rfl, rfl⟩ ?_
 rintro _ ρ5 _ ⟨j, e6, e7, e8, e9, e10, e11, hm12, hj, hlen, htake, rfl⟩
 obtain ⟨ρ13, rfl⟩ := Zc (uc e6 (uc e7 (uc e8 (uc e9 (uc e10 (uc e11 un))))))
 clear e6 e7 e8 e9 e10 e11
 refine Z1 hm12 <| Zd <| Zb <| JLq (.bool (decide ((j : Int) < (l.length : Int)))) (Pu.lss rfl rfl) <| Za <| Zd <| Zi (b := decide ((j : Int) < (l.length : Int))) rfl (fun h14 => ?_) (fun h14 => ?_)
 ·replace h14 := dt h14
  have h14n : j < l.length := by omega
  have hlenl := hl.le
  have hltm : j < m.length := by omega
  refine Zp <| Zd <| Zs <| Zd <| Zb <| JLm (.int .i64 ((j : Int))) ?_
  obtain ⟨b15, o15, cap15, row15, T15, fr15, cs15, hv15, hb15, hs15, hE15⟩ := hl.get j (by first | assumption | omega | decide | simp)
  refine JLq (.pointer (some ⟨b15, o15 + j * 35, none⟩)) (Pu.idx j Tryz.runUnderlying73 Z5 hv15 rfl rfl (by first | assumption | omega | decide | simp)) <| JLr (Zh Z5 rfl (At.im hb15) hs15 <| JLr (Zj (l := pkP 0 0 zS (.slice none 0 0)) Tryz.zeroValue75 rfl fun b16 => JLa (.int .i64 ((j : Int))) <| JLr (Ze 0 (vs := cs15) (l := cs15) Z5 rfl rfl rfl rfl (ZJ hE15) (RP_ok hE15) (ZL (n := 35) rfl (ZJ hE15)) <| Za <| Zd <| Zb <| JLm u <| JLm (.int .i64 ((j : Int))) ?_)))
  obtain ⟨b17, o17, cap17, row17, T17, fr17, cs17, hv17, hb17, hs17, hE17⟩ := hm.get j (by first | assumption | omega | decide | simp)
  refine JLq (.pointer (some ⟨b17, o17 + j * 35, none⟩)) (Pu.idx j Tryz.runUnderlying73 Z5 hv17 rfl rfl (by first | assumption | omega | decide | simp)) <| JLr (Zh Z5 rfl (At.im hb17) hs17 <| JLr (Zj (l := pkP 0 0 zS (.slice none 0 0)) Tryz.zeroValue75 rfl fun b18 => JLr (Ze 0 (vs := cs17) (l := cs17) Z5 rfl rfl rfl rfl (ZJ hE17) (RP_ok hE17) (ZL (n := 35) rfl (ZJ hE17)) <| Za <| Zd <| Zb <| JLm (.func (.func g) ⟨fs⟩ ⟨cv⟩) <| JLr (Zh Z5 rfl (At.bx 1 rfl) (Zx (ZJ hE15)) <| JLr (Zh Z5 rfl (At.bx 0 rfl) (Zx (ZJ hE17)) <| Zg rfl hcall rfl (fun hin => hg _ (List.getElem_mem h14n) _ (List.getElem_mem (by omega)) _ _ _ (Hle.hu _ _) (RP.mono (Hle.hu _ _) hE15) (RP.mono (Hle.hu _ _) hE17)) rfl ?_)))))
  rintro _ _ ⟨rfl, rfl⟩
  refine JLq (.bool (!(decide ((l[j]) = (m[j]))))) (Pu.not rfl) <| Za <| Zi (b := !(decide ((l[j]) = (m[j])))) rfl (fun h19 => ?_) (fun h19 => ?_)
  ·replace h19 := nt h19
   replace h19 := df h19
   refine Zd <| Zb <| JLa (.bool false) <| Za <| Zl <| ⟨.bool false, [], Ret.one rfl (RV.tmp rfl), Sub.nil, ?_⟩
   exact ⟨by rw [decide_eq_false]; intro e; subst e; exact h19 rfl, rfl⟩
  replace h19 := nf h19
  replace h19 := dt h19
  refine Zp <| Zb <| JLq (.int .i64 (((j + 1 : Nat) : Int))) (Pu.inc rfl rfl (by omega)) <| JLm (.int .i64 (((j + 1 : Nat) : Int))) <| Za <| ⟨_, ?_, (j + 1), rfl, rfl, rfl, rfl, rfl, rfl, Sub.nil, ?_, ?_, ?_, rfl⟩
  ·omega
  ·omega
  ·assumption
  rw [List.take_succ_eq_append_getElem h14n, List.take_succ_eq_append_getElem (by omega), htake, h19]
 replace h14 := df h14
 have h14n : l.length ≤ j := by omega
 refine ZM _ rfl <| Zd <| Zb <| JLa (.bool true) <| Za <| Zl <| ⟨.bool true, [], Ret.one rfl (RV.tmp rfl), Sub.nil, ?_⟩
 exact ⟨by rw [decide_eq_true]; have e := htake; rw [List.take_of_length_le h14n, List.take_of_length_le (by omega)] at e; exact e, rfl⟩
theorem eqFuncT_ct (g : Nat) (fs cv : List Value) (hcall : ∀ args w, (callFunc g args).run Tryz.prog w = .ok (.enter g args) w) (l m : List Tm) (v u : Value) (H : Heap) (hl : rdS RT 36 H v l) (hm : rdS RT 36 H u m) (hg : ∀ x ∈ l, ∀ y ∈ m, ∀ a b h, Hle H h → RT h a x → RT h b y → CT Tryz.prog g ⟨fs ++ [.agg ⟨a⟩, .agg ⟨b⟩] ++ cv⟩ [] h (fun v N => v = .bool (decide (x = y)) ∧ N = [])) : CT Tryz.prog 123 ⟨[v, u, .func (.func g) ⟨fs⟩ ⟨cv⟩]⟩ [] H (fun v N => v = .bool (decide (l = m)) ∧ N = []) := by
 refine Zo Tryz.func123 rfl rfl <| Zd <| Zb <| JLa (.bool false) <| Za <| Zd <| Zd <| Zb <| JLm v ?_
 obtain ⟨a1, cap1, hv1⟩ := hl.sl
 have hle1 := hl.le
 refine JLq (.int .i64 ((l.length : Int))) (Pu.lenSl Tryz.runUnderlying24 hv1) <| JLm u ?_
 obtain ⟨a2, cap2, hv2⟩ := hm.sl
 have hle2 := hm.le
 refine JLq (.int .i64 ((m.length : Int))) (Pu.lenSl Tryz.runUnderlying24 hv2) <| JLq (.bool (!decide ((l.length : Int) = (m.length : Int)))) (Pu.neq rfl rfl) <| Za <| Zi (b := !decide ((l.length : Int) = (m.length : Int))) rfl (fun h3 => ?_) (fun h3 => ?_)
 ·replace h3 := nt h3
  replace h3 := df h3
  refine Zd <| Zb <| JLa (.bool false) <| Za <| Zl <| ⟨.bool false, [], Ret.one rfl (RV.tmp rfl), Sub.nil, ?_⟩
  exact ⟨by rw [decide_eq_false]; intro e; subst e; exact h3 rfl, rfl⟩
 replace h3 := nf h3
 replace h3 := dt h3
 refine Zp <| Zd <| Zd <| Zb <| JLm v ?_
 obtain ⟨a4, cap4, hv4⟩ := hl.sl
 have hle4 := hl.le
 refine JLq (.int .i64 ((l.length : Int))) (Pu.lenSl Tryz.runUnderlying24 hv4) <| JLm (.int .i64 0) <| Za <| Zs <| ZU (fun k ρ M => ∃ (j : Nat), ρ 1 = u ∧ ρ 2 = .func (.func g) ⟨fs⟩ ⟨cv⟩ ∧ ρ 6 = .bool false ∧ ρ 15 = v ∧ ρ 16 = .int .i64 ((l.length : Int)) ∧ ρ 17 = .int .i64 ((j : Int)) ∧ Sub [] M ∧ j ≤ l.length ∧ l.length = m.length ∧ l.take j = m.take j ∧ k = l.length - j) _ ⟨0, rfl, rfl, rfl, rfl, rfl, rfl, Sub.nil, Nat.zero_le _, (by omega), rfl, rfl⟩ ?_
 rintro _ ρ5 _ ⟨j, e6, e7, e8, e9, e10, e11, hm12, hj, hlen, htake, rfl⟩
 obtain ⟨ρ13, rfl⟩ := Zc (uc e6 (uc e7 (uc e8 (uc e9 (uc e10 (uc e11 un))))))
 clear e6 e7 e8 e9 e10 e11
 refine Z1 hm12 <| Zd <| Zb <| JLq (.bool (decide ((j : Int) < (l.length : Int)))) (Pu.lss rfl rfl) <| Za <| Zd <| Zi (b := decide ((j : Int) < (l.length : Int))) rfl (fun h14 => ?_) (fun h14 => ?_)
 ·replace h14 := dt h14
  have h14n : j < l.length := by omega
  have hlenl := hl.le
  have hltm : j < m.length := by omega
  refine Zp <| Zd <| Zs <| Zd <| Zb <| JLm (.int .i64 ((j : Int))) ?_
  obtain ⟨b15, o15, cap15, row15, T15, fr15, cs15, hv15, hb15, hs15, hE15⟩ := hl.get j (by first | assumption | omega | decide | simp)
  refine JLq (.pointer (some ⟨b15, o15 + j * 36, none⟩)) (Pu.idx j Tryz.runUnderlying24 Zu hv15 rfl rfl (by first | assumption | omega | decide | simp)) <| JLr (Zh Zu rfl (At.im hb15) hs15 <| JLr (Zj (l := pkT 0 0 zS (.slice none 0 0) (.slice none 0 0)) Tryz.zeroValue27 rfl fun b16 => JLa (.int .i64 ((j : Int))) <| JLr (Ze 0 (vs := cs15) (l := cs15) Zu rfl rfl rfl rfl (ZD hE15) (RT_ok hE15) (ZL (n := 36) rfl (ZD hE15)) <| Za <| Zd <| Zb <| JLm u <| JLm (.int .i64 ((j : Int))) ?_)))
  obtain ⟨b17, o17, cap17, row17, T17, fr17, cs17, hv17, hb17, hs17, hE17⟩ := hm.get j (by first | assumption | omega | decide | simp)
  refine JLq (.pointer (some ⟨b17, o17 + j * 36, none⟩)) (Pu.idx j Tryz.runUnderlying24 Zu hv17 rfl rfl (by first | assumption | omega | decide | simp)) <| JLr (Zh Zu rfl (At.im hb17) hs17 <| JLr (Zj (l := pkT 0 0 zS (.slice none 0 0) (.slice none 0 0)) Tryz.zeroValue27 rfl fun b18 => JLr (Ze 0 (vs := cs17) (l := cs17) Zu rfl rfl rfl rfl (ZD hE17) (RT_ok hE17) (ZL (n := 36) rfl (ZD hE17)) <| Za <| Zd <| Zb <| JLm (.func (.func g) ⟨fs⟩ ⟨cv⟩) <| JLr (Zh Zu rfl (At.bx 1 rfl) (Zx (ZD hE15)) <| JLr (Zh Zu rfl (At.bx 0 rfl) (Zx (ZD hE17)) <| Zg rfl hcall rfl (fun hin => hg _ (List.getElem_mem h14n) _ (List.getElem_mem (by omega)) _ _ _ (Hle.hu _ _) (RT.mono (Hle.hu _ _) hE15) (RT.mono (Hle.hu _ _) hE17)) rfl ?_)))))
  rintro _ _ ⟨rfl, rfl⟩
  refine JLq (.bool (!(decide ((l[j]) = (m[j]))))) (Pu.not rfl) <| Za <| Zi (b := !(decide ((l[j]) = (m[j])))) rfl (fun h19 => ?_) (fun h19 => ?_)
  ·replace h19 := nt h19
   replace h19 := df h19
   refine Zd <| Zb <| JLa (.bool false) <| Za <| Zl <| ⟨.bool false, [], Ret.one rfl (RV.tmp rfl), Sub.nil, ?_⟩
   exact ⟨by rw [decide_eq_false]; intro e; subst e; exact h19 rfl, rfl⟩
  replace h19 := nf h19
  replace h19 := dt h19
  refine Zp <| Zb <| JLq (.int .i64 (((j + 1 : Nat) : Int))) (Pu.inc rfl rfl (by omega)) <| JLm (.int .i64 (((j + 1 : Nat) : Int))) <| Za <| ⟨_, ?_, (j + 1), rfl, rfl, rfl, rfl, rfl, rfl, Sub.nil, ?_, ?_, ?_, rfl⟩
  ·omega
  ·omega
  ·assumption
  rw [List.take_succ_eq_append_getElem h14n, List.take_succ_eq_append_getElem (by omega), htake, h19]
 replace h14 := df h14
 have h14n : l.length ≤ j := by omega
 refine ZM _ rfl <| Zd <| Zb <| JLa (.bool true) <| Za <| Zl <| ⟨.bool true, [], Ret.one rfl (RV.tmp rfl), Sub.nil, ?_⟩
 exact ⟨by rw [decide_eq_true]; have e := htake; rw [List.take_of_length_le h14n, List.take_of_length_le (by omega)] at e; exact e, rfl⟩
theorem eqFuncC_ct (g : Nat) (fs cv : List Value) (hcall : ∀ args w, (callFunc g args).run Tryz.prog w = .ok (.enter g args) w) (l m : List (Pt × Tm)) (v u : Value) (H : Heap) (hl : rdS RC 71 H v l) (hm : rdS RC 71 H u m) (hg : ∀ x ∈ l, ∀ y ∈ m, ∀ a b h, Hle H h → RC h a x → RC h b y → CT Tryz.prog g ⟨fs ++ [.agg ⟨a⟩, .agg ⟨b⟩] ++ cv⟩ [] h (fun v N => v = .bool (decide (x = y)) ∧ N = [])) : CT Tryz.prog 74 ⟨[v, u, .func (.func g) ⟨fs⟩ ⟨cv⟩]⟩ [] H (fun v N => v = .bool (decide (l = m)) ∧ N = []) := by
 refine Zo Tryz.func74 rfl rfl <| Zd <| Zb <| JLa (.bool false) <| Za <| Zd <| Zd <| Zb <| JLm v ?_
 obtain ⟨a1, cap1, hv1⟩ := hl.sl
 have hle1 := hl.le
 refine JLq (.int .i64 ((l.length : Int))) (Pu.lenSl Tryz.runUnderlying25 hv1) <| JLm u ?_
 obtain ⟨a2, cap2, hv2⟩ := hm.sl
 have hle2 := hm.le
 refine JLq (.int .i64 ((m.length : Int))) (Pu.lenSl Tryz.runUnderlying25 hv2) <| JLq (.bool (!decide ((l.length : Int) = (m.length : Int)))) (Pu.neq rfl rfl) <| Za <| Zi (b := !decide ((l.length : Int) = (m.length : Int))) rfl (fun h3 => ?_) (fun h3 => ?_)
 ·replace h3 := nt h3
  replace h3 := df h3
  refine Zd <| Zb <| JLa (.bool false) <| Za <| Zl <| ⟨.bool false, [], Ret.one rfl (RV.tmp rfl), Sub.nil, ?_⟩
  exact ⟨by rw [decide_eq_false]; intro e; subst e; exact h3 rfl, rfl⟩
 replace h3 := nf h3
 replace h3 := dt h3
 refine Zp <| Zd <| Zd <| Zb <| JLm v ?_
 obtain ⟨a4, cap4, hv4⟩ := hl.sl
 have hle4 := hl.le
 refine JLq (.int .i64 ((l.length : Int))) (Pu.lenSl Tryz.runUnderlying25 hv4) <| JLm (.int .i64 0) <| Za <| Zs <| ZU (fun k ρ M => ∃ (j : Nat), ρ 1 = u ∧ ρ 2 = .func (.func g) ⟨fs⟩ ⟨cv⟩ ∧ ρ 6 = .bool false ∧ ρ 15 = v ∧ ρ 16 = .int .i64 ((l.length : Int)) ∧ ρ 17 = .int .i64 ((j : Int)) ∧ Sub [] M ∧ j ≤ l.length ∧ l.length = m.length ∧ l.take j = m.take j ∧ k = l.length - j) _ ⟨0, rfl, rfl, rfl, rfl, rfl, rfl, Sub.nil, Nat.zero_le _, (by omega), rfl, rfl⟩ ?_
 rintro _ ρ5 _ ⟨j, e6, e7, e8, e9, e10, e11, hm12, hj, hlen, htake, rfl⟩
 obtain ⟨ρ13, rfl⟩ := Zc (uc e6 (uc e7 (uc e8 (uc e9 (uc e10 (uc e11 un))))))
 clear e6 e7 e8 e9 e10 e11
 refine Z1 hm12 <| Zd <| Zb <| JLq (.bool (decide ((j : Int) < (l.length : Int)))) (Pu.lss rfl rfl) <| Za <| Zd <| Zi (b := decide ((j : Int) < (l.length : Int))) rfl (fun h14 => ?_) (fun h14 => ?_)
 ·replace h14 := dt h14
  have h14n : j < l.length := by omega
  have hlenl := hl.le
  have hltm : j < m.length := by omega
  refine Zp <| Zd <| Zs <| Zd <| Zb <| JLm (.int .i64 ((j : Int))) ?_
  obtain ⟨b15, o15, cap15, row15, T15, fr15, cs15, hv15, hb15, hs15, hE15⟩ := hl.get j (by first | assumption | omega | decide | simp)
  obtain ⟨ca15, cb15, rfl, hA15, hB15⟩ := hE15
  refine JLq (.pointer (some ⟨b15, o15 + j * 71, none⟩)) (Pu.idx j Tryz.runUnderlying25 ty80 hv15 rfl rfl (by first | assumption | omega | decide | simp)) <| JLr (Zh ty80 rfl (At.im hb15) hs15 <| JLr (Zj (l := (pkP 0 0 zS (.slice none 0 0)) ++ (pkT 0 0 zS (.slice none 0 0) (.slice none 0 0))) Tryz.zeroValue80 rfl fun b16 => JLa (.int .i64 ((j : Int))) <| JLr (Ze 0 (vs := ca15 ++ cb15) (l := ca15 ++ cb15) ty80 rfl rfl rfl rfl (ZN (ZJ hA15) (ZD hB15)) (Z3 (RP_ok hA15) (RT_ok hB15)) (ZL (n := 71) rfl (ZN (ZJ hA15) (ZD hB15))) <| Za <| Zd <| Zb <| JLm u <| JLm (.int .i64 ((j : Int))) ?_)))
  obtain ⟨b17, o17, cap17, row17, T17, fr17, cs17, hv17, hb17, hs17, hE17⟩ := hm.get j (by first | assumption | omega | decide | simp)
  obtain ⟨ca17, cb17, rfl, hA17, hB17⟩ := hE17
  refine JLq (.pointer (some ⟨b17, o17 + j * 71, none⟩)) (Pu.idx j Tryz.runUnderlying25 ty80 hv17 rfl rfl (by first | assumption | omega | decide | simp)) <| JLr (Zh ty80 rfl (At.im hb17) hs17 <| JLr (Zj (l := (pkP 0 0 zS (.slice none 0 0)) ++ (pkT 0 0 zS (.slice none 0 0) (.slice none 0 0))) Tryz.zeroValue80 rfl fun b18 => JLr (Ze 0 (vs := ca17 ++ cb17) (l := ca17 ++ cb17) ty80 rfl rfl rfl rfl (ZN (ZJ hA17) (ZD hB17)) (Z3 (RP_ok hA17) (RT_ok hB17)) (ZL (n := 71) rfl (ZN (ZJ hA17) (ZD hB17))) <| Za <| Zd <| Zb <| JLm (.func (.func g) ⟨fs⟩ ⟨cv⟩) <| JLr (Zh ty80 rfl (At.bx 1 rfl) (Zx (ZN (ZJ hA15) (ZD hB15))) <| JLr (Zh ty80 rfl (At.bx 0 rfl) (Zx (ZN (ZJ hA17) (ZD hB17))) <| Zg rfl hcall rfl (fun hin => hg _ (List.getElem_mem h14n) _ (List.getElem_mem (by omega)) _ _ _ (Hle.hu _ _) (RC.mono (Hle.hu _ _) (RC_mk hA15 hB15)) (RC.mono (Hle.hu _ _) (RC_mk hA17 hB17))) rfl ?_)))))
  rintro _ _ ⟨rfl, rfl⟩
  refine JLq (.bool (!(decide ((l[j]) = (m[j]))))) (Pu.not rfl) <| Za <| Zi (b := !(decide ((l[j]) = (m[j])))) rfl (fun h19 => ?_) (fun h19 => ?_)
  ·replace h19 := nt h19
   replace h19 := df h19
   refine Zd <| Zb <| JLa (.bool false) <| Za <| Zl <| ⟨.bool false, [], Ret.one rfl (RV.tmp rfl), Sub.nil, ?_⟩
   exact ⟨by rw [decide_eq_false]; intro e; subst e; exact h19 rfl, rfl⟩
  replace h19 := nf h19
  replace h19 := dt h19
  refine Zp <| Zb <| JLq (.int .i64 (((j + 1 : Nat) : Int))) (Pu.inc rfl rfl (by omega)) <| JLm (.int .i64 (((j + 1 : Nat) : Int))) <| Za <| ⟨_, ?_, (j + 1), rfl, rfl, rfl, rfl, rfl, rfl, Sub.nil, ?_, ?_, ?_, rfl⟩
  ·omega
  ·omega
  ·assumption
  rw [List.take_succ_eq_append_getElem h14n, List.take_succ_eq_append_getElem (by omega), htake, h19]
 replace h14 := df h14
 have h14n : l.length ≤ j := by omega
 refine ZM _ rfl <| Zd <| Zb <| JLa (.bool true) <| Za <| Zl <| ⟨.bool true, [], Ret.one rfl (RV.tmp rfl), Sub.nil, ?_⟩
 exact ⟨by rw [decide_eq_true]; have e := htake; rw [List.take_of_length_le h14n, List.take_of_length_le (by omega)] at e; exact e, rfl⟩
theorem samePattern_ct : ∀ (p q : Pt) (cs ds : List Value) (H : Heap), RP H cs p → RP H ds q → CT Tryz.prog 71 ⟨[.agg ⟨cs⟩, .agg ⟨ds⟩]⟩ [] H (fun v N => v = .bool (decide (p = q)) ∧ N = []) := by
 intro p
 induction p using Pt.ind with
 | h kind num ref kids ih =>
 intro q cs ds H hp hq
 obtain ⟨ks, rfl, hk, hn, hks⟩ := RP_mk.1 hp
 obtain ⟨ksq, rfl, hkq, hnq, hksq⟩ := RP_open hq
 refine Zo Tryz.func71 rfl rfl <| Zd <| Zb <| JLr (Zt (l := pkP kind num ref ks) rfl rfl fun b1 => JLr (Zt (l := pkP (q.kind) (q.num) (q.ref) ksq) rfl rfl fun b2 => JLa (.bool false) <| Za <| Yo (fun ρ M => ρ 4 = .bool ((((decide (kind = q.kind)) && (decide (num = q.num))) && (decide (ref = q.ref))) && (decide (kids = (q.kids)))) ∧ M = [[(b2, .cells ⟨pkP (q.kind) (q.num) (q.ref) ksq⟩ 75 (0, 0))], [(b1, .cells ⟨pkP kind num ref ks⟩ 75 (0, 0))]]) ?_ ?_))
 ·refine Zb <| JLq (.pointer (some ⟨b1, 0, none⟩)) (Y6 rfl rfl) <| JLr (Zf ty3 rfl (At.bx 1 rfl) (pkP_0 ..) <| JLq (.pointer (some ⟨b2, 0, none⟩)) (Y6 rfl rfl) <| JLr (Zf ty3 rfl (At.bx 0 rfl) (pkP_0 ..) <| JLq (.bool (decide (kind = q.kind))) (Pu.eql rfl rfl) <| JLm (.bool (decide (kind = q.kind))) ?_))
  cases h3 : (decide (kind = q.kind)) with
  | true =>
   replace h3 := dt h3
   refine JLq (.pointer (some ⟨b1, 1, none⟩)) (fa75_1 rfl rfl) <| JLr (Zf ty3 rfl (At.bx 1 rfl) (pkP_1 ..) <| JLq (.pointer (some ⟨b2, 1, none⟩)) (fa75_1 rfl rfl) <| JLr (Zf ty3 rfl (At.bx 0 rfl) (pkP_1 ..) <| JLq (.bool (decide (num = q.num))) (Pu.eql rfl rfl) <| JLq (.bool (decide (num = q.num))) (Pu.pickT rfl rfl) <| JLm (.bool (decide (num = q.num))) ?_))
   cases h4 : (decide (num = q.num)) with
   | true =>
    replace h4 := dt h4
    refine JLq (.pointer (some ⟨b1, 2, none⟩)) (fa75_2 rfl rfl) <| JLr (Zh Xb rfl (At.bx 1 rfl) (pkP_2 ..) <| JLq (.pointer (some ⟨b2, 2, none⟩)) (fa75_2 rfl rfl) <| JLr (Zh Xb rfl (At.bx 0 rfl) (pkP_2 ..) <| JLq (.bool (decide (ref = q.ref))) (eqS rfl rfl) <| JLq (.bool (decide (ref = q.ref))) (Pu.pickT rfl rfl) <| JLm (.bool (decide (ref = q.ref))) ?_))
    cases h5 : (decide (ref = q.ref)) with
    | true =>
     replace h5 := dt h5
     refine JLq (.pointer (some ⟨b1, 34, none⟩)) (YO rfl rfl) <| JLr (Zf ty73 rfl (At.bx 1 rfl) (Xf ..) <| JLq (.pointer (some ⟨b2, 34, none⟩)) (YO rfl rfl) <| JLr (Zf ty73 rfl (At.bx 0 rfl) (Xf ..) <| Zg rfl Tryz.call122 rfl (fun hin => eqFuncP_ct 71 [] [] (fun _ _ => rfl) _ _ _ _ _ (RPs.mono (Hle.hu _ _) hks) (RPs.mono (Hle.hu _ _) hksq) (fun x hx y hy a b h hh ra rb => ih x hx y a b h ra rb)) rfl ?_))
     rintro _ _ ⟨rfl, rfl⟩
     refine JLq (.bool (decide (kids = (q.kids)))) (Pu.pickT rfl rfl) <| JLa (.bool (decide (kids = (q.kids)))) <| Za ?_
     first | exact ⟨rfl, rfl⟩ | (exfalso; omega)
    | false =>
     replace h5 := df h5
     iterate 5 refine Zy rfl ?_
     refine JLq (.bool false) (Pu.pickF rfl rfl) <| JLa (.bool false) <| Za ?_
     first | exact ⟨rfl, rfl⟩ | (exfalso; omega)
   | false =>
    replace h4 := df h4
    iterate 5 refine Zy rfl ?_
    refine JLq (.bool false) (Pu.pickF rfl rfl) <| JLm (.bool false) ?_
    iterate 5 refine Zy rfl ?_
    refine JLq (.bool false) (Pu.pickF rfl rfl) <| JLa (.bool false) <| Za ?_
    first | exact ⟨rfl, rfl⟩ | (exfalso; omega)
  | false =>
   replace h3 := df h3
   iterate 5 refine Zy rfl ?_
   refine JLq (.bool false) (Pu.pickF rfl rfl) <| JLm (.bool false) ?_
   iterate 5 refine Zy rfl ?_
   refine JLq (.bool false) (Pu.pickF rfl rfl) <| JLm (.bool false) ?_
   iterate 5 refine Zy rfl ?_
   refine JLq (.bool false) (Pu.pickF rfl rfl) <| JLa (.bool false) <| Za ?_
   first | exact ⟨rfl, rfl⟩ | (exfalso; omega)
 rintro ρ6 _ ⟨e7, rfl⟩
 obtain ⟨ρ8, rfl⟩ := Zc (uc e7 un)
 clear e7
 refine Zl <| ⟨.bool ((((decide (kind = q.kind)) && (decide (num = q.num))) && (decide (ref = q.ref))) && (decide (kids = (q.kids)))), [], Ret.one rfl (RV.tmp rfl), Sub.nil, ?_⟩
 exact ⟨congrArg Value.bool (eqPd ..), rfl⟩
theorem sameCase_ct : ∀ (c d : Pt × Tm) (a b : List Value) (H : Heap), RC H a c → RC H b d → (∀ h a b, Hle H h → RT h a c.2 → RT h b d.2 → CT Tryz.prog 21 ⟨[.agg ⟨a⟩, .agg ⟨b⟩]⟩ [] h (fun v N => v = .bool (decide (c.2 = d.2)) ∧ N = [])) → CT Tryz.prog 75 ⟨[.agg ⟨a⟩, .agg ⟨b⟩]⟩ [] H (fun v N => v = .bool (decide (c = d)) ∧ N = []) := by
 intro c d a b H ⟨ca, cb, e1, ra1, ra2⟩ ⟨da, db, e2, rb1, rb2⟩ hg
 subst e1 e2
 refine Zo Tryz.func75 rfl rfl <| Zd <| Zb <| JLr (Zt (l := ca ++ cb) rfl rfl fun b1 => JLr (Zt (l := da ++ db) rfl rfl fun b2 => JLa (.bool false) <| Za <| Yo (fun ρ M => ρ 4 = .bool ((decide ((c.1) = (d.1))) && (decide ((c.2) = (d.2)))) ∧ M = [[(b2, .cells ⟨da ++ db⟩ 80 (0, 0))], [(b1, .cells ⟨ca ++ cb⟩ 80 (0, 0))]]) ?_ ?_))
 ·refine Zb <| JLq (.pointer (some ⟨b1, 0, none⟩)) (fa80_0 rfl rfl) <| JLr (Zh Z5 rfl (At.bx 1 rfl) (sub_l (ZJ ra1)) <| JLq (.pointer (some ⟨b2, 0, none⟩)) (fa80_0 rfl rfl) <| JLr (Zh Z5 rfl (At.bx 0 rfl) (sub_l (ZJ rb1)) <| Zg rfl Tryz.call71 rfl (fun hin => samePattern_ct _ _ _ _ _ (RP.mono (Hle.hu _ _) ra1) (RP.mono (Hle.hu _ _) rb1)) rfl ?_))
  rintro _ _ ⟨rfl, rfl⟩
  refine JLm (.bool (decide ((c.1) = (d.1)))) ?_
  cases h3 : (decide ((c.1) = (d.1))) with
  | true =>
   replace h3 := dt h3
   refine JLq (.pointer (some ⟨b1, 35, none⟩)) (fa80_1 rfl rfl) <| JLr (Zh Zu rfl (At.bx 1 rfl) (sub_r (ZJ ra1) (ZD ra2)) <| JLq (.pointer (some ⟨b2, 35, none⟩)) (fa80_1 rfl rfl) <| JLr (Zh Zu rfl (At.bx 0 rfl) (sub_r (ZJ rb1) (ZD rb2)) <| Zg rfl Tryz.call21 rfl (fun hin => hg _ _ _ (Hle.hu _ _) (RT.mono (Hle.hu _ _) ra2) (RT.mono (Hle.hu _ _) rb2)) rfl ?_))
   rintro _ _ ⟨rfl, rfl⟩
   refine JLq (.bool (decide ((c.2) = (d.2)))) (Pu.pickT rfl rfl) <| JLa (.bool (decide ((c.2) = (d.2)))) <| Za ?_
   first | exact ⟨rfl, rfl⟩ | (exfalso; omega)
  | false =>
   replace h3 := df h3
   iterate 5 refine Zy rfl ?_
   refine JLq (.bool false) (Pu.pickF rfl rfl) <| JLa (.bool false) <| Za ?_
   first | exact ⟨rfl, rfl⟩ | (exfalso; omega)
 rintro ρ4 _ ⟨e5, rfl⟩
 obtain ⟨ρ6, rfl⟩ := Zc (uc e5 un)
 clear e5
 refine Zl <| ⟨.bool ((decide ((c.1) = (d.1))) && (decide ((c.2) = (d.2)))), [], Ret.one rfl (RV.tmp rfl), Sub.nil, ?_⟩
 exact ⟨by obtain ⟨c1, c2⟩ := c; obtain ⟨d1, d2⟩ := d; refine congrArg Value.bool ?_; rw [Bool.eq_iff_iff]; simp, rfl⟩
theorem sameTerms_ct : ∀ (l m : List Tm) (v u : Value) (H : Heap) (_ : rdS RT 36 H v l) (_ : rdS RT 36 H u m) (_ : ∀ x ∈ l, ∀ y a b h, Hle H h → RT h a x → RT h b y → CT Tryz.prog 21 ⟨[.agg ⟨a⟩, .agg ⟨b⟩]⟩ [] h (fun v N => v = .bool (decide (x = y)) ∧ N = [])), CT Tryz.prog 73 ⟨[v, u]⟩ [] H (fun v N => v = .bool (decide (l = m)) ∧ N = []) := by
 intro l m v u H hl hm hg
 refine Zo Tryz.func73 rfl rfl <| Zd <| Zb <| JLa (.bool false) <| Za <| Zd <| Zb <| JLm v <| JLm u <| Zg rfl Tryz.call123 rfl (fun hin => eqFuncT_ct 21 [] [] (fun _ _ => rfl) _ _ _ _ _ (RTs.mono (Hle.hu _ _) hl) (RTs.mono (Hle.hu _ _) hm) (fun x hx y hy a b h hh ra rb => hg x hx y a b h (Hle.trans (Hle.hu _ _) hh) ra rb)) rfl ?_
 rintro _ _ ⟨rfl, rfl⟩
 refine JLa (.bool (decide (l = m))) <| Za <| Zl <| ⟨.bool (decide (l = m)), [], Ret.one rfl (RV.tmp rfl), Sub.nil, ?_⟩
 exact ⟨rfl, rfl⟩
theorem Y8 : ∀ (t u : Tm) (cs ds : List Value) (H : Heap), RT H cs t → RT H ds u → CT Tryz.prog 21 ⟨[.agg ⟨cs⟩, .agg ⟨ds⟩]⟩ [] H (fun v N => v = .bool (decide (t = u)) ∧ N = []) := by
 intro t
 induction t using Tm.ind with
 | h kind num ref kids cases ih ih' =>
 intro u cs ds H ht hu
 obtain ⟨ks, cv, rfl, hk, hn, hks, hcv⟩ := RT_mk.1 ht
 obtain ⟨ksu, cvu, rfl, hku, hnu, hksu, hcvu⟩ := RT_open hu
 refine Zo Tryz.func21 rfl rfl <| Zd <| Zb <| JLr (Zt (l := pkT kind num ref ks cv) rfl rfl fun b1 => JLr (Zt (l := pkT (u.kind) (u.num) (u.ref) ksu cvu) rfl rfl fun b2 => JLa (.bool false) <| Za <| Yo (fun ρ M => ρ 4 = .bool (((((decide (kind = u.kind)) && (decide (num = u.num))) && (decide (ref = u.ref))) && (decide (kids = (u.kids)))) && (decide (cases = (u.cases)))) ∧ M = [[(b2, .cells ⟨pkT (u.kind) (u.num) (u.ref) ksu cvu⟩ 27 (0, 0))], [(b1, .cells ⟨pkT kind num ref ks cv⟩ 27 (0, 0))]]) ?_ ?_))
 ·refine Zb <| JLq (.pointer (some ⟨b1, 0, none⟩)) (ZY rfl rfl) <| JLr (Zf ty3 rfl (At.bx 1 rfl) (Yg ..) <| JLq (.pointer (some ⟨b2, 0, none⟩)) (ZY rfl rfl) <| JLr (Zf ty3 rfl (At.bx 0 rfl) (Yg ..) <| JLq (.bool (decide (kind = u.kind))) (Pu.eql rfl rfl) <| JLm (.bool (decide (kind = u.kind))) ?_))
  cases h3 : (decide (kind = u.kind)) with
  | true =>
   replace h3 := dt h3
   refine JLq (.pointer (some ⟨b1, 1, none⟩)) (Z4 rfl rfl) <| JLr (Zf ty3 rfl (At.bx 1 rfl) (Yn ..) <| JLq (.pointer (some ⟨b2, 1, none⟩)) (Z4 rfl rfl) <| JLr (Zf ty3 rfl (At.bx 0 rfl) (Yn ..) <| JLq (.bool (decide (num = u.num))) (Pu.eql rfl rfl) <| JLq (.bool (decide (num = u.num))) (Pu.pickT rfl rfl) <| JLm (.bool (decide (num = u.num))) ?_))
   cases h4 : (decide (num = u.num)) with
   | true =>
    replace h4 := dt h4
    refine JLq (.pointer (some ⟨b1, 2, none⟩)) (fa27_2 rfl rfl) <| JLr (Zh Xb rfl (At.bx 1 rfl) (pkT_2 ..) <| JLq (.pointer (some ⟨b2, 2, none⟩)) (fa27_2 rfl rfl) <| JLr (Zh Xb rfl (At.bx 0 rfl) (pkT_2 ..) <| JLq (.bool (decide (ref = u.ref))) (eqS rfl rfl) <| JLq (.bool (decide (ref = u.ref))) (Pu.pickT rfl rfl) <| JLm (.bool (decide (ref = u.ref))) ?_))
    cases h5 : (decide (ref = u.ref)) with
    | true =>
     replace h5 := dt h5
     refine JLq (.pointer (some ⟨b1, 34, none⟩)) (Yq rfl rfl) <| JLr (Zf ty24 rfl (At.bx 1 rfl) (Yu ..) <| JLq (.pointer (some ⟨b2, 34, none⟩)) (Yq rfl rfl) <| JLr (Zf ty24 rfl (At.bx 0 rfl) (Yu ..) <| Zg rfl Tryz.call73 rfl (fun hin => sameTerms_ct _ _ _ _ _ (RTs.mono (Hle.hu _ _) hks) (RTs.mono (Hle.hu _ _) hksu) (fun x hx y a b h _ ra rb => ih x hx y a b h ra rb)) rfl ?_))
     rintro _ _ ⟨rfl, rfl⟩
     refine JLq (.bool (decide (kids = (u.kids)))) (Pu.pickT rfl rfl) <| JLm (.bool (decide (kids = (u.kids)))) ?_
     cases h6 : (decide (kids = (u.kids))) with
     | true =>
      replace h6 := dt h6
      refine JLq (.pointer (some ⟨b1, 35, none⟩)) (YP rfl rfl) <| JLr (Zf ty25 rfl (At.bx 1 rfl) (YI ..) <| JLq (.pointer (some ⟨b2, 35, none⟩)) (YP rfl rfl) <| JLr (Zf ty25 rfl (At.bx 0 rfl) (YI ..) <| Zg rfl Tryz.call74 rfl (fun hin => eqFuncC_ct 75 [] [] (fun _ _ => rfl) _ _ _ _ _ (RCs.mono (Hle.hu _ _) hcv) (RCs.mono (Hle.hu _ _) hcvu) (fun x hx y hy a b h hh ra rb => sameCase_ct x y a b h ra rb (fun h' a' b' _ r1 r2 => ih' x hx y.2 a' b' h' r1 r2))) rfl ?_))
      rintro _ _ ⟨rfl, rfl⟩
      refine JLq (.bool (decide (cases = (u.cases)))) (Pu.pickT rfl rfl) <| JLa (.bool (decide (cases = (u.cases)))) <| Za ?_
      first | exact ⟨rfl, rfl⟩ | (exfalso; omega)
     | false =>
      replace h6 := df h6
      iterate 5 refine Zy rfl ?_
      refine JLq (.bool false) (Pu.pickF rfl rfl) <| JLa (.bool false) <| Za ?_
      first | exact ⟨rfl, rfl⟩ | (exfalso; omega)
    | false =>
     replace h5 := df h5
     iterate 5 refine Zy rfl ?_
     refine JLq (.bool false) (Pu.pickF rfl rfl) <| JLm (.bool false) ?_
     iterate 5 refine Zy rfl ?_
     refine JLq (.bool false) (Pu.pickF rfl rfl) <| JLa (.bool false) <| Za ?_
     first | exact ⟨rfl, rfl⟩ | (exfalso; omega)
   | false =>
    replace h4 := df h4
    iterate 5 refine Zy rfl ?_
    refine JLq (.bool false) (Pu.pickF rfl rfl) <| JLm (.bool false) ?_
    iterate 5 refine Zy rfl ?_
    refine JLq (.bool false) (Pu.pickF rfl rfl) <| JLm (.bool false) ?_
    iterate 5 refine Zy rfl ?_
    refine JLq (.bool false) (Pu.pickF rfl rfl) <| JLa (.bool false) <| Za ?_
    first | exact ⟨rfl, rfl⟩ | (exfalso; omega)
  | false =>
   replace h3 := df h3
   iterate 5 refine Zy rfl ?_
   refine JLq (.bool false) (Pu.pickF rfl rfl) <| JLm (.bool false) ?_
   iterate 5 refine Zy rfl ?_
   refine JLq (.bool false) (Pu.pickF rfl rfl) <| JLm (.bool false) ?_
   iterate 5 refine Zy rfl ?_
   refine JLq (.bool false) (Pu.pickF rfl rfl) <| JLm (.bool false) ?_
   iterate 5 refine Zy rfl ?_
   refine JLq (.bool false) (Pu.pickF rfl rfl) <| JLa (.bool false) <| Za ?_
   first | exact ⟨rfl, rfl⟩ | (exfalso; omega)
 rintro ρ7 _ ⟨e8, rfl⟩
 obtain ⟨ρ9, rfl⟩ := Zc (uc e8 un)
 clear e8
 refine Zl <| ⟨.bool (((((decide (kind = u.kind)) && (decide (num = u.num))) && (decide (ref = u.ref))) && (decide (kids = (u.kids)))) && (decide (cases = (u.cases)))), [], Ret.one rfl (RV.tmp rfl), Sub.nil, ?_⟩
 exact ⟨congrArg Value.bool (eqTd ..), rfl⟩
end Go.Proofs.YtmophpgiaiemhaaGreat.Hs
/-! Walks, printed by a program of this session's own (gen.py). -/
namespace Go.Proofs.YtmophpgiaiemhaaGreat.Hs
open Go Go.Proofs
set_option maxRecDepth 100000
set_option linter.unusedVariables false
set_option linter.unusedSimpArgs false
attribute [local irreducible] JL J CT wlo
theorem idxP_ct (g : Nat) (fs cv : List Value) (hcall : ∀ args w, (callFunc g args).run Tryz.prog w = .ok (.enter g args) w) {σ : Type} (Sc : σ → Zk) (Inv : σ → Prop) (step : Pt → σ → Bool × σ) (l : List Pt) (v : Value) (H : Heap) (hl : rdS RP 35 H v l) (s0 : σ) (h0 : Inv s0) (hI : ∀ x ∈ l, ∀ s, Inv s → (step x s).1 = false → Inv (step x s).2) (hg : ∀ x ∈ l, ∀ s, Inv s → ∀ a h, Hle H h → RP h a x → CT Tryz.prog g ⟨fs ++ [.agg ⟨a⟩] ++ cv⟩ [Sc s] h (fun v N => v = .bool (step x s).1 ∧ N = [Sc (step x s).2])) : CT Tryz.prog 89 ⟨[v, .func (.func g) ⟨fs⟩ ⟨cv⟩]⟩ [Sc s0] H (fun v N => v = .int .i64 (idxS step l 0 s0).1 ∧ N = [Sc (idxS step l 0 s0).2]) := by
 refine Zo Tryz.func89 rfl rfl <| Zd <| Zb <| JLa (.int .i64 0) <| Za <| Zd <| Zd <| Zb <| JLm v ?_
 obtain ⟨a1, cap1, hv1⟩ := hl.sl
 have hle1 := hl.le
 refine JLq (.int .i64 ((l.length : Int))) (Pu.lenSl Tryz.runUnderlying73 hv1) <| JLm (.int .i64 0) <| Za <| Zs <| ZU (fun k ρ M => ∃ (j : Nat) (s : σ), ρ 0 = v ∧ ρ 1 = .func (.func g) ⟨fs⟩ ⟨cv⟩ ∧ ρ 4 = .int .i64 0 ∧ ρ 7 = .int .i64 ((l.length : Int)) ∧ ρ 8 = .int .i64 ((j : Int)) ∧ Sub [Sc s] M ∧ j ≤ l.length ∧ Inv s ∧ idxS step (l.drop j) j s = idxS step l 0 s0 ∧ k = l.length - j) _ ⟨0, s0, rfl, rfl, rfl, rfl, rfl, (Sk Sub.nil), Nat.zero_le _, h0, rfl, rfl⟩ ?_
 rintro _ ρ2 _ ⟨j, s, e3, e4, e5, e6, e7, hm8, hj, hs, hinv, rfl⟩
 obtain ⟨ρ9, rfl⟩ := Zc (uc e3 (uc e4 (uc e5 (uc e6 (uc e7 un)))))
 clear e3 e4 e5 e6 e7
 refine Z1 hm8 <| Zd <| Zb <| JLq (.bool (decide ((j : Int) < (l.length : Int)))) (Pu.lss rfl rfl) <| Za <| Zd <| Zi (b := decide ((j : Int) < (l.length : Int))) rfl (fun h10 => ?_) (fun h10 => ?_)
 ·replace h10 := dt h10
  have h10n : j < l.length := by omega
  have hlenl := hl.le
  refine Zp <| Zd <| Zs <| Zd <| Zb <| JLm (.int .i64 ((j : Int))) <| JLa (.int .i64 ((j : Int))) <| Za <| Zd <| Zb <| JLm (.func (.func g) ⟨fs⟩ ⟨cv⟩) <| JLm v <| JLm (.int .i64 ((j : Int))) ?_
  obtain ⟨b11, o11, cap11, row11, T11, fr11, cs11, hv11, hb11, hs11, hE11⟩ := hl.get j (by first | assumption | omega | decide | simp)
  refine JLq (.pointer (some ⟨b11, o11 + j * 35, none⟩)) (Pu.idx j Tryz.runUnderlying73 Z5 hv11 rfl rfl (by first | assumption | omega | decide | simp)) <| JLr (Zh Z5 rfl (At.im hb11) hs11 <| Zw 0 rfl hcall rfl rfl (fun hin => hg _ (List.getElem_mem h10n) _ hs _ _ (Hle.hu _ _) (RP.mono (Hle.hu _ _) hE11)) rfl ?_)
  rintro _ _ ⟨rfl, rfl⟩
  refine Za <| Zi (b := (step (l[j]) s).1) rfl (fun h12 => ?_) (fun h12 => ?_)
  ·refine Zd <| Zb <| JLm (.int .i64 ((j : Int))) <| JLa (.int .i64 ((j : Int))) <| Za <| Zl <| ⟨.int .i64 ((j : Int)), [Sc (step (l[j]) s).2], Ret.one rfl (RV.tmp rfl), (Sk Sub.nil), ?_⟩
   refine ⟨?_, ?_⟩ <;> rw [← hinv, Yt h10n, idxS, if_pos h12]
  refine Zp <| Zb <| JLq (.int .i64 (((j + 1 : Nat) : Int))) (Pu.inc rfl rfl (by omega)) <| JLm (.int .i64 (((j + 1 : Nat) : Int))) <| Za <| ⟨_, ?_, (j + 1), ((step (l[j]) s).2), rfl, rfl, rfl, rfl, rfl, (Sk Sub.nil), ?_, ?_, ?_, rfl⟩
  ·omega
  ·omega
  ·exact hI _ (List.getElem_mem h10n) s hs h12
  rw [Yt h10n, idxS, if_neg (by simp [h12])] at hinv; exact hinv
 replace h10 := df h10
 have h10n : l.length ≤ j := by omega
 refine ZM _ rfl <| Zd <| Zb <| JLa (.int .i64 (-1)) <| Za <| Zl <| ⟨.int .i64 (-1), [Sc s], Ret.one rfl (RV.tmp rfl), (Sk Sub.nil), ?_⟩
 refine ⟨?_, ?_⟩ <;> rw [← hinv, Xl h10n] <;> rfl
theorem idxT_ct (g : Nat) (fs cv : List Value) (hcall : ∀ args w, (callFunc g args).run Tryz.prog w = .ok (.enter g args) w) {σ : Type} (Sc : σ → Zk) (Inv : σ → Prop) (step : Tm → σ → Bool × σ) (l : List Tm) (v : Value) (H : Heap) (hl : rdS RT 36 H v l) (s0 : σ) (h0 : Inv s0) (hI : ∀ x ∈ l, ∀ s, Inv s → (step x s).1 = false → Inv (step x s).2) (hg : ∀ x ∈ l, ∀ s, Inv s → ∀ a h, Hle H h → RT h a x → CT Tryz.prog g ⟨fs ++ [.agg ⟨a⟩] ++ cv⟩ [Sc s] h (fun v N => v = .bool (step x s).1 ∧ N = [Sc (step x s).2])) : CT Tryz.prog 90 ⟨[v, .func (.func g) ⟨fs⟩ ⟨cv⟩]⟩ [Sc s0] H (fun v N => v = .int .i64 (idxS step l 0 s0).1 ∧ N = [Sc (idxS step l 0 s0).2]) := by
 refine Zo Tryz.func90 rfl rfl <| Zd <| Zb <| JLa (.int .i64 0) <| Za <| Zd <| Zd <| Zb <| JLm v ?_
 obtain ⟨a1, cap1, hv1⟩ := hl.sl
 have hle1 := hl.le
 refine JLq (.int .i64 ((l.length : Int))) (Pu.lenSl Tryz.runUnderlying24 hv1) <| JLm (.int .i64 0) <| Za <| Zs <| ZU (fun k ρ M => ∃ (j : Nat) (s : σ), ρ 0 = v ∧ ρ 1 = .func (.func g) ⟨fs⟩ ⟨cv⟩ ∧ ρ 4 = .int .i64 0 ∧ ρ 7 = .int .i64 ((l.length : Int)) ∧ ρ 8 = .int .i64 ((j : Int)) ∧ Sub [Sc s] M ∧ j ≤ l.length ∧ Inv s ∧ idxS step (l.drop j) j s = idxS step l 0 s0 ∧ k = l.length - j) _ ⟨0, s0, rfl, rfl, rfl, rfl, rfl, (Sk Sub.nil), Nat.zero_le _, h0, rfl, rfl⟩ ?_
 rintro _ ρ2 _ ⟨j, s, e3, e4, e5, e6, e7, hm8, hj, hs, hinv, rfl⟩
 obtain ⟨ρ9, rfl⟩ := Zc (uc e3 (uc e4 (uc e5 (uc e6 (uc e7 un)))))
 clear e3 e4 e5 e6 e7
 refine Z1 hm8 <| Zd <| Zb <| JLq (.bool (decide ((j : Int) < (l.length : Int)))) (Pu.lss rfl rfl) <| Za <| Zd <| Zi (b := decide ((j : Int) < (l.length : Int))) rfl (fun h10 => ?_) (fun h10 => ?_)
 ·replace h10 := dt h10
  have h10n : j < l.length := by omega
  have hlenl := hl.le
  refine Zp <| Zd <| Zs <| Zd <| Zb <| JLm (.int .i64 ((j : Int))) <| JLa (.int .i64 ((j : Int))) <| Za <| Zd <| Zb <| JLm (.func (.func g) ⟨fs⟩ ⟨cv⟩) <| JLm v <| JLm (.int .i64 ((j : Int))) ?_
  obtain ⟨b11, o11, cap11, row11, T11, fr11, cs11, hv11, hb11, hs11, hE11⟩ := hl.get j (by first | assumption | omega | decide | simp)
  refine JLq (.pointer (some ⟨b11, o11 + j * 36, none⟩)) (Pu.idx j Tryz.runUnderlying24 Zu hv11 rfl rfl (by first | assumption | omega | decide | simp)) <| JLr (Zh Zu rfl (At.im hb11) hs11 <| Zw 0 rfl hcall rfl rfl (fun hin => hg _ (List.getElem_mem h10n) _ hs _ _ (Hle.hu _ _) (RT.mono (Hle.hu _ _) hE11)) rfl ?_)
  rintro _ _ ⟨rfl, rfl⟩
  refine Za <| Zi (b := (step (l[j]) s).1) rfl (fun h12 => ?_) (fun h12 => ?_)
  ·refine Zd <| Zb <| JLm (.int .i64 ((j : Int))) <| JLa (.int .i64 ((j : Int))) <| Za <| Zl <| ⟨.int .i64 ((j : Int)), [Sc (step (l[j]) s).2], Ret.one rfl (RV.tmp rfl), (Sk Sub.nil), ?_⟩
   refine ⟨?_, ?_⟩ <;> rw [← hinv, Yt h10n, idxS, if_pos h12]
  refine Zp <| Zb <| JLq (.int .i64 (((j + 1 : Nat) : Int))) (Pu.inc rfl rfl (by omega)) <| JLm (.int .i64 (((j + 1 : Nat) : Int))) <| Za <| ⟨_, ?_, (j + 1), ((step (l[j]) s).2), rfl, rfl, rfl, rfl, rfl, (Sk Sub.nil), ?_, ?_, ?_, rfl⟩
  ·omega
  ·omega
  ·exact hI _ (List.getElem_mem h10n) s hs h12
  rw [Yt h10n, idxS, if_neg (by simp [h12])] at hinv; exact hinv
 replace h10 := df h10
 have h10n : l.length ≤ j := by omega
 refine ZM _ rfl <| Zd <| Zb <| JLa (.int .i64 (-1)) <| Za <| Zl <| ⟨.int .i64 (-1), [Sc s], Ret.one rfl (RV.tmp rfl), (Sk Sub.nil), ?_⟩
 refine ⟨?_, ?_⟩ <;> rw [← hinv, Xl h10n] <;> rfl
theorem idxC_ct (g : Nat) (fs cv : List Value) (hcall : ∀ args w, (callFunc g args).run Tryz.prog w = .ok (.enter g args) w) {σ : Type} (Sc : σ → Zk) (Inv : σ → Prop) (step : (Pt × Tm) → σ → Bool × σ) (l : List (Pt × Tm)) (v : Value) (H : Heap) (hl : rdS RC 71 H v l) (s0 : σ) (h0 : Inv s0) (hI : ∀ x ∈ l, ∀ s, Inv s → (step x s).1 = false → Inv (step x s).2) (hg : ∀ x ∈ l, ∀ s, Inv s → ∀ a h, Hle H h → RC h a x → CT Tryz.prog g ⟨fs ++ [.agg ⟨a⟩] ++ cv⟩ [Sc s] h (fun v N => v = .bool (step x s).1 ∧ N = [Sc (step x s).2])) : CT Tryz.prog 91 ⟨[v, .func (.func g) ⟨fs⟩ ⟨cv⟩]⟩ [Sc s0] H (fun v N => v = .int .i64 (idxS step l 0 s0).1 ∧ N = [Sc (idxS step l 0 s0).2]) := by
 refine Zo Tryz.func91 rfl rfl <| Zd <| Zb <| JLa (.int .i64 0) <| Za <| Zd <| Zd <| Zb <| JLm v ?_
 obtain ⟨a1, cap1, hv1⟩ := hl.sl
 have hle1 := hl.le
 refine JLq (.int .i64 ((l.length : Int))) (Pu.lenSl Tryz.runUnderlying25 hv1) <| JLm (.int .i64 0) <| Za <| Zs <| ZU (fun k ρ M => ∃ (j : Nat) (s : σ), ρ 0 = v ∧ ρ 1 = .func (.func g) ⟨fs⟩ ⟨cv⟩ ∧ ρ 4 = .int .i64 0 ∧ ρ 7 = .int .i64 ((l.length : Int)) ∧ ρ 8 = .int .i64 ((j : Int)) ∧ Sub [Sc s] M ∧ j ≤ l.length ∧ Inv s ∧ idxS step (l.drop j) j s = idxS step l 0 s0 ∧ k = l.length - j) _ ⟨0, s0, rfl, rfl, rfl, rfl, rfl, (Sk Sub.nil), Nat.zero_le _, h0, rfl, rfl⟩ ?_
 rintro _ ρ2 _ ⟨j, s, e3, e4, e5, e6, e7, hm8, hj, hs, hinv, rfl⟩
 obtain ⟨ρ9, rfl⟩ := Zc (uc e3 (uc e4 (uc e5 (uc e6 (uc e7 un)))))
 clear e3 e4 e5 e6 e7
 refine Z1 hm8 <| Zd <| Zb <| JLq (.bool (decide ((j : Int) < (l.length : Int)))) (Pu.lss rfl rfl) <| Za <| Zd <| Zi (b := decide ((j : Int) < (l.length : Int))) rfl (fun h10 => ?_) (fun h10 => ?_)
 ·replace h10 := dt h10
  have h10n : j < l.length := by omega
  have hlenl := hl.le
  refine Zp <| Zd <| Zs <| Zd <| Zb <| JLm (.int .i64 ((j : Int))) <| JLa (.int .i64 ((j : Int))) <| Za <| Zd <| Zb <| JLm (.func (.func g) ⟨fs⟩ ⟨cv⟩) <| JLm v <| JLm (.int .i64 ((j : Int))) ?_
  obtain ⟨b11, o11, cap11, row11, T11, fr11, cs11, hv11, hb11, hs11, hE11⟩ := hl.get j (by first | assumption | omega | decide | simp)
  obtain ⟨ca11, cb11, rfl, hA11, hB11⟩ := hE11
  refine JLq (.pointer (some ⟨b11, o11 + j * 71, none⟩)) (Pu.idx j Tryz.runUnderlying25 ty80 hv11 rfl rfl (by first | assumption | omega | decide | simp)) <| JLr (Zh ty80 rfl (At.im hb11) hs11 <| Zw 0 rfl hcall rfl rfl (fun hin => hg _ (List.getElem_mem h10n) _ hs _ _ (Hle.hu _ _) (RC.mono (Hle.hu _ _) (RC_mk hA11 hB11))) rfl ?_)
  rintro _ _ ⟨rfl, rfl⟩
  refine Za <| Zi (b := (step (l[j]) s).1) rfl (fun h12 => ?_) (fun h12 => ?_)
  ·refine Zd <| Zb <| JLm (.int .i64 ((j : Int))) <| JLa (.int .i64 ((j : Int))) <| Za <| Zl <| ⟨.int .i64 ((j : Int)), [Sc (step (l[j]) s).2], Ret.one rfl (RV.tmp rfl), (Sk Sub.nil), ?_⟩
   refine ⟨?_, ?_⟩ <;> rw [← hinv, Yt h10n, idxS, if_pos h12]
  refine Zp <| Zb <| JLq (.int .i64 (((j + 1 : Nat) : Int))) (Pu.inc rfl rfl (by omega)) <| JLm (.int .i64 (((j + 1 : Nat) : Int))) <| Za <| ⟨_, ?_, (j + 1), ((step (l[j]) s).2), rfl, rfl, rfl, rfl, rfl, (Sk Sub.nil), ?_, ?_, ?_, rfl⟩
  ·omega
  ·omega
  ·exact hI _ (List.getElem_mem h10n) s hs h12
  rw [Yt h10n, idxS, if_neg (by simp [h12])] at hinv; exact hinv
 replace h10 := df h10
 have h10n : l.length ≤ j := by omega
 refine ZM _ rfl <| Zd <| Zb <| JLa (.int .i64 (-1)) <| Za <| Zl <| ⟨.int .i64 (-1), [Sc s], Ret.one rfl (RV.tmp rfl), (Sk Sub.nil), ?_⟩
 refine ⟨?_, ?_⟩ <;> rw [← hinv, Xl h10n] <;> rfl
theorem containsP_ct (g : Nat) (fs cv : List Value) (hcall : ∀ args w, (callFunc g args).run Tryz.prog w = .ok (.enter g args) w) {σ : Type} (Sc : σ → Zk) (Inv : σ → Prop) (step : Pt → σ → Bool × σ) (l : List Pt) (v : Value) (H : Heap) (hl : rdS RP 35 H v l) (s0 : σ) (h0 : Inv s0) (hI : ∀ x ∈ l, ∀ s, Inv s → (step x s).1 = false → Inv (step x s).2) (hg : ∀ x ∈ l, ∀ s, Inv s → ∀ a h, Hle H h → RP h a x → CT Tryz.prog g ⟨fs ++ [.agg ⟨a⟩] ++ cv⟩ [Sc s] h (fun v N => v = .bool (step x s).1 ∧ N = [Sc (step x s).2])) : CT Tryz.prog 31 ⟨[v, .func (.func g) ⟨fs⟩ ⟨cv⟩]⟩ [Sc s0] H (fun v N => v = .bool (ZS step l s0).1 ∧ N = [Sc (ZS step l s0).2]) := by
 refine Zo Tryz.func31 rfl rfl <| Zd <| Zb <| JLa (.bool false) <| Za <| Zd <| Zb <| JLm v <| JLm (.func (.func g) ⟨fs⟩ ⟨cv⟩) <| Zw 0 rfl Tryz.call89 rfl rfl (fun hin => idxP_ct g fs cv hcall Sc Inv step _ _ _ (RPs.mono (Hle.hu _ _) hl) s0 h0 hI (fun x hx s hs a h hh ra => hg x hx s hs a h (Hle.trans (Hle.hu _ _) hh) ra)) rfl ?_
 rintro _ _ ⟨rfl, rfl⟩
 refine JLq (.bool (decide (0 ≤ (idxS step l 0 s0).1))) (Pu.geq rfl rfl) <| JLa (.bool (decide (0 ≤ (idxS step l 0 s0).1))) <| Za <| Zl <| ⟨.bool (decide (0 ≤ (idxS step l 0 s0).1)), [Sc (idxS step l 0 s0).2], Ret.one rfl (RV.tmp rfl), (Sk Sub.nil), ?_⟩
 exact ⟨by rw [(Y5 step l 0 s0).1], by rw [(Y5 step l 0 s0).2]⟩
theorem containsT_ct (g : Nat) (fs cv : List Value) (hcall : ∀ args w, (callFunc g args).run Tryz.prog w = .ok (.enter g args) w) {σ : Type} (Sc : σ → Zk) (Inv : σ → Prop) (step : Tm → σ → Bool × σ) (l : List Tm) (v : Value) (H : Heap) (hl : rdS RT 36 H v l) (s0 : σ) (h0 : Inv s0) (hI : ∀ x ∈ l, ∀ s, Inv s → (step x s).1 = false → Inv (step x s).2) (hg : ∀ x ∈ l, ∀ s, Inv s → ∀ a h, Hle H h → RT h a x → CT Tryz.prog g ⟨fs ++ [.agg ⟨a⟩] ++ cv⟩ [Sc s] h (fun v N => v = .bool (step x s).1 ∧ N = [Sc (step x s).2])) : CT Tryz.prog 33 ⟨[v, .func (.func g) ⟨fs⟩ ⟨cv⟩]⟩ [Sc s0] H (fun v N => v = .bool (ZS step l s0).1 ∧ N = [Sc (ZS step l s0).2]) := by
 refine Zo Tryz.func33 rfl rfl <| Zd <| Zb <| JLa (.bool false) <| Za <| Zd <| Zb <| JLm v <| JLm (.func (.func g) ⟨fs⟩ ⟨cv⟩) <| Zw 0 rfl Tryz.call90 rfl rfl (fun hin => idxT_ct g fs cv hcall Sc Inv step _ _ _ (RTs.mono (Hle.hu _ _) hl) s0 h0 hI (fun x hx s hs a h hh ra => hg x hx s hs a h (Hle.trans (Hle.hu _ _) hh) ra)) rfl ?_
 rintro _ _ ⟨rfl, rfl⟩
 refine JLq (.bool (decide (0 ≤ (idxS step l 0 s0).1))) (Pu.geq rfl rfl) <| JLa (.bool (decide (0 ≤ (idxS step l 0 s0).1))) <| Za <| Zl <| ⟨.bool (decide (0 ≤ (idxS step l 0 s0).1)), [Sc (idxS step l 0 s0).2], Ret.one rfl (RV.tmp rfl), (Sk Sub.nil), ?_⟩
 exact ⟨by rw [(Y5 step l 0 s0).1], by rw [(Y5 step l 0 s0).2]⟩
theorem containsC_ct (g : Nat) (fs cv : List Value) (hcall : ∀ args w, (callFunc g args).run Tryz.prog w = .ok (.enter g args) w) {σ : Type} (Sc : σ → Zk) (Inv : σ → Prop) (step : (Pt × Tm) → σ → Bool × σ) (l : List (Pt × Tm)) (v : Value) (H : Heap) (hl : rdS RC 71 H v l) (s0 : σ) (h0 : Inv s0) (hI : ∀ x ∈ l, ∀ s, Inv s → (step x s).1 = false → Inv (step x s).2) (hg : ∀ x ∈ l, ∀ s, Inv s → ∀ a h, Hle H h → RC h a x → CT Tryz.prog g ⟨fs ++ [.agg ⟨a⟩] ++ cv⟩ [Sc s] h (fun v N => v = .bool (step x s).1 ∧ N = [Sc (step x s).2])) : CT Tryz.prog 34 ⟨[v, .func (.func g) ⟨fs⟩ ⟨cv⟩]⟩ [Sc s0] H (fun v N => v = .bool (ZS step l s0).1 ∧ N = [Sc (ZS step l s0).2]) := by
 refine Zo Tryz.func34 rfl rfl <| Zd <| Zb <| JLa (.bool false) <| Za <| Zd <| Zb <| JLm v <| JLm (.func (.func g) ⟨fs⟩ ⟨cv⟩) <| Zw 0 rfl Tryz.call91 rfl rfl (fun hin => idxC_ct g fs cv hcall Sc Inv step _ _ _ (RCs.mono (Hle.hu _ _) hl) s0 h0 hI (fun x hx s hs a h hh ra => hg x hx s hs a h (Hle.trans (Hle.hu _ _) hh) ra)) rfl ?_
 rintro _ _ ⟨rfl, rfl⟩
 refine JLq (.bool (decide (0 ≤ (idxS step l 0 s0).1))) (Pu.geq rfl rfl) <| JLa (.bool (decide (0 ≤ (idxS step l 0 s0).1))) <| Za <| Zl <| ⟨.bool (decide (0 ≤ (idxS step l 0 s0).1)), [Sc (idxS step l 0 s0).2], Ret.one rfl (RV.tmp rfl), (Sk Sub.nil), ?_⟩
 exact ⟨by rw [(Y5 step l 0 s0).1], by rw [(Y5 step l 0 s0).2]⟩
end Go.Proofs.YtmophpgiaiemhaaGreat.Hs
/-! Walks, printed by a program of this session's own (gen.py). -/
namespace Go.Proofs.YtmophpgiaiemhaaGreat.Hs
open Go Go.Proofs
set_option maxRecDepth 100000
set_option linter.unusedVariables false
set_option linter.unusedSimpArgs false
attribute [local irreducible] JL J CT wlo
end Go.Proofs.YtmophpgiaiemhaaGreat.Hs
/-! Walks, printed by a program of this session's own (gen.py). -/
namespace Go.Proofs.YtmophpgiaiemhaaGreat.Hs
open Go Go.Proofs
set_option maxRecDepth 100000
set_option linter.unusedVariables false
set_option linter.unusedSimpArgs false
attribute [local irreducible] JL J CT wlo
theorem longPK_ct : ∀ (x : Pt) (d s : Int) (a : List Value) (H : Heap) (bL bA bD : Nat), RP H a x → H bA = some (.cells ⟨[.pointer (some ⟨bL, 0, none⟩)]⟩ 112 (0, 0)) → H bD = some (.cells ⟨[.int .i64 d]⟩ 3 (0, 0)) → 0 ≤ d → d ≤ 100 → (∀ h a, Hle H h → RP h a x → CT Tryz.prog 116 ⟨[.pointer (some ⟨bL, 0, none⟩), .agg ⟨a⟩, .int .i64 (d + 1)]⟩ [[(bL, .cells ⟨[.int .i64 s]⟩ 114 (0, 0))]] h (fun v N => v = .bool (cnP stL (d + 1) x s).1 ∧ N = [[(bL, .cells ⟨[.int .i64 ((cnP stL (d + 1) x s).2)]⟩ 114 (0, 0))]])) → CT Tryz.prog 143 ⟨[.agg ⟨a⟩, .pointer (some ⟨bA, 0, none⟩), .pointer (some ⟨bD, 0, none⟩)]⟩ [[(bL, .cells ⟨[.int .i64 s]⟩ 114 (0, 0))]] H (fun v N => v = .bool (cnP stL (d + 1) x s).1 ∧ N = [[(bL, .cells ⟨[.int .i64 ((cnP stL (d + 1) x s).2)]⟩ 114 (0, 0))]]) := by
 intro x d s a H bL bA bD ra hH1 hH5 hd0 hd1 hg
 refine Zo Tryz.func143 rfl rfl <| Zd <| Zb <| JLr (Zt (l := a) rfl rfl fun b1 => JLa (.bool false) <| Za <| Zd <| Zb <| JLr (Zf ty112 rfl (At.im hH1) rfl <| JLr (Zh Z5 rfl (At.bx 0 rfl) (Zx (ZJ ra)) <| JLr (Zf ty3 rfl (At.im hH5) rfl <| JLq (.int .i64 (d + 1)) (Pu.add64 rfl rfl (by first | omega | (constructor <;> omega))) <| Zw 1 rfl Tryz.call116 rfl rfl (fun hin => hg _ _ (Hle.hu _ _) (RP.mono (Hle.hu _ _) ra)) rfl ?_))))
 rintro _ _ ⟨rfl, rfl⟩
 refine JLa (.bool ((cnP stL (d + 1) x s).1)) <| Za <| Zl <| ⟨.bool ((cnP stL (d + 1) x s).1), [[(bL, .cells ⟨[.int .i64 ((cnP stL (d + 1) x s).2)]⟩ 114 (0, 0))]], Ret.one rfl (RV.tmp rfl), (Sk Sub.nil), ?_⟩
 exact ⟨rfl, rfl⟩
theorem longTK_ct : ∀ (x : Tm) (d s : Int) (a : List Value) (H : Heap) (bL bA bD : Nat), RT H a x → H bA = some (.cells ⟨[.pointer (some ⟨bL, 0, none⟩)]⟩ 112 (0, 0)) → H bD = some (.cells ⟨[.int .i64 d]⟩ 3 (0, 0)) → 0 ≤ d → d ≤ 100 → (∀ h a, Hle H h → RT h a x → CT Tryz.prog 86 ⟨[.pointer (some ⟨bL, 0, none⟩), .agg ⟨a⟩, .int .i64 (d + 1)]⟩ [[(bL, .cells ⟨[.int .i64 s]⟩ 114 (0, 0))]] h (fun v N => v = .bool (cnT stL (d + 1) x s).1 ∧ N = [[(bL, .cells ⟨[.int .i64 ((cnT stL (d + 1) x s).2)]⟩ 114 (0, 0))]])) → CT Tryz.prog 126 ⟨[.agg ⟨a⟩, .pointer (some ⟨bA, 0, none⟩), .pointer (some ⟨bD, 0, none⟩)]⟩ [[(bL, .cells ⟨[.int .i64 s]⟩ 114 (0, 0))]] H (fun v N => v = .bool (cnT stL (d + 1) x s).1 ∧ N = [[(bL, .cells ⟨[.int .i64 ((cnT stL (d + 1) x s).2)]⟩ 114 (0, 0))]]) := by
 intro x d s a H bL bA bD ra hH1 hH5 hd0 hd1 hg
 refine Zo Tryz.func126 rfl rfl <| Zd <| Zb <| JLr (Zt (l := a) rfl rfl fun b1 => JLa (.bool false) <| Za <| Zd <| Zb <| JLr (Zf ty112 rfl (At.im hH1) rfl <| JLr (Zh Zu rfl (At.bx 0 rfl) (Zx (ZD ra)) <| JLr (Zf ty3 rfl (At.im hH5) rfl <| JLq (.int .i64 (d + 1)) (Pu.add64 rfl rfl (by first | omega | (constructor <;> omega))) <| Zw 1 rfl Tryz.call86 rfl rfl (fun hin => hg _ _ (Hle.hu _ _) (RT.mono (Hle.hu _ _) ra)) rfl ?_))))
 rintro _ _ ⟨rfl, rfl⟩
 refine JLa (.bool ((cnT stL (d + 1) x s).1)) <| Za <| Zl <| ⟨.bool ((cnT stL (d + 1) x s).1), [[(bL, .cells ⟨[.int .i64 ((cnT stL (d + 1) x s).2)]⟩ 114 (0, 0))]], Ret.one rfl (RV.tmp rfl), (Sk Sub.nil), ?_⟩
 exact ⟨rfl, rfl⟩
theorem longP_ct : ∀ (p : Pt) (d n : Int) (cs : List Value) (H : Heap) (bL : Nat), RP H cs p → 0 ≤ n → n ≤ 300 → 0 ≤ d → d ≤ 61 → CT Tryz.prog 116 ⟨[.pointer (some ⟨bL, 0, none⟩), .agg ⟨cs⟩, .int .i64 d]⟩ [[(bL, .cells ⟨[.int .i64 n]⟩ 114 (0, 0))]] H (fun v N => v = .bool (cnP stL d p n).1 ∧ N = [[(bL, .cells ⟨[.int .i64 ((cnP stL d p n).2)]⟩ 114 (0, 0))]]) := by
 intro p
 induction p using Pt.ind with
 | h kind num ref kids ih =>
 intro d n cs H bL hp hn0 hn1 hd0 hd1
 obtain ⟨ks, rfl, hk, hn, hks⟩ := RP_mk.1 hp
 refine Zo Tryz.func116 rfl rfl <| Zd <| Zb <| JLr (Zt (l := [.pointer (some ⟨bL, 0, none⟩)]) rfl rfl fun b1 => JLr (Zt (l := pkP kind num ref ks) rfl rfl fun b2 => JLr (Zt (l := [.int .i64 d]) rfl rfl fun b3 => JLa (.bool false) <| Za <| Zd <| Zd <| Zb <| JLr (Zf ty112 rfl (At.bx 2 rfl) rfl <| JLq (.pointer (some ⟨bL, 0, none⟩)) (Pu.nilCheck rfl) ?_))))
 refine JLq (.pointer (some ⟨bL, 0, none⟩)) (fa114_0 rfl rfl) <| JLr (Zf ty3 rfl (At.bx 3 rfl) rfl <| JLq (.int .i64 (n + 1)) (Pu.add64 rfl rfl (by first | omega | (constructor <;> omega))) <| JLq (.pointer (some ⟨bL, 0, none⟩)) (Pu.nilCheck rfl) <| JLq (.pointer (some ⟨bL, 0, none⟩)) (fa114_0 rfl rfl) <| JLr (Ze 3 (vs := [.int .i64 (n + 1)]) (l := [.int .i64 (n + 1)]) ty3 rfl rfl rfl rfl rfl (Zm rfl Zv) rfl <| Za <| Yo (fun ρ M => ρ 3 = .pointer (some ⟨b1, 0, none⟩) ∧ ρ 4 = .pointer (some ⟨b2, 0, none⟩) ∧ ρ 5 = .pointer (some ⟨b3, 0, none⟩) ∧ ρ 6 = .bool false ∧ ρ 22 = .bool ((decide (300 < n + 1)) || (decide (60 < d))) ∧ M = [[(b3, .cells ⟨[.int .i64 d]⟩ 3 (0, 0))], [(b2, .cells ⟨pkP kind num ref ks⟩ 75 (0, 0))], [(b1, .cells ⟨[.pointer (some ⟨bL, 0, none⟩)]⟩ 112 (0, 0))], [(bL, .cells ⟨[.int .i64 (n + 1)]⟩ 114 (0, 0))]]) ?_ ?_))
 ·refine Zb <| JLr (Zf ty112 rfl (At.bx 2 rfl) rfl <| JLq (.pointer (some ⟨bL, 0, none⟩)) (Pu.nilCheck rfl) <| JLq (.pointer (some ⟨bL, 0, none⟩)) (fa114_0 rfl rfl) <| JLr (Zf ty3 rfl (At.bx 3 rfl) rfl <| JLq (.bool (decide (300 < n + 1))) (Pu.gtr rfl rfl) <| JLm (.bool (decide (300 < n + 1))) ?_))
  cases h4 : (decide (300 < n + 1)) with
  | true =>
   replace h4 := dt h4
   iterate 2 refine Zy rfl ?_
   refine JLq (.bool true) (Pu.pickT rfl rfl) <| Za ?_
   first | exact ⟨rfl, rfl, rfl, rfl, rfl, rfl⟩ | (exfalso; omega)
  | false =>
   replace h4 := df h4
   refine JLr (Zf ty3 rfl (At.bx 0 rfl) rfl <| JLq (.bool (decide (60 < d))) (Pu.gtr rfl rfl) <| JLq (.bool (decide (60 < d))) (Pu.pickF rfl rfl) <| Za ?_)
   first | exact ⟨rfl, rfl, rfl, rfl, rfl, rfl⟩ | (exfalso; omega)
 rintro ρ5 _ ⟨e6, e7, e8, e9, e10, rfl⟩
 obtain ⟨ρ11, rfl⟩ := Zc (uc e6 (uc e7 (uc e8 (uc e9 (uc e10 un)))))
 clear e6 e7 e8 e9 e10
 refine Zi (b := (decide (300 < n + 1)) || (decide (60 < d))) rfl (fun h12 => ?_) (fun h12 => ?_)
 ·refine Zd <| Zb <| JLa (.bool true) <| Za <| Zl <| ⟨.bool true, [[(bL, .cells ⟨[.int .i64 (n + 1)]⟩ 114 (0, 0))]], Ret.one rfl (RV.tmp rfl), (Sd (Sd (Sd (Sk Sub.nil)))), ?_⟩
  refine ⟨?_, ?_⟩ <;> rw [cnP, if_pos (by simpa [stL] using h12)]
 obtain ⟨h12a, h12b⟩ := orF h12
 replace h12a := df h12a
 replace h12b := df h12b
 refine Zp <| Zd <| Zb <| JLq (.pointer (some ⟨b2, 34, none⟩)) (YO rfl rfl) <| JLr (Zf ty73 rfl (At.bx 1 rfl) (Xf ..) <| JLq (.func (.func 143) ⟨[]⟩ ⟨[.pointer (some ⟨b1, 0, none⟩), .pointer (some ⟨b3, 0, none⟩)]⟩) (Pu.makeFunc rfl rfl) <| Zw 3 rfl Tryz.call31 rfl rfl (fun hin => containsP_ct 143 [] [.pointer (some ⟨b1, 0, none⟩), .pointer (some ⟨b3, 0, none⟩)] (fun _ _ => rfl) (fun n => [(bL, .cells ⟨[.int .i64 n]⟩ 114 (0, 0))]) (fun n => 0 ≤ n ∧ n ≤ 300) (cnP stL (d + 1)) _ _ _ (RPs.mono (Hle.hu _ _) hks) (n + 1) ⟨by omega, by omega⟩ (fun x hx s hs hf => cnP_keep stL_le x _ s hs.1 hf) (fun x hx s hs a h hh ra => longPK_ct x d s a h bL b1 b3 ra (hh _ _ (hin 2 _ rfl _ _ List.mem_cons_self)) (hh _ _ (hin 0 _ rfl _ _ List.mem_cons_self)) (by omega) (by omega) (fun h' a' hh' ra' => ih x hx (d + 1) s a' h' bL ra' hs.1 hs.2 (by omega) (by omega)))) rfl ?_)
 rintro _ _ ⟨rfl, rfl⟩
 refine JLa (.bool ((ZS (cnP stL (d + 1)) kids (n + 1)).1)) <| Za <| Zl <| ⟨.bool ((ZS (cnP stL (d + 1)) kids (n + 1)).1), [[(bL, .cells ⟨[.int .i64 ((ZS (cnP stL (d + 1)) kids (n + 1)).2)]⟩ 114 (0, 0))]], Ret.one rfl (RV.tmp rfl), (Sk Sub.nil), ?_⟩
 refine ⟨?_, ?_⟩ <;> rw [cnP, if_neg (by simp [stL]; omega), cnPs_any]
theorem longC_ct : ∀ (c : Pt × Tm) (d n : Int) (a : List Value) (H : Heap) (bL bA bD bK : Nat), RC H a c → 0 ≤ n → n ≤ 300 → 0 ≤ d → d ≤ 60 → H bA = some (.cells ⟨[.pointer (some ⟨bL, 0, none⟩)]⟩ 112 (0, 0)) → H bD = some (.cells ⟨[.int .i64 d]⟩ 3 (0, 0)) → H bK = some (.cells ⟨[.func (.func 126) ⟨[]⟩ ⟨[.pointer (some ⟨bA, 0, none⟩), .pointer (some ⟨bD, 0, none⟩)]⟩]⟩ 33 (0, 0)) → (∀ s a h, Hle H h → RT h a c.2 → 0 ≤ s → s ≤ 300 → CT Tryz.prog 86 ⟨[.pointer (some ⟨bL, 0, none⟩), .agg ⟨a⟩, .int .i64 (d + 1)]⟩ [[(bL, .cells ⟨[.int .i64 s]⟩ 114 (0, 0))]] h (fun v N => v = .bool (cnT stL (d + 1) c.2 s).1 ∧ N = [[(bL, .cells ⟨[.int .i64 ((cnT stL (d + 1) c.2 s).2)]⟩ 114 (0, 0))]])) → CT Tryz.prog 127 ⟨[.agg ⟨a⟩, .pointer (some ⟨bA, 0, none⟩), .pointer (some ⟨bD, 0, none⟩), .pointer (some ⟨bK, 0, none⟩)]⟩ [[(bL, .cells ⟨[.int .i64 n]⟩ 114 (0, 0))]] H (fun v N => v = .bool (cnC stL (d + 1) c n).1 ∧ N = [[(bL, .cells ⟨[.int .i64 ((cnC stL (d + 1) c n).2)]⟩ 114 (0, 0))]]) := by
 intro c d n a H bL bA bD bK ⟨ca, cb, e1, ra1, ra2⟩ hn0 hn1 hd0 hd1 hH1 hH5 hH7 hg
 subst e1
 refine Zo Tryz.func127 rfl rfl <| Zd <| Zb <| JLr (Zt (l := ca ++ cb) rfl rfl fun b1 => JLa (.bool false) <| Za <| Zd <| Zb <| JLr (Zf ty112 rfl (At.im hH1) rfl <| JLq (.pointer (some ⟨b1, 0, none⟩)) (fa80_0 rfl rfl) <| JLr (Zh Z5 rfl (At.bx 0 rfl) (sub_l (ZJ ra1)) <| JLr (Zf ty3 rfl (At.im hH5) rfl <| JLq (.int .i64 (d + 1)) (Pu.add64 rfl rfl (by first | omega | (constructor <;> omega))) ?_))))
 refine Zw 1 rfl Tryz.call116 rfl rfl (fun hin => longP_ct _ _ _ _ _ _ (RP.mono (Hle.hu _ _) ra1) (by omega) (by omega) (by omega) (by omega)) rfl ?_
 rintro _ _ ⟨rfl, rfl⟩
 refine JLm (.bool ((cnP stL (d + 1) (c.1) n).1)) ?_
 cases h3 : ((cnP stL (d + 1) (c.1) n).1) with
 | true =>
  iterate 4 refine Zy rfl ?_
  refine JLq (.bool true) (Pu.pickT rfl rfl) <| JLa (.bool true) <| Za <| Zl <| ⟨.bool true, [[(bL, .cells ⟨[.int .i64 ((cnP stL (d + 1) (c.1) n).2)]⟩ 114 (0, 0))]], Ret.one rfl (RV.tmp rfl), (Sk Sub.nil), ?_⟩
  refine ⟨?_, ?_⟩ <;> rw [cnC, if_pos h3]
 | false =>
  refine JLr (Zf ty33 rfl (At.im hH7) rfl <| JLq (.pointer (some ⟨b1, 35, none⟩)) (fa80_1 rfl rfl) <| JLr (Zh Zu rfl (At.bx 1 rfl) (sub_r (ZJ ra1) (ZD ra2)) <| Zw 0 rfl Tryz.call126 rfl rfl (fun hin => longTK_ct _ d _ _ _ bL bA bD (RT.mono (Hle.hu _ _) ra2) (Hle.hu _ _ _ _ hH1) (Hle.hu _ _ _ _ hH5) (by omega) (by omega) (fun h' a' hh' ra' => hg _ _ _ (Hle.trans (Hle.hu _ _) hh') ra' (cnP_keep stL_le _ _ _ hn0 h3).1 (cnP_keep stL_le _ _ _ hn0 h3).2)) rfl ?_))
  rintro _ _ ⟨rfl, rfl⟩
  refine JLq (.bool ((cnT stL (d + 1) (c.2) ((cnP stL (d + 1) (c.1) n).2)).1)) (Pu.pickF rfl rfl) <| JLa (.bool ((cnT stL (d + 1) (c.2) ((cnP stL (d + 1) (c.1) n).2)).1)) <| Za <| Zl <| ⟨.bool ((cnT stL (d + 1) (c.2) ((cnP stL (d + 1) (c.1) n).2)).1), [[(bL, .cells ⟨[.int .i64 ((cnT stL (d + 1) (c.2) ((cnP stL (d + 1) (c.1) n).2)).2)]⟩ 114 (0, 0))]], Ret.one rfl (RV.tmp rfl), (Sk Sub.nil), ?_⟩
  refine ⟨?_, ?_⟩ <;> rw [cnC, if_neg (by simp [h3])]
theorem longT_ct : ∀ (t : Tm) (d n : Int) (cs : List Value) (H : Heap) (bL : Nat), RT H cs t → 0 ≤ n → n ≤ 300 → 0 ≤ d → d ≤ 61 → CT Tryz.prog 86 ⟨[.pointer (some ⟨bL, 0, none⟩), .agg ⟨cs⟩, .int .i64 d]⟩ [[(bL, .cells ⟨[.int .i64 n]⟩ 114 (0, 0))]] H (fun v N => v = .bool (cnT stL d t n).1 ∧ N = [[(bL, .cells ⟨[.int .i64 ((cnT stL d t n).2)]⟩ 114 (0, 0))]]) := by
 intro t
 induction t using Tm.ind with
 | h kind num ref kids cases ih ih' =>
 intro d n cs H bL ht hn0 hn1 hd0 hd1
 obtain ⟨ks, cv, rfl, hk, hn, hks, hcv⟩ := RT_mk.1 ht
 refine Zo Tryz.func86 rfl rfl <| Zd <| Zb <| JLr (Zt (l := [.pointer (some ⟨bL, 0, none⟩)]) rfl rfl fun b1 => JLr (Zt (l := pkT kind num ref ks cv) rfl rfl fun b2 => JLr (Zt (l := [.int .i64 d]) rfl rfl fun b3 => JLa (.bool false) <| Za <| Zd <| Zd <| Zb <| JLr (Zf ty112 rfl (At.bx 2 rfl) rfl <| JLq (.pointer (some ⟨bL, 0, none⟩)) (Pu.nilCheck rfl) ?_))))
 refine JLq (.pointer (some ⟨bL, 0, none⟩)) (fa114_0 rfl rfl) <| JLr (Zf ty3 rfl (At.bx 3 rfl) rfl <| JLq (.int .i64 (n + 1)) (Pu.add64 rfl rfl (by first | omega | (constructor <;> omega))) <| JLq (.pointer (some ⟨bL, 0, none⟩)) (Pu.nilCheck rfl) <| JLq (.pointer (some ⟨bL, 0, none⟩)) (fa114_0 rfl rfl) <| JLr (Ze 3 (vs := [.int .i64 (n + 1)]) (l := [.int .i64 (n + 1)]) ty3 rfl rfl rfl rfl rfl (Zm rfl Zv) rfl <| Za <| Yo (fun ρ M => ρ 3 = .pointer (some ⟨b1, 0, none⟩) ∧ ρ 4 = .pointer (some ⟨b2, 0, none⟩) ∧ ρ 5 = .pointer (some ⟨b3, 0, none⟩) ∧ ρ 6 = .bool false ∧ ρ 23 = .bool ((decide (300 < n + 1)) || (decide (60 < d))) ∧ M = [[(b3, .cells ⟨[.int .i64 d]⟩ 3 (0, 0))], [(b2, .cells ⟨pkT kind num ref ks cv⟩ 27 (0, 0))], [(b1, .cells ⟨[.pointer (some ⟨bL, 0, none⟩)]⟩ 112 (0, 0))], [(bL, .cells ⟨[.int .i64 (n + 1)]⟩ 114 (0, 0))]]) ?_ ?_))
 ·refine Zb <| JLr (Zf ty112 rfl (At.bx 2 rfl) rfl <| JLq (.pointer (some ⟨bL, 0, none⟩)) (Pu.nilCheck rfl) <| JLq (.pointer (some ⟨bL, 0, none⟩)) (fa114_0 rfl rfl) <| JLr (Zf ty3 rfl (At.bx 3 rfl) rfl <| JLq (.bool (decide (300 < n + 1))) (Pu.gtr rfl rfl) <| JLm (.bool (decide (300 < n + 1))) ?_))
  cases h4 : (decide (300 < n + 1)) with
  | true =>
   replace h4 := dt h4
   iterate 2 refine Zy rfl ?_
   refine JLq (.bool true) (Pu.pickT rfl rfl) <| Za ?_
   first | exact ⟨rfl, rfl, rfl, rfl, rfl, rfl⟩ | (exfalso; omega)
  | false =>
   replace h4 := df h4
   refine JLr (Zf ty3 rfl (At.bx 0 rfl) rfl <| JLq (.bool (decide (60 < d))) (Pu.gtr rfl rfl) <| JLq (.bool (decide (60 < d))) (Pu.pickF rfl rfl) <| Za ?_)
   first | exact ⟨rfl, rfl, rfl, rfl, rfl, rfl⟩ | (exfalso; omega)
 rintro ρ5 _ ⟨e6, e7, e8, e9, e10, rfl⟩
 obtain ⟨ρ11, rfl⟩ := Zc (uc e6 (uc e7 (uc e8 (uc e9 (uc e10 un)))))
 clear e6 e7 e8 e9 e10
 refine Zi (b := (decide (300 < n + 1)) || (decide (60 < d))) rfl (fun h12 => ?_) (fun h12 => ?_)
 ·refine Zd <| Zb <| JLa (.bool true) <| Za <| Zl <| ⟨.bool true, [[(bL, .cells ⟨[.int .i64 (n + 1)]⟩ 114 (0, 0))]], Ret.one rfl (RV.tmp rfl), (Sd (Sd (Sd (Sk Sub.nil)))), ?_⟩
  refine ⟨?_, ?_⟩ <;> rw [cnT, if_pos (by simpa [stL] using h12)]
 obtain ⟨h12a, h12b⟩ := orF h12
 replace h12a := df h12a
 replace h12b := df h12b
 refine Zp <| Zd <| Zb <| JLq (.func (.func 126) ⟨[]⟩ ⟨[.pointer (some ⟨b1, 0, none⟩), .pointer (some ⟨b3, 0, none⟩)]⟩) (Pu.makeFunc rfl rfl) <| JLr (Zj (l := [.nilFunc]) Tryz.zeroValue33 rfl fun b13 => JLr (Ze 0 (vs := [.func (.func 126) ⟨[]⟩ ⟨[.pointer (some ⟨b1, 0, none⟩), .pointer (some ⟨b3, 0, none⟩)]⟩]) (l := [.func (.func 126) ⟨[]⟩ ⟨[.pointer (some ⟨b1, 0, none⟩), .pointer (some ⟨b3, 0, none⟩)]⟩]) ty33 rfl rfl rfl rfl rfl (Zm rfl Zv) rfl <| Za <| Zd <| Zb <| JLq (.pointer (some ⟨b2, 34, none⟩)) (Yq rfl rfl) <| JLr (Zf ty24 rfl (At.bx 2 rfl) (Yu ..) <| JLr (Zf ty33 rfl (At.bx 0 rfl) rfl <| Zw 4 rfl Tryz.call33 rfl rfl (fun hin => containsT_ct 126 [] [.pointer (some ⟨b1, 0, none⟩), .pointer (some ⟨b3, 0, none⟩)] (fun _ _ => rfl) (fun n => [(bL, .cells ⟨[.int .i64 n]⟩ 114 (0, 0))]) (fun n => 0 ≤ n ∧ n ≤ 300) (cnT stL (d + 1)) _ _ _ (RTs.mono (Hle.hu _ _) hks) (n + 1) ⟨by omega, by omega⟩ (fun x hx s hs hf => cnT_keep stL_le x _ s hs.1 hf) (fun x hx s hs a h hh ra => longTK_ct x d s a h bL b1 b3 ra (hh _ _ (hin 3 _ rfl _ _ List.mem_cons_self)) (hh _ _ (hin 1 _ rfl _ _ List.mem_cons_self)) (by omega) (by omega) (fun h' a' hh' ra' => ih x hx (d + 1) s a' h' bL ra' hs.1 hs.2 (by omega) (by omega)))) rfl ?_))))
 rintro _ _ ⟨rfl, rfl⟩
 refine JLm (.bool ((ZS (cnT stL (d + 1)) kids (n + 1)).1)) ?_
 cases h15 : ((ZS (cnT stL (d + 1)) kids (n + 1)).1) with
 | true =>
  iterate 4 refine Zy rfl ?_
  refine JLq (.bool true) (Pu.pickT rfl rfl) <| JLa (.bool true) <| Za <| Zl <| ⟨.bool true, [[(bL, .cells ⟨[.int .i64 ((ZS (cnT stL (d + 1)) kids (n + 1)).2)]⟩ 114 (0, 0))]], Ret.one rfl (RV.tmp rfl), (Sk Sub.nil), ?_⟩
  refine ⟨?_, ?_⟩ <;> rw [cnT, if_neg (by simp [stL]; omega), cnTs_any, if_pos h15]
 | false =>
  refine JLq (.pointer (some ⟨b2, 35, none⟩)) (YP rfl rfl) <| JLr (Zf ty25 rfl (At.bx 3 rfl) (YI ..) <| JLq (.func (.func 127) ⟨[]⟩ ⟨[.pointer (some ⟨b1, 0, none⟩), .pointer (some ⟨b3, 0, none⟩), .pointer (some ⟨b13, 0, none⟩)]⟩) (Pu.makeFunc rfl rfl) <| Zw 0 rfl Tryz.call34 rfl rfl (fun hin => containsC_ct 127 [] [.pointer (some ⟨b1, 0, none⟩), .pointer (some ⟨b3, 0, none⟩), .pointer (some ⟨b13, 0, none⟩)] (fun _ _ => rfl) (fun n => [(bL, .cells ⟨[.int .i64 n]⟩ 114 (0, 0))]) (fun n => 0 ≤ n ∧ n ≤ 300) (cnC stL (d + 1)) _ _ _ (RCs.mono (Hle.hu _ _) hcv) ((ZS (cnT stL (d + 1)) kids (n + 1)).2) (anyT_keep stL_le _ _ _ (by omega) (by omega) h15) (fun x hx s hs hf => cnC_keep stL_le x _ s hs.1 hf) (fun x hx s hs a h hh ra => longC_ct x d s a h bL b1 b3 b13 ra hs.1 hs.2 (by omega) (by omega) (hh _ _ (hin 3 _ rfl _ _ List.mem_cons_self)) (hh _ _ (hin 1 _ rfl _ _ List.mem_cons_self)) (hh _ _ (hin 0 _ rfl _ _ List.mem_cons_self)) (fun s' a' h' hh' ra' k1 k2 => ih' x hx (d + 1) s' a' h' bL ra' k1 k2 (by omega) (by omega)))) rfl ?_)
  rintro _ _ ⟨rfl, rfl⟩
  refine JLq (.bool ((ZS (cnC stL (d + 1)) cases ((ZS (cnT stL (d + 1)) kids (n + 1)).2)).1)) (Pu.pickF rfl rfl) <| JLa (.bool ((ZS (cnC stL (d + 1)) cases ((ZS (cnT stL (d + 1)) kids (n + 1)).2)).1)) <| Za <| Zl <| ⟨.bool ((ZS (cnC stL (d + 1)) cases ((ZS (cnT stL (d + 1)) kids (n + 1)).2)).1), [[(bL, .cells ⟨[.int .i64 ((ZS (cnC stL (d + 1)) cases ((ZS (cnT stL (d + 1)) kids (n + 1)).2)).2)]⟩ 114 (0, 0))]], Ret.one rfl (RV.tmp rfl), (Sk Sub.nil), ?_⟩
  refine ⟨?_, ?_⟩ <;> rw [cnT, if_neg (by simp [stL]; omega), cnTs_any, if_neg (by simp [h15]), cnCs_any]
end Go.Proofs.YtmophpgiaiemhaaGreat.Hs
/-! The mapper without a state. -/
namespace Go.Proofs.YtmophpgiaiemhaaGreat.Hs
open Go Go.Proofs
set_option maxRecDepth 100000

theorem CT.nils {P : Program} {f : FuncId} {a : Array Value} {H : Heap} {t : Tm} (h : CT P f a [] H (fun v N => ∃ cs k, v = .agg ⟨cs⟩ ∧ N = [k] ∧ OT t cs k)) :
    CT P f a [[]] H (fun v N => ∃ cs k, v = .agg ⟨cs⟩ ∧ N = [k, []] ∧ OT t cs k) := fun F w m => by
  refine (h F w (by simpa using m)).mono ?_
  rintro e w' ⟨v, N, h1, h2, cs, k, h3, h4, h5⟩
  subst h4
  exact ⟨v, [k, []], h1, by simpa using h2, cs, k, h3, rfl, h5⟩
theorem CT.unnils {P : Program} {f : FuncId} {a : Array Value} {H : Heap} {t : Tm} (h : CT P f a [[]] H (fun v N => ∃ cs k, v = .agg ⟨cs⟩ ∧ N = [k, []] ∧ OT t cs k)) :
    CT P f a [] H (fun v N => ∃ cs k, v = .agg ⟨cs⟩ ∧ N = [k] ∧ OT t cs k) := fun F w m => by
  refine (h F w (by simpa using m)).mono ?_
  rintro e w' ⟨v, N, h1, h2, cs, k, h3, h4, h5⟩
  subst h4
  exact ⟨v, [k], h1, by simpa using h2, cs, k, h3, rfl, h5⟩

theorem mapTermP_ct (gr : Nat) (frs crs : List Value) (hcallr : ∀ args w, (callFunc gr args).run Tryz.prog w = .ok (.enter gr args) w) (rf : Sm → Sm) (gv : Nat) (fvs cvs : List Value) (hcallv : ∀ args w, (callFunc gv args).run Tryz.prog w = .ok (.enter gv args) w)
    (vf : Int → Int → Tm) (t : Tm) (b : Int) (cs : List Value) (H : Heap) (ht : RT H cs t) (hz : sizeT t ≤ 1000000) (hv : vOK t) (hb0 : 0 ≤ b) (hb : b + 2 * sizeT t ≤ 2000000)
    (hgr : ∀ s h, Hle H h → CT Tryz.prog gr ⟨frs ++ [.agg ⟨sC s⟩] ++ crs⟩ [] h (fun v N => v = .agg ⟨sC (rf s)⟩ ∧ N = []))
    (hgv : ∀ (n b : Int) (h : Heap), Hle H h → 0 ≤ n → n ≤ 2000000 → 0 ≤ b → b ≤ 2000000 → CT Tryz.prog gv ⟨fvs ++ [.int .i64 n, .int .i64 b] ++ cvs⟩ [] h (fun v N => ∃ cs k, v = .agg ⟨cs⟩ ∧ N = [k] ∧ OT (vf n b) cs k)) :
    CT Tryz.prog 85 ⟨[.agg ⟨[.func (.func gv) ⟨fvs⟩ ⟨cvs⟩, .func (.func gr) ⟨frs⟩ ⟨crs⟩]⟩, .agg ⟨cs⟩, .int .i64 b]⟩ [] H (fun v N => ∃ cs k, v = .agg ⟨cs⟩ ∧ N = [k] ∧ OT (mapQ rf vf b t) cs k) :=
  CT.unnils (mapTerm_ct gr frs crs hcallr rf gv fvs cvs hcallv Unit (fun _ => []) (fun _ => True) (fun n b s => (vf n b, s)) (fun _ _ _ _ => trivial) t b () cs H ht hz hv hb0 hb trivial hgr
    (fun n b _ h hh _ h1 h2 h3 h4 => CT.nils (hgv n b h hh h1 h2 h3 h4)))
end Go.Proofs.YtmophpgiaiemhaaGreat.Hs
/-! Walks, printed by a program of this session's own (gen.py). -/
namespace Go.Proofs.YtmophpgiaiemhaaGreat.Hs
open Go Go.Proofs
set_option maxRecDepth 100000
set_option linter.unusedVariables false
set_option linter.unusedSimpArgs false
attribute [local irreducible] JL J CT wlo
theorem shiftedV_ct (n b dy fr : Int) (H : Heap) (bF bD : Nat) (hF : H bF = some (.cells ⟨[.int .i64 fr]⟩ 3 (0, 0))) (hD : H bD = some (.cells ⟨[.int .i64 dy]⟩ 3 (0, 0))) (hn0 : 0 ≤ n) (hn1 : n ≤ 2000000) (hb0 : 0 ≤ b) (hb1 : b ≤ 2000000) (hd0 : -2000000 ≤ dy) (hd1 : dy ≤ 2000000) : CT Tryz.prog 125 ⟨[.int .i64 n, .int .i64 b, .pointer (some ⟨bF, 0, none⟩), .pointer (some ⟨bD, 0, none⟩)]⟩ [] H (fun v N => ∃ cs k, v = .agg ⟨cs⟩ ∧ N = [k] ∧ OT (shv dy fr n b) cs k) := by
 refine Zo Tryz.func125 rfl rfl <| Zd <| Zb <| JLr (Zj (l := pkT 0 0 zS (.slice none 0 0) (.slice none 0 0)) Tryz.zeroValue27 rfl fun b1 => Za <| Zd <| Zd <| Zb <| JLm (.int .i64 n) <| JLr (Zf ty3 rfl (At.im hF) rfl <| JLq (.bool (decide (fr ≤ n))) (Pu.geq rfl rfl) <| Za <| Zi (b := decide (fr ≤ n)) rfl (fun h2 => ?_) (fun h2 => ?_)))
 ·replace h2 := dt h2
  refine Zb <| JLm (.int .i64 n) <| JLr (Zf ty3 rfl (At.im hD) rfl <| JLq (.int .i64 (n + dy)) (Pu.add64 rfl rfl (by first | omega | (constructor <;> omega))) <| JLa (.int .i64 (n + dy)) <| Za <| Zd <| Zb <| JLm (.int .i64 (n + dy)) <| JLm (.int .i64 b) <| Zg rfl Tryz.call83 rfl (fun hin => stay_ct _ _ _ (by unfold inI; omega)) rfl ?_)
  rintro _ _ ⟨cs3, k3, rfl, rfl, hO3⟩
  refine JLr (Ze 1 (vs := cs3) (l := cs3) Zu rfl rfl rfl rfl hO3.len hO3.ok (ZL (n := 36) rfl hO3.len) <| Za <| Zl <| ⟨.agg ⟨cs3⟩, [k3], Ret.one rfl (RV.cell Zu rfl (At.bx 1 rfl) (Zx hO3.len)), (Sk Sub.nil), ?_⟩)
  have hx : shv dy fr n b = .mk 1 (n + dy + b) zS [] [] := by first | rfl | (simp only [shv]; (repeat' split) <;> first | rfl | (exfalso; omega))
  exact ⟨_, _, rfl, rfl, by rw [hx]; exact hO3⟩
 replace h2 := df h2
 refine Zp <| Zd <| Zb <| JLm (.int .i64 n) <| JLm (.int .i64 b) <| Zg rfl Tryz.call83 rfl (fun hin => stay_ct _ _ _ (by unfold inI; omega)) rfl ?_
 rintro _ _ ⟨cs4, k4, rfl, rfl, hO4⟩
 refine JLr (Ze 1 (vs := cs4) (l := cs4) Zu rfl rfl rfl rfl hO4.len hO4.ok (ZL (n := 36) rfl hO4.len) <| Za <| Zl <| ⟨.agg ⟨cs4⟩, [k4], Ret.one rfl (RV.cell Zu rfl (At.bx 1 rfl) (Zx hO4.len)), (Sk Sub.nil), ?_⟩)
 have hx : shv dy fr n b = .mk 1 (n + b) zS [] [] := by first | rfl | (simp only [shv]; (repeat' split) <;> first | rfl | (exfalso; omega))
 exact ⟨_, _, rfl, rfl, by rw [hx]; exact hO4⟩
theorem shifted_ct (t : Tm) (dy fr : Int) (cs : List Value) (H : Heap) (ht : RT H cs t) (hz : sizeT t ≤ 900000) (hv : vOK t) (hd0 : -2000000 ≤ dy) (hd1 : dy ≤ 2000000) : CT Tryz.prog 82 ⟨[.agg ⟨cs⟩, .int .i64 dy, .int .i64 fr]⟩ [] H (fun v N => ∃ cs k, v = .agg ⟨cs⟩ ∧ N = [k] ∧ OT (shT dy fr t) cs k) := by
 refine Zo Tryz.func82 rfl rfl <| Zd <| Zb <| JLr (Zt (l := cs) rfl rfl fun b1 => JLr (Zt (l := [.int .i64 dy]) rfl rfl fun b2 => JLr (Zt (l := [.int .i64 fr]) rfl rfl fun b3 => JLr (Zj (l := pkT 0 0 zS (.slice none 0 0) (.slice none 0 0)) Tryz.zeroValue27 rfl fun b4 => Za <| Zd <| Zb <| JLq (.func (.func 125) ⟨[]⟩ ⟨[.pointer (some ⟨b3, 0, none⟩), .pointer (some ⟨b2, 0, none⟩)]⟩) (Pu.makeFunc rfl rfl) <| JLq (.agg ⟨[.func (.func 125) ⟨[]⟩ ⟨[.pointer (some ⟨b3, 0, none⟩), .pointer (some ⟨b2, 0, none⟩)]⟩, .func (.func 84) ⟨[]⟩ ⟨[]⟩]⟩) (Pu.build (pv := [(0, .func (.func 125) ⟨[]⟩ ⟨[.pointer (some ⟨b3, 0, none⟩), .pointer (some ⟨b2, 0, none⟩)]⟩), (1, .func (.func 84) ⟨[]⟩ ⟨[]⟩)]) (l := [.func (.func 125) ⟨[]⟩ ⟨[.pointer (some ⟨b3, 0, none⟩), .pointer (some ⟨b2, 0, none⟩)]⟩, .func (.func 84) ⟨[]⟩ ⟨[]⟩]) rfl (bld136_0_1 _ _ _ _ _ _)) <| JLr (Zh Zu rfl (At.bx 3 rfl) (Zx (ZD ht)) ?_)))))
 refine Zg rfl Tryz.call85 rfl (fun hin => mapTermP_ct 84 [] [] Tryz.call84 (fun s => s) 125 [] [.pointer (some ⟨b3, 0, none⟩), .pointer (some ⟨b2, 0, none⟩)] Tryz.call125 (shv dy fr) _ _ _ _ (RT.mono (Hle.hu _ _) ht) (by omega) hv (by decide) (by omega) (fun s h hh => same_ct s h) (fun n b h hh h1 h2 h3 h4 => shiftedV_ct n b dy fr h b3 b2 (hh _ _ (hin 1 _ rfl _ _ List.mem_cons_self)) (hh _ _ (hin 2 _ rfl _ _ List.mem_cons_self)) h1 h2 h3 h4 hd0 hd1)) rfl ?_
 rintro _ _ ⟨cs5, k5, rfl, rfl, hO5⟩
 refine JLr (Ze 1 (vs := cs5) (l := cs5) Zu rfl rfl rfl rfl hO5.len hO5.ok (ZL (n := 36) rfl hO5.len) <| Za <| Zl <| ⟨.agg ⟨cs5⟩, [k5], Ret.one rfl (RV.cell Zu rfl (At.bx 1 rfl) (Zx hO5.len)), (Sk Sub.nil), ?_⟩)
 have hx : shT dy fr t = mapQ (fun s => s) (shv dy fr) 0 t := by first | rfl | (simp only [shT]; (repeat' split) <;> first | rfl | (exfalso; omega))
 exact ⟨_, _, rfl, rfl, by rw [hx]; exact hO5⟩
theorem substV_ct (n b m : Int) (u : Tm) (us : List Value) (H : Heap) (bN bU : Nat) (hN : H bN = some (.cells ⟨[.int .i64 m]⟩ 3 (0, 0))) (hU : H bU = some (.cells ⟨us⟩ 27 (0, 0))) (hu1 : RT H us u) (hzu : sizeT u ≤ 900000) (hvu : vOK u) (hn0 : 0 ≤ n) (hn1 : n ≤ 2000000) (hb0 : 0 ≤ b) (hb1 : b ≤ 2000000) : CT Tryz.prog 81 ⟨[.int .i64 n, .int .i64 b, .pointer (some ⟨bN, 0, none⟩), .pointer (some ⟨bU, 0, none⟩)]⟩ [] H (fun v N => ∃ cs k, v = .agg ⟨cs⟩ ∧ N = [k] ∧ OT (sbv m u n b) cs k) := by
 refine Zo Tryz.func81 rfl rfl <| Zd <| Zb <| JLr (Zj (l := pkT 0 0 zS (.slice none 0 0) (.slice none 0 0)) Tryz.zeroValue27 rfl fun b1 => Za <| Zd <| Zs <| Zd <| Zb <| JLm (.int .i64 n) <| JLr (Zf ty3 rfl (At.im hN) rfl <| JLq (.bool (decide (n = m))) (Pu.eql rfl rfl) <| JLa (.bool (decide (n = m))) ?_))
 refine Za <| Zi (b := decide (n = m)) rfl (fun h2 => ?_) (fun h2 => ?_)
 ·replace h2 := dt h2
  refine Zd <| Zb <| JLr (Zh Zu rfl (At.im hU) (Zx (ZD hu1)) <| JLm (.int .i64 b) <| Zg rfl Tryz.call82 rfl (fun hin => shifted_ct _ _ _ _ _ (RT.mono (Hle.hu _ _) hu1) hzu hvu (by omega) (by omega)) rfl ?_)
  rintro _ _ ⟨cs3, k3, rfl, rfl, hO3⟩
  refine JLr (Ze 1 (vs := cs3) (l := cs3) Zu rfl rfl rfl rfl hO3.len hO3.ok (ZL (n := 36) rfl hO3.len) <| Za <| Zl <| ⟨.agg ⟨cs3⟩, [k3], Ret.one rfl (RV.cell Zu rfl (At.bx 1 rfl) (Zx hO3.len)), (Sk Sub.nil), ?_⟩)
  have hx : sbv m u n b = shT b 0 u := by first | rfl | (simp only [sbv]; (repeat' split) <;> first | rfl | (exfalso; omega))
  exact ⟨_, _, rfl, rfl, by rw [hx]; exact hO3⟩
 replace h2 := df h2
 refine Zd <| Zb <| JLm (.int .i64 n) <| JLr (Zf ty3 rfl (At.im hN) rfl <| JLq (.bool (decide (m < n))) (Pu.gtr rfl rfl) <| JLa (.bool (decide (m < n))) <| Za <| Zi (b := decide (m < n)) rfl (fun h4 => ?_) (fun h4 => ?_))
 ·replace h4 := dt h4
  refine Zb <| JLm (.int .i64 n) <| JLq (.int .i64 (n - 1)) (Pu.sub64 rfl rfl (by first | omega | (constructor <;> omega))) <| JLa (.int .i64 (n - 1)) <| Za <| Zd <| Zb <| JLm (.int .i64 (n - 1)) <| JLm (.int .i64 b) <| Zg rfl Tryz.call83 rfl (fun hin => stay_ct _ _ _ (by unfold inI; omega)) rfl ?_
  rintro _ _ ⟨cs5, k5, rfl, rfl, hO5⟩
  refine JLr (Ze 1 (vs := cs5) (l := cs5) Zu rfl rfl rfl rfl hO5.len hO5.ok (ZL (n := 36) rfl hO5.len) <| Za <| Zl <| ⟨.agg ⟨cs5⟩, [k5], Ret.one rfl (RV.cell Zu rfl (At.bx 1 rfl) (Zx hO5.len)), (Sk Sub.nil), ?_⟩)
  have hx : sbv m u n b = .mk 1 (n - 1 + b) zS [] [] := by first | rfl | (simp only [sbv]; (repeat' split) <;> first | rfl | (exfalso; omega))
  exact ⟨_, _, rfl, rfl, by rw [hx]; exact hO5⟩
 replace h4 := df h4
 refine Zp <| Zd <| Zb <| JLm (.int .i64 n) <| JLm (.int .i64 b) <| Zg rfl Tryz.call83 rfl (fun hin => stay_ct _ _ _ (by unfold inI; omega)) rfl ?_
 rintro _ _ ⟨cs6, k6, rfl, rfl, hO6⟩
 refine JLr (Ze 1 (vs := cs6) (l := cs6) Zu rfl rfl rfl rfl hO6.len hO6.ok (ZL (n := 36) rfl hO6.len) <| Za <| Zl <| ⟨.agg ⟨cs6⟩, [k6], Ret.one rfl (RV.cell Zu rfl (At.bx 1 rfl) (Zx hO6.len)), (Sk Sub.nil), ?_⟩)
 have hx : sbv m u n b = .mk 1 (n + b) zS [] [] := by first | rfl | (simp only [sbv]; (repeat' split) <;> first | rfl | (exfalso; omega))
 exact ⟨_, _, rfl, rfl, by rw [hx]; exact hO6⟩
theorem short_ct (t : Tm) (cs : List Value) (H : Heap) (ht : RT H cs t) : CT Tryz.prog 80 ⟨[.agg ⟨cs⟩]⟩ [] H (fun v N => v = .tuple ⟨[.agg ⟨if Yz t = true then pkT 0 0 zS (.slice none 0 0) (.slice none 0 0) else cs⟩, .int .i64 (if Yz t = true then 11 else 0)]⟩ ∧ N = []) := by
 refine Zo Tryz.func80 rfl rfl <| Zd <| Zb <| JLr (Zt (l := cs) rfl rfl fun b1 => JLr (Zj (l := pkT 0 0 zS (.slice none 0 0) (.slice none 0 0)) Tryz.zeroValue27 rfl fun b2 => JLa (.int .i64 0) <| Za <| Zd <| Zd <| Zb <| JLq (.agg ⟨[.int .i64 0]⟩) (Pu.build (pv := []) (l := [.int .i64 0]) rfl bld114_) <| JLr (Zt (l := [.int .i64 0]) rfl rfl fun b3 => JLr (Zh Zu rfl (At.bx 2 rfl) (Zx (ZD ht)) ?_))))
 refine Zw 0 rfl Tryz.call86 rfl rfl (fun hin => longT_ct _ _ _ _ _ _ (RT.mono (Hle.hu _ _) ht) (by omega) (by omega) (by omega) (by omega)) rfl ?_
 rintro _ _ ⟨rfl, rfl⟩
 refine Za <| Zi (b := (cnT stL 1 t 0).1) rfl (fun h5 => ?_) (fun h5 => ?_)
 ·refine Zd <| Zb <| JLq (.agg ⟨pkT 0 0 zS (.slice none 0 0) (.slice none 0 0)⟩) (Pu.build (pv := []) (l := pkT 0 0 zS (.slice none 0 0) (.slice none 0 0)) rfl (YW )) <| JLr (Ze 1 (vs := pkT 0 0 zS (.slice none 0 0) (.slice none 0 0)) (l := pkT 0 0 zS (.slice none 0 0) (.slice none 0 0)) Zu rfl rfl rfl rfl rfl (ZI rfl rfl) (Z0 ..) <| JLa (.int .i64 11) <| Za <| Zl <| ⟨.tuple ⟨[.agg ⟨pkT 0 0 zS (.slice none 0 0) (.slice none 0 0)⟩, .int .i64 11]⟩, [], Ret.two rfl (RV.cell Zu rfl (At.bx 1 rfl) (ZZ ..)) (RV.tmp rfl), Sub.nil, ?_⟩)
  rw [long_eq] at h5
  exact ⟨by simp [h5], rfl⟩
 refine Zp <| Zd <| Zb <| JLr (Zh Zu rfl (At.bx 2 rfl) (Zx (ZD ht)) <| JLr (Ze 1 (vs := cs) (l := cs) Zu rfl rfl rfl rfl (ZD ht) (RT_ok ht) (ZL (n := 36) rfl (ZD ht)) <| JLa (.int .i64 0) <| Za <| Zl <| ⟨.tuple ⟨[.agg ⟨cs⟩, .int .i64 0]⟩, [], Ret.two rfl (RV.cell Zu rfl (At.bx 1 rfl) (Zx (ZD ht))) (RV.tmp rfl), Sub.nil, ?_⟩))
 rw [long_eq] at h5
 exact ⟨by simp [h5], rfl⟩
end Go.Proofs.YtmophpgiaiemhaaGreat.Hs
/-! Walks, printed by a program of this session's own (gen.py). -/
namespace Go.Proofs.YtmophpgiaiemhaaGreat.Hs
open Go Go.Proofs
set_option maxRecDepth 100000
set_option linter.unusedVariables false
set_option linter.unusedSimpArgs false
attribute [local irreducible] JL J CT wlo
theorem known_ct (n b d : Int) (H : Heap) (bD : Nat) (hD : H bD = some (.cells ⟨[.int .i64 d]⟩ 3 (0, 0))) (hb0 : 0 ≤ b) (hb1 : b ≤ 1000000) (hn1 : -9223372036854775808 ≤ n) (hn2 : n ≤ 9223372036854775807) : CT Tryz.prog 87 ⟨[.int .i64 n, .int .i64 b, .pointer (some ⟨bD, 0, none⟩)]⟩ [] H (fun v N => v = .bool (knownB d n b) ∧ N = []) := by
 refine Zo Tryz.func87 rfl rfl <| Zd <| Zb <| JLa (.bool false) <| Za <| Yo (fun ρ M => ρ 5 = .bool ((decide (0 ≤ n)) && ((decide (n < b)) || (decide (n - b < d)))) ∧ M = []) ?_ ?_
 ·refine Zb <| JLm (.int .i64 n) <| JLq (.bool (decide (0 ≤ n))) (Pu.geq rfl rfl) <| JLm (.bool (decide (0 ≤ n))) ?_
  cases h1 : (decide (0 ≤ n)) with
  | true =>
   replace h1 := dt h1
   refine JLm (.int .i64 n) <| JLm (.int .i64 b) <| JLq (.bool (decide (n < b))) (Pu.lss rfl rfl) <| JLm (.bool (decide (n < b))) ?_
   cases h2 : (decide (n < b)) with
   | true =>
    replace h2 := dt h2
    iterate 5 refine Zy rfl ?_
    refine JLq (.bool true) (Pu.pickT rfl rfl) <| JLq (.bool true) (Pu.pickT rfl rfl) <| JLa (.bool true) <| Za ?_
    first | exact ⟨rfl, rfl⟩ | (exfalso; omega)
   | false =>
    replace h2 := df h2
    refine JLm (.int .i64 n) <| JLm (.int .i64 b) <| JLq (.int .i64 (n - b)) (Pu.sub64 rfl rfl (by first | omega | (constructor <;> omega))) <| JLr (Zf ty3 rfl (At.im hD) rfl <| JLq (.bool (decide (n - b < d))) (Pu.lss rfl rfl) <| JLq (.bool (decide (n - b < d))) (Pu.pickF rfl rfl) <| JLq (.bool (decide (n - b < d))) (Pu.pickT rfl rfl) <| JLa (.bool (decide (n - b < d))) <| Za ?_)
    first | exact ⟨rfl, rfl⟩ | (exfalso; omega)
  | false =>
   replace h1 := df h1
   iterate 10 refine Zy rfl ?_
   refine JLq (.bool false) (Pu.pickF rfl rfl) <| JLa (.bool false) <| Za ?_
   first | exact ⟨rfl, rfl⟩ | (exfalso; omega)
 rintro ρ3 _ ⟨e4, rfl⟩
 obtain ⟨ρ5, rfl⟩ := Zc (uc e4 un)
 clear e4
 refine Zl <| ⟨.bool ((decide (0 ≤ n)) && ((decide (n < b)) || (decide (n - b < d)))), [], Ret.one rfl (RV.tmp rfl), Sub.nil, ?_⟩
 exact ⟨rfl, rfl⟩
set_option maxHeartbeats 2000000 in
theorem chkTerm_ct (kind num : Int) (ref : Sm) (ks cv : Value) (kids : List Tm) (cases : List (Pt × Tm)) (d m b : Int) (H : Heap) (bD : Nat) (hks : rdS RT 36 H ks kids) (hcv : rdS RC 71 H cv cases) (hD : H bD = some (.cells ⟨[.int .i64 d]⟩ 3 (0, 0))) (hb0 : 0 ≤ b) (hb1 : b ≤ 1000000) (hn1 : -9223372036854775808 ≤ num) (hn2 : num ≤ 9223372036854775807) : CT Tryz.prog 128 ⟨[.agg ⟨[.int .i64 m, .func (.func 87) ⟨[]⟩ ⟨[.pointer (some ⟨bD, 0, none⟩)]⟩]⟩, .agg ⟨pkT kind num ref ks cv⟩, .int .i64 b]⟩ [] H (fun v N => v = .int .i64 (Yr d m b kind num ref kids.length cases.length) ∧ N = []) := by
 refine Zo Tryz.func128 rfl rfl <| Zd <| Zb <| JLr (Zt (l := [.int .i64 m, .func (.func 87) ⟨[]⟩ ⟨[.pointer (some ⟨bD, 0, none⟩)]⟩]) rfl rfl fun b1 => JLr (Zt (l := pkT kind num ref ks cv) rfl rfl fun b2 => JLa (.int .i64 0) <| Za <| Zd <| Zs <| Zd <| Zb <| JLq (.pointer (some ⟨b2, 0, none⟩)) (ZY rfl rfl) <| JLr (Zf ty3 rfl (At.bx 0 rfl) (Yg ..) ?_)))
 refine Zg rfl Tryz.call79 rfl (fun hin => Yc _ _ _ _) rfl ?_
 rintro _ _ ⟨rfl, rfl⟩
 refine JLa (.bool (decide (kind < 1 ∨ 12 < kind))) <| Za <| Zi (b := decide (kind < 1 ∨ 12 < kind)) rfl (fun h3 => ?_) (fun h3 => ?_)
 ·replace h3 := dt h3
  refine Zd <| Zb <| JLa (.int .i64 3) <| Za <| Zl <| ⟨.int .i64 3, [], Ret.one rfl (RV.tmp rfl), Sub.nil, ?_⟩
  exact ⟨by refine congrArg (Value.int .i64) ?_; simp only [Yr]; (repeat' split) <;> first | rfl | omega | (exfalso; simp_all; done) | (exfalso; simp_all; omega) | grind, rfl⟩
 replace h3 := df h3
 refine Zd ?_
 obtain ⟨a5, cap5, hv5⟩ := hcv.sl
 have hle5 := hcv.le
 refine Ya mixed #[0, 1, 3, 0, 8, 0, 32, 0, 128, 384, 1023, 2047] 10 10 2 rfl (by kernel_rfl) (fun i r4 N4 => match i with | 0 => (r4 0) = .pointer (some ⟨b2, 0, none⟩) | 1 => (r4 1) = .int .i64 kind | 2 => (r4 2) = .agg ⟨[.bool (fN kind), .bool (fR kind), .bool (fC kind)]⟩ | 3 => (r4 3) = .pointer (some ⟨b2, 1, none⟩) | 4 => (r4 4) = .int .i64 num | 5 => (r4 5) = .pointer (some ⟨b2, 2, none⟩) | 6 => (r4 6) = .agg ⟨sC ref⟩ | 7 => (r4 7) = .pointer (some ⟨b2, 35, none⟩) | 8 => (r4 8) = cv | 9 => (r4 9) = .int .i64 ((cases.length : Int)) | _ => True) ⟨?_, ?_, ?_, ?_, ?_, ?_, ?_, ?_, ?_, ?_, trivial⟩ ?_
 ·intro ρ r4 N4 B hB hBa hp hr hr0
  obtain ⟨ρ6, rfl⟩ := Zc (uc (show ρ 4 = .pointer (some ⟨b2, 0, none⟩) from hr0 4 (by kernel_rfl)) un)
  refine JLq (.pointer (some ⟨b2, 0, none⟩)) (ZY rfl rfl) <| Za ?_
  exact ⟨.pointer (some ⟨b2, 0, none⟩), [], rfl, (Sub.emp Sub.refl), rfl⟩
 ·intro ρ r4 N4 B hB hBa hp hr hr0
  obtain ⟨ρ7, rfl⟩ := Zc (uc (show ρ 13 = .pointer (some ⟨b2, 0, none⟩) from (hr 0 _ _ (by decide) rfl rfl rfl).trans (hp 0 (by decide) rfl)) un)
  refine JLr (Zf ty3 rfl (At.bx 10 (Zn ((hB 0 (by decide)).trans rfl))) (Yg ..) <| Za ?_)
  exact ⟨.int .i64 kind, [], rfl, (Sub.emp Sub.refl), rfl⟩
 ·intro ρ r4 N4 B hB hBa hp hr hr0
  obtain ⟨ρ8, rfl⟩ := Zc (uc (show ρ 14 = .int .i64 kind from (hr 1 _ _ (by decide) rfl rfl rfl).trans (hp 1 (by decide) rfl)) un)
  refine Zg rfl Tryz.call159 rfl (fun hin => fields_ct _ _) rfl ?_
  rintro _ _ ⟨rfl, rfl⟩
  refine Za ?_
  exact ⟨.agg ⟨[.bool (fN kind), .bool (fR kind), .bool (fC kind)]⟩, [], rfl, (Sub.emp Sub.refl), rfl⟩
 ·intro ρ r4 N4 B hB hBa hp hr hr0
  obtain ⟨ρ9, rfl⟩ := Zc (uc (show ρ 4 = .pointer (some ⟨b2, 0, none⟩) from hr0 4 (by kernel_rfl)) un)
  refine JLq (.pointer (some ⟨b2, 1, none⟩)) (Z4 rfl rfl) <| Za ?_
  exact ⟨.pointer (some ⟨b2, 1, none⟩), [], rfl, (Sub.emp Sub.refl), rfl⟩
 ·intro ρ r4 N4 B hB hBa hp hr hr0
  obtain ⟨ρ10, rfl⟩ := Zc (uc (show ρ 16 = .pointer (some ⟨b2, 1, none⟩) from (hr 3 _ _ (by decide) rfl rfl rfl).trans (hp 3 (by decide) rfl)) un)
  refine JLr (Zf ty3 rfl (At.bx 10 (Zn ((hB 0 (by decide)).trans rfl))) (Yn ..) <| Za ?_)
  exact ⟨.int .i64 num, [], rfl, (Sub.emp Sub.refl), rfl⟩
 ·intro ρ r4 N4 B hB hBa hp hr hr0
  obtain ⟨ρ11, rfl⟩ := Zc (uc (show ρ 4 = .pointer (some ⟨b2, 0, none⟩) from hr0 4 (by kernel_rfl)) un)
  refine JLq (.pointer (some ⟨b2, 2, none⟩)) (fa27_2 rfl rfl) <| Za ?_
  exact ⟨.pointer (some ⟨b2, 2, none⟩), [], rfl, (Sub.emp Sub.refl), rfl⟩
 ·intro ρ r4 N4 B hB hBa hp hr hr0
  obtain ⟨ρ12, rfl⟩ := Zc (uc (show ρ 18 = .pointer (some ⟨b2, 2, none⟩) from (hr 5 _ _ (by decide) rfl rfl rfl).trans (hp 5 (by decide) rfl)) un)
  refine JLr (Zh Xb rfl (At.bx 10 (Zn ((hB 0 (by decide)).trans rfl))) (pkT_2 ..) <| Za ?_)
  exact ⟨.agg ⟨sC ref⟩, [], rfl, (Sub.emp Sub.refl), rfl⟩
 ·intro ρ r4 N4 B hB hBa hp hr hr0
  obtain ⟨ρ13, rfl⟩ := Zc (uc (show ρ 4 = .pointer (some ⟨b2, 0, none⟩) from hr0 4 (by kernel_rfl)) un)
  refine JLq (.pointer (some ⟨b2, 35, none⟩)) (YP rfl rfl) <| Za ?_
  exact ⟨.pointer (some ⟨b2, 35, none⟩), [], rfl, (Sub.emp Sub.refl), rfl⟩
 ·intro ρ r4 N4 B hB hBa hp hr hr0
  obtain ⟨ρ14, rfl⟩ := Zc (uc (show ρ 20 = .pointer (some ⟨b2, 35, none⟩) from (hr 7 _ _ (by decide) rfl rfl rfl).trans (hp 7 (by decide) rfl)) un)
  refine JLr (Zf ty25 rfl (At.bx 10 (Zn ((hB 0 (by decide)).trans rfl))) (YI ..) <| Za ?_)
  exact ⟨cv, [], rfl, (Sub.emp Sub.refl), rfl⟩
 ·intro ρ r4 N4 B hB hBa hp hr hr0
  obtain ⟨ρ15, rfl⟩ := Zc (uc (show ρ 21 = cv from (hr 8 _ _ (by decide) rfl rfl rfl).trans (hp 8 (by decide) rfl)) un)
  refine JLq (.int .i64 ((cases.length : Int))) (Pu.lenSl Tryz.runUnderlying25 hv5) <| Za ?_
  exact ⟨.int .i64 ((cases.length : Int)), [], rfl, (Sub.emp Sub.refl), rfl⟩
 intro ρ r4 N4 hp hr hr0
 obtain ⟨ρ16, rfl⟩ := Zc (uc (show ρ 2 = .int .i64 b from hr0 2 (by kernel_rfl)) (uc (show ρ 3 = .pointer (some ⟨b1, 0, none⟩) from hr0 3 (by kernel_rfl)) (uc (show ρ 4 = .pointer (some ⟨b2, 0, none⟩) from hr0 4 (by kernel_rfl)) (uc (show ρ 6 = .int .i64 0 from hr0 6 (by kernel_rfl)) (uc (show ρ 15 = .agg ⟨[.bool (fN kind), .bool (fR kind), .bool (fC kind)]⟩ from (hr 2 _ _ (by decide) rfl rfl).trans (hp 2 (by decide))) (uc (show ρ 17 = .int .i64 num from (hr 4 _ _ (by decide) rfl rfl).trans (hp 4 (by decide))) (uc (show ρ 19 = .agg ⟨sC ref⟩ from (hr 6 _ _ (by decide) rfl rfl).trans (hp 6 (by decide))) (uc (show ρ 22 = .int .i64 ((cases.length : Int)) from (hr 9 _ _ (by decide) rfl rfl).trans (hp 9 (by decide))) un))))))))
 clear hp hr hr0 
 refine Zq (M' := [(N4 0), (N4 1), (N4 2), (N4 3), (N4 4), (N4 5), (N4 6), (N4 7), (N4 8), (N4 9), [(b2, .cells ⟨pkT kind num ref ks cv⟩ 27 (0, 0))], [(b1, .cells ⟨[.int .i64 m, .func (.func 87) ⟨[]⟩ ⟨[.pointer (some ⟨bD, 0, none⟩)]⟩]⟩ 141 (0, 0))]]) Sub.refl <| Zq (M' := [[(b2, .cells ⟨pkT kind num ref ks cv⟩ 27 (0, 0))], [(b1, .cells ⟨[.int .i64 m, .func (.func 87) ⟨[]⟩ ⟨[.pointer (some ⟨bD, 0, none⟩)]⟩]⟩ 141 (0, 0))]]) (Sd (Sd (Sd (Sd (Sd (Sd (Sd (Sd (Sd (Sd (Sk (Sk Sub.nil)))))))))))) ?_
 show JL _ _ _ [_, _] _ _ _
 refine Zg rfl Tryz.call158 rfl (fun hin => clash_ct _ _ _ _ _ _ _) rfl ?_
 rintro _ _ ⟨rfl, rfl⟩
 refine JLa (.bool (clashB (fN kind) (fR kind) (fC kind) num ref ((cases.length : Int)))) <| Za <| Zi (b := clashB (fN kind) (fR kind) (fC kind) num ref ((cases.length : Int))) rfl (fun h17 => ?_) (fun h17 => ?_)
 ·refine Zd <| Zb <| JLa (.int .i64 7) <| Za <| Zl <| ⟨.int .i64 7, [], Ret.one rfl (RV.tmp rfl), Sub.nil, ?_⟩
  exact ⟨by refine congrArg (Value.int .i64) ?_; simp only [Yr]; (repeat' split) <;> first | rfl | omega | (exfalso; simp_all; done) | (exfalso; simp_all; omega) | grind, rfl⟩
 refine Yo (fun ρ M => ρ 2 = .int .i64 b ∧ ρ 3 = .pointer (some ⟨b1, 0, none⟩) ∧ ρ 4 = .pointer (some ⟨b2, 0, none⟩) ∧ ρ 6 = .int .i64 0 ∧ ρ 24 = .bool ((!(kidsB kind ((kids.length : Int)))) || (decide (8 < (cases.length : Int)))) ∧ M = [[(b2, .cells ⟨pkT kind num ref ks cv⟩ 27 (0, 0))], [(b1, .cells ⟨[.int .i64 m, .func (.func 87) ⟨[]⟩ ⟨[.pointer (some ⟨bD, 0, none⟩)]⟩]⟩ 141 (0, 0))]]) ?_ ?_
 ·refine Zb <| JLq (.pointer (some ⟨b2, 0, none⟩)) (ZY rfl rfl) <| JLr (Zf ty3 rfl (At.bx 0 rfl) (Yg ..) <| JLq (.pointer (some ⟨b2, 34, none⟩)) (Yq rfl rfl) <| JLr (Zf ty24 rfl (At.bx 0 rfl) (Yu ..) ?_))
  obtain ⟨a18, cap18, hv18⟩ := hks.sl
  have hle18 := hks.le
  refine JLq (.int .i64 ((kids.length : Int))) (Pu.lenSl Tryz.runUnderlying24 hv18) <| Zg rfl Tryz.call160 rfl (fun hin => kidsT_ct _ _ _) rfl ?_
  rintro _ _ ⟨rfl, rfl⟩
  refine JLq (.bool (!(kidsB kind ((kids.length : Int))))) (Pu.not rfl) <| JLm (.bool (!(kidsB kind ((kids.length : Int))))) ?_
  cases h19 : (!(kidsB kind ((kids.length : Int)))) with
  | true =>
   replace h19 := nt h19
   iterate 4 refine Zy rfl ?_
   refine JLq (.bool true) (Pu.pickT rfl rfl) <| JLa (.bool true) <| Za ?_
   first | exact ⟨rfl, rfl, rfl, rfl, rfl, rfl⟩ | (exfalso; omega)
  | false =>
   replace h19 := nf h19
   refine JLq (.pointer (some ⟨b2, 35, none⟩)) (YP rfl rfl) <| JLr (Zf ty25 rfl (At.bx 0 rfl) (YI ..) ?_)
   obtain ⟨a20, cap20, hv20⟩ := hcv.sl
   have hle20 := hcv.le
   refine JLq (.int .i64 ((cases.length : Int))) (Pu.lenSl Tryz.runUnderlying25 hv20) <| JLq (.bool (decide (8 < (cases.length : Int)))) (Pu.gtr rfl rfl) <| JLq (.bool (decide (8 < (cases.length : Int)))) (Pu.pickF rfl rfl) <| JLa (.bool (decide (8 < (cases.length : Int)))) <| Za ?_
   first | exact ⟨rfl, rfl, rfl, rfl, rfl, rfl⟩ | (exfalso; omega)
 rintro ρ21 _ ⟨e22, e23, e24, e25, e26, rfl⟩
 obtain ⟨ρ27, rfl⟩ := Zc (uc e22 (uc e23 (uc e24 (uc e25 (uc e26 un)))))
 clear e22 e23 e24 e25 e26
 refine Zi (b := (!(kidsB kind ((kids.length : Int)))) || (decide (8 < (cases.length : Int)))) rfl (fun h28 => ?_) (fun h28 => ?_)
 ·refine Zd <| Zb <| JLa (.int .i64 2) <| Za <| Zl <| ⟨.int .i64 2, [], Ret.one rfl (RV.tmp rfl), Sub.nil, ?_⟩
  exact ⟨by refine congrArg (Value.int .i64) ?_; simp only [Yr]; (repeat' split) <;> first | rfl | omega | (exfalso; simp_all; done) | (exfalso; simp_all; omega) | grind, rfl⟩
 obtain ⟨h28a, h28b⟩ := orF h28
 replace h28a := nf h28a
 replace h28b := df h28b
 refine Zp <| Zd <| Zb <| JLa (.int .i64 1073741824) <| Za <| Zd <| Zd <| Zb <| JLq (.pointer (some ⟨b2, 0, none⟩)) (ZY rfl rfl) <| JLr (Zf ty3 rfl (At.bx 0 rfl) (Yg ..) <| Za <| Zs <| Zd ?_)
 refine Zb <| JLq (.bool (decide (kind = 10))) (Pu.eql rfl rfl) <| JLa (.bool (decide (kind = 10))) <| Za <| Zi (b := decide (kind = 10)) rfl (fun h29 => ?_) (fun h29 => ?_)
 ·replace h29 := dt h29
  refine Zd <| Zb <| JLq (.pointer (some ⟨b2, 1, none⟩)) (Z4 rfl rfl) <| JLr (Zf ty3 rfl (At.bx 0 rfl) (Yn ..) <| Zg rfl Tryz.call79 rfl (fun hin => Yc _ _ _ _) rfl ?_)
  rintro _ _ ⟨rfl, rfl⟩
  refine Za <| Zi (b := decide (num < 1 ∨ 5 < num)) rfl (fun h30 => ?_) (fun h30 => ?_)
  ·replace h30 := dt h30
   refine Zd <| Zb <| JLa (.int .i64 3) <| Za <| Zl <| ⟨.int .i64 3, [], Ret.one rfl (RV.tmp rfl), Sub.nil, ?_⟩
   exact ⟨by refine congrArg (Value.int .i64) ?_; simp only [Yr]; (repeat' split) <;> first | rfl | omega | (exfalso; simp_all; done) | (exfalso; simp_all; omega) | grind, rfl⟩
  replace h30 := df h30
  refine Zp <| Zd <| Yo (fun ρ M => ρ 6 = .int .i64 0 ∧ ρ 87 = .bool ((((decide (kind = 2)) || (decide (kind = 8))) || (decide (kind = 11))) && (decide (num < 0 ∨ 1073741824 < num))) ∧ M = [[(b2, .cells ⟨pkT kind num ref ks cv⟩ 27 (0, 0))], [(b1, .cells ⟨[.int .i64 m, .func (.func 87) ⟨[]⟩ ⟨[.pointer (some ⟨bD, 0, none⟩)]⟩]⟩ 141 (0, 0))]]) ?_ ?_
  ·refine Zb <| JLq (.pointer (some ⟨b2, 0, none⟩)) (ZY rfl rfl) <| JLr (Zf ty3 rfl (At.bx 0 rfl) (Yg ..) <| JLq (.bool (decide (kind = 2))) (Pu.eql rfl rfl) <| JLm (.bool (decide (kind = 2))) ?_)
   cases h31 : (decide (kind = 2)) with
   | true =>
    replace h31 := dt h31
    iterate 3 refine Zy rfl ?_
    refine JLq (.bool true) (Pu.pickT rfl rfl) <| JLm (.bool true) ?_
    iterate 3 refine Zy rfl ?_
    refine JLq (.bool true) (Pu.pickT rfl rfl) <| JLm (.bool true) <| JLq (.pointer (some ⟨b2, 1, none⟩)) (Z4 rfl rfl) <| JLr (Zf ty3 rfl (At.bx 0 rfl) (Yn ..) <| JLm (.int .i64 1073741824) <| Zg rfl Tryz.call79 rfl (fun hin => Yc _ _ _ _) rfl ?_)
    rintro _ _ ⟨rfl, rfl⟩
    refine JLq (.bool (decide (num < 0 ∨ 1073741824 < num))) (Pu.pickT rfl rfl) <| Za ?_
    first | exact ⟨rfl, rfl, rfl⟩ | (exfalso; omega)
   | false =>
    replace h31 := df h31
    refine JLq (.pointer (some ⟨b2, 0, none⟩)) (ZY rfl rfl) <| JLr (Zf ty3 rfl (At.bx 0 rfl) (Yg ..) <| JLq (.bool (decide (kind = 8))) (Pu.eql rfl rfl) <| JLq (.bool (decide (kind = 8))) (Pu.pickF rfl rfl) <| JLm (.bool (decide (kind = 8))) ?_)
    cases h32 : (decide (kind = 8)) with
    | true =>
     replace h32 := dt h32
     iterate 3 refine Zy rfl ?_
     refine JLq (.bool true) (Pu.pickT rfl rfl) <| JLm (.bool true) <| JLq (.pointer (some ⟨b2, 1, none⟩)) (Z4 rfl rfl) <| JLr (Zf ty3 rfl (At.bx 0 rfl) (Yn ..) <| JLm (.int .i64 1073741824) <| Zg rfl Tryz.call79 rfl (fun hin => Yc _ _ _ _) rfl ?_)
     rintro _ _ ⟨rfl, rfl⟩
     refine JLq (.bool (decide (num < 0 ∨ 1073741824 < num))) (Pu.pickT rfl rfl) <| Za ?_
     first | exact ⟨rfl, rfl, rfl⟩ | (exfalso; omega)
    | false =>
     replace h32 := df h32
     refine JLq (.pointer (some ⟨b2, 0, none⟩)) (ZY rfl rfl) <| JLr (Zf ty3 rfl (At.bx 0 rfl) (Yg ..) <| JLq (.bool (decide (kind = 11))) (Pu.eql rfl rfl) <| JLq (.bool (decide (kind = 11))) (Pu.pickF rfl rfl) <| JLm (.bool (decide (kind = 11))) ?_)
     cases h33 : (decide (kind = 11)) with
     | true =>
      replace h33 := dt h33
      refine JLq (.pointer (some ⟨b2, 1, none⟩)) (Z4 rfl rfl) <| JLr (Zf ty3 rfl (At.bx 0 rfl) (Yn ..) <| JLm (.int .i64 1073741824) <| Zg rfl Tryz.call79 rfl (fun hin => Yc _ _ _ _) rfl ?_)
      rintro _ _ ⟨rfl, rfl⟩
      refine JLq (.bool (decide (num < 0 ∨ 1073741824 < num))) (Pu.pickT rfl rfl) <| Za ?_
      first | exact ⟨rfl, rfl, rfl⟩ | (exfalso; omega)
     | false =>
      replace h33 := df h33
      iterate 4 refine Zy rfl ?_
      refine JLq (.bool false) (Pu.pickF rfl rfl) <| Za ?_
      first | exact ⟨rfl, rfl, rfl⟩ | (exfalso; omega)
  rintro ρ34 _ ⟨e35, e36, rfl⟩
  obtain ⟨ρ37, rfl⟩ := Zc (uc e35 (uc e36 un))
  clear e35 e36
  refine Zi (b := (((decide (kind = 2)) || (decide (kind = 8))) || (decide (kind = 11))) && (decide (num < 0 ∨ 1073741824 < num))) rfl (fun h38 => ?_) (fun h38 => ?_)
  ·obtain ⟨h38a, h38b⟩ := andT h38
   replace h38b := dt h38b
   refine Zd <| Zb <| JLa (.int .i64 3) <| Za <| Zl <| ⟨.int .i64 3, [], Ret.one rfl (RV.tmp rfl), Sub.nil, ?_⟩
   exact ⟨by refine congrArg (Value.int .i64) ?_; simp only [Yr]; (repeat' split) <;> first | rfl | omega | (exfalso; simp_all; done) | (exfalso; simp_all; omega) | grind, rfl⟩
  refine Zp <| Zd <| Zb <| JLa (.int .i64 0) <| Za <| Zl <| ⟨.int .i64 0, [], Ret.one rfl (RV.tmp rfl), Sub.nil, ?_⟩
  exact ⟨by refine congrArg (Value.int .i64) ?_; simp only [Yr]; (repeat' split) <;> first | rfl | omega | (exfalso; simp_all; done) | (exfalso; simp_all; omega) | grind, rfl⟩
 replace h29 := df h29
 refine Zd <| Zd <| Zb <| JLq (.bool (decide (kind = 8))) (Pu.eql rfl rfl) <| JLa (.bool (decide (kind = 8))) <| Za <| Zi (b := decide (kind = 8)) rfl (fun h39 => ?_) (fun h39 => ?_)
 ·replace h39 := dt h39
  refine Zp <| Zi (b := decide (kind = 8)) rfl (fun _ => ?_) (fun h40 => absurd h39 (df h40))
  refine Zb <| JLa (.int .i64 7) <| Za <| Zd <| Yo (fun ρ M => ρ 6 = .int .i64 0 ∧ ρ 87 = .bool ((((decide (kind = 2)) || (decide (kind = 8))) || (decide (kind = 11))) && (decide (num < 0 ∨ 7 < num))) ∧ M = [[(b2, .cells ⟨pkT kind num ref ks cv⟩ 27 (0, 0))], [(b1, .cells ⟨[.int .i64 m, .func (.func 87) ⟨[]⟩ ⟨[.pointer (some ⟨bD, 0, none⟩)]⟩]⟩ 141 (0, 0))]]) ?_ ?_
  ·refine Zb <| JLq (.pointer (some ⟨b2, 0, none⟩)) (ZY rfl rfl) <| JLr (Zf ty3 rfl (At.bx 0 rfl) (Yg ..) <| JLq (.bool (decide (kind = 2))) (Pu.eql rfl rfl) <| JLm (.bool (decide (kind = 2))) ?_)
   cases h41 : (decide (kind = 2)) with
   | true =>
    replace h41 := dt h41
    iterate 3 refine Zy rfl ?_
    refine JLq (.bool true) (Pu.pickT rfl rfl) <| JLm (.bool true) ?_
    iterate 3 refine Zy rfl ?_
    refine JLq (.bool true) (Pu.pickT rfl rfl) <| JLm (.bool true) <| JLq (.pointer (some ⟨b2, 1, none⟩)) (Z4 rfl rfl) <| JLr (Zf ty3 rfl (At.bx 0 rfl) (Yn ..) <| JLm (.int .i64 7) <| Zg rfl Tryz.call79 rfl (fun hin => Yc _ _ _ _) rfl ?_)
    rintro _ _ ⟨rfl, rfl⟩
    refine JLq (.bool (decide (num < 0 ∨ 7 < num))) (Pu.pickT rfl rfl) <| Za ?_
    first | exact ⟨rfl, rfl, rfl⟩ | (exfalso; omega)
   | false =>
    replace h41 := df h41
    refine JLq (.pointer (some ⟨b2, 0, none⟩)) (ZY rfl rfl) <| JLr (Zf ty3 rfl (At.bx 0 rfl) (Yg ..) <| JLq (.bool (decide (kind = 8))) (Pu.eql rfl rfl) <| JLq (.bool (decide (kind = 8))) (Pu.pickF rfl rfl) <| JLm (.bool (decide (kind = 8))) ?_)
    cases h42 : (decide (kind = 8)) with
    | true =>
     replace h42 := dt h42
     iterate 3 refine Zy rfl ?_
     refine JLq (.bool true) (Pu.pickT rfl rfl) <| JLm (.bool true) <| JLq (.pointer (some ⟨b2, 1, none⟩)) (Z4 rfl rfl) <| JLr (Zf ty3 rfl (At.bx 0 rfl) (Yn ..) <| JLm (.int .i64 7) <| Zg rfl Tryz.call79 rfl (fun hin => Yc _ _ _ _) rfl ?_)
     rintro _ _ ⟨rfl, rfl⟩
     refine JLq (.bool (decide (num < 0 ∨ 7 < num))) (Pu.pickT rfl rfl) <| Za ?_
     first | exact ⟨rfl, rfl, rfl⟩ | (exfalso; omega)
    | false =>
     replace h42 := df h42
     refine JLq (.pointer (some ⟨b2, 0, none⟩)) (ZY rfl rfl) <| JLr (Zf ty3 rfl (At.bx 0 rfl) (Yg ..) <| JLq (.bool (decide (kind = 11))) (Pu.eql rfl rfl) <| JLq (.bool (decide (kind = 11))) (Pu.pickF rfl rfl) <| JLm (.bool (decide (kind = 11))) ?_)
     cases h43 : (decide (kind = 11)) with
     | true =>
      replace h43 := dt h43
      refine JLq (.pointer (some ⟨b2, 1, none⟩)) (Z4 rfl rfl) <| JLr (Zf ty3 rfl (At.bx 0 rfl) (Yn ..) <| JLm (.int .i64 7) <| Zg rfl Tryz.call79 rfl (fun hin => Yc _ _ _ _) rfl ?_)
      rintro _ _ ⟨rfl, rfl⟩
      refine JLq (.bool (decide (num < 0 ∨ 7 < num))) (Pu.pickT rfl rfl) <| Za ?_
      first | exact ⟨rfl, rfl, rfl⟩ | (exfalso; omega)
     | false =>
      replace h43 := df h43
      iterate 4 refine Zy rfl ?_
      refine JLq (.bool false) (Pu.pickF rfl rfl) <| Za ?_
      first | exact ⟨rfl, rfl, rfl⟩ | (exfalso; omega)
  rintro ρ44 _ ⟨e45, e46, rfl⟩
  obtain ⟨ρ47, rfl⟩ := Zc (uc e45 (uc e46 un))
  clear e45 e46
  refine Zi (b := (((decide (kind = 2)) || (decide (kind = 8))) || (decide (kind = 11))) && (decide (num < 0 ∨ 7 < num))) rfl (fun h48 => ?_) (fun h48 => ?_)
  ·obtain ⟨h48a, h48b⟩ := andT h48
   replace h48b := dt h48b
   refine Zd <| Zb <| JLa (.int .i64 3) <| Za <| Zl <| ⟨.int .i64 3, [], Ret.one rfl (RV.tmp rfl), Sub.nil, ?_⟩
   exact ⟨by refine congrArg (Value.int .i64) ?_; simp only [Yr]; (repeat' split) <;> first | rfl | omega | (exfalso; simp_all; done) | (exfalso; simp_all; omega) | grind, rfl⟩
  refine Zp <| Zd <| Zb <| JLa (.int .i64 0) <| Za <| Zl <| ⟨.int .i64 0, [], Ret.one rfl (RV.tmp rfl), Sub.nil, ?_⟩
  exact ⟨by refine congrArg (Value.int .i64) ?_; simp only [Yr]; (repeat' split) <;> first | rfl | omega | (exfalso; simp_all; done) | (exfalso; simp_all; omega) | grind, rfl⟩
 replace h39 := df h39
 refine Zb <| JLq (.bool (decide (kind = 11))) (Pu.eql rfl rfl) <| JLa (.bool (decide (kind = 11))) <| Za <| Zi (b := decide (kind = 11)) rfl (fun h49 => ?_) (fun h49 => ?_)
 ·replace h49 := dt h49
  refine Zb <| JLa (.int .i64 7) <| Za <| Zd <| Yo (fun ρ M => ρ 6 = .int .i64 0 ∧ ρ 87 = .bool ((((decide (kind = 2)) || (decide (kind = 8))) || (decide (kind = 11))) && (decide (num < 0 ∨ 7 < num))) ∧ M = [[(b2, .cells ⟨pkT kind num ref ks cv⟩ 27 (0, 0))], [(b1, .cells ⟨[.int .i64 m, .func (.func 87) ⟨[]⟩ ⟨[.pointer (some ⟨bD, 0, none⟩)]⟩]⟩ 141 (0, 0))]]) ?_ ?_
  ·refine Zb <| JLq (.pointer (some ⟨b2, 0, none⟩)) (ZY rfl rfl) <| JLr (Zf ty3 rfl (At.bx 0 rfl) (Yg ..) <| JLq (.bool (decide (kind = 2))) (Pu.eql rfl rfl) <| JLm (.bool (decide (kind = 2))) ?_)
   cases h50 : (decide (kind = 2)) with
   | true =>
    replace h50 := dt h50
    iterate 3 refine Zy rfl ?_
    refine JLq (.bool true) (Pu.pickT rfl rfl) <| JLm (.bool true) ?_
    iterate 3 refine Zy rfl ?_
    refine JLq (.bool true) (Pu.pickT rfl rfl) <| JLm (.bool true) <| JLq (.pointer (some ⟨b2, 1, none⟩)) (Z4 rfl rfl) <| JLr (Zf ty3 rfl (At.bx 0 rfl) (Yn ..) <| JLm (.int .i64 7) <| Zg rfl Tryz.call79 rfl (fun hin => Yc _ _ _ _) rfl ?_)
    rintro _ _ ⟨rfl, rfl⟩
    refine JLq (.bool (decide (num < 0 ∨ 7 < num))) (Pu.pickT rfl rfl) <| Za ?_
    first | exact ⟨rfl, rfl, rfl⟩ | (exfalso; omega)
   | false =>
    replace h50 := df h50
    refine JLq (.pointer (some ⟨b2, 0, none⟩)) (ZY rfl rfl) <| JLr (Zf ty3 rfl (At.bx 0 rfl) (Yg ..) <| JLq (.bool (decide (kind = 8))) (Pu.eql rfl rfl) <| JLq (.bool (decide (kind = 8))) (Pu.pickF rfl rfl) <| JLm (.bool (decide (kind = 8))) ?_)
    cases h51 : (decide (kind = 8)) with
    | true =>
     replace h51 := dt h51
     iterate 3 refine Zy rfl ?_
     refine JLq (.bool true) (Pu.pickT rfl rfl) <| JLm (.bool true) <| JLq (.pointer (some ⟨b2, 1, none⟩)) (Z4 rfl rfl) <| JLr (Zf ty3 rfl (At.bx 0 rfl) (Yn ..) <| JLm (.int .i64 7) <| Zg rfl Tryz.call79 rfl (fun hin => Yc _ _ _ _) rfl ?_)
     rintro _ _ ⟨rfl, rfl⟩
     refine JLq (.bool (decide (num < 0 ∨ 7 < num))) (Pu.pickT rfl rfl) <| Za ?_
     first | exact ⟨rfl, rfl, rfl⟩ | (exfalso; omega)
    | false =>
     replace h51 := df h51
     refine JLq (.pointer (some ⟨b2, 0, none⟩)) (ZY rfl rfl) <| JLr (Zf ty3 rfl (At.bx 0 rfl) (Yg ..) <| JLq (.bool (decide (kind = 11))) (Pu.eql rfl rfl) <| JLq (.bool (decide (kind = 11))) (Pu.pickF rfl rfl) <| JLm (.bool (decide (kind = 11))) ?_)
     cases h52 : (decide (kind = 11)) with
     | true =>
      replace h52 := dt h52
      refine JLq (.pointer (some ⟨b2, 1, none⟩)) (Z4 rfl rfl) <| JLr (Zf ty3 rfl (At.bx 0 rfl) (Yn ..) <| JLm (.int .i64 7) <| Zg rfl Tryz.call79 rfl (fun hin => Yc _ _ _ _) rfl ?_)
      rintro _ _ ⟨rfl, rfl⟩
      refine JLq (.bool (decide (num < 0 ∨ 7 < num))) (Pu.pickT rfl rfl) <| Za ?_
      first | exact ⟨rfl, rfl, rfl⟩ | (exfalso; omega)
     | false =>
      replace h52 := df h52
      iterate 4 refine Zy rfl ?_
      refine JLq (.bool false) (Pu.pickF rfl rfl) <| Za ?_
      first | exact ⟨rfl, rfl, rfl⟩ | (exfalso; omega)
  rintro ρ53 _ ⟨e54, e55, rfl⟩
  obtain ⟨ρ56, rfl⟩ := Zc (uc e54 (uc e55 un))
  clear e54 e55
  refine Zi (b := (((decide (kind = 2)) || (decide (kind = 8))) || (decide (kind = 11))) && (decide (num < 0 ∨ 7 < num))) rfl (fun h57 => ?_) (fun h57 => ?_)
  ·obtain ⟨h57a, h57b⟩ := andT h57
   replace h57b := dt h57b
   refine Zd <| Zb <| JLa (.int .i64 3) <| Za <| Zl <| ⟨.int .i64 3, [], Ret.one rfl (RV.tmp rfl), Sub.nil, ?_⟩
   exact ⟨by refine congrArg (Value.int .i64) ?_; simp only [Yr]; (repeat' split) <;> first | rfl | omega | (exfalso; simp_all; done) | (exfalso; simp_all; omega) | grind, rfl⟩
  refine Zp <| Zd <| Zb <| JLa (.int .i64 0) <| Za <| Zl <| ⟨.int .i64 0, [], Ret.one rfl (RV.tmp rfl), Sub.nil, ?_⟩
  exact ⟨by refine congrArg (Value.int .i64) ?_; simp only [Yr]; (repeat' split) <;> first | rfl | omega | (exfalso; simp_all; done) | (exfalso; simp_all; omega) | grind, rfl⟩
 replace h49 := df h49
 refine Zd <| Zb <| JLq (.bool (decide (kind = 1))) (Pu.eql rfl rfl) <| JLa (.bool (decide (kind = 1))) <| Za <| Zi (b := decide (kind = 1)) rfl (fun h58 => ?_) (fun h58 => ?_)
 ·replace h58 := dt h58
  refine Zd <| Zb <| JLq (.pointer (some ⟨b1, 1, none⟩)) (fa141_1 rfl rfl) <| JLr (Zf ty139 rfl (At.bx 1 rfl) rfl <| JLq (.pointer (some ⟨b2, 1, none⟩)) (Z4 rfl rfl) <| JLr (Zf ty3 rfl (At.bx 0 rfl) (Yn ..) <| JLm (.int .i64 b) <| Zg rfl Tryz.call87 rfl (fun hin => known_ct _ _ _ _ bD (Hle.hu _ _ _ _ hD) hb0 hb1 hn1 hn2) rfl ?_))
  rintro _ _ ⟨rfl, rfl⟩
  refine JLq (.bool (!(knownB d num b))) (Pu.not rfl) <| Za <| Zi (b := !(knownB d num b)) rfl (fun h59 => ?_) (fun h59 => ?_)
  ·replace h59 := nt h59
   refine Zd <| Zb <| JLa (.int .i64 1) <| Za <| Zl <| ⟨.int .i64 1, [], Ret.one rfl (RV.tmp rfl), Sub.nil, ?_⟩
   exact ⟨by refine congrArg (Value.int .i64) ?_; simp only [Yr]; (repeat' split) <;> first | rfl | omega | (exfalso; simp_all; done) | (exfalso; simp_all; omega) | grind, rfl⟩
  replace h59 := nf h59
  refine Zp <| Zd <| Yo (fun ρ M => ρ 6 = .int .i64 0 ∧ ρ 87 = .bool ((((decide (kind = 2)) || (decide (kind = 8))) || (decide (kind = 11))) && (decide (num < 0 ∨ 1073741824 < num))) ∧ M = [[(b2, .cells ⟨pkT kind num ref ks cv⟩ 27 (0, 0))], [(b1, .cells ⟨[.int .i64 m, .func (.func 87) ⟨[]⟩ ⟨[.pointer (some ⟨bD, 0, none⟩)]⟩]⟩ 141 (0, 0))]]) ?_ ?_
  ·refine Zb <| JLq (.pointer (some ⟨b2, 0, none⟩)) (ZY rfl rfl) <| JLr (Zf ty3 rfl (At.bx 0 rfl) (Yg ..) <| JLq (.bool (decide (kind = 2))) (Pu.eql rfl rfl) <| JLm (.bool (decide (kind = 2))) ?_)
   cases h60 : (decide (kind = 2)) with
   | true =>
    replace h60 := dt h60
    iterate 3 refine Zy rfl ?_
    refine JLq (.bool true) (Pu.pickT rfl rfl) <| JLm (.bool true) ?_
    iterate 3 refine Zy rfl ?_
    refine JLq (.bool true) (Pu.pickT rfl rfl) <| JLm (.bool true) <| JLq (.pointer (some ⟨b2, 1, none⟩)) (Z4 rfl rfl) <| JLr (Zf ty3 rfl (At.bx 0 rfl) (Yn ..) <| JLm (.int .i64 1073741824) <| Zg rfl Tryz.call79 rfl (fun hin => Yc _ _ _ _) rfl ?_)
    rintro _ _ ⟨rfl, rfl⟩
    refine JLq (.bool (decide (num < 0 ∨ 1073741824 < num))) (Pu.pickT rfl rfl) <| Za ?_
    first | exact ⟨rfl, rfl, rfl⟩ | (exfalso; omega)
   | false =>
    replace h60 := df h60
    refine JLq (.pointer (some ⟨b2, 0, none⟩)) (ZY rfl rfl) <| JLr (Zf ty3 rfl (At.bx 0 rfl) (Yg ..) <| JLq (.bool (decide (kind = 8))) (Pu.eql rfl rfl) <| JLq (.bool (decide (kind = 8))) (Pu.pickF rfl rfl) <| JLm (.bool (decide (kind = 8))) ?_)
    cases h61 : (decide (kind = 8)) with
    | true =>
     replace h61 := dt h61
     iterate 3 refine Zy rfl ?_
     refine JLq (.bool true) (Pu.pickT rfl rfl) <| JLm (.bool true) <| JLq (.pointer (some ⟨b2, 1, none⟩)) (Z4 rfl rfl) <| JLr (Zf ty3 rfl (At.bx 0 rfl) (Yn ..) <| JLm (.int .i64 1073741824) <| Zg rfl Tryz.call79 rfl (fun hin => Yc _ _ _ _) rfl ?_)
     rintro _ _ ⟨rfl, rfl⟩
     refine JLq (.bool (decide (num < 0 ∨ 1073741824 < num))) (Pu.pickT rfl rfl) <| Za ?_
     first | exact ⟨rfl, rfl, rfl⟩ | (exfalso; omega)
    | false =>
     replace h61 := df h61
     refine JLq (.pointer (some ⟨b2, 0, none⟩)) (ZY rfl rfl) <| JLr (Zf ty3 rfl (At.bx 0 rfl) (Yg ..) <| JLq (.bool (decide (kind = 11))) (Pu.eql rfl rfl) <| JLq (.bool (decide (kind = 11))) (Pu.pickF rfl rfl) <| JLm (.bool (decide (kind = 11))) ?_)
     cases h62 : (decide (kind = 11)) with
     | true =>
      replace h62 := dt h62
      refine JLq (.pointer (some ⟨b2, 1, none⟩)) (Z4 rfl rfl) <| JLr (Zf ty3 rfl (At.bx 0 rfl) (Yn ..) <| JLm (.int .i64 1073741824) <| Zg rfl Tryz.call79 rfl (fun hin => Yc _ _ _ _) rfl ?_)
      rintro _ _ ⟨rfl, rfl⟩
      refine JLq (.bool (decide (num < 0 ∨ 1073741824 < num))) (Pu.pickT rfl rfl) <| Za ?_
      first | exact ⟨rfl, rfl, rfl⟩ | (exfalso; omega)
     | false =>
      replace h62 := df h62
      iterate 4 refine Zy rfl ?_
      refine JLq (.bool false) (Pu.pickF rfl rfl) <| Za ?_
      first | exact ⟨rfl, rfl, rfl⟩ | (exfalso; omega)
  rintro ρ63 _ ⟨e64, e65, rfl⟩
  obtain ⟨ρ66, rfl⟩ := Zc (uc e64 (uc e65 un))
  clear e64 e65
  refine Zi (b := (((decide (kind = 2)) || (decide (kind = 8))) || (decide (kind = 11))) && (decide (num < 0 ∨ 1073741824 < num))) rfl (fun h67 => ?_) (fun h67 => ?_)
  ·obtain ⟨h67a, h67b⟩ := andT h67
   replace h67b := dt h67b
   refine Zd <| Zb <| JLa (.int .i64 3) <| Za <| Zl <| ⟨.int .i64 3, [], Ret.one rfl (RV.tmp rfl), Sub.nil, ?_⟩
   exact ⟨by refine congrArg (Value.int .i64) ?_; simp only [Yr]; (repeat' split) <;> first | rfl | omega | (exfalso; simp_all; done) | (exfalso; simp_all; omega) | grind, rfl⟩
  refine Zp <| Zd <| Zb <| JLa (.int .i64 0) <| Za <| Zl <| ⟨.int .i64 0, [], Ret.one rfl (RV.tmp rfl), Sub.nil, ?_⟩
  exact ⟨by refine congrArg (Value.int .i64) ?_; simp only [Yr]; (repeat' split) <;> first | rfl | omega | (exfalso; simp_all; done) | (exfalso; simp_all; omega) | grind, rfl⟩
 replace h58 := df h58
 refine Zd <| Zb <| JLq (.bool (decide (kind = 7))) (Pu.eql rfl rfl) <| JLa (.bool (decide (kind = 7))) <| Za <| Zi (b := decide (kind = 7)) rfl (fun h68 => ?_) (fun h68 => ?_)
 ·replace h68 := dt h68
  refine Yo (fun ρ M => ρ 4 = .pointer (some ⟨b2, 0, none⟩) ∧ ρ 6 = .int .i64 0 ∧ ρ 7 = .int .i64 1073741824 ∧ ρ 68 = .bool ((decide (num < 0)) || (decide (m ≤ num))) ∧ M = [[(b2, .cells ⟨pkT kind num ref ks cv⟩ 27 (0, 0))], [(b1, .cells ⟨[.int .i64 m, .func (.func 87) ⟨[]⟩ ⟨[.pointer (some ⟨bD, 0, none⟩)]⟩]⟩ 141 (0, 0))]]) ?_ ?_
  ·refine Zb <| JLq (.pointer (some ⟨b2, 1, none⟩)) (Z4 rfl rfl) <| JLr (Zf ty3 rfl (At.bx 0 rfl) (Yn ..) <| JLq (.bool (decide (num < 0))) (Pu.lss rfl rfl) <| JLm (.bool (decide (num < 0))) ?_)
   cases h69 : (decide (num < 0)) with
   | true =>
    replace h69 := dt h69
    iterate 5 refine Zy rfl ?_
    refine JLq (.bool true) (Pu.pickT rfl rfl) <| Za ?_
    first | exact ⟨rfl, rfl, rfl, rfl, rfl⟩ | (exfalso; omega)
   | false =>
    replace h69 := df h69
    refine JLq (.pointer (some ⟨b2, 1, none⟩)) (Z4 rfl rfl) <| JLr (Zf ty3 rfl (At.bx 0 rfl) (Yn ..) <| JLq (.pointer (some ⟨b1, 0, none⟩)) (fa141_0 rfl rfl) <| JLr (Zf ty3 rfl (At.bx 1 rfl) rfl <| JLq (.bool (decide (m ≤ num))) (Pu.geq rfl rfl) <| JLq (.bool (decide (m ≤ num))) (Pu.pickF rfl rfl) <| Za ?_))
    first | exact ⟨rfl, rfl, rfl, rfl, rfl⟩ | (exfalso; omega)
  rintro ρ70 _ ⟨e71, e72, e73, e74, rfl⟩
  obtain ⟨ρ75, rfl⟩ := Zc (uc e71 (uc e72 (uc e73 (uc e74 un))))
  clear e71 e72 e73 e74
  refine Zi (b := (decide (num < 0)) || (decide (m ≤ num))) rfl (fun h76 => ?_) (fun h76 => ?_)
  ·refine Zd <| Zb <| JLa (.int .i64 1) <| Za <| Zl <| ⟨.int .i64 1, [], Ret.one rfl (RV.tmp rfl), Sub.nil, ?_⟩
   exact ⟨by refine congrArg (Value.int .i64) ?_; simp only [Yr]; (repeat' split) <;> first | rfl | omega | (exfalso; simp_all; done) | (exfalso; simp_all; omega) | grind, rfl⟩
  obtain ⟨h76a, h76b⟩ := orF h76
  replace h76a := df h76a
  replace h76b := df h76b
  refine Zp <| Zd <| Yo (fun ρ M => ρ 6 = .int .i64 0 ∧ ρ 87 = .bool ((((decide (kind = 2)) || (decide (kind = 8))) || (decide (kind = 11))) && (decide (num < 0 ∨ 1073741824 < num))) ∧ M = [[(b2, .cells ⟨pkT kind num ref ks cv⟩ 27 (0, 0))], [(b1, .cells ⟨[.int .i64 m, .func (.func 87) ⟨[]⟩ ⟨[.pointer (some ⟨bD, 0, none⟩)]⟩]⟩ 141 (0, 0))]]) ?_ ?_
  ·refine Zb <| JLq (.pointer (some ⟨b2, 0, none⟩)) (ZY rfl rfl) <| JLr (Zf ty3 rfl (At.bx 0 rfl) (Yg ..) <| JLq (.bool (decide (kind = 2))) (Pu.eql rfl rfl) <| JLm (.bool (decide (kind = 2))) ?_)
   cases h77 : (decide (kind = 2)) with
   | true =>
    replace h77 := dt h77
    iterate 3 refine Zy rfl ?_
    refine JLq (.bool true) (Pu.pickT rfl rfl) <| JLm (.bool true) ?_
    iterate 3 refine Zy rfl ?_
    refine JLq (.bool true) (Pu.pickT rfl rfl) <| JLm (.bool true) <| JLq (.pointer (some ⟨b2, 1, none⟩)) (Z4 rfl rfl) <| JLr (Zf ty3 rfl (At.bx 0 rfl) (Yn ..) <| JLm (.int .i64 1073741824) <| Zg rfl Tryz.call79 rfl (fun hin => Yc _ _ _ _) rfl ?_)
    rintro _ _ ⟨rfl, rfl⟩
    refine JLq (.bool (decide (num < 0 ∨ 1073741824 < num))) (Pu.pickT rfl rfl) <| Za ?_
    first | exact ⟨rfl, rfl, rfl⟩ | (exfalso; omega)
   | false =>
    replace h77 := df h77
    refine JLq (.pointer (some ⟨b2, 0, none⟩)) (ZY rfl rfl) <| JLr (Zf ty3 rfl (At.bx 0 rfl) (Yg ..) <| JLq (.bool (decide (kind = 8))) (Pu.eql rfl rfl) <| JLq (.bool (decide (kind = 8))) (Pu.pickF rfl rfl) <| JLm (.bool (decide (kind = 8))) ?_)
    cases h78 : (decide (kind = 8)) with
    | true =>
     replace h78 := dt h78
     iterate 3 refine Zy rfl ?_
     refine JLq (.bool true) (Pu.pickT rfl rfl) <| JLm (.bool true) <| JLq (.pointer (some ⟨b2, 1, none⟩)) (Z4 rfl rfl) <| JLr (Zf ty3 rfl (At.bx 0 rfl) (Yn ..) <| JLm (.int .i64 1073741824) <| Zg rfl Tryz.call79 rfl (fun hin => Yc _ _ _ _) rfl ?_)
     rintro _ _ ⟨rfl, rfl⟩
     refine JLq (.bool (decide (num < 0 ∨ 1073741824 < num))) (Pu.pickT rfl rfl) <| Za ?_
     first | exact ⟨rfl, rfl, rfl⟩ | (exfalso; omega)
    | false =>
     replace h78 := df h78
     refine JLq (.pointer (some ⟨b2, 0, none⟩)) (ZY rfl rfl) <| JLr (Zf ty3 rfl (At.bx 0 rfl) (Yg ..) <| JLq (.bool (decide (kind = 11))) (Pu.eql rfl rfl) <| JLq (.bool (decide (kind = 11))) (Pu.pickF rfl rfl) <| JLm (.bool (decide (kind = 11))) ?_)
     cases h79 : (decide (kind = 11)) with
     | true =>
      replace h79 := dt h79
      refine JLq (.pointer (some ⟨b2, 1, none⟩)) (Z4 rfl rfl) <| JLr (Zf ty3 rfl (At.bx 0 rfl) (Yn ..) <| JLm (.int .i64 1073741824) <| Zg rfl Tryz.call79 rfl (fun hin => Yc _ _ _ _) rfl ?_)
      rintro _ _ ⟨rfl, rfl⟩
      refine JLq (.bool (decide (num < 0 ∨ 1073741824 < num))) (Pu.pickT rfl rfl) <| Za ?_
      first | exact ⟨rfl, rfl, rfl⟩ | (exfalso; omega)
     | false =>
      replace h79 := df h79
      iterate 4 refine Zy rfl ?_
      refine JLq (.bool false) (Pu.pickF rfl rfl) <| Za ?_
      first | exact ⟨rfl, rfl, rfl⟩ | (exfalso; omega)
  rintro ρ80 _ ⟨e81, e82, rfl⟩
  obtain ⟨ρ83, rfl⟩ := Zc (uc e81 (uc e82 un))
  clear e81 e82
  refine Zi (b := (((decide (kind = 2)) || (decide (kind = 8))) || (decide (kind = 11))) && (decide (num < 0 ∨ 1073741824 < num))) rfl (fun h84 => ?_) (fun h84 => ?_)
  ·obtain ⟨h84a, h84b⟩ := andT h84
   replace h84b := dt h84b
   refine Zd <| Zb <| JLa (.int .i64 3) <| Za <| Zl <| ⟨.int .i64 3, [], Ret.one rfl (RV.tmp rfl), Sub.nil, ?_⟩
   exact ⟨by refine congrArg (Value.int .i64) ?_; simp only [Yr]; (repeat' split) <;> first | rfl | omega | (exfalso; simp_all; done) | (exfalso; simp_all; omega) | grind, rfl⟩
  refine Zp <| Zd <| Zb <| JLa (.int .i64 0) <| Za <| Zl <| ⟨.int .i64 0, [], Ret.one rfl (RV.tmp rfl), Sub.nil, ?_⟩
  exact ⟨by refine congrArg (Value.int .i64) ?_; simp only [Yr]; (repeat' split) <;> first | rfl | omega | (exfalso; simp_all; done) | (exfalso; simp_all; omega) | grind, rfl⟩
 replace h68 := df h68
 refine Zp <| Zd <| Yo (fun ρ M => ρ 6 = .int .i64 0 ∧ ρ 87 = .bool ((((decide (kind = 2)) || (decide (kind = 8))) || (decide (kind = 11))) && (decide (num < 0 ∨ 1073741824 < num))) ∧ M = [[(b2, .cells ⟨pkT kind num ref ks cv⟩ 27 (0, 0))], [(b1, .cells ⟨[.int .i64 m, .func (.func 87) ⟨[]⟩ ⟨[.pointer (some ⟨bD, 0, none⟩)]⟩]⟩ 141 (0, 0))]]) ?_ ?_
 ·refine Zb <| JLq (.pointer (some ⟨b2, 0, none⟩)) (ZY rfl rfl) <| JLr (Zf ty3 rfl (At.bx 0 rfl) (Yg ..) <| JLq (.bool (decide (kind = 2))) (Pu.eql rfl rfl) <| JLm (.bool (decide (kind = 2))) ?_)
  cases h85 : (decide (kind = 2)) with
  | true =>
   replace h85 := dt h85
   iterate 3 refine Zy rfl ?_
   refine JLq (.bool true) (Pu.pickT rfl rfl) <| JLm (.bool true) ?_
   iterate 3 refine Zy rfl ?_
   refine JLq (.bool true) (Pu.pickT rfl rfl) <| JLm (.bool true) <| JLq (.pointer (some ⟨b2, 1, none⟩)) (Z4 rfl rfl) <| JLr (Zf ty3 rfl (At.bx 0 rfl) (Yn ..) <| JLm (.int .i64 1073741824) <| Zg rfl Tryz.call79 rfl (fun hin => Yc _ _ _ _) rfl ?_)
   rintro _ _ ⟨rfl, rfl⟩
   refine JLq (.bool (decide (num < 0 ∨ 1073741824 < num))) (Pu.pickT rfl rfl) <| Za ?_
   first | exact ⟨rfl, rfl, rfl⟩ | (exfalso; omega)
  | false =>
   replace h85 := df h85
   refine JLq (.pointer (some ⟨b2, 0, none⟩)) (ZY rfl rfl) <| JLr (Zf ty3 rfl (At.bx 0 rfl) (Yg ..) <| JLq (.bool (decide (kind = 8))) (Pu.eql rfl rfl) <| JLq (.bool (decide (kind = 8))) (Pu.pickF rfl rfl) <| JLm (.bool (decide (kind = 8))) ?_)
   cases h86 : (decide (kind = 8)) with
   | true =>
    replace h86 := dt h86
    iterate 3 refine Zy rfl ?_
    refine JLq (.bool true) (Pu.pickT rfl rfl) <| JLm (.bool true) <| JLq (.pointer (some ⟨b2, 1, none⟩)) (Z4 rfl rfl) <| JLr (Zf ty3 rfl (At.bx 0 rfl) (Yn ..) <| JLm (.int .i64 1073741824) <| Zg rfl Tryz.call79 rfl (fun hin => Yc _ _ _ _) rfl ?_)
    rintro _ _ ⟨rfl, rfl⟩
    refine JLq (.bool (decide (num < 0 ∨ 1073741824 < num))) (Pu.pickT rfl rfl) <| Za ?_
    first | exact ⟨rfl, rfl, rfl⟩ | (exfalso; omega)
   | false =>
    replace h86 := df h86
    refine JLq (.pointer (some ⟨b2, 0, none⟩)) (ZY rfl rfl) <| JLr (Zf ty3 rfl (At.bx 0 rfl) (Yg ..) <| JLq (.bool (decide (kind = 11))) (Pu.eql rfl rfl) <| JLq (.bool (decide (kind = 11))) (Pu.pickF rfl rfl) <| JLm (.bool (decide (kind = 11))) ?_)
    cases h87 : (decide (kind = 11)) with
    | true =>
     replace h87 := dt h87
     refine JLq (.pointer (some ⟨b2, 1, none⟩)) (Z4 rfl rfl) <| JLr (Zf ty3 rfl (At.bx 0 rfl) (Yn ..) <| JLm (.int .i64 1073741824) <| Zg rfl Tryz.call79 rfl (fun hin => Yc _ _ _ _) rfl ?_)
     rintro _ _ ⟨rfl, rfl⟩
     refine JLq (.bool (decide (num < 0 ∨ 1073741824 < num))) (Pu.pickT rfl rfl) <| Za ?_
     first | exact ⟨rfl, rfl, rfl⟩ | (exfalso; omega)
    | false =>
     replace h87 := df h87
     iterate 4 refine Zy rfl ?_
     refine JLq (.bool false) (Pu.pickF rfl rfl) <| Za ?_
     first | exact ⟨rfl, rfl, rfl⟩ | (exfalso; omega)
 rintro ρ88 _ ⟨e89, e90, rfl⟩
 obtain ⟨ρ91, rfl⟩ := Zc (uc e89 (uc e90 un))
 clear e89 e90
 refine Zi (b := (((decide (kind = 2)) || (decide (kind = 8))) || (decide (kind = 11))) && (decide (num < 0 ∨ 1073741824 < num))) rfl (fun h92 => ?_) (fun h92 => ?_)
 ·obtain ⟨h92a, h92b⟩ := andT h92
  replace h92b := dt h92b
  refine Zd <| Zb <| JLa (.int .i64 3) <| Za <| Zl <| ⟨.int .i64 3, [], Ret.one rfl (RV.tmp rfl), Sub.nil, ?_⟩
  exact ⟨by refine congrArg (Value.int .i64) ?_; simp only [Yr]; (repeat' split) <;> first | rfl | omega | (exfalso; simp_all; done) | (exfalso; simp_all; omega) | grind, rfl⟩
 refine Zp <| Zd <| Zb <| JLa (.int .i64 0) <| Za <| Zl <| ⟨.int .i64 0, [], Ret.one rfl (RV.tmp rfl), Sub.nil, ?_⟩
 exact ⟨by refine congrArg (Value.int .i64) ?_; simp only [Yr]; (repeat' split) <;> first | rfl | omega | (exfalso; simp_all; done) | (exfalso; simp_all; omega) | grind, rfl⟩
end Go.Proofs.YtmophpgiaiemhaaGreat.Hs
/-! Walks, printed by a program of this session's own (gen.py). -/
namespace Go.Proofs.YtmophpgiaiemhaaGreat.Hs
open Go Go.Proofs
set_option maxRecDepth 100000
set_option linter.unusedVariables false
set_option linter.unusedSimpArgs false
attribute [local irreducible] JL J CT wlo
theorem parts_ct (cs : List Value) (H : Heap) (hl : cs.length = 36) : CT Tryz.prog 130 ⟨[.agg ⟨cs⟩]⟩ [] H (fun v N => ∃ b, v = .func (.func 162) ⟨[]⟩ ⟨[.pointer (some ⟨b, 0, none⟩)]⟩ ∧ N = [[(b, .cells ⟨cs⟩ 27 (0, 0))]]) := by
 refine Zo Tryz.func130 rfl rfl <| Zd <| Zb <| JLr (Zt (l := cs) rfl rfl fun b1 => JLa .nilFunc <| Za <| Zd <| Zb <| JLq (.func (.func 162) ⟨[]⟩ ⟨[.pointer (some ⟨b1, 0, none⟩)]⟩) (Pu.makeFunc rfl rfl) <| JLa (.func (.func 162) ⟨[]⟩ ⟨[.pointer (some ⟨b1, 0, none⟩)]⟩) <| Za <| Zl <| ⟨.func (.func 162) ⟨[]⟩ ⟨[.pointer (some ⟨b1, 0, none⟩)]⟩, [[(b1, .cells ⟨cs⟩ 27 (0, 0))]], Ret.one rfl (RV.tmp rfl), (Sk Sub.nil), ?_⟩)
 exact ⟨_, rfl, rfl⟩
theorem parts1_ct (kind num : Int) (ref : Sm) (ks cv : Value) (kids : List Tm) (cases : List (Pt × Tm)) (H : Heap) (bT : Nat) (hks : rdS RT 36 H ks kids) (hcv : rdS RC 71 H cv cases) (hT : H bT = some (.cells ⟨pkT kind num ref ks cv⟩ 27 (0, 0))) (hsz : ∀ c ∈ cases, binds c.1 ≤ 1000000) (hkl : kids.length ≤ 1000000) (hcl : cases.length ≤ 1000000) (l : Nat) {σ : Type} (yc : σ → Zk) (Inv : σ → Prop) (step : Tm → Int → σ → Bool × σ) (s0 : σ) (h0 : Inv s0) (It : Tm → Int → Prop) (hIK : ∀ (j : Nat) (hj : j < kids.length), It kids[j] (more kind j)) (hIC : ∀ (j : Nat) (hj : j < cases.length), It cases[j].2 (binds cases[j].1 : Int)) (hI : ∀ x mo s, Inv s → (step x mo s).1 = true → Inv (step x mo s).2) (hy : ∀ x mo, It x mo → ∀ s (i : Int) a h, Inv s → Hle H h → RT h a x → YT Tryz.prog l ⟨[.int .i64 i, .agg ⟨a ++ [.int .i64 mo]⟩]⟩ [yc s] h (fun v N => v = .bool (step x mo s).1 ∧ N = [yc (step x mo s).2])) : CT Tryz.prog 162 ⟨[.func (.yield l) ⟨[]⟩ ⟨[]⟩, .pointer (some ⟨bT, 0, none⟩)]⟩ [yc s0] H (fun _ N => N = [yc (yP step kind kids cases s0)]) := by
 refine Zo Tryz.func162 rfl rfl <| Zd <| Zd <| Zb <| JLq (.pointer (some ⟨bT, 34, none⟩)) (Yq rfl rfl) <| JLr (Zf ty24 rfl (At.im hT) (Yu ..) ?_)
 obtain ⟨a1, cap1, hv1⟩ := hks.sl
 have hle1 := hks.le
 refine JLq (.int .i64 ((kids.length : Int))) (Pu.lenSl Tryz.runUnderlying24 hv1) <| JLm (.int .i64 0) <| Za <| Zs <| ZU (fun k ρ M => ∃ (j : Nat) (s : σ), ρ 0 = .func (.yield l) ⟨[]⟩ ⟨[]⟩ ∧ ρ 1 = .pointer (some ⟨bT, 0, none⟩) ∧ ρ 8 = ks ∧ ρ 9 = .int .i64 ((kids.length : Int)) ∧ ρ 10 = .int .i64 ((j : Int)) ∧ Sub [yc s] M ∧ j ≤ kids.length ∧ Inv s ∧ yK step kind j (kids.drop j) s = yK step kind 0 kids s0 ∧ k = kids.length - j) _ ⟨0, s0, rfl, rfl, rfl, rfl, rfl, (Sk Sub.nil), Nat.zero_le _, h0, rfl, rfl⟩ ?_
 rintro _ ρ2 _ ⟨j, s, e3, e4, e5, e6, e7, hm8, hj, hs, hinv, rfl⟩
 obtain ⟨ρ9, rfl⟩ := Zc (uc e3 (uc e4 (uc e5 (uc e6 (uc e7 un)))))
 clear e3 e4 e5 e6 e7
 refine Z1 hm8 ?_
 have hlen := hks.le
 refine Zd <| Zb <| JLq (.bool (decide ((j : Int) < (kids.length : Int)))) (Pu.lss rfl rfl) <| Za <| Zd <| Zi (b := decide ((j : Int) < (kids.length : Int))) rfl (fun h10 => ?_) (fun h10 => ?_)
 ·replace h10 := dt h10
  have h10n : j < kids.length := by omega
  refine Zp <| Zd <| Zs <| Zd <| Zb <| JLm (.int .i64 ((j : Int))) ?_
  obtain ⟨b11, o11, cap11, row11, T11, fr11, cs11, hv11, hb11, hs11, hE11⟩ := hks.get j (by first | assumption | omega | decide | simp)
  refine JLq (.pointer (some ⟨b11, o11 + j * 36, none⟩)) (Pu.idx j Tryz.runUnderlying24 Zu hv11 rfl rfl (by first | assumption | omega | decide | simp)) <| JLr (Zh Zu rfl (At.im hb11) hs11 <| JLr (Zj (l := pkT 0 0 zS (.slice none 0 0) (.slice none 0 0)) Tryz.zeroValue27 rfl fun b12 => JLa (.int .i64 ((j : Int))) <| JLr (Ze 0 (vs := cs11) (l := cs11) Zu rfl rfl rfl rfl (ZD hE11) (RT_ok hE11) (ZL (n := 36) rfl (ZD hE11)) <| Za <| Zd <| Ya mixed #[0, 0, 0, 0, 8, 0, 56, 124, 255, 511] 8 8 2 rfl (by kernel_rfl) (fun i r13 N13 => match i with | 0 => (r13 0) = .func (.yield l) ⟨[]⟩ ⟨[]⟩ | 1 => (r13 1) = .int .i64 ((j : Int)) | 2 => (r13 2) = .agg ⟨cs11⟩ | 3 => (r13 3) = .pointer (some ⟨bT, 0, none⟩) | 4 => (r13 4) = .int .i64 kind | 5 => (r13 5) = .int .i64 ((j : Int)) | 6 => (r13 6) = .int .i64 (more kind ((j : Int))) | 7 => (r13 7) = .agg ⟨cs11 ++ ([.int .i64 (more kind ((j : Int)))] : List Value)⟩ | _ => True) ⟨?_, ?_, ?_, ?_, ?_, ?_, ?_, ?_, trivial⟩ ?_)))
  ·intro ρ r13 N13 B hB hBa hp hr hr0
   obtain ⟨ρ14, rfl⟩ := Zc (uc (show ρ 0 = .func (.yield l) ⟨[]⟩ ⟨[]⟩ from hr0 0 (by kernel_rfl)) un)
   refine JLm (.func (.yield l) ⟨[]⟩ ⟨[]⟩) <| Za ?_
   exact ⟨.func (.yield l) ⟨[]⟩ ⟨[]⟩, [], rfl, (Sub.emp Sub.refl), rfl⟩
  ·intro ρ r13 N13 B hB hBa hp hr hr0
   obtain ⟨ρ15, rfl⟩ := Zc (uc (show ρ 3 = .int .i64 ((j : Int)) from hr0 3 (by kernel_rfl)) un)
   refine JLm (.int .i64 ((j : Int))) <| Za ?_
   exact ⟨.int .i64 ((j : Int)), [], rfl, (Sub.emp Sub.refl), rfl⟩
  ·intro ρ r13 N13 B hB hBa hp hr hr0
   obtain ⟨ρ16, rfl⟩ := Zc (uc (show ρ 4 = .pointer (some ⟨b12, 0, none⟩) from hr0 4 (by kernel_rfl)) un)
   refine JLr (Zh Zu rfl (At.bx 8 (Zn ((hB 0 (by decide)).trans rfl))) (Zx (ZD hE11)) <| Za ?_)
   exact ⟨.agg ⟨cs11⟩, [], rfl, (Sub.emp Sub.refl), rfl⟩
  ·intro ρ r13 N13 B hB hBa hp hr hr0
   obtain ⟨ρ17, rfl⟩ := Zc (uc (show ρ 1 = .pointer (some ⟨bT, 0, none⟩) from hr0 1 (by kernel_rfl)) un)
   refine JLq (.pointer (some ⟨bT, 0, none⟩)) (ZY rfl rfl) <| Za ?_
   exact ⟨.pointer (some ⟨bT, 0, none⟩), [], rfl, (Sub.emp Sub.refl), rfl⟩
  ·intro ρ r13 N13 B hB hBa hp hr hr0
   obtain ⟨ρ18, rfl⟩ := Zc (uc (show ρ 18 = .pointer (some ⟨bT, 0, none⟩) from (hr 3 _ _ (by decide) rfl rfl rfl).trans (hp 3 (by decide) rfl)) un)
   refine JLr (Zf ty3 rfl (At.im hT) (Yg ..) <| Za ?_)
   exact ⟨.int .i64 kind, [], rfl, (Sub.emp Sub.refl), rfl⟩
  ·intro ρ r13 N13 B hB hBa hp hr hr0
   obtain ⟨ρ19, rfl⟩ := Zc (uc (show ρ 3 = .int .i64 ((j : Int)) from hr0 3 (by kernel_rfl)) un)
   refine JLm (.int .i64 ((j : Int))) <| Za ?_
   exact ⟨.int .i64 ((j : Int)), [], rfl, (Sub.emp Sub.refl), rfl⟩
  ·intro ρ r13 N13 B hB hBa hp hr hr0
   obtain ⟨ρ20, rfl⟩ := Zc (uc (show ρ 19 = .int .i64 kind from (hr 4 _ _ (by decide) rfl rfl rfl).trans (hp 4 (by decide) rfl)) (uc (show ρ 20 = .int .i64 ((j : Int)) from (hr 5 _ _ (by decide) rfl rfl rfl).trans (hp 5 (by decide) rfl)) un))
   refine Zg rfl Tryz.call111 rfl (fun hin => more_ct _ _ _) rfl ?_
   rintro _ _ ⟨rfl, rfl⟩
   refine Za ?_
   exact ⟨.int .i64 (more kind ((j : Int))), [], rfl, (Sub.emp Sub.refl), rfl⟩
  ·intro ρ r13 N13 B hB hBa hp hr hr0
   obtain ⟨ρ21, rfl⟩ := Zc (uc (show ρ 17 = .agg ⟨cs11⟩ from (hr 2 _ _ (by decide) rfl rfl rfl).trans (hp 2 (by decide) rfl)) (uc (show ρ 21 = .int .i64 (more kind ((j : Int))) from (hr 6 _ _ (by decide) rfl rfl rfl).trans (hp 6 (by decide) rfl)) un))
   refine JLq (.agg ⟨cs11 ++ ([.int .i64 (more kind ((j : Int)))] : List Value)⟩) (Pu.build (pv := [(0, .agg ⟨cs11⟩), (1, .int .i64 (more kind ((j : Int))))]) (l := cs11 ++ ([.int .i64 (more kind ((j : Int)))] : List Value)) rfl (bld175_0_1 (ZD hE11))) <| Za ?_
   exact ⟨.agg ⟨cs11 ++ ([.int .i64 (more kind ((j : Int)))] : List Value)⟩, [], rfl, (Sub.emp Sub.refl), rfl⟩
  intro ρ r13 N13 hp hr hr0
  obtain ⟨ρ22, rfl⟩ := Zc (uc (show ρ 0 = .func (.yield l) ⟨[]⟩ ⟨[]⟩ from hr0 0 (by kernel_rfl)) (uc (show ρ 1 = .pointer (some ⟨bT, 0, none⟩) from hr0 1 (by kernel_rfl)) (uc (show ρ 8 = ks from hr0 8 (by kernel_rfl)) (uc (show ρ 9 = .int .i64 ((kids.length : Int)) from hr0 9 (by kernel_rfl)) (uc (show ρ 10 = .int .i64 ((j : Int)) from hr0 10 (by kernel_rfl)) (uc (show ρ 15 = .func (.yield l) ⟨[]⟩ ⟨[]⟩ from (hr 0 _ _ (by decide) rfl rfl).trans (hp 0 (by decide))) (uc (show ρ 16 = .int .i64 ((j : Int)) from (hr 1 _ _ (by decide) rfl rfl).trans (hp 1 (by decide))) (uc (show ρ 22 = .agg ⟨cs11 ++ ([.int .i64 (more kind ((j : Int)))] : List Value)⟩ from (hr 7 _ _ (by decide) rfl rfl).trans (hp 7 (by decide))) un))))))))
  clear hp hr hr0 
  refine Zq (M' := [(N13 0), (N13 1), (N13 2), (N13 3), (N13 4), (N13 5), (N13 6), (N13 7), [(b12, .cells ⟨cs11⟩ 27 (0, 0))], yc s]) Sub.refl <| Zq (M' := [[(b12, .cells ⟨cs11⟩ 27 (0, 0))], yc s]) (Sd (Sd (Sd (Sd (Sd (Sd (Sd (Sd (Sk (Sk Sub.nil)))))))))) ?_
  show JL _ _ _ [_, _] _ _ _
  refine JL_yield1 1 rfl rfl rfl (fun hin => hy _ _ (hIK j h10n) _ _ _ _ hs (Hle.hu _ _) (RT.mono (Hle.hu _ _) hE11)) rfl ?_
  rintro _ _ ⟨rfl, rfl⟩
  refine JLq (.bool (!((step (kids[j]) (more kind ((j : Int))) s).1))) (Pu.not rfl) <| Za <| Zi (b := !((step (kids[j]) (more kind ((j : Int))) s).1)) rfl (fun h23 => ?_) (fun h23 => ?_)
  ·replace h23 := nt h23
   refine Zl <| ⟨.tuple ⟨[]⟩, [yc (step (kids[j]) (more kind ((j : Int))) s).2], Ret.none rfl, (Sk Sub.nil), ?_⟩
   rw [Yt h10n, yK, if_neg (by simp [h23])] at hinv
   show _ = _; rw [yP, ← hinv]; rfl
  replace h23 := nf h23
  refine Zp <| Zb <| JLq (.int .i64 (((j + 1 : Nat) : Int))) (Pu.inc rfl rfl (by omega)) <| JLm (.int .i64 (((j + 1 : Nat) : Int))) <| Za <| ⟨_, ?_, (j + 1), ((step (kids[j]) (more kind ((j : Int))) s).2), rfl, rfl, rfl, rfl, rfl, (Sk Sub.nil), ?_, ?_, ?_, rfl⟩
  ·omega
  ·omega
  ·exact hI _ _ s hs h23
  rw [Yt h10n, yK, if_pos h23] at hinv; exact hinv
 replace h10 := df h10
 have h10n : kids.length ≤ j := by omega
 refine ZM _ rfl <| Zd <| Zb <| JLq (.pointer (some ⟨bT, 35, none⟩)) (YP rfl rfl) <| JLr (Zf ty25 rfl (At.im hT) (YI ..) ?_)
 obtain ⟨a24, cap24, hv24⟩ := hcv.sl
 have hle24 := hcv.le
 refine JLq (.int .i64 ((cases.length : Int))) (Pu.lenSl Tryz.runUnderlying25 hv24) <| JLm (.int .i64 0) <| Za <| Zs ?_
 have hk1 : yK step kind 0 kids s0 = (true, s) := by rw [← hinv, Xl h10n]; rfl
 refine ZU (fun k ρ M => ∃ (j : Nat) (s2 : σ), ρ 0 = .func (.yield l) ⟨[]⟩ ⟨[]⟩ ∧ ρ 1 = .pointer (some ⟨bT, 0, none⟩) ∧ ρ 27 = cv ∧ ρ 28 = .int .i64 ((cases.length : Int)) ∧ ρ 29 = .int .i64 ((j : Int)) ∧ Sub [yc s2] M ∧ j ≤ cases.length ∧ Inv s2 ∧ yC step (cases.drop j) s2 = yC step cases s ∧ k = cases.length - j) _ ⟨0, s, rfl, rfl, rfl, rfl, rfl, (Sk Sub.nil), Nat.zero_le _, hs, rfl, rfl⟩ ?_
 rintro _ ρ25 _ ⟨j, s2, e26, e27, e28, e29, e30, hm31, hj, hs, hinv, rfl⟩
 obtain ⟨ρ32, rfl⟩ := Zc (uc e26 (uc e27 (uc e28 (uc e29 (uc e30 un)))))
 clear e26 e27 e28 e29 e30
 refine Z1 hm31 ?_
 have hlen := hcv.le
 refine Zd <| Zb <| JLq (.bool (decide ((j : Int) < (cases.length : Int)))) (Pu.lss rfl rfl) <| Za <| Zd <| Zi (b := decide ((j : Int) < (cases.length : Int))) rfl (fun h33 => ?_) (fun h33 => ?_)
 ·replace h33 := dt h33
  have h33n : j < cases.length := by omega
  have hbm := hsz _ (List.getElem_mem h33n)
  have hlenk := hks.le
  refine Zp <| Zd <| Zs <| Zd <| Zb <| JLm (.int .i64 ((j : Int))) ?_
  obtain ⟨b34, o34, cap34, row34, T34, fr34, cs34, hv34, hb34, hs34, hE34⟩ := hcv.get j (by first | assumption | omega | decide | simp)
  obtain ⟨ca34, cb34, rfl, hA34, hB34⟩ := hE34
  refine JLq (.pointer (some ⟨b34, o34 + j * 71, none⟩)) (Pu.idx j Tryz.runUnderlying25 ty80 hv34 rfl rfl (by first | assumption | omega | decide | simp)) <| JLr (Zh ty80 rfl (At.im hb34) hs34 <| JLr (Zj (l := (pkP 0 0 zS (.slice none 0 0)) ++ (pkT 0 0 zS (.slice none 0 0) (.slice none 0 0))) Tryz.zeroValue80 rfl fun b35 => JLa (.int .i64 ((j : Int))) <| JLr (Ze 0 (vs := ca34 ++ cb34) (l := ca34 ++ cb34) ty80 rfl rfl rfl rfl (ZN (ZJ hA34) (ZD hB34)) (Z3 (RP_ok hA34) (RT_ok hB34)) (ZL (n := 71) rfl (ZN (ZJ hA34) (ZD hB34))) <| Za <| Zd ?_)))
  obtain ⟨a37, cap37, hv37⟩ := hks.sl
  have hle37 := hks.le
  refine Ya mixed #[0, 0, 2, 6, 0, 30, 0, 64, 0, 256, 768, 1984, 4095, 8191] 12 12 2 rfl (by kernel_rfl) (fun i r36 N36 => match i with | 0 => (r36 0) = .func (.yield l) ⟨[]⟩ ⟨[]⟩ | 1 => (r36 1) = .pointer (some ⟨bT, 34, none⟩) | 2 => (r36 2) = ks | 3 => (r36 3) = .int .i64 ((kids.length : Int)) | 4 => (r36 4) = .int .i64 ((j : Int)) | 5 => (r36 5) = .int .i64 ((kids.length : Int) + ((j : Int))) | 6 => (r36 6) = .pointer (some ⟨b35, 35, none⟩) | 7 => (r36 7) = .agg ⟨cb34⟩ | 8 => (r36 8) = .pointer (some ⟨b35, 0, none⟩) | 9 => (r36 9) = .agg ⟨ca34⟩ | 10 => (r36 10) = .int .i64 ((binds (cases[j].1) : Int)) | 11 => (r36 11) = .agg ⟨cb34 ++ ([.int .i64 ((binds (cases[j].1) : Int))] : List Value)⟩ | _ => True) ⟨?_, ?_, ?_, ?_, ?_, ?_, ?_, ?_, ?_, ?_, ?_, ?_, trivial⟩ ?_
  ·intro ρ r36 N36 B hB hBa hp hr hr0
   obtain ⟨ρ38, rfl⟩ := Zc (uc (show ρ 0 = .func (.yield l) ⟨[]⟩ ⟨[]⟩ from hr0 0 (by kernel_rfl)) un)
   refine JLm (.func (.yield l) ⟨[]⟩ ⟨[]⟩) <| Za ?_
   exact ⟨.func (.yield l) ⟨[]⟩ ⟨[]⟩, [], rfl, (Sub.emp Sub.refl), rfl⟩
  ·intro ρ r36 N36 B hB hBa hp hr hr0
   obtain ⟨ρ39, rfl⟩ := Zc (uc (show ρ 1 = .pointer (some ⟨bT, 0, none⟩) from hr0 1 (by kernel_rfl)) un)
   refine JLq (.pointer (some ⟨bT, 34, none⟩)) (Yq rfl rfl) <| Za ?_
   exact ⟨.pointer (some ⟨bT, 34, none⟩), [], rfl, (Sub.emp Sub.refl), rfl⟩
  ·intro ρ r36 N36 B hB hBa hp hr hr0
   obtain ⟨ρ40, rfl⟩ := Zc (uc (show ρ 35 = .pointer (some ⟨bT, 34, none⟩) from (hr 1 _ _ (by decide) rfl rfl rfl).trans (hp 1 (by decide) rfl)) un)
   refine JLr (Zf ty24 rfl (At.im hT) (Yu ..) <| Za ?_)
   exact ⟨ks, [], rfl, (Sub.emp Sub.refl), rfl⟩
  ·intro ρ r36 N36 B hB hBa hp hr hr0
   obtain ⟨ρ41, rfl⟩ := Zc (uc (show ρ 36 = ks from (hr 2 _ _ (by decide) rfl rfl rfl).trans (hp 2 (by decide) rfl)) un)
   refine JLq (.int .i64 ((kids.length : Int))) (Pu.lenSl Tryz.runUnderlying24 hv37) <| Za ?_
   exact ⟨.int .i64 ((kids.length : Int)), [], rfl, (Sub.emp Sub.refl), rfl⟩
  ·intro ρ r36 N36 B hB hBa hp hr hr0
   obtain ⟨ρ42, rfl⟩ := Zc (uc (show ρ 5 = .int .i64 ((j : Int)) from hr0 5 (by kernel_rfl)) un)
   refine JLm (.int .i64 ((j : Int))) <| Za ?_
   exact ⟨.int .i64 ((j : Int)), [], rfl, (Sub.emp Sub.refl), rfl⟩
  ·intro ρ r36 N36 B hB hBa hp hr hr0
   obtain ⟨ρ43, rfl⟩ := Zc (uc (show ρ 37 = .int .i64 ((kids.length : Int)) from (hr 3 _ _ (by decide) rfl rfl rfl).trans (hp 3 (by decide) rfl)) (uc (show ρ 38 = .int .i64 ((j : Int)) from (hr 4 _ _ (by decide) rfl rfl rfl).trans (hp 4 (by decide) rfl)) un))
   refine JLq (.int .i64 ((kids.length : Int) + ((j : Int)))) (Pu.add64 rfl rfl (by first | omega | (constructor <;> omega))) <| Za ?_
   exact ⟨.int .i64 ((kids.length : Int) + ((j : Int))), [], rfl, (Sub.emp Sub.refl), rfl⟩
  ·intro ρ r36 N36 B hB hBa hp hr hr0
   obtain ⟨ρ44, rfl⟩ := Zc (uc (show ρ 6 = .pointer (some ⟨b35, 0, none⟩) from hr0 6 (by kernel_rfl)) un)
   refine JLq (.pointer (some ⟨b35, 35, none⟩)) (fa80_1 rfl rfl) <| Za ?_
   exact ⟨.pointer (some ⟨b35, 35, none⟩), [], rfl, (Sub.emp Sub.refl), rfl⟩
  ·intro ρ r36 N36 B hB hBa hp hr hr0
   obtain ⟨ρ45, rfl⟩ := Zc (uc (show ρ 40 = .pointer (some ⟨b35, 35, none⟩) from (hr 6 _ _ (by decide) rfl rfl rfl).trans (hp 6 (by decide) rfl)) un)
   refine JLr (Zh Zu rfl (At.bx 12 (Zn ((hB 0 (by decide)).trans rfl))) (sub_r (ZJ hA34) (ZD hB34)) <| Za ?_)
   exact ⟨.agg ⟨cb34⟩, [], rfl, (Sub.emp Sub.refl), rfl⟩
  ·intro ρ r36 N36 B hB hBa hp hr hr0
   obtain ⟨ρ46, rfl⟩ := Zc (uc (show ρ 6 = .pointer (some ⟨b35, 0, none⟩) from hr0 6 (by kernel_rfl)) un)
   refine JLq (.pointer (some ⟨b35, 0, none⟩)) (fa80_0 rfl rfl) <| Za ?_
   exact ⟨.pointer (some ⟨b35, 0, none⟩), [], rfl, (Sub.emp Sub.refl), rfl⟩
  ·intro ρ r36 N36 B hB hBa hp hr hr0
   obtain ⟨ρ47, rfl⟩ := Zc (uc (show ρ 42 = .pointer (some ⟨b35, 0, none⟩) from (hr 8 _ _ (by decide) rfl rfl rfl).trans (hp 8 (by decide) rfl)) un)
   refine JLr (Zh Z5 rfl (At.bx 12 (Zn ((hB 0 (by decide)).trans rfl))) (sub_l (ZJ hA34)) <| Za ?_)
   exact ⟨.agg ⟨ca34⟩, [], rfl, (Sub.emp Sub.refl), rfl⟩
  ·intro ρ r36 N36 B hB hBa hp hr hr0
   obtain ⟨ρ48, rfl⟩ := Zc (uc (show ρ 43 = .agg ⟨ca34⟩ from (hr 9 _ _ (by decide) rfl rfl rfl).trans (hp 9 (by decide) rfl)) un)
   refine Zg rfl Tryz.call112 rfl (fun hin => binds_ct _ _ _ (RP.mono (Hle.hu _ _) hA34) (by omega)) rfl ?_
   rintro _ _ ⟨rfl, rfl⟩
   refine Za ?_
   exact ⟨.int .i64 ((binds (cases[j].1) : Int)), [], rfl, (Sub.emp Sub.refl), rfl⟩
  ·intro ρ r36 N36 B hB hBa hp hr hr0
   obtain ⟨ρ49, rfl⟩ := Zc (uc (show ρ 41 = .agg ⟨cb34⟩ from (hr 7 _ _ (by decide) rfl rfl rfl).trans (hp 7 (by decide) rfl)) (uc (show ρ 44 = .int .i64 ((binds (cases[j].1) : Int)) from (hr 10 _ _ (by decide) rfl rfl rfl).trans (hp 10 (by decide) rfl)) un))
   refine JLq (.agg ⟨cb34 ++ ([.int .i64 ((binds (cases[j].1) : Int))] : List Value)⟩) (Pu.build (pv := [(0, .agg ⟨cb34⟩), (1, .int .i64 ((binds (cases[j].1) : Int)))]) (l := cb34 ++ ([.int .i64 ((binds (cases[j].1) : Int))] : List Value)) rfl (bld175_0_1 (ZD hB34))) <| Za ?_
   exact ⟨.agg ⟨cb34 ++ ([.int .i64 ((binds (cases[j].1) : Int))] : List Value)⟩, [], rfl, (Sub.emp Sub.refl), rfl⟩
  intro ρ r36 N36 hp hr hr0
  obtain ⟨ρ50, rfl⟩ := Zc (uc (show ρ 0 = .func (.yield l) ⟨[]⟩ ⟨[]⟩ from hr0 0 (by kernel_rfl)) (uc (show ρ 1 = .pointer (some ⟨bT, 0, none⟩) from hr0 1 (by kernel_rfl)) (uc (show ρ 27 = cv from hr0 27 (by kernel_rfl)) (uc (show ρ 28 = .int .i64 ((cases.length : Int)) from hr0 28 (by kernel_rfl)) (uc (show ρ 29 = .int .i64 ((j : Int)) from hr0 29 (by kernel_rfl)) (uc (show ρ 34 = .func (.yield l) ⟨[]⟩ ⟨[]⟩ from (hr 0 _ _ (by decide) rfl rfl).trans (hp 0 (by decide))) (uc (show ρ 39 = .int .i64 ((kids.length : Int) + ((j : Int))) from (hr 5 _ _ (by decide) rfl rfl).trans (hp 5 (by decide))) (uc (show ρ 45 = .agg ⟨cb34 ++ ([.int .i64 ((binds (cases[j].1) : Int))] : List Value)⟩ from (hr 11 _ _ (by decide) rfl rfl).trans (hp 11 (by decide))) un))))))))
  clear hp hr hr0 
  refine Zq (M' := [(N36 0), (N36 1), (N36 2), (N36 3), (N36 4), (N36 5), (N36 6), (N36 7), (N36 8), (N36 9), (N36 10), (N36 11), [(b35, .cells ⟨ca34 ++ cb34⟩ 80 (0, 0))], yc s2]) Sub.refl <| Zq (M' := [[(b35, .cells ⟨ca34 ++ cb34⟩ 80 (0, 0))], yc s2]) (Sd (Sd (Sd (Sd (Sd (Sd (Sd (Sd (Sd (Sd (Sd (Sd (Sk (Sk Sub.nil)))))))))))))) ?_
  show JL _ _ _ [_, _] _ _ _
  refine JL_yield1 1 rfl rfl rfl (fun hin => hy _ _ (hIC j h33n) _ _ _ _ hs (Hle.hu _ _) (RT.mono (Hle.hu _ _) hB34)) rfl ?_
  rintro _ _ ⟨rfl, rfl⟩
  refine JLq (.bool (!((step (cases[j].2) ((binds (cases[j].1) : Int)) s2).1))) (Pu.not rfl) <| Za <| Zi (b := !((step (cases[j].2) ((binds (cases[j].1) : Int)) s2).1)) rfl (fun h51 => ?_) (fun h51 => ?_)
  ·replace h51 := nt h51
   refine Zl <| ⟨.tuple ⟨[]⟩, [yc (step (cases[j].2) ((binds (cases[j].1) : Int)) s2).2], Ret.none rfl, (Sk Sub.nil), ?_⟩
   rw [Yt h33n, yC, if_neg (by simp [h51])] at hinv
   show _ = _; rw [yP, hk1, if_pos rfl, ← hinv]
  replace h51 := nf h51
  refine Zp <| Zb <| JLq (.int .i64 (((j + 1 : Nat) : Int))) (Pu.inc rfl rfl (by omega)) <| JLm (.int .i64 (((j + 1 : Nat) : Int))) <| Za <| ⟨_, ?_, (j + 1), ((step (cases[j].2) ((binds (cases[j].1) : Int)) s2).2), rfl, rfl, rfl, rfl, rfl, (Sk Sub.nil), ?_, ?_, ?_, rfl⟩
  ·omega
  ·omega
  ·exact hI _ _ s2 hs h51
  rw [Yt h33n, yC, if_pos h51] at hinv; exact hinv
 replace h33 := df h33
 have h33n : cases.length ≤ j := by omega
 refine ZM _ rfl <| ⟨.tuple ⟨[]⟩, [yc s2], Ret.none rfl, (Sk Sub.nil), ?_⟩
 show _ = _; rw [yP, hk1, if_pos rfl, ← hinv, Xl h33n]; rfl
end Go.Proofs.YtmophpgiaiemhaaGreat.Hs
/-! Walks, printed by a program of this session's own (gen.py). -/
namespace Go.Proofs.YtmophpgiaiemhaaGreat.Hs
open Go Go.Proofs
set_option maxRecDepth 100000
set_option linter.unusedVariables false
set_option linter.unusedSimpArgs false
attribute [local irreducible] JL J CT wlo
theorem all_ct : ∀ (t : Tm) (d m b : Int) (cs : List Value) (H : Heap) (bD : Nat), RT H cs t → H bD = some (.cells ⟨[.int .i64 d]⟩ 3 (0, 0)) → 0 ≤ b → b + 2 * sizeT t ≤ 1000000 → CT Tryz.prog 88 ⟨[.agg ⟨[.int .i64 m, .func (.func 87) ⟨[]⟩ ⟨[.pointer (some ⟨bD, 0, none⟩)]⟩]⟩, .agg ⟨cs⟩, .int .i64 b]⟩ [] H (fun v N => v = .int .i64 (YK d m b t) ∧ N = []) := by
 intro t
 induction t using Tm.ind with
 | h kind num ref kids cases ih ih' =>
 intro d m b cs H bD ht hD hb0 hb
 obtain ⟨ks, cv, rfl, hk, hn, hks, hcv⟩ := RT_mk.1 ht
 rw [sizeT] at hb
 have hn1 : -9223372036854775808 ≤ num := hn.1
 have hn2 : num ≤ 9223372036854775807 := hn.2
 have ihx : ∀ x mo, (fun x mo => ((∃ (j : Nat) (hj : j < kids.length), x = kids[j]) ∨ ∃ (j : Nat) (hj : j < cases.length), x = cases[j].2) ∧ 0 ≤ mo ∧ mo + 2 * (sizeT x : Int) ≤ 2 * ((1 + sizeTs kids + sizeCs cases : Nat) : Int)) x mo → ∀ (d m b : Int) (cs : List Value) (H : Heap) (bD : Nat), RT H cs x → H bD = some (.cells ⟨[.int .i64 d]⟩ 3 (0, 0)) → 0 ≤ b → b + 2 * sizeT x ≤ 1000000 → CT Tryz.prog 88 ⟨[.agg ⟨[.int .i64 m, .func (.func 87) ⟨[]⟩ ⟨[.pointer (some ⟨bD, 0, none⟩)]⟩]⟩, .agg ⟨cs⟩, .int .i64 b]⟩ [] H (fun v N => v = .int .i64 (YK d m b x) ∧ N = []) := by
  rintro x mo ⟨⟨j, hj, rfl⟩ | ⟨j, hj, rfl⟩, _, _⟩
  ·exact ih _ (List.getElem_mem hj)
  ·exact ih' _ (List.getElem_mem hj)
 refine Zo Tryz.func88 rfl rfl <| Zd <| Zb <| JLr (Zt (l := [.int .i64 m, .func (.func 87) ⟨[]⟩ ⟨[.pointer (some ⟨bD, 0, none⟩)]⟩]) rfl rfl fun b1 => JLr (Zt (l := pkT kind num ref ks cv) rfl rfl fun b2 => JLr (Zt (l := [.int .i64 b]) rfl rfl fun b3 => JLr (Zj (l := [.int .i64 0]) Tryz.zeroValue46 rfl fun b4 => Za <| Zd <| Zd <| Zb <| JLr (Zh ty141 rfl (At.bx 3 rfl) rfl <| JLr (Zh Zu rfl (At.bx 2 rfl) (ZZ ..) ?_))))))
 refine JLr (Zf ty3 rfl (At.bx 1 rfl) rfl <| Zg rfl Tryz.call128 rfl (fun hin => chkTerm_ct _ _ _ _ _ _ _ _ _ _ _ bD (RTs.mono (Hle.hu _ _) hks) (RCs.mono (Hle.hu _ _) hcv) (Hle.hu _ _ _ _ hD) hb0 (by omega) hn1 hn2) rfl ?_)
 rintro _ _ ⟨rfl, rfl⟩
 refine JLa (.int .i64 (Yr d m b kind num ref kids.length cases.length)) <| Za <| Zd <| Zb <| JLm (.int .i64 (Yr d m b kind num ref kids.length cases.length)) <| JLq (.bool (!decide (Yr d m b kind num ref kids.length cases.length = 0))) (Pu.neq rfl rfl) <| Za <| Zi (b := !decide (Yr d m b kind num ref kids.length cases.length = 0)) rfl (fun h5 => ?_) (fun h5 => ?_)
 ·replace h5 := nt h5
  replace h5 := df h5
  refine Zd <| Zb <| JLm (.int .i64 (Yr d m b kind num ref kids.length cases.length)) <| JLr (Ze 0 (vs := [.int .i64 (Yr d m b kind num ref kids.length cases.length)]) (l := [.int .i64 (Yr d m b kind num ref kids.length cases.length)]) ty46 rfl rfl rfl rfl rfl (Zm rfl Zv) rfl <| Za <| Zl <| ⟨.int .i64 (Yr d m b kind num ref kids.length cases.length), [], Ret.one rfl (RV.cell1 ty46 rfl (At.bx 0 rfl) rfl), Sub.nil, ?_⟩)
  exact ⟨by rw [YK, if_neg h5], rfl⟩
 replace h5 := nf h5
 replace h5 := dt h5
 refine Zp <| Zd <| Zd <| Zb <| JLq (.pointer (some ⟨b2, 35, none⟩)) (YP rfl rfl) <| JLr (Zf ty25 rfl (At.bx 2 rfl) (YI ..) ?_)
 obtain ⟨a6, cap6, hv6⟩ := hcv.sl
 have hle6 := hcv.le
 refine JLq (.int .i64 ((cases.length : Int))) (Pu.lenSl Tryz.runUnderlying25 hv6) <| JLm (.int .i64 0) <| Za <| Zs ?_
 have hh0 : Yr d m b kind num ref kids.length cases.length = 0 := h5
 refine ZU (fun k ρ M => ∃ (j : Nat), ρ 3 = .pointer (some ⟨b1, 0, none⟩) ∧ ρ 4 = .pointer (some ⟨b2, 0, none⟩) ∧ ρ 5 = .pointer (some ⟨b3, 0, none⟩) ∧ ρ 6 = .pointer (some ⟨b4, 0, none⟩) ∧ ρ 22 = cv ∧ ρ 23 = .int .i64 ((cases.length : Int)) ∧ ρ 24 = .int .i64 ((j : Int)) ∧ Sub [[(b4, .cells ⟨[.int .i64 0]⟩ 46 (0, 0))], [(b3, .cells ⟨[.int .i64 b]⟩ 3 (0, 0))], [(b2, .cells ⟨pkT kind num ref ks cv⟩ 27 (0, 0))], [(b1, .cells ⟨[.int .i64 m, .func (.func 87) ⟨[]⟩ ⟨[.pointer (some ⟨bD, 0, none⟩)]⟩]⟩ 141 (0, 0))]] M ∧ j ≤ cases.length ∧ pErrsC (cases.drop j) = pErrsC cases ∧ k = cases.length - j) _ ⟨0, rfl, rfl, rfl, rfl, rfl, rfl, rfl, (Sk (Sk (Sk (Sk Sub.nil)))), Nat.zero_le _, rfl, rfl⟩ ?_
 rintro _ ρ7 _ ⟨j, e8, e9, e10, e11, e12, e13, e14, hm15, hj, hinv, rfl⟩
 obtain ⟨ρ16, rfl⟩ := Zc (uc e8 (uc e9 (uc e10 (uc e11 (uc e12 (uc e13 (uc e14 un)))))))
 clear e8 e9 e10 e11 e12 e13 e14
 refine Z1 hm15 ?_
 have hlen := hcv.le
 refine Zd <| Zb <| JLq (.bool (decide ((j : Int) < (cases.length : Int)))) (Pu.lss rfl rfl) <| Za <| Zd <| Zi (b := decide ((j : Int) < (cases.length : Int))) rfl (fun h17 => ?_) (fun h17 => ?_)
 ·replace h17 := dt h17
  have h17n : j < cases.length := by omega
  refine Zp <| Zd <| Zs <| Zd <| Zb ?_
  obtain ⟨b18, o18, cap18, row18, T18, fr18, cs18, hv18, hb18, hs18, hE18⟩ := hcv.get j (by first | assumption | omega | decide | simp)
  obtain ⟨ca18, cb18, rfl, hA18, hB18⟩ := hE18
  refine JLq (.pointer (some ⟨b18, o18 + j * 71, none⟩)) (Pu.idx j Tryz.runUnderlying25 ty80 hv18 rfl rfl (by first | assumption | omega | decide | simp)) <| JLr (Zh ty80 rfl (At.im hb18) hs18 <| JLr (Zj (l := (pkP 0 0 zS (.slice none 0 0)) ++ (pkT 0 0 zS (.slice none 0 0) (.slice none 0 0))) Tryz.zeroValue80 rfl fun b19 => JLr (Ze 0 (vs := ca18 ++ cb18) (l := ca18 ++ cb18) ty80 rfl rfl rfl rfl (ZN (ZJ hA18) (ZD hB18)) (Z3 (RP_ok hA18) (RT_ok hB18)) (ZL (n := 71) rfl (ZN (ZJ hA18) (ZD hB18))) <| Za <| Zd <| Zb <| JLq (.pointer (some ⟨b19, 0, none⟩)) (fa80_0 rfl rfl) <| JLr (Zh Z5 rfl (At.bx 0 rfl) (sub_l (ZJ hA18)) <| Zg rfl Tryz.call129 rfl (fun hin => patternsError_ct _ _ _ (RP.mono (Hle.hu _ _) hA18)) rfl ?_))))
  rintro _ _ ⟨rfl, rfl⟩
  refine JLa (.int .i64 (Xg (cases[j].1))) <| Za <| Zd <| Zb <| JLm (.int .i64 (Xg (cases[j].1))) <| JLq (.bool (!decide (Xg (cases[j].1) = 0))) (Pu.neq rfl rfl) <| Za <| Zi (b := !decide (Xg (cases[j].1) = 0)) rfl (fun h20 => ?_) (fun h20 => ?_)
  ·replace h20 := nt h20
   replace h20 := df h20
   refine Zd <| Zb <| JLm (.int .i64 (Xg (cases[j].1))) <| JLr (Ze 1 (vs := [.int .i64 (Xg (cases[j].1))]) (l := [.int .i64 (Xg (cases[j].1))]) ty46 rfl rfl rfl rfl rfl (Zm rfl Zv) rfl <| Za <| Zl <| ⟨.int .i64 (Xg (cases[j].1)), [], Ret.one rfl (RV.cell1 ty46 rfl (At.bx 1 rfl) rfl), Sub.nil, ?_⟩)
   exact ⟨by rw [YK, if_pos hh0, ← hinv, Yt h17n, pErrsC, if_neg h20, if_neg h20], rfl⟩
  replace h20 := nf h20
  replace h20 := dt h20
  refine Zp <| Zb <| JLq (.int .i64 (((j + 1 : Nat) : Int))) (Pu.inc rfl rfl (by omega)) <| JLm (.int .i64 (((j + 1 : Nat) : Int))) <| Za <| ⟨_, ?_, (j + 1), rfl, rfl, rfl, rfl, rfl, rfl, rfl, (Sd (Sk (Sk (Sk (Sk Sub.nil))))), ?_, ?_, rfl⟩
  ·omega
  ·omega
  rw [Yt h17n, pErrsC, if_pos h20] at hinv; exact hinv
 replace h17 := df h17
 have h17n : cases.length ≤ j := by omega
 refine ZM _ rfl <| Zd <| Zd <| Zb <| JLr (Zh Zu rfl (At.bx 2 rfl) (ZZ ..) <| Zg rfl Tryz.call130 rfl (fun hin => parts_ct _ _ rfl) rfl ?_)
 rintro _ _ ⟨bT21, rfl, rfl⟩
 refine Za <| Zs ?_
 have h1 : pErrsC cases = 0 := by rw [← hinv, Xl h17n]; rfl
 refine J_range (L := [[(bT21, .cells ⟨pkT kind num ref ks cv⟩ 27 (0, 0))], [(b3, .cells ⟨[.int .i64 b]⟩ 3 (0, 0))], [(b2, .cells ⟨pkT kind num ref ks cv⟩ 27 (0, 0))], [(b1, .cells ⟨[.int .i64 m, .func (.func 87) ⟨[]⟩ ⟨[.pointer (some ⟨bD, 0, none⟩)]⟩]⟩ 141 (0, 0))]]) (fun e : Int => [[(b4, .cells ⟨[.int .i64 e]⟩ 46 (0, 0))]]) (fun e => !decide (e = 0)) 0 (fun e => e = yP (fun x mo _ => (decide (YK d m (b + mo) x = 0), YK d m (b + mo) x)) kind kids cases 0) rfl rfl Tryz.call162 (flatten_pick (i := 1) rfl) ?_ ?_ ?_
 ·intro l yc hY hin
  refine CT.mono (parts1_ct kind num ref ks cv kids cases _ bT21 (RTs.mono (Hle.hu _ _) hks) (RCs.mono (Hle.hu _ _) hcv) (hin 0 _ rfl _ _ List.mem_cons_self) (fun c hc => by have := sizeCs_mem c hc; have := YE c.1; omega) (by have := len_sizeTs kids; omega) (by have := len_sizeCs cases; omega) l yc (fun e => e = 0) (fun x mo _ => (decide (YK d m (b + mo) x = 0), YK d m (b + mo) x)) 0 rfl (fun x mo => ((∃ (j : Nat) (hj : j < kids.length), x = kids[j]) ∨ ∃ (j : Nat) (hj : j < cases.length), x = cases[j].2) ∧ 0 ≤ mo ∧ mo + 2 * (sizeT x : Int) ≤ 2 * ((1 + sizeTs kids + sizeCs cases : Nat) : Int)) ?_ ?_ (fun x mo s _ h => of_decide_eq_true h) ?_) (fun v N hN => ⟨_, hN, rfl⟩)
  ·intro j hj; have hs1 := sizeTs_mem _ (List.getElem_mem hj); have hm1 := YR kind j; exact ⟨.inl ⟨j, hj, rfl⟩, by omega, by omega⟩
  ·intro j hj; have hs1 := sizeCs_mem _ (List.getElem_mem hj); have hm1 := YE (cases[j]).1; have hp1 := Y7 (cases[j]).2; exact ⟨.inr ⟨j, hj, rfl⟩, by omega, by omega⟩
  intro x mo hit e i a h he hh ra
  subst he
  have hb0x : 0 ≤ b + mo := by have := hit.2.1; omega
  have hb1x : b + mo + 2 * (sizeT x : Int) ≤ 1000000 := by have := hit.2.2; omega
  have hp1 := Y7 x
  refine YT.mono (hY 0 [_, _] h (fun e' => e' = YK d m (b + mo) x) rfl rfl (RoundOk.mk ?_)) ?_
  ·show J _ _ _ _ [[(b4, .cells ⟨[.int .i64 0]⟩ 46 (0, 0))]] _
   refine Zb <| JLr (Zj (l := (pkT 0 0 zS (.slice none 0 0) (.slice none 0 0)) ++ ([.int .i64 0] : List Value)) Tryz.zeroValue175 rfl fun b22 => JLr (Ze 0 (vs := a ++ ([.int .i64 mo] : List Value)) (l := a ++ ([.int .i64 mo] : List Value)) ty175 rfl rfl rfl rfl (ZN (ZD ra) rfl) (Z3 (RT_ok ra) (Zm rfl Zv)) (ZL (n := 37) rfl (ZN (ZD ra) rfl)) <| Za <| Zs <| Zd <| Zb <| JLr (Zh ty141 rfl (At.im (hh _ _ (hin 3 _ rfl _ _ List.mem_cons_self))) rfl <| JLq (.pointer (some ⟨b22, 0, none⟩)) (fa175_0 rfl rfl) <| JLr (Zh Zu rfl (At.bx 0 rfl) (sub_l (ZD ra)) <| JLr (Zf ty3 rfl (At.im (hh _ _ (hin 1 _ rfl _ _ List.mem_cons_self))) rfl <| JLq (.pointer (some ⟨b22, 36, none⟩)) (fa175_1 rfl rfl) <| JLr (Zf ty3 rfl (At.bx 0 rfl) (get_r (n := 36) (i := 0) (ZD ra) rfl) ?_))))))
   refine JLq (.int .i64 (b + mo)) (Pu.add64 rfl rfl (by first | omega | (constructor <;> omega))) <| Zg rfl Tryz.call88 rfl (fun hin => ihx x mo hit d m _ _ _ bD (RT.mono (Hle.hu _ _) ra) (Hle.hu _ _ _ _ (hh _ _ (Hle.hu _ _ _ _ hD))) hb0x hb1x) rfl ?_
   rintro _ _ ⟨rfl, rfl⟩
   refine JLa (.int .i64 (YK d m (b + mo) x)) <| Za <| Zd <| Zb <| JLm (.int .i64 (YK d m (b + mo) x)) <| JLq (.bool (!decide (YK d m (b + mo) x = 0))) (Pu.neq rfl rfl) <| Za <| Zi (b := !decide (YK d m (b + mo) x = 0)) rfl (fun h23 => ?_) (fun h23 => ?_)
   ·replace h23 := nt h23
    replace h23 := df h23
    refine Zd <| Zb <| JLm (.int .i64 (YK d m (b + mo) x)) <| JLr (Ze 1 (vs := [.int .i64 (YK d m (b + mo) x)]) (l := [.int .i64 (YK d m (b + mo) x)]) ty46 rfl rfl rfl rfl rfl (Zm rfl Zv) rfl <| Za <| Zl ?_)
    exact ⟨YK d m (b + mo) x, by simp [h23], (Sd (Sk Sub.nil)), rfl⟩
   replace h23 := nf h23
   replace h23 := dt h23
   refine Zp ?_
   exact ⟨0, rfl, (Sd (Sk Sub.nil)), h23.symm⟩
  rintro v N ⟨e', rfl, rfl, rfl⟩; exact ⟨by simp, rfl⟩
 ·rintro ef hef hp
  refine Zd <| Zb <| JLr (Ze 0 (vs := [.int .i64 0]) (l := [.int .i64 0]) ty46 rfl rfl rfl rfl rfl (Zm rfl Zv) rfl <| Za <| Zl <| ⟨.int .i64 0, [], Ret.one rfl (RV.cell1 ty46 rfl (At.bx 0 rfl) rfl), Sub.nil, ?_⟩)
  rw [yP_err] at hef
  have hp0 : ef = 0 := by simpa using hp
  exact ⟨by rw [YK, if_pos hh0, if_pos h1, ← hef, hp0], rfl⟩
 rintro ef hef hp
 refine ⟨.int .i64 ef, [], Ret.one rfl (RV.cell1 ty46 rfl (At.bx 0 rfl) rfl), Sub.nil, ?_⟩
 rw [yP_err] at hef
 have hp0 : ¬ ef = 0 := by simpa using hp
 exact ⟨by rw [YK, if_pos hh0, if_pos h1, ← hef], rfl⟩
end Go.Proofs.YtmophpgiaiemhaaGreat.Hs
/-! Walks, printed by a program of this session's own (gen.py). -/
namespace Go.Proofs.YtmophpgiaiemhaaGreat.Hs
open Go Go.Proofs
set_option maxRecDepth 100000
set_option linter.unusedVariables false
set_option linter.unusedSimpArgs false
attribute [local irreducible] JL J CT wlo
theorem check_ct (t : Tm) (d m : Int) (cs : List Value) (H : Heap) (ht : RT H cs t) : CT Tryz.prog 29 ⟨[.agg ⟨cs⟩, .int .i64 d, .int .i64 m]⟩ [] H (fun v N => v = .int .i64 (ZT d m t) ∧ N = []) := by
 refine Zo Tryz.func29 rfl rfl <| Zd <| Zb <| JLr (Zt (l := cs) rfl rfl fun b1 => JLr (Zt (l := [.int .i64 d]) rfl rfl fun b2 => JLa (.int .i64 0) <| Za <| Zd <| Zd <| Zb <| JLq (.agg ⟨[.int .i64 0]⟩) (Pu.build (pv := []) (l := [.int .i64 0]) rfl bld114_) <| JLr (Zt (l := [.int .i64 0]) rfl rfl fun b3 => JLr (Zh Zu rfl (At.bx 2 rfl) (Zx (ZD ht)) ?_))))
 refine Zw 0 rfl Tryz.call86 rfl rfl (fun hin => longT_ct _ _ _ _ _ _ (RT.mono (Hle.hu _ _) ht) (by omega) (by omega) (by omega) (by omega)) rfl ?_
 rintro _ _ ⟨rfl, rfl⟩
 refine Za <| Zi (b := (cnT stL 1 t 0).1) rfl (fun h5 => ?_) (fun h5 => ?_)
 ·refine Zd <| Zb <| JLa (.int .i64 11) <| Za <| Zl <| ⟨.int .i64 11, [], Ret.one rfl (RV.tmp rfl), Sub.nil, ?_⟩
  exact ⟨by rw [ZT, if_pos (by simp [h5])], rfl⟩
 refine Zp <| Zd <| Zb <| JLm (.int .i64 m) <| JLq (.func (.func 87) ⟨[]⟩ ⟨[.pointer (some ⟨b2, 0, none⟩)]⟩) (Pu.makeFunc rfl rfl) <| JLq (.agg ⟨[.int .i64 m, .func (.func 87) ⟨[]⟩ ⟨[.pointer (some ⟨b2, 0, none⟩)]⟩]⟩) (Pu.build (pv := [(0, .int .i64 m), (1, .func (.func 87) ⟨[]⟩ ⟨[.pointer (some ⟨b2, 0, none⟩)]⟩)]) (l := [.int .i64 m, .func (.func 87) ⟨[]⟩ ⟨[.pointer (some ⟨b2, 0, none⟩)]⟩]) rfl (bld141_0_1 _ _ _ _)) <| JLr (Zj (l := [.int .i64 0, .nilFunc]) Tryz.zeroValue141 rfl fun b6 => JLr (Ze 0 (vs := [.int .i64 m, .func (.func 87) ⟨[]⟩ ⟨[.pointer (some ⟨b2, 0, none⟩)]⟩]) (l := [.int .i64 m, .func (.func 87) ⟨[]⟩ ⟨[.pointer (some ⟨b2, 0, none⟩)]⟩]) ty141 rfl rfl rfl rfl rfl (Zm rfl (Zm rfl Zv)) rfl <| Za <| Zd <| Zb <| JLr (Zh ty141 rfl (At.bx 0 rfl) rfl <| JLr (Zh Zu rfl (At.bx 3 rfl) (Zx (ZD ht)) ?_))))
 refine Zg rfl Tryz.call88 rfl (fun hin => all_ct _ _ _ _ _ _ _ (RT.mono (Hle.hu _ _) ht) (hin 2 _ rfl _ _ List.mem_cons_self) (by decide) (by have e1 := cnT_size t 1 0 h5; have e2 := cnT_le stL_le t 1 0 h5; omega)) rfl ?_
 rintro _ _ ⟨rfl, rfl⟩
 refine JLa (.int .i64 (YK d m 0 t)) <| Za <| Zl <| ⟨.int .i64 (YK d m 0 t), [], Ret.one rfl (RV.tmp rfl), Sub.nil, ?_⟩
 exact ⟨by rw [ZT, if_neg (by simp [h5])], rfl⟩
theorem right_ct (l : List Tm) (v : Value) (H : Heap) (hl : rdS RT 36 H v l) : CT Tryz.prog 61 ⟨[v]⟩ [] H (fun v N => v = .int .i64 (ZE l) ∧ N = []) := by
 refine Zo Tryz.func61 rfl rfl <| Zd <| Zb <| JLa (.int .i64 0) <| Za <| Zd <| Zd <| Zb <| JLm v ?_
 obtain ⟨a1, cap1, hv1⟩ := hl.sl
 have hle1 := hl.le
 refine JLq (.int .i64 ((l.length : Int))) (Pu.lenSl Tryz.runUnderlying24 hv1) <| JLm (.int .i64 0) <| Za <| Zs <| ZU (fun k ρ M => ∃ (j : Nat), ρ 2 = .int .i64 0 ∧ ρ 6 = v ∧ ρ 7 = .int .i64 ((l.length : Int)) ∧ ρ 8 = .int .i64 ((j : Int)) ∧ Sub [] M ∧ j ≤ l.length ∧ ZE (l.drop j) = ZE l ∧ k = l.length - j) _ ⟨0, rfl, rfl, rfl, rfl, Sub.nil, Nat.zero_le _, rfl, rfl⟩ ?_
 rintro _ ρ2 _ ⟨j, e3, e4, e5, e6, hm7, hj, hinv, rfl⟩
 obtain ⟨ρ8, rfl⟩ := Zc (uc e3 (uc e4 (uc e5 (uc e6 un))))
 clear e3 e4 e5 e6
 refine Z1 hm7 <| Zd <| Zb <| JLq (.bool (decide ((j : Int) < (l.length : Int)))) (Pu.lss rfl rfl) <| Za <| Zd <| Zi (b := decide ((j : Int) < (l.length : Int))) rfl (fun h9 => ?_) (fun h9 => ?_)
 ·replace h9 := dt h9
  have h9n : j < l.length := by omega
  have hlenl := hl.le
  refine Zp <| Zd <| Zs <| Zd <| Zb ?_
  obtain ⟨b10, o10, cap10, row10, T10, fr10, cs10, hv10, hb10, hs10, hE10⟩ := hl.get j (by first | assumption | omega | decide | simp)
  refine JLq (.pointer (some ⟨b10, o10 + j * 36, none⟩)) (Pu.idx j Tryz.runUnderlying24 Zu hv10 rfl rfl (by first | assumption | omega | decide | simp)) <| JLr (Zh Zu rfl (At.im hb10) hs10 <| JLr (Zj (l := pkT 0 0 zS (.slice none 0 0) (.slice none 0 0)) Tryz.zeroValue27 rfl fun b11 => JLr (Ze 0 (vs := cs10) (l := cs10) Zu rfl rfl rfl rfl (ZD hE10) (RT_ok hE10) (ZL (n := 36) rfl (ZD hE10)) <| Za <| Zd <| Zb <| JLr (Zh Zu rfl (At.bx 0 rfl) (Zx (ZD hE10)) <| Zg rfl Tryz.call29 rfl (fun hin => check_ct _ _ _ _ _ (RT.mono (Hle.hu _ _) hE10)) rfl ?_))))
  rintro _ _ ⟨rfl, rfl⟩
  refine JLa (.int .i64 (ZT 60 8 (l[j]))) <| Za <| Zd <| Zb <| JLm (.int .i64 (ZT 60 8 (l[j]))) <| JLq (.bool (!decide (ZT 60 8 (l[j]) = 0))) (Pu.neq rfl rfl) <| Za <| Zi (b := !decide (ZT 60 8 (l[j]) = 0)) rfl (fun h12 => ?_) (fun h12 => ?_)
  ·replace h12 := nt h12
   replace h12 := df h12
   refine Zd <| Zb <| JLm (.int .i64 (ZT 60 8 (l[j]))) <| JLa (.int .i64 (ZT 60 8 (l[j]))) <| Za <| Zl <| ⟨.int .i64 (ZT 60 8 (l[j])), [], Ret.one rfl (RV.tmp rfl), Sub.nil, ?_⟩
   exact ⟨by rw [← hinv, Yt h9n, ZE, if_neg h12], rfl⟩
  replace h12 := nf h12
  replace h12 := dt h12
  refine Zp <| Zb <| JLq (.int .i64 (((j + 1 : Nat) : Int))) (Pu.inc rfl rfl (by omega)) <| JLm (.int .i64 (((j + 1 : Nat) : Int))) <| Za <| ⟨_, ?_, (j + 1), rfl, rfl, rfl, rfl, Sub.nil, ?_, ?_, rfl⟩
  ·omega
  ·omega
  rw [Yt h9n, ZE, if_pos h12] at hinv; exact hinv
 replace h9 := df h9
 have h9n : l.length ≤ j := by omega
 refine ZM _ rfl <| Zd <| Zb <| JLa (.int .i64 0) <| Za <| Zl <| ⟨.int .i64 0, [], Ret.one rfl (RV.tmp rfl), Sub.nil, ?_⟩
 exact ⟨by rw [← hinv, Xl h9n]; rfl, rfl⟩
end Go.Proofs.YtmophpgiaiemhaaGreat.Hs
/-! Walks, printed by a program of this session's own (gen.py). -/
namespace Go.Proofs.YtmophpgiaiemhaaGreat.Hs
open Go Go.Proofs
set_option maxRecDepth 100000
set_option linter.unusedVariables false
set_option linter.unusedSimpArgs false
attribute [local irreducible] JL J CT wlo
theorem shiftP_ct (t : Tm) (dy fr : Int) (cs : List Value) (H : Heap) (ht : RT H cs t) : CT Tryz.prog 50 ⟨[.agg ⟨cs⟩, .int .i64 dy, .int .i64 fr]⟩ [] H (fun v N => ∃ cs k, v = .tuple ⟨[.agg ⟨cs⟩, .int .i64 (shiftP t dy fr).2]⟩ ∧ N = [k] ∧ OT (shiftP t dy fr).1 cs k) := by
 refine Zo Tryz.func50 rfl rfl <| Zd <| Zb <| JLr (Zt (l := cs) rfl rfl fun b1 => JLr (Zt (l := [.int .i64 dy]) rfl rfl fun b2 => JLr (Zt (l := [.int .i64 fr]) rfl rfl fun b3 => JLr (Zj (l := pkT 0 0 zS (.slice none 0 0) (.slice none 0 0)) Tryz.zeroValue27 rfl fun b4 => JLa (.int .i64 0) <| Za <| Zd <| Zd <| Zb <| JLr (Zh Zu rfl (At.bx 3 rfl) (Zx (ZD ht)) ?_)))))
 refine JLr (Zr (vs := [.agg ⟨cs⟩]) [cs] Tryz.runUnderlying24 el27 rfl rfl (by intro e he; simp only [List.mem_cons, List.not_mem_nil, or_false] at he; subst he; exact (ZD ht)) rfl (by decide) fun b5 k5 ho5 hk5 => Zg rfl Tryz.call61 rfl (fun hin => right_ct _ _ _ (Own.rd1 ho5 (hin 0 _ rfl) (RT.mono (Hle.hu _ _) ht))) rfl ?_)
 rintro _ _ ⟨rfl, rfl⟩
 refine JLa (.int .i64 (ZE [t])) <| Za <| Zd <| Zb <| JLm (.int .i64 (ZE [t])) <| JLq (.bool (!decide (ZE [t] = 0))) (Pu.neq rfl rfl) <| Za <| Zi (b := !decide (ZE [t] = 0)) rfl (fun h6 => ?_) (fun h6 => ?_)
 ·replace h6 := nt h6
  replace h6 := df h6
  refine Zd <| Zb <| JLq (.agg ⟨pkT 0 0 zS (.slice none 0 0) (.slice none 0 0)⟩) (Pu.build (pv := []) (l := pkT 0 0 zS (.slice none 0 0) (.slice none 0 0)) rfl (YW )) <| JLm (.int .i64 (ZE [t])) <| JLr (Ze 1 (vs := pkT 0 0 zS (.slice none 0 0) (.slice none 0 0)) (l := pkT 0 0 zS (.slice none 0 0) (.slice none 0 0)) Zu rfl rfl rfl rfl rfl (ZI rfl rfl) (Z0 ..) <| JLa (.int .i64 (ZE [t])) <| Za <| Zl <| ⟨.tuple ⟨[.agg ⟨pkT 0 0 zS (.slice none 0 0) (.slice none 0 0)⟩, .int .i64 (ZE [t])]⟩, [[]], Ret.two rfl (RV.cell Zu rfl (At.bx 1 rfl) (ZZ ..)) (RV.tmp rfl), (Sub.emp Sub.nil), ?_⟩)
  have hx : shiftP t dy fr = (zT, ZE [t]) := by simp only [shiftP]; (repeat' split) <;> first | rfl | (exfalso; simp_all; done) | (exfalso; simp_all; omega)
  exact ⟨_, _, by rw [hx], rfl, by rw [hx]; exact Yy⟩
 replace h6 := nf h6
 replace h6 := dt h6
 refine Zp <| Zd <| Yo (fun ρ M => ρ 3 = .pointer (some ⟨b1, 0, none⟩) ∧ ρ 4 = .pointer (some ⟨b2, 0, none⟩) ∧ ρ 5 = .pointer (some ⟨b3, 0, none⟩) ∧ ρ 6 = .pointer (some ⟨b4, 0, none⟩) ∧ ρ 7 = .int .i64 0 ∧ ρ 21 = .bool ((decide (dy < -60 ∨ 60 < dy)) || (decide (fr < 0 ∨ 60 < fr))) ∧ M = [k5, [(b4, .cells ⟨pkT 0 0 zS (.slice none 0 0) (.slice none 0 0)⟩ 27 (0, 0))], [(b3, .cells ⟨[.int .i64 fr]⟩ 3 (0, 0))], [(b2, .cells ⟨[.int .i64 dy]⟩ 3 (0, 0))], [(b1, .cells ⟨cs⟩ 27 (0, 0))]]) ?_ ?_
 ·refine Zb <| JLr (Zf ty3 rfl (At.bx 3 rfl) rfl <| Zg rfl Tryz.call79 rfl (fun hin => Yc _ _ _ _) rfl ?_)
  rintro _ _ ⟨rfl, rfl⟩
  refine JLm (.bool (decide (dy < -60 ∨ 60 < dy))) ?_
  cases h7 : (decide (dy < -60 ∨ 60 < dy)) with
  | true =>
   replace h7 := dt h7
   iterate 2 refine Zy rfl ?_
   refine JLq (.bool true) (Pu.pickT rfl rfl) <| Za ?_
   first | exact ⟨rfl, rfl, rfl, rfl, rfl, rfl, rfl⟩ | (exfalso; omega)
  | false =>
   replace h7 := df h7
   refine JLr (Zf ty3 rfl (At.bx 2 rfl) rfl <| Zg rfl Tryz.call79 rfl (fun hin => Yc _ _ _ _) rfl ?_)
   rintro _ _ ⟨rfl, rfl⟩
   refine JLq (.bool (decide (fr < 0 ∨ 60 < fr))) (Pu.pickF rfl rfl) <| Za ?_
   first | exact ⟨rfl, rfl, rfl, rfl, rfl, rfl, rfl⟩ | (exfalso; omega)
 rintro ρ8 _ ⟨e9, e10, e11, e12, e13, e14, rfl⟩
 obtain ⟨ρ15, rfl⟩ := Zc (uc e9 (uc e10 (uc e11 (uc e12 (uc e13 (uc e14 un))))))
 clear e9 e10 e11 e12 e13 e14
 refine Zi (b := (decide (dy < -60 ∨ 60 < dy)) || (decide (fr < 0 ∨ 60 < fr))) rfl (fun h16 => ?_) (fun h16 => ?_)
 ·refine Zd <| Zb <| JLq (.agg ⟨pkT 0 0 zS (.slice none 0 0) (.slice none 0 0)⟩) (Pu.build (pv := []) (l := pkT 0 0 zS (.slice none 0 0) (.slice none 0 0)) rfl (YW )) <| JLr (Ze 1 (vs := pkT 0 0 zS (.slice none 0 0) (.slice none 0 0)) (l := pkT 0 0 zS (.slice none 0 0) (.slice none 0 0)) Zu rfl rfl rfl rfl rfl (ZI rfl rfl) (Z0 ..) <| JLa (.int .i64 3) <| Za <| Zl <| ⟨.tuple ⟨[.agg ⟨pkT 0 0 zS (.slice none 0 0) (.slice none 0 0)⟩, .int .i64 3]⟩, [[]], Ret.two rfl (RV.cell Zu rfl (At.bx 1 rfl) (ZZ ..)) (RV.tmp rfl), (Sub.emp Sub.nil), ?_⟩)
  have hx : shiftP t dy fr = (zT, 3) := by simp only [shiftP]; (repeat' split) <;> first | rfl | (exfalso; simp_all; done) | (exfalso; simp_all; omega)
  exact ⟨_, _, by rw [hx], rfl, by rw [hx]; exact Yy⟩
 obtain ⟨h16a, h16b⟩ := orF h16
 replace h16a := df h16a
 replace h16b := df h16b
 refine Zp <| Zd <| Zd <| Zb <| JLr (Zh Zu rfl (At.bx 4 rfl) (Zx (ZD ht)) <| Zg rfl Tryz.call94 rfl (fun hin => freeP_ct _ _ _ (RT.mono (Hle.hu _ _) ht) (by have := (Yl (Xd ‹ZE [t] = 0›)).1; omega) (Yl (Xd ‹ZE [t] = 0›)).2.1) rfl ?_)
 rintro u17 _ ⟨_, k17, hu17, rfl, ho17⟩; subst hu17
 refine JLq (.func (.func 95) ⟨[]⟩ ⟨[.pointer (some ⟨b3, 0, none⟩), .pointer (some ⟨b2, 0, none⟩)]⟩) (Pu.makeFunc rfl rfl) <| Zg rfl Tryz.call63 rfl (fun hin => every_ct 95 [] [.pointer (some ⟨b3, 0, none⟩), .pointer (some ⟨b2, 0, none⟩)] Tryz.call95 (mvOk dy fr) _ _ _ (own_ints ho17 (by have := freeP_len t; omega) (hin 0 _ rfl)) (fun x hx h hh => shiftO_ct x dy fr h b3 b2 (hh _ _ (hin 3 _ rfl _ _ List.mem_cons_self)) (hh _ _ (hin 4 _ rfl _ _ List.mem_cons_self)) (freeP_bound t x hx).1 (by have := (freeP_bound t x hx).2; omega) (by omega) (by omega))) rfl ?_
 rintro _ _ ⟨rfl, rfl⟩
 refine JLq (.bool (!((Xj t).all (mvOk dy fr)))) (Pu.not rfl) <| Za <| Zi (b := !((Xj t).all (mvOk dy fr))) rfl (fun h18 => ?_) (fun h18 => ?_)
 ·replace h18 := nt h18
  refine Zd <| Zb <| JLq (.agg ⟨pkT 0 0 zS (.slice none 0 0) (.slice none 0 0)⟩) (Pu.build (pv := []) (l := pkT 0 0 zS (.slice none 0 0) (.slice none 0 0)) rfl (YW )) <| JLr (Ze 2 (vs := pkT 0 0 zS (.slice none 0 0) (.slice none 0 0)) (l := pkT 0 0 zS (.slice none 0 0) (.slice none 0 0)) Zu rfl rfl rfl rfl rfl (ZI rfl rfl) (Z0 ..) <| JLa (.int .i64 1) <| Za <| Zl <| ⟨.tuple ⟨[.agg ⟨pkT 0 0 zS (.slice none 0 0) (.slice none 0 0)⟩, .int .i64 1]⟩, [[]], Ret.two rfl (RV.cell Zu rfl (At.bx 2 rfl) (ZZ ..)) (RV.tmp rfl), (Sub.emp Sub.nil), ?_⟩)
  have hx : shiftP t dy fr = (zT, 1) := by simp only [shiftP]; (repeat' split) <;> first | rfl | (exfalso; simp_all; done) | (exfalso; simp_all; omega)
  exact ⟨_, _, by rw [hx], rfl, by rw [hx]; exact Yy⟩
 replace h18 := nf h18
 refine Zp <| Zd <| Zb <| JLr (Zh Zu rfl (At.bx 5 rfl) (Zx (ZD ht)) <| JLr (Zf ty3 rfl (At.bx 4 rfl) rfl <| JLr (Zf ty3 rfl (At.bx 3 rfl) rfl <| Zg rfl Tryz.call82 rfl (fun hin => shifted_ct _ _ _ _ _ (RT.mono (Hle.hu _ _) ht) (by have := (Yl (Xd ‹ZE [t] = 0›)).1; omega) (Yl (Xd ‹ZE [t] = 0›)).2.1 (by omega) (by omega)) rfl ?_)))
 rintro _ _ ⟨cs19, k19, rfl, rfl, hO19⟩
 refine JLr (Ze 3 (vs := cs19) (l := cs19) Zu rfl rfl rfl rfl hO19.len hO19.ok (ZL (n := 36) rfl hO19.len) <| JLa (.int .i64 0) <| Za <| Zl <| ⟨.tuple ⟨[.agg ⟨cs19⟩, .int .i64 0]⟩, [k19], Ret.two rfl (RV.cell Zu rfl (At.bx 3 rfl) (Zx hO19.len)) (RV.tmp rfl), (Sk Sub.nil), ?_⟩)
 have hx : shiftP t dy fr = (shT dy fr t, 0) := by simp only [shiftP]; (repeat' split) <;> first | rfl | (exfalso; simp_all; done) | (exfalso; simp_all; omega)
 exact ⟨_, _, by rw [hx], rfl, by rw [hx]; exact hO19⟩
theorem freeE_ct (t : Tm) (cs : List Value) (H : Heap) (ht : RT H cs t) : CT Tryz.prog 49 ⟨[.agg ⟨cs⟩]⟩ [] H (fun v N => ∃ u e k, v = .tuple ⟨[u, .int .i64 e]⟩ ∧ N = [k] ∧ Own 3 1 u (ints (freeE t).1) k ∧ e = (freeE t).2) := by
 refine Zo Tryz.func49 rfl rfl <| Zd <| Zb <| JLr (Zt (l := cs) rfl rfl fun b1 => JLa (.slice none 0 0) <| JLa (.int .i64 0) <| Za <| Zd <| Zd <| Zb <| JLr (Zh Zu rfl (At.bx 0 rfl) (Zx (ZD ht)) <| JLr (Zr (vs := [.agg ⟨cs⟩]) [cs] Tryz.runUnderlying24 el27 rfl rfl (by intro e he; simp only [List.mem_cons, List.not_mem_nil, or_false] at he; subst he; exact (ZD ht)) rfl (by decide) fun b2 k2 ho2 hk2 => Zg rfl Tryz.call61 rfl (fun hin => right_ct _ _ _ (Own.rd1 ho2 (hin 0 _ rfl) (RT.mono (Hle.hu _ _) ht))) rfl ?_)))
 rintro _ _ ⟨rfl, rfl⟩
 refine JLa (.int .i64 (ZE [t])) <| Za <| Zd <| Zb <| JLm (.int .i64 (ZE [t])) <| JLq (.bool (!decide (ZE [t] = 0))) (Pu.neq rfl rfl) <| Za <| Zi (b := !decide (ZE [t] = 0)) rfl (fun h3 => ?_) (fun h3 => ?_)
 ·replace h3 := nt h3
  replace h3 := df h3
  refine Zd <| Zb <| JLm (.int .i64 (ZE [t])) <| JLa (.slice none 0 0) <| JLa (.int .i64 (ZE [t])) <| Za <| Zl <| ⟨.tuple ⟨[.slice none 0 0, .int .i64 (ZE [t])]⟩, [[]], Ret.two rfl (RV.tmp rfl) (RV.tmp rfl), (Sub.emp Sub.nil), ?_⟩
  have hx : freeE t = ([], ZE [t]) := by rw [freeE, if_neg (by assumption)]
  exact ⟨_, _, _, rfl, rfl, by rw [hx]; exact Own.nil, by rw [hx]⟩
 replace h3 := nf h3
 replace h3 := dt h3
 refine Zp <| Zd <| Zb <| JLr (Zh Zu rfl (At.bx 1 rfl) (Zx (ZD ht)) <| Zg rfl Tryz.call94 rfl (fun hin => freeP_ct _ _ _ (RT.mono (Hle.hu _ _) ht) (by have := (Yl (Xd ‹ZE [t] = 0›)).1; omega) (Yl (Xd ‹ZE [t] = 0›)).2.1) rfl ?_)
 rintro u4 _ ⟨_, k4, hu4, rfl, ho4⟩; subst hu4
 refine JLa u4 <| JLa (.int .i64 0) <| Za <| Zl <| ⟨.tuple ⟨[u4, .int .i64 0]⟩, [k4], Ret.two rfl (RV.tmp rfl) (RV.tmp rfl), (Sk Sub.nil), ?_⟩
 have hx : freeE t = (Xj t, 0) := by rw [freeE, if_pos (by assumption)]
 exact ⟨_, _, _, rfl, rfl, by rw [hx]; exact ho4, by rw [hx]⟩
theorem substP_ct (t : Tm) (m : Int) (u : Tm) (cs us : List Value) (H : Heap) (ht : RT H cs t) (hu1 : RT H us u) : CT Tryz.prog 27 ⟨[.agg ⟨cs⟩, .int .i64 m, .agg ⟨us⟩]⟩ [] H (fun v N => ∃ cs k, v = .tuple ⟨[.agg ⟨cs⟩, .int .i64 (Y0 t m u).2]⟩ ∧ N = [k] ∧ OT (Y0 t m u).1 cs k) := by
 refine Zo Tryz.func27 rfl rfl <| Zd <| Zb <| JLr (Zt (l := cs) rfl rfl fun b1 => JLr (Zt (l := [.int .i64 m]) rfl rfl fun b2 => JLr (Zt (l := us) rfl rfl fun b3 => JLr (Zj (l := pkT 0 0 zS (.slice none 0 0) (.slice none 0 0)) Tryz.zeroValue27 rfl fun b4 => JLa (.int .i64 0) <| Za <| Zd <| Zd <| Zb <| JLr (Zh Zu rfl (At.bx 3 rfl) (Zx (ZD ht)) ?_)))))
 refine JLr (Zh Zu rfl (At.bx 1 rfl) (Zx (ZD hu1)) <| JLr (Zr (vs := [.agg ⟨cs⟩, .agg ⟨us⟩]) [cs, us] Tryz.runUnderlying24 el27 rfl rfl (by intro e he; simp only [List.mem_cons, List.not_mem_nil, or_false] at he; rcases he with rfl | rfl <;> first | exact (ZD ht) | exact (ZD hu1)) rfl (by decide) fun b5 k5 ho5 hk5 => Zg rfl Tryz.call61 rfl (fun hin => right_ct _ _ _ (Own.rd2 ho5 (hin 0 _ rfl) (RT.mono (Hle.hu _ _) ht) (RT.mono (Hle.hu _ _) hu1))) rfl ?_))
 rintro _ _ ⟨rfl, rfl⟩
 refine JLa (.int .i64 (ZE [t, u])) <| Za <| Zd <| Zb <| JLm (.int .i64 (ZE [t, u])) <| JLq (.bool (!decide (ZE [t, u] = 0))) (Pu.neq rfl rfl) <| Za <| Zi (b := !decide (ZE [t, u] = 0)) rfl (fun h6 => ?_) (fun h6 => ?_)
 ·replace h6 := nt h6
  replace h6 := df h6
  refine Zd <| Zb <| JLq (.agg ⟨pkT 0 0 zS (.slice none 0 0) (.slice none 0 0)⟩) (Pu.build (pv := []) (l := pkT 0 0 zS (.slice none 0 0) (.slice none 0 0)) rfl (YW )) <| JLm (.int .i64 (ZE [t, u])) <| JLr (Ze 1 (vs := pkT 0 0 zS (.slice none 0 0) (.slice none 0 0)) (l := pkT 0 0 zS (.slice none 0 0) (.slice none 0 0)) Zu rfl rfl rfl rfl rfl (ZI rfl rfl) (Z0 ..) <| JLa (.int .i64 (ZE [t, u])) <| Za <| Zl <| ⟨.tuple ⟨[.agg ⟨pkT 0 0 zS (.slice none 0 0) (.slice none 0 0)⟩, .int .i64 (ZE [t, u])]⟩, [[]], Ret.two rfl (RV.cell Zu rfl (At.bx 1 rfl) (ZZ ..)) (RV.tmp rfl), (Sub.emp Sub.nil), ?_⟩)
  have hx : Y0 t m u = (zT, ZE [t, u]) := by simp only [Y0]; (repeat' split) <;> first | rfl | (exfalso; simp_all; done) | (exfalso; simp_all; omega)
  exact ⟨_, _, by rw [hx], rfl, by rw [hx]; exact Yy⟩
 replace h6 := nf h6
 replace h6 := dt h6
 refine Zp <| Zd <| Zd <| Zb <| JLr (Zf ty3 rfl (At.bx 3 rfl) rfl <| Zg rfl Tryz.call79 rfl (fun hin => Yc _ _ _ _) rfl ?_)
 rintro _ _ ⟨rfl, rfl⟩
 refine Za <| Zi (b := decide (m < 0 ∨ 59 < m)) rfl (fun h7 => ?_) (fun h7 => ?_)
 ·replace h7 := dt h7
  refine Zd <| Zb <| JLq (.agg ⟨pkT 0 0 zS (.slice none 0 0) (.slice none 0 0)⟩) (Pu.build (pv := []) (l := pkT 0 0 zS (.slice none 0 0) (.slice none 0 0)) rfl (YW )) <| JLr (Ze 1 (vs := pkT 0 0 zS (.slice none 0 0) (.slice none 0 0)) (l := pkT 0 0 zS (.slice none 0 0) (.slice none 0 0)) Zu rfl rfl rfl rfl rfl (ZI rfl rfl) (Z0 ..) <| JLa (.int .i64 3) <| Za <| Zl <| ⟨.tuple ⟨[.agg ⟨pkT 0 0 zS (.slice none 0 0) (.slice none 0 0)⟩, .int .i64 3]⟩, [[]], Ret.two rfl (RV.cell Zu rfl (At.bx 1 rfl) (ZZ ..)) (RV.tmp rfl), (Sub.emp Sub.nil), ?_⟩)
  have hx : Y0 t m u = (zT, 3) := by simp only [Y0]; (repeat' split) <;> first | rfl | (exfalso; simp_all; done) | (exfalso; simp_all; omega)
  exact ⟨_, _, by rw [hx], rfl, by rw [hx]; exact Yy⟩
 replace h7 := df h7
 refine Zp <| Zd <| Zb <| JLq (.func (.func 81) ⟨[]⟩ ⟨[.pointer (some ⟨b2, 0, none⟩), .pointer (some ⟨b3, 0, none⟩)]⟩) (Pu.makeFunc rfl rfl) <| JLq (.agg ⟨[.func (.func 81) ⟨[]⟩ ⟨[.pointer (some ⟨b2, 0, none⟩), .pointer (some ⟨b3, 0, none⟩)]⟩, .func (.func 84) ⟨[]⟩ ⟨[]⟩]⟩) (Pu.build (pv := [(0, .func (.func 81) ⟨[]⟩ ⟨[.pointer (some ⟨b2, 0, none⟩), .pointer (some ⟨b3, 0, none⟩)]⟩), (1, .func (.func 84) ⟨[]⟩ ⟨[]⟩)]) (l := [.func (.func 81) ⟨[]⟩ ⟨[.pointer (some ⟨b2, 0, none⟩), .pointer (some ⟨b3, 0, none⟩)]⟩, .func (.func 84) ⟨[]⟩ ⟨[]⟩]) rfl (bld136_0_1 _ _ _ _ _ _)) <| JLr (Zh Zu rfl (At.bx 4 rfl) (Zx (ZD ht)) <| Zg rfl Tryz.call85 rfl (fun hin => mapTermP_ct 84 [] [] Tryz.call84 (fun s => s) 81 [] [.pointer (some ⟨b2, 0, none⟩), .pointer (some ⟨b3, 0, none⟩)] Tryz.call81 (sbv m u) _ _ _ _ (RT.mono (Hle.hu _ _) ht) (by have := (Yl (rightT2 ‹ZE [t, u] = 0›).1).1; omega) (Yl (rightT2 ‹ZE [t, u] = 0›).1).2.1 (by decide) (by have := (Yl (rightT2 ‹ZE [t, u] = 0›).1).1; omega) (fun s h hh => same_ct s h) (fun n b h hh h1 h2 h3 h4 => substV_ct n b m u _ h b2 b3 (hh _ _ (hin 3 _ rfl _ _ List.mem_cons_self)) (hh _ _ (hin 2 _ rfl _ _ List.mem_cons_self)) (RT.mono (Hle.trans (Hle.hu _ _) hh) hu1) (by have := (Yl (rightT2 ‹ZE [t, u] = 0›).2).1; omega) (Yl (rightT2 ‹ZE [t, u] = 0›).2).2.1 h1 h2 h3 h4)) rfl ?_)
 rintro _ _ ⟨cs8, k8, rfl, rfl, hO8⟩
 refine Zg rfl Tryz.call80 rfl (fun hin => short_ct _ _ _ (hO8.rd (hin 0 _ rfl))) rfl ?_
 rintro _ _ ⟨rfl, rfl⟩
 refine JLq (.agg ⟨(if Yz (mapQ (fun s => s) (sbv m u) 0 t) = true then pkT 0 0 zS (.slice none 0 0) (.slice none 0 0) else cs8)⟩) (Pu.extract rfl rfl) <| JLq (.int .i64 ((if Yz (mapQ (fun s => s) (sbv m u) 0 t) = true then 11 else 0))) (Pu.extract rfl rfl) <| JLr (Ze 2 (vs := (if Yz (mapQ (fun s => s) (sbv m u) 0 t) = true then pkT 0 0 zS (.slice none 0 0) (.slice none 0 0) else cs8)) (l := (if Yz (mapQ (fun s => s) (sbv m u) 0 t) = true then pkT 0 0 zS (.slice none 0 0) (.slice none 0 0) else cs8)) Zu rfl rfl rfl rfl (len_ite (n := 36) rfl hO8.len) (okc_ite (ZI rfl rfl) hO8.ok) (ZL (n := 36) rfl (len_ite (n := 36) rfl hO8.len)) <| JLa (.int .i64 ((if Yz (mapQ (fun s => s) (sbv m u) 0 t) = true then 11 else 0))) <| Za <| Zl ?_)
 by_cases hL : Yz (mapQ (fun s => s) (sbv m u) 0 t) = true
 ·refine ⟨.tuple ⟨[.agg ⟨(if Yz (mapQ (fun s => s) (sbv m u) 0 t) = true then pkT 0 0 zS (.slice none 0 0) (.slice none 0 0) else cs8)⟩, .int .i64 ((if Yz (mapQ (fun s => s) (sbv m u) 0 t) = true then 11 else 0))]⟩, [[]], Ret.two rfl (RV.cell Zu rfl (At.bx 2 rfl) (Zx (len_ite (n := 36) rfl hO8.len))) (RV.tmp rfl), (Sub.emp Sub.nil), ?_⟩
  have hx : Y0 t m u = (zT, 11) := by rw [Y0, if_pos (by assumption), if_neg (by omega), if_pos (show Yz (sbT m u t) = true from hL)]
  exact ⟨_, _, by rw [if_pos hL, if_pos hL, hx], rfl, by rw [hx]; exact Yy⟩
 refine ⟨.tuple ⟨[.agg ⟨(if Yz (mapQ (fun s => s) (sbv m u) 0 t) = true then pkT 0 0 zS (.slice none 0 0) (.slice none 0 0) else cs8)⟩, .int .i64 ((if Yz (mapQ (fun s => s) (sbv m u) 0 t) = true then 11 else 0))]⟩, [k8], Ret.two rfl (RV.cell Zu rfl (At.bx 2 rfl) (Zx (len_ite (n := 36) rfl hO8.len))) (RV.tmp rfl), (Sk Sub.nil), ?_⟩
 have hx : Y0 t m u = (mapQ (fun s => s) (sbv m u) 0 t, 0) := by rw [Y0, if_pos (by assumption), if_neg (by omega), if_neg (show ¬ Yz (sbT m u t) = true from hL)]; rfl
 exact ⟨_, _, by rw [if_neg hL, if_neg hL, hx], rfl, by rw [hx]; exact hO8⟩
end Go.Proofs.YtmophpgiaiemhaaGreat.Hs
/-! Walks, printed by a program of this session's own (gen.py). -/
namespace Go.Proofs.YtmophpgiaiemhaaGreat.Hs
open Go Go.Proofs
set_option maxRecDepth 100000
set_option linter.unusedVariables false
set_option linter.unusedSimpArgs false
attribute [local irreducible] JL J CT wlo
theorem big_ct (e : Int) (H : Heap) : CT Tryz.prog 28 ⟨[.int .i64 e]⟩ [] H (fun v N => v = .bool (decide (e = 11)) ∧ N = []) := by
 refine Zo Tryz.func28 rfl rfl <| Zd <| Zb <| JLa (.bool false) <| Za <| Zd <| Zb <| JLm (.int .i64 e) <| JLq (.bool (decide (e = 11))) (Pu.eql rfl rfl) <| JLa (.bool (decide (e = 11))) <| Za <| Zl <| ⟨.bool (decide (e = 11)), [], Ret.one rfl (RV.tmp rfl), Sub.nil, ?_⟩
 exact ⟨rfl, rfl⟩
end Go.Proofs.YtmophpgiaiemhaaGreat.Hs
/-! A store of drawn numbers: words on its operations. -/
namespace Go.Proofs.YtmophpgiaiemhaaGreat.Hs
open Go Go.Proofs
set_option maxRecDepth 100000
/-- What a xor of two words is. -/
def xr (a b : Int) : Int := IntKind.u64.wrap ((BitVec.ofInt IntKind.u64.bits a ^^^ BitVec.ofInt IntKind.u64.bits b).toNat : Int)
/-- The next seed. -/
def nx (a : Int) : Int := IntKind.u64.wrap (IntKind.u64.wrap (a * 6364136223846793005) + 1442695040888963407)
theorem wrap_u64 (x : Int) : 0 ≤ IntKind.u64.wrap x ∧ IntKind.u64.wrap x < 18446744073709551616 := by
  have e : IntKind.u64.wrap x = x % 18446744073709551616 := rfl
  rw [e]; omega
theorem nx_range (a : Int) : 0 ≤ (nx a).fdiv 1099511627776 ∧ (nx a).fdiv 1099511627776 < 16777216 := by
  have h := wrap_u64 (IntKind.u64.wrap (a * 6364136223846793005) + 1442695040888963407)
  rw [Int.fdiv_eq_ediv_of_nonneg _ (by decide)]
  unfold nx
  omega
section
variable {P : Program} {e : Operand → Value} {d : Option Nat} {ot : TypeId} {pos : String} {af : Array Edge} {g : Option (Nat × Bool)} {T T' : TypeId} {x y z : Operand} {k : IntKind} {a b : Int} {ats : Array TypeId}
theorem Pu.xor (hx : e x = .int .u64 a) (hy : e y = .int .u64 b) : Pu P e ⟨d, .binOp .xor T x y T', ot, pos, af, g⟩ (.int .u64 (xr a b)) := fun w => by
  simp only [execOp, hx, hy, eqGuard, binOp, Op.intBits]; simp [xr]
theorem Pu.shr {k' : IntKind} (hx : e x = .int k a) (hy : e y = .int k' 40) (hk : min 40 k.bits = 40) : Pu P e ⟨d, .binOp .shr T x y T', ot, pos, af, g⟩ (.int k (a.fdiv 1099511627776)) := fun w => by
  have h40 : (40 : Int).toNat = 40 := rfl
  have hp : (2 : Int) ^ 40 = 1099511627776 := by decide
  simp only [execOp, hx, hy, eqGuard, binOp, Op.shift, h40, hk, hp]; simp
theorem Pu.min2 {v : Int} (hx : e x = .int k a) (hy : e y = .int k b) (hv : (if b < a then b else a) = v) : Pu P e ⟨d, .call { callee := .builtin .min, args := #[x, y], argTypes := ats }, ot, pos, af, g⟩ (.int k v) := fun w => by
  subst hv
  simp [execOp, resolve, invoke, builtin, Builtin.min_, Builtin.min2, hx, hy]
end
/-- what a value holds -/
def ivl : Value → Int
  | .int _ n => n
  | _ => 0
def cll : Value → List Value
  | .agg ⟨l⟩ => l
  | _ => []
def sth (c : Zk) (i : Nat) : Int := match c with
  | (_, .cells ⟨l⟩ _ _) :: _ => ivl (l.getD i undef)
  | _ => 0
/-- A digest with one byte. -/
def smOne (n : UInt8) : Sm := zS.set 0 n
theorem smOne_cells (n : UInt8) : sC (smOne n) = .int .u8 (n.toNat : Int) :: (sC zS).drop 1 := rfl
theorem w8 {n : Int} (h : 0 ≤ n ∧ n < 256) : IntKind.u8.wrap n = n := by
  have e : IntKind.u8.wrap n = n % 256 := rfl
  rw [e]; omega
theorem bldS1 (n : Int) (h0 : 0 ≤ n) (h1 : n < 256) : ∀ w, (Instr.build 23 ⟨[(0, .int .u8 n)]⟩).run Tryz.prog w = .ok (.agg ⟨sC (smOne (UInt8.ofNat n.toNat))⟩) w := by
  have e0 : ((UInt8.ofNat n.toNat).toNat : Int) = n := by
    rw [UInt8.toNat_ofNat']; omega
  rw [smOne_cells, e0]
  exact run_buildA Tryz.zeroValue23 Tryz.runUnderlying23 Tryz.sizeOf5 rfl
/-- The digest that cells are. -/
noncomputable def sml (v : Value) : Sm := by
  classical exact if h : ∃ r, v = .agg ⟨sC r⟩ then h.choose else zS
theorem sml_eq (r : Sm) : Value.agg ⟨sC r⟩ = .agg ⟨sC (sml (.agg ⟨sC r⟩))⟩ := by
  have h : ∃ q, Value.agg ⟨sC r⟩ = .agg ⟨sC q⟩ := ⟨r, rfl⟩
  unfold sml
  rw [dif_pos h]
  exact h.choose_spec
theorem bldMk (b : Nat) (n : Int) : ∀ w, (Instr.build 169 ⟨[(0, .pointer (some ⟨b, 0, none⟩)), (1, .int .i64 n)]⟩).run Tryz.prog w = .ok (.agg ⟨[.pointer (some ⟨b, 0, none⟩), .int .i64 n]⟩) w :=
  ZX Tryz.zeroValue169 Tryz.runUnderlying169 pl169 (by kernel_rfl)
theorem bldSt {v : Value} {a : Option Addr} {n c : Nat} (s : Int) (hv : v = .slice a n c) : ∀ w, (Instr.build 128 ⟨[(0, v), (2, .int .u64 s)]⟩).run Tryz.prog w = .ok (.agg ⟨[v, .int .i64 0, .int .u64 s]⟩) w := by
  subst hv
  exact ZX Tryz.zeroValue128 Tryz.runUnderlying128 pl128 (by kernel_rfl)
/-- A slice of bytes with its room. -/
def bytesR (H : Heap) (v : Value) (l : List Int) : Prop := ∃ a cap, v = .slice a l.length cap ∧ l.length ≤ cap ∧ Hs.rdS RB 1 H v l
theorem bytesR.mono {h h' : Heap} (hh : Hle h h') {v : Value} {l : List Int} (q : bytesR h v l) : bytesR h' v l := by
  obtain ⟨a, cap, e, h1, h2⟩ := q
  exact ⟨a, cap, e, h1, RBs.mono hh h2⟩
theorem rd_take {E : Heap → List Value → Int → Prop} {sz : Nat} {h : Heap} {l : List Int} {a : Option Addr} {N cap cap' : Nat} (r : Hs.rdS E sz h (.slice a N cap) l) (n : Nat) (hn : n ≤ l.length) : Hs.rdS E sz h (.slice (if cap = 0 then a else a.map (·.add (0 * sz))) n cap') (l.take n) := by
  have ea : (if cap = 0 then a else a.map (·.add (0 * sz))) = a := by
    cases a with
    | none => simp
    | some a => simp [Addr.add]
  rw [ea]
  have hln : (l.take n).length = n := by rw [List.length_take]; omega
  obtain ⟨a', c', e, h1, h0⟩ := r
  cases e
  refine ⟨a, cap', by rw [hln], by rw [hln]; omega, ?_⟩
  rcases h0 with h0 | ⟨b, o, row, T, fr, e1, e2, e3⟩
  · left; omega
  · right
    refine ⟨b, o, row, T, fr, e1, e2, rows.mk fun i hi => ?_⟩
    rw [List.length_take] at hi
    obtain ⟨cs, h2, h3⟩ := e3.get i (by omega)
    exact ⟨cs, h2, by rw [List.getElem_take]; exact h3⟩
section
variable {c : Cx} {H : Heap} {ρ : Nat → Value} {M : List Zk} {K : Value → List Zk → Prop} {d : Option Nat} {ot : TypeId} {pos : String} {af : Array Edge} {g : Option (Nat × Bool)} {x y : Operand}
/-- the first ones of a slice of bytes -/
theorem Runs_sliceTo {T el : TypeId} {k : IntKind} {v : Value} {l : List Int} {H0 : Heap} {n : Nat} (hp : bytesR H0 v l) (hn : n ≤ l.length) (hT : ∀ w, (underlying T).run c.P w = .ok (.slice el) w) (hsz : ∀ w, (sizeOf el).run c.P w = .ok 1 w) (hx : ev c.n ρ x = v) (hy : ev c.n ρ y = .int k ((n : Nat) : Int))
    (h : ∀ u, (∀ h, Hs.rdS RB 1 h v l → Hs.rdS RB 1 h u (l.take n)) → K u M) : Runs c H ⟨d, .slice T x none (some y) none, ot, pos, af, g⟩ ρ M K := fun F w m => by
  obtain ⟨a, cap, rfl, h1, h2⟩ := hp
  refine ⟨_, w, M, .inl ?_, m, h (.slice (if cap = 0 then a else a.map (·.add (0 * 1))) n cap) (fun h' q => rd_take q n hn)⟩
  have : ((n : Int) ≤ (cap : Int)) := by omega
  have h3 : n ≤ cap := by omega
  simp [execOp, Instr.sliceAt, Instr.slice, Instr.sliceBounds, Instr.sliceBound, asIntOf, hx, hy, hT, hsz, Result.andThen, h3]
end
end Go.Proofs.YtmophpgiaiemhaaGreat.Hs
/-! Walks, printed by a program of this session's own (gen.py). -/
namespace Go.Proofs.YtmophpgiaiemhaaGreat.Hs
open Go Go.Proofs
set_option maxRecDepth 100000
set_option linter.unusedVariables false
set_option linter.unusedSimpArgs false
attribute [local irreducible] JL J CT wlo
theorem draw_ct (bS : Nat) (v : Value) (l : List Int) (a s : Int) (H : Heap) (hv : Hs.rdS RB 1 H v l) (ha0 : 0 ≤ a) (ha1 : a ≤ 2000000000) : CT Tryz.prog 165 ⟨[.pointer (some ⟨bS, 0, none⟩)]⟩ [[(bS, .cells ⟨[v, .int .i64 a, .int .u64 s]⟩ 128 (0, 0))]] H (fun r N => ∃ n a' s', r = .int .i64 n ∧ N = [[(bS, .cells ⟨[v, .int .i64 (a'), .int .u64 (s')]⟩ 128 (0, 0))]] ∧ (0 ≤ n ∧ n < 16777216) ∧ (a ≤ a' ∧ a' ≤ a + 1)) := by
 refine Zo Tryz.func165 rfl rfl <| Zd <| Zb <| JLa (.int .i64 0) <| Za <| Zd <| Zd <| Zb <| JLm (.pointer (some ⟨bS, 0, none⟩)) <| JLq (.pointer (some ⟨bS, 0, none⟩)) (Pu.nilCheck rfl) <| JLq (.pointer (some ⟨bS, 0, none⟩)) (fa128_0 rfl rfl) <| JLr (Zf ty61 rfl (At.bx 0 rfl) rfl ?_)
 obtain ⟨a1, cap1, hv1⟩ := hv.sl
 have hle1 := hv.le
 refine JLq (.int .i64 ((l.length : Int))) (Pu.lenSl Tryz.runUnderlying61 hv1) <| JLq (.bool (decide (0 < (l.length : Int)))) (Pu.gtr rfl rfl) <| Za <| Zi (b := decide (0 < (l.length : Int))) rfl (fun h2 => ?_) (fun h2 => ?_)
 ·replace h2 := dt h2
  refine Zd ?_
  obtain ⟨a4, cap4, hv4⟩ := hv.sl
  have hle4 := hv.le
  have hrm5 : 0 ≤ a % ((l.length : Int)) ∧ a % ((l.length : Int)) < (l.length : Int) := ⟨Int.emod_nonneg _ (by omega), Int.emod_lt_of_pos _ (by omega)⟩
  obtain ⟨b6, o6, cap6, row6, T6, fr6, cs6, hv6, hb6, hs6, hE6⟩ := hv.get (a % ((l.length : Int))).toNat (by first | assumption | omega | decide | simp)
  refine Ya mixed #[0, 1, 3, 7, 0, 16, 48, 112, 0, 256, 768, 1792, 0, 4096, 12288, 28672, 61440, 130816, 262128, 524272, 1048560, 2097151, 4194303, 8388607, 16777215] 21 21 1 rfl (by kernel_rfl) (fun i r3 N3 => match i with | 0 => (r3 0) = .pointer (some ⟨bS, 0, none⟩) | 1 => (r3 1) = .pointer (some ⟨bS, 0, none⟩) | 2 => (r3 2) = .pointer (some ⟨bS, 2, none⟩) | 3 => (r3 3) = .int .u64 s | 4 => (r3 4) = .pointer (some ⟨bS, 0, none⟩) | 5 => (r3 5) = .pointer (some ⟨bS, 0, none⟩) | 6 => (r3 6) = .pointer (some ⟨bS, 0, none⟩) | 7 => (r3 7) = v | 8 => (r3 8) = .pointer (some ⟨bS, 0, none⟩) | 9 => (r3 9) = .pointer (some ⟨bS, 0, none⟩) | 10 => (r3 10) = .pointer (some ⟨bS, 1, none⟩) | 11 => (r3 11) = .int .i64 a | 12 => (r3 12) = .pointer (some ⟨bS, 0, none⟩) | 13 => (r3 13) = .pointer (some ⟨bS, 0, none⟩) | 14 => (r3 14) = .pointer (some ⟨bS, 0, none⟩) | 15 => (r3 15) = v | 16 => (r3 16) = .int .i64 ((l.length : Int)) | 17 => (r3 17) = .int .i64 (a % ((l.length : Int))) | 18 => (r3 18) = .pointer (some ⟨b6, o6 + (a % ((l.length : Int))).toNat * 1, none⟩) | 19 => (r3 19) = .int .u8 (l[(a % ((l.length : Int))).toNat]) | 20 => (r3 20) = .int .u64 (IntKind.u64.wrap (l[(a % ((l.length : Int))).toNat])) | _ => True) ⟨?_, ?_, ?_, ?_, ?_, ?_, ?_, ?_, ?_, ?_, ?_, ?_, ?_, ?_, ?_, ?_, ?_, ?_, ?_, ?_, ?_, trivial⟩ ?_
  ·intro ρ r3 N3 B hB hBa hp hr hr0
   obtain ⟨ρ7, rfl⟩ := Zc (uc (show ρ 0 = .pointer (some ⟨bS, 0, none⟩) from hr0 0 (by kernel_rfl)) un)
   refine JLm (.pointer (some ⟨bS, 0, none⟩)) <| Za ?_
   exact ⟨.pointer (some ⟨bS, 0, none⟩), [], rfl, (Sub.emp Sub.refl), rfl⟩
  ·intro ρ r3 N3 B hB hBa hp hr hr0
   obtain ⟨ρ8, rfl⟩ := Zc (uc (show ρ 9 = .pointer (some ⟨bS, 0, none⟩) from (hr 0 _ _ (by decide) rfl rfl rfl).trans (hp 0 (by decide) rfl)) un)
   refine JLq (.pointer (some ⟨bS, 0, none⟩)) (Pu.nilCheck rfl) <| Za ?_
   exact ⟨.pointer (some ⟨bS, 0, none⟩), [], rfl, (Sub.emp Sub.refl), rfl⟩
  ·intro ρ r3 N3 B hB hBa hp hr hr0
   obtain ⟨ρ9, rfl⟩ := Zc (uc (show ρ 10 = .pointer (some ⟨bS, 0, none⟩) from (hr 1 _ _ (by decide) rfl rfl rfl).trans (hp 1 (by decide) rfl)) un)
   refine JLq (.pointer (some ⟨bS, 2, none⟩)) (fa128_2 rfl rfl) <| Za ?_
   exact ⟨.pointer (some ⟨bS, 2, none⟩), [], rfl, (Sub.emp Sub.refl), rfl⟩
  ·intro ρ r3 N3 B hB hBa hp hr hr0
   obtain ⟨ρ10, rfl⟩ := Zc (uc (show ρ 11 = .pointer (some ⟨bS, 2, none⟩) from (hr 2 _ _ (by decide) rfl rfl rfl).trans (hp 2 (by decide) rfl)) un)
   refine JLr (Zf ty126 rfl (At.bx 21 (Zn ((hB 0 (by decide)).trans rfl))) rfl <| Za ?_)
   exact ⟨.int .u64 s, [], rfl, (Sub.emp Sub.refl), rfl⟩
  ·intro ρ r3 N3 B hB hBa hp hr hr0
   obtain ⟨ρ11, rfl⟩ := Zc (uc (show ρ 0 = .pointer (some ⟨bS, 0, none⟩) from hr0 0 (by kernel_rfl)) un)
   refine JLm (.pointer (some ⟨bS, 0, none⟩)) <| Za ?_
   exact ⟨.pointer (some ⟨bS, 0, none⟩), [], rfl, (Sub.emp Sub.refl), rfl⟩
  ·intro ρ r3 N3 B hB hBa hp hr hr0
   obtain ⟨ρ12, rfl⟩ := Zc (uc (show ρ 13 = .pointer (some ⟨bS, 0, none⟩) from (hr 4 _ _ (by decide) rfl rfl rfl).trans (hp 4 (by decide) rfl)) un)
   refine JLq (.pointer (some ⟨bS, 0, none⟩)) (Pu.nilCheck rfl) <| Za ?_
   exact ⟨.pointer (some ⟨bS, 0, none⟩), [], rfl, (Sub.emp Sub.refl), rfl⟩
  ·intro ρ r3 N3 B hB hBa hp hr hr0
   obtain ⟨ρ13, rfl⟩ := Zc (uc (show ρ 14 = .pointer (some ⟨bS, 0, none⟩) from (hr 5 _ _ (by decide) rfl rfl rfl).trans (hp 5 (by decide) rfl)) un)
   refine JLq (.pointer (some ⟨bS, 0, none⟩)) (fa128_0 rfl rfl) <| Za ?_
   exact ⟨.pointer (some ⟨bS, 0, none⟩), [], rfl, (Sub.emp Sub.refl), rfl⟩
  ·intro ρ r3 N3 B hB hBa hp hr hr0
   obtain ⟨ρ14, rfl⟩ := Zc (uc (show ρ 15 = .pointer (some ⟨bS, 0, none⟩) from (hr 6 _ _ (by decide) rfl rfl rfl).trans (hp 6 (by decide) rfl)) un)
   refine JLr (Zf ty61 rfl (At.bx 21 (Zn ((hB 0 (by decide)).trans rfl))) rfl <| Za ?_)
   exact ⟨v, [], rfl, (Sub.emp Sub.refl), rfl⟩
  ·intro ρ r3 N3 B hB hBa hp hr hr0
   obtain ⟨ρ15, rfl⟩ := Zc (uc (show ρ 0 = .pointer (some ⟨bS, 0, none⟩) from hr0 0 (by kernel_rfl)) un)
   refine JLm (.pointer (some ⟨bS, 0, none⟩)) <| Za ?_
   exact ⟨.pointer (some ⟨bS, 0, none⟩), [], rfl, (Sub.emp Sub.refl), rfl⟩
  ·intro ρ r3 N3 B hB hBa hp hr hr0
   obtain ⟨ρ16, rfl⟩ := Zc (uc (show ρ 17 = .pointer (some ⟨bS, 0, none⟩) from (hr 8 _ _ (by decide) rfl rfl rfl).trans (hp 8 (by decide) rfl)) un)
   refine JLq (.pointer (some ⟨bS, 0, none⟩)) (Pu.nilCheck rfl) <| Za ?_
   exact ⟨.pointer (some ⟨bS, 0, none⟩), [], rfl, (Sub.emp Sub.refl), rfl⟩
  ·intro ρ r3 N3 B hB hBa hp hr hr0
   obtain ⟨ρ17, rfl⟩ := Zc (uc (show ρ 18 = .pointer (some ⟨bS, 0, none⟩) from (hr 9 _ _ (by decide) rfl rfl rfl).trans (hp 9 (by decide) rfl)) un)
   refine JLq (.pointer (some ⟨bS, 1, none⟩)) (fa128_1 rfl rfl) <| Za ?_
   exact ⟨.pointer (some ⟨bS, 1, none⟩), [], rfl, (Sub.emp Sub.refl), rfl⟩
  ·intro ρ r3 N3 B hB hBa hp hr hr0
   obtain ⟨ρ18, rfl⟩ := Zc (uc (show ρ 19 = .pointer (some ⟨bS, 1, none⟩) from (hr 10 _ _ (by decide) rfl rfl rfl).trans (hp 10 (by decide) rfl)) un)
   refine JLr (Zf ty3 rfl (At.bx 21 (Zn ((hB 0 (by decide)).trans rfl))) rfl <| Za ?_)
   exact ⟨.int .i64 a, [], rfl, (Sub.emp Sub.refl), rfl⟩
  ·intro ρ r3 N3 B hB hBa hp hr hr0
   obtain ⟨ρ19, rfl⟩ := Zc (uc (show ρ 0 = .pointer (some ⟨bS, 0, none⟩) from hr0 0 (by kernel_rfl)) un)
   refine JLm (.pointer (some ⟨bS, 0, none⟩)) <| Za ?_
   exact ⟨.pointer (some ⟨bS, 0, none⟩), [], rfl, (Sub.emp Sub.refl), rfl⟩
  ·intro ρ r3 N3 B hB hBa hp hr hr0
   obtain ⟨ρ20, rfl⟩ := Zc (uc (show ρ 21 = .pointer (some ⟨bS, 0, none⟩) from (hr 12 _ _ (by decide) rfl rfl rfl).trans (hp 12 (by decide) rfl)) un)
   refine JLq (.pointer (some ⟨bS, 0, none⟩)) (Pu.nilCheck rfl) <| Za ?_
   exact ⟨.pointer (some ⟨bS, 0, none⟩), [], rfl, (Sub.emp Sub.refl), rfl⟩
  ·intro ρ r3 N3 B hB hBa hp hr hr0
   obtain ⟨ρ21, rfl⟩ := Zc (uc (show ρ 22 = .pointer (some ⟨bS, 0, none⟩) from (hr 13 _ _ (by decide) rfl rfl rfl).trans (hp 13 (by decide) rfl)) un)
   refine JLq (.pointer (some ⟨bS, 0, none⟩)) (fa128_0 rfl rfl) <| Za ?_
   exact ⟨.pointer (some ⟨bS, 0, none⟩), [], rfl, (Sub.emp Sub.refl), rfl⟩
  ·intro ρ r3 N3 B hB hBa hp hr hr0
   obtain ⟨ρ22, rfl⟩ := Zc (uc (show ρ 23 = .pointer (some ⟨bS, 0, none⟩) from (hr 14 _ _ (by decide) rfl rfl rfl).trans (hp 14 (by decide) rfl)) un)
   refine JLr (Zf ty61 rfl (At.bx 21 (Zn ((hB 0 (by decide)).trans rfl))) rfl <| Za ?_)
   exact ⟨v, [], rfl, (Sub.emp Sub.refl), rfl⟩
  ·intro ρ r3 N3 B hB hBa hp hr hr0
   obtain ⟨ρ23, rfl⟩ := Zc (uc (show ρ 24 = v from (hr 15 _ _ (by decide) rfl rfl rfl).trans (hp 15 (by decide) rfl)) un)
   refine JLq (.int .i64 ((l.length : Int))) (Pu.lenSl Tryz.runUnderlying61 hv4) <| Za ?_
   exact ⟨.int .i64 ((l.length : Int)), [], rfl, (Sub.emp Sub.refl), rfl⟩
  ·intro ρ r3 N3 B hB hBa hp hr hr0
   obtain ⟨ρ24, rfl⟩ := Zc (uc (show ρ 20 = .int .i64 a from (hr 11 _ _ (by decide) rfl rfl rfl).trans (hp 11 (by decide) rfl)) (uc (show ρ 25 = .int .i64 ((l.length : Int)) from (hr 16 _ _ (by decide) rfl rfl rfl).trans (hp 16 (by decide) rfl)) un))
   refine JLq (.int .i64 (a % ((l.length : Int)))) (Pu.rem rfl rfl (by omega) (Int.tmod_eq_emod_of_nonneg (by omega))) <| Za ?_
   exact ⟨.int .i64 (a % ((l.length : Int))), [], rfl, (Sub.emp Sub.refl), rfl⟩
  ·intro ρ r3 N3 B hB hBa hp hr hr0
   obtain ⟨ρ25, rfl⟩ := Zc (uc (show ρ 16 = v from (hr 7 _ _ (by decide) rfl rfl rfl).trans (hp 7 (by decide) rfl)) (uc (show ρ 26 = .int .i64 (a % ((l.length : Int))) from (hr 17 _ _ (by decide) rfl rfl rfl).trans (hp 17 (by decide) rfl)) un))
   refine JLq (.pointer (some ⟨b6, o6 + (a % ((l.length : Int))).toNat * 1, none⟩)) (Pu.idx (a % ((l.length : Int))).toNat Tryz.runUnderlying61 ty5 hv6 rfl (by first | rfl | omega) (by first | assumption | omega | decide | simp)) <| Za ?_
   exact ⟨.pointer (some ⟨b6, o6 + (a % ((l.length : Int))).toNat * 1, none⟩), [], rfl, (Sub.emp Sub.refl), rfl⟩
  ·intro ρ r3 N3 B hB hBa hp hr hr0
   obtain ⟨ρ26, rfl⟩ := Zc (uc (show ρ 27 = .pointer (some ⟨b6, o6 + (a % ((l.length : Int))).toNat * 1, none⟩) from (hr 18 _ _ (by decide) rfl rfl rfl).trans (hp 18 (by decide) rfl)) un)
   refine JLr (Zf ty5 rfl (At.im hb6) (Yp ((show cs6 = [Value.int .u8 (l[(a % ((l.length : Int))).toNat])] from hE6) ▸ hs6)) <| Za ?_)
   exact ⟨.int .u8 (l[(a % ((l.length : Int))).toNat]), [], rfl, (Sub.emp Sub.refl), rfl⟩
  ·intro ρ r3 N3 B hB hBa hp hr hr0
   obtain ⟨ρ27, rfl⟩ := Zc (uc (show ρ 28 = .int .u8 (l[(a % ((l.length : Int))).toNat]) from (hr 19 _ _ (by decide) rfl rfl rfl).trans (hp 19 (by decide) rfl)) un)
   refine JLq (.int .u64 (IntKind.u64.wrap (l[(a % ((l.length : Int))).toNat]))) (Pu.conv Tryz.runUnderlying5 Tryz.runUnderlying126 rfl rfl) <| Za ?_
   exact ⟨.int .u64 (IntKind.u64.wrap (l[(a % ((l.length : Int))).toNat])), [], rfl, (Sub.emp Sub.refl), rfl⟩
  intro ρ r3 N3 hp hr hr0
  obtain ⟨ρ28, rfl⟩ := Zc (uc (show ρ 0 = .pointer (some ⟨bS, 0, none⟩) from hr0 0 (by kernel_rfl)) (uc (show ρ 2 = .int .i64 0 from hr0 2 (by kernel_rfl)) (uc (show ρ 9 = .pointer (some ⟨bS, 0, none⟩) from (hr 0 _ _ (by decide) rfl rfl).trans (hp 0 (by decide))) (uc (show ρ 12 = .int .u64 s from (hr 3 _ _ (by decide) rfl rfl).trans (hp 3 (by decide))) (uc (show ρ 29 = .int .u64 (IntKind.u64.wrap (l[(a % ((l.length : Int))).toNat])) from (hr 20 _ _ (by decide) rfl rfl).trans (hp 20 (by decide))) un)))))
  clear hp hr hr0 
  refine Zq (M' := [(N3 0), (N3 1), (N3 2), (N3 3), (N3 4), (N3 5), (N3 6), (N3 7), (N3 8), (N3 9), (N3 10), (N3 11), (N3 12), (N3 13), (N3 14), (N3 15), (N3 16), (N3 17), (N3 18), (N3 19), (N3 20), [(bS, .cells ⟨[v, .int .i64 a, .int .u64 s]⟩ 128 (0, 0))]]) Sub.refl <| Zq (M' := [[(bS, .cells ⟨[v, .int .i64 a, .int .u64 s]⟩ 128 (0, 0))]]) (Sd (Sd (Sd (Sd (Sd (Sd (Sd (Sd (Sd (Sd (Sd (Sd (Sd (Sd (Sd (Sd (Sd (Sd (Sd (Sd (Sd (Sk Sub.nil)))))))))))))))))))))) ?_
  show JL _ _ _ [_, _, _, _] _ _ _
  refine JLq (.int .u64 (xr s (IntKind.u64.wrap (l[(a % ((l.length : Int))).toNat])))) (Pu.xor rfl rfl) <| JLq (.pointer (some ⟨bS, 0, none⟩)) (Pu.nilCheck rfl) <| JLq (.pointer (some ⟨bS, 2, none⟩)) (fa128_2 rfl rfl) <| JLr (Ze 0 (vs := [.int .u64 (xr s (IntKind.u64.wrap (l[(a % ((l.length : Int))).toNat])))]) (l := [v, .int .i64 a, .int .u64 (xr s (IntKind.u64.wrap (l[(a % ((l.length : Int))).toNat])))]) ty126 rfl rfl rfl rfl rfl (Zm rfl Zv) rfl <| Za <| Zb <| JLm (.pointer (some ⟨bS, 0, none⟩)) <| JLq (.pointer (some ⟨bS, 0, none⟩)) (Pu.nilCheck rfl) <| JLq (.pointer (some ⟨bS, 1, none⟩)) (fa128_1 rfl rfl) <| JLr (Zf ty3 rfl (At.bx 0 rfl) rfl <| JLq (.int .i64 (a + 1)) (Pu.add64 rfl rfl (by first | omega | (constructor <;> omega))) <| JLq (.pointer (some ⟨bS, 0, none⟩)) (Pu.nilCheck rfl) <| JLq (.pointer (some ⟨bS, 1, none⟩)) (fa128_1 rfl rfl) ?_))
  refine JLr (Ze 0 (vs := [.int .i64 (a + 1)]) (l := [v, .int .i64 (a + 1), .int .u64 (xr s (IntKind.u64.wrap (l[(a % ((l.length : Int))).toNat])))]) ty3 rfl rfl rfl rfl rfl (Zm rfl Zv) rfl <| Za <| Zd <| Zb <| JLm (.pointer (some ⟨bS, 0, none⟩)) <| JLm (.pointer (some ⟨bS, 0, none⟩)) <| JLq (.pointer (some ⟨bS, 0, none⟩)) (Pu.nilCheck rfl) <| JLq (.pointer (some ⟨bS, 2, none⟩)) (fa128_2 rfl rfl) <| JLr (Zf ty126 rfl (At.bx 0 rfl) rfl <| JLq (.int .u64 (IntKind.u64.wrap (xr s (IntKind.u64.wrap (l[(a % ((l.length : Int))).toNat])) * 6364136223846793005))) (Pu.arithM rfl rfl rfl) <| JLq (.int .u64 (nx (xr s (IntKind.u64.wrap (l[(a % ((l.length : Int))).toNat]))))) (Pu.arith rfl rfl rfl) <| JLq (.pointer (some ⟨bS, 0, none⟩)) (Pu.nilCheck rfl) <| JLq (.pointer (some ⟨bS, 2, none⟩)) (fa128_2 rfl rfl) ?_))
  refine JLr (Ze 0 (vs := [.int .u64 (nx (xr s (IntKind.u64.wrap (l[(a % ((l.length : Int))).toNat]))))]) (l := [v, .int .i64 (a + 1), .int .u64 (nx (xr s (IntKind.u64.wrap (l[(a % ((l.length : Int))).toNat]))))]) ty126 rfl rfl rfl rfl rfl (Zm rfl Zv) rfl <| Za <| Zd <| Zb <| JLm (.pointer (some ⟨bS, 0, none⟩)) <| JLq (.pointer (some ⟨bS, 0, none⟩)) (Pu.nilCheck rfl) <| JLq (.pointer (some ⟨bS, 2, none⟩)) (fa128_2 rfl rfl) <| JLr (Zf ty126 rfl (At.bx 0 rfl) rfl ?_))
  have hnx29 := nx_range (xr s (IntKind.u64.wrap (l[(a % ((l.length : Int))).toNat])))
  refine JLq (.int .u64 ((nx (xr s (IntKind.u64.wrap (l[(a % ((l.length : Int))).toNat])))).fdiv 1099511627776)) (Pu.shr rfl rfl rfl) <| JLq (.int .i64 ((nx (xr s (IntKind.u64.wrap (l[(a % ((l.length : Int))).toNat])))).fdiv 1099511627776)) (Pu.conv Tryz.runUnderlying126 Tryz.runUnderlying3 rfl (w64 (by omega))) <| JLa (.int .i64 ((nx (xr s (IntKind.u64.wrap (l[(a % ((l.length : Int))).toNat])))).fdiv 1099511627776)) <| Za <| Zl <| ⟨.int .i64 ((nx (xr s (IntKind.u64.wrap (l[(a % ((l.length : Int))).toNat])))).fdiv 1099511627776), [[(bS, .cells ⟨[v, .int .i64 (a + 1), .int .u64 (nx (xr s (IntKind.u64.wrap (l[(a % ((l.length : Int))).toNat]))))]⟩ 128 (0, 0))]], Ret.one rfl (RV.tmp rfl), (Sk Sub.nil), ?_⟩
  exact ⟨_, _, _, rfl, rfl, by omega, by omega⟩
 replace h2 := df h2
 refine Zp <| Zd <| Zb <| JLm (.pointer (some ⟨bS, 0, none⟩)) <| JLm (.pointer (some ⟨bS, 0, none⟩)) <| JLq (.pointer (some ⟨bS, 0, none⟩)) (Pu.nilCheck rfl) <| JLq (.pointer (some ⟨bS, 2, none⟩)) (fa128_2 rfl rfl) <| JLr (Zf ty126 rfl (At.bx 0 rfl) rfl <| JLq (.int .u64 (IntKind.u64.wrap (s * 6364136223846793005))) (Pu.arithM rfl rfl rfl) <| JLq (.int .u64 (nx s)) (Pu.arith rfl rfl rfl) <| JLq (.pointer (some ⟨bS, 0, none⟩)) (Pu.nilCheck rfl) <| JLq (.pointer (some ⟨bS, 2, none⟩)) (fa128_2 rfl rfl) <| JLr (Ze 0 (vs := [.int .u64 (nx s)]) (l := [v, .int .i64 a, .int .u64 (nx s)]) ty126 rfl rfl rfl rfl rfl (Zm rfl Zv) rfl ?_))
 refine Za <| Zd <| Zb <| JLm (.pointer (some ⟨bS, 0, none⟩)) <| JLq (.pointer (some ⟨bS, 0, none⟩)) (Pu.nilCheck rfl) <| JLq (.pointer (some ⟨bS, 2, none⟩)) (fa128_2 rfl rfl) <| JLr (Zf ty126 rfl (At.bx 0 rfl) rfl ?_)
 have hnx30 := nx_range s
 refine JLq (.int .u64 ((nx s).fdiv 1099511627776)) (Pu.shr rfl rfl rfl) <| JLq (.int .i64 ((nx s).fdiv 1099511627776)) (Pu.conv Tryz.runUnderlying126 Tryz.runUnderlying3 rfl (w64 (by omega))) <| JLa (.int .i64 ((nx s).fdiv 1099511627776)) <| Za <| Zl <| ⟨.int .i64 ((nx s).fdiv 1099511627776), [[(bS, .cells ⟨[v, .int .i64 a, .int .u64 (nx s)]⟩ 128 (0, 0))]], Ret.one rfl (RV.tmp rfl), (Sk Sub.nil), ?_⟩
 exact ⟨_, _, _, rfl, rfl, by omega, by omega⟩
theorem YJ (bS : Nat) (v : Value) (l : List Int) (a s : Int) (H : Heap) (hv : Hs.rdS RB 1 H v l) (ha0 : 0 ≤ a) (ha1 : a ≤ 2000000000) (m : Int) : CT Tryz.prog 147 ⟨[.pointer (some ⟨bS, 0, none⟩), .int .i64 m]⟩ [[(bS, .cells ⟨[v, .int .i64 a, .int .u64 s]⟩ 128 (0, 0))]] H (fun r N => ∃ n a' s', r = .int .i64 n ∧ N = [[(bS, .cells ⟨[v, .int .i64 (a'), .int .u64 (s')]⟩ 128 (0, 0))]] ∧ (0 ≤ n ∧ (0 < m → n < m) ∧ (m ≤ 0 → n = 0)) ∧ (a ≤ a' ∧ a' ≤ a + 1)) := by
 refine Zo Tryz.func147 rfl rfl <| Zd <| Zb <| JLa (.int .i64 0) <| Za <| Zd <| Zd <| Zb <| JLm (.int .i64 m) <| JLq (.bool (decide (m ≤ 0))) (Pu.leq rfl rfl) <| Za <| Zi (b := decide (m ≤ 0)) rfl (fun h1 => ?_) (fun h1 => ?_)
 ·replace h1 := dt h1
  refine Zd <| Zb <| JLa (.int .i64 0) <| Za <| Zl <| ⟨.int .i64 0, [[(bS, .cells ⟨[v, .int .i64 a, .int .u64 s]⟩ 128 (0, 0))]], Ret.one rfl (RV.tmp rfl), (Sk Sub.nil), ?_⟩
  exact ⟨_, _, _, rfl, rfl, by omega, by omega⟩
 replace h1 := df h1
 refine Zp <| Zd <| Zb <| JLm (.pointer (some ⟨bS, 0, none⟩)) <| Zw 0 rfl Tryz.call165 rfl rfl (fun hin => draw_ct _ _ _ _ _ _ (RBs.mono (Hle.hu _ _) hv) (by omega) (by omega)) rfl ?_
 rintro _ _ ⟨n2, a2, s2, rfl, rfl, hn2, ha2⟩
 refine JLm (.int .i64 m) ?_
 have hrm3 : 0 ≤ n2 % m ∧ n2 % m < m := ⟨Int.emod_nonneg _ (by omega), Int.emod_lt_of_pos _ (by omega)⟩
 refine JLq (.int .i64 (n2 % m)) (Pu.rem rfl rfl (by omega) (Int.tmod_eq_emod_of_nonneg (by omega))) <| JLa (.int .i64 (n2 % m)) <| Za <| Zl <| ⟨.int .i64 (n2 % m), [[(bS, .cells ⟨[v, .int .i64 a2, .int .u64 s2]⟩ 128 (0, 0))]], Ret.one rfl (RV.tmp rfl), (Sk Sub.nil), ?_⟩
 exact ⟨_, _, _, rfl, rfl, by omega, by omega⟩
theorem from_ct (bS : Nat) (v : Value) (l : List Int) (a s : Int) (H : Heap) (hv : Hs.rdS RB 1 H v l) (ha0 : 0 ≤ a) (ha1 : a ≤ 2000000000) (lo hi : Int) (h0 : -1000 ≤ lo) (h1 : lo ≤ hi) (h2 : hi ≤ 1000) : CT Tryz.prog 153 ⟨[.pointer (some ⟨bS, 0, none⟩), .int .i64 lo, .int .i64 hi]⟩ [[(bS, .cells ⟨[v, .int .i64 a, .int .u64 s]⟩ 128 (0, 0))]] H (fun r N => ∃ n a' s', r = .int .i64 n ∧ N = [[(bS, .cells ⟨[v, .int .i64 (a'), .int .u64 (s')]⟩ 128 (0, 0))]] ∧ (lo ≤ n ∧ n ≤ hi) ∧ (a ≤ a' ∧ a' ≤ a + 1)) := by
 refine Zo Tryz.func153 rfl rfl <| Zd <| Zb <| JLa (.int .i64 0) <| Za <| Zd <| Zb <| JLm (.int .i64 lo) <| JLm (.pointer (some ⟨bS, 0, none⟩)) <| JLm (.int .i64 hi) <| JLm (.int .i64 lo) <| JLq (.int .i64 (hi - lo)) (Pu.sub64 rfl rfl (by first | omega | (constructor <;> omega))) <| JLq (.int .i64 (hi - lo + 1)) (Pu.add64 rfl rfl (by first | omega | (constructor <;> omega))) ?_
 refine Zw 0 rfl Tryz.call147 rfl rfl (fun hin => YJ _ _ _ _ _ _ (RBs.mono (Hle.hu _ _) hv) (by omega) (by omega) _) rfl ?_
 rintro _ _ ⟨n1, a1, s1, rfl, rfl, hn1, ha1⟩
 refine JLq (.int .i64 (lo + n1)) (Pu.add64 rfl rfl (by first | omega | (constructor <;> omega))) <| JLa (.int .i64 (lo + n1)) <| Za <| Zl <| ⟨.int .i64 (lo + n1), [[(bS, .cells ⟨[v, .int .i64 a1, .int .u64 s1]⟩ 128 (0, 0))]], Ret.one rfl (RV.tmp rfl), (Sk Sub.nil), ?_⟩
 exact ⟨_, _, _, rfl, rfl, by omega, by omega⟩
theorem sum_ct (bS : Nat) (v : Value) (l : List Int) (a s : Int) (H : Heap) (hv : Hs.rdS RB 1 H v l) (ha0 : 0 ≤ a) (ha1 : a ≤ 2000000000) (f m : Int) (h0 : 0 ≤ f) (h1 : 1 ≤ m) (h2 : f + m ≤ 256) : CT Tryz.prog 150 ⟨[.pointer (some ⟨bS, 0, none⟩), .int .i64 f, .int .i64 m]⟩ [[(bS, .cells ⟨[v, .int .i64 a, .int .u64 s]⟩ 128 (0, 0))]] H (fun r N => ∃ n a' s', r = .agg ⟨sC n⟩ ∧ N = [[(bS, .cells ⟨[v, .int .i64 (a'), .int .u64 (s')]⟩ 128 (0, 0))]] ∧ (a ≤ a' ∧ a' ≤ a + 1)) := by
 refine Zo Tryz.func150 rfl rfl <| Zd <| Zb <| JLr (Zj (l := sC zS) Tryz.zeroValue23 rfl fun b1 => Za <| Zd <| Zb <| JLm (.pointer (some ⟨bS, 0, none⟩)) <| JLm (.int .i64 f) <| JLm (.int .i64 f) <| JLm (.int .i64 m) <| JLq (.int .i64 (f + m)) (Pu.add64 rfl rfl (by first | omega | (constructor <;> omega))) <| JLq (.int .i64 (f + m - 1)) (Pu.sub64 rfl rfl (by first | omega | (constructor <;> omega))) ?_)
 refine Zw 1 rfl Tryz.call153 rfl rfl (fun hin => from_ct _ _ _ _ _ _ (RBs.mono (Hle.hu _ _) hv) (by omega) (by omega) _ _ (by omega) (by omega) (by omega)) rfl ?_
 rintro _ _ ⟨n2, a2, s2, rfl, rfl, hn2, ha2⟩
 refine JLq (.int .u8 n2) (Pu.conv Tryz.runUnderlying3 Tryz.runUnderlying5 rfl (w8 (by omega))) <| JLq (.agg ⟨sC (smOne (UInt8.ofNat n2.toNat))⟩) (Pu.build (pv := [(0, .int .u8 n2)]) (l := sC (smOne (UInt8.ofNat n2.toNat))) rfl (bldS1 _ (by omega) (by omega))) <| JLr (Ze 1 (vs := sC (smOne (UInt8.ofNat n2.toNat))) (l := sC (smOne (UInt8.ofNat n2.toNat))) Xb rfl rfl rfl rfl rfl (sC_ok _) (ZL rfl rfl) <| Za <| Zl <| ⟨.agg ⟨sC (smOne (UInt8.ofNat n2.toNat))⟩, [[(bS, .cells ⟨[v, .int .i64 a2, .int .u64 s2]⟩ 128 (0, 0))]], Ret.one rfl (RV.cell Xb rfl (At.bx 1 rfl) (Zx rfl)), (Sk Sub.nil), ?_⟩)
 exact ⟨_, _, _, rfl, rfl, by omega⟩
theorem pc_ct (f : Sm) (n : Int) (sa : Option Addr) (sn sc : Nat) (H : Heap) : CT Tryz.prog 166 ⟨[.agg ⟨sC f⟩, .int .i64 n, .slice sa sn sc]⟩ [] H (fun r N => r = .agg ⟨pkP 3 n f (.slice sa sn sc)⟩ ∧ N = []) := by
 refine Zo Tryz.func166 rfl rfl <| Zd <| Zb <| JLr (Zt (l := sC f) rfl rfl fun b1 => JLr (Zj (l := pkP 0 0 zS (.slice none 0 0)) Tryz.zeroValue75 rfl fun b2 => Za <| Zd <| Zb <| JLr (Zh Xb rfl (At.bx 1 rfl) (Zx rfl) <| JLm (.int .i64 n) <| JLm (.slice sa sn sc) <| JLq (.agg ⟨pkP 3 n f (.slice sa sn sc)⟩) (Pu.build (pv := [(0, .int .i64 3), (2, .agg ⟨sC f⟩), (1, .int .i64 n), (3, .slice sa sn sc)]) (l := pkP 3 n f (.slice sa sn sc)) rfl (bld75_0_2_1_3 _ _ _ _ _ _)) <| JLr (Ze 0 (vs := pkP 3 n f (.slice sa sn sc)) (l := pkP 3 n f (.slice sa sn sc)) Z5 rfl rfl rfl rfl rfl (pkP_ok rfl) (pkP_s ..) ?_))))
 refine Za <| Zl <| ⟨.agg ⟨pkP 3 n f (.slice sa sn sc)⟩, [], Ret.one rfl (RV.cell Z5 rfl (At.bx 0 rfl) (pkP_a ..)), Sub.nil, ?_⟩
 exact ⟨rfl, rfl⟩
theorem pn_ct (n : Int) (H : Heap) : CT Tryz.prog 167 ⟨[.int .i64 n]⟩ [] H (fun r N => r = .agg ⟨pkP 2 n zS (.slice none 0 0)⟩ ∧ N = []) := by
 refine Zo Tryz.func167 rfl rfl <| Zd <| Zb <| JLr (Zj (l := pkP 0 0 zS (.slice none 0 0)) Tryz.zeroValue75 rfl fun b1 => Za <| Zd <| Zb <| JLm (.int .i64 n) <| JLq (.agg ⟨pkP 2 n zS (.slice none 0 0)⟩) (Pu.build (pv := [(0, .int .i64 2), (1, .int .i64 n)]) (l := pkP 2 n zS (.slice none 0 0)) rfl (bld75_0_1 _ _)) <| JLr (Ze 0 (vs := pkP 2 n zS (.slice none 0 0)) (l := pkP 2 n zS (.slice none 0 0)) Z5 rfl rfl rfl rfl rfl (pkP_ok rfl) (pkP_s ..) <| Za <| Zl <| ⟨.agg ⟨pkP 2 n zS (.slice none 0 0)⟩, [], Ret.one rfl (RV.cell Z5 rfl (At.bx 0 rfl) (pkP_a ..)), Sub.nil, ?_⟩))
 exact ⟨rfl, rfl⟩
theorem any_ct  (H : Heap) : CT Tryz.prog 168 ⟨[]⟩ [] H (fun r N => r = .agg ⟨pkP 1 0 zS (.slice none 0 0)⟩ ∧ N = []) := by
 refine Zo Tryz.func168 rfl rfl <| Zd <| Zb <| JLr (Zj (l := pkP 0 0 zS (.slice none 0 0)) Tryz.zeroValue75 rfl fun b1 => Za <| Zd <| Zb <| JLq (.agg ⟨pkP 1 0 zS (.slice none 0 0)⟩) (Pu.build (pv := [(0, .int .i64 1)]) (l := pkP 1 0 zS (.slice none 0 0)) rfl (bld75_0 _)) <| JLr (Ze 0 (vs := pkP 1 0 zS (.slice none 0 0)) (l := pkP 1 0 zS (.slice none 0 0)) Z5 rfl rfl rfl rfl rfl (pkP_ok rfl) (pkP_s ..) <| Za <| Zl <| ⟨.agg ⟨pkP 1 0 zS (.slice none 0 0)⟩, [], Ret.one rfl (RV.cell Z5 rfl (At.bx 0 rfl) (pkP_a ..)), Sub.nil, ?_⟩))
 exact ⟨rfl, rfl⟩
theorem co_ct (f : Sm) (n : Int) (sa : Option Addr) (sn sc : Nat) (H : Heap) : CT Tryz.prog 157 ⟨[.agg ⟨sC f⟩, .int .i64 n, .slice sa sn sc]⟩ [] H (fun r N => r = .agg ⟨pkT 8 n f (.slice sa sn sc) (.slice none 0 0)⟩ ∧ N = []) := by
 refine Zo Tryz.func157 rfl rfl <| Zd <| Zb <| JLr (Zt (l := sC f) rfl rfl fun b1 => JLr (Zj (l := pkT 0 0 zS (.slice none 0 0) (.slice none 0 0)) Tryz.zeroValue27 rfl fun b2 => Za <| Zd <| Zb <| JLr (Zh Xb rfl (At.bx 1 rfl) (Zx rfl) <| JLm (.int .i64 n) <| JLm (.slice sa sn sc) <| JLq (.agg ⟨pkT 8 n f (.slice sa sn sc) (.slice none 0 0)⟩) (Pu.build (pv := [(0, .int .i64 8), (2, .agg ⟨sC f⟩), (1, .int .i64 n), (3, .slice sa sn sc)]) (l := pkT 8 n f (.slice sa sn sc) (.slice none 0 0)) rfl (bld27_0_2_1_3 _ _ _ _ _ _)) <| JLr (Ze 0 (vs := pkT 8 n f (.slice sa sn sc) (.slice none 0 0)) (l := pkT 8 n f (.slice sa sn sc) (.slice none 0 0)) Zu rfl rfl rfl rfl rfl (ZI rfl rfl) (Z0 ..) ?_))))
 refine Za <| Zl <| ⟨.agg ⟨pkT 8 n f (.slice sa sn sc) (.slice none 0 0)⟩, [], Ret.one rfl (RV.cell Zu rfl (At.bx 0 rfl) (ZZ ..)), Sub.nil, ?_⟩
 exact ⟨rfl, rfl⟩
theorem se_ct (n : Int) (H : Heap) : CT Tryz.prog 148 ⟨[.int .i64 n]⟩ [] H (fun r N => r = .agg ⟨pkT 7 n zS (.slice none 0 0) (.slice none 0 0)⟩ ∧ N = []) := by
 refine Zo Tryz.func148 rfl rfl <| Zd <| Zb <| JLr (Zj (l := pkT 0 0 zS (.slice none 0 0) (.slice none 0 0)) Tryz.zeroValue27 rfl fun b1 => Za <| Zd <| Zb <| JLm (.int .i64 n) <| JLq (.agg ⟨pkT 7 n zS (.slice none 0 0) (.slice none 0 0)⟩) (Pu.build (pv := [(0, .int .i64 7), (1, .int .i64 n)]) (l := pkT 7 n zS (.slice none 0 0) (.slice none 0 0)) rfl (bld27_0_1 _ _)) <| JLr (Ze 0 (vs := pkT 7 n zS (.slice none 0 0) (.slice none 0 0)) (l := pkT 7 n zS (.slice none 0 0) (.slice none 0 0)) Zu rfl rfl rfl rfl rfl (ZI rfl rfl) (Z0 ..) <| Za <| Zl <| ⟨.agg ⟨pkT 7 n zS (.slice none 0 0) (.slice none 0 0)⟩, [], Ret.one rfl (RV.cell Zu rfl (At.bx 0 rfl) (ZZ ..)), Sub.nil, ?_⟩))
 exact ⟨rfl, rfl⟩
theorem de_ct (f : Sm) (H : Heap) : CT Tryz.prog 149 ⟨[.agg ⟨sC f⟩]⟩ [] H (fun r N => r = .agg ⟨pkT 6 0 f (.slice none 0 0) (.slice none 0 0)⟩ ∧ N = []) := by
 refine Zo Tryz.func149 rfl rfl <| Zd <| Zb <| JLr (Zt (l := sC f) rfl rfl fun b1 => JLr (Zj (l := pkT 0 0 zS (.slice none 0 0) (.slice none 0 0)) Tryz.zeroValue27 rfl fun b2 => Za <| Zd <| Zb <| JLr (Zh Xb rfl (At.bx 1 rfl) (Zx rfl) <| JLq (.agg ⟨pkT 6 0 f (.slice none 0 0) (.slice none 0 0)⟩) (Pu.build (pv := [(0, .int .i64 6), (2, .agg ⟨sC f⟩)]) (l := pkT 6 0 f (.slice none 0 0) (.slice none 0 0)) rfl (bld27_0_2 _ _)) <| JLr (Ze 0 (vs := pkT 6 0 f (.slice none 0 0) (.slice none 0 0)) (l := pkT 6 0 f (.slice none 0 0) (.slice none 0 0)) Zu rfl rfl rfl rfl rfl (ZI rfl rfl) (Z0 ..) <| Za <| Zl ?_))))
 refine ⟨.agg ⟨pkT 6 0 f (.slice none 0 0) (.slice none 0 0)⟩, [], Ret.one rfl (RV.cell Zu rfl (At.bx 0 rfl) (ZZ ..)), Sub.nil, ?_⟩
 exact ⟨rfl, rfl⟩
end Go.Proofs.YtmophpgiaiemhaaGreat.Hs
/-! Walks, printed by a program of this session's own (gen.py). -/
namespace Go.Proofs.YtmophpgiaiemhaaGreat.Hs
open Go Go.Proofs
set_option maxRecDepth 100000
set_option linter.unusedVariables false
set_option linter.unusedSimpArgs false
attribute [local irreducible] JL J CT wlo
theorem pattern_ct : ∀ (dp : Nat) (bS : Nat) (v : Value) (l : List Int) (a s d : Int) (H : Heap), d = (dp : Int) → dp ≤ 2 → Hs.rdS RB 1 H v l → 0 ≤ a → a + ((dz dp : Nat) : Int) ≤ 1900000000 → CT Tryz.prog 155 ⟨[.pointer (some ⟨bS, 0, none⟩), .int .i64 d]⟩ [[(bS, .cells ⟨[v, .int .i64 a, .int .u64 s]⟩ 128 (0, 0))]] H (fun r N => ∃ p cs k a' s', r = .agg ⟨cs⟩ ∧ N = [[(bS, .cells ⟨[v, .int .i64 (a'), .int .u64 (s')]⟩ 128 (0, 0))], k] ∧ OP p cs k ∧ (Y3 p = 0 ∧ sizeP p ≤ pz dp) ∧ (a ≤ a' ∧ a' ≤ a + ((dz dp : Nat) : Int))) := by
 intro dp
 induction dp using Nat.strongRecOn with
 | _ dp ih =>
 intro bS v l a s d H hd hdp hv ha0 ha1
 have hdz := dz_le (show dp - 1 ≤ 2 by omega)
 have hdz2 := dz_ge dp
 refine Zo Tryz.func155 rfl rfl <| Zd <| Zb <| JLr (Zj (l := pkP 0 0 zS (.slice none 0 0)) Tryz.zeroValue75 rfl fun b1 => Za <| Zd <| Zd <| Zb <| JLm (.pointer (some ⟨bS, 0, none⟩)) <| Zw 1 rfl Tryz.call147 rfl rfl (fun hin => YJ _ _ _ _ _ _ (RBs.mono (Hle.hu _ _) hv) (by omega) (by omega) _) rfl ?_)
 rintro _ _ ⟨n2, a2, s2, rfl, rfl, hn2, ha2⟩
 refine JLa (.int .i64 n2) <| Za <| Zs <| Yo (fun ρ M => ρ 0 = .pointer (some ⟨bS, 0, none⟩) ∧ ρ 1 = .int .i64 d ∧ ρ 4 = .pointer (some ⟨b1, 0, none⟩) ∧ ρ 5 = .int .i64 n2 ∧ ρ 9 = .bool ((decide (0 < d)) && (decide (n2 < 3))) ∧ M = [[(bS, .cells ⟨[v, .int .i64 a2, .int .u64 s2]⟩ 128 (0, 0))], [(b1, .cells ⟨pkP 0 0 zS (.slice none 0 0)⟩ 75 (0, 0))]]) ?_ ?_
 ·refine Zb <| JLm (.int .i64 d) <| JLq (.bool (decide (0 < d))) (Pu.gtr rfl rfl) <| JLm (.bool (decide (0 < d))) ?_
  cases h3 : (decide (0 < d)) with
  | true =>
   replace h3 := dt h3
   refine JLm (.int .i64 n2) <| JLq (.bool (decide (n2 < 3))) (Pu.lss rfl rfl) <| JLq (.bool (decide (n2 < 3))) (Pu.pickT rfl rfl) <| JLa (.bool (decide (n2 < 3))) <| Za ?_
   first | exact ⟨rfl, rfl, rfl, rfl, rfl, rfl⟩ | (exfalso; omega)
  | false =>
   replace h3 := df h3
   iterate 2 refine Zy rfl ?_
   refine JLq (.bool false) (Pu.pickF rfl rfl) <| JLa (.bool false) <| Za ?_
   first | exact ⟨rfl, rfl, rfl, rfl, rfl, rfl⟩ | (exfalso; omega)
 rintro ρ4 _ ⟨e5, e6, e7, e8, e9, rfl⟩
 obtain ⟨ρ10, rfl⟩ := Zc (uc e5 (uc e6 (uc e7 (uc e8 (uc e9 un)))))
 clear e5 e6 e7 e8 e9
 refine Zi (b := (decide (0 < d)) && (decide (n2 < 3))) rfl (fun h11 => ?_) (fun h11 => ?_)
 ·obtain ⟨h11a, h11b⟩ := andT h11
  replace h11a := dt h11a
  replace h11b := dt h11b
  refine Zd <| Zb <| JLm (.pointer (some ⟨bS, 0, none⟩)) <| Zw 0 rfl Tryz.call150 rfl rfl (fun hin => sum_ct _ _ _ _ _ _ (RBs.mono (Hle.hu _ _) hv) (by omega) (by omega) _ _ (by omega) (by omega) (by omega)) rfl ?_
  rintro _ _ ⟨n12, a12, s12, rfl, rfl, ha12⟩
  refine JLm (.pointer (some ⟨bS, 0, none⟩)) <| Zw 0 rfl Tryz.call147 rfl rfl (fun hin => YJ _ _ _ _ _ _ (RBs.mono (Hle.hu _ _) hv) (by omega) (by omega) _) rfl ?_
  rintro _ _ ⟨n13, a13, s13, rfl, rfl, hn13, ha13⟩
  refine Zg rfl Tryz.call166 rfl (fun hin => pc_ct _ _ none 0 0 _) rfl ?_
  rintro _ _ ⟨rfl, rfl⟩
  refine JLr (Zj (l := pkP 0 0 zS (.slice none 0 0)) Tryz.zeroValue75 rfl fun b14 => JLr (Ze 0 (vs := pkP 3 n13 n12 (.slice none 0 0)) (l := pkP 3 n13 n12 (.slice none 0 0)) Z5 rfl rfl rfl rfl rfl (pkP_ok rfl) (pkP_s ..) <| Za <| Zd <| Zd <| Zb <| JLm (.pointer (some ⟨bS, 0, none⟩)) <| Zw 1 rfl Tryz.call147 rfl rfl (fun hin => YJ _ _ _ _ _ _ (RBs.mono (Hle.hu _ _) hv) (by omega) (by omega) _) rfl ?_))
  rintro _ _ ⟨n15, a15, s15, rfl, rfl, hn15, ha15⟩
  refine JLm (.int .i64 0) <| Za <| Zs <| ZU (fun k ρ M => ∃ (j : Nat) (ps : List Pt) (w : Value) (es : List (List Value)) (k1 k2 : Zk) (aw sw : Int), ρ 0 = .pointer (some ⟨bS, 0, none⟩) ∧ ρ 1 = .int .i64 d ∧ ρ 4 = .pointer (some ⟨b1, 0, none⟩) ∧ ρ 6 = .pointer (some ⟨b14, 0, none⟩) ∧ ρ 22 = .int .i64 n15 ∧ ρ 23 = .int .i64 ((j : Int)) ∧ Sub [[(b14, .cells ⟨pkP 3 n13 n12 w⟩ 75 (0, 0))], k1, k2, [(bS, .cells ⟨[v, .int .i64 aw, .int .u64 sw]⟩ 128 (0, 0))], [(b1, .cells ⟨pkP 0 0 zS (.slice none 0 0)⟩ 75 (0, 0))]] M ∧ (j : Int) ≤ n15 ∧ Own 75 35 w es k1 ∧ OPs ps es k2 ∧ ps.length = j ∧ Xh ps = 0 ∧ Yb ps ≤ j * pz (dp - 1) ∧ (a15 ≤ aw ∧ aw ≤ a15 + ((j * dz (dp - 1) : Nat) : Int)) ∧ k = n15.toNat - j) _ ⟨0, [], (.slice none 0 0), [], [], [], a15, s15, rfl, rfl, rfl, rfl, rfl, rfl, (Sub.cons 1 rfl (Sub.emp (Sub.emp (Sk (Sk Sub.nil))))), (by omega), Own.nil, OPs.nil, rfl, rfl, by simp [Yb], by omega, rfl⟩ ?_
  rintro _ ρ16 _ ⟨j, ps, w, es, k1, k2, aw, sw, e17, e18, e19, e20, e21, e22, hm23, hj, how, hopw, hpl, hpe, hps, hpa, rfl⟩
  obtain ⟨ρ24, rfl⟩ := Zc (uc e17 (uc e18 (uc e19 (uc e20 (uc e21 (uc e22 un))))))
  clear e17 e18 e19 e20 e21 e22
  refine Z1 hm23 <| Zd <| Zb <| JLq (.bool (decide ((j : Int) < n15))) (Pu.lss rfl rfl) <| Za <| Zd <| Zi (b := decide ((j : Int) < n15)) rfl (fun h25 => ?_) (fun h25 => ?_)
  ·replace h25 := dt h25
   have helw := OPs_len hopw
   have hmd := Nat.mul_le_mul_right (dz (dp - 1)) (show j + 1 ≤ 2 by omega)
   rw [Nat.succ_mul] at hmd
   have hmd2 := dz_pos (show 0 < dp by omega)
   refine Zp <| Zd <| Zs <| J_drawM mixed #[0, 1, 0, 0, 8, 28, 60, 127, 255, 511] 7 3 [5] rfl (by kernel_rfl) (by decide) rfl (by kernel_rfl) (fun i r26 N26 => match i with | 0 => (r26 0) = .pointer (some ⟨b14, 34, none⟩) | 1 => (r26 1) = w | 2 => (r26 2) = .pointer (some ⟨bS, 0, none⟩) | 3 => (r26 3) = .int .i64 d | 4 => (r26 4) = .int .i64 (d - 1) | 5 => (r26 5) = .agg ⟨(cll (r26 5))⟩ ∧ (cll (r26 5)).length = 35 ∧ okc (cll (r26 5)) ∧ ∃ pM kM aM sM, (N26 5) = [(bS, .cells ⟨[v, .int .i64 aM, .int .u64 sM]⟩ 128 (0, 0))] ++ kM ∧ OP pM (cll (r26 5)) kM ∧ (Y3 pM = 0 ∧ sizeP pM ≤ pz (dp - 1)) ∧ (aw ≤ aM ∧ aM ≤ aw + ((dz (dp - 1) : Nat) : Int)) | 6 => (r26 6) = .slice (some ⟨(ZC (r26 6)), 0, none⟩) 1 1 ∧ (N26 6) = [(ZC (r26 6), .cells ⟨List.flatten [(cll (r26 5))]⟩ 75 (0, 0))] ∧ Own 75 35 (.slice (some ⟨(ZC (r26 6)), 0, none⟩) 1 1) [(cll (r26 5))] (N26 6) | _ => True) ⟨?_, ?_, ?_, ?_, ?_, ?_, ?_, trivial⟩ ?_
   ·intro ρ r26 N26 B hB hBa hBb hp hr hr0
    obtain ⟨ρ27, rfl⟩ := Zc (uc (show ρ 6 = .pointer (some ⟨b14, 0, none⟩) from hr0 6 (by kernel_rfl)) un)
    refine JLq (.pointer (some ⟨b14, 34, none⟩)) (YO rfl rfl) <| Za ?_
    exact ⟨.pointer (some ⟨b14, 34, none⟩), [], rfl, (Sub.emp Sub.refl), rfl⟩
   ·intro ρ r26 N26 B hB hBa hBb hp hr hr0
    have p0 : (r26 0) = .pointer (some ⟨b14, 34, none⟩) := hp 0 (by decide) rfl
    obtain ⟨ρ28, rfl⟩ := Zc (uc (show ρ 25 = .pointer (some ⟨b14, 34, none⟩) from (hr 0 _ _ (by decide) rfl rfl rfl).trans p0) un)
    refine JLr (Zf ty73 rfl (At.bx 7 (Zn ((hB 0 (by decide)).trans rfl))) (Xf ..) <| Za ?_)
    exact ⟨w, [], rfl, (Sub.emp Sub.refl), rfl⟩
   ·intro ρ r26 N26 B hB hBa hBb hp hr hr0
    obtain ⟨ρ29, rfl⟩ := Zc (uc (show ρ 0 = .pointer (some ⟨bS, 0, none⟩) from hr0 0 (by kernel_rfl)) un)
    refine JLm (.pointer (some ⟨bS, 0, none⟩)) <| Za ?_
    exact ⟨.pointer (some ⟨bS, 0, none⟩), [], rfl, (Sub.emp Sub.refl), rfl⟩
   ·intro ρ r26 N26 B hB hBa hBb hp hr hr0
    obtain ⟨ρ30, rfl⟩ := Zc (uc (show ρ 1 = .int .i64 d from hr0 1 (by kernel_rfl)) un)
    refine JLm (.int .i64 d) <| Za ?_
    exact ⟨.int .i64 d, [], rfl, (Sub.emp Sub.refl), rfl⟩
   ·intro ρ r26 N26 B hB hBa hBb hp hr hr0
    have p3 : (r26 3) = .int .i64 d := hp 3 (by decide) rfl
    obtain ⟨ρ31, rfl⟩ := Zc (uc (show ρ 28 = .int .i64 d from (hr 3 _ _ (by decide) rfl rfl rfl).trans p3) un)
    refine JLq (.int .i64 (d - 1)) (Pu.sub64 rfl rfl (by first | omega | (constructor <;> omega))) <| Za ?_
    exact ⟨.int .i64 (d - 1), [], rfl, (Sub.emp Sub.refl), rfl⟩
   ·intro ρ r26 N26 B hB hBa hBb hp hr hr0
    have p2 : (r26 2) = .pointer (some ⟨bS, 0, none⟩) := hp 2 (by decide) rfl
    have p4 : (r26 4) = .int .i64 (d - 1) := hp 4 (by decide) rfl
    obtain ⟨ρ32, rfl⟩ := Zc (uc (show ρ 27 = .pointer (some ⟨bS, 0, none⟩) from (hr 2 _ _ (by decide) rfl rfl rfl).trans p2) (uc (show ρ 29 = .int .i64 (d - 1) from (hr 4 _ _ (by decide) rfl rfl rfl).trans p4) un))
    have hB2 := hBa rfl
    change B = [[(b14, .cells ⟨pkP 3 n13 n12 w⟩ 75 (0, 0))], k1, k2, [(bS, .cells ⟨[v, .int .i64 aw, .int .u64 sw]⟩ 128 (0, 0))], [(b1, .cells ⟨pkP 0 0 zS (.slice none 0 0)⟩ 75 (0, 0))]] at hB2
    subst hB2
    refine Zq (M' := [(N26 0), (N26 1), (N26 2), (N26 3), (N26 4), [], (N26 6), [(b14, .cells ⟨pkP 3 n13 n12 w⟩ 75 (0, 0))], k1, k2, [(bS, .cells ⟨[v, .int .i64 aw, .int .u64 sw]⟩ 128 (0, 0))], [(b1, .cells ⟨pkP 0 0 zS (.slice none 0 0)⟩ 75 (0, 0))]]) Sub.refl <| Zw 10 rfl Tryz.call155 rfl rfl (fun hin => ih (dp - 1) (by omega) _ _ _ _ _ _ _ (by omega) (by omega) (RBs.mono (Hle.hu _ _) hv) (by omega) (by omega)) rfl ?_
    rintro _ _ ⟨p33_, cs33, k33, a33, s33, rfl, rfl, hO33, hg33, ha33⟩
    have hbl33 := YE p33_
    refine Za ?_
    exact ⟨.agg ⟨cs33⟩, ([(bS, .cells ⟨[v, .int .i64 a33, .int .u64 s33]⟩ 128 (0, 0))]) ++ k33, rfl, (Sub.flat (M' := [(N26 0), (N26 1), (N26 2), (N26 3), (N26 4), [], (N26 6), [(b14, .cells ⟨pkP 3 n13 n12 w⟩ 75 (0, 0))], k1, k2, ([(bS, .cells ⟨[v, .int .i64 a33, .int .u64 s33]⟩ 128 (0, 0))]) ++ k33, [(b1, .cells ⟨pkP 0 0 zS (.slice none 0 0)⟩ 75 (0, 0))]]) (Sub.cons 2 rfl (Sub.cons 2 rfl (Sub.cons 2 rfl (Sub.cons 2 rfl (Sub.cons 2 rfl (Sub.emp (Sub.cons 3 rfl (Sub.cons 3 rfl (Sub.cons 3 rfl (Sub.cons 3 rfl (Sub.join (Sk (Sk (Sd (Sk Sub.nil))))))))))))))) rfl), ⟨rfl, hO33.len, hO33.ok, p33_, k33, a33, s33, rfl, hO33, hg33, ha33⟩⟩
   ·intro ρ r26 N26 B hB hBa hBb hp hr hr0
    have p5 : (r26 5) = .agg ⟨(cll (r26 5))⟩ ∧ (cll (r26 5)).length = 35 ∧ okc (cll (r26 5)) ∧ ∃ pM kM aM sM, (N26 5) = [(bS, .cells ⟨[v, .int .i64 aM, .int .u64 sM]⟩ 128 (0, 0))] ++ kM ∧ OP pM (cll (r26 5)) kM ∧ (Y3 pM = 0 ∧ sizeP pM ≤ pz (dp - 1)) ∧ (aw ≤ aM ∧ aM ≤ aw + ((dz (dp - 1) : Nat) : Int)) := hp 5 (by decide) rfl
    obtain ⟨ρ34, rfl⟩ := Zc (uc (show ρ 30 = .agg ⟨(cll (r26 5))⟩ from (hr 5 _ _ (by decide) rfl rfl rfl).trans p5.1) un)
    refine JLr (Zr (vs := [.agg ⟨(cll (r26 5))⟩]) [(cll (r26 5))] Tryz.runUnderlying73 el75 rfl rfl (by intro e he; simp only [List.mem_cons, List.not_mem_nil, or_false] at he; subst he; exact p5.2.1) rfl (by decide) fun b35 k35 ho35 hk35 => Za ?_)
    exact ⟨.slice (some ⟨b35, 0, none⟩) 1 1, k35, rfl, Sub.refl, ⟨rfl, hk35, ho35⟩⟩
   intro ρ r26 N26 hp hr hr0
   have p5 : (r26 5) = .agg ⟨(cll (r26 5))⟩ ∧ (cll (r26 5)).length = 35 ∧ okc (cll (r26 5)) ∧ ∃ pM kM aM sM, (N26 5) = [(bS, .cells ⟨[v, .int .i64 aM, .int .u64 sM]⟩ 128 (0, 0))] ++ kM ∧ OP pM (cll (r26 5)) kM ∧ (Y3 pM = 0 ∧ sizeP pM ≤ pz (dp - 1)) ∧ (aw ≤ aM ∧ aM ≤ aw + ((dz (dp - 1) : Nat) : Int)) := hp 5 (by decide)
   have p6 : (r26 6) = .slice (some ⟨(ZC (r26 6)), 0, none⟩) 1 1 ∧ (N26 6) = [(ZC (r26 6), .cells ⟨List.flatten [(cll (r26 5))]⟩ 75 (0, 0))] ∧ Own 75 35 (.slice (some ⟨(ZC (r26 6)), 0, none⟩) 1 1) [(cll (r26 5))] (N26 6) := hp 6 (by decide)
   obtain ⟨ρ36, rfl⟩ := Zc (uc (show ρ 0 = .pointer (some ⟨bS, 0, none⟩) from hr0 0 (by kernel_rfl)) (uc (show ρ 1 = .int .i64 d from hr0 1 (by kernel_rfl)) (uc (show ρ 4 = .pointer (some ⟨b1, 0, none⟩) from hr0 4 (by kernel_rfl)) (uc (show ρ 6 = .pointer (some ⟨b14, 0, none⟩) from hr0 6 (by kernel_rfl)) (uc (show ρ 22 = .int .i64 n15 from hr0 22 (by kernel_rfl)) (uc (show ρ 23 = .int .i64 ((j : Int)) from hr0 23 (by kernel_rfl)) (uc (show ρ 26 = w from (hr 1 _ _ (by decide) rfl rfl).trans (hp 1 (by decide))) (uc (show ρ 31 = .slice (some ⟨(ZC (r26 6)), 0, none⟩) 1 1 from (hr 6 _ _ (by decide) rfl rfl).trans p6.1) un))))))))
   have p26_5 := p5; have p26_6 := p6
   clear hp hr hr0 p5 p6
   refine Zq (M' := [(N26 0), (N26 1), (N26 2), (N26 3), (N26 4), [], (N26 6), [(b14, .cells ⟨pkP 3 n13 n12 w⟩ 75 (0, 0))], k1, k2, (N26 5), [(b1, .cells ⟨pkP 0 0 zS (.slice none 0 0)⟩ 75 (0, 0))]]) Sub.refl ?_
   obtain ⟨pM26_5, kM26_5, aM26_5, sM26_5, hNM26_5, hOM26_5, hgM26_5, haM26_5⟩ := p26_5.2.2.2
   refine Zq (M' := [(N26 6), [(b14, .cells ⟨pkP 3 n13 n12 w⟩ 75 (0, 0))], k1, k2, [(bS, .cells ⟨[v, .int .i64 aM26_5, .int .u64 sM26_5]⟩ 128 (0, 0))] ++ kM26_5, [(b1, .cells ⟨pkP 0 0 zS (.slice none 0 0)⟩ 75 (0, 0))]]) (Sd (Sd (Sd (Sd (Sd (Sd (Sk (Sk (Sk (Sk (Se hNM26_5 (Sk Sub.nil)))))))))))) <| Zq (M' := [(N26 6), [(b14, .cells ⟨pkP 3 n13 n12 w⟩ 75 (0, 0))], k1, k2, [(bS, .cells ⟨[v, .int .i64 aM26_5, .int .u64 sM26_5]⟩ 128 (0, 0))], kM26_5, [(b1, .cells ⟨pkP 0 0 zS (.slice none 0 0)⟩ 75 (0, 0))]]) (Sub.flat Sub.refl (by simp)) ?_
   show JL _ _ _ [_, _, _] _ _ _
   have hlens37 : ∀ e ∈ ([(cll (r26 5))] : List (List Value)), List.length e = 35 := by
    intro e he; simp only [List.mem_cons, List.not_mem_nil, or_false] at he
    rcases he with rfl
    ·exact p26_5.2.1
   have hoks37 : ∀ e ∈ ([(cll (r26 5))] : List (List Value)), okc e := by
    intro e he; simp only [List.mem_cons, List.not_mem_nil, or_false] at he
    rcases he with rfl
    ·exact p26_5.2.2.1
   refine JLr (ZH (i := 2) (n := 1) (es' := [(cll (r26 5))]) Tryz.runUnderlying73 Tryz.runUnderlying73 (Or.inl rfl) el75 rfl rfl rfl how (fun F w m => Src.row (((At.k 0 rfl (by rw [p26_6.2.1]; exact List.mem_cons_self))).heap m) (Zx (ZG hlens37))) rfl hlens37 hoks37 (by decide) (by omega) fun v37 k37 ho37 => JLq (.pointer (some ⟨b14, 34, none⟩)) (YO rfl rfl) <| JLr (Ze 1 (vs := [v37]) (l := pkP 3 n13 n12 v37) ty73 rfl rfl rfl (ZO ho37.one) rfl (Zm ho37.one Zv) (pkP_s34 ..) <| Za <| Zb <| JLq (.int .i64 (((j + 1 : Nat) : Int))) (Pu.inc rfl rfl (by omega)) <| JLm (.int .i64 (((j + 1 : Nat) : Int))) <| Za <| ⟨_, ?_, (j + 1), (ps ++ [pM26_5]), v37, (es ++ [(cll (r26 5))]), k37, (k2 ++ kM26_5), aM26_5, sM26_5, rfl, rfl, rfl, rfl, rfl, rfl, (Sd (Sk (Sk (Sub.join (Sk (Sub.cons 1 rfl (Sk (Sk Sub.nil)))))))), ?_, ?_, ?_, ?_, ?_, ?_, ?_, rfl⟩))
   ·omega
   ·omega
   ·exact ho37
   ·exact OPs.snoc hOM26_5 hopw
   ·simp; omega
   ·exact pErrRL_snoc hpe hgM26_5.1
   ·have := hgM26_5.2; rw [sizePs_snoc, Nat.succ_mul]; omega
   have := haM26_5; rw [Nat.succ_mul]; omega
  replace h25 := df h25
  refine ZM _ rfl <| Zd <| Zb <| JLr (Zh Z5 rfl (At.bx 0 rfl) (pkP_a ..) <| JLr (Ze 4 (vs := pkP 3 n13 n12 w) (l := pkP 3 n13 n12 w) Z5 rfl rfl rfl rfl rfl (pkP_ok how.one) (pkP_s ..) <| Za <| Zl <| ⟨.agg ⟨pkP 3 n13 n12 w⟩, [[(bS, .cells ⟨[v, .int .i64 aw, .int .u64 sw]⟩ 128 (0, 0))], k1 ++ k2], Ret.one rfl (RV.cell Z5 rfl (At.bx 4 rfl) (pkP_a ..)), (Sd (Sub.cons 2 rfl (Sub.join (Sk (Sk Sub.nil))))), ?_⟩))
  have hmz := Nat.mul_le_mul_right (pz (dp - 1)) (show j ≤ 2 by omega)
  have hmd := Nat.mul_le_mul_right (dz (dp - 1)) (show j ≤ 2 by omega)
  have e1 := pz_pos (show 0 < dp by omega)
  have e2 := dz_pos (show 0 < dp by omega)
  exact ⟨.mk 3 n13 n12 ps, _, _, _, _, rfl, rfl, OP_mk.2 ⟨w, es, k1, k2, rfl, by unfold inI; omega, by unfold inI; omega, how, hopw, rfl, by omega⟩, ⟨pErrR_con (by omega) (by omega) (by omega) hpe, by rw [sizeP]; omega⟩, by omega⟩
 refine Zd <| Zb <| JLm (.int .i64 n2) <| JLq (.bool (decide (n2 = 3))) (Pu.eql rfl rfl) <| JLa (.bool (decide (n2 = 3))) <| Za <| Zi (b := decide (n2 = 3)) rfl (fun h38 => ?_) (fun h38 => ?_)
 ·replace h38 := dt h38
  refine Zd <| Zb <| JLm (.pointer (some ⟨bS, 0, none⟩)) <| Zw 0 rfl Tryz.call147 rfl rfl (fun hin => YJ _ _ _ _ _ _ (RBs.mono (Hle.hu _ _) hv) (by omega) (by omega) _) rfl ?_
  rintro _ _ ⟨n39, a39, s39, rfl, rfl, hn39, ha39⟩
  refine Zg rfl Tryz.call167 rfl (fun hin => pn_ct _ _) rfl ?_
  rintro _ _ ⟨rfl, rfl⟩
  refine JLr (Ze 1 (vs := pkP 2 n39 zS (.slice none 0 0)) (l := pkP 2 n39 zS (.slice none 0 0)) Z5 rfl rfl rfl rfl rfl (pkP_ok rfl) (pkP_s ..) <| Za <| Zl <| ⟨.agg ⟨pkP 2 n39 zS (.slice none 0 0)⟩, [[(bS, .cells ⟨[v, .int .i64 a39, .int .u64 s39]⟩ 128 (0, 0))], []], Ret.one rfl (RV.cell Z5 rfl (At.bx 1 rfl) (pkP_a ..)), (Sk (Sub.emp Sub.nil)), ?_⟩)
  have e1 := pz_ge dp
  have e2 := dz_ge dp
  exact ⟨.mk 2 n39 zS [], _, _, _, _, rfl, rfl, OP_leaf (by unfold inI; omega) (by unfold inI; omega), ⟨pErrR_num (by omega) (by omega), by simp [sizeP, Yb]; omega⟩, by omega⟩
 replace h38 := df h38
 refine Zp <| Zd <| Zb <| Zg rfl Tryz.call168 rfl (fun hin => any_ct _) rfl ?_
 rintro _ _ ⟨rfl, rfl⟩
 refine JLr (Ze 1 (vs := pkP 1 0 zS (.slice none 0 0)) (l := pkP 1 0 zS (.slice none 0 0)) Z5 rfl rfl rfl rfl rfl (pkP_ok rfl) (pkP_s ..) <| Za <| Zl <| ⟨.agg ⟨pkP 1 0 zS (.slice none 0 0)⟩, [[(bS, .cells ⟨[v, .int .i64 a2, .int .u64 s2]⟩ 128 (0, 0))], []], Ret.one rfl (RV.cell Z5 rfl (At.bx 1 rfl) (pkP_a ..)), (Sk (Sub.emp Sub.nil)), ?_⟩)
 have e1 := pz_ge dp
 have e2 := dz_ge dp
 exact ⟨.mk 1 0 zS [], _, _, _, _, rfl, rfl, OP_leaf (by unfold inI; omega) (by unfold inI; omega), ⟨pErrR_any, by simp [sizeP, Yb]; omega⟩, by omega⟩
theorem bindsK_ct : ∀ (p : Pt) (cs : List Value) (H : Heap), RP H cs p → Y3 p = 0 → binds p ≤ 1000000 → CT Tryz.prog 156 ⟨[.agg ⟨cs⟩]⟩ [] H (fun v N => v = .int .i64 (binds p : Int) ∧ N = []) := by
 intro p
 induction p using Pt.ind with
 | h kind num ref kids ih =>
 intro cs H hp hpe hb
 obtain ⟨ks, rfl, hk, hn, hks⟩ := RP_mk.1 hp
 obtain ⟨hpl, hpk⟩ := pErrR_open hpe
 have hpm := pErrRL_mem hpl
 rw [binds] at hb ⊢
 refine Zo Tryz.func156 rfl rfl <| Zd <| Zb <| JLr (Zt (l := pkP kind num ref ks) rfl rfl fun b1 => JLa (.int .i64 0) <| Za <| Zd <| Zd <| Zb <| JLq (.pointer (some ⟨b1, 0, none⟩)) (Y6 rfl rfl) <| JLr (Zf ty3 rfl (At.bx 0 rfl) (pkP_0 ..) <| JLq (.bool (decide (kind = 1))) (Pu.eql rfl rfl) <| Za ?_))
 refine Zi (b := decide (kind = 1)) rfl (fun h2 => ?_) (fun h2 => ?_)
 ·replace h2 := dt h2
  refine Zd <| Zb <| JLa (.int .i64 1) <| Za <| Zl <| ⟨.int .i64 1, [], Ret.one rfl (RV.tmp rfl), Sub.nil, ?_⟩
  exact ⟨by rw [if_pos (by assumption)]; rfl, rfl⟩
 replace h2 := df h2
 refine Zp <| Zd <| Zb <| JLa (.int .i64 0) <| Za <| Zd <| Zd <| Zb <| JLq (.pointer (some ⟨b1, 0, none⟩)) (Y6 rfl rfl) <| JLr (Zf ty3 rfl (At.bx 0 rfl) (pkP_0 ..) <| JLq (.bool (decide (kind = 3))) (Pu.eql rfl rfl) <| Za <| Zi (b := decide (kind = 3)) rfl (fun h3 => ?_) (fun h3 => ?_))
 ·replace h3 := dt h3
  refine Zd <| Zb <| JLq (.pointer (some ⟨b1, 34, none⟩)) (YO rfl rfl) <| JLr (Zf ty73 rfl (At.bx 0 rfl) (Xf ..) ?_)
  obtain ⟨a4, cap4, hv4⟩ := hks.sl
  have hle4 := hks.le
  refine JLq (.int .i64 ((kids.length : Int))) (Pu.lenSl Tryz.runUnderlying73 hv4) <| JLm (.int .i64 0) <| Za <| Zs <| ZU (fun k ρ M => ∃ (j : Nat), ρ 2 = .int .i64 0 ∧ ρ 3 = .int .i64 ((Yf (kids.take j) : Int)) ∧ ρ 13 = ks ∧ ρ 14 = .int .i64 ((kids.length : Int)) ∧ ρ 15 = .int .i64 ((j : Int)) ∧ Sub [[(b1, .cells ⟨pkP kind num ref ks⟩ 75 (0, 0))]] M ∧ j ≤ kids.length ∧ k = kids.length - j) _ ⟨0, rfl, rfl, rfl, rfl, rfl, (Sk Sub.nil), Nat.zero_le _, rfl⟩ ?_
  rintro _ ρ5 _ ⟨j, e6, e7, e8, e9, e10, hm11, hj, rfl⟩
  obtain ⟨ρ12, rfl⟩ := Zc (uc e6 (uc e7 (uc e8 (uc e9 (uc e10 un)))))
  clear e6 e7 e8 e9 e10
  refine Z1 hm11 ?_
  have hlen := hks.le
  refine Zd <| Zb <| JLq (.bool (decide ((j : Int) < (kids.length : Int)))) (Pu.lss rfl rfl) <| Za <| Zd <| Zi (b := decide ((j : Int) < (kids.length : Int))) rfl (fun h13 => ?_) (fun h13 => ?_)
  ·replace h13 := dt h13
   have h13n : j < kids.length := by omega
   have hm1 := binds_mem kids _ (List.getElem_mem h13n)
   have hm2 := bindsL_take kids _ h13n
   have hm3 := bindsL_take_le kids (j + 1)
   rw [if_neg (by assumption)] at hb
   refine Zp <| Zd <| Zs <| Zd <| Zb ?_
   obtain ⟨b14, o14, cap14, row14, T14, fr14, cs14, hv14, hb14, hs14, hE14⟩ := hks.get j (by first | assumption | omega | decide | simp)
   refine JLq (.pointer (some ⟨b14, o14 + j * 35, none⟩)) (Pu.idx j Tryz.runUnderlying73 Z5 hv14 rfl rfl (by first | assumption | omega | decide | simp)) <| JLr (Zh Z5 rfl (At.im hb14) hs14 <| JLr (Zj (l := pkP 0 0 zS (.slice none 0 0)) Tryz.zeroValue75 rfl fun b15 => JLr (Ze 0 (vs := cs14) (l := cs14) Z5 rfl rfl rfl rfl (ZJ hE14) (RP_ok hE14) (ZL (n := 35) rfl (ZJ hE14)) <| Za <| Zb <| JLm (.int .i64 ((Yf (kids.take j) : Int))) <| JLr (Zh Z5 rfl (At.bx 0 rfl) (Zx (ZJ hE14)) <| Zg rfl Tryz.call156 rfl (fun hin => ih _ (List.getElem_mem h13n) _ _ (RP.mono (Hle.hu _ _) hE14) (hpm _ (List.getElem_mem h13n)) (by omega)) rfl ?_))))
   rintro _ _ ⟨rfl, rfl⟩
   refine JLq (.int .i64 ((Yf (kids.take j) : Int) + ((binds (kids[j]) : Int)))) (Pu.add64 rfl rfl (by first | omega | (constructor <;> omega))) <| JLa (.int .i64 ((Yf (kids.take j) : Int) + ((binds (kids[j]) : Int)))) <| Za <| Zb <| JLq (.int .i64 (((j + 1 : Nat) : Int))) (Pu.inc rfl rfl (by omega)) <| JLm (.int .i64 (((j + 1 : Nat) : Int))) <| Za <| ⟨_, ?_, (j + 1), rfl, (ieq rfl (by omega)), rfl, rfl, rfl, (Sd (Sk Sub.nil)), ?_, rfl⟩
   ·omega
   omega
  replace h13 := df h13
  have h13n : kids.length ≤ j := by omega
  refine ZM _ rfl <| Zd <| Zb <| JLm (.int .i64 ((Yf (kids.take j) : Int))) <| JLa (.int .i64 ((Yf (kids.take j) : Int))) <| Za <| Zl <| ⟨.int .i64 ((Yf (kids.take j) : Int)), [], Ret.one rfl (RV.tmp rfl), Sub.nil, ?_⟩
  exact ⟨by rw [if_neg (by assumption), List.take_of_length_le h13n], rfl⟩
 replace h3 := df h3
 refine Zp <| Zd <| Zb <| JLm (.int .i64 0) <| JLa (.int .i64 0) <| Za <| Zl <| ⟨.int .i64 0, [], Ret.one rfl (RV.tmp rfl), Sub.nil, ?_⟩
 obtain rfl : kids = [] := by rcases hpk with e | e | e; exact absurd e (by assumption); exact absurd e (by assumption); exact e.2
 exact ⟨by rw [if_neg (by assumption)]; rfl, rfl⟩
end Go.Proofs.YtmophpgiaiemhaaGreat.Hs
/-! Walks, printed by a program of this session's own (gen.py). -/
namespace Go.Proofs.YtmophpgiaiemhaaGreat.Hs
open Go Go.Proofs
set_option maxRecDepth 100000
set_option linter.unusedVariables false
set_option linter.unusedSimpArgs false
attribute [local irreducible] JL J CT wlo
theorem equalI_ct (l m : List Int) (v u : Value) (H : Heap) (hl : rdS RI 1 H v l) (hm : rdS RI 1 H u m) : CT Tryz.prog 51 ⟨[v, u]⟩ [] H (fun v N => v = .bool (eqL l m) ∧ N = []) := by
 refine Zo Tryz.func51 rfl rfl <| Zd <| Zb <| JLa (.bool false) <| Za <| Zd <| Zd <| Zb <| JLm v ?_
 obtain ⟨a1, cap1, hv1⟩ := hl.sl
 have hle1 := hl.le
 refine JLq (.int .i64 ((l.length : Int))) (Pu.lenSl Tryz.runUnderlying92 hv1) <| JLm u ?_
 obtain ⟨a2, cap2, hv2⟩ := hm.sl
 have hle2 := hm.le
 refine JLq (.int .i64 ((m.length : Int))) (Pu.lenSl Tryz.runUnderlying92 hv2) <| JLq (.bool (!decide ((l.length : Int) = (m.length : Int)))) (Pu.neq rfl rfl) <| Za <| Zi (b := !decide ((l.length : Int) = (m.length : Int))) rfl (fun h3 => ?_) (fun h3 => ?_)
 ·replace h3 := nt h3
  replace h3 := df h3
  refine Zd <| Zb <| JLa (.bool false) <| Za <| Zl <| ⟨.bool false, [], Ret.one rfl (RV.tmp rfl), Sub.nil, ?_⟩
  exact ⟨by rw [eqL_false (fun e => by subst e; exact absurd rfl h3)], rfl⟩
 replace h3 := nf h3
 replace h3 := dt h3
 refine Zp <| Zd <| Zd <| Zb <| JLm v ?_
 obtain ⟨a4, cap4, hv4⟩ := hl.sl
 have hle4 := hl.le
 refine JLq (.int .i64 ((l.length : Int))) (Pu.lenSl Tryz.runUnderlying92 hv4) <| JLm (.int .i64 0) <| Za <| Zs <| ZU (fun k ρ M => ∃ (j : Nat), ρ 0 = v ∧ ρ 1 = u ∧ ρ 4 = .bool false ∧ ρ 12 = .int .i64 ((l.length : Int)) ∧ ρ 13 = .int .i64 ((j : Int)) ∧ Sub [] M ∧ j ≤ l.length ∧ l.take j = m.take j ∧ k = l.length - j) _ ⟨0, rfl, rfl, rfl, rfl, rfl, Sub.nil, Nat.zero_le _, rfl, rfl⟩ ?_
 rintro _ ρ5 _ ⟨j, e6, e7, e8, e9, e10, hm11, hj, hinv, rfl⟩
 obtain ⟨ρ12, rfl⟩ := Zc (uc e6 (uc e7 (uc e8 (uc e9 (uc e10 un)))))
 clear e6 e7 e8 e9 e10
 refine Z1 hm11 <| Zd <| Zb <| JLq (.bool (decide ((j : Int) < (l.length : Int)))) (Pu.lss rfl rfl) <| Za <| Zd <| Zi (b := decide ((j : Int) < (l.length : Int))) rfl (fun h13 => ?_) (fun h13 => ?_)
 ·replace h13 := dt h13
  have h13n : j < l.length := by omega
  have hlenl := hl.le
  have hjm : j < m.length := by omega
  refine Zp <| Zd <| Zs <| Zd <| Zb <| JLm (.int .i64 ((j : Int))) <| JLa (.int .i64 ((j : Int))) <| Za <| Zd ?_
  obtain ⟨b15, o15, cap15, row15, T15, fr15, cs15, hv15, hb15, hs15, hE15⟩ := hl.get j (by first | assumption | omega | decide | simp)
  obtain ⟨b16, o16, cap16, row16, T16, fr16, cs16, hv16, hb16, hs16, hE16⟩ := hm.get j (by first | assumption | omega | decide | simp)
  refine Ya mixed #[0, 0, 3, 7, 0, 0, 48, 112, 255] 8 8 0 rfl (by kernel_rfl) (fun i r14 N14 => match i with | 0 => (r14 0) = v | 1 => (r14 1) = .int .i64 ((j : Int)) | 2 => (r14 2) = .pointer (some ⟨b15, o15 + j * 1, none⟩) | 3 => (r14 3) = .int .i64 (l[j]) | 4 => (r14 4) = u | 5 => (r14 5) = .int .i64 ((j : Int)) | 6 => (r14 6) = .pointer (some ⟨b16, o16 + j * 1, none⟩) | 7 => (r14 7) = .int .i64 (m[j]) | _ => True) ⟨?_, ?_, ?_, ?_, ?_, ?_, ?_, ?_, trivial⟩ ?_
  ·intro ρ r14 N14 B hB hBa hp hr hr0
   obtain ⟨ρ17, rfl⟩ := Zc (uc (show ρ 0 = v from hr0 0 (by kernel_rfl)) un)
   refine JLm v <| Za ?_
   exact ⟨v, [], rfl, (Sub.emp Sub.refl), rfl⟩
  ·intro ρ r14 N14 B hB hBa hp hr hr0
   obtain ⟨ρ18, rfl⟩ := Zc (uc (show ρ 5 = .int .i64 ((j : Int)) from hr0 5 (by kernel_rfl)) un)
   refine JLm (.int .i64 ((j : Int))) <| Za ?_
   exact ⟨.int .i64 ((j : Int)), [], rfl, (Sub.emp Sub.refl), rfl⟩
  ·intro ρ r14 N14 B hB hBa hp hr hr0
   obtain ⟨ρ19, rfl⟩ := Zc (uc (show ρ 16 = v from (hr 0 _ _ (by decide) rfl rfl rfl).trans (hp 0 (by decide) rfl)) (uc (show ρ 17 = .int .i64 ((j : Int)) from (hr 1 _ _ (by decide) rfl rfl rfl).trans (hp 1 (by decide) rfl)) un))
   refine JLq (.pointer (some ⟨b15, o15 + j * 1, none⟩)) (Pu.idx j Tryz.runUnderlying92 ty3 hv15 rfl rfl (by first | assumption | omega | decide | simp)) <| Za ?_
   exact ⟨.pointer (some ⟨b15, o15 + j * 1, none⟩), [], rfl, (Sub.emp Sub.refl), rfl⟩
  ·intro ρ r14 N14 B hB hBa hp hr hr0
   obtain ⟨ρ20, rfl⟩ := Zc (uc (show ρ 18 = .pointer (some ⟨b15, o15 + j * 1, none⟩) from (hr 2 _ _ (by decide) rfl rfl rfl).trans (hp 2 (by decide) rfl)) un)
   refine JLr (Zf ty3 rfl (At.im hb15) (Yp ((show cs15 = [Value.int .i64 (l[j])] from hE15) ▸ hs15)) <| Za ?_)
   exact ⟨.int .i64 (l[j]), [], rfl, (Sub.emp Sub.refl), rfl⟩
  ·intro ρ r14 N14 B hB hBa hp hr hr0
   obtain ⟨ρ21, rfl⟩ := Zc (uc (show ρ 1 = u from hr0 1 (by kernel_rfl)) un)
   refine JLm u <| Za ?_
   exact ⟨u, [], rfl, (Sub.emp Sub.refl), rfl⟩
  ·intro ρ r14 N14 B hB hBa hp hr hr0
   obtain ⟨ρ22, rfl⟩ := Zc (uc (show ρ 5 = .int .i64 ((j : Int)) from hr0 5 (by kernel_rfl)) un)
   refine JLm (.int .i64 ((j : Int))) <| Za ?_
   exact ⟨.int .i64 ((j : Int)), [], rfl, (Sub.emp Sub.refl), rfl⟩
  ·intro ρ r14 N14 B hB hBa hp hr hr0
   obtain ⟨ρ23, rfl⟩ := Zc (uc (show ρ 20 = u from (hr 4 _ _ (by decide) rfl rfl rfl).trans (hp 4 (by decide) rfl)) (uc (show ρ 21 = .int .i64 ((j : Int)) from (hr 5 _ _ (by decide) rfl rfl rfl).trans (hp 5 (by decide) rfl)) un))
   refine JLq (.pointer (some ⟨b16, o16 + j * 1, none⟩)) (Pu.idx j Tryz.runUnderlying92 ty3 hv16 rfl rfl (by first | assumption | omega | decide | simp)) <| Za ?_
   exact ⟨.pointer (some ⟨b16, o16 + j * 1, none⟩), [], rfl, (Sub.emp Sub.refl), rfl⟩
  ·intro ρ r14 N14 B hB hBa hp hr hr0
   obtain ⟨ρ24, rfl⟩ := Zc (uc (show ρ 22 = .pointer (some ⟨b16, o16 + j * 1, none⟩) from (hr 6 _ _ (by decide) rfl rfl rfl).trans (hp 6 (by decide) rfl)) un)
   refine JLr (Zf ty3 rfl (At.im hb16) (Yp ((show cs16 = [Value.int .i64 (m[j])] from hE16) ▸ hs16)) <| Za ?_)
   exact ⟨.int .i64 (m[j]), [], rfl, (Sub.emp Sub.refl), rfl⟩
  intro ρ r14 N14 hp hr hr0
  obtain ⟨ρ25, rfl⟩ := Zc (uc (show ρ 0 = v from hr0 0 (by kernel_rfl)) (uc (show ρ 1 = u from hr0 1 (by kernel_rfl)) (uc (show ρ 4 = .bool false from hr0 4 (by kernel_rfl)) (uc (show ρ 12 = .int .i64 ((l.length : Int)) from hr0 12 (by kernel_rfl)) (uc (show ρ 13 = .int .i64 ((j : Int)) from hr0 13 (by kernel_rfl)) (uc (show ρ 19 = .int .i64 (l[j]) from (hr 3 _ _ (by decide) rfl rfl).trans (hp 3 (by decide))) (uc (show ρ 23 = .int .i64 (m[j]) from (hr 7 _ _ (by decide) rfl rfl).trans (hp 7 (by decide))) un)))))))
  clear hp hr hr0 
  refine Zq (M' := [(N14 0), (N14 1), (N14 2), (N14 3), (N14 4), (N14 5), (N14 6), (N14 7)]) Sub.refl <| Zq (M' := []) Sub.nil ?_
  show JL _ _ _ [_] _ _ _
  refine JLq (.bool (!decide (l[j] = m[j]))) (Pu.neq rfl rfl) <| Za <| Zi (b := !decide (l[j] = m[j])) rfl (fun h26 => ?_) (fun h26 => ?_)
  ·replace h26 := nt h26
   replace h26 := df h26
   refine Zd <| Zb <| JLa (.bool false) <| Za <| Zl <| ⟨.bool false, [], Ret.one rfl (RV.tmp rfl), Sub.nil, ?_⟩
   exact ⟨by rw [eqL_false (fun e => by subst e; exact h26 rfl)], rfl⟩
  replace h26 := nf h26
  replace h26 := dt h26
  refine Zp <| Zb <| JLq (.int .i64 (((j + 1 : Nat) : Int))) (Pu.inc rfl rfl (by omega)) <| JLm (.int .i64 (((j + 1 : Nat) : Int))) <| Za <| ⟨_, ?_, (j + 1), rfl, rfl, rfl, rfl, rfl, Sub.nil, ?_, ?_, rfl⟩
  ·omega
  ·omega
  rw [List.take_succ_eq_append_getElem h13n, List.take_succ_eq_append_getElem hjm, hinv, h26]
 replace h13 := df h13
 have h13n : l.length ≤ j := by omega
 refine ZM _ rfl <| Zd <| Zb <| JLa (.bool true) <| Za <| Zl <| ⟨.bool true, [], Ret.one rfl (RV.tmp rfl), Sub.nil, ?_⟩
 exact ⟨by rw [eqL_true (by rw [← List.take_of_length_le h13n, hinv, List.take_of_length_le (by omega)])], rfl⟩
theorem equalS_ct (l m : List ByteArray) (v u : Value) (H : Heap) (hl : rdS RS 1 H v l) (hm : rdS RS 1 H u m) : CT Tryz.prog 22 ⟨[v, u]⟩ [] H (fun v N => v = .bool (eqL l m) ∧ N = []) := by
 refine Zo Tryz.func22 rfl rfl <| Zd <| Zb <| JLa (.bool false) <| Za <| Zd <| Zd <| Zb <| JLm v ?_
 obtain ⟨a1, cap1, hv1⟩ := hl.sl
 have hle1 := hl.le
 refine JLq (.int .i64 ((l.length : Int))) (Pu.lenSl Tryz.runUnderlying28 hv1) <| JLm u ?_
 obtain ⟨a2, cap2, hv2⟩ := hm.sl
 have hle2 := hm.le
 refine JLq (.int .i64 ((m.length : Int))) (Pu.lenSl Tryz.runUnderlying28 hv2) <| JLq (.bool (!decide ((l.length : Int) = (m.length : Int)))) (Pu.neq rfl rfl) <| Za <| Zi (b := !decide ((l.length : Int) = (m.length : Int))) rfl (fun h3 => ?_) (fun h3 => ?_)
 ·replace h3 := nt h3
  replace h3 := df h3
  refine Zd <| Zb <| JLa (.bool false) <| Za <| Zl <| ⟨.bool false, [], Ret.one rfl (RV.tmp rfl), Sub.nil, ?_⟩
  exact ⟨by rw [eqL_false (fun e => by subst e; exact absurd rfl h3)], rfl⟩
 replace h3 := nf h3
 replace h3 := dt h3
 refine Zp <| Zd <| Zd <| Zb <| JLm v ?_
 obtain ⟨a4, cap4, hv4⟩ := hl.sl
 have hle4 := hl.le
 refine JLq (.int .i64 ((l.length : Int))) (Pu.lenSl Tryz.runUnderlying28 hv4) <| JLm (.int .i64 0) <| Za <| Zs <| ZU (fun k ρ M => ∃ (j : Nat), ρ 0 = v ∧ ρ 1 = u ∧ ρ 4 = .bool false ∧ ρ 12 = .int .i64 ((l.length : Int)) ∧ ρ 13 = .int .i64 ((j : Int)) ∧ Sub [] M ∧ j ≤ l.length ∧ l.take j = m.take j ∧ k = l.length - j) _ ⟨0, rfl, rfl, rfl, rfl, rfl, Sub.nil, Nat.zero_le _, rfl, rfl⟩ ?_
 rintro _ ρ5 _ ⟨j, e6, e7, e8, e9, e10, hm11, hj, hinv, rfl⟩
 obtain ⟨ρ12, rfl⟩ := Zc (uc e6 (uc e7 (uc e8 (uc e9 (uc e10 un)))))
 clear e6 e7 e8 e9 e10
 refine Z1 hm11 <| Zd <| Zb <| JLq (.bool (decide ((j : Int) < (l.length : Int)))) (Pu.lss rfl rfl) <| Za <| Zd <| Zi (b := decide ((j : Int) < (l.length : Int))) rfl (fun h13 => ?_) (fun h13 => ?_)
 ·replace h13 := dt h13
  have h13n : j < l.length := by omega
  have hlenl := hl.le
  have hjm : j < m.length := by omega
  refine Zp <| Zd <| Zs <| Zd <| Zb <| JLm (.int .i64 ((j : Int))) <| JLa (.int .i64 ((j : Int))) <| Za <| Zd ?_
  obtain ⟨b15, o15, cap15, row15, T15, fr15, cs15, hv15, hb15, hs15, hE15⟩ := hl.get j (by first | assumption | omega | decide | simp)
  obtain ⟨b16, o16, cap16, row16, T16, fr16, cs16, hv16, hb16, hs16, hE16⟩ := hm.get j (by first | assumption | omega | decide | simp)
  refine Ya mixed #[0, 0, 3, 7, 0, 0, 48, 112, 255] 8 8 0 rfl (by kernel_rfl) (fun i r14 N14 => match i with | 0 => (r14 0) = v | 1 => (r14 1) = .int .i64 ((j : Int)) | 2 => (r14 2) = .pointer (some ⟨b15, o15 + j * 1, none⟩) | 3 => (r14 3) = .string (l[j]) | 4 => (r14 4) = u | 5 => (r14 5) = .int .i64 ((j : Int)) | 6 => (r14 6) = .pointer (some ⟨b16, o16 + j * 1, none⟩) | 7 => (r14 7) = .string (m[j]) | _ => True) ⟨?_, ?_, ?_, ?_, ?_, ?_, ?_, ?_, trivial⟩ ?_
  ·intro ρ r14 N14 B hB hBa hp hr hr0
   obtain ⟨ρ17, rfl⟩ := Zc (uc (show ρ 0 = v from hr0 0 (by kernel_rfl)) un)
   refine JLm v <| Za ?_
   exact ⟨v, [], rfl, (Sub.emp Sub.refl), rfl⟩
  ·intro ρ r14 N14 B hB hBa hp hr hr0
   obtain ⟨ρ18, rfl⟩ := Zc (uc (show ρ 5 = .int .i64 ((j : Int)) from hr0 5 (by kernel_rfl)) un)
   refine JLm (.int .i64 ((j : Int))) <| Za ?_
   exact ⟨.int .i64 ((j : Int)), [], rfl, (Sub.emp Sub.refl), rfl⟩
  ·intro ρ r14 N14 B hB hBa hp hr hr0
   obtain ⟨ρ19, rfl⟩ := Zc (uc (show ρ 16 = v from (hr 0 _ _ (by decide) rfl rfl rfl).trans (hp 0 (by decide) rfl)) (uc (show ρ 17 = .int .i64 ((j : Int)) from (hr 1 _ _ (by decide) rfl rfl rfl).trans (hp 1 (by decide) rfl)) un))
   refine JLq (.pointer (some ⟨b15, o15 + j * 1, none⟩)) (Pu.idx j Tryz.runUnderlying28 ty9 hv15 rfl rfl (by first | assumption | omega | decide | simp)) <| Za ?_
   exact ⟨.pointer (some ⟨b15, o15 + j * 1, none⟩), [], rfl, (Sub.emp Sub.refl), rfl⟩
  ·intro ρ r14 N14 B hB hBa hp hr hr0
   obtain ⟨ρ20, rfl⟩ := Zc (uc (show ρ 18 = .pointer (some ⟨b15, o15 + j * 1, none⟩) from (hr 2 _ _ (by decide) rfl rfl rfl).trans (hp 2 (by decide) rfl)) un)
   refine JLr (Zf ty9 rfl (At.im hb15) (Yp ((show cs15 = [Value.string (l[j])] from hE15) ▸ hs15)) <| Za ?_)
   exact ⟨.string (l[j]), [], rfl, (Sub.emp Sub.refl), rfl⟩
  ·intro ρ r14 N14 B hB hBa hp hr hr0
   obtain ⟨ρ21, rfl⟩ := Zc (uc (show ρ 1 = u from hr0 1 (by kernel_rfl)) un)
   refine JLm u <| Za ?_
   exact ⟨u, [], rfl, (Sub.emp Sub.refl), rfl⟩
  ·intro ρ r14 N14 B hB hBa hp hr hr0
   obtain ⟨ρ22, rfl⟩ := Zc (uc (show ρ 5 = .int .i64 ((j : Int)) from hr0 5 (by kernel_rfl)) un)
   refine JLm (.int .i64 ((j : Int))) <| Za ?_
   exact ⟨.int .i64 ((j : Int)), [], rfl, (Sub.emp Sub.refl), rfl⟩
  ·intro ρ r14 N14 B hB hBa hp hr hr0
   obtain ⟨ρ23, rfl⟩ := Zc (uc (show ρ 20 = u from (hr 4 _ _ (by decide) rfl rfl rfl).trans (hp 4 (by decide) rfl)) (uc (show ρ 21 = .int .i64 ((j : Int)) from (hr 5 _ _ (by decide) rfl rfl rfl).trans (hp 5 (by decide) rfl)) un))
   refine JLq (.pointer (some ⟨b16, o16 + j * 1, none⟩)) (Pu.idx j Tryz.runUnderlying28 ty9 hv16 rfl rfl (by first | assumption | omega | decide | simp)) <| Za ?_
   exact ⟨.pointer (some ⟨b16, o16 + j * 1, none⟩), [], rfl, (Sub.emp Sub.refl), rfl⟩
  ·intro ρ r14 N14 B hB hBa hp hr hr0
   obtain ⟨ρ24, rfl⟩ := Zc (uc (show ρ 22 = .pointer (some ⟨b16, o16 + j * 1, none⟩) from (hr 6 _ _ (by decide) rfl rfl rfl).trans (hp 6 (by decide) rfl)) un)
   refine JLr (Zf ty9 rfl (At.im hb16) (Yp ((show cs16 = [Value.string (m[j])] from hE16) ▸ hs16)) <| Za ?_)
   exact ⟨.string (m[j]), [], rfl, (Sub.emp Sub.refl), rfl⟩
  intro ρ r14 N14 hp hr hr0
  obtain ⟨ρ25, rfl⟩ := Zc (uc (show ρ 0 = v from hr0 0 (by kernel_rfl)) (uc (show ρ 1 = u from hr0 1 (by kernel_rfl)) (uc (show ρ 4 = .bool false from hr0 4 (by kernel_rfl)) (uc (show ρ 12 = .int .i64 ((l.length : Int)) from hr0 12 (by kernel_rfl)) (uc (show ρ 13 = .int .i64 ((j : Int)) from hr0 13 (by kernel_rfl)) (uc (show ρ 19 = .string (l[j]) from (hr 3 _ _ (by decide) rfl rfl).trans (hp 3 (by decide))) (uc (show ρ 23 = .string (m[j]) from (hr 7 _ _ (by decide) rfl rfl).trans (hp 7 (by decide))) un)))))))
  clear hp hr hr0 
  refine Zq (M' := [(N14 0), (N14 1), (N14 2), (N14 3), (N14 4), (N14 5), (N14 6), (N14 7)]) Sub.refl <| Zq (M' := []) Sub.nil ?_
  show JL _ _ _ [_] _ _ _
  refine JLq (.bool (!decide (l[j] = m[j]))) (Pu.neqS rfl rfl) <| Za <| Zi (b := !decide (l[j] = m[j])) rfl (fun h26 => ?_) (fun h26 => ?_)
  ·replace h26 := nt h26
   replace h26 := df h26
   refine Zd <| Zb <| JLa (.bool false) <| Za <| Zl <| ⟨.bool false, [], Ret.one rfl (RV.tmp rfl), Sub.nil, ?_⟩
   exact ⟨by rw [eqL_false (fun e => by subst e; exact h26 rfl)], rfl⟩
  replace h26 := nf h26
  replace h26 := dt h26
  refine Zp <| Zb <| JLq (.int .i64 (((j + 1 : Nat) : Int))) (Pu.inc rfl rfl (by omega)) <| JLm (.int .i64 (((j + 1 : Nat) : Int))) <| Za <| ⟨_, ?_, (j + 1), rfl, rfl, rfl, rfl, rfl, Sub.nil, ?_, ?_, rfl⟩
  ·omega
  ·omega
  rw [List.take_succ_eq_append_getElem h13n, List.take_succ_eq_append_getElem hjm, hinv, h26]
 replace h13 := df h13
 have h13n : l.length ≤ j := by omega
 refine ZM _ rfl <| Zd <| Zb <| JLa (.bool true) <| Za <| Zl <| ⟨.bool true, [], Ret.one rfl (RV.tmp rfl), Sub.nil, ?_⟩
 exact ⟨by rw [eqL_true (by rw [← List.take_of_length_le h13n, hinv, List.take_of_length_le (by omega)])], rfl⟩
theorem idxS_ct (l : List ByteArray) (x : ByteArray) (v : Value) (H : Heap) (hl : rdS RS 1 H v l) : CT Tryz.prog 107 ⟨[v, .string x]⟩ [] H (fun v N => v = .int .i64 (YL x l 0) ∧ N = []) := by
 refine Zo Tryz.func107 rfl rfl <| Zd <| Zb <| JLa (.int .i64 0) <| Za <| Zd <| Zd <| Zb <| JLm v ?_
 obtain ⟨a1, cap1, hv1⟩ := hl.sl
 have hle1 := hl.le
 refine JLq (.int .i64 ((l.length : Int))) (Pu.lenSl Tryz.runUnderlying28 hv1) <| JLm (.int .i64 0) <| Za <| Zs <| ZU (fun k ρ M => ∃ (j : Nat), ρ 0 = v ∧ ρ 1 = .string x ∧ ρ 4 = .int .i64 0 ∧ ρ 7 = .int .i64 ((l.length : Int)) ∧ ρ 8 = .int .i64 ((j : Int)) ∧ Sub [] M ∧ j ≤ l.length ∧ YL x (l.drop j) j = YL x l 0 ∧ k = l.length - j) _ ⟨0, rfl, rfl, rfl, rfl, rfl, Sub.nil, Nat.zero_le _, rfl, rfl⟩ ?_
 rintro _ ρ2 _ ⟨j, e3, e4, e5, e6, e7, hm8, hj, hinv, rfl⟩
 obtain ⟨ρ9, rfl⟩ := Zc (uc e3 (uc e4 (uc e5 (uc e6 (uc e7 un)))))
 clear e3 e4 e5 e6 e7
 refine Z1 hm8 <| Zd <| Zb <| JLq (.bool (decide ((j : Int) < (l.length : Int)))) (Pu.lss rfl rfl) <| Za <| Zd <| Zi (b := decide ((j : Int) < (l.length : Int))) rfl (fun h10 => ?_) (fun h10 => ?_)
 ·replace h10 := dt h10
  have h10n : j < l.length := by omega
  have hlenl := hl.le
  refine Zp <| Zd <| Zs <| Zd <| Zb <| JLm (.int .i64 ((j : Int))) <| JLa (.int .i64 ((j : Int))) <| Za <| Zd <| Zb <| JLm (.string x) <| JLm v <| JLm (.int .i64 ((j : Int))) ?_
  obtain ⟨b11, o11, cap11, row11, T11, fr11, cs11, hv11, hb11, hs11, hE11⟩ := hl.get j (by first | assumption | omega | decide | simp)
  refine JLq (.pointer (some ⟨b11, o11 + j * 1, none⟩)) (Pu.idx j Tryz.runUnderlying28 ty9 hv11 rfl rfl (by first | assumption | omega | decide | simp)) <| JLr (Zf ty9 rfl (At.im hb11) (Yp ((show cs11 = [Value.string (l[j])] from hE11) ▸ hs11)) <| JLq (.bool (decide (x = l[j]))) (Pu.eqlS rfl rfl) <| Za <| Zi (b := decide (x = l[j])) rfl (fun h12 => ?_) (fun h12 => ?_))
  ·replace h12 := dt h12
   refine Zd <| Zb <| JLm (.int .i64 ((j : Int))) <| JLa (.int .i64 ((j : Int))) <| Za <| Zl <| ⟨.int .i64 ((j : Int)), [], Ret.one rfl (RV.tmp rfl), Sub.nil, ?_⟩
   exact ⟨by rw [← hinv, Yt h10n, YL, if_pos h12], rfl⟩
  replace h12 := df h12
  refine Zp <| Zb <| JLq (.int .i64 (((j + 1 : Nat) : Int))) (Pu.inc rfl rfl (by omega)) <| JLm (.int .i64 (((j + 1 : Nat) : Int))) <| Za <| ⟨_, ?_, (j + 1), rfl, rfl, rfl, rfl, rfl, Sub.nil, ?_, ?_, rfl⟩
  ·omega
  ·omega
  rw [Yt h10n, YL, if_neg h12] at hinv; exact hinv
 replace h10 := df h10
 have h10n : l.length ≤ j := by omega
 refine ZM _ rfl <| Zd <| Zb <| JLa (.int .i64 (-1)) <| Za <| Zl <| ⟨.int .i64 (-1), [], Ret.one rfl (RV.tmp rfl), Sub.nil, ?_⟩
 exact ⟨by rw [← hinv, Xl h10n]; rfl, rfl⟩
theorem Xm (l : List ByteArray) (x : ByteArray) (v : Value) (H : Heap) (hl : rdS RS 1 H v l) : CT Tryz.prog 62 ⟨[v, .string x]⟩ [] H (fun v N => v = .bool (l.any (fun y => decide (x = y))) ∧ N = []) := by
 refine Zo Tryz.func62 rfl rfl <| Zd <| Zb <| JLa (.bool false) <| Za <| Zd <| Zb <| JLm v <| JLm (.string x) <| Zg rfl Tryz.call107 rfl (fun hin => idxS_ct _ _ _ _ (RSs.mono (Hle.hu _ _) hl)) rfl ?_
 rintro _ _ ⟨rfl, rfl⟩
 refine JLq (.bool (decide (0 ≤ YL x l 0))) (Pu.geq rfl rfl) <| JLa (.bool (decide (0 ≤ YL x l 0))) <| Za <| Zl <| ⟨.bool (decide (0 ≤ YL x l 0)), [], Ret.one rfl (RV.tmp rfl), Sub.nil, ?_⟩
 exact ⟨by rw [← fstS_mem x l 0], rfl⟩
theorem number_ct (i : Nat) (H : Heap) (hi : i < 26) : CT Tryz.prog 163 ⟨[.string (ltr i)]⟩ [] H (fun v N => v = .int .i64 (i : Int) ∧ N = []) := by
 refine Zo Tryz.func163 rfl rfl <| Zd <| Zb <| JLa (.int .i64 0) <| Za <| Zd <| Zb <| JLa (.int .i64 (-1)) <| Za <| Zd <| Zd <| Zb <| JLm (.string (ltr i)) ?_
 refine JLr (Runs_rangeS Tryz.underlying9 rfl fun r1 => Za <| Zs <| YF 2 <| Z8 <| Zd <| Zb <| JLr (Runs_nextL (i := 0) rfl rfl hi <| JLq (.bool true) (Pu.extract rfl rfl) <| Za <| Zd <| Zi (b := true) rfl (fun _ => ?_) (fun h => absurd h (by simp))))
 refine Zp <| Zs <| Zd <| Zb <| JLq (.int .i32 (97 + (i : Int))) (Pu.extract rfl rfl) <| JLa (.int .i32 (97 + (i : Int))) <| Za <| Zd <| Yo (fun ρ M => ρ 2 = .int .i64 0 ∧ ρ 3 = .int .i64 (-1) ∧ ρ 5 = .int .i32 (97 + (i : Int)) ∧ ρ 7 = .pointer (some ⟨r1, 0, none⟩) ∧ ρ 20 = .bool (((decide (97 + (i : Int) < 97)) || (decide (122 < 97 + (i : Int)))) && true) ∧ M = [itC r1 (ltr i) 1]) ?_ ?_
 ·refine Zb <| JLm (.int .i32 (97 + (i : Int))) <| JLq (.bool (decide (97 + (i : Int) < 97))) (Pu.lss rfl rfl) <| JLm (.bool (decide (97 + (i : Int) < 97))) ?_
  cases h2 : (decide (97 + (i : Int) < 97)) with
  | true =>
   replace h2 := dt h2
   iterate 2 refine Zy rfl ?_
   refine JLq (.bool true) (Pu.pickT rfl rfl) <| JLm (.bool true) ?_
   iterate 2 refine Zy rfl ?_
   refine JLq (.bool true) (Pu.pickT rfl rfl) <| Za ?_
   first | exact ⟨rfl, rfl, rfl, rfl, rfl, rfl⟩ | (exfalso; omega)
  | false =>
   replace h2 := df h2
   refine JLm (.int .i32 (97 + (i : Int))) <| JLq (.bool (decide (122 < 97 + (i : Int)))) (Pu.gtr rfl rfl) <| JLq (.bool (decide (122 < 97 + (i : Int)))) (Pu.pickF rfl rfl) <| JLm (.bool (decide (122 < 97 + (i : Int)))) ?_
   cases h3 : (decide (122 < 97 + (i : Int))) with
   | true =>
    replace h3 := dt h3
    iterate 2 refine Zy rfl ?_
    refine JLq (.bool true) (Pu.pickT rfl rfl) <| Za ?_
    first | exact ⟨rfl, rfl, rfl, rfl, rfl, rfl⟩ | (exfalso; omega)
   | false =>
    replace h3 := df h3
    refine JLm (.int .i64 (-1)) <| JLq (.bool false) (show Pu _ _ _ (.bool (decide ((1073741824 : Int) < -1))) from Pu.gtr rfl rfl) <| JLq (.bool false) (Pu.pickF rfl rfl) <| Za ?_
    first | exact ⟨rfl, rfl, rfl, rfl, rfl, rfl⟩ | (exfalso; omega)
 rintro ρ4 _ ⟨e5, e6, e7, e8, e9, rfl⟩
 obtain ⟨ρ10, rfl⟩ := Zc (uc e5 (uc e6 (uc e7 (uc e8 (uc e9 un)))))
 clear e5 e6 e7 e8 e9
 refine Zi (b := ((decide (97 + (i : Int) < 97)) || (decide (122 < 97 + (i : Int)))) && true) rfl (fun h11 => ?_) (fun h11 => ?_)
 ·obtain ⟨h11a, h11b⟩ := andT h11
  exfalso; simp at h11; omega
 refine Zp <| Zb <| JLm (.int .i64 (-1)) <| JLq (.int .i64 0) (Pu.arith rfl rfl rfl) <| JLq (.int .i64 0) (Pu.arithM rfl rfl rfl) <| JLm (.int .i32 (97 + (i : Int))) <| JLq (.int .i32 ((i : Int))) (Pu.arithS rfl rfl ((w32 (by omega)).trans (by omega))) <| JLq (.int .i64 ((i : Int))) (Pu.conv Tryz.runUnderlying21 Tryz.runUnderlying3 rfl (w64 (by omega))) <| JLq (.int .i64 (0 + ((i : Int)))) (Pu.add64 rfl rfl (by first | omega | (constructor <;> omega))) <| JLa (.int .i64 (0 + ((i : Int)))) <| Za <| Z8 <| Zd ?_
 refine Zb <| JLr (Runs_nextE (i := 0) rfl rfl (by rw [ltr_size]; decide) <| JLq (.bool false) (Pu.extract rfl rfl) <| Za <| Zd <| Zi (b := false) rfl (fun h => absurd h (by simp)) (fun _ => ZM _ rfl <| Zd <| Zb <| JLm (.int .i64 (0 + ((i : Int)))) <| JLa (.int .i64 (0 + ((i : Int)))) <| Za <| Zl ?_))
 refine ⟨.int .i64 (0 + ((i : Int))), [], Ret.one rfl (RV.tmp rfl), Sub.nil, ?_⟩
 exact ⟨congrArg (Value.int .i64) (by omega), rfl⟩
theorem name_ct (i : Nat) (H : Heap) (hi : i < 26) : CT Tryz.prog 142 ⟨[.int .i64 ((i : Int))]⟩ [] H (fun v N => v = .string (ltr i) ∧ N = []) := by
 refine Zo Tryz.func142 rfl rfl <| Zd <| Zb <| JLa (.string (⟨#[]⟩)) <| Za <| Zd <| Zd <| Zb <| JLm (.int .i64 ((i : Int))) <| JLq (.bool (decide ((i : Int) < 26))) (Pu.lss rfl rfl) <| Za <| Zi (b := decide ((i : Int) < 26)) rfl (fun h1 => ?_) (fun h1 => ?_)
 ·replace h1 := dt h1
  have h1n : i < 26 := by omega
  refine Zd <| Zb <| JLm (.int .i64 ((i : Int))) <| JLq (.int .i64 (97 + ((i : Int)))) (Pu.add64 rfl rfl (by first | omega | (constructor <;> omega))) <| JLq (.int .i32 (97 + ((i : Int)))) (Pu.conv Tryz.runUnderlying3 Tryz.runUnderlying21 rfl (w32 (by omega))) <| JLq (.string (ltr i)) (Pu.convS Tryz.runUnderlying21 Tryz.runUnderlying9 rfl (ltr_enc' i hi)) <| JLa (.string (ltr i)) <| Za <| Zl <| ⟨.string (ltr i), [], Ret.one rfl (RV.tmp rfl), Sub.nil, ?_⟩
  exact ⟨rfl, rfl⟩
 replace h1 := df h1
 have h1n : 26 ≤ i := by omega
 exfalso; omega
theorem mark_ct (i n : Nat) (l : List Bool) (bF : Nat) (H : Heap) (hi : i < 26) (hl : l.length = n) : CT Tryz.prog 140 ⟨[.slice (some ⟨bF, 0, none⟩) n n, .string (ltr i)]⟩ [[(bF, .cells ⟨bls l⟩ 4 (0, 0))]] H (fun v N => v = .tuple ⟨[]⟩ ∧ N = [[(bF, .cells ⟨bls (markL i l)⟩ 4 (0, 0))]]) := by
 refine Zo Tryz.func140 rfl rfl <| Zd <| Zb <| JLm (.string (ltr i)) <| Zg rfl Tryz.call163 rfl (fun hin => number_ct i _ hi) rfl ?_
 rintro _ _ ⟨rfl, rfl⟩
 refine JLa (.int .i64 ((i : Int))) <| Za <| Zd <| Zb <| JLm (.int .i64 ((i : Int))) <| JLq (.bool (decide (0 ≤ (i : Int)))) (Pu.geq rfl rfl) <| JLm (.bool (decide (0 ≤ (i : Int)))) ?_
 cases h1 : (decide (0 ≤ (i : Int))) with
 | true =>
  replace h1 := dt h1
  refine JLm (.int .i64 ((i : Int))) <| JLm (.slice (some ⟨bF, 0, none⟩) n n) <| JLq (.int .i64 ((n : Int))) (Pu.lenSl Tryz.runUnderlying181 rfl) <| JLq (.bool (decide ((i : Int) < (n : Int)))) (Pu.lss rfl rfl) <| JLq (.bool (decide ((i : Int) < (n : Int)))) (Pu.pickT rfl rfl) <| Za <| Zi (b := decide ((i : Int) < (n : Int))) rfl (fun h2 => ?_) (fun h2 => ?_)
  ·replace h2 := dt h2
   have h2n : i < n := by omega
   refine Zb <| JLm (.slice (some ⟨bF, 0, none⟩) n n) <| JLm (.int .i64 ((i : Int))) <| JLq (.pointer (some ⟨bF, 0 + i * 1, none⟩)) (Pu.idx i Tryz.runUnderlying181 ty4 rfl rfl (by omega) (by omega)) <| JLr (Ze 0 (vs := [.bool true]) (l := bls (l.set i true)) ty4 rfl rfl rfl rfl rfl (Zm rfl Zv) (bls_set1 (by have hbl : List.length l = n := hl; omega)) <| Za <| ⟨.tuple ⟨[]⟩, [[(bF, .cells ⟨bls (l.set i true)⟩ 4 (0, 0))]], Ret.none rfl, (Sk Sub.nil), ?_⟩)
   exact ⟨rfl, by rw [markL, if_pos (by omega)]⟩
  replace h2 := df h2
  have h2n : n ≤ i := by omega
  refine Zp <| ⟨.tuple ⟨[]⟩, [[(bF, .cells ⟨bls l⟩ 4 (0, 0))]], Ret.none rfl, (Sk Sub.nil), ?_⟩
  exact ⟨rfl, by rw [markL, if_neg (by omega)] <;> rfl⟩
 | false =>
  replace h1 := df h1
  iterate 4 refine Zy rfl ?_
  refine JLq (.bool false) (Pu.pickF rfl rfl) <| Za <| Zi (b := false) rfl (fun h => absurd h (by simp)) (fun _ => Zp <| ⟨.tuple ⟨[]⟩, [[(bF, .cells ⟨bls l⟩ 4 (0, 0))]], Ret.none rfl, (Sk Sub.nil), ?_⟩)
  exact ⟨rfl, by rw [markL, if_neg (by omega)] <;> rfl⟩
theorem idxB_ct (x : Bool) (l : List Bool) (bF n : Nat) (H : Heap) (hl : l.length = n) (hn : n ≤ 1000000) (hB : H bF = some (.cells ⟨bls l⟩ 4 (0, 0))) : CT Tryz.prog 141 ⟨[.slice (some ⟨bF, 0, none⟩) n n, .bool x]⟩ [] H (fun v N => v = .int .i64 (fstB x l 0) ∧ N = []) := by
 refine Zo Tryz.func141 rfl rfl <| Zd <| Zb <| JLa (.int .i64 0) <| Za <| Zd <| Zd <| Zb <| JLm (.slice (some ⟨bF, 0, none⟩) n n) <| JLq (.int .i64 ((n : Int))) (Pu.lenSl Tryz.runUnderlying181 rfl) <| JLm (.int .i64 0) <| Za <| Zs ?_
 refine ZU (fun k ρ M => ∃ (j : Nat), ρ 0 = .slice (some ⟨bF, 0, none⟩) n n ∧ ρ 1 = .bool x ∧ ρ 4 = .int .i64 0 ∧ ρ 7 = .int .i64 ((n : Int)) ∧ ρ 8 = .int .i64 ((j : Int)) ∧ Sub [] M ∧ j ≤ l.length ∧ fstB x (l.drop j) j = fstB x l 0 ∧ k = l.length - j) _ ⟨0, rfl, rfl, rfl, rfl, rfl, Sub.nil, Nat.zero_le _, rfl, rfl⟩ ?_
 rintro _ ρ1 _ ⟨j, e2, e3, e4, e5, e6, hm7, hj, hinv, rfl⟩
 obtain ⟨ρ8, rfl⟩ := Zc (uc e2 (uc e3 (uc e4 (uc e5 (uc e6 un)))))
 clear e2 e3 e4 e5 e6
 refine Z1 hm7 <| Zd <| Zb <| JLq (.bool (decide ((j : Int) < (n : Int)))) (Pu.lss rfl rfl) <| Za <| Zd <| Zi (b := decide ((j : Int) < (n : Int))) rfl (fun h9 => ?_) (fun h9 => ?_)
 ·replace h9 := dt h9
  have h9n : j < n := by omega
  refine Zp <| Zd <| Zs <| Zd <| Zb <| JLm (.int .i64 ((j : Int))) <| JLa (.int .i64 ((j : Int))) <| Za <| Zd <| Zb <| JLm (.bool x) <| JLm (.slice (some ⟨bF, 0, none⟩) n n) <| JLm (.int .i64 ((j : Int))) ?_
  refine JLq (.pointer (some ⟨bF, 0 + j * 1, none⟩)) (Pu.idx j Tryz.runUnderlying181 ty4 rfl rfl (by omega) (by omega)) <| JLr (Zf ty4 rfl (At.im hB) (bls_get1 (by omega)) <| JLq (.bool (x == (l.getD j false))) (Pu.eqlB Tryz.runUnderlying4 rfl rfl) <| Za <| Zi (b := x == (l.getD j false)) rfl (fun h10 => ?_) (fun h10 => ?_))
  ·refine Zd <| Zb <| JLm (.int .i64 ((j : Int))) <| JLa (.int .i64 ((j : Int))) <| Za <| Zl <| ⟨.int .i64 ((j : Int)), [], Ret.one rfl (RV.tmp rfl), Sub.nil, ?_⟩
   exact ⟨by rw [← hinv, Yt (by omega : j < l.length), fstB, if_pos (by simpa [(by omega : j < l.length)] using h10)], rfl⟩
  refine Zp <| Zb <| JLq (.int .i64 (((j + 1 : Nat) : Int))) (Pu.inc rfl rfl (by omega)) <| JLm (.int .i64 (((j + 1 : Nat) : Int))) <| Za <| ⟨_, ?_, (j + 1), rfl, rfl, rfl, rfl, rfl, Sub.nil, ?_, ?_, rfl⟩
  ·omega
  ·omega
  rw [Yt (by omega : j < l.length), fstB, if_neg (by simpa [(by omega : j < l.length)] using h10)] at hinv; exact hinv
 replace h9 := df h9
 have h9n : n ≤ j := by omega
 refine ZM _ rfl <| Zd <| Zb <| JLa (.int .i64 (-1)) <| Za <| Zl <| ⟨.int .i64 (-1), [], Ret.one rfl (RV.tmp rfl), Sub.nil, ?_⟩
 exact ⟨by rw [← hinv, Xl (by omega)]; rfl, rfl⟩
end Go.Proofs.YtmophpgiaiemhaaGreat.Hs
/-! Walks, printed by a program of this session's own (gen.py). -/
namespace Go.Proofs.YtmophpgiaiemhaaGreat.Hs
open Go Go.Proofs
set_option maxRecDepth 100000
set_option linter.unusedVariables false
set_option linter.unusedSimpArgs false
attribute [local irreducible] JL J CT wlo
theorem backward_ct (v : Value) (H : Heap) (hv : v.oneCell' = true) : CT Tryz.prog 145 ⟨[v]⟩ [] H (fun u N => ∃ b, u = .func (.func 164) ⟨[]⟩ ⟨[.pointer (some ⟨b, 0, none⟩)]⟩ ∧ N = [[(b, .cells ⟨[v]⟩ 28 (0, 0))]]) := by
 refine Zo Tryz.func145 rfl rfl <| Zd <| Zb <| JLr (Zt (l := [v]) rfl (ZO hv) fun b1 => JLa .nilFunc <| Za <| Zd <| Zb <| JLq (.func (.func 164) ⟨[]⟩ ⟨[.pointer (some ⟨b1, 0, none⟩)]⟩) (Pu.makeFunc rfl rfl) <| JLa (.func (.func 164) ⟨[]⟩ ⟨[.pointer (some ⟨b1, 0, none⟩)]⟩) <| Za <| Zl <| ⟨.func (.func 164) ⟨[]⟩ ⟨[.pointer (some ⟨b1, 0, none⟩)]⟩, [[(b1, .cells ⟨[v]⟩ 28 (0, 0))]], Ret.one rfl (RV.tmp rfl), (Sk Sub.nil), ?_⟩)
 exact ⟨_, rfl, rfl⟩
theorem backward1_ct (L : List ByteArray) (v : Value) (H : Heap) (bK : Nat) (hl : rdS RS 1 H v L) (hK : H bK = some (.cells ⟨[v]⟩ 28 (0, 0))) (l : Nat) {σ : Type} (yc : σ → Zk) (Inv : Nat → σ → Prop) (s0 : σ) (h0 : Inv L.length s0) (hy : ∀ (i : Nat) (hi : i < L.length) (s : σ) (h : Heap), Inv (i + 1) s → Hle H h → YT Tryz.prog l ⟨[.int .i64 (i : Int), .string L[i]]⟩ [yc s] h (fun v N => ∃ s2, v = .bool true ∧ N = [yc s2] ∧ Inv i s2)) : CT Tryz.prog 164 ⟨[.func (.yield l) ⟨[]⟩ ⟨[]⟩, .pointer (some ⟨bK, 0, none⟩)]⟩ [yc s0] H (fun _ N => ∃ s, N = [yc s] ∧ Inv 0 s) := by
 refine Zo Tryz.func164 rfl rfl <| Zd <| Zb <| JLr (Zf YG rfl (At.im hK) rfl ?_)
 obtain ⟨a1, cap1, hv1⟩ := hl.sl
 have hle1 := hl.le
 refine JLq (.int .i64 ((L.length : Int))) (Pu.lenSl Tryz.runUnderlying28 hv1) <| JLq (.int .i64 ((L.length : Int) - 1)) (Pu.sub64 rfl rfl (by first | omega | (constructor <;> omega))) <| JLa (.int .i64 ((L.length : Int) - 1)) <| Za <| Zs <| ZU (fun k ρ M => ∃ (e : Int) (s : σ), ρ 0 = .func (.yield l) ⟨[]⟩ ⟨[]⟩ ∧ ρ 1 = .pointer (some ⟨bK, 0, none⟩) ∧ ρ 3 = .int .i64 e ∧ Sub [yc s] M ∧ (-1 ≤ e ∧ e < (L.length : Int)) ∧ Inv (e + 1).toNat s ∧ k = (e + 1).toNat) _ ⟨((L.length : Int) - 1), s0, rfl, rfl, rfl, (Sk Sub.nil), ⟨by omega, by omega⟩, (by rw [show ((L.length : Int) - 1 + 1).toNat = L.length from by omega]; exact h0), rfl⟩ ?_
 rintro _ ρ2 _ ⟨e, s, e3, e4, e5, hm6, hb, hI, rfl⟩
 obtain ⟨ρ7, rfl⟩ := Zc (uc e3 (uc e4 (uc e5 un)))
 clear e3 e4 e5
 refine Z1 hm6 <| Zd <| Zd <| Zb <| JLm (.int .i64 e) <| JLq (.bool (decide (0 ≤ e))) (Pu.geq rfl rfl) <| Za <| Zi (b := decide (0 ≤ e)) rfl (fun h8 => ?_) (fun h8 => ?_)
 ·replace h8 := dt h8
  obtain ⟨j, rfl⟩ := Int.eq_ofNat_of_zero_le h8
  have hjl : j < L.length := by omega
  refine Zp <| Zd <| Zs <| Zd <| Zb <| JLm (.func (.yield l) ⟨[]⟩ ⟨[]⟩) <| JLm (.int .i64 ((j : Int))) <| JLr (Zf YG rfl (At.im hK) rfl <| JLm (.int .i64 ((j : Int))) ?_)
  obtain ⟨b9, o9, cap9, row9, T9, fr9, cs9, hv9, hb9, hs9, hE9⟩ := hl.get j (by first | assumption | omega | decide | simp)
  refine JLq (.pointer (some ⟨b9, o9 + j * 1, none⟩)) (Pu.idx j Tryz.runUnderlying28 ty9 hv9 rfl rfl (by first | assumption | omega | decide | simp)) <| JLr (Zf ty9 rfl (At.im hb9) (Yp ((show cs9 = [Value.string (L[j])] from hE9) ▸ hs9)) <| JL_yield1 0 rfl rfl rfl (fun hin => hy j hjl s _ (by simpa using hI) (Hle.hu _ _)) rfl ?_)
  rintro _ _ ⟨s5, rfl, rfl, hI5⟩
  refine JLq (.bool false) (show Pu _ _ _ (.bool (!true)) from Pu.not rfl) <| Za <| Zi (b := false) rfl (fun h => absurd h (by simp)) (fun _ => Zp <| Zb <| JLm (.int .i64 ((j : Int))) <| JLq (.int .i64 ((j : Int) - 1)) (Pu.sub64 rfl rfl (by first | omega | (constructor <;> omega))) <| JLa (.int .i64 ((j : Int) - 1)) <| Za <| ⟨_, ?_, ((j : Int) - 1), s5, rfl, rfl, rfl, (Sk Sub.nil), ?_, ?_, rfl⟩)
  ·omega
  ·constructor <;> omega
  rw [show ((j : Int) - 1 + 1).toNat = j from by omega]; exact hI5
 replace h8 := df h8
 refine ZM _ rfl <| ⟨.tuple ⟨[]⟩, [yc s], Ret.none rfl, (Sk Sub.nil), ?_⟩
 exact ⟨s, rfl, by rw [show (e + 1).toNat = 0 from by omega] at hI; exact hI⟩
theorem with_ct (l m : List ByteArray) (v u : Value) (H : Heap) (hl : rdS RS 1 H v l) (hm : rdS RS 1 H u m) (hb : l.length + m.length ≤ 1000000) : CT Tryz.prog 121 ⟨[v, u]⟩ [] H (fun w N => ∃ u k, w = u ∧ N = [k] ∧ Own 9 1 u (ZP (m.reverse ++ l)) k) := by
 refine Zo Tryz.func121 rfl rfl <| Zd <| Zb <| JLa (.slice none 0 0) <| Za <| Zd <| Zb <| JLr (Zr (vs := []) [] Tryz.runUnderlying111 el9 rfl rfl (by intro e he; cases he) rfl (by decide) fun b1 k1 ho1 hk1 => JLr (Zj (l := [.slice none 0 0]) Tryz.zeroValue111 rfl fun b2 => JLr (Ze 0 (vs := [.slice (some ⟨b1, 0, none⟩) 0 0]) (l := [.slice (some ⟨b1, 0, none⟩) 0 0]) ty111 rfl rfl rfl rfl rfl (Zm rfl Zv) rfl <| Za <| Zd <| Zd ?_)))
 refine Zb <| JLm u <| Zg rfl Tryz.call145 rfl (fun hin => backward_ct _ _ hm.one) rfl ?_
 rintro _ _ ⟨bK3, rfl, rfl⟩
 refine Za <| Zs <| Z1 (M' := [[(b2, .cells ⟨[.slice (some ⟨b1, 0, none⟩) 0 0]⟩ 111 (0, 0))], k1, [(bK3, .cells ⟨[u]⟩ 28 (0, 0))]]) (Sub.cons 1 rfl (Sub.cons 1 rfl (Sk Sub.nil))) <| J_range (L := [[(bK3, .cells ⟨[u]⟩ 28 (0, 0))]]) (fun s : Value × Zk => [[(b2, .cells ⟨[s.1]⟩ 111 (0, 0))], s.2]) (fun _ => false) (.slice (some ⟨b1, 0, none⟩) 0 0, k1) (fun s => Own 9 1 s.1 (ZP ((m.drop 0).reverse)) s.2) rfl rfl Tryz.call164 (List.Perm.of_eq (by simp)) ?_ ?_ ?_
 ·intro l yc hY hin
  refine CT.mono (backward1_ct m u _ bK3 (RSs.mono (Hle.hu _ _) hm) (hin 0 _ rfl _ _ List.mem_cons_self) l yc (fun i s => Own 9 1 s.1 (ZP ((m.drop i).reverse)) s.2) (.slice (some ⟨b1, 0, none⟩) 0 0, k1) (by rw [List.drop_length]; exact ho1) ?_) (fun v N hN => hN)
  intro i hi s h hI hh
  refine YT.mono (hY s [_, _] h (fun s => Own 9 1 s.1 (ZP ((m.drop i).reverse)) s.2) rfl rfl (RoundOk.mk ?_)) ?_
  ·show J _ _ _ _ [[(b2, .cells ⟨[s.1]⟩ 111 (0, 0))], s.2] _
   refine Zb <| JLa (.string (m[i])) <| Za <| Zs <| Zb <| JLr (Zf ty111 rfl (At.bx 0 rfl) rfl <| JLm (.string (m[i])) <| JLr (Zr (vs := [.string (m[i])]) [[.string (m[i])]] Tryz.runUnderlying111 el9 rfl rfl (by intro e he; simp only [List.mem_cons, List.not_mem_nil, or_false] at he; subst he; exact rfl) rfl (by decide) fun b4 k4 ho4 hk4 => ?_))
   have hlens5 : ∀ e ∈ ([[.string (m[i])]] : List (List Value)), List.length e = 1 := by
    intro e he; simp only [List.mem_cons, List.not_mem_nil, or_false] at he
    rcases he with rfl
    ·exact rfl
   have hoks5 : ∀ e ∈ ([[.string (m[i])]] : List (List Value)), okc e := by
    intro e he; simp only [List.mem_cons, List.not_mem_nil, or_false] at he
    rcases he with rfl
    ·exact (Zm rfl Zv)
   refine JLr (ZH (i := 2) (n := 1) (es' := [[.string (m[i])]]) Tryz.runUnderlying111 Tryz.runUnderlying111 (Or.inl rfl) el9 rfl rfl rfl hI (fun F w m => Src.row (((At.k 0 rfl (by rw [hk4]; exact List.mem_cons_self))).heap m) (Zx (ZG hlens5))) rfl hlens5 hoks5 (by decide) (by simp only [ZW, List.length_reverse, List.length_drop, List.length_append]; omega) fun v5 k5 ho5 => JLr (Ze 1 (vs := [v5]) (l := [v5]) ty111 rfl rfl rfl (ZO ho5.one) rfl (Zm ho5.one Zv) rfl <| Za ?_))
   exact ⟨(v5, k5), rfl, (Sd (Sk (Sk Sub.nil))), (by rw [List.drop_eq_getElem_cons hi, List.reverse_cons, strs_snoc]; exact ho5)⟩
  rintro v N ⟨s2, rfl, rfl, h2⟩; exact ⟨s2, rfl, rfl, h2⟩
 ·rintro s hI hp
  have hIF := hI
  rw [List.drop_zero] at hIF
  refine Zd <| Zb <| JLr (Zf ty111 rfl (At.bx 0 rfl) rfl <| JLm v <| JLr (ZH (i := 1) (n := l.length) (es' := ZP l) Tryz.runUnderlying111 Tryz.runUnderlying111 (Or.inl rfl) el9 rfl rfl rfl hIF (fun F w m => strs_src hl w _ m) (ZW _) (strs_len1 _) (strs_ok _) (by decide) (by simp only [ZW, List.length_reverse, List.length_drop, List.length_append]; omega) fun v6 k6 ho6 => ?_))
  rw [← strs_app] at ho6
  refine JLa v6 <| Za <| Zl <| ⟨v6, [k6], Ret.one rfl (RV.tmp rfl), (Sd (Sk Sub.nil)), ?_⟩
  exact ⟨_, _, rfl, rfl, ho6⟩
 intro s _ hp; cases hp
end Go.Proofs.YtmophpgiaiemhaaGreat.Hs
/-! Walks, printed by a program of this session's own (gen.py). -/
namespace Go.Proofs.YtmophpgiaiemhaaGreat.Hs
open Go Go.Proofs
set_option maxRecDepth 100000
set_option linter.unusedVariables false
set_option linter.unusedSimpArgs false
attribute [local irreducible] JL J CT wlo
theorem chosen1_ct (v : Value) (H : Heap) (hl : rdS RS 1 H v [ltr 0]) : CT Tryz.prog 110 ⟨[v, .int .i64 1]⟩ [] H (fun v N => ∃ u1 u2 k1 k2, v = .tuple ⟨[u1, u2]⟩ ∧ N = [k1, k2] ∧ Own 9 1 u1 (ZP [ltr 1, ltr 0]) k1 ∧ Own 9 1 u2 (ZP [ltr 1]) k2) := by
 refine Zo Tryz.func110 rfl rfl <| Zd <| Zb <| JLa (.slice none 0 0) <| JLa (.slice none 0 0) <| Za <| Zd <| Zb <| JLm v ?_
 obtain ⟨a1, cap1, hv1⟩ := hl.sl
 have hle1 := hl.le
 refine JLq (.int .i64 1) (Pu.lenSl Tryz.runUnderlying111 hv1) <| JLm (.int .i64 1) <| JLq (.int .i64 2) (Pu.arith rfl rfl rfl) <| JLr (Runs_make 2 Tryz.runUnderlying181 el4 rfl rfl rfl rfl (by decide) (by decide) fun b2 k2 _ hk2 => ?_)
 obtain rfl : k2 = [(b2, .cells ⟨bls (List.replicate 2 false)⟩ 4 (0, 0))] := hk2
 refine JLa (.slice (some ⟨b2, 0, none⟩) 2 2) <| Za <| Zd <| Zb <| JLm (.slice (some ⟨b2, 0, none⟩) 2 2) <| JLq (.func (.func 140) ⟨[.slice (some ⟨b2, 0, none⟩) 2 2]⟩ ⟨[]⟩) (Pu.makeFunc rfl rfl) <| JLa (.func (.func 140) ⟨[.slice (some ⟨b2, 0, none⟩) 2 2]⟩ ⟨[]⟩) <| Za <| Zd <| Zd <| Zb <| JLm v ?_
 obtain ⟨a3, cap3, hv3⟩ := hl.sl
 have hle3 := hl.le
 refine JLq (.int .i64 1) (Pu.lenSl Tryz.runUnderlying111 hv3) <| JLm (.int .i64 0) <| Za <| Zs <| YF 2 <| Z8 <| Zd <| Zb <| JLq (.bool true) (show Pu _ _ _ (.bool (decide ((0 : Int) < 1))) from Pu.lss rfl rfl) <| Za <| Zd <| Zi (b := true) rfl (fun _ => ?_) (fun h => absurd h (by simp))
 refine Zp <| Zd <| Zs <| Zd <| Zb ?_
 obtain ⟨b4, o4, cap4, row4, T4, fr4, cs4, hv4, hb4, hs4, hE4⟩ := hl.get 0 (by first | assumption | omega | decide | simp)
 refine JLq (.pointer (some ⟨b4, o4 + 0 * 1, none⟩)) (Pu.idx 0 Tryz.runUnderlying111 ty9 hv4 rfl rfl (by first | assumption | omega | decide | simp)) <| JLr (Zf ty9 rfl (At.im hb4) (Yp ((show cs4 = [Value.string (ltr 0)] from hE4) ▸ hs4)) <| JLa (.string (ltr 0)) <| Za <| Zb <| JLm (.func (.func 140) ⟨[.slice (some ⟨b2, 0, none⟩) 2 2]⟩ ⟨[]⟩) <| JLm (.string (ltr 0)) <| Zw 0 rfl Tryz.call140 rfl rfl (fun hin => mark_ct 0 2 _ _ _ (by decide) (List.length_replicate ..)) rfl ?_)
 rintro _ _ ⟨rfl, rfl⟩
 refine Za <| Zb <| JLq (.int .i64 1) (Pu.arith rfl rfl rfl) <| JLm (.int .i64 1) <| Za <| Z8 <| Zd <| Zb <| JLq (.bool false) (show Pu _ _ _ (.bool (decide ((1 : Int) < 1))) from Pu.lss rfl rfl) <| Za <| Zd <| Zi (b := false) rfl (fun h => absurd h (by simp)) (fun _ => ZM _ rfl ?_)
 refine Zd <| Zb <| JLa (.slice none 0 0) <| Za <| Zd <| Zd <| Zb <| JLm (.int .i64 1) <| JLm (.int .i64 0) <| Za <| Zs <| YF 2 <| Z8 ?_
 refine Zd <| Zb <| JLq (.bool true) (show Pu _ _ _ (.bool (decide ((0 : Int) < 1))) from Pu.lss rfl rfl) <| Za <| Zd <| Zi (b := true) rfl (fun _ => ?_) (fun h => absurd h (by simp))
 refine Zp <| Zd <| Zs <| Zd <| Zb <| JLm (.slice (some ⟨b2, 0, none⟩) 2 2) <| Zg rfl Tryz.call141 rfl (fun hin => int_r (r := 1) (idxB_ct false _ _ _ _ ((markL_len ..).trans (List.length_replicate ..)) (by decide) (hin 0 _ rfl _ _ List.mem_cons_self)) (by decide)) rfl ?_
 rintro _ _ ⟨rfl, rfl⟩
 refine JLa (.int .i64 1) <| Za <| Zd <| Zb <| JLm (.slice none 0 0) <| JLm (.int .i64 1) <| Zg rfl Tryz.call142 rfl (fun hin => name_ct 1 _ (by decide)) rfl ?_
 rintro _ _ ⟨rfl, rfl⟩
 refine JLr (Zr (vs := [.string (ltr 1)]) [[.string (ltr 1)]] Tryz.runUnderlying28 el9 rfl rfl (by intro e he; simp only [List.mem_cons, List.not_mem_nil, or_false] at he; subst he; exact rfl) rfl (by decide) fun b5 k5 ho5 hk5 => Zq (M' := [[], k5, [(b2, .cells ⟨bls (markL 0 (List.replicate 2 false))⟩ 4 (0, 0))]]) (Sub.emp Sub.refl) ?_)
 have hlens6 : ∀ e ∈ ([[.string (ltr 1)]] : List (List Value)), List.length e = 1 := by
  intro e he; simp only [List.mem_cons, List.not_mem_nil, or_false] at he
  rcases he with rfl
  ·exact rfl
 have hoks6 : ∀ e ∈ ([[.string (ltr 1)]] : List (List Value)), okc e := by
  intro e he; simp only [List.mem_cons, List.not_mem_nil, or_false] at he
  rcases he with rfl
  ·exact (Zm rfl Zv)
 refine JLr (ZH (i := 0) (n := 1) (es' := [[.string (ltr 1)]]) Tryz.runUnderlying28 Tryz.runUnderlying28 (Or.inl rfl) el9 rfl rfl rfl (show Own _ _ _ (ZP []) _ from Own.nil) (fun F w m => Src.row (((At.k 1 rfl (by rw [hk5]; exact List.mem_cons_self))).heap m) (Zx (ZG hlens6))) rfl hlens6 hoks6 (by decide) (by simp [ZP]) fun v6 k6 ho6 => ?_)
 rw [← strs_snoc] at ho6
 refine JLa v6 <| Za <| Zb <| JLm (.slice (some ⟨b2, 0, none⟩) 2 2) <| JLm (.int .i64 1) <| JLq (.pointer (some ⟨b2, 0 + 1 * 1, none⟩)) (Pu.idx 1 Tryz.runUnderlying181 ty4 rfl rfl (by omega) (by omega)) <| JLr (Ze 2 (vs := [.bool true]) (l := bls ((markL 0 (List.replicate 2 false)).set 1 true)) ty4 rfl rfl rfl rfl rfl (Zm rfl Zv) (bls_set1 (by have hbl : List.length (markL 0 (List.replicate 2 false)) = 2 := ((markL_len ..).trans (List.length_replicate ..)); omega)) <| Za <| Zb <| JLq (.int .i64 1) (Pu.arith rfl rfl rfl) <| JLm (.int .i64 1) <| Za <| Z8 ?_)
 refine Zd <| Zb <| JLq (.bool false) (show Pu _ _ _ (.bool (decide ((1 : Int) < 1))) from Pu.lss rfl rfl) <| Za <| Zd <| Zi (b := false) rfl (fun h => absurd h (by simp)) (fun _ => ZM _ rfl <| Zd <| Zb <| JLm v <| JLm v6 <| Zg rfl Tryz.call121 rfl (fun hin => with_ct _ _ _ _ _ (RSs.mono (Hle.hu _ _) hl) (Yj ho6 (by simp) (hin 0 _ rfl)) (by simp)) rfl ?_)
 rintro u7 _ ⟨_, k7, hu7, rfl, ho7⟩; subst hu7
 refine JLm v6 <| JLa u7 <| JLa v6 <| Za <| Zl <| ⟨.tuple ⟨[u7, v6]⟩, [k7, k6], Ret.two rfl (RV.tmp rfl) (RV.tmp rfl), (Sk (Sk Sub.nil)), ?_⟩
 exact ⟨_, _, _, _, rfl, rfl, ho7, ho6⟩
theorem chosen2_ct (v : Value) (H : Heap) (hl : rdS RS 1 H v [ltr 1, ltr 0]) : CT Tryz.prog 110 ⟨[v, .int .i64 1]⟩ [] H (fun v N => ∃ u1 u2 k1 k2, v = .tuple ⟨[u1, u2]⟩ ∧ N = [k1, k2] ∧ Own 9 1 u1 (ZP [ltr 2, ltr 1, ltr 0]) k1 ∧ Own 9 1 u2 (ZP [ltr 2]) k2) := by
 refine Zo Tryz.func110 rfl rfl <| Zd <| Zb <| JLa (.slice none 0 0) <| JLa (.slice none 0 0) <| Za <| Zd <| Zb <| JLm v ?_
 obtain ⟨a1, cap1, hv1⟩ := hl.sl
 have hle1 := hl.le
 refine JLq (.int .i64 2) (Pu.lenSl Tryz.runUnderlying111 hv1) <| JLm (.int .i64 1) <| JLq (.int .i64 3) (Pu.arith rfl rfl rfl) <| JLr (Runs_make 3 Tryz.runUnderlying181 el4 rfl rfl rfl rfl (by decide) (by decide) fun b2 k2 _ hk2 => ?_)
 obtain rfl : k2 = [(b2, .cells ⟨bls (List.replicate 3 false)⟩ 4 (0, 0))] := hk2
 refine JLa (.slice (some ⟨b2, 0, none⟩) 3 3) <| Za <| Zd <| Zb <| JLm (.slice (some ⟨b2, 0, none⟩) 3 3) <| JLq (.func (.func 140) ⟨[.slice (some ⟨b2, 0, none⟩) 3 3]⟩ ⟨[]⟩) (Pu.makeFunc rfl rfl) <| JLa (.func (.func 140) ⟨[.slice (some ⟨b2, 0, none⟩) 3 3]⟩ ⟨[]⟩) <| Za <| Zd <| Zd <| Zb <| JLm v ?_
 obtain ⟨a3, cap3, hv3⟩ := hl.sl
 have hle3 := hl.le
 refine JLq (.int .i64 2) (Pu.lenSl Tryz.runUnderlying111 hv3) <| JLm (.int .i64 0) <| Za <| Zs <| YF 3 <| Z8 <| Zd <| Zb <| JLq (.bool true) (show Pu _ _ _ (.bool (decide ((0 : Int) < 2))) from Pu.lss rfl rfl) <| Za <| Zd <| Zi (b := true) rfl (fun _ => ?_) (fun h => absurd h (by simp))
 refine Zp <| Zd <| Zs <| Zd <| Zb ?_
 obtain ⟨b4, o4, cap4, row4, T4, fr4, cs4, hv4, hb4, hs4, hE4⟩ := hl.get 0 (by first | assumption | omega | decide | simp)
 refine JLq (.pointer (some ⟨b4, o4 + 0 * 1, none⟩)) (Pu.idx 0 Tryz.runUnderlying111 ty9 hv4 rfl rfl (by first | assumption | omega | decide | simp)) <| JLr (Zf ty9 rfl (At.im hb4) (Yp ((show cs4 = [Value.string (ltr 1)] from hE4) ▸ hs4)) <| JLa (.string (ltr 1)) <| Za <| Zb <| JLm (.func (.func 140) ⟨[.slice (some ⟨b2, 0, none⟩) 3 3]⟩ ⟨[]⟩) <| JLm (.string (ltr 1)) <| Zw 0 rfl Tryz.call140 rfl rfl (fun hin => mark_ct 1 3 _ _ _ (by decide) (List.length_replicate ..)) rfl ?_)
 rintro _ _ ⟨rfl, rfl⟩
 refine Za <| Zb <| JLq (.int .i64 1) (Pu.arith rfl rfl rfl) <| JLm (.int .i64 1) <| Za <| Z8 <| Zd <| Zb <| JLq (.bool true) (show Pu _ _ _ (.bool (decide ((1 : Int) < 2))) from Pu.lss rfl rfl) <| Za <| Zd <| Zi (b := true) rfl (fun _ => ?_) (fun h => absurd h (by simp))
 refine Zp <| Zd <| Zs <| Zd <| Zb ?_
 obtain ⟨b5, o5, cap5, row5, T5, fr5, cs5, hv5, hb5, hs5, hE5⟩ := hl.get 1 (by first | assumption | omega | decide | simp)
 refine JLq (.pointer (some ⟨b5, o5 + 1 * 1, none⟩)) (Pu.idx 1 Tryz.runUnderlying111 ty9 hv5 rfl rfl (by first | assumption | omega | decide | simp)) <| JLr (Zf ty9 rfl (At.im hb5) (Yp ((show cs5 = [Value.string (ltr 0)] from hE5) ▸ hs5)) <| JLa (.string (ltr 0)) <| Za <| Zb <| JLm (.func (.func 140) ⟨[.slice (some ⟨b2, 0, none⟩) 3 3]⟩ ⟨[]⟩) <| JLm (.string (ltr 0)) <| Zw 0 rfl Tryz.call140 rfl rfl (fun hin => mark_ct 0 3 _ _ _ (by decide) ((markL_len ..).trans (List.length_replicate ..))) rfl ?_)
 rintro _ _ ⟨rfl, rfl⟩
 refine Za <| Zb <| JLq (.int .i64 2) (Pu.arith rfl rfl rfl) <| JLm (.int .i64 2) <| Za <| Z8 <| Zd <| Zb <| JLq (.bool false) (show Pu _ _ _ (.bool (decide ((2 : Int) < 2))) from Pu.lss rfl rfl) <| Za <| Zd <| Zi (b := false) rfl (fun h => absurd h (by simp)) (fun _ => ZM _ rfl ?_)
 refine Zd <| Zb <| JLa (.slice none 0 0) <| Za <| Zd <| Zd <| Zb <| JLm (.int .i64 1) <| JLm (.int .i64 0) <| Za <| Zs <| YF 2 <| Z8 ?_
 refine Zd <| Zb <| JLq (.bool true) (show Pu _ _ _ (.bool (decide ((0 : Int) < 1))) from Pu.lss rfl rfl) <| Za <| Zd <| Zi (b := true) rfl (fun _ => ?_) (fun h => absurd h (by simp))
 refine Zp <| Zd <| Zs <| Zd <| Zb <| JLm (.slice (some ⟨b2, 0, none⟩) 3 3) <| Zg rfl Tryz.call141 rfl (fun hin => int_r (r := 2) (idxB_ct false _ _ _ _ ((markL_len ..).trans ((markL_len ..).trans (List.length_replicate ..))) (by decide) (hin 0 _ rfl _ _ List.mem_cons_self)) (by decide)) rfl ?_
 rintro _ _ ⟨rfl, rfl⟩
 refine JLa (.int .i64 2) <| Za <| Zd <| Zb <| JLm (.slice none 0 0) <| JLm (.int .i64 2) <| Zg rfl Tryz.call142 rfl (fun hin => name_ct 2 _ (by decide)) rfl ?_
 rintro _ _ ⟨rfl, rfl⟩
 refine JLr (Zr (vs := [.string (ltr 2)]) [[.string (ltr 2)]] Tryz.runUnderlying28 el9 rfl rfl (by intro e he; simp only [List.mem_cons, List.not_mem_nil, or_false] at he; subst he; exact rfl) rfl (by decide) fun b6 k6 ho6 hk6 => Zq (M' := [[], k6, [(b2, .cells ⟨bls (markL 0 (markL 1 (List.replicate 3 false)))⟩ 4 (0, 0))]]) (Sub.emp Sub.refl) ?_)
 have hlens7 : ∀ e ∈ ([[.string (ltr 2)]] : List (List Value)), List.length e = 1 := by
  intro e he; simp only [List.mem_cons, List.not_mem_nil, or_false] at he
  rcases he with rfl
  ·exact rfl
 have hoks7 : ∀ e ∈ ([[.string (ltr 2)]] : List (List Value)), okc e := by
  intro e he; simp only [List.mem_cons, List.not_mem_nil, or_false] at he
  rcases he with rfl
  ·exact (Zm rfl Zv)
 refine JLr (ZH (i := 0) (n := 1) (es' := [[.string (ltr 2)]]) Tryz.runUnderlying28 Tryz.runUnderlying28 (Or.inl rfl) el9 rfl rfl rfl (show Own _ _ _ (ZP []) _ from Own.nil) (fun F w m => Src.row (((At.k 1 rfl (by rw [hk6]; exact List.mem_cons_self))).heap m) (Zx (ZG hlens7))) rfl hlens7 hoks7 (by decide) (by simp [ZP]) fun v7 k7 ho7 => ?_)
 rw [← strs_snoc] at ho7
 refine JLa v7 <| Za <| Zb <| JLm (.slice (some ⟨b2, 0, none⟩) 3 3) <| JLm (.int .i64 2) <| JLq (.pointer (some ⟨b2, 0 + 2 * 1, none⟩)) (Pu.idx 2 Tryz.runUnderlying181 ty4 rfl rfl (by omega) (by omega)) <| JLr (Ze 2 (vs := [.bool true]) (l := bls ((markL 0 (markL 1 (List.replicate 3 false))).set 2 true)) ty4 rfl rfl rfl rfl rfl (Zm rfl Zv) (bls_set1 (by have hbl : List.length (markL 0 (markL 1 (List.replicate 3 false))) = 3 := ((markL_len ..).trans ((markL_len ..).trans (List.length_replicate ..))); omega)) <| Za <| Zb <| JLq (.int .i64 1) (Pu.arith rfl rfl rfl) <| JLm (.int .i64 1) <| Za <| Z8 ?_)
 refine Zd <| Zb <| JLq (.bool false) (show Pu _ _ _ (.bool (decide ((1 : Int) < 1))) from Pu.lss rfl rfl) <| Za <| Zd <| Zi (b := false) rfl (fun h => absurd h (by simp)) (fun _ => ZM _ rfl <| Zd <| Zb <| JLm v <| JLm v7 <| Zg rfl Tryz.call121 rfl (fun hin => with_ct _ _ _ _ _ (RSs.mono (Hle.hu _ _) hl) (Yj ho7 (by simp) (hin 0 _ rfl)) (by simp)) rfl ?_)
 rintro u8 _ ⟨_, k8, hu8, rfl, ho8⟩; subst hu8
 refine JLm v7 <| JLa u8 <| JLa v7 <| Za <| Zl <| ⟨.tuple ⟨[u8, v7]⟩, [k8, k7], Ret.two rfl (RV.tmp rfl) (RV.tmp rfl), (Sk (Sk Sub.nil)), ?_⟩
 exact ⟨_, _, _, _, rfl, rfl, ho8, ho7⟩
end Go.Proofs.YtmophpgiaiemhaaGreat.Hs
