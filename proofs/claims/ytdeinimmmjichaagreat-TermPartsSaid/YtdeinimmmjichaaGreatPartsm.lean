import Derived.Test.YtdeinimmmjichaaGreatPartsl
/-! Walks, printed by a program of this session's own (gen.py). -/
namespace Go.Proofs.YtdeinimmmjichaaGreat.Hs
open Go Go.Proofs
set_option maxRecDepth 100000
set_option linter.unusedVariables false
set_option linter.unusedSimpArgs false
attribute [local irreducible] JL J CT wlo
theorem told_ct (a b : Tm) (e w : Int) (cs ws : List Value) (k : Zm) (H : Heap) (hO : OT a cs k) (hb : RT H ws b) : CT Tryz.prog 31 ⟨[.agg ⟨cs⟩, .agg ⟨ws⟩, .int .i64 e, .int .i64 w]⟩ [k] H (fun v N => v = .bool (decide (e = w) && decide (a = b)) ∧ N = []) := by
 refine Zr Tryz.func31 rfl rfl ?_
 refine Zg (Zc ?_)
 refine Zd rfl (Zx (l := cs) rfl rfl fun b1 => ?_)
 refine Zd rfl (Zx (l := ws) rfl rfl fun b2 => ?_)
 refine Za (v := .bool false) rfl (Pu.assign rfl) ?_
 refine Zb ?_
 refine Zg (Zc ?_)
 refine Za (v := .int .i64 e) rfl (Pu.move rfl) ?_
 refine Za (v := .int .i64 w) rfl (Pu.move rfl) ?_
 refine Za (v := .bool (decide (e = w))) rfl (Pu.eql rfl rfl) ?_
 refine Za (v := .bool (decide (e = w))) rfl (Pu.move rfl) ?_
 cases h3 : (decide (e = w)) with
 | true =>
  replace h3 := dt h3
  refine Zd rfl (Zj Zt rfl (At.bx 1 rfl) (Zy hO.len) ?_)
  refine Zd rfl (Zj Zt rfl (At.bx 0 rfl) (Zy (Zv hb)) ?_)
  refine Zk rfl Tryz.call24 rfl (fun hin => sameTerm_ct _ _ _ _ _ (hO.rd (hin 2 _ rfl)) (RT.mono (Hle.hu _ _) hb)) rfl ?_
  rintro _ _ ⟨rfl, rfl⟩
  refine Za (v := .bool (decide (a = b))) rfl (Pu.pickT rfl rfl) ?_
  refine Za (v := .bool (decide (a = b))) rfl (Pu.assign rfl) ?_
  refine Zb ?_
  refine Zg (Zc ?_)
  refine Zd rfl (Zj Zt rfl (At.bx 1 rfl) (Zy hO.len) ?_)
  refine JL_call1 2 rfl Tryz.call72 rfl rfl (fun hin => spoil_ct _ _ _ _ hO) rfl ?_
  rintro _ _ ⟨rfl, rfl⟩
  refine Zb ?_
  refine Zg (Zc ?_)
  refine Za (v := .bool (decide (a = b))) rfl (Pu.move rfl) ?_
  refine Za (v := .bool (decide (a = b))) rfl (Pu.assign rfl) ?_
  refine Zb ?_
  refine Zo ?_
  refine ⟨.bool (decide (a = b)), [], Ret.one rfl (RV.tmp rfl), Sub.nil, ?_⟩
  exact ⟨by simp_all, rfl⟩
 | false =>
  replace h3 := df h3
  refine Zf rfl ?_
  refine Zf rfl ?_
  refine Zf rfl ?_
  refine Za (v := .bool false) rfl (Pu.pickF rfl rfl) ?_
  refine Za (v := .bool false) rfl (Pu.assign rfl) ?_
  refine Zb ?_
  refine Zg (Zc ?_)
  refine Zd rfl (Zj Zt rfl (At.bx 1 rfl) (Zy hO.len) ?_)
  refine JL_call1 2 rfl Tryz.call72 rfl rfl (fun hin => spoil_ct _ _ _ _ hO) rfl ?_
  rintro _ _ ⟨rfl, rfl⟩
  refine Zb ?_
  refine Zg (Zc ?_)
  refine Za (v := .bool false) rfl (Pu.move rfl) ?_
  refine Za (v := .bool false) rfl (Pu.assign rfl) ?_
  refine Zb ?_
  refine Zo ?_
  refine ⟨.bool false, [], Ret.one rfl (RV.tmp rfl), Sub.nil, ?_⟩
  exact ⟨by simp_all, rfl⟩
end Go.Proofs.YtdeinimmmjichaaGreat.Hs
/-! Walks, printed by a program of this session's own (gen.py). -/
namespace Go.Proofs.YtdeinimmmjichaaGreat.Hs
open Go Go.Proofs
set_option maxRecDepth 100000
set_option linter.unusedVariables false
set_option linter.unusedSimpArgs false
attribute [local irreducible] JL J CT wlo
set_option maxHeartbeats 8000000 in
theorem partsL_ct (t u : Tm) (l : List Int) (cs us : List Value) (v : Value) (H : Heap) (ht : RT H cs t) (hu : RT H us u) (hpr : pathR H v l) (hpi : ∀ n ∈ l, inI n) : CT Tryz.prog 4 ⟨[.agg ⟨cs⟩, .agg ⟨us⟩, v]⟩ [] H (fun v N => v = .bool true ∧ N = []) := by
 refine Zr Tryz.func4 rfl rfl ?_
 refine Zg (Zc ?_)
 refine Zd rfl (Zx (l := cs) rfl rfl fun b1 => ?_)
 refine Zd rfl (Zx (l := us) rfl rfl fun b2 => ?_)
 refine Za (v := .bool false) rfl (Pu.assign rfl) ?_
 refine Zb ?_
 refine Zg ?_
 refine J_cut (fun ρ M => ρ 2 = v ∧ ρ 3 = .pointer (some ⟨b1, 0, none⟩) ∧ ρ 4 = .pointer (some ⟨b2, 0, none⟩) ∧ ρ 6 = .bool false ∧ ρ 31 = .bool ((((cnT stG 0 t 0).1) || ((cnT stG 0 u 0).1)) || (decide (100 < (l.length : Int)))) ∧ M = [[(b2, .cells ⟨us⟩ 27 (0, 0))], [(b1, .cells ⟨cs⟩ 27 (0, 0))]]) ?_ ?_
 ·refine Zc ?_
  refine Zd rfl (Zj Zt rfl (At.bx 1 rfl) (Zy (Zv ht)) ?_)
  refine Zk rfl Tryz.call8 rfl (fun hin => great_ct _ _ _ (RT.mono (Hle.hu _ _) ht)) rfl ?_
  rintro _ _ ⟨rfl, rfl⟩
  refine Za (v := .bool ((cnT stG 0 t 0).1)) rfl (Pu.move rfl) ?_
  cases h3 : ((cnT stG 0 t 0).1) with
  | true =>
   refine Zf rfl ?_
   refine Zf rfl ?_
   refine Za (v := .bool true) rfl (Pu.pickT rfl rfl) ?_
   refine Za (v := .bool true) rfl (Pu.move rfl) ?_
   refine Zf rfl ?_
   refine Zf rfl ?_
   refine Zf rfl ?_
   refine Za (v := .bool true) rfl (Pu.pickT rfl rfl) ?_
   refine Zb ?_
   first | exact ⟨rfl, rfl, rfl, rfl, rfl, rfl⟩ | (exfalso; omega)
  | false =>
   refine Zd rfl (Zj Zt rfl (At.bx 0 rfl) (Zy (Zv hu)) ?_)
   refine Zk rfl Tryz.call8 rfl (fun hin => great_ct _ _ _ (RT.mono (Hle.hu _ _) hu)) rfl ?_
   rintro _ _ ⟨rfl, rfl⟩
   refine Za (v := .bool ((cnT stG 0 u 0).1)) rfl (Pu.pickF rfl rfl) ?_
   refine Za (v := .bool ((cnT stG 0 u 0).1)) rfl (Pu.move rfl) ?_
   cases h4 : ((cnT stG 0 u 0).1) with
   | true =>
    refine Zf rfl ?_
    refine Zf rfl ?_
    refine Zf rfl ?_
    refine Za (v := .bool true) rfl (Pu.pickT rfl rfl) ?_
    refine Zb ?_
    first | exact ⟨rfl, rfl, rfl, rfl, rfl, rfl⟩ | (exfalso; omega)
   | false =>
    refine Za (v := v) rfl (Pu.move rfl) ?_
    obtain ⟨a5, cap5, hv5⟩ := hpr.rd.sl
    have hle5 := hpr.rd.le
    refine Za (v := .int .i64 ((l.length : Int))) rfl (Pu.lenSl Tryz.runUnderlying43 hv5) ?_
    refine Za (v := .bool (decide (100 < (l.length : Int)))) rfl (Pu.gtr rfl rfl) ?_
    refine Za (v := .bool (decide (100 < (l.length : Int)))) rfl (Pu.pickF rfl rfl) ?_
    refine Zb ?_
    first | exact ⟨rfl, rfl, rfl, rfl, rfl, rfl⟩ | (exfalso; omega)
 rintro ρ6 _ ⟨e7, e8, e9, e10, e11, rfl⟩
 obtain ⟨ρ12, rfl⟩ := Ze (uc e7 (uc e8 (uc e9 (uc e10 (uc e11 un)))))
 clear e7 e8 e9 e10 e11
 refine Zl (b := (((cnT stG 0 t 0).1) || ((cnT stG 0 u 0).1)) || (decide (100 < (l.length : Int)))) rfl (fun h13 => ?_) (fun h13 => ?_)
 ·refine Zg (Zc ?_)
  refine Zk rfl Tryz.call9 rfl (fun hin => awake_ct _) rfl ?_
  rintro _ _ ⟨rfl, rfl⟩
  refine Za (v := .bool true) rfl (Pu.assign rfl) ?_
  refine Zb ?_
  refine Zo ?_
  refine ⟨.bool true, [], Ret.one rfl (RV.tmp rfl), Sub.nil, ?_⟩
  exact ⟨rfl, rfl⟩
 obtain ⟨h13a, h13b⟩ := orF h13
 obtain ⟨h13aa, h13ab⟩ := orF h13a
 replace h13b := df h13b
 refine Zq ?_
 refine Zg ?_
 refine J_draw mixed #[0, 1, 0, 7, 0, 31, 0, 0, 255, 511, 1023] 8 8 2 rfl (by kernel_rfl) (fun i r14 N14 => match i with | 0 => (r14 0) = .agg ⟨cs⟩ | 1 => (r14 1) = .agg ⟨(cel (r14 1))⟩ ∧ OT t (cel (r14 1)) (N14 1) | 2 => (r14 2) = .agg ⟨us⟩ | 3 => (r14 3) = .agg ⟨(cel (r14 3))⟩ ∧ OT u (cel (r14 3)) (N14 3) | 4 => (r14 4) = v | 5 => Own 3 1 (r14 5) (ints l) (N14 5) | 6 => (r14 6) = .pointer (some ⟨(pblk (r14 6)), 0, none⟩) ∧ (N14 6) = [((pblk (r14 6)), .cells ⟨pkT 0 0 zS (.slice none 0 0) (.slice none 0 0)⟩ 27 (0, 0))] | 7 => (r14 7) = .pointer (some ⟨(pblk (r14 7)), 0, none⟩) ∧ (N14 7) = [((pblk (r14 7)), .cells ⟨pkT 0 0 zS (.slice none 0 0) (.slice none 0 0)⟩ 27 (0, 0))] | _ => True) ⟨?_, ?_, ?_, ?_, ?_, ?_, ?_, ?_, trivial⟩ ?_
 ·intro ρ r14 N14 B hB hBa hp hr hr0
  have q3 : ρ 3 = .pointer (some ⟨b1, 0, none⟩) := hr0 3 (by kernel_rfl)
  obtain ⟨ρ15, rfl⟩ := Ze (uc q3 un)
  clear q3
  refine Zd rfl (Zj Zt rfl (At.bx 9 (Zu ((hB 1 (by decide)).trans rfl))) (Zy (Zv ht)) ?_)
  refine Zb ?_
  exact ⟨.agg ⟨cs⟩, [], rfl, (Sub.emp Sub.refl), rfl⟩
 ·intro ρ r14 N14 B hB hBa hp hr hr0
  have q33 : ρ 33 = .agg ⟨cs⟩ := (hr 0 _ _ (by decide) rfl rfl rfl).trans (hp 0 (by decide) rfl)
  obtain ⟨ρ16, rfl⟩ := Ze (uc q33 un)
  clear q33
  refine Zk rfl Tryz.call10 rfl (fun hin => ownTerm_ct _ _ _ (RT.mono (Hle.hu _ _) ht) (by have := (great_size ‹(cnT stG 0 t 0).1 = false›); omega)) rfl ?_
  rintro _ _ ⟨cs17, k17, rfl, rfl, hO17⟩
  refine Zb ?_
  exact ⟨.agg ⟨cs17⟩, k17, rfl, Sub.refl, ⟨rfl, hO17⟩⟩
 ·intro ρ r14 N14 B hB hBa hp hr hr0
  have q4 : ρ 4 = .pointer (some ⟨b2, 0, none⟩) := hr0 4 (by kernel_rfl)
  obtain ⟨ρ18, rfl⟩ := Ze (uc q4 un)
  clear q4
  refine Zd rfl (Zj Zt rfl (At.bx 8 (Zu ((hB 0 (by decide)).trans rfl))) (Zy (Zv hu)) ?_)
  refine Zb ?_
  exact ⟨.agg ⟨us⟩, [], rfl, (Sub.emp Sub.refl), rfl⟩
 ·intro ρ r14 N14 B hB hBa hp hr hr0
  have q35 : ρ 35 = .agg ⟨us⟩ := (hr 2 _ _ (by decide) rfl rfl rfl).trans (hp 2 (by decide) rfl)
  obtain ⟨ρ19, rfl⟩ := Ze (uc q35 un)
  clear q35
  refine Zk rfl Tryz.call10 rfl (fun hin => ownTerm_ct _ _ _ (RT.mono (Hle.hu _ _) hu) (by have := (great_size ‹(cnT stG 0 u 0).1 = false›); omega)) rfl ?_
  rintro _ _ ⟨cs20, k20, rfl, rfl, hO20⟩
  refine Zb ?_
  exact ⟨.agg ⟨cs20⟩, k20, rfl, Sub.refl, ⟨rfl, hO20⟩⟩
 ·intro ρ r14 N14 B hB hBa hp hr hr0
  have q2 : ρ 2 = v := hr0 2 (by kernel_rfl)
  obtain ⟨ρ21, rfl⟩ := Ze (uc q2 un)
  clear q2
  refine Za (v := v) rfl (Pu.move rfl) ?_
  refine Zb ?_
  exact ⟨v, [], rfl, (Sub.emp Sub.refl), rfl⟩
 ·intro ρ r14 N14 B hB hBa hp hr hr0
  have q37 : ρ 37 = v := (hr 4 _ _ (by decide) rfl rfl rfl).trans (hp 4 (by decide) rfl)
  obtain ⟨ρ22, rfl⟩ := Ze (uc q37 un)
  clear q37
  refine Zk rfl Tryz.call26 rfl (fun hin => cloneI_ct _ _ _ (RIs.mono (Hle.hu _ _) hpr.rd) (by omega)) rfl ?_
  rintro u23 _ ⟨k23, rfl, ho23⟩
  refine Zb ?_
  exact ⟨u23, k23, rfl, Sub.refl, ho23⟩
 ·intro ρ r14 N14 B hB hBa hp hr hr0
  refine Zd rfl (Zn (l := pkT 0 0 zS (.slice none 0 0) (.slice none 0 0)) Tryz.zeroValue27 rfl fun b24 => ?_)
  refine Zb ?_
  exact ⟨.pointer (some ⟨b24, 0, none⟩), [(b24, .cells ⟨pkT 0 0 zS (.slice none 0 0) (.slice none 0 0)⟩ 27 (0, 0))], rfl, Sub.refl, ⟨rfl, rfl⟩⟩
 ·intro ρ r14 N14 B hB hBa hp hr hr0
  refine Zd rfl (Zn (l := pkT 0 0 zS (.slice none 0 0) (.slice none 0 0)) Tryz.zeroValue27 rfl fun b25 => ?_)
  refine Zb ?_
  exact ⟨.pointer (some ⟨b25, 0, none⟩), [(b25, .cells ⟨pkT 0 0 zS (.slice none 0 0) (.slice none 0 0)⟩ 27 (0, 0))], rfl, Sub.refl, ⟨rfl, rfl⟩⟩
 intro ρ r14 N14 hp hr hr0
 have p1 : (r14 1) = .agg ⟨(cel (r14 1))⟩ ∧ OT t (cel (r14 1)) (N14 1) := hp 1 (by decide)
 have p3 : (r14 3) = .agg ⟨(cel (r14 3))⟩ ∧ OT u (cel (r14 3)) (N14 3) := hp 3 (by decide)
 have p5 : Own 3 1 (r14 5) (ints l) (N14 5) := hp 5 (by decide)
 have p6 : (r14 6) = .pointer (some ⟨(pblk (r14 6)), 0, none⟩) ∧ (N14 6) = [((pblk (r14 6)), .cells ⟨pkT 0 0 zS (.slice none 0 0) (.slice none 0 0)⟩ 27 (0, 0))] := hp 6 (by decide)
 have p7 : (r14 7) = .pointer (some ⟨(pblk (r14 7)), 0, none⟩) ∧ (N14 7) = [((pblk (r14 7)), .cells ⟨pkT 0 0 zS (.slice none 0 0) (.slice none 0 0)⟩ 27 (0, 0))] := hp 7 (by decide)
 have q2 : ρ 2 = v := hr0 2 (by kernel_rfl)
 have q3 : ρ 3 = .pointer (some ⟨b1, 0, none⟩) := hr0 3 (by kernel_rfl)
 have q4 : ρ 4 = .pointer (some ⟨b2, 0, none⟩) := hr0 4 (by kernel_rfl)
 have q6 : ρ 6 = .bool false := hr0 6 (by kernel_rfl)
 have q7 : ρ 7 = .pointer (some ⟨(pblk (r14 6)), 0, none⟩) := (hr 6 _ _ (by decide) rfl rfl).trans p6.1
 have q8 : ρ 8 = .pointer (some ⟨(pblk (r14 7)), 0, none⟩) := (hr 7 _ _ (by decide) rfl rfl).trans p7.1
 have q34 : ρ 34 = .agg ⟨(cel (r14 1))⟩ := (hr 1 _ _ (by decide) rfl rfl).trans p1.1
 have q36 : ρ 36 = .agg ⟨(cel (r14 3))⟩ := (hr 3 _ _ (by decide) rfl rfl).trans p3.1
 have q38 : ρ 38 = (r14 5) := (hr 5 _ _ (by decide) rfl rfl)
 obtain ⟨ρ26, rfl⟩ := Ze (uc q2 (uc q3 (uc q4 (uc q6 (uc q7 (uc q8 (uc q34 (uc q36 (uc q38 un)))))))))
 clear q2 q3 q4 q6 q7 q8 q34 q36 q38
 have p14_1 := p1; have p14_3 := p3; have p14_5 := p5; have p14_6 := p6; have p14_7 := p7
 clear hp hr hr0 p1 p3 p5 p6 p7
 refine Zw (M' := [(N14 0), (N14 1), (N14 2), (N14 3), (N14 4), (N14 5), (N14 6), (N14 7), [(b2, .cells ⟨us⟩ 27 (0, 0))], [(b1, .cells ⟨cs⟩ 27 (0, 0))]]) Sub.refl ?_
 refine Zw (M' := [(N14 1), (N14 3), (N14 5), [((pblk (r14 6)), .cells ⟨pkT 0 0 zS (.slice none 0 0) (.slice none 0 0)⟩ 27 (0, 0))], [((pblk (r14 7)), .cells ⟨pkT 0 0 zS (.slice none 0 0) (.slice none 0 0)⟩ 27 (0, 0))], [(b2, .cells ⟨us⟩ 27 (0, 0))], [(b1, .cells ⟨cs⟩ 27 (0, 0))]]) (Sd (Sk (Sd (Sk (Sd (Sk (Se p14_6.2 (Se p14_7.2 (Sk (Sk Sub.nil)))))))))) ?_
 show JL _ _ _ [_, _, _] _ _ _
 refine Zd rfl (Zi 3 (vs := (cel (r14 1))) (l := (cel (r14 1))) Zt rfl rfl rfl rfl p14_1.2.len p14_1.2.ok (spl_a (n := 36) rfl p14_1.2.len) ?_)
 refine Zd rfl (Zi 4 (vs := (cel (r14 3))) (l := (cel (r14 3))) Zt rfl rfl rfl rfl p14_3.2.len p14_3.2.ok (spl_a (n := 36) rfl p14_3.2.len) ?_)
 refine Za (v := (r14 5)) rfl (Pu.assign rfl) ?_
 refine Zb ?_
 refine Zg (Zc ?_)
 refine Zd rfl (Zj Zt rfl (At.bx 6 rfl) (Zy (Zv ht)) ?_)
 refine Zk rfl Tryz.call12 rfl (fun hin => rightL_ct _ _ _ (RT.mono (Hle.hu _ _) ht) (by have := (great_size ‹(cnT stG 0 t 0).1 = false›); omega)) rfl ?_
 rintro _ _ ⟨rfl, rfl⟩
 refine Za (v := .tuple ⟨[.bool (decide (checkR 60 8 t = 0)), .int .i64 (checkR 60 8 t)]⟩) rfl (Pu.move rfl) ?_
 refine Za (v := .bool (decide (checkR 60 8 t = 0))) rfl (Pu.extract rfl rfl) ?_
 refine Za (v := .int .i64 (checkR 60 8 t)) rfl (Pu.extract rfl rfl) ?_
 refine Za (v := .bool (decide (checkR 60 8 t = 0))) rfl (Pu.assign rfl) ?_
 refine Za (v := .int .i64 (checkR 60 8 t)) rfl (Pu.assign rfl) ?_
 refine Zb ?_
 refine Zg (Zc ?_)
 refine Zd rfl (Zj Zt rfl (At.bx 5 rfl) (Zy (Zv hu)) ?_)
 refine Zk rfl Tryz.call12 rfl (fun hin => rightL_ct _ _ _ (RT.mono (Hle.hu _ _) hu) (by have := (great_size ‹(cnT stG 0 u 0).1 = false›); omega)) rfl ?_
 rintro _ _ ⟨rfl, rfl⟩
 refine Za (v := .tuple ⟨[.bool (decide (checkR 60 8 u = 0)), .int .i64 (checkR 60 8 u)]⟩) rfl (Pu.move rfl) ?_
 refine Za (v := .bool (decide (checkR 60 8 u = 0))) rfl (Pu.extract rfl rfl) ?_
 refine Za (v := .int .i64 (checkR 60 8 u)) rfl (Pu.extract rfl rfl) ?_
 refine Za (v := .bool (decide (checkR 60 8 u = 0))) rfl (Pu.assign rfl) ?_
 refine Za (v := .int .i64 (checkR 60 8 u)) rfl (Pu.assign rfl) ?_
 refine Zb ?_
 refine Zg (Zc ?_)
 refine Zd rfl (Zn (l := pkT 0 0 zS (.slice none 0 0) (.slice none 0 0)) Tryz.zeroValue27 rfl fun b27 => ?_)
 refine Zd rfl (Zn (l := pkT 0 0 zS (.slice none 0 0) (.slice none 0 0)) Tryz.zeroValue27 rfl fun b28 => ?_)
 refine Zb ?_
 refine Zg (Zc ?_)
 refine Za (v := .int .i64 (checkR 60 8 t)) rfl (Pu.move rfl) ?_
 refine Za (v := .int .i64 (checkR 60 8 t)) rfl (Pu.assign rfl) ?_
 refine Zb ?_
 refine Zg ?_
 refine Zg (Zc ?_)
 refine Za (v := .bool (decide (checkR 60 8 t = 0))) rfl (Pu.move rfl) ?_
 refine Zb ?_
 refine Zl (b := decide (checkR 60 8 t = 0)) rfl (fun h29 => ?_) (fun h29 => ?_)
 ·replace h29 := dt h29
  refine Zg (Zc ?_)
  refine Zd rfl (Zj Zt rfl (At.bx 8 rfl) (Zy (Zv ht)) ?_)
  refine Za (v := v) rfl (Pu.move rfl) ?_
  refine Zk rfl Tryz.call27 rfl (fun hin => atR_ct _ _ _ _ _ (RT.mono (Hle.hu _ _) ht) (RIs.mono (Hle.hu _ _) hpr.rd) hpi (by have := (great_size ‹(cnT stG 0 t 0).1 = false›); omega)) rfl ?_
  rintro _ _ ⟨cs30, k30, rfl, rfl, hO30⟩
  refine Za (v := .tuple ⟨[.agg ⟨cs30⟩, .int .i64 ((atR t l).2)]⟩) rfl (Pu.move rfl) ?_
  refine Za (v := .agg ⟨cs30⟩) rfl (Pu.extract rfl rfl) ?_
  refine Za (v := .int .i64 ((atR t l).2)) rfl (Pu.extract rfl rfl) ?_
  refine Zd rfl (Zi 2 (vs := cs30) (l := cs30) Zt rfl rfl rfl rfl hO30.len hO30.ok (spl_a (n := 36) rfl hO30.len) ?_)
  refine Za (v := .int .i64 ((atR t l).2)) rfl (Pu.assign rfl) ?_
  refine Zb ?_
  refine Zg (Zc ?_)
  refine Za (v := .bool (decide (checkR 60 8 u = 0))) rfl (Pu.move rfl) ?_
  refine Zb ?_
  refine Zl (b := decide (checkR 60 8 u = 0)) rfl (fun h31 => ?_) (fun h31 => ?_)
  ·replace h31 := dt h31
   refine Zc ?_
   refine Zd rfl (Zj Zt rfl (At.bx 9 rfl) (Zy (Zv ht)) ?_)
   refine Za (v := v) rfl (Pu.move rfl) ?_
   refine Zd rfl (Zj Zt rfl (At.bx 8 rfl) (Zy (Zv hu)) ?_)
   refine JL_call0 rfl Tryz.call28 rfl (putRR_ct _ _ _ _ _ _ _ ht hu hpr hpi (by have := (great_size ‹(cnT stG 0 t 0).1 = false›); omega) (by have := (great_size ‹(cnT stG 0 u 0).1 = false›); omega)) rfl ?_
   rintro _ _ ⟨cs32, k32, rfl, rfl, hl32, hk32, hr32⟩
   refine Za (v := .tuple ⟨[.agg ⟨cs32⟩, .int .i64 ((putR t l u).2)]⟩) rfl (Pu.move rfl) ?_
   refine Za (v := .agg ⟨cs32⟩) rfl (Pu.extract rfl rfl) ?_
   refine Za (v := .int .i64 ((putR t l u).2)) rfl (Pu.extract rfl rfl) ?_
   refine Zd rfl (Zi 2 (vs := cs32) (l := cs32) Zt rfl rfl rfl rfl hl32 hk32 (spl_a (n := 36) rfl hl32) ?_)
   refine Za (v := .int .i64 ((putR t l u).2)) rfl (Pu.assign rfl) ?_
   refine Zb ?_
   refine Zg (Zc ?_)
   refine Zd rfl (Zj Zt rfl (At.bx 7 rfl) (Zy p14_1.2.len) ?_)
   refine Za (v := (r14 5)) rfl (Pu.move rfl) ?_
   refine Zk rfl Tryz.call29 rfl (fun hin => atP_ct _ l _ _ _ (p14_1.2.rd (hin 4 _ rfl)) (own_ints p14_5 (by omega) (hin 6 _ rfl)) hpi) rfl ?_
   rintro _ _ ⟨cs33, k33, rfl, rfl, hO33⟩
   refine Za (v := .tuple ⟨[.agg ⟨cs33⟩, .int .i64 ((atE t l).2)]⟩) rfl (Pu.move rfl) ?_
   refine Za (v := .agg ⟨cs33⟩) rfl (Pu.extract rfl rfl) ?_
   refine Za (v := .int .i64 ((atE t l).2)) rfl (Pu.extract rfl rfl) ?_
   refine Zd rfl (Zn (l := pkT 0 0 zS (.slice none 0 0) (.slice none 0 0)) Tryz.zeroValue27 rfl fun b34 => ?_)
   refine Zd rfl (Zi 0 (vs := cs33) (l := cs33) Zt rfl rfl rfl rfl hO33.len hO33.ok (spl_a (n := 36) rfl hO33.len) ?_)
   refine Za (v := .int .i64 ((atE t l).2)) rfl (Pu.assign rfl) ?_
   refine Zb ?_
   refine Zg (Zc ?_)
   refine Zd rfl (Zj Zt rfl (At.bx 9 rfl) (Zy p14_1.2.len) ?_)
   refine Za (v := (r14 5)) rfl (Pu.move rfl) ?_
   refine Zd rfl (Zj Zt rfl (At.bx 10 rfl) (Zy p14_3.2.len) ?_)
   refine Zk rfl Tryz.call30 rfl (fun hin => putPP_ct _ _ l _ _ _ _ (p14_1.2.rd (hin 6 _ rfl)) (p14_3.2.rd (hin 7 _ rfl)) (pathR.own p14_5 (by omega) (hin 8 _ rfl)) hpi) rfl ?_
   rintro _ _ ⟨cs35, k35, rfl, rfl, hO35⟩
   refine Za (v := .tuple ⟨[.agg ⟨cs35⟩, .int .i64 ((putE t l u).2)]⟩) rfl (Pu.move rfl) ?_
   refine Za (v := .agg ⟨cs35⟩) rfl (Pu.extract rfl rfl) ?_
   refine Za (v := .int .i64 ((putE t l u).2)) rfl (Pu.extract rfl rfl) ?_
   refine Zd rfl (Zn (l := pkT 0 0 zS (.slice none 0 0) (.slice none 0 0)) Tryz.zeroValue27 rfl fun b36 => ?_)
   refine Zd rfl (Zi 0 (vs := cs35) (l := cs35) Zt rfl rfl rfl rfl hO35.len hO35.ok (spl_a (n := 36) rfl hO35.len) ?_)
   refine Za (v := .int .i64 ((putE t l u).2)) rfl (Pu.assign rfl) ?_
   refine Zb ?_
   refine Zg (Zc ?_)
   refine Zd rfl (Zj Zt rfl (At.bx 2 rfl) (Zy hO33.len) ?_)
   refine Zd rfl (Zj Zt rfl (At.bx 7 rfl) (Zy hO30.len) ?_)
   refine Za (v := .int .i64 ((atE t l).2)) rfl (Pu.move rfl) ?_
   refine Za (v := .int .i64 ((atR t l).2)) rfl (Pu.move rfl) ?_
   refine JL_call1 3 rfl Tryz.call31 rfl rfl (fun hin => bool_r (r := true) (told_ct ((atE t l).1) ((atR t l).1) ((atE t l).2) ((atR t l).2) _ _ _ _ hO33 (hO30.rd (hin 4 _ rfl))) (by first | (rw [atE_eq, if_pos (by assumption)]; simp; done) | (rw [atE_eq, if_neg (by assumption)]; simp; done) | (rw [putE_eq, if_pos (by assumption), if_pos (by assumption)]; simp; done) | (rw [putE_eq, if_pos (by assumption), if_neg (by assumption)]; simp; done) | (rw [putE_eq, if_neg (by assumption)]; simp; done))) rfl ?_
   rintro _ _ ⟨rfl, rfl⟩
   refine Za (v := .bool true) rfl (Pu.move rfl) ?_
   refine Zd rfl (Zj Zt rfl (At.bx 0 rfl) (Zy hO35.len) ?_)
   refine Zd rfl (Zj Zt rfl (At.bx 5 rfl) (Zy hl32) ?_)
   refine Za (v := .int .i64 ((putE t l u).2)) rfl (Pu.move rfl) ?_
   refine Za (v := .int .i64 ((putR t l u).2)) rfl (Pu.move rfl) ?_
   refine JL_call1 1 rfl Tryz.call31 rfl rfl (fun hin => bool_r (r := true) (told_ct ((putE t l u).1) ((putR t l u).1) ((putE t l u).2) ((putR t l u).2) _ _ _ _ hO35 (hr32 _ (hin 2 _ rfl) (Hle.hu _ _))) (by first | (rw [atE_eq, if_pos (by assumption)]; simp; done) | (rw [atE_eq, if_neg (by assumption)]; simp; done) | (rw [putE_eq, if_pos (by assumption), if_pos (by assumption)]; simp; done) | (rw [putE_eq, if_pos (by assumption), if_neg (by assumption)]; simp; done) | (rw [putE_eq, if_neg (by assumption)]; simp; done))) rfl ?_
   rintro _ _ ⟨rfl, rfl⟩
   refine Za (v := .bool true) rfl (Pu.pickT rfl rfl) ?_
   refine Za (v := .bool true) rfl (Pu.move rfl) ?_
   refine Zd rfl (Zj Zt rfl (At.bx 9 rfl) (Zy p14_1.2.len) ?_)
   refine Zd rfl (Zj Zt rfl (At.bx 12 rfl) (Zy (Zv ht)) ?_)
   refine Zk rfl Tryz.call24 rfl (fun hin => bool_r (r := true) (sameTerm_ct _ _ _ _ _ (p14_1.2.rd (hin 6 _ rfl)) (RT.mono (Hle.hu _ _) ht)) (decide_eq_true rfl)) rfl ?_
   rintro _ _ ⟨rfl, rfl⟩
   refine Za (v := .bool true) rfl (Pu.pickT rfl rfl) ?_
   refine Za (v := .bool true) rfl (Pu.move rfl) ?_
   refine Zd rfl (Zj Zt rfl (At.bx 10 rfl) (Zy p14_3.2.len) ?_)
   refine Zd rfl (Zj Zt rfl (At.bx 11 rfl) (Zy (Zv hu)) ?_)
   refine Zk rfl Tryz.call24 rfl (fun hin => bool_r (r := true) (sameTerm_ct _ _ _ _ _ (p14_3.2.rd (hin 7 _ rfl)) (RT.mono (Hle.hu _ _) hu)) (decide_eq_true rfl)) rfl ?_
   rintro _ _ ⟨rfl, rfl⟩
   refine Za (v := .bool true) rfl (Pu.pickT rfl rfl) ?_
   refine Za (v := .bool true) rfl (Pu.move rfl) ?_
   refine Za (v := (r14 5)) rfl (Pu.move rfl) ?_
   refine Za (v := v) rfl (Pu.move rfl) ?_
   refine Zk rfl Tryz.call21 rfl (fun hin => bool_r (r := true) (equalI_ct _ _ _ _ _ (own_ints p14_5 (by omega) (hin 8 _ rfl)) (RIs.mono (Hle.hu _ _) hpr.rd)) (eqL_true rfl)) rfl ?_
   rintro _ _ ⟨rfl, rfl⟩
   refine Za (v := .bool true) rfl (Pu.pickT rfl rfl) ?_
   refine Za (v := .bool true) rfl (Pu.move rfl) ?_
   refine Zk rfl Tryz.call9 rfl (fun hin => awake_ct _) rfl ?_
   rintro _ _ ⟨rfl, rfl⟩
   refine Za (v := .bool true) rfl (Pu.pickT rfl rfl) ?_
   refine Za (v := .bool true) rfl (Pu.assign rfl) ?_
   refine Zb ?_
   refine Zo ?_
   refine ⟨.bool true, [], Ret.one rfl (RV.tmp rfl), Sub.nil, ?_⟩
   exact ⟨rfl, rfl⟩
  replace h31 := df h31
  refine Zc ?_
  refine Za (v := .int .i64 (checkR 60 8 u)) rfl (Pu.move rfl) ?_
  refine Za (v := .int .i64 (checkR 60 8 u)) rfl (Pu.assign rfl) ?_
  refine Zb ?_
  refine Zg (Zc ?_)
  refine Zd rfl (Zj Zt rfl (At.bx 6 rfl) (Zy p14_1.2.len) ?_)
  refine Za (v := (r14 5)) rfl (Pu.move rfl) ?_
  refine Zk rfl Tryz.call29 rfl (fun hin => atP_ct _ l _ _ _ (p14_1.2.rd (hin 3 _ rfl)) (own_ints p14_5 (by omega) (hin 5 _ rfl)) hpi) rfl ?_
  rintro _ _ ⟨cs37, k37, rfl, rfl, hO37⟩
  refine Za (v := .tuple ⟨[.agg ⟨cs37⟩, .int .i64 ((atE t l).2)]⟩) rfl (Pu.move rfl) ?_
  refine Za (v := .agg ⟨cs37⟩) rfl (Pu.extract rfl rfl) ?_
  refine Za (v := .int .i64 ((atE t l).2)) rfl (Pu.extract rfl rfl) ?_
  refine Zd rfl (Zn (l := pkT 0 0 zS (.slice none 0 0) (.slice none 0 0)) Tryz.zeroValue27 rfl fun b38 => ?_)
  refine Zd rfl (Zi 0 (vs := cs37) (l := cs37) Zt rfl rfl rfl rfl hO37.len hO37.ok (spl_a (n := 36) rfl hO37.len) ?_)
  refine Za (v := .int .i64 ((atE t l).2)) rfl (Pu.assign rfl) ?_
  refine Zb ?_
  refine Zg (Zc ?_)
  refine Zd rfl (Zj Zt rfl (At.bx 8 rfl) (Zy p14_1.2.len) ?_)
  refine Za (v := (r14 5)) rfl (Pu.move rfl) ?_
  refine Zd rfl (Zj Zt rfl (At.bx 9 rfl) (Zy p14_3.2.len) ?_)
  refine Zk rfl Tryz.call30 rfl (fun hin => putPP_ct _ _ l _ _ _ _ (p14_1.2.rd (hin 5 _ rfl)) (p14_3.2.rd (hin 6 _ rfl)) (pathR.own p14_5 (by omega) (hin 7 _ rfl)) hpi) rfl ?_
  rintro _ _ ⟨cs39, k39, rfl, rfl, hO39⟩
  refine Za (v := .tuple ⟨[.agg ⟨cs39⟩, .int .i64 ((putE t l u).2)]⟩) rfl (Pu.move rfl) ?_
  refine Za (v := .agg ⟨cs39⟩) rfl (Pu.extract rfl rfl) ?_
  refine Za (v := .int .i64 ((putE t l u).2)) rfl (Pu.extract rfl rfl) ?_
  refine Zd rfl (Zn (l := pkT 0 0 zS (.slice none 0 0) (.slice none 0 0)) Tryz.zeroValue27 rfl fun b40 => ?_)
  refine Zd rfl (Zi 0 (vs := cs39) (l := cs39) Zt rfl rfl rfl rfl hO39.len hO39.ok (spl_a (n := 36) rfl hO39.len) ?_)
  refine Za (v := .int .i64 ((putE t l u).2)) rfl (Pu.assign rfl) ?_
  refine Zb ?_
  refine Zg (Zc ?_)
  refine Zd rfl (Zj Zt rfl (At.bx 2 rfl) (Zy hO37.len) ?_)
  refine Zd rfl (Zj Zt rfl (At.bx 6 rfl) (Zy hO30.len) ?_)
  refine Za (v := .int .i64 ((atE t l).2)) rfl (Pu.move rfl) ?_
  refine Za (v := .int .i64 ((atR t l).2)) rfl (Pu.move rfl) ?_
  refine JL_call1 3 rfl Tryz.call31 rfl rfl (fun hin => bool_r (r := true) (told_ct ((atE t l).1) ((atR t l).1) ((atE t l).2) ((atR t l).2) _ _ _ _ hO37 (hO30.rd (hin 3 _ rfl))) (by first | (rw [atE_eq, if_pos (by assumption)]; simp; done) | (rw [atE_eq, if_neg (by assumption)]; simp; done) | (rw [putE_eq, if_pos (by assumption), if_pos (by assumption)]; simp; done) | (rw [putE_eq, if_pos (by assumption), if_neg (by assumption)]; simp; done) | (rw [putE_eq, if_neg (by assumption)]; simp; done))) rfl ?_
  rintro _ _ ⟨rfl, rfl⟩
  refine Za (v := .bool true) rfl (Pu.move rfl) ?_
  refine Zd rfl (Zj Zt rfl (At.bx 0 rfl) (Zy hO39.len) ?_)
  refine Zd rfl (Zj Zt rfl (At.bx 4 rfl) (pkT_a ..) ?_)
  refine Za (v := .int .i64 ((putE t l u).2)) rfl (Pu.move rfl) ?_
  refine Za (v := .int .i64 (checkR 60 8 u)) rfl (Pu.move rfl) ?_
  refine JL_call1 1 rfl Tryz.call31 rfl rfl (fun hin => bool_r (r := true) (told_ct ((putE t l u).1) zT ((putE t l u).2) (checkR 60 8 u) _ _ _ _ hO39 RT_zero) (by first | (rw [atE_eq, if_pos (by assumption)]; simp; done) | (rw [atE_eq, if_neg (by assumption)]; simp; done) | (rw [putE_eq, if_pos (by assumption), if_pos (by assumption)]; simp; done) | (rw [putE_eq, if_pos (by assumption), if_neg (by assumption)]; simp; done) | (rw [putE_eq, if_neg (by assumption)]; simp; done))) rfl ?_
  rintro _ _ ⟨rfl, rfl⟩
  refine Za (v := .bool true) rfl (Pu.pickT rfl rfl) ?_
  refine Za (v := .bool true) rfl (Pu.move rfl) ?_
  refine Zd rfl (Zj Zt rfl (At.bx 8 rfl) (Zy p14_1.2.len) ?_)
  refine Zd rfl (Zj Zt rfl (At.bx 11 rfl) (Zy (Zv ht)) ?_)
  refine Zk rfl Tryz.call24 rfl (fun hin => bool_r (r := true) (sameTerm_ct _ _ _ _ _ (p14_1.2.rd (hin 5 _ rfl)) (RT.mono (Hle.hu _ _) ht)) (decide_eq_true rfl)) rfl ?_
  rintro _ _ ⟨rfl, rfl⟩
  refine Za (v := .bool true) rfl (Pu.pickT rfl rfl) ?_
  refine Za (v := .bool true) rfl (Pu.move rfl) ?_
  refine Zd rfl (Zj Zt rfl (At.bx 9 rfl) (Zy p14_3.2.len) ?_)
  refine Zd rfl (Zj Zt rfl (At.bx 10 rfl) (Zy (Zv hu)) ?_)
  refine Zk rfl Tryz.call24 rfl (fun hin => bool_r (r := true) (sameTerm_ct _ _ _ _ _ (p14_3.2.rd (hin 6 _ rfl)) (RT.mono (Hle.hu _ _) hu)) (decide_eq_true rfl)) rfl ?_
  rintro _ _ ⟨rfl, rfl⟩
  refine Za (v := .bool true) rfl (Pu.pickT rfl rfl) ?_
  refine Za (v := .bool true) rfl (Pu.move rfl) ?_
  refine Za (v := (r14 5)) rfl (Pu.move rfl) ?_
  refine Za (v := v) rfl (Pu.move rfl) ?_
  refine Zk rfl Tryz.call21 rfl (fun hin => bool_r (r := true) (equalI_ct _ _ _ _ _ (own_ints p14_5 (by omega) (hin 7 _ rfl)) (RIs.mono (Hle.hu _ _) hpr.rd)) (eqL_true rfl)) rfl ?_
  rintro _ _ ⟨rfl, rfl⟩
  refine Za (v := .bool true) rfl (Pu.pickT rfl rfl) ?_
  refine Za (v := .bool true) rfl (Pu.move rfl) ?_
  refine Zk rfl Tryz.call9 rfl (fun hin => awake_ct _) rfl ?_
  rintro _ _ ⟨rfl, rfl⟩
  refine Za (v := .bool true) rfl (Pu.pickT rfl rfl) ?_
  refine Za (v := .bool true) rfl (Pu.assign rfl) ?_
  refine Zb ?_
  refine Zo ?_
  refine ⟨.bool true, [], Ret.one rfl (RV.tmp rfl), Sub.nil, ?_⟩
  exact ⟨rfl, rfl⟩
 replace h29 := df h29
 refine Zq ?_
 refine Zg (Zc ?_)
 refine Zd rfl (Zj Zt rfl (At.bx 5 rfl) (Zy p14_1.2.len) ?_)
 refine Za (v := (r14 5)) rfl (Pu.move rfl) ?_
 refine Zk rfl Tryz.call29 rfl (fun hin => atP_ct _ l _ _ _ (p14_1.2.rd (hin 2 _ rfl)) (own_ints p14_5 (by omega) (hin 4 _ rfl)) hpi) rfl ?_
 rintro _ _ ⟨cs41, k41, rfl, rfl, hO41⟩
 refine Za (v := .tuple ⟨[.agg ⟨cs41⟩, .int .i64 ((atE t l).2)]⟩) rfl (Pu.move rfl) ?_
 refine Za (v := .agg ⟨cs41⟩) rfl (Pu.extract rfl rfl) ?_
 refine Za (v := .int .i64 ((atE t l).2)) rfl (Pu.extract rfl rfl) ?_
 refine Zd rfl (Zn (l := pkT 0 0 zS (.slice none 0 0) (.slice none 0 0)) Tryz.zeroValue27 rfl fun b42 => ?_)
 refine Zd rfl (Zi 0 (vs := cs41) (l := cs41) Zt rfl rfl rfl rfl hO41.len hO41.ok (spl_a (n := 36) rfl hO41.len) ?_)
 refine Za (v := .int .i64 ((atE t l).2)) rfl (Pu.assign rfl) ?_
 refine Zb ?_
 refine Zg (Zc ?_)
 refine Zd rfl (Zj Zt rfl (At.bx 7 rfl) (Zy p14_1.2.len) ?_)
 refine Za (v := (r14 5)) rfl (Pu.move rfl) ?_
 refine Zd rfl (Zj Zt rfl (At.bx 8 rfl) (Zy p14_3.2.len) ?_)
 refine Zk rfl Tryz.call30 rfl (fun hin => putPP_ct _ _ l _ _ _ _ (p14_1.2.rd (hin 4 _ rfl)) (p14_3.2.rd (hin 5 _ rfl)) (pathR.own p14_5 (by omega) (hin 6 _ rfl)) hpi) rfl ?_
 rintro _ _ ⟨cs43, k43, rfl, rfl, hO43⟩
 refine Za (v := .tuple ⟨[.agg ⟨cs43⟩, .int .i64 ((putE t l u).2)]⟩) rfl (Pu.move rfl) ?_
 refine Za (v := .agg ⟨cs43⟩) rfl (Pu.extract rfl rfl) ?_
 refine Za (v := .int .i64 ((putE t l u).2)) rfl (Pu.extract rfl rfl) ?_
 refine Zd rfl (Zn (l := pkT 0 0 zS (.slice none 0 0) (.slice none 0 0)) Tryz.zeroValue27 rfl fun b44 => ?_)
 refine Zd rfl (Zi 0 (vs := cs43) (l := cs43) Zt rfl rfl rfl rfl hO43.len hO43.ok (spl_a (n := 36) rfl hO43.len) ?_)
 refine Za (v := .int .i64 ((putE t l u).2)) rfl (Pu.assign rfl) ?_
 refine Zb ?_
 refine Zg (Zc ?_)
 refine Zd rfl (Zj Zt rfl (At.bx 2 rfl) (Zy hO41.len) ?_)
 refine Zd rfl (Zj Zt rfl (At.bx 5 rfl) (pkT_a ..) ?_)
 refine Za (v := .int .i64 ((atE t l).2)) rfl (Pu.move rfl) ?_
 refine Za (v := .int .i64 (checkR 60 8 t)) rfl (Pu.move rfl) ?_
 refine JL_call1 3 rfl Tryz.call31 rfl rfl (fun hin => bool_r (r := true) (told_ct ((atE t l).1) zT ((atE t l).2) (checkR 60 8 t) _ _ _ _ hO41 RT_zero) (by first | (rw [atE_eq, if_pos (by assumption)]; simp; done) | (rw [atE_eq, if_neg (by assumption)]; simp; done) | (rw [putE_eq, if_pos (by assumption), if_pos (by assumption)]; simp; done) | (rw [putE_eq, if_pos (by assumption), if_neg (by assumption)]; simp; done) | (rw [putE_eq, if_neg (by assumption)]; simp; done))) rfl ?_
 rintro _ _ ⟨rfl, rfl⟩
 refine Za (v := .bool true) rfl (Pu.move rfl) ?_
 refine Zd rfl (Zj Zt rfl (At.bx 0 rfl) (Zy hO43.len) ?_)
 refine Zd rfl (Zj Zt rfl (At.bx 3 rfl) (pkT_a ..) ?_)
 refine Za (v := .int .i64 ((putE t l u).2)) rfl (Pu.move rfl) ?_
 refine Za (v := .int .i64 (checkR 60 8 t)) rfl (Pu.move rfl) ?_
 refine JL_call1 1 rfl Tryz.call31 rfl rfl (fun hin => bool_r (r := true) (told_ct ((putE t l u).1) zT ((putE t l u).2) (checkR 60 8 t) _ _ _ _ hO43 RT_zero) (by first | (rw [atE_eq, if_pos (by assumption)]; simp; done) | (rw [atE_eq, if_neg (by assumption)]; simp; done) | (rw [putE_eq, if_pos (by assumption), if_pos (by assumption)]; simp; done) | (rw [putE_eq, if_pos (by assumption), if_neg (by assumption)]; simp; done) | (rw [putE_eq, if_neg (by assumption)]; simp; done))) rfl ?_
 rintro _ _ ⟨rfl, rfl⟩
 refine Za (v := .bool true) rfl (Pu.pickT rfl rfl) ?_
 refine Za (v := .bool true) rfl (Pu.move rfl) ?_
 refine Zd rfl (Zj Zt rfl (At.bx 7 rfl) (Zy p14_1.2.len) ?_)
 refine Zd rfl (Zj Zt rfl (At.bx 10 rfl) (Zy (Zv ht)) ?_)
 refine Zk rfl Tryz.call24 rfl (fun hin => bool_r (r := true) (sameTerm_ct _ _ _ _ _ (p14_1.2.rd (hin 4 _ rfl)) (RT.mono (Hle.hu _ _) ht)) (decide_eq_true rfl)) rfl ?_
 rintro _ _ ⟨rfl, rfl⟩
 refine Za (v := .bool true) rfl (Pu.pickT rfl rfl) ?_
 refine Za (v := .bool true) rfl (Pu.move rfl) ?_
 refine Zd rfl (Zj Zt rfl (At.bx 8 rfl) (Zy p14_3.2.len) ?_)
 refine Zd rfl (Zj Zt rfl (At.bx 9 rfl) (Zy (Zv hu)) ?_)
 refine Zk rfl Tryz.call24 rfl (fun hin => bool_r (r := true) (sameTerm_ct _ _ _ _ _ (p14_3.2.rd (hin 5 _ rfl)) (RT.mono (Hle.hu _ _) hu)) (decide_eq_true rfl)) rfl ?_
 rintro _ _ ⟨rfl, rfl⟩
 refine Za (v := .bool true) rfl (Pu.pickT rfl rfl) ?_
 refine Za (v := .bool true) rfl (Pu.move rfl) ?_
 refine Za (v := (r14 5)) rfl (Pu.move rfl) ?_
 refine Za (v := v) rfl (Pu.move rfl) ?_
 refine Zk rfl Tryz.call21 rfl (fun hin => bool_r (r := true) (equalI_ct _ _ _ _ _ (own_ints p14_5 (by omega) (hin 6 _ rfl)) (RIs.mono (Hle.hu _ _) hpr.rd)) (eqL_true rfl)) rfl ?_
 rintro _ _ ⟨rfl, rfl⟩
 refine Za (v := .bool true) rfl (Pu.pickT rfl rfl) ?_
 refine Za (v := .bool true) rfl (Pu.move rfl) ?_
 refine Zk rfl Tryz.call9 rfl (fun hin => awake_ct _) rfl ?_
 rintro _ _ ⟨rfl, rfl⟩
 refine Za (v := .bool true) rfl (Pu.pickT rfl rfl) ?_
 refine Za (v := .bool true) rfl (Pu.assign rfl) ?_
 refine Zb ?_
 refine Zo ?_
 refine ⟨.bool true, [], Ret.one rfl (RV.tmp rfl), Sub.nil, ?_⟩
 exact ⟨rfl, rfl⟩
end Go.Proofs.YtdeinimmmjichaaGreat.Hs
