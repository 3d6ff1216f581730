import Derived.Test.YtdeinimmmjichaaGreatPartsi
/-! Walks, printed by a program of this session's own (gen.py). -/
namespace Go.Proofs.YtdeinimmmjichaaGreat.Hs
open Go Go.Proofs
set_option maxRecDepth 100000
set_option linter.unusedVariables false
set_option linter.unusedSimpArgs false
attribute [local irreducible] JL J CT wlo
theorem patternError_ct (kind num : Int) (ref : Sm) (ks : Value) (kids : List Pt) (H : Heap) (hks : rdS RP 35 H ks kids) : CT Tryz.prog 112 ⟨[.agg ⟨pkP kind num ref ks⟩]⟩ [] H (fun v N => v = .int .i64 (pErr kind num ref kids.length) ∧ N = []) := by
 refine Zr Tryz.func112 rfl rfl ?_
 refine Zg (Zc ?_)
 refine Zd rfl (Zx (l := pkP kind num ref ks) rfl rfl fun b1 => ?_)
 refine Za (v := .int .i64 0) rfl (Pu.assign rfl) ?_
 refine Zb ?_
 refine Zg (Zc ?_)
 refine Za (v := .int .i64 0) rfl (Pu.assign rfl) ?_
 refine Zb ?_
 refine Zg ?_
 refine Zg (Zc ?_)
 refine Za (v := .pointer (some ⟨b1, 0, none⟩)) rfl (fa30_0 rfl rfl) ?_
 refine Zd rfl (Zh ty3 rfl (At.bx 0 rfl) (pkP_0 ..) ?_)
 refine Za (v := .bool (decide (kind = 3))) rfl (Pu.eql rfl rfl) ?_
 refine Zb ?_
 refine Zl (b := decide (kind = 3)) rfl (fun h2 => ?_) (fun h2 => ?_)
 ·replace h2 := dt h2
  refine Zc ?_
  refine Za (v := .int .i64 4) rfl (Pu.assign rfl) ?_
  refine Zb ?_
  refine Zg ?_
  refine Zs ?_
  refine Zg (Zc ?_)
  refine Za (v := .pointer (some ⟨b1, 0, none⟩)) rfl (fa30_0 rfl rfl) ?_
  refine Zd rfl (Zh ty3 rfl (At.bx 0 rfl) (pkP_0 ..) ?_)
  refine Zk rfl Tryz.call76 rfl (fun hin => off_ct _ _ _ _) rfl ?_
  rintro _ _ ⟨rfl, rfl⟩
  refine Za (v := .bool (decide (kind < 1 ∨ 3 < kind))) rfl (Pu.assign rfl) ?_
  refine Zb ?_
  refine Zl (b := decide (kind < 1 ∨ 3 < kind)) rfl (fun h3 => ?_) (fun h3 => ?_)
  ·replace h3 := dt h3
   refine Zg (Zc ?_)
   refine Za (v := .int .i64 3) rfl (Pu.assign rfl) ?_
   refine Zb ?_
   refine Zo ?_
   refine ⟨.int .i64 3, [], Ret.one rfl (RV.tmp rfl), Sub.nil, ?_⟩
   exact ⟨by refine congrArg (Value.int .i64) ?_; simp only [pErr]; (repeat' split) <;> first | rfl | omega | (exfalso; simp_all; done) | (exfalso; simp_all; omega) | grind, rfl⟩
  replace h3 := df h3
  refine Zg ?_
  refine J_draw mixed #[0, 1, 3, 0, 8, 0, 32, 127, 255] 7 7 1 rfl (by kernel_rfl) (fun i r4 N4 => match i with | 0 => (r4 0) = .pointer (some ⟨b1, 0, none⟩) | 1 => (r4 1) = .int .i64 kind | 2 => (r4 2) = .agg ⟨[.bool (pfN kind), .bool (pfR kind), .bool false]⟩ | 3 => (r4 3) = .pointer (some ⟨b1, 1, none⟩) | 4 => (r4 4) = .int .i64 num | 5 => (r4 5) = .pointer (some ⟨b1, 2, none⟩) | 6 => (r4 6) = .agg ⟨sC ref⟩ | _ => True) ⟨?_, ?_, ?_, ?_, ?_, ?_, ?_, trivial⟩ ?_
  ·intro ρ r4 N4 B hB hBa hp hr hr0
   have q1 : ρ 1 = .pointer (some ⟨b1, 0, none⟩) := hr0 1 (by kernel_rfl)
   obtain ⟨ρ5, rfl⟩ := Ze (uc q1 un)
   clear q1
   refine Za (v := .pointer (some ⟨b1, 0, none⟩)) rfl (fa30_0 rfl rfl) ?_
   refine Zb ?_
   exact ⟨.pointer (some ⟨b1, 0, none⟩), [], rfl, (Sub.emp Sub.refl), rfl⟩
  ·intro ρ r4 N4 B hB hBa hp hr hr0
   have q12 : ρ 12 = .pointer (some ⟨b1, 0, none⟩) := (hr 0 _ _ (by decide) rfl rfl rfl).trans (hp 0 (by decide) rfl)
   obtain ⟨ρ6, rfl⟩ := Ze (uc q12 un)
   clear q12
   refine Zd rfl (Zh ty3 rfl (At.bx 7 (Zu ((hB 0 (by decide)).trans rfl))) (pkP_0 ..) ?_)
   refine Zb ?_
   exact ⟨.int .i64 kind, [], rfl, (Sub.emp Sub.refl), rfl⟩
  ·intro ρ r4 N4 B hB hBa hp hr hr0
   have q13 : ρ 13 = .int .i64 kind := (hr 1 _ _ (by decide) rfl rfl rfl).trans (hp 1 (by decide) rfl)
   obtain ⟨ρ7, rfl⟩ := Ze (uc q13 un)
   clear q13
   refine Zk rfl Tryz.call118 rfl (fun hin => patternFields_ct _ _) rfl ?_
   rintro _ _ ⟨rfl, rfl⟩
   refine Zb ?_
   exact ⟨.agg ⟨[.bool (pfN kind), .bool (pfR kind), .bool false]⟩, [], rfl, (Sub.emp Sub.refl), rfl⟩
  ·intro ρ r4 N4 B hB hBa hp hr hr0
   have q1 : ρ 1 = .pointer (some ⟨b1, 0, none⟩) := hr0 1 (by kernel_rfl)
   obtain ⟨ρ8, rfl⟩ := Ze (uc q1 un)
   clear q1
   refine Za (v := .pointer (some ⟨b1, 1, none⟩)) rfl (fa30_1 rfl rfl) ?_
   refine Zb ?_
   exact ⟨.pointer (some ⟨b1, 1, none⟩), [], rfl, (Sub.emp Sub.refl), rfl⟩
  ·intro ρ r4 N4 B hB hBa hp hr hr0
   have q15 : ρ 15 = .pointer (some ⟨b1, 1, none⟩) := (hr 3 _ _ (by decide) rfl rfl rfl).trans (hp 3 (by decide) rfl)
   obtain ⟨ρ9, rfl⟩ := Ze (uc q15 un)
   clear q15
   refine Zd rfl (Zh ty3 rfl (At.bx 7 (Zu ((hB 0 (by decide)).trans rfl))) (pkP_1 ..) ?_)
   refine Zb ?_
   exact ⟨.int .i64 num, [], rfl, (Sub.emp Sub.refl), rfl⟩
  ·intro ρ r4 N4 B hB hBa hp hr hr0
   have q1 : ρ 1 = .pointer (some ⟨b1, 0, none⟩) := hr0 1 (by kernel_rfl)
   obtain ⟨ρ10, rfl⟩ := Ze (uc q1 un)
   clear q1
   refine Za (v := .pointer (some ⟨b1, 2, none⟩)) rfl (fa30_2 rfl rfl) ?_
   refine Zb ?_
   exact ⟨.pointer (some ⟨b1, 2, none⟩), [], rfl, (Sub.emp Sub.refl), rfl⟩
  ·intro ρ r4 N4 B hB hBa hp hr hr0
   have q17 : ρ 17 = .pointer (some ⟨b1, 2, none⟩) := (hr 5 _ _ (by decide) rfl rfl rfl).trans (hp 5 (by decide) rfl)
   obtain ⟨ρ11, rfl⟩ := Ze (uc q17 un)
   clear q17
   refine Zd rfl (Zj ty23 rfl (At.bx 7 (Zu ((hB 0 (by decide)).trans rfl))) (pkP_2 ..) ?_)
   refine Zb ?_
   exact ⟨.agg ⟨sC ref⟩, [], rfl, (Sub.emp Sub.refl), rfl⟩
  intro ρ r4 N4 hp hr hr0
  have q1 : ρ 1 = .pointer (some ⟨b1, 0, none⟩) := hr0 1 (by kernel_rfl)
  have q2 : ρ 2 = .int .i64 0 := hr0 2 (by kernel_rfl)
  have q3 : ρ 3 = .int .i64 4 := hr0 3 (by kernel_rfl)
  have q14 : ρ 14 = .agg ⟨[.bool (pfN kind), .bool (pfR kind), .bool false]⟩ := (hr 2 _ _ (by decide) rfl rfl).trans (hp 2 (by decide))
  have q16 : ρ 16 = .int .i64 num := (hr 4 _ _ (by decide) rfl rfl).trans (hp 4 (by decide))
  have q18 : ρ 18 = .agg ⟨sC ref⟩ := (hr 6 _ _ (by decide) rfl rfl).trans (hp 6 (by decide))
  obtain ⟨ρ12, rfl⟩ := Ze (uc q1 (uc q2 (uc q3 (uc q14 (uc q16 (uc q18 un))))))
  clear q1 q2 q3 q14 q16 q18
  clear hp hr hr0 
  refine Zw (M' := [(N4 0), (N4 1), (N4 2), (N4 3), (N4 4), (N4 5), (N4 6), [(b1, .cells ⟨pkP kind num ref ks⟩ 30 (0, 0))]]) Sub.refl ?_
  refine Zw (M' := [[(b1, .cells ⟨pkP kind num ref ks⟩ 30 (0, 0))]]) (Sd (Sd (Sd (Sd (Sd (Sd (Sd (Sk Sub.nil)))))))) ?_
  show JL _ _ _ [_, _] _ _ _
  refine Zk rfl Tryz.call109 rfl (fun hin => clash_ct _ _ _ _ _ _ _) rfl ?_
  rintro _ _ ⟨rfl, rfl⟩
  refine Za (v := .bool (clashB (pfN kind) (pfR kind) false num ref 0)) rfl (Pu.assign rfl) ?_
  refine Zb ?_
  refine Zl (b := clashB (pfN kind) (pfR kind) false num ref 0) rfl (fun h13 => ?_) (fun h13 => ?_)
  ·refine Zg (Zc ?_)
   refine Za (v := .int .i64 7) rfl (Pu.assign rfl) ?_
   refine Zb ?_
   refine Zo ?_
   refine ⟨.int .i64 7, [], Ret.one rfl (RV.tmp rfl), Sub.nil, ?_⟩
   exact ⟨by refine congrArg (Value.int .i64) ?_; simp only [pErr]; (repeat' split) <;> first | rfl | omega | (exfalso; simp_all; done) | (exfalso; simp_all; omega) | grind, rfl⟩
  refine Zg (Zc ?_)
  refine Za (v := .pointer (some ⟨b1, 34, none⟩)) rfl (fa30_3 rfl rfl) ?_
  refine Zd rfl (Zh ty28 rfl (At.bx 0 rfl) (pkP_34 ..) ?_)
  obtain ⟨a14, cap14, hv14⟩ := hks.sl
  have hle14 := hks.le
  refine Za (v := .int .i64 ((kids.length : Int))) rfl (Pu.lenSl Tryz.runUnderlying28 hv14) ?_
  refine Za (v := .int .i64 4) rfl (Pu.move rfl) ?_
  refine Za (v := .bool (decide (4 < (kids.length : Int)))) rfl (Pu.gtr rfl rfl) ?_
  refine Za (v := .bool (decide (4 < (kids.length : Int)))) rfl (Pu.assign rfl) ?_
  refine Zb ?_
  refine Zl (b := decide (4 < (kids.length : Int))) rfl (fun h15 => ?_) (fun h15 => ?_)
  ·replace h15 := dt h15
   refine Zg (Zc ?_)
   refine Za (v := .int .i64 2) rfl (Pu.assign rfl) ?_
   refine Zb ?_
   refine Zo ?_
   refine ⟨.int .i64 2, [], Ret.one rfl (RV.tmp rfl), Sub.nil, ?_⟩
   exact ⟨by refine congrArg (Value.int .i64) ?_; simp only [pErr]; (repeat' split) <;> first | rfl | omega | (exfalso; simp_all; done) | (exfalso; simp_all; omega) | grind, rfl⟩
  replace h15 := df h15
  refine Zg ?_
  refine J_cut (fun ρ M => ρ 1 = .pointer (some ⟨b1, 0, none⟩) ∧ ρ 2 = .int .i64 0 ∧ ρ 26 = .bool ((decide (kind = 2)) && (decide (num < 0 ∨ 1073741824 < num))) ∧ M = [[(b1, .cells ⟨pkP kind num ref ks⟩ 30 (0, 0))]]) ?_ ?_
  ·refine Zc ?_
   refine Za (v := .pointer (some ⟨b1, 0, none⟩)) rfl (fa30_0 rfl rfl) ?_
   refine Zd rfl (Zh ty3 rfl (At.bx 0 rfl) (pkP_0 ..) ?_)
   refine Za (v := .bool (decide (kind = 2))) rfl (Pu.eql rfl rfl) ?_
   refine Za (v := .bool (decide (kind = 2))) rfl (Pu.move rfl) ?_
   cases h16 : (decide (kind = 2)) with
   | true =>
    replace h16 := dt h16
    refine Za (v := .pointer (some ⟨b1, 1, none⟩)) rfl (fa30_1 rfl rfl) ?_
    refine Zd rfl (Zh ty3 rfl (At.bx 0 rfl) (pkP_1 ..) ?_)
    refine Zk rfl Tryz.call76 rfl (fun hin => off_ct _ _ _ _) rfl ?_
    rintro _ _ ⟨rfl, rfl⟩
    refine Za (v := .bool (decide (num < 0 ∨ 1073741824 < num))) rfl (Pu.pickT rfl rfl) ?_
    refine Za (v := .bool (decide (num < 0 ∨ 1073741824 < num))) rfl (Pu.assign rfl) ?_
    refine Zb ?_
    first | exact ⟨rfl, rfl, rfl, rfl⟩ | (exfalso; omega)
   | false =>
    replace h16 := df h16
    refine Zf rfl ?_
    refine Zf rfl ?_
    refine Zf rfl ?_
    refine Za (v := .bool false) rfl (Pu.pickF rfl rfl) ?_
    refine Za (v := .bool false) rfl (Pu.assign rfl) ?_
    refine Zb ?_
    first | exact ⟨rfl, rfl, rfl, rfl⟩ | (exfalso; omega)
  rintro ρ17 _ ⟨e18, e19, e20, rfl⟩
  obtain ⟨ρ21, rfl⟩ := Ze (uc e18 (uc e19 (uc e20 un)))
  clear e18 e19 e20
  refine Zl (b := (decide (kind = 2)) && (decide (num < 0 ∨ 1073741824 < num))) rfl (fun h22 => ?_) (fun h22 => ?_)
  ·obtain ⟨h22a, h22b⟩ := andT h22
   replace h22a := dt h22a
   replace h22b := dt h22b
   refine Zq ?_
   refine Zl (b := (decide (kind = 2)) && (decide (num < 0 ∨ 1073741824 < num))) rfl (fun h23 => ?_) (fun h23 => ?_)
   ·obtain ⟨h23a, h23b⟩ := andT h23
    replace h23a := dt h23a
    replace h23b := dt h23b
    refine Zg (Zc ?_)
    refine Za (v := .int .i64 3) rfl (Pu.assign rfl) ?_
    refine Zb ?_
    refine Zo ?_
    refine ⟨.int .i64 3, [], Ret.one rfl (RV.tmp rfl), Sub.nil, ?_⟩
    exact ⟨by refine congrArg (Value.int .i64) ?_; simp only [pErr]; (repeat' split) <;> first | rfl | omega | (exfalso; simp_all; done) | (exfalso; simp_all; omega) | grind, rfl⟩
   refine Zq ?_
   refine Zg (Zc ?_)
   refine Za (v := .int .i64 0) rfl (Pu.assign rfl) ?_
   refine Zb ?_
   refine Zo ?_
   refine ⟨.int .i64 0, [], Ret.one rfl (RV.tmp rfl), Sub.nil, ?_⟩
   exact ⟨by refine congrArg (Value.int .i64) ?_; simp only [pErr]; (repeat' split) <;> first | rfl | omega | (exfalso; simp_all; done) | (exfalso; simp_all; omega) | grind, rfl⟩
  refine J_weak (N := fun ρ M => ρ 2 = .int .i64 0 ∧ ρ 26 = .bool ((decide (kind = 3)) && (decide (num < 0 ∨ 7 < num))) ∧ M = [[(b1, .cells ⟨pkP kind num ref ks⟩ 30 (0, 0))]]) ?_ ?_
  ·refine Zc ?_
   refine Za (v := .pointer (some ⟨b1, 0, none⟩)) rfl (fa30_0 rfl rfl) ?_
   refine Zd rfl (Zh ty3 rfl (At.bx 0 rfl) (pkP_0 ..) ?_)
   refine Za (v := .bool (decide (kind = 3))) rfl (Pu.eql rfl rfl) ?_
   refine Za (v := .bool (decide (kind = 3))) rfl (Pu.move rfl) ?_
   cases h24 : (decide (kind = 3)) with
   | true =>
    replace h24 := dt h24
    refine Za (v := .pointer (some ⟨b1, 1, none⟩)) rfl (fa30_1 rfl rfl) ?_
    refine Zd rfl (Zh ty3 rfl (At.bx 0 rfl) (pkP_1 ..) ?_)
    refine Zk rfl Tryz.call76 rfl (fun hin => off_ct _ _ _ _) rfl ?_
    rintro _ _ ⟨rfl, rfl⟩
    refine Za (v := .bool (decide (num < 0 ∨ 7 < num))) rfl (Pu.pickT rfl rfl) ?_
    refine Za (v := .bool (decide (num < 0 ∨ 7 < num))) rfl (Pu.assign rfl) ?_
    refine Zb ?_
    first | exact ⟨rfl, rfl, rfl⟩ | (exfalso; omega)
   | false =>
    replace h24 := df h24
    refine Zf rfl ?_
    refine Zf rfl ?_
    refine Zf rfl ?_
    refine Za (v := .bool false) rfl (Pu.pickF rfl rfl) ?_
    refine Za (v := .bool false) rfl (Pu.assign rfl) ?_
    refine Zb ?_
    first | exact ⟨rfl, rfl, rfl⟩ | (exfalso; omega)
  rintro ρ25 _ ⟨e26, e27, rfl⟩
  obtain ⟨ρ28, rfl⟩ := Ze (uc e26 (uc e27 un))
  clear e26 e27
  refine Zl (b := (decide (kind = 3)) && (decide (num < 0 ∨ 7 < num))) rfl (fun h29 => ?_) (fun h29 => ?_)
  ·obtain ⟨h29a, h29b⟩ := andT h29
   replace h29a := dt h29a
   replace h29b := dt h29b
   refine Zg (Zc ?_)
   refine Za (v := .int .i64 3) rfl (Pu.assign rfl) ?_
   refine Zb ?_
   refine Zo ?_
   refine ⟨.int .i64 3, [], Ret.one rfl (RV.tmp rfl), Sub.nil, ?_⟩
   exact ⟨by refine congrArg (Value.int .i64) ?_; simp only [pErr]; (repeat' split) <;> first | rfl | omega | (exfalso; simp_all; done) | (exfalso; simp_all; omega) | grind, rfl⟩
  refine Zq ?_
  refine Zg (Zc ?_)
  refine Za (v := .int .i64 0) rfl (Pu.assign rfl) ?_
  refine Zb ?_
  refine Zo ?_
  refine ⟨.int .i64 0, [], Ret.one rfl (RV.tmp rfl), Sub.nil, ?_⟩
  exact ⟨by refine congrArg (Value.int .i64) ?_; simp only [pErr]; (repeat' split) <;> first | rfl | omega | (exfalso; simp_all; done) | (exfalso; simp_all; omega) | grind, rfl⟩
 replace h2 := df h2
 refine Zq ?_
 refine Zg ?_
 refine Zs ?_
 refine Zg (Zc ?_)
 refine Za (v := .pointer (some ⟨b1, 0, none⟩)) rfl (fa30_0 rfl rfl) ?_
 refine Zd rfl (Zh ty3 rfl (At.bx 0 rfl) (pkP_0 ..) ?_)
 refine Zk rfl Tryz.call76 rfl (fun hin => off_ct _ _ _ _) rfl ?_
 rintro _ _ ⟨rfl, rfl⟩
 refine Za (v := .bool (decide (kind < 1 ∨ 3 < kind))) rfl (Pu.assign rfl) ?_
 refine Zb ?_
 refine Zl (b := decide (kind < 1 ∨ 3 < kind)) rfl (fun h30 => ?_) (fun h30 => ?_)
 ·replace h30 := dt h30
  refine Zg (Zc ?_)
  refine Za (v := .int .i64 3) rfl (Pu.assign rfl) ?_
  refine Zb ?_
  refine Zo ?_
  refine ⟨.int .i64 3, [], Ret.one rfl (RV.tmp rfl), Sub.nil, ?_⟩
  exact ⟨by refine congrArg (Value.int .i64) ?_; simp only [pErr]; (repeat' split) <;> first | rfl | omega | (exfalso; simp_all; done) | (exfalso; simp_all; omega) | grind, rfl⟩
 replace h30 := df h30
 refine Zg ?_
 refine J_draw mixed #[0, 1, 3, 0, 8, 0, 32, 127, 255] 7 7 1 rfl (by kernel_rfl) (fun i r31 N31 => match i with | 0 => (r31 0) = .pointer (some ⟨b1, 0, none⟩) | 1 => (r31 1) = .int .i64 kind | 2 => (r31 2) = .agg ⟨[.bool (pfN kind), .bool (pfR kind), .bool false]⟩ | 3 => (r31 3) = .pointer (some ⟨b1, 1, none⟩) | 4 => (r31 4) = .int .i64 num | 5 => (r31 5) = .pointer (some ⟨b1, 2, none⟩) | 6 => (r31 6) = .agg ⟨sC ref⟩ | _ => True) ⟨?_, ?_, ?_, ?_, ?_, ?_, ?_, trivial⟩ ?_
 ·intro ρ r31 N31 B hB hBa hp hr hr0
  have q1 : ρ 1 = .pointer (some ⟨b1, 0, none⟩) := hr0 1 (by kernel_rfl)
  obtain ⟨ρ32, rfl⟩ := Ze (uc q1 un)
  clear q1
  refine Za (v := .pointer (some ⟨b1, 0, none⟩)) rfl (fa30_0 rfl rfl) ?_
  refine Zb ?_
  exact ⟨.pointer (some ⟨b1, 0, none⟩), [], rfl, (Sub.emp Sub.refl), rfl⟩
 ·intro ρ r31 N31 B hB hBa hp hr hr0
  have q12 : ρ 12 = .pointer (some ⟨b1, 0, none⟩) := (hr 0 _ _ (by decide) rfl rfl rfl).trans (hp 0 (by decide) rfl)
  obtain ⟨ρ33, rfl⟩ := Ze (uc q12 un)
  clear q12
  refine Zd rfl (Zh ty3 rfl (At.bx 7 (Zu ((hB 0 (by decide)).trans rfl))) (pkP_0 ..) ?_)
  refine Zb ?_
  exact ⟨.int .i64 kind, [], rfl, (Sub.emp Sub.refl), rfl⟩
 ·intro ρ r31 N31 B hB hBa hp hr hr0
  have q13 : ρ 13 = .int .i64 kind := (hr 1 _ _ (by decide) rfl rfl rfl).trans (hp 1 (by decide) rfl)
  obtain ⟨ρ34, rfl⟩ := Ze (uc q13 un)
  clear q13
  refine Zk rfl Tryz.call118 rfl (fun hin => patternFields_ct _ _) rfl ?_
  rintro _ _ ⟨rfl, rfl⟩
  refine Zb ?_
  exact ⟨.agg ⟨[.bool (pfN kind), .bool (pfR kind), .bool false]⟩, [], rfl, (Sub.emp Sub.refl), rfl⟩
 ·intro ρ r31 N31 B hB hBa hp hr hr0
  have q1 : ρ 1 = .pointer (some ⟨b1, 0, none⟩) := hr0 1 (by kernel_rfl)
  obtain ⟨ρ35, rfl⟩ := Ze (uc q1 un)
  clear q1
  refine Za (v := .pointer (some ⟨b1, 1, none⟩)) rfl (fa30_1 rfl rfl) ?_
  refine Zb ?_
  exact ⟨.pointer (some ⟨b1, 1, none⟩), [], rfl, (Sub.emp Sub.refl), rfl⟩
 ·intro ρ r31 N31 B hB hBa hp hr hr0
  have q15 : ρ 15 = .pointer (some ⟨b1, 1, none⟩) := (hr 3 _ _ (by decide) rfl rfl rfl).trans (hp 3 (by decide) rfl)
  obtain ⟨ρ36, rfl⟩ := Ze (uc q15 un)
  clear q15
  refine Zd rfl (Zh ty3 rfl (At.bx 7 (Zu ((hB 0 (by decide)).trans rfl))) (pkP_1 ..) ?_)
  refine Zb ?_
  exact ⟨.int .i64 num, [], rfl, (Sub.emp Sub.refl), rfl⟩
 ·intro ρ r31 N31 B hB hBa hp hr hr0
  have q1 : ρ 1 = .pointer (some ⟨b1, 0, none⟩) := hr0 1 (by kernel_rfl)
  obtain ⟨ρ37, rfl⟩ := Ze (uc q1 un)
  clear q1
  refine Za (v := .pointer (some ⟨b1, 2, none⟩)) rfl (fa30_2 rfl rfl) ?_
  refine Zb ?_
  exact ⟨.pointer (some ⟨b1, 2, none⟩), [], rfl, (Sub.emp Sub.refl), rfl⟩
 ·intro ρ r31 N31 B hB hBa hp hr hr0
  have q17 : ρ 17 = .pointer (some ⟨b1, 2, none⟩) := (hr 5 _ _ (by decide) rfl rfl rfl).trans (hp 5 (by decide) rfl)
  obtain ⟨ρ38, rfl⟩ := Ze (uc q17 un)
  clear q17
  refine Zd rfl (Zj ty23 rfl (At.bx 7 (Zu ((hB 0 (by decide)).trans rfl))) (pkP_2 ..) ?_)
  refine Zb ?_
  exact ⟨.agg ⟨sC ref⟩, [], rfl, (Sub.emp Sub.refl), rfl⟩
 intro ρ r31 N31 hp hr hr0
 have q1 : ρ 1 = .pointer (some ⟨b1, 0, none⟩) := hr0 1 (by kernel_rfl)
 have q2 : ρ 2 = .int .i64 0 := hr0 2 (by kernel_rfl)
 have q3 : ρ 3 = .int .i64 0 := hr0 3 (by kernel_rfl)
 have q14 : ρ 14 = .agg ⟨[.bool (pfN kind), .bool (pfR kind), .bool false]⟩ := (hr 2 _ _ (by decide) rfl rfl).trans (hp 2 (by decide))
 have q16 : ρ 16 = .int .i64 num := (hr 4 _ _ (by decide) rfl rfl).trans (hp 4 (by decide))
 have q18 : ρ 18 = .agg ⟨sC ref⟩ := (hr 6 _ _ (by decide) rfl rfl).trans (hp 6 (by decide))
 obtain ⟨ρ39, rfl⟩ := Ze (uc q1 (uc q2 (uc q3 (uc q14 (uc q16 (uc q18 un))))))
 clear q1 q2 q3 q14 q16 q18
 clear hp hr hr0 
 refine Zw (M' := [(N31 0), (N31 1), (N31 2), (N31 3), (N31 4), (N31 5), (N31 6), [(b1, .cells ⟨pkP kind num ref ks⟩ 30 (0, 0))]]) Sub.refl ?_
 refine Zw (M' := [[(b1, .cells ⟨pkP kind num ref ks⟩ 30 (0, 0))]]) (Sd (Sd (Sd (Sd (Sd (Sd (Sd (Sk Sub.nil)))))))) ?_
 show JL _ _ _ [_, _] _ _ _
 refine Zk rfl Tryz.call109 rfl (fun hin => clash_ct _ _ _ _ _ _ _) rfl ?_
 rintro _ _ ⟨rfl, rfl⟩
 refine Za (v := .bool (clashB (pfN kind) (pfR kind) false num ref 0)) rfl (Pu.assign rfl) ?_
 refine Zb ?_
 refine Zl (b := clashB (pfN kind) (pfR kind) false num ref 0) rfl (fun h40 => ?_) (fun h40 => ?_)
 ·refine Zg (Zc ?_)
  refine Za (v := .int .i64 7) rfl (Pu.assign rfl) ?_
  refine Zb ?_
  refine Zo ?_
  refine ⟨.int .i64 7, [], Ret.one rfl (RV.tmp rfl), Sub.nil, ?_⟩
  exact ⟨by refine congrArg (Value.int .i64) ?_; simp only [pErr]; (repeat' split) <;> first | rfl | omega | (exfalso; simp_all; done) | (exfalso; simp_all; omega) | grind, rfl⟩
 refine Zg (Zc ?_)
 refine Za (v := .pointer (some ⟨b1, 34, none⟩)) rfl (fa30_3 rfl rfl) ?_
 refine Zd rfl (Zh ty28 rfl (At.bx 0 rfl) (pkP_34 ..) ?_)
 obtain ⟨a41, cap41, hv41⟩ := hks.sl
 have hle41 := hks.le
 refine Za (v := .int .i64 ((kids.length : Int))) rfl (Pu.lenSl Tryz.runUnderlying28 hv41) ?_
 refine Za (v := .int .i64 0) rfl (Pu.move rfl) ?_
 refine Za (v := .bool (decide (0 < (kids.length : Int)))) rfl (Pu.gtr rfl rfl) ?_
 refine Za (v := .bool (decide (0 < (kids.length : Int)))) rfl (Pu.assign rfl) ?_
 refine Zb ?_
 refine Zl (b := decide (0 < (kids.length : Int))) rfl (fun h42 => ?_) (fun h42 => ?_)
 ·replace h42 := dt h42
  refine Zg (Zc ?_)
  refine Za (v := .int .i64 2) rfl (Pu.assign rfl) ?_
  refine Zb ?_
  refine Zo ?_
  refine ⟨.int .i64 2, [], Ret.one rfl (RV.tmp rfl), Sub.nil, ?_⟩
  exact ⟨by refine congrArg (Value.int .i64) ?_; simp only [pErr]; (repeat' split) <;> first | rfl | omega | (exfalso; simp_all; done) | (exfalso; simp_all; omega) | grind, rfl⟩
 replace h42 := df h42
 refine Zg ?_
 refine J_cut (fun ρ M => ρ 1 = .pointer (some ⟨b1, 0, none⟩) ∧ ρ 2 = .int .i64 0 ∧ ρ 26 = .bool ((decide (kind = 2)) && (decide (num < 0 ∨ 1073741824 < num))) ∧ M = [[(b1, .cells ⟨pkP kind num ref ks⟩ 30 (0, 0))]]) ?_ ?_
 ·refine Zc ?_
  refine Za (v := .pointer (some ⟨b1, 0, none⟩)) rfl (fa30_0 rfl rfl) ?_
  refine Zd rfl (Zh ty3 rfl (At.bx 0 rfl) (pkP_0 ..) ?_)
  refine Za (v := .bool (decide (kind = 2))) rfl (Pu.eql rfl rfl) ?_
  refine Za (v := .bool (decide (kind = 2))) rfl (Pu.move rfl) ?_
  cases h43 : (decide (kind = 2)) with
  | true =>
   replace h43 := dt h43
   refine Za (v := .pointer (some ⟨b1, 1, none⟩)) rfl (fa30_1 rfl rfl) ?_
   refine Zd rfl (Zh ty3 rfl (At.bx 0 rfl) (pkP_1 ..) ?_)
   refine Zk rfl Tryz.call76 rfl (fun hin => off_ct _ _ _ _) rfl ?_
   rintro _ _ ⟨rfl, rfl⟩
   refine Za (v := .bool (decide (num < 0 ∨ 1073741824 < num))) rfl (Pu.pickT rfl rfl) ?_
   refine Za (v := .bool (decide (num < 0 ∨ 1073741824 < num))) rfl (Pu.assign rfl) ?_
   refine Zb ?_
   first | exact ⟨rfl, rfl, rfl, rfl⟩ | (exfalso; omega)
  | false =>
   replace h43 := df h43
   refine Zf rfl ?_
   refine Zf rfl ?_
   refine Zf rfl ?_
   refine Za (v := .bool false) rfl (Pu.pickF rfl rfl) ?_
   refine Za (v := .bool false) rfl (Pu.assign rfl) ?_
   refine Zb ?_
   first | exact ⟨rfl, rfl, rfl, rfl⟩ | (exfalso; omega)
 rintro ρ44 _ ⟨e45, e46, e47, rfl⟩
 obtain ⟨ρ48, rfl⟩ := Ze (uc e45 (uc e46 (uc e47 un)))
 clear e45 e46 e47
 refine Zl (b := (decide (kind = 2)) && (decide (num < 0 ∨ 1073741824 < num))) rfl (fun h49 => ?_) (fun h49 => ?_)
 ·obtain ⟨h49a, h49b⟩ := andT h49
  replace h49a := dt h49a
  replace h49b := dt h49b
  refine Zq ?_
  refine Zl (b := (decide (kind = 2)) && (decide (num < 0 ∨ 1073741824 < num))) rfl (fun h50 => ?_) (fun h50 => ?_)
  ·obtain ⟨h50a, h50b⟩ := andT h50
   replace h50a := dt h50a
   replace h50b := dt h50b
   refine Zg (Zc ?_)
   refine Za (v := .int .i64 3) rfl (Pu.assign rfl) ?_
   refine Zb ?_
   refine Zo ?_
   refine ⟨.int .i64 3, [], Ret.one rfl (RV.tmp rfl), Sub.nil, ?_⟩
   exact ⟨by refine congrArg (Value.int .i64) ?_; simp only [pErr]; (repeat' split) <;> first | rfl | omega | (exfalso; simp_all; done) | (exfalso; simp_all; omega) | grind, rfl⟩
  refine Zq ?_
  refine Zg (Zc ?_)
  refine Za (v := .int .i64 0) rfl (Pu.assign rfl) ?_
  refine Zb ?_
  refine Zo ?_
  refine ⟨.int .i64 0, [], Ret.one rfl (RV.tmp rfl), Sub.nil, ?_⟩
  exact ⟨by refine congrArg (Value.int .i64) ?_; simp only [pErr]; (repeat' split) <;> first | rfl | omega | (exfalso; simp_all; done) | (exfalso; simp_all; omega) | grind, rfl⟩
 refine J_weak (N := fun ρ M => ρ 2 = .int .i64 0 ∧ ρ 26 = .bool ((decide (kind = 3)) && (decide (num < 0 ∨ 7 < num))) ∧ M = [[(b1, .cells ⟨pkP kind num ref ks⟩ 30 (0, 0))]]) ?_ ?_
 ·refine Zc ?_
  refine Za (v := .pointer (some ⟨b1, 0, none⟩)) rfl (fa30_0 rfl rfl) ?_
  refine Zd rfl (Zh ty3 rfl (At.bx 0 rfl) (pkP_0 ..) ?_)
  refine Za (v := .bool (decide (kind = 3))) rfl (Pu.eql rfl rfl) ?_
  refine Za (v := .bool (decide (kind = 3))) rfl (Pu.move rfl) ?_
  cases h51 : (decide (kind = 3)) with
  | true =>
   replace h51 := dt h51
   refine Za (v := .pointer (some ⟨b1, 1, none⟩)) rfl (fa30_1 rfl rfl) ?_
   refine Zd rfl (Zh ty3 rfl (At.bx 0 rfl) (pkP_1 ..) ?_)
   refine Zk rfl Tryz.call76 rfl (fun hin => off_ct _ _ _ _) rfl ?_
   rintro _ _ ⟨rfl, rfl⟩
   refine Za (v := .bool (decide (num < 0 ∨ 7 < num))) rfl (Pu.pickT rfl rfl) ?_
   refine Za (v := .bool (decide (num < 0 ∨ 7 < num))) rfl (Pu.assign rfl) ?_
   refine Zb ?_
   first | exact ⟨rfl, rfl, rfl⟩ | (exfalso; omega)
  | false =>
   replace h51 := df h51
   refine Zf rfl ?_
   refine Zf rfl ?_
   refine Zf rfl ?_
   refine Za (v := .bool false) rfl (Pu.pickF rfl rfl) ?_
   refine Za (v := .bool false) rfl (Pu.assign rfl) ?_
   refine Zb ?_
   first | exact ⟨rfl, rfl, rfl⟩ | (exfalso; omega)
 rintro ρ52 _ ⟨e53, e54, rfl⟩
 obtain ⟨ρ55, rfl⟩ := Ze (uc e53 (uc e54 un))
 clear e53 e54
 refine Zl (b := (decide (kind = 3)) && (decide (num < 0 ∨ 7 < num))) rfl (fun h56 => ?_) (fun h56 => ?_)
 ·obtain ⟨h56a, h56b⟩ := andT h56
  replace h56a := dt h56a
  replace h56b := dt h56b
  refine Zg (Zc ?_)
  refine Za (v := .int .i64 3) rfl (Pu.assign rfl) ?_
  refine Zb ?_
  refine Zo ?_
  refine ⟨.int .i64 3, [], Ret.one rfl (RV.tmp rfl), Sub.nil, ?_⟩
  exact ⟨by refine congrArg (Value.int .i64) ?_; simp only [pErr]; (repeat' split) <;> first | rfl | omega | (exfalso; simp_all; done) | (exfalso; simp_all; omega) | grind, rfl⟩
 refine Zq ?_
 refine Zg (Zc ?_)
 refine Za (v := .int .i64 0) rfl (Pu.assign rfl) ?_
 refine Zb ?_
 refine Zo ?_
 refine ⟨.int .i64 0, [], Ret.one rfl (RV.tmp rfl), Sub.nil, ?_⟩
 exact ⟨by refine congrArg (Value.int .i64) ?_; simp only [pErr]; (repeat' split) <;> first | rfl | omega | (exfalso; simp_all; done) | (exfalso; simp_all; omega) | grind, rfl⟩
theorem patternsError_ct : ∀ (p : Pt) (cs : List Value) (H : Heap), RP H cs p → CT Tryz.prog 93 ⟨[.agg ⟨cs⟩]⟩ [] H (fun v N => v = .int .i64 (pErrs p) ∧ N = []) := by
 intro p
 induction p using Pt.ind with
 | h kind num ref kids ih =>
 intro cs H hp
 obtain ⟨ks, rfl, hk, hn, hks⟩ := RP_mk.1 hp
 refine Zr Tryz.func93 rfl rfl ?_
 refine Zg (Zc ?_)
 refine Zd rfl (Zx (l := pkP kind num ref ks) rfl rfl fun b1 => ?_)
 refine Za (v := .int .i64 0) rfl (Pu.assign rfl) ?_
 refine Zb ?_
 refine Zg (Zc ?_)
 refine Zd rfl (Zj ty30 rfl (At.bx 0 rfl) (pkP_a ..) ?_)
 refine Zk rfl Tryz.call112 rfl (fun hin => patternError_ct _ _ _ _ _ _ (RPs.mono (Hle.hu _ _) hks)) rfl ?_
 rintro _ _ ⟨rfl, rfl⟩
 refine Za (v := .int .i64 (pErr kind num ref kids.length)) rfl (Pu.assign rfl) ?_
 refine Zb ?_
 refine Zg ?_
 refine Zg (Zc ?_)
 refine Za (v := .int .i64 0) rfl (Pu.assign rfl) ?_
 refine Zb ?_
 refine Zs ?_
 refine J_loop (fun k ρ M => ∃ (j : Nat) (e : Int), ρ 1 = .pointer (some ⟨b1, 0, none⟩) ∧ ρ 2 = .int .i64 0 ∧ ρ 3 = .int .i64 e ∧ ρ 4 = .int .i64 ((j : Int)) ∧ Sub [[(b1, .cells ⟨pkP kind num ref ks⟩ 30 (0, 0))]] M ∧ j ≤ kids.length ∧ (if e = 0 then pErrsL (kids.drop j) else e) = pErrs (.mk kind num ref kids) ∧ k = kids.length - j) _ ⟨0, (pErr kind num ref kids.length), rfl, rfl, rfl, rfl, (Sk Sub.nil), Nat.zero_le _, (by rw [pErrs]; rfl), rfl⟩ ?_
 rintro _ ρ2 _ ⟨j, e, e3, e4, e5, e6, hm7, hj, hinv, rfl⟩
 obtain ⟨ρ8, rfl⟩ := Ze (uc e3 (uc e4 (uc e5 (uc e6 un))))
 clear e3 e4 e5 e6
 refine J_sub hm7 ?_
 have hlen := hks.le
 refine Zg ?_
 refine J_cut (fun ρ M => ρ 1 = .pointer (some ⟨b1, 0, none⟩) ∧ ρ 2 = .int .i64 0 ∧ ρ 3 = .int .i64 e ∧ ρ 4 = .int .i64 ((j : Int)) ∧ ρ 15 = .bool ((decide ((j : Int) < (kids.length : Int))) && (decide (e = 0))) ∧ M = [[(b1, .cells ⟨pkP kind num ref ks⟩ 30 (0, 0))]]) ?_ ?_
 ·refine Zc ?_
  refine Za (v := .int .i64 ((j : Int))) rfl (Pu.move rfl) ?_
  refine Za (v := .pointer (some ⟨b1, 34, none⟩)) rfl (fa30_3 rfl rfl) ?_
  refine Zd rfl (Zh ty28 rfl (At.bx 0 rfl) (pkP_34 ..) ?_)
  obtain ⟨a9, cap9, hv9⟩ := hks.sl
  have hle9 := hks.le
  refine Za (v := .int .i64 ((kids.length : Int))) rfl (Pu.lenSl Tryz.runUnderlying28 hv9) ?_
  refine Za (v := .bool (decide ((j : Int) < (kids.length : Int)))) rfl (Pu.lss rfl rfl) ?_
  refine Za (v := .bool (decide ((j : Int) < (kids.length : Int)))) rfl (Pu.move rfl) ?_
  cases h10 : (decide ((j : Int) < (kids.length : Int))) with
  | true =>
   replace h10 := dt h10
   have h10n : j < kids.length := by omega
   refine Za (v := .int .i64 e) rfl (Pu.move rfl) ?_
   refine Za (v := .bool (decide (e = 0))) rfl (Pu.eql rfl rfl) ?_
   refine Za (v := .bool (decide (e = 0))) rfl (Pu.pickT rfl rfl) ?_
   refine Zb ?_
   first | exact ⟨rfl, rfl, rfl, rfl, rfl, rfl⟩ | (exfalso; omega)
  | false =>
   replace h10 := df h10
   have h10n : kids.length ≤ j := by omega
   refine Zf rfl ?_
   refine Zf rfl ?_
   refine Za (v := .bool false) rfl (Pu.pickF rfl rfl) ?_
   refine Zb ?_
   first | exact ⟨rfl, rfl, rfl, rfl, rfl, rfl⟩ | (exfalso; omega)
 rintro ρ11 _ ⟨e12, e13, e14, e15, e16, rfl⟩
 obtain ⟨ρ17, rfl⟩ := Ze (uc e12 (uc e13 (uc e14 (uc e15 (uc e16 un)))))
 clear e12 e13 e14 e15 e16
 refine Zl (b := (decide ((j : Int) < (kids.length : Int))) && (decide (e = 0))) rfl (fun h18 => ?_) (fun h18 => ?_)
 ·obtain ⟨h18a, h18b⟩ := andT h18
  replace h18a := dt h18a
  have h18an : j < kids.length := by omega
  replace h18b := dt h18b
  refine Zq ?_
  refine Zg ?_
  refine Zs ?_
  refine Zc ?_
  refine Za (v := .pointer (some ⟨b1, 34, none⟩)) rfl (fa30_3 rfl rfl) ?_
  refine Zd rfl (Zh ty28 rfl (At.bx 0 rfl) (pkP_34 ..) ?_)
  refine Za (v := .int .i64 ((j : Int))) rfl (Pu.move rfl) ?_
  obtain ⟨b19, o19, cap19, row19, T19, fr19, cs19, hv19, hb19, hs19, hE19⟩ := hks.get j (by first | assumption | omega | decide | simp)
  refine Za (v := .pointer (some ⟨b19, o19 + j * 35, none⟩)) rfl (Pu.idx j Tryz.runUnderlying28 ty30 hv19 rfl rfl (by first | assumption | omega | decide | simp)) ?_
  refine Zd rfl (Zj ty30 rfl (At.im hb19) hs19 ?_)
  refine Zk rfl Tryz.call93 rfl (fun hin => ih _ (List.getElem_mem h18an) _ _ (RP.mono (Hle.hu _ _) hE19)) rfl ?_
  rintro _ _ ⟨rfl, rfl⟩
  refine Za (v := .int .i64 (pErrs (kids[j]))) rfl (Pu.assign rfl) ?_
  refine Zb ?_
  refine Zc ?_
  refine Za (v := .int .i64 ((j : Int))) rfl (Pu.move rfl) ?_
  refine Za (v := .int .i64 (((j + 1 : Nat) : Int))) rfl (Pu.inc rfl rfl (by omega)) ?_
  refine Za (v := .int .i64 (((j + 1 : Nat) : Int))) rfl (Pu.assign rfl) ?_
  refine Zb ?_
  refine ⟨_, ?_, (j + 1), (pErrs (kids[j])), rfl, rfl, rfl, rfl, (Sk Sub.nil), ?_, ?_, rfl⟩
  ·omega
  ·omega
  rw [if_pos (by assumption), dropc h18an, pErrsL] at hinv; exact hinv
 refine J_exit _ rfl ?_
 refine Zg (Zc ?_)
 refine Za (v := .int .i64 e) rfl (Pu.move rfl) ?_
 refine Za (v := .int .i64 e) rfl (Pu.assign rfl) ?_
 refine Zb ?_
 refine Zo ?_
 refine ⟨.int .i64 e, [], Ret.one rfl (RV.tmp rfl), Sub.nil, ?_⟩
 refine ⟨?_, rfl⟩
 rw [← hinv]; by_cases he : e = 0
 ·have hj2 : kids.length ≤ j := by
   apply Nat.le_of_not_lt; intro hlt; have : (j : Int) < (kids.length : Int) := by omega
   simp_all
  rw [if_pos he, dropn hj2, he]; rfl
 rw [if_neg he]
theorem patternErrorR_ct : ∀ (p : Pt) (cs : List Value) (H : Heap), RP H cs p → CT Tryz.prog 98 ⟨[.agg ⟨cs⟩]⟩ [] H (fun v N => v = .int .i64 (pErrR p) ∧ N = []) := by
 intro p
 induction p using Pt.ind with
 | h kind num ref kids ih =>
 intro cs H hp
 obtain ⟨ks, rfl, hk, hn, hks⟩ := RP_mk.1 hp
 refine Zr Tryz.func98 rfl rfl ?_
 refine Zg (Zc ?_)
 refine Zd rfl (Zx (l := pkP kind num ref ks) rfl rfl fun b1 => ?_)
 refine Za (v := .int .i64 0) rfl (Pu.assign rfl) ?_
 refine Zb ?_
 refine Zg ?_
 refine Zg (Zc ?_)
 refine Za (v := .pointer (some ⟨b1, 0, none⟩)) rfl (fa30_0 rfl rfl) ?_
 refine Zd rfl (Zh ty3 rfl (At.bx 0 rfl) (pkP_0 ..) ?_)
 refine Zk rfl Tryz.call94 rfl (fun hin => offR_ct _ _ _ _) rfl ?_
 rintro _ _ ⟨rfl, rfl⟩
 refine Zb ?_
 refine Zl (b := decide (kind < 1 ∨ 3 < kind)) rfl (fun h2 => ?_) (fun h2 => ?_)
 ·replace h2 := dt h2
  refine Zg (Zc ?_)
  refine Za (v := .int .i64 3) rfl (Pu.assign rfl) ?_
  refine Zb ?_
  refine Zo ?_
  refine ⟨.int .i64 3, [], Ret.one rfl (RV.tmp rfl), Sub.nil, ?_⟩
  have hx : pHead kind num ref kids.length = 3 := by simp only [pHead]; (repeat' split) <;> first | rfl | omega | (exfalso; simp_all; done) | (exfalso; simp_all; omega) | grind
  exact ⟨by rw [pErrR, hx]; rfl, rfl⟩
 replace h2 := df h2
 refine Zq ?_
 refine Zg ?_
 refine J_cut (fun ρ M => ρ 1 = .pointer (some ⟨b1, 0, none⟩) ∧ ρ 2 = .int .i64 0 ∧ ρ 26 = .bool (((decide (kind = 1)) && (!decide (num = 0))) || ((!decide (kind = 3)) && (!decide (ref = zS)))) ∧ M = [[(b1, .cells ⟨pkP kind num ref ks⟩ 30 (0, 0))]]) ?_ ?_
 ·refine Zc ?_
  refine Za (v := .pointer (some ⟨b1, 0, none⟩)) rfl (fa30_0 rfl rfl) ?_
  refine Zd rfl (Zh ty3 rfl (At.bx 0 rfl) (pkP_0 ..) ?_)
  refine Za (v := .bool (decide (kind = 1))) rfl (Pu.eql rfl rfl) ?_
  refine Za (v := .bool (decide (kind = 1))) rfl (Pu.move rfl) ?_
  cases h3 : (decide (kind = 1)) with
  | true =>
   replace h3 := dt h3
   refine Za (v := .pointer (some ⟨b1, 1, none⟩)) rfl (fa30_1 rfl rfl) ?_
   refine Zd rfl (Zh ty3 rfl (At.bx 0 rfl) (pkP_1 ..) ?_)
   refine Za (v := .bool (!decide (num = 0))) rfl (Pu.neq rfl rfl) ?_
   refine Za (v := .bool (!decide (num = 0))) rfl (Pu.pickT rfl rfl) ?_
   refine Za (v := .bool (!decide (num = 0))) rfl (Pu.move rfl) ?_
   cases h4 : (!decide (num = 0)) with
   | true =>
    replace h4 := nt h4
    replace h4 := df h4
    refine Zf rfl ?_
    refine Zf rfl ?_
    refine Zf rfl ?_
    refine Zf rfl ?_
    refine Zf rfl ?_
    refine Zf rfl ?_
    refine Zf rfl ?_
    refine Zf rfl ?_
    refine Zf rfl ?_
    refine Za (v := .bool true) rfl (Pu.pickT rfl rfl) ?_
    refine Zb ?_
    first | exact ⟨rfl, rfl, rfl, rfl⟩ | (exfalso; omega)
   | false =>
    replace h4 := nf h4
    replace h4 := dt h4
    refine Za (v := .pointer (some ⟨b1, 0, none⟩)) rfl (fa30_0 rfl rfl) ?_
    refine Zd rfl (Zh ty3 rfl (At.bx 0 rfl) (pkP_0 ..) ?_)
    refine Za (v := .bool (!decide (kind = 3))) rfl (Pu.neq rfl rfl) ?_
    refine Za (v := .bool (!decide (kind = 3))) rfl (Pu.move rfl) ?_
    cases h5 : (!decide (kind = 3)) with
    | true =>
     replace h5 := nt h5
     replace h5 := df h5
     refine Za (v := .pointer (some ⟨b1, 2, none⟩)) rfl (fa30_2 rfl rfl) ?_
     refine Zd rfl (Zj ty23 rfl (At.bx 0 rfl) (pkP_2 ..) ?_)
     refine Za (v := .agg ⟨sC zS⟩) rfl (Pu.build (pv := []) (l := sC zS) rfl bld23_) ?_
     refine Za (v := .bool (!decide (ref = zS))) rfl (neqS rfl rfl) ?_
     refine Za (v := .bool (!decide (ref = zS))) rfl (Pu.pickT rfl rfl) ?_
     refine Za (v := .bool (!decide (ref = zS))) rfl (Pu.pickF rfl rfl) ?_
     refine Zb ?_
     first | exact ⟨rfl, rfl, rfl, rfl⟩ | (exfalso; omega)
    | false =>
     replace h5 := nf h5
     replace h5 := dt h5
     refine Zf rfl ?_
     refine Zf rfl ?_
     refine Zf rfl ?_
     refine Zf rfl ?_
     refine Za (v := .bool false) rfl (Pu.pickF rfl rfl) ?_
     refine Za (v := .bool false) rfl (Pu.pickF rfl rfl) ?_
     refine Zb ?_
     first | exact ⟨rfl, rfl, rfl, rfl⟩ | (exfalso; omega)
  | false =>
   replace h3 := df h3
   refine Zf rfl ?_
   refine Zf rfl ?_
   refine Zf rfl ?_
   refine Za (v := .bool false) rfl (Pu.pickF rfl rfl) ?_
   refine Za (v := .bool false) rfl (Pu.move rfl) ?_
   refine Za (v := .pointer (some ⟨b1, 0, none⟩)) rfl (fa30_0 rfl rfl) ?_
   refine Zd rfl (Zh ty3 rfl (At.bx 0 rfl) (pkP_0 ..) ?_)
   refine Za (v := .bool (!decide (kind = 3))) rfl (Pu.neq rfl rfl) ?_
   refine Za (v := .bool (!decide (kind = 3))) rfl (Pu.move rfl) ?_
   cases h6 : (!decide (kind = 3)) with
   | true =>
    replace h6 := nt h6
    replace h6 := df h6
    refine Za (v := .pointer (some ⟨b1, 2, none⟩)) rfl (fa30_2 rfl rfl) ?_
    refine Zd rfl (Zj ty23 rfl (At.bx 0 rfl) (pkP_2 ..) ?_)
    refine Za (v := .agg ⟨sC zS⟩) rfl (Pu.build (pv := []) (l := sC zS) rfl bld23_) ?_
    refine Za (v := .bool (!decide (ref = zS))) rfl (neqS rfl rfl) ?_
    refine Za (v := .bool (!decide (ref = zS))) rfl (Pu.pickT rfl rfl) ?_
    refine Za (v := .bool (!decide (ref = zS))) rfl (Pu.pickF rfl rfl) ?_
    refine Zb ?_
    first | exact ⟨rfl, rfl, rfl, rfl⟩ | (exfalso; omega)
   | false =>
    replace h6 := nf h6
    replace h6 := dt h6
    refine Zf rfl ?_
    refine Zf rfl ?_
    refine Zf rfl ?_
    refine Zf rfl ?_
    refine Za (v := .bool false) rfl (Pu.pickF rfl rfl) ?_
    refine Za (v := .bool false) rfl (Pu.pickF rfl rfl) ?_
    refine Zb ?_
    first | exact ⟨rfl, rfl, rfl, rfl⟩ | (exfalso; omega)
 rintro ρ7 _ ⟨e8, e9, e10, rfl⟩
 obtain ⟨ρ11, rfl⟩ := Ze (uc e8 (uc e9 (uc e10 un)))
 clear e8 e9 e10
 refine Zl (b := ((decide (kind = 1)) && (!decide (num = 0))) || ((!decide (kind = 3)) && (!decide (ref = zS)))) rfl (fun h12 => ?_) (fun h12 => ?_)
 ·refine Zg (Zc ?_)
  refine Za (v := .int .i64 7) rfl (Pu.assign rfl) ?_
  refine Zb ?_
  refine Zo ?_
  refine ⟨.int .i64 7, [], Ret.one rfl (RV.tmp rfl), Sub.nil, ?_⟩
  have hx : pHead kind num ref kids.length = 7 := by simp only [pHead]; (repeat' split) <;> first | rfl | omega | (exfalso; simp_all; done) | (exfalso; simp_all; omega) | grind
  exact ⟨by rw [pErrR, hx]; rfl, rfl⟩
 obtain ⟨h12a, h12b⟩ := orF h12
 refine Zq ?_
 refine Zg ?_
 refine J_cut (fun ρ M => ρ 1 = .pointer (some ⟨b1, 0, none⟩) ∧ ρ 2 = .int .i64 0 ∧ ρ 41 = .bool (((!decide (kind = 3)) && (decide (0 < (kids.length : Int)))) || (decide (4 < (kids.length : Int)))) ∧ M = [[(b1, .cells ⟨pkP kind num ref ks⟩ 30 (0, 0))]]) ?_ ?_
 ·refine Zc ?_
  refine Za (v := .pointer (some ⟨b1, 0, none⟩)) rfl (fa30_0 rfl rfl) ?_
  refine Zd rfl (Zh ty3 rfl (At.bx 0 rfl) (pkP_0 ..) ?_)
  refine Za (v := .bool (!decide (kind = 3))) rfl (Pu.neq rfl rfl) ?_
  refine Za (v := .bool (!decide (kind = 3))) rfl (Pu.move rfl) ?_
  cases h13 : (!decide (kind = 3)) with
  | true =>
   replace h13 := nt h13
   replace h13 := df h13
   refine Za (v := .pointer (some ⟨b1, 34, none⟩)) rfl (fa30_3 rfl rfl) ?_
   refine Zd rfl (Zh ty28 rfl (At.bx 0 rfl) (pkP_34 ..) ?_)
   obtain ⟨a14, cap14, hv14⟩ := hks.sl
   have hle14 := hks.le
   refine Za (v := .int .i64 ((kids.length : Int))) rfl (Pu.lenSl Tryz.runUnderlying28 hv14) ?_
   refine Za (v := .bool (decide (0 < (kids.length : Int)))) rfl (Pu.gtr rfl rfl) ?_
   refine Za (v := .bool (decide (0 < (kids.length : Int)))) rfl (Pu.pickT rfl rfl) ?_
   refine Za (v := .bool (decide (0 < (kids.length : Int)))) rfl (Pu.move rfl) ?_
   cases h15 : (decide (0 < (kids.length : Int))) with
   | true =>
    replace h15 := dt h15
    refine Zf rfl ?_
    refine Zf rfl ?_
    refine Zf rfl ?_
    refine Zf rfl ?_
    refine Za (v := .bool true) rfl (Pu.pickT rfl rfl) ?_
    refine Zb ?_
    first | exact ⟨rfl, rfl, rfl, rfl⟩ | (exfalso; omega)
   | false =>
    replace h15 := df h15
    refine Za (v := .pointer (some ⟨b1, 34, none⟩)) rfl (fa30_3 rfl rfl) ?_
    refine Zd rfl (Zh ty28 rfl (At.bx 0 rfl) (pkP_34 ..) ?_)
    obtain ⟨a16, cap16, hv16⟩ := hks.sl
    have hle16 := hks.le
    refine Za (v := .int .i64 ((kids.length : Int))) rfl (Pu.lenSl Tryz.runUnderlying28 hv16) ?_
    refine Za (v := .bool (decide (4 < (kids.length : Int)))) rfl (Pu.gtr rfl rfl) ?_
    refine Za (v := .bool (decide (4 < (kids.length : Int)))) rfl (Pu.pickF rfl rfl) ?_
    refine Zb ?_
    first | exact ⟨rfl, rfl, rfl, rfl⟩ | (exfalso; omega)
  | false =>
   replace h13 := nf h13
   replace h13 := dt h13
   refine Zf rfl ?_
   refine Zf rfl ?_
   refine Zf rfl ?_
   refine Zf rfl ?_
   refine Za (v := .bool false) rfl (Pu.pickF rfl rfl) ?_
   refine Za (v := .bool false) rfl (Pu.move rfl) ?_
   refine Za (v := .pointer (some ⟨b1, 34, none⟩)) rfl (fa30_3 rfl rfl) ?_
   refine Zd rfl (Zh ty28 rfl (At.bx 0 rfl) (pkP_34 ..) ?_)
   obtain ⟨a17, cap17, hv17⟩ := hks.sl
   have hle17 := hks.le
   refine Za (v := .int .i64 ((kids.length : Int))) rfl (Pu.lenSl Tryz.runUnderlying28 hv17) ?_
   refine Za (v := .bool (decide (4 < (kids.length : Int)))) rfl (Pu.gtr rfl rfl) ?_
   refine Za (v := .bool (decide (4 < (kids.length : Int)))) rfl (Pu.pickF rfl rfl) ?_
   refine Zb ?_
   first | exact ⟨rfl, rfl, rfl, rfl⟩ | (exfalso; omega)
 rintro ρ18 _ ⟨e19, e20, e21, rfl⟩
 obtain ⟨ρ22, rfl⟩ := Ze (uc e19 (uc e20 (uc e21 un)))
 clear e19 e20 e21
 refine Zl (b := ((!decide (kind = 3)) && (decide (0 < (kids.length : Int)))) || (decide (4 < (kids.length : Int)))) rfl (fun h23 => ?_) (fun h23 => ?_)
 ·refine Zg (Zc ?_)
  refine Za (v := .int .i64 2) rfl (Pu.assign rfl) ?_
  refine Zb ?_
  refine Zo ?_
  refine ⟨.int .i64 2, [], Ret.one rfl (RV.tmp rfl), Sub.nil, ?_⟩
  have hx : pHead kind num ref kids.length = 2 := by simp only [pHead]; (repeat' split) <;> first | rfl | omega | (exfalso; simp_all; done) | (exfalso; simp_all; omega) | grind
  exact ⟨by rw [pErrR, hx]; rfl, rfl⟩
 obtain ⟨h23a, h23b⟩ := orF h23
 replace h23b := df h23b
 refine Zq ?_
 refine Zg ?_
 refine J_cut (fun ρ M => ρ 1 = .pointer (some ⟨b1, 0, none⟩) ∧ ρ 2 = .int .i64 0 ∧ ρ 59 = .bool (((decide (kind = 2)) && (decide (num < 0 ∨ 1073741824 < num))) || ((decide (kind = 3)) && (decide (num < 0 ∨ 7 < num)))) ∧ M = [[(b1, .cells ⟨pkP kind num ref ks⟩ 30 (0, 0))]]) ?_ ?_
 ·refine Zc ?_
  refine Za (v := .pointer (some ⟨b1, 0, none⟩)) rfl (fa30_0 rfl rfl) ?_
  refine Zd rfl (Zh ty3 rfl (At.bx 0 rfl) (pkP_0 ..) ?_)
  refine Za (v := .bool (decide (kind = 2))) rfl (Pu.eql rfl rfl) ?_
  refine Za (v := .bool (decide (kind = 2))) rfl (Pu.move rfl) ?_
  cases h24 : (decide (kind = 2)) with
  | true =>
   replace h24 := dt h24
   refine Za (v := .pointer (some ⟨b1, 1, none⟩)) rfl (fa30_1 rfl rfl) ?_
   refine Zd rfl (Zh ty3 rfl (At.bx 0 rfl) (pkP_1 ..) ?_)
   refine Zk rfl Tryz.call94 rfl (fun hin => offR_ct _ _ _ _) rfl ?_
   rintro _ _ ⟨rfl, rfl⟩
   refine Za (v := .bool (decide (num < 0 ∨ 1073741824 < num))) rfl (Pu.pickT rfl rfl) ?_
   refine Za (v := .bool (decide (num < 0 ∨ 1073741824 < num))) rfl (Pu.move rfl) ?_
   cases h25 : (decide (num < 0 ∨ 1073741824 < num)) with
   | true =>
    replace h25 := dt h25
    refine Zf rfl ?_
    refine Zf rfl ?_
    refine Zf rfl ?_
    refine Zf rfl ?_
    refine Zf rfl ?_
    refine Zf rfl ?_
    refine Zf rfl ?_
    refine Zf rfl ?_
    refine Za (v := .bool true) rfl (Pu.pickT rfl rfl) ?_
    refine Zb ?_
    first | exact ⟨rfl, rfl, rfl, rfl⟩ | (exfalso; omega)
   | false =>
    replace h25 := df h25
    refine Za (v := .pointer (some ⟨b1, 0, none⟩)) rfl (fa30_0 rfl rfl) ?_
    refine Zd rfl (Zh ty3 rfl (At.bx 0 rfl) (pkP_0 ..) ?_)
    refine Za (v := .bool (decide (kind = 3))) rfl (Pu.eql rfl rfl) ?_
    refine Za (v := .bool (decide (kind = 3))) rfl (Pu.move rfl) ?_
    cases h26 : (decide (kind = 3)) with
    | true =>
     replace h26 := dt h26
     refine Za (v := .pointer (some ⟨b1, 1, none⟩)) rfl (fa30_1 rfl rfl) ?_
     refine Zd rfl (Zh ty3 rfl (At.bx 0 rfl) (pkP_1 ..) ?_)
     refine Zk rfl Tryz.call94 rfl (fun hin => offR_ct _ _ _ _) rfl ?_
     rintro _ _ ⟨rfl, rfl⟩
     refine Za (v := .bool (decide (num < 0 ∨ 7 < num))) rfl (Pu.pickT rfl rfl) ?_
     refine Za (v := .bool (decide (num < 0 ∨ 7 < num))) rfl (Pu.pickF rfl rfl) ?_
     refine Zb ?_
     first | exact ⟨rfl, rfl, rfl, rfl⟩ | (exfalso; omega)
    | false =>
     replace h26 := df h26
     refine Zf rfl ?_
     refine Zf rfl ?_
     refine Zf rfl ?_
     refine Za (v := .bool false) rfl (Pu.pickF rfl rfl) ?_
     refine Za (v := .bool false) rfl (Pu.pickF rfl rfl) ?_
     refine Zb ?_
     first | exact ⟨rfl, rfl, rfl, rfl⟩ | (exfalso; omega)
  | false =>
   replace h24 := df h24
   refine Zf rfl ?_
   refine Zf rfl ?_
   refine Zf rfl ?_
   refine Za (v := .bool false) rfl (Pu.pickF rfl rfl) ?_
   refine Za (v := .bool false) rfl (Pu.move rfl) ?_
   refine Za (v := .pointer (some ⟨b1, 0, none⟩)) rfl (fa30_0 rfl rfl) ?_
   refine Zd rfl (Zh ty3 rfl (At.bx 0 rfl) (pkP_0 ..) ?_)
   refine Za (v := .bool (decide (kind = 3))) rfl (Pu.eql rfl rfl) ?_
   refine Za (v := .bool (decide (kind = 3))) rfl (Pu.move rfl) ?_
   cases h27 : (decide (kind = 3)) with
   | true =>
    replace h27 := dt h27
    refine Za (v := .pointer (some ⟨b1, 1, none⟩)) rfl (fa30_1 rfl rfl) ?_
    refine Zd rfl (Zh ty3 rfl (At.bx 0 rfl) (pkP_1 ..) ?_)
    refine Zk rfl Tryz.call94 rfl (fun hin => offR_ct _ _ _ _) rfl ?_
    rintro _ _ ⟨rfl, rfl⟩
    refine Za (v := .bool (decide (num < 0 ∨ 7 < num))) rfl (Pu.pickT rfl rfl) ?_
    refine Za (v := .bool (decide (num < 0 ∨ 7 < num))) rfl (Pu.pickF rfl rfl) ?_
    refine Zb ?_
    first | exact ⟨rfl, rfl, rfl, rfl⟩ | (exfalso; omega)
   | false =>
    replace h27 := df h27
    refine Zf rfl ?_
    refine Zf rfl ?_
    refine Zf rfl ?_
    refine Za (v := .bool false) rfl (Pu.pickF rfl rfl) ?_
    refine Za (v := .bool false) rfl (Pu.pickF rfl rfl) ?_
    refine Zb ?_
    first | exact ⟨rfl, rfl, rfl, rfl⟩ | (exfalso; omega)
 rintro ρ28 _ ⟨e29, e30, e31, rfl⟩
 obtain ⟨ρ32, rfl⟩ := Ze (uc e29 (uc e30 (uc e31 un)))
 clear e29 e30 e31
 refine Zl (b := ((decide (kind = 2)) && (decide (num < 0 ∨ 1073741824 < num))) || ((decide (kind = 3)) && (decide (num < 0 ∨ 7 < num)))) rfl (fun h33 => ?_) (fun h33 => ?_)
 ·refine Zg (Zc ?_)
  refine Za (v := .int .i64 3) rfl (Pu.assign rfl) ?_
  refine Zb ?_
  refine Zo ?_
  refine ⟨.int .i64 3, [], Ret.one rfl (RV.tmp rfl), Sub.nil, ?_⟩
  have hx : pHead kind num ref kids.length = 3 := by simp only [pHead]; (repeat' split) <;> first | rfl | omega | (exfalso; simp_all; done) | (exfalso; simp_all; omega) | grind
  exact ⟨by rw [pErrR, hx]; rfl, rfl⟩
 obtain ⟨h33a, h33b⟩ := orF h33
 refine Zq ?_
 refine Zg ?_
 refine Zg (Zc ?_)
 refine Za (v := .int .i64 0) rfl (Pu.assign rfl) ?_
 refine Zb ?_
 refine Zs ?_
 refine J_loop (fun k ρ M => ∃ (j : Nat), ρ 1 = .pointer (some ⟨b1, 0, none⟩) ∧ ρ 2 = .int .i64 0 ∧ ρ 3 = .int .i64 ((j : Int)) ∧ Sub [[(b1, .cells ⟨pkP kind num ref ks⟩ 30 (0, 0))]] M ∧ j ≤ kids.length ∧ pHead kind num ref kids.length = 0 ∧ pErrRL (kids.drop j) = pErrRL kids ∧ k = kids.length - j) _ ⟨0, rfl, rfl, rfl, (Sk Sub.nil), Nat.zero_le _, (by simp only [pHead]; (repeat' split) <;> first | rfl | omega | (exfalso; simp_all; done) | (exfalso; simp_all; omega) | grind), rfl, rfl⟩ ?_
 rintro _ ρ34 _ ⟨j, e35, e36, e37, hm38, hj, hh, hinv, rfl⟩
 obtain ⟨ρ39, rfl⟩ := Ze (uc e35 (uc e36 (uc e37 un)))
 clear e35 e36 e37
 refine J_sub hm38 ?_
 have hlen := hks.le
 refine Zg ?_
 refine Zg (Zc ?_)
 refine Za (v := .int .i64 ((j : Int))) rfl (Pu.move rfl) ?_
 refine Za (v := .pointer (some ⟨b1, 34, none⟩)) rfl (fa30_3 rfl rfl) ?_
 refine Zd rfl (Zh ty28 rfl (At.bx 0 rfl) (pkP_34 ..) ?_)
 obtain ⟨a40, cap40, hv40⟩ := hks.sl
 have hle40 := hks.le
 refine Za (v := .int .i64 ((kids.length : Int))) rfl (Pu.lenSl Tryz.runUnderlying28 hv40) ?_
 refine Za (v := .bool (decide ((j : Int) < (kids.length : Int)))) rfl (Pu.lss rfl rfl) ?_
 refine Zb ?_
 refine Zl (b := decide ((j : Int) < (kids.length : Int))) rfl (fun h41 => ?_) (fun h41 => ?_)
 ·replace h41 := dt h41
  have h41n : j < kids.length := by omega
  refine Zq ?_
  refine Zg ?_
  refine Zs ?_
  refine Zg (Zc ?_)
  refine Za (v := .pointer (some ⟨b1, 34, none⟩)) rfl (fa30_3 rfl rfl) ?_
  refine Zd rfl (Zh ty28 rfl (At.bx 0 rfl) (pkP_34 ..) ?_)
  refine Za (v := .int .i64 ((j : Int))) rfl (Pu.move rfl) ?_
  obtain ⟨b42, o42, cap42, row42, T42, fr42, cs42, hv42, hb42, hs42, hE42⟩ := hks.get j (by first | assumption | omega | decide | simp)
  refine Za (v := .pointer (some ⟨b42, o42 + j * 35, none⟩)) rfl (Pu.idx j Tryz.runUnderlying28 ty30 hv42 rfl rfl (by first | assumption | omega | decide | simp)) ?_
  refine Zd rfl (Zj ty30 rfl (At.im hb42) hs42 ?_)
  refine Zk rfl Tryz.call98 rfl (fun hin => ih _ (List.getElem_mem h41n) _ _ (RP.mono (Hle.hu _ _) hE42)) rfl ?_
  rintro _ _ ⟨rfl, rfl⟩
  refine Za (v := .int .i64 (pErrR (kids[j]))) rfl (Pu.assign rfl) ?_
  refine Zb ?_
  refine Zg (Zc ?_)
  refine Za (v := .int .i64 (pErrR (kids[j]))) rfl (Pu.move rfl) ?_
  refine Za (v := .bool (!decide (pErrR (kids[j]) = 0))) rfl (Pu.neq rfl rfl) ?_
  refine Zb ?_
  refine Zl (b := !decide (pErrR (kids[j]) = 0)) rfl (fun h43 => ?_) (fun h43 => ?_)
  ·replace h43 := nt h43
   replace h43 := df h43
   refine Zg (Zc ?_)
   refine Za (v := .int .i64 (pErrR (kids[j]))) rfl (Pu.move rfl) ?_
   refine Za (v := .int .i64 (pErrR (kids[j]))) rfl (Pu.assign rfl) ?_
   refine Zb ?_
   refine Zo ?_
   refine ⟨.int .i64 (pErrR (kids[j])), [], Ret.one rfl (RV.tmp rfl), Sub.nil, ?_⟩
   exact ⟨by rw [pErrR, if_pos hh, ← hinv, dropc h41n, pErrRL, if_neg h43], rfl⟩
  replace h43 := nf h43
  replace h43 := dt h43
  refine Zq ?_
  refine Zc ?_
  refine Za (v := .int .i64 ((j : Int))) rfl (Pu.move rfl) ?_
  refine Za (v := .int .i64 (((j + 1 : Nat) : Int))) rfl (Pu.inc rfl rfl (by omega)) ?_
  refine Za (v := .int .i64 (((j + 1 : Nat) : Int))) rfl (Pu.assign rfl) ?_
  refine Zb ?_
  refine ⟨_, ?_, (j + 1), rfl, rfl, rfl, (Sk Sub.nil), ?_, ?_, ?_, rfl⟩
  ·omega
  ·omega
  ·assumption
  rw [dropc h41n, pErrRL, if_pos h43] at hinv; exact hinv
 replace h41 := df h41
 have h41n : kids.length ≤ j := by omega
 refine J_exit _ rfl ?_
 refine Zg (Zc ?_)
 refine Za (v := .int .i64 0) rfl (Pu.assign rfl) ?_
 refine Zb ?_
 refine Zo ?_
 refine ⟨.int .i64 0, [], Ret.one rfl (RV.tmp rfl), Sub.nil, ?_⟩
 exact ⟨by rw [pErrR, if_pos hh, ← hinv, dropn h41n]; rfl, rfl⟩
theorem nodeError_ct : ∀ (t : Tm) (d m b : Int) (cs : List Value) (H : Heap), RT H cs t → 0 ≤ b → b + 2 * sizeT t ≤ 1000000 → CT Tryz.prog 57 ⟨[.agg ⟨cs⟩, .int .i64 d, .int .i64 m, .int .i64 b]⟩ [] H (fun v N => v = .int .i64 (nErr d m b t) ∧ N = []) := by
 intro t
 induction t using Tm.ind with
 | h kind num ref kids cases ih ih' =>
 intro d m b cs H ht hb0 hb
 obtain ⟨ks, cv, rfl, hk, hn, hks, hcv⟩ := RT_mk.1 ht
 rw [sizeT] at hb
 have hn1 : -9223372036854775808 ≤ num := hn.1
 have hn2 : num ≤ 9223372036854775807 := hn.2
 refine Zr Tryz.func57 rfl rfl ?_
 refine Zg (Zc ?_)
 refine Zd rfl (Zx (l := pkT kind num ref ks cv) rfl rfl fun b1 => ?_)
 refine Za (v := .int .i64 0) rfl (Pu.assign rfl) ?_
 refine Zb ?_
 refine Zg ?_
 refine Zg (Zc ?_)
 refine Za (v := .pointer (some ⟨b1, 0, none⟩)) rfl (fa27_0 rfl rfl) ?_
 refine Zd rfl (Zh ty3 rfl (At.bx 0 rfl) (pkT_0 ..) ?_)
 refine Zk rfl Tryz.call94 rfl (fun hin => offR_ct _ _ _ _) rfl ?_
 rintro _ _ ⟨rfl, rfl⟩
 refine Zb ?_
 refine Zl (b := decide (kind < 1 ∨ 12 < kind)) rfl (fun h2 => ?_) (fun h2 => ?_)
 ·replace h2 := dt h2
  refine Zg (Zc ?_)
  refine Za (v := .int .i64 3) rfl (Pu.assign rfl) ?_
  refine Zb ?_
  refine Zo ?_
  refine ⟨.int .i64 3, [], Ret.one rfl (RV.tmp rfl), Sub.nil, ?_⟩
  have hx : nHead d m b kind num ref kids.length cases.length = 3 := by simp only [nHead]; (repeat' split) <;> first | rfl | omega | (exfalso; simp_all; done) | (exfalso; simp_all; omega) | grind
  exact ⟨by rw [nErr, hx]; rfl, rfl⟩
 replace h2 := df h2
 refine Zq ?_
 refine Zg ?_
 refine J_cut (fun ρ M => ρ 1 = .int .i64 d ∧ ρ 2 = .int .i64 m ∧ ρ 3 = .int .i64 b ∧ ρ 4 = .pointer (some ⟨b1, 0, none⟩) ∧ ρ 8 = .int .i64 0 ∧ ρ 51 = .bool ((((!(hasNumB kind)) && (!decide (num = 0))) || ((!(hasRefB kind)) && (!decide (ref = zS)))) || ((!decide (kind = 9)) && (decide (0 < (cases.length : Int))))) ∧ M = [[(b1, .cells ⟨pkT kind num ref ks cv⟩ 27 (0, 0))]]) ?_ ?_
 ·refine Zc ?_
  refine Za (v := .pointer (some ⟨b1, 0, none⟩)) rfl (fa27_0 rfl rfl) ?_
  refine Zd rfl (Zh ty3 rfl (At.bx 0 rfl) (pkT_0 ..) ?_)
  refine Zk rfl Tryz.call95 rfl (fun hin => hasNum_ct _ _) rfl ?_
  rintro _ _ ⟨rfl, rfl⟩
  refine Za (v := .bool (!(hasNumB kind))) rfl (Pu.not rfl) ?_
  refine Za (v := .bool (!(hasNumB kind))) rfl (Pu.move rfl) ?_
  cases h3 : (!(hasNumB kind)) with
  | true =>
   replace h3 := nt h3
   refine Za (v := .pointer (some ⟨b1, 1, none⟩)) rfl (fa27_1 rfl rfl) ?_
   refine Zd rfl (Zh ty3 rfl (At.bx 0 rfl) (pkT_1 ..) ?_)
   refine Za (v := .bool (!decide (num = 0))) rfl (Pu.neq rfl rfl) ?_
   refine Za (v := .bool (!decide (num = 0))) rfl (Pu.pickT rfl rfl) ?_
   refine Za (v := .bool (!decide (num = 0))) rfl (Pu.move rfl) ?_
   cases h4 : (!decide (num = 0)) with
   | true =>
    replace h4 := nt h4
    replace h4 := df h4
    refine Zf rfl ?_
    refine Zf rfl ?_
    refine Zf rfl ?_
    refine Zf rfl ?_
    refine Zf rfl ?_
    refine Zf rfl ?_
    refine Zf rfl ?_
    refine Zf rfl ?_
    refine Zf rfl ?_
    refine Zf rfl ?_
    refine Za (v := .bool true) rfl (Pu.pickT rfl rfl) ?_
    refine Za (v := .bool true) rfl (Pu.move rfl) ?_
    refine Zf rfl ?_
    refine Zf rfl ?_
    refine Zf rfl ?_
    refine Zf rfl ?_
    refine Zf rfl ?_
    refine Zf rfl ?_
    refine Zf rfl ?_
    refine Zf rfl ?_
    refine Zf rfl ?_
    refine Za (v := .bool true) rfl (Pu.pickT rfl rfl) ?_
    refine Zb ?_
    first | exact ⟨rfl, rfl, rfl, rfl, rfl, rfl, rfl⟩ | (exfalso; omega)
   | false =>
    replace h4 := nf h4
    replace h4 := dt h4
    refine Za (v := .pointer (some ⟨b1, 0, none⟩)) rfl (fa27_0 rfl rfl) ?_
    refine Zd rfl (Zh ty3 rfl (At.bx 0 rfl) (pkT_0 ..) ?_)
    refine Zk rfl Tryz.call96 rfl (fun hin => hasRef_ct _ _) rfl ?_
    rintro _ _ ⟨rfl, rfl⟩
    refine Za (v := .bool (!(hasRefB kind))) rfl (Pu.not rfl) ?_
    refine Za (v := .bool (!(hasRefB kind))) rfl (Pu.move rfl) ?_
    cases h5 : (!(hasRefB kind)) with
    | true =>
     replace h5 := nt h5
     refine Za (v := .pointer (some ⟨b1, 2, none⟩)) rfl (fa27_2 rfl rfl) ?_
     refine Zd rfl (Zj ty23 rfl (At.bx 0 rfl) (pkT_2 ..) ?_)
     refine Za (v := .agg ⟨sC zS⟩) rfl (Pu.build (pv := []) (l := sC zS) rfl bld23_) ?_
     refine Za (v := .bool (!decide (ref = zS))) rfl (neqS rfl rfl) ?_
     refine Za (v := .bool (!decide (ref = zS))) rfl (Pu.pickT rfl rfl) ?_
     refine Za (v := .bool (!decide (ref = zS))) rfl (Pu.pickF rfl rfl) ?_
     refine Za (v := .bool (!decide (ref = zS))) rfl (Pu.move rfl) ?_
     cases h6 : (!decide (ref = zS)) with
     | true =>
      replace h6 := nt h6
      replace h6 := df h6
      refine Zf rfl ?_
      refine Zf rfl ?_
      refine Zf rfl ?_
      refine Zf rfl ?_
      refine Zf rfl ?_
      refine Zf rfl ?_
      refine Zf rfl ?_
      refine Zf rfl ?_
      refine Zf rfl ?_
      refine Za (v := .bool true) rfl (Pu.pickT rfl rfl) ?_
      refine Zb ?_
      first | exact ⟨rfl, rfl, rfl, rfl, rfl, rfl, rfl⟩ | (exfalso; omega)
     | false =>
      replace h6 := nf h6
      replace h6 := dt h6
      refine Za (v := .pointer (some ⟨b1, 0, none⟩)) rfl (fa27_0 rfl rfl) ?_
      refine Zd rfl (Zh ty3 rfl (At.bx 0 rfl) (pkT_0 ..) ?_)
      refine Za (v := .bool (!decide (kind = 9))) rfl (Pu.neq rfl rfl) ?_
      refine Za (v := .bool (!decide (kind = 9))) rfl (Pu.move rfl) ?_
      cases h7 : (!decide (kind = 9)) with
      | true =>
       replace h7 := nt h7
       replace h7 := df h7
       refine Za (v := .pointer (some ⟨b1, 35, none⟩)) rfl (fa27_4 rfl rfl) ?_
       refine Zd rfl (Zh ty25 rfl (At.bx 0 rfl) (pkT_35 ..) ?_)
       obtain ⟨a8, cap8, hv8⟩ := hcv.sl
       have hle8 := hcv.le
       refine Za (v := .int .i64 ((cases.length : Int))) rfl (Pu.lenSl Tryz.runUnderlying25 hv8) ?_
       refine Za (v := .bool (decide (0 < (cases.length : Int)))) rfl (Pu.gtr rfl rfl) ?_
       refine Za (v := .bool (decide (0 < (cases.length : Int)))) rfl (Pu.pickT rfl rfl) ?_
       refine Za (v := .bool (decide (0 < (cases.length : Int)))) rfl (Pu.pickF rfl rfl) ?_
       refine Zb ?_
       first | exact ⟨rfl, rfl, rfl, rfl, rfl, rfl, rfl⟩ | (exfalso; omega)
      | false =>
       replace h7 := nf h7
       replace h7 := dt h7
       refine Zf rfl ?_
       refine Zf rfl ?_
       refine Zf rfl ?_
       refine Zf rfl ?_
       refine Za (v := .bool false) rfl (Pu.pickF rfl rfl) ?_
       refine Za (v := .bool false) rfl (Pu.pickF rfl rfl) ?_
       refine Zb ?_
       first | exact ⟨rfl, rfl, rfl, rfl, rfl, rfl, rfl⟩ | (exfalso; omega)
    | false =>
     replace h5 := nf h5
     refine Zf rfl ?_
     refine Zf rfl ?_
     refine Zf rfl ?_
     refine Zf rfl ?_
     refine Za (v := .bool false) rfl (Pu.pickF rfl rfl) ?_
     refine Za (v := .bool false) rfl (Pu.pickF rfl rfl) ?_
     refine Za (v := .bool false) rfl (Pu.move rfl) ?_
     refine Za (v := .pointer (some ⟨b1, 0, none⟩)) rfl (fa27_0 rfl rfl) ?_
     refine Zd rfl (Zh ty3 rfl (At.bx 0 rfl) (pkT_0 ..) ?_)
     refine Za (v := .bool (!decide (kind = 9))) rfl (Pu.neq rfl rfl) ?_
     refine Za (v := .bool (!decide (kind = 9))) rfl (Pu.move rfl) ?_
     cases h9 : (!decide (kind = 9)) with
     | true =>
      replace h9 := nt h9
      replace h9 := df h9
      refine Za (v := .pointer (some ⟨b1, 35, none⟩)) rfl (fa27_4 rfl rfl) ?_
      refine Zd rfl (Zh ty25 rfl (At.bx 0 rfl) (pkT_35 ..) ?_)
      obtain ⟨a10, cap10, hv10⟩ := hcv.sl
      have hle10 := hcv.le
      refine Za (v := .int .i64 ((cases.length : Int))) rfl (Pu.lenSl Tryz.runUnderlying25 hv10) ?_
      refine Za (v := .bool (decide (0 < (cases.length : Int)))) rfl (Pu.gtr rfl rfl) ?_
      refine Za (v := .bool (decide (0 < (cases.length : Int)))) rfl (Pu.pickT rfl rfl) ?_
      refine Za (v := .bool (decide (0 < (cases.length : Int)))) rfl (Pu.pickF rfl rfl) ?_
      refine Zb ?_
      first | exact ⟨rfl, rfl, rfl, rfl, rfl, rfl, rfl⟩ | (exfalso; omega)
     | false =>
      replace h9 := nf h9
      replace h9 := dt h9
      refine Zf rfl ?_
      refine Zf rfl ?_
      refine Zf rfl ?_
      refine Zf rfl ?_
      refine Za (v := .bool false) rfl (Pu.pickF rfl rfl) ?_
      refine Za (v := .bool false) rfl (Pu.pickF rfl rfl) ?_
      refine Zb ?_
      first | exact ⟨rfl, rfl, rfl, rfl, rfl, rfl, rfl⟩ | (exfalso; omega)
  | false =>
   replace h3 := nf h3
   refine Zf rfl ?_
   refine Zf rfl ?_
   refine Zf rfl ?_
   refine Za (v := .bool false) rfl (Pu.pickF rfl rfl) ?_
   refine Za (v := .bool false) rfl (Pu.move rfl) ?_
   refine Za (v := .pointer (some ⟨b1, 0, none⟩)) rfl (fa27_0 rfl rfl) ?_
   refine Zd rfl (Zh ty3 rfl (At.bx 0 rfl) (pkT_0 ..) ?_)
   refine Zk rfl Tryz.call96 rfl (fun hin => hasRef_ct _ _) rfl ?_
   rintro _ _ ⟨rfl, rfl⟩
   refine Za (v := .bool (!(hasRefB kind))) rfl (Pu.not rfl) ?_
   refine Za (v := .bool (!(hasRefB kind))) rfl (Pu.move rfl) ?_
   cases h11 : (!(hasRefB kind)) with
   | true =>
    replace h11 := nt h11
    refine Za (v := .pointer (some ⟨b1, 2, none⟩)) rfl (fa27_2 rfl rfl) ?_
    refine Zd rfl (Zj ty23 rfl (At.bx 0 rfl) (pkT_2 ..) ?_)
    refine Za (v := .agg ⟨sC zS⟩) rfl (Pu.build (pv := []) (l := sC zS) rfl bld23_) ?_
    refine Za (v := .bool (!decide (ref = zS))) rfl (neqS rfl rfl) ?_
    refine Za (v := .bool (!decide (ref = zS))) rfl (Pu.pickT rfl rfl) ?_
    refine Za (v := .bool (!decide (ref = zS))) rfl (Pu.pickF rfl rfl) ?_
    refine Za (v := .bool (!decide (ref = zS))) rfl (Pu.move rfl) ?_
    cases h12 : (!decide (ref = zS)) with
    | true =>
     replace h12 := nt h12
     replace h12 := df h12
     refine Zf rfl ?_
     refine Zf rfl ?_
     refine Zf rfl ?_
     refine Zf rfl ?_
     refine Zf rfl ?_
     refine Zf rfl ?_
     refine Zf rfl ?_
     refine Zf rfl ?_
     refine Zf rfl ?_
     refine Za (v := .bool true) rfl (Pu.pickT rfl rfl) ?_
     refine Zb ?_
     first | exact ⟨rfl, rfl, rfl, rfl, rfl, rfl, rfl⟩ | (exfalso; omega)
    | false =>
     replace h12 := nf h12
     replace h12 := dt h12
     refine Za (v := .pointer (some ⟨b1, 0, none⟩)) rfl (fa27_0 rfl rfl) ?_
     refine Zd rfl (Zh ty3 rfl (At.bx 0 rfl) (pkT_0 ..) ?_)
     refine Za (v := .bool (!decide (kind = 9))) rfl (Pu.neq rfl rfl) ?_
     refine Za (v := .bool (!decide (kind = 9))) rfl (Pu.move rfl) ?_
     cases h13 : (!decide (kind = 9)) with
     | true =>
      replace h13 := nt h13
      replace h13 := df h13
      refine Za (v := .pointer (some ⟨b1, 35, none⟩)) rfl (fa27_4 rfl rfl) ?_
      refine Zd rfl (Zh ty25 rfl (At.bx 0 rfl) (pkT_35 ..) ?_)
      obtain ⟨a14, cap14, hv14⟩ := hcv.sl
      have hle14 := hcv.le
      refine Za (v := .int .i64 ((cases.length : Int))) rfl (Pu.lenSl Tryz.runUnderlying25 hv14) ?_
      refine Za (v := .bool (decide (0 < (cases.length : Int)))) rfl (Pu.gtr rfl rfl) ?_
      refine Za (v := .bool (decide (0 < (cases.length : Int)))) rfl (Pu.pickT rfl rfl) ?_
      refine Za (v := .bool (decide (0 < (cases.length : Int)))) rfl (Pu.pickF rfl rfl) ?_
      refine Zb ?_
      first | exact ⟨rfl, rfl, rfl, rfl, rfl, rfl, rfl⟩ | (exfalso; omega)
     | false =>
      replace h13 := nf h13
      replace h13 := dt h13
      refine Zf rfl ?_
      refine Zf rfl ?_
      refine Zf rfl ?_
      refine Zf rfl ?_
      refine Za (v := .bool false) rfl (Pu.pickF rfl rfl) ?_
      refine Za (v := .bool false) rfl (Pu.pickF rfl rfl) ?_
      refine Zb ?_
      first | exact ⟨rfl, rfl, rfl, rfl, rfl, rfl, rfl⟩ | (exfalso; omega)
   | false =>
    replace h11 := nf h11
    refine Zf rfl ?_
    refine Zf rfl ?_
    refine Zf rfl ?_
    refine Zf rfl ?_
    refine Za (v := .bool false) rfl (Pu.pickF rfl rfl) ?_
    refine Za (v := .bool false) rfl (Pu.pickF rfl rfl) ?_
    refine Za (v := .bool false) rfl (Pu.move rfl) ?_
    refine Za (v := .pointer (some ⟨b1, 0, none⟩)) rfl (fa27_0 rfl rfl) ?_
    refine Zd rfl (Zh ty3 rfl (At.bx 0 rfl) (pkT_0 ..) ?_)
    refine Za (v := .bool (!decide (kind = 9))) rfl (Pu.neq rfl rfl) ?_
    refine Za (v := .bool (!decide (kind = 9))) rfl (Pu.move rfl) ?_
    cases h15 : (!decide (kind = 9)) with
    | true =>
     replace h15 := nt h15
     replace h15 := df h15
     refine Za (v := .pointer (some ⟨b1, 35, none⟩)) rfl (fa27_4 rfl rfl) ?_
     refine Zd rfl (Zh ty25 rfl (At.bx 0 rfl) (pkT_35 ..) ?_)
     obtain ⟨a16, cap16, hv16⟩ := hcv.sl
     have hle16 := hcv.le
     refine Za (v := .int .i64 ((cases.length : Int))) rfl (Pu.lenSl Tryz.runUnderlying25 hv16) ?_
     refine Za (v := .bool (decide (0 < (cases.length : Int)))) rfl (Pu.gtr rfl rfl) ?_
     refine Za (v := .bool (decide (0 < (cases.length : Int)))) rfl (Pu.pickT rfl rfl) ?_
     refine Za (v := .bool (decide (0 < (cases.length : Int)))) rfl (Pu.pickF rfl rfl) ?_
     refine Zb ?_
     first | exact ⟨rfl, rfl, rfl, rfl, rfl, rfl, rfl⟩ | (exfalso; omega)
    | false =>
     replace h15 := nf h15
     replace h15 := dt h15
     refine Zf rfl ?_
     refine Zf rfl ?_
     refine Zf rfl ?_
     refine Zf rfl ?_
     refine Za (v := .bool false) rfl (Pu.pickF rfl rfl) ?_
     refine Za (v := .bool false) rfl (Pu.pickF rfl rfl) ?_
     refine Zb ?_
     first | exact ⟨rfl, rfl, rfl, rfl, rfl, rfl, rfl⟩ | (exfalso; omega)
 rintro ρ17 _ ⟨e18, e19, e20, e21, e22, e23, rfl⟩
 obtain ⟨ρ24, rfl⟩ := Ze (uc e18 (uc e19 (uc e20 (uc e21 (uc e22 (uc e23 un))))))
 clear e18 e19 e20 e21 e22 e23
 refine Zl (b := (((!(hasNumB kind)) && (!decide (num = 0))) || ((!(hasRefB kind)) && (!decide (ref = zS)))) || ((!decide (kind = 9)) && (decide (0 < (cases.length : Int))))) rfl (fun h25 => ?_) (fun h25 => ?_)
 ·refine Zg (Zc ?_)
  refine Za (v := .int .i64 7) rfl (Pu.assign rfl) ?_
  refine Zb ?_
  refine Zo ?_
  refine ⟨.int .i64 7, [], Ret.one rfl (RV.tmp rfl), Sub.nil, ?_⟩
  have hx : nHead d m b kind num ref kids.length cases.length = 7 := by simp only [nHead]; (repeat' split) <;> first | rfl | omega | (exfalso; simp_all; done) | (exfalso; simp_all; omega) | grind
  exact ⟨by rw [nErr, hx]; rfl, rfl⟩
 obtain ⟨h25a, h25b⟩ := orF h25
 obtain ⟨h25aa, h25ab⟩ := orF h25a
 refine Zq ?_
 refine Zg (Zc ?_)
 refine Za (v := .pointer (some ⟨b1, 0, none⟩)) rfl (fa27_0 rfl rfl) ?_
 refine Zd rfl (Zh ty3 rfl (At.bx 0 rfl) (pkT_0 ..) ?_)
 refine Zk rfl Tryz.call97 rfl (fun hin => kidsR_ct _ _) rfl ?_
 rintro _ _ ⟨rfl, rfl⟩
 refine Za (v := .tuple ⟨[.int .i64 (loK kind), .int .i64 (hiK kind)]⟩) rfl (Pu.move rfl) ?_
 refine Za (v := .int .i64 (loK kind)) rfl (Pu.extract rfl rfl) ?_
 refine Za (v := .int .i64 (hiK kind)) rfl (Pu.extract rfl rfl) ?_
 refine Za (v := .int .i64 (loK kind)) rfl (Pu.assign rfl) ?_
 refine Za (v := .int .i64 (hiK kind)) rfl (Pu.assign rfl) ?_
 refine Zb ?_
 refine Zg ?_
 refine J_cut (fun ρ M => ρ 1 = .int .i64 d ∧ ρ 2 = .int .i64 m ∧ ρ 3 = .int .i64 b ∧ ρ 4 = .pointer (some ⟨b1, 0, none⟩) ∧ ρ 8 = .int .i64 0 ∧ ρ 69 = .bool ((decide ((kids.length : Int) < loK kind ∨ hiK kind < (kids.length : Int))) || (decide (8 < (cases.length : Int)))) ∧ M = [[(b1, .cells ⟨pkT kind num ref ks cv⟩ 27 (0, 0))]]) ?_ ?_
 ·refine Zc ?_
  refine Za (v := .pointer (some ⟨b1, 34, none⟩)) rfl (fa27_3 rfl rfl) ?_
  refine Zd rfl (Zh ty24 rfl (At.bx 0 rfl) (pkT_34 ..) ?_)
  obtain ⟨a26, cap26, hv26⟩ := hks.sl
  have hle26 := hks.le
  refine Za (v := .int .i64 ((kids.length : Int))) rfl (Pu.lenSl Tryz.runUnderlying24 hv26) ?_
  refine Za (v := .int .i64 (loK kind)) rfl (Pu.move rfl) ?_
  refine Za (v := .int .i64 (hiK kind)) rfl (Pu.move rfl) ?_
  refine Zk rfl Tryz.call94 rfl (fun hin => offR_ct _ _ _ _) rfl ?_
  rintro _ _ ⟨rfl, rfl⟩
  refine Za (v := .bool (decide ((kids.length : Int) < loK kind ∨ hiK kind < (kids.length : Int)))) rfl (Pu.move rfl) ?_
  cases h27 : (decide ((kids.length : Int) < loK kind ∨ hiK kind < (kids.length : Int))) with
  | true =>
   replace h27 := dt h27
   refine Zf rfl ?_
   refine Zf rfl ?_
   refine Zf rfl ?_
   refine Zf rfl ?_
   refine Za (v := .bool true) rfl (Pu.pickT rfl rfl) ?_
   refine Zb ?_
   first | exact ⟨rfl, rfl, rfl, rfl, rfl, rfl, rfl⟩ | (exfalso; omega)
  | false =>
   replace h27 := df h27
   refine Za (v := .pointer (some ⟨b1, 35, none⟩)) rfl (fa27_4 rfl rfl) ?_
   refine Zd rfl (Zh ty25 rfl (At.bx 0 rfl) (pkT_35 ..) ?_)
   obtain ⟨a28, cap28, hv28⟩ := hcv.sl
   have hle28 := hcv.le
   refine Za (v := .int .i64 ((cases.length : Int))) rfl (Pu.lenSl Tryz.runUnderlying25 hv28) ?_
   refine Za (v := .bool (decide (8 < (cases.length : Int)))) rfl (Pu.gtr rfl rfl) ?_
   refine Za (v := .bool (decide (8 < (cases.length : Int)))) rfl (Pu.pickF rfl rfl) ?_
   refine Zb ?_
   first | exact ⟨rfl, rfl, rfl, rfl, rfl, rfl, rfl⟩ | (exfalso; omega)
 rintro ρ29 _ ⟨e30, e31, e32, e33, e34, e35, rfl⟩
 obtain ⟨ρ36, rfl⟩ := Ze (uc e30 (uc e31 (uc e32 (uc e33 (uc e34 (uc e35 un))))))
 clear e30 e31 e32 e33 e34 e35
 refine Zl (b := (decide ((kids.length : Int) < loK kind ∨ hiK kind < (kids.length : Int))) || (decide (8 < (cases.length : Int)))) rfl (fun h37 => ?_) (fun h37 => ?_)
 ·refine Zg (Zc ?_)
  refine Za (v := .int .i64 2) rfl (Pu.assign rfl) ?_
  refine Zb ?_
  refine Zo ?_
  refine ⟨.int .i64 2, [], Ret.one rfl (RV.tmp rfl), Sub.nil, ?_⟩
  have hx : nHead d m b kind num ref kids.length cases.length = 2 := by simp only [nHead]; (repeat' split) <;> first | rfl | omega | (exfalso; simp_all; done) | (exfalso; simp_all; omega) | grind
  exact ⟨by rw [nErr, hx]; rfl, rfl⟩
 obtain ⟨h37a, h37b⟩ := orF h37
 replace h37a := df h37a
 replace h37b := df h37b
 refine Zq ?_
 refine Zg ?_
 refine J_cut (fun ρ M => ρ 1 = .int .i64 d ∧ ρ 2 = .int .i64 m ∧ ρ 3 = .int .i64 b ∧ ρ 4 = .pointer (some ⟨b1, 0, none⟩) ∧ ρ 8 = .int .i64 0 ∧ ρ 102 = .bool ((((decide (kind = 2)) && (decide (num < 0 ∨ 1073741824 < num))) || ((decide (kind = 10)) && (decide (num < 1 ∨ 5 < num)))) || (((decide (kind = 8)) || (decide (kind = 11))) && (decide (num < 0 ∨ 7 < num)))) ∧ M = [[(b1, .cells ⟨pkT kind num ref ks cv⟩ 27 (0, 0))]]) ?_ ?_
 ·refine Zc ?_
  refine Za (v := .pointer (some ⟨b1, 0, none⟩)) rfl (fa27_0 rfl rfl) ?_
  refine Zd rfl (Zh ty3 rfl (At.bx 0 rfl) (pkT_0 ..) ?_)
  refine Za (v := .bool (decide (kind = 2))) rfl (Pu.eql rfl rfl) ?_
  refine Za (v := .bool (decide (kind = 2))) rfl (Pu.move rfl) ?_
  cases h38 : (decide (kind = 2)) with
  | true =>
   replace h38 := dt h38
   refine Za (v := .pointer (some ⟨b1, 1, none⟩)) rfl (fa27_1 rfl rfl) ?_
   refine Zd rfl (Zh ty3 rfl (At.bx 0 rfl) (pkT_1 ..) ?_)
   refine Zk rfl Tryz.call94 rfl (fun hin => offR_ct _ _ _ _) rfl ?_
   rintro _ _ ⟨rfl, rfl⟩
   refine Za (v := .bool (decide (num < 0 ∨ 1073741824 < num))) rfl (Pu.pickT rfl rfl) ?_
   refine Za (v := .bool (decide (num < 0 ∨ 1073741824 < num))) rfl (Pu.move rfl) ?_
   cases h39 : (decide (num < 0 ∨ 1073741824 < num)) with
   | true =>
    replace h39 := dt h39
    refine Zf rfl ?_
    refine Zf rfl ?_
    refine Zf rfl ?_
    refine Zf rfl ?_
    refine Zf rfl ?_
    refine Zf rfl ?_
    refine Zf rfl ?_
    refine Zf rfl ?_
    refine Za (v := .bool true) rfl (Pu.pickT rfl rfl) ?_
    refine Za (v := .bool true) rfl (Pu.move rfl) ?_
    refine Zf rfl ?_
    refine Zf rfl ?_
    refine Zf rfl ?_
    refine Zf rfl ?_
    refine Zf rfl ?_
    refine Zf rfl ?_
    refine Zf rfl ?_
    refine Zf rfl ?_
    refine Zf rfl ?_
    refine Zf rfl ?_
    refine Zf rfl ?_
    refine Zf rfl ?_
    refine Zf rfl ?_
    refine Za (v := .bool true) rfl (Pu.pickT rfl rfl) ?_
    refine Zb ?_
    first | exact ⟨rfl, rfl, rfl, rfl, rfl, rfl, rfl⟩ | (exfalso; omega)
   | false =>
    replace h39 := df h39
    refine Za (v := .pointer (some ⟨b1, 0, none⟩)) rfl (fa27_0 rfl rfl) ?_
    refine Zd rfl (Zh ty3 rfl (At.bx 0 rfl) (pkT_0 ..) ?_)
    refine Za (v := .bool (decide (kind = 10))) rfl (Pu.eql rfl rfl) ?_
    refine Za (v := .bool (decide (kind = 10))) rfl (Pu.move rfl) ?_
    cases h40 : (decide (kind = 10)) with
    | true =>
     replace h40 := dt h40
     refine Za (v := .pointer (some ⟨b1, 1, none⟩)) rfl (fa27_1 rfl rfl) ?_
     refine Zd rfl (Zh ty3 rfl (At.bx 0 rfl) (pkT_1 ..) ?_)
     refine Zk rfl Tryz.call94 rfl (fun hin => offR_ct _ _ _ _) rfl ?_
     rintro _ _ ⟨rfl, rfl⟩
     refine Za (v := .bool (decide (num < 1 ∨ 5 < num))) rfl (Pu.pickT rfl rfl) ?_
     refine Za (v := .bool (decide (num < 1 ∨ 5 < num))) rfl (Pu.pickF rfl rfl) ?_
     refine Za (v := .bool (decide (num < 1 ∨ 5 < num))) rfl (Pu.move rfl) ?_
     cases h41 : (decide (num < 1 ∨ 5 < num)) with
     | true =>
      replace h41 := dt h41
      refine Zf rfl ?_
      refine Zf rfl ?_
      refine Zf rfl ?_
      refine Zf rfl ?_
      refine Zf rfl ?_
      refine Zf rfl ?_
      refine Zf rfl ?_
      refine Zf rfl ?_
      refine Zf rfl ?_
      refine Zf rfl ?_
      refine Zf rfl ?_
      refine Zf rfl ?_
      refine Zf rfl ?_
      refine Za (v := .bool true) rfl (Pu.pickT rfl rfl) ?_
      refine Zb ?_
      first | exact ⟨rfl, rfl, rfl, rfl, rfl, rfl, rfl⟩ | (exfalso; omega)
     | false =>
      replace h41 := df h41
      refine Za (v := .pointer (some ⟨b1, 0, none⟩)) rfl (fa27_0 rfl rfl) ?_
      refine Zd rfl (Zh ty3 rfl (At.bx 0 rfl) (pkT_0 ..) ?_)
      refine Za (v := .bool (decide (kind = 8))) rfl (Pu.eql rfl rfl) ?_
      refine Za (v := .bool (decide (kind = 8))) rfl (Pu.move rfl) ?_
      cases h42 : (decide (kind = 8)) with
      | true =>
       replace h42 := dt h42
       refine Zf rfl ?_
       refine Zf rfl ?_
       refine Zf rfl ?_
       refine Za (v := .bool true) rfl (Pu.pickT rfl rfl) ?_
       refine Za (v := .bool true) rfl (Pu.move rfl) ?_
       refine Za (v := .pointer (some ⟨b1, 1, none⟩)) rfl (fa27_1 rfl rfl) ?_
       refine Zd rfl (Zh ty3 rfl (At.bx 0 rfl) (pkT_1 ..) ?_)
       refine Zk rfl Tryz.call94 rfl (fun hin => offR_ct _ _ _ _) rfl ?_
       rintro _ _ ⟨rfl, rfl⟩
       refine Za (v := .bool (decide (num < 0 ∨ 7 < num))) rfl (Pu.pickT rfl rfl) ?_
       refine Za (v := .bool (decide (num < 0 ∨ 7 < num))) rfl (Pu.pickF rfl rfl) ?_
       refine Zb ?_
       first | exact ⟨rfl, rfl, rfl, rfl, rfl, rfl, rfl⟩ | (exfalso; omega)
      | false =>
       replace h42 := df h42
       refine Za (v := .pointer (some ⟨b1, 0, none⟩)) rfl (fa27_0 rfl rfl) ?_
       refine Zd rfl (Zh ty3 rfl (At.bx 0 rfl) (pkT_0 ..) ?_)
       refine Za (v := .bool (decide (kind = 11))) rfl (Pu.eql rfl rfl) ?_
       refine Za (v := .bool (decide (kind = 11))) rfl (Pu.pickF rfl rfl) ?_
       refine Za (v := .bool (decide (kind = 11))) rfl (Pu.move rfl) ?_
       cases h43 : (decide (kind = 11)) with
       | true =>
        replace h43 := dt h43
        refine Za (v := .pointer (some ⟨b1, 1, none⟩)) rfl (fa27_1 rfl rfl) ?_
        refine Zd rfl (Zh ty3 rfl (At.bx 0 rfl) (pkT_1 ..) ?_)
        refine Zk rfl Tryz.call94 rfl (fun hin => offR_ct _ _ _ _) rfl ?_
        rintro _ _ ⟨rfl, rfl⟩
        refine Za (v := .bool (decide (num < 0 ∨ 7 < num))) rfl (Pu.pickT rfl rfl) ?_
        refine Za (v := .bool (decide (num < 0 ∨ 7 < num))) rfl (Pu.pickF rfl rfl) ?_
        refine Zb ?_
        first | exact ⟨rfl, rfl, rfl, rfl, rfl, rfl, rfl⟩ | (exfalso; omega)
       | false =>
        replace h43 := df h43
        refine Zf rfl ?_
        refine Zf rfl ?_
        refine Zf rfl ?_
        refine Za (v := .bool false) rfl (Pu.pickF rfl rfl) ?_
        refine Za (v := .bool false) rfl (Pu.pickF rfl rfl) ?_
        refine Zb ?_
        first | exact ⟨rfl, rfl, rfl, rfl, rfl, rfl, rfl⟩ | (exfalso; omega)
    | false =>
     replace h40 := df h40
     refine Zf rfl ?_
     refine Zf rfl ?_
     refine Zf rfl ?_
     refine Za (v := .bool false) rfl (Pu.pickF rfl rfl) ?_
     refine Za (v := .bool false) rfl (Pu.pickF rfl rfl) ?_
     refine Za (v := .bool false) rfl (Pu.move rfl) ?_
     refine Za (v := .pointer (some ⟨b1, 0, none⟩)) rfl (fa27_0 rfl rfl) ?_
     refine Zd rfl (Zh ty3 rfl (At.bx 0 rfl) (pkT_0 ..) ?_)
     refine Za (v := .bool (decide (kind = 8))) rfl (Pu.eql rfl rfl) ?_
     refine Za (v := .bool (decide (kind = 8))) rfl (Pu.move rfl) ?_
     cases h44 : (decide (kind = 8)) with
     | true =>
      replace h44 := dt h44
      refine Zf rfl ?_
      refine Zf rfl ?_
      refine Zf rfl ?_
      refine Za (v := .bool true) rfl (Pu.pickT rfl rfl) ?_
      refine Za (v := .bool true) rfl (Pu.move rfl) ?_
      refine Za (v := .pointer (some ⟨b1, 1, none⟩)) rfl (fa27_1 rfl rfl) ?_
      refine Zd rfl (Zh ty3 rfl (At.bx 0 rfl) (pkT_1 ..) ?_)
      refine Zk rfl Tryz.call94 rfl (fun hin => offR_ct _ _ _ _) rfl ?_
      rintro _ _ ⟨rfl, rfl⟩
      refine Za (v := .bool (decide (num < 0 ∨ 7 < num))) rfl (Pu.pickT rfl rfl) ?_
      refine Za (v := .bool (decide (num < 0 ∨ 7 < num))) rfl (Pu.pickF rfl rfl) ?_
      refine Zb ?_
      first | exact ⟨rfl, rfl, rfl, rfl, rfl, rfl, rfl⟩ | (exfalso; omega)
     | false =>
      replace h44 := df h44
      refine Za (v := .pointer (some ⟨b1, 0, none⟩)) rfl (fa27_0 rfl rfl) ?_
      refine Zd rfl (Zh ty3 rfl (At.bx 0 rfl) (pkT_0 ..) ?_)
      refine Za (v := .bool (decide (kind = 11))) rfl (Pu.eql rfl rfl) ?_
      refine Za (v := .bool (decide (kind = 11))) rfl (Pu.pickF rfl rfl) ?_
      refine Za (v := .bool (decide (kind = 11))) rfl (Pu.move rfl) ?_
      cases h45 : (decide (kind = 11)) with
      | true =>
       replace h45 := dt h45
       refine Za (v := .pointer (some ⟨b1, 1, none⟩)) rfl (fa27_1 rfl rfl) ?_
       refine Zd rfl (Zh ty3 rfl (At.bx 0 rfl) (pkT_1 ..) ?_)
       refine Zk rfl Tryz.call94 rfl (fun hin => offR_ct _ _ _ _) rfl ?_
       rintro _ _ ⟨rfl, rfl⟩
       refine Za (v := .bool (decide (num < 0 ∨ 7 < num))) rfl (Pu.pickT rfl rfl) ?_
       refine Za (v := .bool (decide (num < 0 ∨ 7 < num))) rfl (Pu.pickF rfl rfl) ?_
       refine Zb ?_
       first | exact ⟨rfl, rfl, rfl, rfl, rfl, rfl, rfl⟩ | (exfalso; omega)
      | false =>
       replace h45 := df h45
       refine Zf rfl ?_
       refine Zf rfl ?_
       refine Zf rfl ?_
       refine Za (v := .bool false) rfl (Pu.pickF rfl rfl) ?_
       refine Za (v := .bool false) rfl (Pu.pickF rfl rfl) ?_
       refine Zb ?_
       first | exact ⟨rfl, rfl, rfl, rfl, rfl, rfl, rfl⟩ | (exfalso; omega)
  | false =>
   replace h38 := df h38
   refine Zf rfl ?_
   refine Zf rfl ?_
   refine Zf rfl ?_
   refine Za (v := .bool false) rfl (Pu.pickF rfl rfl) ?_
   refine Za (v := .bool false) rfl (Pu.move rfl) ?_
   refine Za (v := .pointer (some ⟨b1, 0, none⟩)) rfl (fa27_0 rfl rfl) ?_
   refine Zd rfl (Zh ty3 rfl (At.bx 0 rfl) (pkT_0 ..) ?_)
   refine Za (v := .bool (decide (kind = 10))) rfl (Pu.eql rfl rfl) ?_
   refine Za (v := .bool (decide (kind = 10))) rfl (Pu.move rfl) ?_
   cases h46 : (decide (kind = 10)) with
   | true =>
    replace h46 := dt h46
    refine Za (v := .pointer (some ⟨b1, 1, none⟩)) rfl (fa27_1 rfl rfl) ?_
    refine Zd rfl (Zh ty3 rfl (At.bx 0 rfl) (pkT_1 ..) ?_)
    refine Zk rfl Tryz.call94 rfl (fun hin => offR_ct _ _ _ _) rfl ?_
    rintro _ _ ⟨rfl, rfl⟩
    refine Za (v := .bool (decide (num < 1 ∨ 5 < num))) rfl (Pu.pickT rfl rfl) ?_
    refine Za (v := .bool (decide (num < 1 ∨ 5 < num))) rfl (Pu.pickF rfl rfl) ?_
    refine Za (v := .bool (decide (num < 1 ∨ 5 < num))) rfl (Pu.move rfl) ?_
    cases h47 : (decide (num < 1 ∨ 5 < num)) with
    | true =>
     replace h47 := dt h47
     refine Zf rfl ?_
     refine Zf rfl ?_
     refine Zf rfl ?_
     refine Zf rfl ?_
     refine Zf rfl ?_
     refine Zf rfl ?_
     refine Zf rfl ?_
     refine Zf rfl ?_
     refine Zf rfl ?_
     refine Zf rfl ?_
     refine Zf rfl ?_
     refine Zf rfl ?_
     refine Zf rfl ?_
     refine Za (v := .bool true) rfl (Pu.pickT rfl rfl) ?_
     refine Zb ?_
     first | exact ⟨rfl, rfl, rfl, rfl, rfl, rfl, rfl⟩ | (exfalso; omega)
    | false =>
     replace h47 := df h47
     refine Za (v := .pointer (some ⟨b1, 0, none⟩)) rfl (fa27_0 rfl rfl) ?_
     refine Zd rfl (Zh ty3 rfl (At.bx 0 rfl) (pkT_0 ..) ?_)
     refine Za (v := .bool (decide (kind = 8))) rfl (Pu.eql rfl rfl) ?_
     refine Za (v := .bool (decide (kind = 8))) rfl (Pu.move rfl) ?_
     cases h48 : (decide (kind = 8)) with
     | true =>
      replace h48 := dt h48
      refine Zf rfl ?_
      refine Zf rfl ?_
      refine Zf rfl ?_
      refine Za (v := .bool true) rfl (Pu.pickT rfl rfl) ?_
      refine Za (v := .bool true) rfl (Pu.move rfl) ?_
      refine Za (v := .pointer (some ⟨b1, 1, none⟩)) rfl (fa27_1 rfl rfl) ?_
      refine Zd rfl (Zh ty3 rfl (At.bx 0 rfl) (pkT_1 ..) ?_)
      refine Zk rfl Tryz.call94 rfl (fun hin => offR_ct _ _ _ _) rfl ?_
      rintro _ _ ⟨rfl, rfl⟩
      refine Za (v := .bool (decide (num < 0 ∨ 7 < num))) rfl (Pu.pickT rfl rfl) ?_
      refine Za (v := .bool (decide (num < 0 ∨ 7 < num))) rfl (Pu.pickF rfl rfl) ?_
      refine Zb ?_
      first | exact ⟨rfl, rfl, rfl, rfl, rfl, rfl, rfl⟩ | (exfalso; omega)
     | false =>
      replace h48 := df h48
      refine Za (v := .pointer (some ⟨b1, 0, none⟩)) rfl (fa27_0 rfl rfl) ?_
      refine Zd rfl (Zh ty3 rfl (At.bx 0 rfl) (pkT_0 ..) ?_)
      refine Za (v := .bool (decide (kind = 11))) rfl (Pu.eql rfl rfl) ?_
      refine Za (v := .bool (decide (kind = 11))) rfl (Pu.pickF rfl rfl) ?_
      refine Za (v := .bool (decide (kind = 11))) rfl (Pu.move rfl) ?_
      cases h49 : (decide (kind = 11)) with
      | true =>
       replace h49 := dt h49
       refine Za (v := .pointer (some ⟨b1, 1, none⟩)) rfl (fa27_1 rfl rfl) ?_
       refine Zd rfl (Zh ty3 rfl (At.bx 0 rfl) (pkT_1 ..) ?_)
       refine Zk rfl Tryz.call94 rfl (fun hin => offR_ct _ _ _ _) rfl ?_
       rintro _ _ ⟨rfl, rfl⟩
       refine Za (v := .bool (decide (num < 0 ∨ 7 < num))) rfl (Pu.pickT rfl rfl) ?_
       refine Za (v := .bool (decide (num < 0 ∨ 7 < num))) rfl (Pu.pickF rfl rfl) ?_
       refine Zb ?_
       first | exact ⟨rfl, rfl, rfl, rfl, rfl, rfl, rfl⟩ | (exfalso; omega)
      | false =>
       replace h49 := df h49
       refine Zf rfl ?_
       refine Zf rfl ?_
       refine Zf rfl ?_
       refine Za (v := .bool false) rfl (Pu.pickF rfl rfl) ?_
       refine Za (v := .bool false) rfl (Pu.pickF rfl rfl) ?_
       refine Zb ?_
       first | exact ⟨rfl, rfl, rfl, rfl, rfl, rfl, rfl⟩ | (exfalso; omega)
   | false =>
    replace h46 := df h46
    refine Zf rfl ?_
    refine Zf rfl ?_
    refine Zf rfl ?_
    refine Za (v := .bool false) rfl (Pu.pickF rfl rfl) ?_
    refine Za (v := .bool false) rfl (Pu.pickF rfl rfl) ?_
    refine Za (v := .bool false) rfl (Pu.move rfl) ?_
    refine Za (v := .pointer (some ⟨b1, 0, none⟩)) rfl (fa27_0 rfl rfl) ?_
    refine Zd rfl (Zh ty3 rfl (At.bx 0 rfl) (pkT_0 ..) ?_)
    refine Za (v := .bool (decide (kind = 8))) rfl (Pu.eql rfl rfl) ?_
    refine Za (v := .bool (decide (kind = 8))) rfl (Pu.move rfl) ?_
    cases h50 : (decide (kind = 8)) with
    | true =>
     replace h50 := dt h50
     refine Zf rfl ?_
     refine Zf rfl ?_
     refine Zf rfl ?_
     refine Za (v := .bool true) rfl (Pu.pickT rfl rfl) ?_
     refine Za (v := .bool true) rfl (Pu.move rfl) ?_
     refine Za (v := .pointer (some ⟨b1, 1, none⟩)) rfl (fa27_1 rfl rfl) ?_
     refine Zd rfl (Zh ty3 rfl (At.bx 0 rfl) (pkT_1 ..) ?_)
     refine Zk rfl Tryz.call94 rfl (fun hin => offR_ct _ _ _ _) rfl ?_
     rintro _ _ ⟨rfl, rfl⟩
     refine Za (v := .bool (decide (num < 0 ∨ 7 < num))) rfl (Pu.pickT rfl rfl) ?_
     refine Za (v := .bool (decide (num < 0 ∨ 7 < num))) rfl (Pu.pickF rfl rfl) ?_
     refine Zb ?_
     first | exact ⟨rfl, rfl, rfl, rfl, rfl, rfl, rfl⟩ | (exfalso; omega)
    | false =>
     replace h50 := df h50
     refine Za (v := .pointer (some ⟨b1, 0, none⟩)) rfl (fa27_0 rfl rfl) ?_
     refine Zd rfl (Zh ty3 rfl (At.bx 0 rfl) (pkT_0 ..) ?_)
     refine Za (v := .bool (decide (kind = 11))) rfl (Pu.eql rfl rfl) ?_
     refine Za (v := .bool (decide (kind = 11))) rfl (Pu.pickF rfl rfl) ?_
     refine Za (v := .bool (decide (kind = 11))) rfl (Pu.move rfl) ?_
     cases h51 : (decide (kind = 11)) with
     | true =>
      replace h51 := dt h51
      refine Za (v := .pointer (some ⟨b1, 1, none⟩)) rfl (fa27_1 rfl rfl) ?_
      refine Zd rfl (Zh ty3 rfl (At.bx 0 rfl) (pkT_1 ..) ?_)
      refine Zk rfl Tryz.call94 rfl (fun hin => offR_ct _ _ _ _) rfl ?_
      rintro _ _ ⟨rfl, rfl⟩
      refine Za (v := .bool (decide (num < 0 ∨ 7 < num))) rfl (Pu.pickT rfl rfl) ?_
      refine Za (v := .bool (decide (num < 0 ∨ 7 < num))) rfl (Pu.pickF rfl rfl) ?_
      refine Zb ?_
      first | exact ⟨rfl, rfl, rfl, rfl, rfl, rfl, rfl⟩ | (exfalso; omega)
     | false =>
      replace h51 := df h51
      refine Zf rfl ?_
      refine Zf rfl ?_
      refine Zf rfl ?_
      refine Za (v := .bool false) rfl (Pu.pickF rfl rfl) ?_
      refine Za (v := .bool false) rfl (Pu.pickF rfl rfl) ?_
      refine Zb ?_
      first | exact ⟨rfl, rfl, rfl, rfl, rfl, rfl, rfl⟩ | (exfalso; omega)
 rintro ρ52 _ ⟨e53, e54, e55, e56, e57, e58, rfl⟩
 obtain ⟨ρ59, rfl⟩ := Ze (uc e53 (uc e54 (uc e55 (uc e56 (uc e57 (uc e58 un))))))
 clear e53 e54 e55 e56 e57 e58
 refine Zl (b := (((decide (kind = 2)) && (decide (num < 0 ∨ 1073741824 < num))) || ((decide (kind = 10)) && (decide (num < 1 ∨ 5 < num)))) || (((decide (kind = 8)) || (decide (kind = 11))) && (decide (num < 0 ∨ 7 < num)))) rfl (fun h60 => ?_) (fun h60 => ?_)
 ·refine Zg (Zc ?_)
  refine Za (v := .int .i64 3) rfl (Pu.assign rfl) ?_
  refine Zb ?_
  refine Zo ?_
  refine ⟨.int .i64 3, [], Ret.one rfl (RV.tmp rfl), Sub.nil, ?_⟩
  have hx : nHead d m b kind num ref kids.length cases.length = 3 := by simp only [nHead]; (repeat' split) <;> first | rfl | omega | (exfalso; simp_all; done) | (exfalso; simp_all; omega) | grind
  exact ⟨by rw [nErr, hx]; rfl, rfl⟩
 obtain ⟨h60a, h60b⟩ := orF h60
 obtain ⟨h60aa, h60ab⟩ := orF h60a
 refine Zq ?_
 refine Zg ?_
 refine J_cut (fun ρ M => ρ 1 = .int .i64 d ∧ ρ 2 = .int .i64 m ∧ ρ 3 = .int .i64 b ∧ ρ 4 = .pointer (some ⟨b1, 0, none⟩) ∧ ρ 8 = .int .i64 0 ∧ ρ 140 = .bool (((decide (kind = 1)) && ((decide (num < 0)) || ((decide (b ≤ num)) && (decide (d ≤ num - b))))) || ((decide (kind = 7)) && ((decide (num < 0)) || (decide (m ≤ num))))) ∧ M = [[(b1, .cells ⟨pkT kind num ref ks cv⟩ 27 (0, 0))]]) ?_ ?_
 ·refine Zc ?_
  refine Za (v := .pointer (some ⟨b1, 0, none⟩)) rfl (fa27_0 rfl rfl) ?_
  refine Zd rfl (Zh ty3 rfl (At.bx 0 rfl) (pkT_0 ..) ?_)
  refine Za (v := .bool (decide (kind = 1))) rfl (Pu.eql rfl rfl) ?_
  refine Za (v := .bool (decide (kind = 1))) rfl (Pu.move rfl) ?_
  cases h61 : (decide (kind = 1)) with
  | true =>
   replace h61 := dt h61
   refine Za (v := .pointer (some ⟨b1, 1, none⟩)) rfl (fa27_1 rfl rfl) ?_
   refine Zd rfl (Zh ty3 rfl (At.bx 0 rfl) (pkT_1 ..) ?_)
   refine Za (v := .bool (decide (num < 0))) rfl (Pu.lss rfl rfl) ?_
   refine Za (v := .bool (decide (num < 0))) rfl (Pu.move rfl) ?_
   cases h62 : (decide (num < 0)) with
   | true =>
    replace h62 := dt h62
    refine Zf rfl ?_
    refine Zf rfl ?_
    refine Zf rfl ?_
    refine Zf rfl ?_
    refine Zf rfl ?_
    refine Zf rfl ?_
    refine Zf rfl ?_
    refine Zf rfl ?_
    refine Zf rfl ?_
    refine Zf rfl ?_
    refine Zf rfl ?_
    refine Zf rfl ?_
    refine Za (v := .bool true) rfl (Pu.pickT rfl rfl) ?_
    refine Za (v := .bool true) rfl (Pu.pickT rfl rfl) ?_
    refine Za (v := .bool true) rfl (Pu.move rfl) ?_
    refine Zf rfl ?_
    refine Zf rfl ?_
    refine Zf rfl ?_
    refine Zf rfl ?_
    refine Zf rfl ?_
    refine Zf rfl ?_
    refine Zf rfl ?_
    refine Zf rfl ?_
    refine Zf rfl ?_
    refine Zf rfl ?_
    refine Zf rfl ?_
    refine Zf rfl ?_
    refine Zf rfl ?_
    refine Zf rfl ?_
    refine Za (v := .bool true) rfl (Pu.pickT rfl rfl) ?_
    refine Zb ?_
    first | exact ⟨rfl, rfl, rfl, rfl, rfl, rfl, rfl⟩ | (exfalso; omega)
   | false =>
    replace h62 := df h62
    refine Za (v := .pointer (some ⟨b1, 1, none⟩)) rfl (fa27_1 rfl rfl) ?_
    refine Zd rfl (Zh ty3 rfl (At.bx 0 rfl) (pkT_1 ..) ?_)
    refine Za (v := .int .i64 b) rfl (Pu.move rfl) ?_
    refine Za (v := .bool (decide (b ≤ num))) rfl (Pu.geq rfl rfl) ?_
    refine Za (v := .bool (decide (b ≤ num))) rfl (Pu.move rfl) ?_
    cases h63 : (decide (b ≤ num)) with
    | true =>
     replace h63 := dt h63
     refine Za (v := .pointer (some ⟨b1, 1, none⟩)) rfl (fa27_1 rfl rfl) ?_
     refine Zd rfl (Zh ty3 rfl (At.bx 0 rfl) (pkT_1 ..) ?_)
     refine Za (v := .int .i64 b) rfl (Pu.move rfl) ?_
     refine Za (v := .int .i64 (num - b)) rfl (Pu.sub64 rfl rfl (by first | omega | (constructor <;> omega))) ?_
     refine Za (v := .int .i64 d) rfl (Pu.move rfl) ?_
     refine Za (v := .bool (decide (d ≤ num - b))) rfl (Pu.geq rfl rfl) ?_
     refine Za (v := .bool (decide (d ≤ num - b))) rfl (Pu.pickT rfl rfl) ?_
     refine Za (v := .bool (decide (d ≤ num - b))) rfl (Pu.pickF rfl rfl) ?_
     refine Za (v := .bool (decide (d ≤ num - b))) rfl (Pu.pickT rfl rfl) ?_
     refine Za (v := .bool (decide (d ≤ num - b))) rfl (Pu.move rfl) ?_
     cases h64 : (decide (d ≤ num - b)) with
     | true =>
      replace h64 := dt h64
      refine Zf rfl ?_
      refine Zf rfl ?_
      refine Zf rfl ?_
      refine Zf rfl ?_
      refine Zf rfl ?_
      refine Zf rfl ?_
      refine Zf rfl ?_
      refine Zf rfl ?_
      refine Zf rfl ?_
      refine Zf rfl ?_
      refine Zf rfl ?_
      refine Zf rfl ?_
      refine Zf rfl ?_
      refine Zf rfl ?_
      refine Za (v := .bool true) rfl (Pu.pickT rfl rfl) ?_
      refine Zb ?_
      first | exact ⟨rfl, rfl, rfl, rfl, rfl, rfl, rfl⟩ | (exfalso; omega)
     | false =>
      replace h64 := df h64
      refine Za (v := .pointer (some ⟨b1, 0, none⟩)) rfl (fa27_0 rfl rfl) ?_
      refine Zd rfl (Zh ty3 rfl (At.bx 0 rfl) (pkT_0 ..) ?_)
      refine Za (v := .bool (decide (kind = 7))) rfl (Pu.eql rfl rfl) ?_
      refine Za (v := .bool (decide (kind = 7))) rfl (Pu.move rfl) ?_
      cases h65 : (decide (kind = 7)) with
      | true =>
       replace h65 := dt h65
       refine Za (v := .pointer (some ⟨b1, 1, none⟩)) rfl (fa27_1 rfl rfl) ?_
       refine Zd rfl (Zh ty3 rfl (At.bx 0 rfl) (pkT_1 ..) ?_)
       refine Za (v := .bool (decide (num < 0))) rfl (Pu.lss rfl rfl) ?_
       refine Za (v := .bool (decide (num < 0))) rfl (Pu.move rfl) ?_
       cases h66 : (decide (num < 0)) with
       | true =>
        replace h66 := dt h66
        refine Zf rfl ?_
        refine Zf rfl ?_
        refine Zf rfl ?_
        refine Zf rfl ?_
        refine Za (v := .bool true) rfl (Pu.pickT rfl rfl) ?_
        refine Za (v := .bool true) rfl (Pu.pickT rfl rfl) ?_
        refine Za (v := .bool true) rfl (Pu.pickF rfl rfl) ?_
        refine Zb ?_
        first | exact ⟨rfl, rfl, rfl, rfl, rfl, rfl, rfl⟩ | (exfalso; omega)
       | false =>
        replace h66 := df h66
        refine Za (v := .pointer (some ⟨b1, 1, none⟩)) rfl (fa27_1 rfl rfl) ?_
        refine Zd rfl (Zh ty3 rfl (At.bx 0 rfl) (pkT_1 ..) ?_)
        refine Za (v := .int .i64 m) rfl (Pu.move rfl) ?_
        refine Za (v := .bool (decide (m ≤ num))) rfl (Pu.geq rfl rfl) ?_
        refine Za (v := .bool (decide (m ≤ num))) rfl (Pu.pickF rfl rfl) ?_
        refine Za (v := .bool (decide (m ≤ num))) rfl (Pu.pickT rfl rfl) ?_
        refine Za (v := .bool (decide (m ≤ num))) rfl (Pu.pickF rfl rfl) ?_
        refine Zb ?_
        first | exact ⟨rfl, rfl, rfl, rfl, rfl, rfl, rfl⟩ | (exfalso; omega)
      | false =>
       replace h65 := df h65
       refine Zf rfl ?_
       refine Zf rfl ?_
       refine Zf rfl ?_
       refine Zf rfl ?_
       refine Zf rfl ?_
       refine Zf rfl ?_
       refine Zf rfl ?_
       refine Zf rfl ?_
       refine Zf rfl ?_
       refine Za (v := .bool false) rfl (Pu.pickF rfl rfl) ?_
       refine Za (v := .bool false) rfl (Pu.pickF rfl rfl) ?_
       refine Zb ?_
       first | exact ⟨rfl, rfl, rfl, rfl, rfl, rfl, rfl⟩ | (exfalso; omega)
    | false =>
     replace h63 := df h63
     refine Zf rfl ?_
     refine Zf rfl ?_
     refine Zf rfl ?_
     refine Zf rfl ?_
     refine Zf rfl ?_
     refine Zf rfl ?_
     refine Za (v := .bool false) rfl (Pu.pickF rfl rfl) ?_
     refine Za (v := .bool false) rfl (Pu.pickF rfl rfl) ?_
     refine Za (v := .bool false) rfl (Pu.pickT rfl rfl) ?_
     refine Za (v := .bool false) rfl (Pu.move rfl) ?_
     refine Za (v := .pointer (some ⟨b1, 0, none⟩)) rfl (fa27_0 rfl rfl) ?_
     refine Zd rfl (Zh ty3 rfl (At.bx 0 rfl) (pkT_0 ..) ?_)
     refine Za (v := .bool (decide (kind = 7))) rfl (Pu.eql rfl rfl) ?_
     refine Za (v := .bool (decide (kind = 7))) rfl (Pu.move rfl) ?_
     cases h67 : (decide (kind = 7)) with
     | true =>
      replace h67 := dt h67
      refine Za (v := .pointer (some ⟨b1, 1, none⟩)) rfl (fa27_1 rfl rfl) ?_
      refine Zd rfl (Zh ty3 rfl (At.bx 0 rfl) (pkT_1 ..) ?_)
      refine Za (v := .bool (decide (num < 0))) rfl (Pu.lss rfl rfl) ?_
      refine Za (v := .bool (decide (num < 0))) rfl (Pu.move rfl) ?_
      cases h68 : (decide (num < 0)) with
      | true =>
       replace h68 := dt h68
       refine Zf rfl ?_
       refine Zf rfl ?_
       refine Zf rfl ?_
       refine Zf rfl ?_
       refine Za (v := .bool true) rfl (Pu.pickT rfl rfl) ?_
       refine Za (v := .bool true) rfl (Pu.pickT rfl rfl) ?_
       refine Za (v := .bool true) rfl (Pu.pickF rfl rfl) ?_
       refine Zb ?_
       first | exact ⟨rfl, rfl, rfl, rfl, rfl, rfl, rfl⟩ | (exfalso; omega)
      | false =>
       replace h68 := df h68
       refine Za (v := .pointer (some ⟨b1, 1, none⟩)) rfl (fa27_1 rfl rfl) ?_
       refine Zd rfl (Zh ty3 rfl (At.bx 0 rfl) (pkT_1 ..) ?_)
       refine Za (v := .int .i64 m) rfl (Pu.move rfl) ?_
       refine Za (v := .bool (decide (m ≤ num))) rfl (Pu.geq rfl rfl) ?_
       refine Za (v := .bool (decide (m ≤ num))) rfl (Pu.pickF rfl rfl) ?_
       refine Za (v := .bool (decide (m ≤ num))) rfl (Pu.pickT rfl rfl) ?_
       refine Za (v := .bool (decide (m ≤ num))) rfl (Pu.pickF rfl rfl) ?_
       refine Zb ?_
       first | exact ⟨rfl, rfl, rfl, rfl, rfl, rfl, rfl⟩ | (exfalso; omega)
     | false =>
      replace h67 := df h67
      refine Zf rfl ?_
      refine Zf rfl ?_
      refine Zf rfl ?_
      refine Zf rfl ?_
      refine Zf rfl ?_
      refine Zf rfl ?_
      refine Zf rfl ?_
      refine Zf rfl ?_
      refine Zf rfl ?_
      refine Za (v := .bool false) rfl (Pu.pickF rfl rfl) ?_
      refine Za (v := .bool false) rfl (Pu.pickF rfl rfl) ?_
      refine Zb ?_
      first | exact ⟨rfl, rfl, rfl, rfl, rfl, rfl, rfl⟩ | (exfalso; omega)
  | false =>
   replace h61 := df h61
   refine Zf rfl ?_
   refine Zf rfl ?_
   refine Zf rfl ?_
   refine Zf rfl ?_
   refine Zf rfl ?_
   refine Zf rfl ?_
   refine Zf rfl ?_
   refine Zf rfl ?_
   refine Zf rfl ?_
   refine Zf rfl ?_
   refine Zf rfl ?_
   refine Zf rfl ?_
   refine Zf rfl ?_
   refine Zf rfl ?_
   refine Zf rfl ?_
   refine Zf rfl ?_
   refine Zf rfl ?_
   refine Za (v := .bool false) rfl (Pu.pickF rfl rfl) ?_
   refine Za (v := .bool false) rfl (Pu.move rfl) ?_
   refine Za (v := .pointer (some ⟨b1, 0, none⟩)) rfl (fa27_0 rfl rfl) ?_
   refine Zd rfl (Zh ty3 rfl (At.bx 0 rfl) (pkT_0 ..) ?_)
   refine Za (v := .bool (decide (kind = 7))) rfl (Pu.eql rfl rfl) ?_
   refine Za (v := .bool (decide (kind = 7))) rfl (Pu.move rfl) ?_
   cases h69 : (decide (kind = 7)) with
   | true =>
    replace h69 := dt h69
    refine Za (v := .pointer (some ⟨b1, 1, none⟩)) rfl (fa27_1 rfl rfl) ?_
    refine Zd rfl (Zh ty3 rfl (At.bx 0 rfl) (pkT_1 ..) ?_)
    refine Za (v := .bool (decide (num < 0))) rfl (Pu.lss rfl rfl) ?_
    refine Za (v := .bool (decide (num < 0))) rfl (Pu.move rfl) ?_
    cases h70 : (decide (num < 0)) with
    | true =>
     replace h70 := dt h70
     refine Zf rfl ?_
     refine Zf rfl ?_
     refine Zf rfl ?_
     refine Zf rfl ?_
     refine Za (v := .bool true) rfl (Pu.pickT rfl rfl) ?_
     refine Za (v := .bool true) rfl (Pu.pickT rfl rfl) ?_
     refine Za (v := .bool true) rfl (Pu.pickF rfl rfl) ?_
     refine Zb ?_
     first | exact ⟨rfl, rfl, rfl, rfl, rfl, rfl, rfl⟩ | (exfalso; omega)
    | false =>
     replace h70 := df h70
     refine Za (v := .pointer (some ⟨b1, 1, none⟩)) rfl (fa27_1 rfl rfl) ?_
     refine Zd rfl (Zh ty3 rfl (At.bx 0 rfl) (pkT_1 ..) ?_)
     refine Za (v := .int .i64 m) rfl (Pu.move rfl) ?_
     refine Za (v := .bool (decide (m ≤ num))) rfl (Pu.geq rfl rfl) ?_
     refine Za (v := .bool (decide (m ≤ num))) rfl (Pu.pickF rfl rfl) ?_
     refine Za (v := .bool (decide (m ≤ num))) rfl (Pu.pickT rfl rfl) ?_
     refine Za (v := .bool (decide (m ≤ num))) rfl (Pu.pickF rfl rfl) ?_
     refine Zb ?_
     first | exact ⟨rfl, rfl, rfl, rfl, rfl, rfl, rfl⟩ | (exfalso; omega)
   | false =>
    replace h69 := df h69
    refine Zf rfl ?_
    refine Zf rfl ?_
    refine Zf rfl ?_
    refine Zf rfl ?_
    refine Zf rfl ?_
    refine Zf rfl ?_
    refine Zf rfl ?_
    refine Zf rfl ?_
    refine Zf rfl ?_
    refine Za (v := .bool false) rfl (Pu.pickF rfl rfl) ?_
    refine Za (v := .bool false) rfl (Pu.pickF rfl rfl) ?_
    refine Zb ?_
    first | exact ⟨rfl, rfl, rfl, rfl, rfl, rfl, rfl⟩ | (exfalso; omega)
 rintro ρ71 _ ⟨e72, e73, e74, e75, e76, e77, rfl⟩
 obtain ⟨ρ78, rfl⟩ := Ze (uc e72 (uc e73 (uc e74 (uc e75 (uc e76 (uc e77 un))))))
 clear e72 e73 e74 e75 e76 e77
 refine Zl (b := ((decide (kind = 1)) && ((decide (num < 0)) || ((decide (b ≤ num)) && (decide (d ≤ num - b))))) || ((decide (kind = 7)) && ((decide (num < 0)) || (decide (m ≤ num))))) rfl (fun h79 => ?_) (fun h79 => ?_)
 ·refine Zg (Zc ?_)
  refine Za (v := .int .i64 1) rfl (Pu.assign rfl) ?_
  refine Zb ?_
  refine Zo ?_
  refine ⟨.int .i64 1, [], Ret.one rfl (RV.tmp rfl), Sub.nil, ?_⟩
  have hx : nHead d m b kind num ref kids.length cases.length = 1 := by simp only [nHead]; (repeat' split) <;> first | rfl | omega | (exfalso; simp_all; done) | (exfalso; simp_all; omega) | grind
  exact ⟨by rw [nErr, hx]; rfl, rfl⟩
 obtain ⟨h79a, h79b⟩ := orF h79
 refine Zq ?_
 refine Zg ?_
 refine Zg (Zc ?_)
 refine Za (v := .int .i64 0) rfl (Pu.assign rfl) ?_
 refine Zb ?_
 refine Zs ?_
 refine J_loop (fun k ρ M => ∃ (j : Nat), ρ 1 = .int .i64 d ∧ ρ 2 = .int .i64 m ∧ ρ 3 = .int .i64 b ∧ ρ 4 = .pointer (some ⟨b1, 0, none⟩) ∧ ρ 8 = .int .i64 0 ∧ ρ 11 = .int .i64 ((j : Int)) ∧ Sub [[(b1, .cells ⟨pkT kind num ref ks cv⟩ 27 (0, 0))]] M ∧ j ≤ cases.length ∧ nHead d m b kind num ref kids.length cases.length = 0 ∧ pErrRC (cases.drop j) = pErrRC cases ∧ k = cases.length - j) _ ⟨0, rfl, rfl, rfl, rfl, rfl, rfl, (Sk Sub.nil), Nat.zero_le _, (by simp only [nHead]; (repeat' split) <;> first | rfl | omega | (exfalso; simp_all; done) | (exfalso; simp_all; omega) | grind), rfl, rfl⟩ ?_
 rintro _ ρ80 _ ⟨j, e81, e82, e83, e84, e85, e86, hm87, hj, hh, hinv, rfl⟩
 obtain ⟨ρ88, rfl⟩ := Ze (uc e81 (uc e82 (uc e83 (uc e84 (uc e85 (uc e86 un))))))
 clear e81 e82 e83 e84 e85 e86
 refine J_sub hm87 ?_
 have hlen := hcv.le
 refine Zg ?_
 refine Zg (Zc ?_)
 refine Za (v := .int .i64 ((j : Int))) rfl (Pu.move rfl) ?_
 refine Za (v := .pointer (some ⟨b1, 35, none⟩)) rfl (fa27_4 rfl rfl) ?_
 refine Zd rfl (Zh ty25 rfl (At.bx 0 rfl) (pkT_35 ..) ?_)
 obtain ⟨a89, cap89, hv89⟩ := hcv.sl
 have hle89 := hcv.le
 refine Za (v := .int .i64 ((cases.length : Int))) rfl (Pu.lenSl Tryz.runUnderlying25 hv89) ?_
 refine Za (v := .bool (decide ((j : Int) < (cases.length : Int)))) rfl (Pu.lss rfl rfl) ?_
 refine Zb ?_
 refine Zl (b := decide ((j : Int) < (cases.length : Int))) rfl (fun h90 => ?_) (fun h90 => ?_)
 ·replace h90 := dt h90
  have h90n : j < cases.length := by omega
  refine Zq ?_
  refine Zg ?_
  refine Zs ?_
  refine Zg (Zc ?_)
  refine Za (v := .pointer (some ⟨b1, 35, none⟩)) rfl (fa27_4 rfl rfl) ?_
  refine Zd rfl (Zh ty25 rfl (At.bx 0 rfl) (pkT_35 ..) ?_)
  refine Za (v := .int .i64 ((j : Int))) rfl (Pu.move rfl) ?_
  obtain ⟨b91, o91, cap91, row91, T91, fr91, cs91, hv91, hb91, hs91, hE91⟩ := hcv.get j (by first | assumption | omega | decide | simp)
  obtain ⟨ca91, cb91, rfl, hA91, hB91⟩ := hE91
  refine Za (v := .pointer (some ⟨b91, o91 + j * 71, none⟩)) rfl (Pu.idx j Tryz.runUnderlying25 ty34 hv91 rfl rfl (by first | assumption | omega | decide | simp)) ?_
  refine Za (v := .pointer (some ⟨b91, o91 + j * 71, none⟩)) rfl (fa34_0 rfl rfl) ?_
  refine Zd rfl (Zj ty30 rfl (At.im hb91) (sub_sub0 hs91 (sub_l (RP_len hA91))) ?_)
  refine Zk rfl Tryz.call98 rfl (fun hin => patternErrorR_ct _ _ _ (RP.mono (Hle.hu _ _) hA91)) rfl ?_
  rintro _ _ ⟨rfl, rfl⟩
  refine Za (v := .int .i64 (pErrR (cases[j].1))) rfl (Pu.assign rfl) ?_
  refine Zb ?_
  refine Zg (Zc ?_)
  refine Za (v := .int .i64 (pErrR (cases[j].1))) rfl (Pu.move rfl) ?_
  refine Za (v := .bool (!decide (pErrR (cases[j].1) = 0))) rfl (Pu.neq rfl rfl) ?_
  refine Zb ?_
  refine Zl (b := !decide (pErrR (cases[j].1) = 0)) rfl (fun h92 => ?_) (fun h92 => ?_)
  ·replace h92 := nt h92
   replace h92 := df h92
   refine Zg (Zc ?_)
   refine Za (v := .int .i64 (pErrR (cases[j].1))) rfl (Pu.move rfl) ?_
   refine Za (v := .int .i64 (pErrR (cases[j].1))) rfl (Pu.assign rfl) ?_
   refine Zb ?_
   refine Zo ?_
   refine ⟨.int .i64 (pErrR (cases[j].1)), [], Ret.one rfl (RV.tmp rfl), Sub.nil, ?_⟩
   exact ⟨by rw [nErr, if_pos hh, ← hinv, dropc h90n, pErrRC, if_neg h92, if_neg h92], rfl⟩
  replace h92 := nf h92
  replace h92 := dt h92
  refine Zq ?_
  refine Zc ?_
  refine Za (v := .int .i64 ((j : Int))) rfl (Pu.move rfl) ?_
  refine Za (v := .int .i64 (((j + 1 : Nat) : Int))) rfl (Pu.inc rfl rfl (by omega)) ?_
  refine Za (v := .int .i64 (((j + 1 : Nat) : Int))) rfl (Pu.assign rfl) ?_
  refine Zb ?_
  refine ⟨_, ?_, (j + 1), rfl, rfl, rfl, rfl, rfl, rfl, (Sk Sub.nil), ?_, ?_, ?_, rfl⟩
  ·omega
  ·omega
  ·assumption
  rw [dropc h90n, pErrRC, if_pos h92] at hinv; exact hinv
 replace h90 := df h90
 have h90n : cases.length ≤ j := by omega
 refine J_exit _ rfl ?_
 refine Zg ?_
 refine Zg (Zc ?_)
 refine Za (v := .int .i64 0) rfl (Pu.assign rfl) ?_
 refine Zb ?_
 refine Zs ?_
 refine J_loop (fun k ρ M => ∃ (j : Nat), ρ 1 = .int .i64 d ∧ ρ 2 = .int .i64 m ∧ ρ 3 = .int .i64 b ∧ ρ 4 = .pointer (some ⟨b1, 0, none⟩) ∧ ρ 8 = .int .i64 0 ∧ ρ 13 = .int .i64 ((j : Int)) ∧ Sub [[(b1, .cells ⟨pkT kind num ref ks cv⟩ 27 (0, 0))]] M ∧ j ≤ kids.length ∧ pErrRC cases = 0 ∧ nErrK d m b kind j (kids.drop j) = nErrK d m b kind 0 kids ∧ k = kids.length - j) _ ⟨0, rfl, rfl, rfl, rfl, rfl, rfl, (Sk Sub.nil), Nat.zero_le _, (by rw [← hinv, dropn h90n]; rfl), rfl, rfl⟩ ?_
 rintro _ ρ93 _ ⟨j, e94, e95, e96, e97, e98, e99, hm100, hj, h1, hinv, rfl⟩
 obtain ⟨ρ101, rfl⟩ := Ze (uc e94 (uc e95 (uc e96 (uc e97 (uc e98 (uc e99 un))))))
 clear e94 e95 e96 e97 e98 e99
 refine J_sub hm100 ?_
 have hlen := hks.le
 refine Zg ?_
 refine Zg (Zc ?_)
 refine Za (v := .int .i64 ((j : Int))) rfl (Pu.move rfl) ?_
 refine Za (v := .pointer (some ⟨b1, 34, none⟩)) rfl (fa27_3 rfl rfl) ?_
 refine Zd rfl (Zh ty24 rfl (At.bx 0 rfl) (pkT_34 ..) ?_)
 obtain ⟨a102, cap102, hv102⟩ := hks.sl
 have hle102 := hks.le
 refine Za (v := .int .i64 ((kids.length : Int))) rfl (Pu.lenSl Tryz.runUnderlying24 hv102) ?_
 refine Za (v := .bool (decide ((j : Int) < (kids.length : Int)))) rfl (Pu.lss rfl rfl) ?_
 refine Zb ?_
 refine Zl (b := decide ((j : Int) < (kids.length : Int))) rfl (fun h103 => ?_) (fun h103 => ?_)
 ·replace h103 := dt h103
  have h103n : j < kids.length := by omega
  have hs1 := sizeTs_mem _ (List.getElem_mem h103n)
  have hm1 := more_le kind j
  refine Zq ?_
  refine Zg ?_
  refine Zs ?_
  refine Zg ?_
  obtain ⟨b105, o105, cap105, row105, T105, fr105, cs105, hv105, hb105, hs105, hE105⟩ := hks.get j (by first | assumption | omega | decide | simp)
  refine J_draw mixed #[0, 1, 0, 7, 15, 0, 0, 0, 0, 256, 0, 1792, 3968, 8191, 16383] 13 13 1 rfl (by kernel_rfl) (fun i r104 N104 => match i with | 0 => (r104 0) = .pointer (some ⟨b1, 34, none⟩) | 1 => (r104 1) = ks | 2 => (r104 2) = .int .i64 ((j : Int)) | 3 => (r104 3) = .pointer (some ⟨b105, o105 + j * 36, none⟩) | 4 => (r104 4) = .agg ⟨cs105⟩ | 5 => (r104 5) = .int .i64 d | 6 => (r104 6) = .int .i64 m | 7 => (r104 7) = .int .i64 b | 8 => (r104 8) = .pointer (some ⟨b1, 0, none⟩) | 9 => (r104 9) = .int .i64 kind | 10 => (r104 10) = .int .i64 ((j : Int)) | 11 => (r104 11) = .int .i64 (more kind ((j : Int))) | 12 => (r104 12) = .int .i64 (b + (more kind ((j : Int)))) | _ => True) ⟨?_, ?_, ?_, ?_, ?_, ?_, ?_, ?_, ?_, ?_, ?_, ?_, ?_, trivial⟩ ?_
  ·intro ρ r104 N104 B hB hBa hp hr hr0
   have q4 : ρ 4 = .pointer (some ⟨b1, 0, none⟩) := hr0 4 (by kernel_rfl)
   obtain ⟨ρ106, rfl⟩ := Ze (uc q4 un)
   clear q4
   refine Za (v := .pointer (some ⟨b1, 34, none⟩)) rfl (fa27_3 rfl rfl) ?_
   refine Zb ?_
   exact ⟨.pointer (some ⟨b1, 34, none⟩), [], rfl, (Sub.emp Sub.refl), rfl⟩
  ·intro ρ r104 N104 B hB hBa hp hr hr0
   have q165 : ρ 165 = .pointer (some ⟨b1, 34, none⟩) := (hr 0 _ _ (by decide) rfl rfl rfl).trans (hp 0 (by decide) rfl)
   obtain ⟨ρ107, rfl⟩ := Ze (uc q165 un)
   clear q165
   refine Zd rfl (Zh ty24 rfl (At.bx 13 (Zu ((hB 0 (by decide)).trans rfl))) (pkT_34 ..) ?_)
   refine Zb ?_
   exact ⟨ks, [], rfl, (Sub.emp Sub.refl), rfl⟩
  ·intro ρ r104 N104 B hB hBa hp hr hr0
   have q13 : ρ 13 = .int .i64 ((j : Int)) := hr0 13 (by kernel_rfl)
   obtain ⟨ρ108, rfl⟩ := Ze (uc q13 un)
   clear q13
   refine Za (v := .int .i64 ((j : Int))) rfl (Pu.move rfl) ?_
   refine Zb ?_
   exact ⟨.int .i64 ((j : Int)), [], rfl, (Sub.emp Sub.refl), rfl⟩
  ·intro ρ r104 N104 B hB hBa hp hr hr0
   have q166 : ρ 166 = ks := (hr 1 _ _ (by decide) rfl rfl rfl).trans (hp 1 (by decide) rfl)
   have q167 : ρ 167 = .int .i64 ((j : Int)) := (hr 2 _ _ (by decide) rfl rfl rfl).trans (hp 2 (by decide) rfl)
   obtain ⟨ρ109, rfl⟩ := Ze (uc q166 (uc q167 un))
   clear q166 q167
   refine Za (v := .pointer (some ⟨b105, o105 + j * 36, none⟩)) rfl (Pu.idx j Tryz.runUnderlying24 Zt hv105 rfl rfl (by first | assumption | omega | decide | simp)) ?_
   refine Zb ?_
   exact ⟨.pointer (some ⟨b105, o105 + j * 36, none⟩), [], rfl, (Sub.emp Sub.refl), rfl⟩
  ·intro ρ r104 N104 B hB hBa hp hr hr0
   have q168 : ρ 168 = .pointer (some ⟨b105, o105 + j * 36, none⟩) := (hr 3 _ _ (by decide) rfl rfl rfl).trans (hp 3 (by decide) rfl)
   obtain ⟨ρ110, rfl⟩ := Ze (uc q168 un)
   clear q168
   refine Zd rfl (Zj Zt rfl (At.im hb105) hs105 ?_)
   refine Zb ?_
   exact ⟨.agg ⟨cs105⟩, [], rfl, (Sub.emp Sub.refl), rfl⟩
  ·intro ρ r104 N104 B hB hBa hp hr hr0
   have q1 : ρ 1 = .int .i64 d := hr0 1 (by kernel_rfl)
   obtain ⟨ρ111, rfl⟩ := Ze (uc q1 un)
   clear q1
   refine Za (v := .int .i64 d) rfl (Pu.move rfl) ?_
   refine Zb ?_
   exact ⟨.int .i64 d, [], rfl, (Sub.emp Sub.refl), rfl⟩
  ·intro ρ r104 N104 B hB hBa hp hr hr0
   have q2 : ρ 2 = .int .i64 m := hr0 2 (by kernel_rfl)
   obtain ⟨ρ112, rfl⟩ := Ze (uc q2 un)
   clear q2
   refine Za (v := .int .i64 m) rfl (Pu.move rfl) ?_
   refine Zb ?_
   exact ⟨.int .i64 m, [], rfl, (Sub.emp Sub.refl), rfl⟩
  ·intro ρ r104 N104 B hB hBa hp hr hr0
   have q3 : ρ 3 = .int .i64 b := hr0 3 (by kernel_rfl)
   obtain ⟨ρ113, rfl⟩ := Ze (uc q3 un)
   clear q3
   refine Za (v := .int .i64 b) rfl (Pu.move rfl) ?_
   refine Zb ?_
   exact ⟨.int .i64 b, [], rfl, (Sub.emp Sub.refl), rfl⟩
  ·intro ρ r104 N104 B hB hBa hp hr hr0
   have q4 : ρ 4 = .pointer (some ⟨b1, 0, none⟩) := hr0 4 (by kernel_rfl)
   obtain ⟨ρ114, rfl⟩ := Ze (uc q4 un)
   clear q4
   refine Za (v := .pointer (some ⟨b1, 0, none⟩)) rfl (fa27_0 rfl rfl) ?_
   refine Zb ?_
   exact ⟨.pointer (some ⟨b1, 0, none⟩), [], rfl, (Sub.emp Sub.refl), rfl⟩
  ·intro ρ r104 N104 B hB hBa hp hr hr0
   have q173 : ρ 173 = .pointer (some ⟨b1, 0, none⟩) := (hr 8 _ _ (by decide) rfl rfl rfl).trans (hp 8 (by decide) rfl)
   obtain ⟨ρ115, rfl⟩ := Ze (uc q173 un)
   clear q173
   refine Zd rfl (Zh ty3 rfl (At.bx 13 (Zu ((hB 0 (by decide)).trans rfl))) (pkT_0 ..) ?_)
   refine Zb ?_
   exact ⟨.int .i64 kind, [], rfl, (Sub.emp Sub.refl), rfl⟩
  ·intro ρ r104 N104 B hB hBa hp hr hr0
   have q13 : ρ 13 = .int .i64 ((j : Int)) := hr0 13 (by kernel_rfl)
   obtain ⟨ρ116, rfl⟩ := Ze (uc q13 un)
   clear q13
   refine Za (v := .int .i64 ((j : Int))) rfl (Pu.move rfl) ?_
   refine Zb ?_
   exact ⟨.int .i64 ((j : Int)), [], rfl, (Sub.emp Sub.refl), rfl⟩
  ·intro ρ r104 N104 B hB hBa hp hr hr0
   have q174 : ρ 174 = .int .i64 kind := (hr 9 _ _ (by decide) rfl rfl rfl).trans (hp 9 (by decide) rfl)
   have q175 : ρ 175 = .int .i64 ((j : Int)) := (hr 10 _ _ (by decide) rfl rfl rfl).trans (hp 10 (by decide) rfl)
   obtain ⟨ρ117, rfl⟩ := Ze (uc q174 (uc q175 un))
   clear q174 q175
   refine Zk rfl Tryz.call87 rfl (fun hin => moreR_ct _ _ _) rfl ?_
   rintro _ _ ⟨rfl, rfl⟩
   refine Zb ?_
   exact ⟨.int .i64 (more kind ((j : Int))), [], rfl, (Sub.emp Sub.refl), rfl⟩
  ·intro ρ r104 N104 B hB hBa hp hr hr0
   have q172 : ρ 172 = .int .i64 b := (hr 7 _ _ (by decide) rfl rfl rfl).trans (hp 7 (by decide) rfl)
   have q176 : ρ 176 = .int .i64 (more kind ((j : Int))) := (hr 11 _ _ (by decide) rfl rfl rfl).trans (hp 11 (by decide) rfl)
   obtain ⟨ρ118, rfl⟩ := Ze (uc q172 (uc q176 un))
   clear q172 q176
   refine Za (v := .int .i64 (b + (more kind ((j : Int))))) rfl (Pu.add64 rfl rfl (by first | omega | (constructor <;> omega))) ?_
   refine Zb ?_
   exact ⟨.int .i64 (b + (more kind ((j : Int)))), [], rfl, (Sub.emp Sub.refl), rfl⟩
  intro ρ r104 N104 hp hr hr0
  have q1 : ρ 1 = .int .i64 d := hr0 1 (by kernel_rfl)
  have q2 : ρ 2 = .int .i64 m := hr0 2 (by kernel_rfl)
  have q3 : ρ 3 = .int .i64 b := hr0 3 (by kernel_rfl)
  have q4 : ρ 4 = .pointer (some ⟨b1, 0, none⟩) := hr0 4 (by kernel_rfl)
  have q8 : ρ 8 = .int .i64 0 := hr0 8 (by kernel_rfl)
  have q13 : ρ 13 = .int .i64 ((j : Int)) := hr0 13 (by kernel_rfl)
  have q169 : ρ 169 = .agg ⟨cs105⟩ := (hr 4 _ _ (by decide) rfl rfl).trans (hp 4 (by decide))
  have q170 : ρ 170 = .int .i64 d := (hr 5 _ _ (by decide) rfl rfl).trans (hp 5 (by decide))
  have q171 : ρ 171 = .int .i64 m := (hr 6 _ _ (by decide) rfl rfl).trans (hp 6 (by decide))
  have q177 : ρ 177 = .int .i64 (b + (more kind ((j : Int)))) := (hr 12 _ _ (by decide) rfl rfl).trans (hp 12 (by decide))
  obtain ⟨ρ119, rfl⟩ := Ze (uc q1 (uc q2 (uc q3 (uc q4 (uc q8 (uc q13 (uc q169 (uc q170 (uc q171 (uc q177 un))))))))))
  clear q1 q2 q3 q4 q8 q13 q169 q170 q171 q177
  clear hp hr hr0 
  refine Zw (M' := [(N104 0), (N104 1), (N104 2), (N104 3), (N104 4), (N104 5), (N104 6), (N104 7), (N104 8), (N104 9), (N104 10), (N104 11), (N104 12), [(b1, .cells ⟨pkT kind num ref ks cv⟩ 27 (0, 0))]]) Sub.refl ?_
  refine Zw (M' := [[(b1, .cells ⟨pkT kind num ref ks cv⟩ 27 (0, 0))]]) (Sd (Sd (Sd (Sd (Sd (Sd (Sd (Sd (Sd (Sd (Sd (Sd (Sd (Sk Sub.nil)))))))))))))) ?_
  show JL _ _ _ [_, _] _ _ _
  refine Zk rfl Tryz.call57 rfl (fun hin => ih _ (List.getElem_mem h103n) _ _ _ _ _ (RT.mono (Hle.hu _ _) hE105) (by omega) (by omega)) rfl ?_
  rintro _ _ ⟨rfl, rfl⟩
  refine Za (v := .int .i64 (nErr d m (b + (more kind ((j : Int)))) (kids[j]))) rfl (Pu.assign rfl) ?_
  refine Zb ?_
  refine Zg (Zc ?_)
  refine Za (v := .int .i64 (nErr d m (b + (more kind ((j : Int)))) (kids[j]))) rfl (Pu.move rfl) ?_
  refine Za (v := .bool (!decide (nErr d m (b + (more kind ((j : Int)))) (kids[j]) = 0))) rfl (Pu.neq rfl rfl) ?_
  refine Zb ?_
  refine Zl (b := !decide (nErr d m (b + (more kind ((j : Int)))) (kids[j]) = 0)) rfl (fun h120 => ?_) (fun h120 => ?_)
  ·replace h120 := nt h120
   replace h120 := df h120
   refine Zg (Zc ?_)
   refine Za (v := .int .i64 (nErr d m (b + (more kind ((j : Int)))) (kids[j]))) rfl (Pu.move rfl) ?_
   refine Za (v := .int .i64 (nErr d m (b + (more kind ((j : Int)))) (kids[j]))) rfl (Pu.assign rfl) ?_
   refine Zb ?_
   refine Zo ?_
   refine ⟨.int .i64 (nErr d m (b + (more kind ((j : Int)))) (kids[j])), [], Ret.one rfl (RV.tmp rfl), Sub.nil, ?_⟩
   exact ⟨by rw [nErr, if_pos hh, if_pos h1, ← hinv, dropc h103n, nErrK, if_neg h120, if_neg h120], rfl⟩
  replace h120 := nf h120
  replace h120 := dt h120
  refine Zq ?_
  refine Zc ?_
  refine Za (v := .int .i64 ((j : Int))) rfl (Pu.move rfl) ?_
  refine Za (v := .int .i64 (((j + 1 : Nat) : Int))) rfl (Pu.inc rfl rfl (by omega)) ?_
  refine Za (v := .int .i64 (((j + 1 : Nat) : Int))) rfl (Pu.assign rfl) ?_
  refine Zb ?_
  refine ⟨_, ?_, (j + 1), rfl, rfl, rfl, rfl, rfl, rfl, (Sk Sub.nil), ?_, ?_, ?_, rfl⟩
  ·omega
  ·omega
  ·assumption
  rw [dropc h103n, nErrK, if_pos h120] at hinv; exact hinv
 replace h103 := df h103
 have h103n : kids.length ≤ j := by omega
 refine J_exit _ rfl ?_
 refine Zg ?_
 refine Zg (Zc ?_)
 refine Za (v := .int .i64 0) rfl (Pu.assign rfl) ?_
 refine Zb ?_
 refine Zs ?_
 refine J_loop (fun k ρ M => ∃ (j : Nat), ρ 1 = .int .i64 d ∧ ρ 2 = .int .i64 m ∧ ρ 3 = .int .i64 b ∧ ρ 4 = .pointer (some ⟨b1, 0, none⟩) ∧ ρ 8 = .int .i64 0 ∧ ρ 15 = .int .i64 ((j : Int)) ∧ Sub [[(b1, .cells ⟨pkT kind num ref ks cv⟩ 27 (0, 0))]] M ∧ j ≤ cases.length ∧ nErrK d m b kind 0 kids = 0 ∧ nErrC d m b (cases.drop j) = nErrC d m b cases ∧ k = cases.length - j) _ ⟨0, rfl, rfl, rfl, rfl, rfl, rfl, (Sk Sub.nil), Nat.zero_le _, (by rw [← hinv, dropn h103n]; rfl), rfl, rfl⟩ ?_
 rintro _ ρ121 _ ⟨j, e122, e123, e124, e125, e126, e127, hm128, hj, h2, hinv, rfl⟩
 obtain ⟨ρ129, rfl⟩ := Ze (uc e122 (uc e123 (uc e124 (uc e125 (uc e126 (uc e127 un))))))
 clear e122 e123 e124 e125 e126 e127
 refine J_sub hm128 ?_
 have hlen := hcv.le
 refine Zg ?_
 refine Zg (Zc ?_)
 refine Za (v := .int .i64 ((j : Int))) rfl (Pu.move rfl) ?_
 refine Za (v := .pointer (some ⟨b1, 35, none⟩)) rfl (fa27_4 rfl rfl) ?_
 refine Zd rfl (Zh ty25 rfl (At.bx 0 rfl) (pkT_35 ..) ?_)
 obtain ⟨a130, cap130, hv130⟩ := hcv.sl
 have hle130 := hcv.le
 refine Za (v := .int .i64 ((cases.length : Int))) rfl (Pu.lenSl Tryz.runUnderlying25 hv130) ?_
 refine Za (v := .bool (decide ((j : Int) < (cases.length : Int)))) rfl (Pu.lss rfl rfl) ?_
 refine Zb ?_
 refine Zl (b := decide ((j : Int) < (cases.length : Int))) rfl (fun h131 => ?_) (fun h131 => ?_)
 ·replace h131 := dt h131
  have h131n : j < cases.length := by omega
  have hs1 := sizeCs_mem _ (List.getElem_mem h131n)
  have hm1 := binds_le (cases[j]).1
  refine Zq ?_
  refine Zg ?_
  refine Zs ?_
  refine Zg ?_
  obtain ⟨b133, o133, cap133, row133, T133, fr133, cs133, hv133, hb133, hs133, hE133⟩ := hcv.get j (by first | assumption | omega | decide | simp)
  obtain ⟨ca133, cb133, rfl, hA133, hB133⟩ := hE133
  refine J_draw mixed #[0, 1, 0, 7, 15, 31, 0, 0, 0, 0, 512, 0, 3584, 7680, 15872, 32256, 65280, 131071, 262143] 17 17 1 rfl (by kernel_rfl) (fun i r132 N132 => match i with | 0 => (r132 0) = .pointer (some ⟨b1, 35, none⟩) | 1 => (r132 1) = cv | 2 => (r132 2) = .int .i64 ((j : Int)) | 3 => (r132 3) = .pointer (some ⟨b133, o133 + j * 71, none⟩) | 4 => (r132 4) = .pointer (some ⟨b133, o133 + j * 71 + 35, none⟩) | 5 => (r132 5) = .agg ⟨cb133⟩ | 6 => (r132 6) = .int .i64 d | 7 => (r132 7) = .int .i64 m | 8 => (r132 8) = .int .i64 b | 9 => (r132 9) = .pointer (some ⟨b1, 35, none⟩) | 10 => (r132 10) = cv | 11 => (r132 11) = .int .i64 ((j : Int)) | 12 => (r132 12) = .pointer (some ⟨b133, o133 + j * 71, none⟩) | 13 => (r132 13) = .pointer (some ⟨b133, o133 + j * 71, none⟩) | 14 => (r132 14) = .agg ⟨ca133⟩ | 15 => (r132 15) = .int .i64 ((binds (cases[j].1) : Int)) | 16 => (r132 16) = .int .i64 (b + ((binds (cases[j].1) : Int))) | _ => True) ⟨?_, ?_, ?_, ?_, ?_, ?_, ?_, ?_, ?_, ?_, ?_, ?_, ?_, ?_, ?_, ?_, ?_, trivial⟩ ?_
  ·intro ρ r132 N132 B hB hBa hp hr hr0
   have q4 : ρ 4 = .pointer (some ⟨b1, 0, none⟩) := hr0 4 (by kernel_rfl)
   obtain ⟨ρ134, rfl⟩ := Ze (uc q4 un)
   clear q4
   refine Za (v := .pointer (some ⟨b1, 35, none⟩)) rfl (fa27_4 rfl rfl) ?_
   refine Zb ?_
   exact ⟨.pointer (some ⟨b1, 35, none⟩), [], rfl, (Sub.emp Sub.refl), rfl⟩
  ·intro ρ r132 N132 B hB hBa hp hr hr0
   have q189 : ρ 189 = .pointer (some ⟨b1, 35, none⟩) := (hr 0 _ _ (by decide) rfl rfl rfl).trans (hp 0 (by decide) rfl)
   obtain ⟨ρ135, rfl⟩ := Ze (uc q189 un)
   clear q189
   refine Zd rfl (Zh ty25 rfl (At.bx 17 (Zu ((hB 0 (by decide)).trans rfl))) (pkT_35 ..) ?_)
   refine Zb ?_
   exact ⟨cv, [], rfl, (Sub.emp Sub.refl), rfl⟩
  ·intro ρ r132 N132 B hB hBa hp hr hr0
   have q15 : ρ 15 = .int .i64 ((j : Int)) := hr0 15 (by kernel_rfl)
   obtain ⟨ρ136, rfl⟩ := Ze (uc q15 un)
   clear q15
   refine Za (v := .int .i64 ((j : Int))) rfl (Pu.move rfl) ?_
   refine Zb ?_
   exact ⟨.int .i64 ((j : Int)), [], rfl, (Sub.emp Sub.refl), rfl⟩
  ·intro ρ r132 N132 B hB hBa hp hr hr0
   have q190 : ρ 190 = cv := (hr 1 _ _ (by decide) rfl rfl rfl).trans (hp 1 (by decide) rfl)
   have q191 : ρ 191 = .int .i64 ((j : Int)) := (hr 2 _ _ (by decide) rfl rfl rfl).trans (hp 2 (by decide) rfl)
   obtain ⟨ρ137, rfl⟩ := Ze (uc q190 (uc q191 un))
   clear q190 q191
   refine Za (v := .pointer (some ⟨b133, o133 + j * 71, none⟩)) rfl (Pu.idx j Tryz.runUnderlying25 ty34 hv133 rfl rfl (by first | assumption | omega | decide | simp)) ?_
   refine Zb ?_
   exact ⟨.pointer (some ⟨b133, o133 + j * 71, none⟩), [], rfl, (Sub.emp Sub.refl), rfl⟩
  ·intro ρ r132 N132 B hB hBa hp hr hr0
   have q192 : ρ 192 = .pointer (some ⟨b133, o133 + j * 71, none⟩) := (hr 3 _ _ (by decide) rfl rfl rfl).trans (hp 3 (by decide) rfl)
   obtain ⟨ρ138, rfl⟩ := Ze (uc q192 un)
   clear q192
   refine Za (v := .pointer (some ⟨b133, o133 + j * 71 + 35, none⟩)) rfl (fa34_1 rfl rfl) ?_
   refine Zb ?_
   exact ⟨.pointer (some ⟨b133, o133 + j * 71 + 35, none⟩), [], rfl, (Sub.emp Sub.refl), rfl⟩
  ·intro ρ r132 N132 B hB hBa hp hr hr0
   have q193 : ρ 193 = .pointer (some ⟨b133, o133 + j * 71 + 35, none⟩) := (hr 4 _ _ (by decide) rfl rfl rfl).trans (hp 4 (by decide) rfl)
   obtain ⟨ρ139, rfl⟩ := Ze (uc q193 un)
   clear q193
   refine Zd rfl (Zj Zt rfl (At.im hb133) (sub_sub hs133 (sub_r (RP_len hA133) (Zv hB133))) ?_)
   refine Zb ?_
   exact ⟨.agg ⟨cb133⟩, [], rfl, (Sub.emp Sub.refl), rfl⟩
  ·intro ρ r132 N132 B hB hBa hp hr hr0
   have q1 : ρ 1 = .int .i64 d := hr0 1 (by kernel_rfl)
   obtain ⟨ρ140, rfl⟩ := Ze (uc q1 un)
   clear q1
   refine Za (v := .int .i64 d) rfl (Pu.move rfl) ?_
   refine Zb ?_
   exact ⟨.int .i64 d, [], rfl, (Sub.emp Sub.refl), rfl⟩
  ·intro ρ r132 N132 B hB hBa hp hr hr0
   have q2 : ρ 2 = .int .i64 m := hr0 2 (by kernel_rfl)
   obtain ⟨ρ141, rfl⟩ := Ze (uc q2 un)
   clear q2
   refine Za (v := .int .i64 m) rfl (Pu.move rfl) ?_
   refine Zb ?_
   exact ⟨.int .i64 m, [], rfl, (Sub.emp Sub.refl), rfl⟩
  ·intro ρ r132 N132 B hB hBa hp hr hr0
   have q3 : ρ 3 = .int .i64 b := hr0 3 (by kernel_rfl)
   obtain ⟨ρ142, rfl⟩ := Ze (uc q3 un)
   clear q3
   refine Za (v := .int .i64 b) rfl (Pu.move rfl) ?_
   refine Zb ?_
   exact ⟨.int .i64 b, [], rfl, (Sub.emp Sub.refl), rfl⟩
  ·intro ρ r132 N132 B hB hBa hp hr hr0
   have q4 : ρ 4 = .pointer (some ⟨b1, 0, none⟩) := hr0 4 (by kernel_rfl)
   obtain ⟨ρ143, rfl⟩ := Ze (uc q4 un)
   clear q4
   refine Za (v := .pointer (some ⟨b1, 35, none⟩)) rfl (fa27_4 rfl rfl) ?_
   refine Zb ?_
   exact ⟨.pointer (some ⟨b1, 35, none⟩), [], rfl, (Sub.emp Sub.refl), rfl⟩
  ·intro ρ r132 N132 B hB hBa hp hr hr0
   have q198 : ρ 198 = .pointer (some ⟨b1, 35, none⟩) := (hr 9 _ _ (by decide) rfl rfl rfl).trans (hp 9 (by decide) rfl)
   obtain ⟨ρ144, rfl⟩ := Ze (uc q198 un)
   clear q198
   refine Zd rfl (Zh ty25 rfl (At.bx 17 (Zu ((hB 0 (by decide)).trans rfl))) (pkT_35 ..) ?_)
   refine Zb ?_
   exact ⟨cv, [], rfl, (Sub.emp Sub.refl), rfl⟩
  ·intro ρ r132 N132 B hB hBa hp hr hr0
   have q15 : ρ 15 = .int .i64 ((j : Int)) := hr0 15 (by kernel_rfl)
   obtain ⟨ρ145, rfl⟩ := Ze (uc q15 un)
   clear q15
   refine Za (v := .int .i64 ((j : Int))) rfl (Pu.move rfl) ?_
   refine Zb ?_
   exact ⟨.int .i64 ((j : Int)), [], rfl, (Sub.emp Sub.refl), rfl⟩
  ·intro ρ r132 N132 B hB hBa hp hr hr0
   have q199 : ρ 199 = cv := (hr 10 _ _ (by decide) rfl rfl rfl).trans (hp 10 (by decide) rfl)
   have q200 : ρ 200 = .int .i64 ((j : Int)) := (hr 11 _ _ (by decide) rfl rfl rfl).trans (hp 11 (by decide) rfl)
   obtain ⟨ρ146, rfl⟩ := Ze (uc q199 (uc q200 un))
   clear q199 q200
   refine Za (v := .pointer (some ⟨b133, o133 + j * 71, none⟩)) rfl (Pu.idx j Tryz.runUnderlying25 ty34 hv133 rfl rfl (by first | assumption | omega | decide | simp)) ?_
   refine Zb ?_
   exact ⟨.pointer (some ⟨b133, o133 + j * 71, none⟩), [], rfl, (Sub.emp Sub.refl), rfl⟩
  ·intro ρ r132 N132 B hB hBa hp hr hr0
   have q201 : ρ 201 = .pointer (some ⟨b133, o133 + j * 71, none⟩) := (hr 12 _ _ (by decide) rfl rfl rfl).trans (hp 12 (by decide) rfl)
   obtain ⟨ρ147, rfl⟩ := Ze (uc q201 un)
   clear q201
   refine Za (v := .pointer (some ⟨b133, o133 + j * 71, none⟩)) rfl (fa34_0 rfl rfl) ?_
   refine Zb ?_
   exact ⟨.pointer (some ⟨b133, o133 + j * 71, none⟩), [], rfl, (Sub.emp Sub.refl), rfl⟩
  ·intro ρ r132 N132 B hB hBa hp hr hr0
   have q202 : ρ 202 = .pointer (some ⟨b133, o133 + j * 71, none⟩) := (hr 13 _ _ (by decide) rfl rfl rfl).trans (hp 13 (by decide) rfl)
   obtain ⟨ρ148, rfl⟩ := Ze (uc q202 un)
   clear q202
   refine Zd rfl (Zj ty30 rfl (At.im hb133) (sub_sub0 hs133 (sub_l (RP_len hA133))) ?_)
   refine Zb ?_
   exact ⟨.agg ⟨ca133⟩, [], rfl, (Sub.emp Sub.refl), rfl⟩
  ·intro ρ r132 N132 B hB hBa hp hr hr0
   have q203 : ρ 203 = .agg ⟨ca133⟩ := (hr 14 _ _ (by decide) rfl rfl rfl).trans (hp 14 (by decide) rfl)
   obtain ⟨ρ149, rfl⟩ := Ze (uc q203 un)
   clear q203
   refine Zk rfl Tryz.call49 rfl (fun hin => bindsR_ct _ _ _ (RP.mono (Hle.hu _ _) hA133) (by omega)) rfl ?_
   rintro _ _ ⟨rfl, rfl⟩
   refine Zb ?_
   exact ⟨.int .i64 ((binds (cases[j].1) : Int)), [], rfl, (Sub.emp Sub.refl), rfl⟩
  ·intro ρ r132 N132 B hB hBa hp hr hr0
   have q197 : ρ 197 = .int .i64 b := (hr 8 _ _ (by decide) rfl rfl rfl).trans (hp 8 (by decide) rfl)
   have q204 : ρ 204 = .int .i64 ((binds (cases[j].1) : Int)) := (hr 15 _ _ (by decide) rfl rfl rfl).trans (hp 15 (by decide) rfl)
   obtain ⟨ρ150, rfl⟩ := Ze (uc q197 (uc q204 un))
   clear q197 q204
   refine Za (v := .int .i64 (b + ((binds (cases[j].1) : Int)))) rfl (Pu.add64 rfl rfl (by first | omega | (constructor <;> omega))) ?_
   refine Zb ?_
   exact ⟨.int .i64 (b + ((binds (cases[j].1) : Int))), [], rfl, (Sub.emp Sub.refl), rfl⟩
  intro ρ r132 N132 hp hr hr0
  have q1 : ρ 1 = .int .i64 d := hr0 1 (by kernel_rfl)
  have q2 : ρ 2 = .int .i64 m := hr0 2 (by kernel_rfl)
  have q3 : ρ 3 = .int .i64 b := hr0 3 (by kernel_rfl)
  have q4 : ρ 4 = .pointer (some ⟨b1, 0, none⟩) := hr0 4 (by kernel_rfl)
  have q8 : ρ 8 = .int .i64 0 := hr0 8 (by kernel_rfl)
  have q15 : ρ 15 = .int .i64 ((j : Int)) := hr0 15 (by kernel_rfl)
  have q194 : ρ 194 = .agg ⟨cb133⟩ := (hr 5 _ _ (by decide) rfl rfl).trans (hp 5 (by decide))
  have q195 : ρ 195 = .int .i64 d := (hr 6 _ _ (by decide) rfl rfl).trans (hp 6 (by decide))
  have q196 : ρ 196 = .int .i64 m := (hr 7 _ _ (by decide) rfl rfl).trans (hp 7 (by decide))
  have q205 : ρ 205 = .int .i64 (b + ((binds (cases[j].1) : Int))) := (hr 16 _ _ (by decide) rfl rfl).trans (hp 16 (by decide))
  obtain ⟨ρ151, rfl⟩ := Ze (uc q1 (uc q2 (uc q3 (uc q4 (uc q8 (uc q15 (uc q194 (uc q195 (uc q196 (uc q205 un))))))))))
  clear q1 q2 q3 q4 q8 q15 q194 q195 q196 q205
  clear hp hr hr0 
  refine Zw (M' := [(N132 0), (N132 1), (N132 2), (N132 3), (N132 4), (N132 5), (N132 6), (N132 7), (N132 8), (N132 9), (N132 10), (N132 11), (N132 12), (N132 13), (N132 14), (N132 15), (N132 16), [(b1, .cells ⟨pkT kind num ref ks cv⟩ 27 (0, 0))]]) Sub.refl ?_
  refine Zw (M' := [[(b1, .cells ⟨pkT kind num ref ks cv⟩ 27 (0, 0))]]) (Sd (Sd (Sd (Sd (Sd (Sd (Sd (Sd (Sd (Sd (Sd (Sd (Sd (Sd (Sd (Sd (Sd (Sk Sub.nil)))))))))))))))))) ?_
  show JL _ _ _ [_, _] _ _ _
  refine Zk rfl Tryz.call57 rfl (fun hin => ih' _ (List.getElem_mem h131n) _ _ _ _ _ (RT.mono (Hle.hu _ _) hB133) (by omega) (by omega)) rfl ?_
  rintro _ _ ⟨rfl, rfl⟩
  refine Za (v := .int .i64 (nErr d m (b + ((binds (cases[j].1) : Int))) (cases[j].2))) rfl (Pu.assign rfl) ?_
  refine Zb ?_
  refine Zg (Zc ?_)
  refine Za (v := .int .i64 (nErr d m (b + ((binds (cases[j].1) : Int))) (cases[j].2))) rfl (Pu.move rfl) ?_
  refine Za (v := .bool (!decide (nErr d m (b + ((binds (cases[j].1) : Int))) (cases[j].2) = 0))) rfl (Pu.neq rfl rfl) ?_
  refine Zb ?_
  refine Zl (b := !decide (nErr d m (b + ((binds (cases[j].1) : Int))) (cases[j].2) = 0)) rfl (fun h152 => ?_) (fun h152 => ?_)
  ·replace h152 := nt h152
   replace h152 := df h152
   refine Zg (Zc ?_)
   refine Za (v := .int .i64 (nErr d m (b + ((binds (cases[j].1) : Int))) (cases[j].2))) rfl (Pu.move rfl) ?_
   refine Za (v := .int .i64 (nErr d m (b + ((binds (cases[j].1) : Int))) (cases[j].2))) rfl (Pu.assign rfl) ?_
   refine Zb ?_
   refine Zo ?_
   refine ⟨.int .i64 (nErr d m (b + ((binds (cases[j].1) : Int))) (cases[j].2)), [], Ret.one rfl (RV.tmp rfl), Sub.nil, ?_⟩
   exact ⟨by rw [nErr, if_pos hh, if_pos h1, if_pos h2, ← hinv, dropc h131n, nErrC, if_neg h152], rfl⟩
  replace h152 := nf h152
  replace h152 := dt h152
  refine Zq ?_
  refine Zc ?_
  refine Za (v := .int .i64 ((j : Int))) rfl (Pu.move rfl) ?_
  refine Za (v := .int .i64 (((j + 1 : Nat) : Int))) rfl (Pu.inc rfl rfl (by omega)) ?_
  refine Za (v := .int .i64 (((j + 1 : Nat) : Int))) rfl (Pu.assign rfl) ?_
  refine Zb ?_
  refine ⟨_, ?_, (j + 1), rfl, rfl, rfl, rfl, rfl, rfl, (Sk Sub.nil), ?_, ?_, ?_, rfl⟩
  ·omega
  ·omega
  ·assumption
  rw [dropc h131n, nErrC, if_pos h152] at hinv; exact hinv
 replace h131 := df h131
 have h131n : cases.length ≤ j := by omega
 refine J_exit _ rfl ?_
 refine Zg (Zc ?_)
 refine Za (v := .int .i64 0) rfl (Pu.assign rfl) ?_
 refine Zb ?_
 refine Zo ?_
 refine ⟨.int .i64 0, [], Ret.one rfl (RV.tmp rfl), Sub.nil, ?_⟩
 exact ⟨by rw [nErr, if_pos hh, if_pos h1, if_pos h2, ← hinv, dropn h131n]; rfl, rfl⟩
end Go.Proofs.YtdeinimmmjichaaGreat.Hs
/-! Walks, printed by a program of this session's own (gen.py). -/
namespace Go.Proofs.YtdeinimmmjichaaGreat.Hs
open Go Go.Proofs
set_option maxRecDepth 100000
set_option linter.unusedVariables false
set_option linter.unusedSimpArgs false
attribute [local irreducible] JL J CT wlo
theorem patternSize_ct : ∀ (p : Pt) (m : Int) (cs : List Value) (H : Heap), RP H cs p → sizeP p ≤ 1000000000 → sizeP p ≤ m + 2000000000 → m ≤ 2000000000 → CT Tryz.prog 47 ⟨[.agg ⟨cs⟩, .int .i64 m]⟩ [] H (fun v N => v = .tuple ⟨[.int .i64 (extP m p).1, .int .i64 (extP m p).2]⟩ ∧ N = []) := by
 intro p
 induction p using Pt.ind with
 | h kind num ref kids ih =>
 intro m cs H hp hz1 hz2 hz3
 obtain ⟨ks, rfl, hk, hn, hks⟩ := RP_mk.1 hp
 rw [sizeP] at hz1 hz2
 refine Zr Tryz.func47 rfl rfl ?_
 refine Zg (Zc ?_)
 refine Zd rfl (Zx (l := pkP kind num ref ks) rfl rfl fun b1 => ?_)
 refine Za (v := .int .i64 0) rfl (Pu.assign rfl) ?_
 refine Za (v := .int .i64 0) rfl (Pu.assign rfl) ?_
 refine Zb ?_
 refine Zg (Zc ?_)
 refine Za (v := .int .i64 1) rfl (Pu.assign rfl) ?_
 refine Za (v := .int .i64 0) rfl (Pu.assign rfl) ?_
 refine Zb ?_
 refine Zg ?_
 refine Zg (Zc ?_)
 refine Za (v := .int .i64 0) rfl (Pu.assign rfl) ?_
 refine Zb ?_
 refine Zs ?_
 refine J_loop (fun k ρ M => ∃ (j : Nat) (n d : Int), ρ 1 = .int .i64 m ∧ ρ 2 = .pointer (some ⟨b1, 0, none⟩) ∧ ρ 4 = .int .i64 0 ∧ ρ 5 = .int .i64 0 ∧ ρ 6 = .int .i64 n ∧ ρ 7 = .int .i64 d ∧ ρ 8 = .int .i64 ((j : Int)) ∧ Sub [[(b1, .cells ⟨pkP kind num ref ks⟩ 30 (0, 0))]] M ∧ j ≤ kids.length ∧ extPs m (kids.drop j) n d = extPs m kids 1 0 ∧ 0 ≤ d ∧ d < n ∧ n + sizePs (kids.drop j) ≤ 1 + sizePs kids ∧ k = kids.length - j) _ ⟨0, 1, 0, rfl, rfl, rfl, rfl, rfl, rfl, rfl, (Sk Sub.nil), Nat.zero_le _, rfl, (by omega), (by omega), (by simp), rfl⟩ ?_
 rintro _ ρ2 _ ⟨j, n, d, e3, e4, e5, e6, e7, e8, e9, hm10, hj, hinv, hd0, hdn, hnn, rfl⟩
 obtain ⟨ρ11, rfl⟩ := Ze (uc e3 (uc e4 (uc e5 (uc e6 (uc e7 (uc e8 (uc e9 un)))))))
 clear e3 e4 e5 e6 e7 e8 e9
 refine J_sub hm10 ?_
 have hlen := hks.le
 refine Zg ?_
 refine J_cut (fun ρ M => ρ 1 = .int .i64 m ∧ ρ 2 = .pointer (some ⟨b1, 0, none⟩) ∧ ρ 4 = .int .i64 0 ∧ ρ 5 = .int .i64 0 ∧ ρ 6 = .int .i64 n ∧ ρ 7 = .int .i64 d ∧ ρ 8 = .int .i64 ((j : Int)) ∧ ρ 20 = .bool ((decide ((j : Int) < (kids.length : Int))) && (decide (n ≤ m))) ∧ M = [[(b1, .cells ⟨pkP kind num ref ks⟩ 30 (0, 0))]]) ?_ ?_
 ·refine Zc ?_
  refine Za (v := .int .i64 ((j : Int))) rfl (Pu.move rfl) ?_
  refine Za (v := .pointer (some ⟨b1, 34, none⟩)) rfl (fa30_3 rfl rfl) ?_
  refine Zd rfl (Zh ty28 rfl (At.bx 0 rfl) (pkP_34 ..) ?_)
  obtain ⟨a12, cap12, hv12⟩ := hks.sl
  have hle12 := hks.le
  refine Za (v := .int .i64 ((kids.length : Int))) rfl (Pu.lenSl Tryz.runUnderlying28 hv12) ?_
  refine Za (v := .bool (decide ((j : Int) < (kids.length : Int)))) rfl (Pu.lss rfl rfl) ?_
  refine Za (v := .bool (decide ((j : Int) < (kids.length : Int)))) rfl (Pu.move rfl) ?_
  cases h13 : (decide ((j : Int) < (kids.length : Int))) with
  | true =>
   replace h13 := dt h13
   have h13n : j < kids.length := by omega
   have hs1 := sizePs_mem _ (List.getElem_mem h13n)
   have hs2 : sizePs (kids.drop j) = sizeP kids[j] + sizePs (kids.drop (j + 1)) := by rw [dropc h13n, sizePs]
   have hs3 := extP_le kids[j] (m - 1)
   refine Za (v := .int .i64 n) rfl (Pu.move rfl) ?_
   refine Za (v := .int .i64 m) rfl (Pu.move rfl) ?_
   refine Za (v := .bool (decide (n ≤ m))) rfl (Pu.leq rfl rfl) ?_
   refine Za (v := .bool (decide (n ≤ m))) rfl (Pu.pickT rfl rfl) ?_
   refine Zb ?_
   first | exact ⟨rfl, rfl, rfl, rfl, rfl, rfl, rfl, rfl, rfl⟩ | (exfalso; omega)
  | false =>
   replace h13 := df h13
   have h13n : kids.length ≤ j := by omega
   refine Zf rfl ?_
   refine Zf rfl ?_
   refine Zf rfl ?_
   refine Za (v := .bool false) rfl (Pu.pickF rfl rfl) ?_
   refine Zb ?_
   first | exact ⟨rfl, rfl, rfl, rfl, rfl, rfl, rfl, rfl, rfl⟩ | (exfalso; omega)
 rintro ρ14 _ ⟨e15, e16, e17, e18, e19, e20, e21, e22, rfl⟩
 obtain ⟨ρ23, rfl⟩ := Ze (uc e15 (uc e16 (uc e17 (uc e18 (uc e19 (uc e20 (uc e21 (uc e22 un))))))))
 clear e15 e16 e17 e18 e19 e20 e21 e22
 refine Zl (b := (decide ((j : Int) < (kids.length : Int))) && (decide (n ≤ m))) rfl (fun h24 => ?_) (fun h24 => ?_)
 ·obtain ⟨h24a, h24b⟩ := andT h24
  replace h24a := dt h24a
  have h24an : j < kids.length := by omega
  have hs1 := sizePs_mem _ (List.getElem_mem h24an)
  have hs2 : sizePs (kids.drop j) = sizeP kids[j] + sizePs (kids.drop (j + 1)) := by rw [dropc h24an, sizePs]
  have hs3 := extP_le kids[j] (m - 1)
  replace h24b := dt h24b
  refine Zq ?_
  refine Zg ?_
  refine Zs ?_
  refine Zg (Zc ?_)
  refine Za (v := .pointer (some ⟨b1, 34, none⟩)) rfl (fa30_3 rfl rfl) ?_
  refine Zd rfl (Zh ty28 rfl (At.bx 0 rfl) (pkP_34 ..) ?_)
  refine Za (v := .int .i64 ((j : Int))) rfl (Pu.move rfl) ?_
  obtain ⟨b25, o25, cap25, row25, T25, fr25, cs25, hv25, hb25, hs25, hE25⟩ := hks.get j (by first | assumption | omega | decide | simp)
  refine Za (v := .pointer (some ⟨b25, o25 + j * 35, none⟩)) rfl (Pu.idx j Tryz.runUnderlying28 ty30 hv25 rfl rfl (by first | assumption | omega | decide | simp)) ?_
  refine Zd rfl (Zj ty30 rfl (At.im hb25) hs25 ?_)
  refine Za (v := .int .i64 m) rfl (Pu.move rfl) ?_
  refine Za (v := .int .i64 (m - 1)) rfl (Pu.sub64 rfl rfl (by first | omega | (constructor <;> omega))) ?_
  refine Zk rfl Tryz.call47 rfl (fun hin => ih _ (List.getElem_mem h24an) _ _ _ (RP.mono (Hle.hu _ _) hE25) (by omega) (by omega) (by omega)) rfl ?_
  rintro _ _ ⟨rfl, rfl⟩
  refine Za (v := .tuple ⟨[.int .i64 ((extP (m - 1) (kids[j])).1), .int .i64 ((extP (m - 1) (kids[j])).2)]⟩) rfl (Pu.move rfl) ?_
  refine Za (v := .int .i64 ((extP (m - 1) (kids[j])).1)) rfl (Pu.extract rfl rfl) ?_
  refine Za (v := .int .i64 ((extP (m - 1) (kids[j])).2)) rfl (Pu.extract rfl rfl) ?_
  refine Za (v := .int .i64 ((extP (m - 1) (kids[j])).1)) rfl (Pu.assign rfl) ?_
  refine Za (v := .int .i64 ((extP (m - 1) (kids[j])).2)) rfl (Pu.assign rfl) ?_
  refine Zb ?_
  refine Zc ?_
  refine Za (v := .int .i64 n) rfl (Pu.move rfl) ?_
  refine Za (v := .int .i64 ((extP (m - 1) (kids[j])).1)) rfl (Pu.move rfl) ?_
  refine Za (v := .int .i64 (n + ((extP (m - 1) (kids[j])).1))) rfl (Pu.add64 rfl rfl (by first | omega | (constructor <;> omega))) ?_
  refine Za (v := .int .i64 d) rfl (Pu.move rfl) ?_
  refine Za (v := .int .i64 ((extP (m - 1) (kids[j])).2)) rfl (Pu.move rfl) ?_
  refine Za (v := .int .i64 (max d ((extP (m - 1) (kids[j])).2))) rfl (Pu.max2 rfl rfl) ?_
  refine Za (v := .int .i64 (n + ((extP (m - 1) (kids[j])).1))) rfl (Pu.assign rfl) ?_
  refine Za (v := .int .i64 (max d ((extP (m - 1) (kids[j])).2))) rfl (Pu.assign rfl) ?_
  refine Zb ?_
  refine Zc ?_
  refine Za (v := .int .i64 ((j : Int))) rfl (Pu.move rfl) ?_
  refine Za (v := .int .i64 (((j + 1 : Nat) : Int))) rfl (Pu.inc rfl rfl (by omega)) ?_
  refine Za (v := .int .i64 (((j + 1 : Nat) : Int))) rfl (Pu.assign rfl) ?_
  refine Zb ?_
  refine ⟨_, ?_, (j + 1), (n + ((extP (m - 1) (kids[j])).1)), (max d ((extP (m - 1) (kids[j])).2)), rfl, rfl, rfl, rfl, rfl, rfl, rfl, (Sk Sub.nil), ?_, ?_, ?_, ?_, ?_, rfl⟩
  ·omega
  ·omega
  ·rw [dropc h24an, extPs, if_pos (by omega)] at hinv; exact hinv
  ·omega
  ·omega
  omega
 refine J_exit _ rfl ?_
 refine Zg (Zc ?_)
 refine Za (v := .int .i64 n) rfl (Pu.move rfl) ?_
 refine Za (v := .int .i64 d) rfl (Pu.move rfl) ?_
 refine Za (v := .int .i64 (d + 1)) rfl (Pu.add64 rfl rfl (by first | omega | (constructor <;> omega))) ?_
 refine Za (v := .int .i64 n) rfl (Pu.assign rfl) ?_
 refine Za (v := .int .i64 (d + 1)) rfl (Pu.assign rfl) ?_
 refine Zb ?_
 refine Zo ?_
 refine ⟨.tuple ⟨[.int .i64 n, .int .i64 (d + 1)]⟩, [], Ret.two rfl (RV.tmp rfl) (RV.tmp rfl), Sub.nil, ?_⟩
 have hf : ¬ ((j : Int) < (kids.length : Int) ∧ n ≤ m) := by
  intro ⟨hx1, hx2⟩
  have := h24
  simp [hx1, hx2] at this
  try omega
 have hr : extPs m kids 1 0 = (n, d) := by
  rw [← hinv]; rcases Nat.lt_or_ge j kids.length with hl | hl
  ·have hnm : ¬ n ≤ m := fun hle => hf ⟨by omega, hle⟩
   rw [dropc hl, extPs, if_neg hnm]
  ·rw [dropn hl, extPs]
 exact ⟨by rw [extP, hr], rfl⟩
theorem extent_ct : ∀ (t : Tm) (m : Int) (cs : List Value) (H : Heap), RT H cs t → sizeT t ≤ 1000000000 → sizeT t ≤ m + 2000000000 → m ≤ 2000000000 → CT Tryz.prog 13 ⟨[.agg ⟨cs⟩, .int .i64 m]⟩ [] H (fun v N => v = .tuple ⟨[.int .i64 (extT m t).1, .int .i64 (extT m t).2]⟩ ∧ N = []) := by
 intro t
 induction t using Tm.ind with
 | h kind num ref kids cases ih ih' =>
 intro m cs H ht hz1 hz2 hz3
 obtain ⟨ks, cv, rfl, hk, hn, hks, hcv⟩ := RT_mk.1 ht
 rw [sizeT] at hz1 hz2
 refine Zr Tryz.func13 rfl rfl ?_
 refine Zg (Zc ?_)
 refine Zd rfl (Zx (l := pkT kind num ref ks cv) rfl rfl fun b1 => ?_)
 refine Za (v := .int .i64 0) rfl (Pu.assign rfl) ?_
 refine Za (v := .int .i64 0) rfl (Pu.assign rfl) ?_
 refine Zb ?_
 refine Zg (Zc ?_)
 refine Za (v := .int .i64 1) rfl (Pu.assign rfl) ?_
 refine Za (v := .int .i64 0) rfl (Pu.assign rfl) ?_
 refine Zb ?_
 refine Zg ?_
 refine Zg (Zc ?_)
 refine Za (v := .int .i64 0) rfl (Pu.assign rfl) ?_
 refine Zb ?_
 refine Zs ?_
 refine J_loop (fun k ρ M => ∃ (j : Nat) (n d : Int), ρ 1 = .int .i64 m ∧ ρ 2 = .pointer (some ⟨b1, 0, none⟩) ∧ ρ 4 = .int .i64 0 ∧ ρ 5 = .int .i64 0 ∧ ρ 6 = .int .i64 n ∧ ρ 7 = .int .i64 d ∧ ρ 8 = .int .i64 ((j : Int)) ∧ Sub [[(b1, .cells ⟨pkT kind num ref ks cv⟩ 27 (0, 0))]] M ∧ j ≤ kids.length ∧ extTs m (kids.drop j) n d = extTs m kids 1 0 ∧ 0 ≤ d ∧ d < n ∧ n + sizeTs (kids.drop j) ≤ 1 + sizeTs kids ∧ k = kids.length - j) _ ⟨0, 1, 0, rfl, rfl, rfl, rfl, rfl, rfl, rfl, (Sk Sub.nil), Nat.zero_le _, rfl, (by omega), (by omega), (by simp), rfl⟩ ?_
 rintro _ ρ2 _ ⟨j, n, d, e3, e4, e5, e6, e7, e8, e9, hm10, hj, hinv, hd0, hdn, hnn, rfl⟩
 obtain ⟨ρ11, rfl⟩ := Ze (uc e3 (uc e4 (uc e5 (uc e6 (uc e7 (uc e8 (uc e9 un)))))))
 clear e3 e4 e5 e6 e7 e8 e9
 refine J_sub hm10 ?_
 have hlen := hks.le
 refine Zg ?_
 refine J_cut (fun ρ M => ρ 1 = .int .i64 m ∧ ρ 2 = .pointer (some ⟨b1, 0, none⟩) ∧ ρ 4 = .int .i64 0 ∧ ρ 5 = .int .i64 0 ∧ ρ 6 = .int .i64 n ∧ ρ 7 = .int .i64 d ∧ ρ 8 = .int .i64 ((j : Int)) ∧ ρ 25 = .bool ((decide ((j : Int) < (kids.length : Int))) && (decide (n ≤ m))) ∧ M = [[(b1, .cells ⟨pkT kind num ref ks cv⟩ 27 (0, 0))]]) ?_ ?_
 ·refine Zc ?_
  refine Za (v := .int .i64 ((j : Int))) rfl (Pu.move rfl) ?_
  refine Za (v := .pointer (some ⟨b1, 34, none⟩)) rfl (fa27_3 rfl rfl) ?_
  refine Zd rfl (Zh ty24 rfl (At.bx 0 rfl) (pkT_34 ..) ?_)
  obtain ⟨a12, cap12, hv12⟩ := hks.sl
  have hle12 := hks.le
  refine Za (v := .int .i64 ((kids.length : Int))) rfl (Pu.lenSl Tryz.runUnderlying24 hv12) ?_
  refine Za (v := .bool (decide ((j : Int) < (kids.length : Int)))) rfl (Pu.lss rfl rfl) ?_
  refine Za (v := .bool (decide ((j : Int) < (kids.length : Int)))) rfl (Pu.move rfl) ?_
  cases h13 : (decide ((j : Int) < (kids.length : Int))) with
  | true =>
   replace h13 := dt h13
   have h13n : j < kids.length := by omega
   have hs1 := sizeTs_mem _ (List.getElem_mem h13n)
   have hs2 : sizeTs (kids.drop j) = sizeT kids[j] + sizeTs (kids.drop (j + 1)) := by rw [dropc h13n, sizeTs]
   have hs3 := extT_le kids[j] (m - 1)
   refine Za (v := .int .i64 n) rfl (Pu.move rfl) ?_
   refine Za (v := .int .i64 m) rfl (Pu.move rfl) ?_
   refine Za (v := .bool (decide (n ≤ m))) rfl (Pu.leq rfl rfl) ?_
   refine Za (v := .bool (decide (n ≤ m))) rfl (Pu.pickT rfl rfl) ?_
   refine Zb ?_
   first | exact ⟨rfl, rfl, rfl, rfl, rfl, rfl, rfl, rfl, rfl⟩ | (exfalso; omega)
  | false =>
   replace h13 := df h13
   have h13n : kids.length ≤ j := by omega
   refine Zf rfl ?_
   refine Zf rfl ?_
   refine Zf rfl ?_
   refine Za (v := .bool false) rfl (Pu.pickF rfl rfl) ?_
   refine Zb ?_
   first | exact ⟨rfl, rfl, rfl, rfl, rfl, rfl, rfl, rfl, rfl⟩ | (exfalso; omega)
 rintro ρ14 _ ⟨e15, e16, e17, e18, e19, e20, e21, e22, rfl⟩
 obtain ⟨ρ23, rfl⟩ := Ze (uc e15 (uc e16 (uc e17 (uc e18 (uc e19 (uc e20 (uc e21 (uc e22 un))))))))
 clear e15 e16 e17 e18 e19 e20 e21 e22
 refine Zl (b := (decide ((j : Int) < (kids.length : Int))) && (decide (n ≤ m))) rfl (fun h24 => ?_) (fun h24 => ?_)
 ·obtain ⟨h24a, h24b⟩ := andT h24
  replace h24a := dt h24a
  have h24an : j < kids.length := by omega
  have hs1 := sizeTs_mem _ (List.getElem_mem h24an)
  have hs2 : sizeTs (kids.drop j) = sizeT kids[j] + sizeTs (kids.drop (j + 1)) := by rw [dropc h24an, sizeTs]
  have hs3 := extT_le kids[j] (m - 1)
  replace h24b := dt h24b
  refine Zq ?_
  refine Zg ?_
  refine Zs ?_
  refine Zg (Zc ?_)
  refine Za (v := .pointer (some ⟨b1, 34, none⟩)) rfl (fa27_3 rfl rfl) ?_
  refine Zd rfl (Zh ty24 rfl (At.bx 0 rfl) (pkT_34 ..) ?_)
  refine Za (v := .int .i64 ((j : Int))) rfl (Pu.move rfl) ?_
  obtain ⟨b25, o25, cap25, row25, T25, fr25, cs25, hv25, hb25, hs25, hE25⟩ := hks.get j (by first | assumption | omega | decide | simp)
  refine Za (v := .pointer (some ⟨b25, o25 + j * 36, none⟩)) rfl (Pu.idx j Tryz.runUnderlying24 Zt hv25 rfl rfl (by first | assumption | omega | decide | simp)) ?_
  refine Zd rfl (Zj Zt rfl (At.im hb25) hs25 ?_)
  refine Za (v := .int .i64 m) rfl (Pu.move rfl) ?_
  refine Za (v := .int .i64 (m - 1)) rfl (Pu.sub64 rfl rfl (by first | omega | (constructor <;> omega))) ?_
  refine Zk rfl Tryz.call13 rfl (fun hin => ih _ (List.getElem_mem h24an) _ _ _ (RT.mono (Hle.hu _ _) hE25) (by omega) (by omega) (by omega)) rfl ?_
  rintro _ _ ⟨rfl, rfl⟩
  refine Za (v := .tuple ⟨[.int .i64 ((extT (m - 1) (kids[j])).1), .int .i64 ((extT (m - 1) (kids[j])).2)]⟩) rfl (Pu.move rfl) ?_
  refine Za (v := .int .i64 ((extT (m - 1) (kids[j])).1)) rfl (Pu.extract rfl rfl) ?_
  refine Za (v := .int .i64 ((extT (m - 1) (kids[j])).2)) rfl (Pu.extract rfl rfl) ?_
  refine Za (v := .int .i64 ((extT (m - 1) (kids[j])).1)) rfl (Pu.assign rfl) ?_
  refine Za (v := .int .i64 ((extT (m - 1) (kids[j])).2)) rfl (Pu.assign rfl) ?_
  refine Zb ?_
  refine Zc ?_
  refine Za (v := .int .i64 n) rfl (Pu.move rfl) ?_
  refine Za (v := .int .i64 ((extT (m - 1) (kids[j])).1)) rfl (Pu.move rfl) ?_
  refine Za (v := .int .i64 (n + ((extT (m - 1) (kids[j])).1))) rfl (Pu.add64 rfl rfl (by first | omega | (constructor <;> omega))) ?_
  refine Za (v := .int .i64 d) rfl (Pu.move rfl) ?_
  refine Za (v := .int .i64 ((extT (m - 1) (kids[j])).2)) rfl (Pu.move rfl) ?_
  refine Za (v := .int .i64 (max d ((extT (m - 1) (kids[j])).2))) rfl (Pu.max2 rfl rfl) ?_
  refine Za (v := .int .i64 (n + ((extT (m - 1) (kids[j])).1))) rfl (Pu.assign rfl) ?_
  refine Za (v := .int .i64 (max d ((extT (m - 1) (kids[j])).2))) rfl (Pu.assign rfl) ?_
  refine Zb ?_
  refine Zc ?_
  refine Za (v := .int .i64 ((j : Int))) rfl (Pu.move rfl) ?_
  refine Za (v := .int .i64 (((j + 1 : Nat) : Int))) rfl (Pu.inc rfl rfl (by omega)) ?_
  refine Za (v := .int .i64 (((j + 1 : Nat) : Int))) rfl (Pu.assign rfl) ?_
  refine Zb ?_
  refine ⟨_, ?_, (j + 1), (n + ((extT (m - 1) (kids[j])).1)), (max d ((extT (m - 1) (kids[j])).2)), rfl, rfl, rfl, rfl, rfl, rfl, rfl, (Sk Sub.nil), ?_, ?_, ?_, ?_, ?_, rfl⟩
  ·omega
  ·omega
  ·rw [dropc h24an, extTs, if_pos (by omega)] at hinv; exact hinv
  ·omega
  ·omega
  omega
 refine J_exit _ rfl ?_
 refine Zg ?_
 refine Zg (Zc ?_)
 refine Za (v := .int .i64 0) rfl (Pu.assign rfl) ?_
 refine Zb ?_
 refine Zs ?_
 have hf : ¬ ((j : Int) < (kids.length : Int) ∧ n ≤ m) := by
  intro ⟨hx1, hx2⟩
  have := h24
  simp [hx1, hx2] at this
  try omega
 have hr : extTs m kids 1 0 = (n, d) := by
  rw [← hinv]; rcases Nat.lt_or_ge j kids.length with hl | hl
  ·have hnm : ¬ n ≤ m := fun hle => hf ⟨by omega, hle⟩
   rw [dropc hl, extTs, if_neg hnm]
  ·rw [dropn hl, extTs]
 refine J_loop (fun k ρ M => ∃ (j : Nat) (n d : Int), ρ 1 = .int .i64 m ∧ ρ 2 = .pointer (some ⟨b1, 0, none⟩) ∧ ρ 4 = .int .i64 0 ∧ ρ 5 = .int .i64 0 ∧ ρ 6 = .int .i64 n ∧ ρ 7 = .int .i64 d ∧ ρ 11 = .int .i64 ((j : Int)) ∧ Sub [[(b1, .cells ⟨pkT kind num ref ks cv⟩ 27 (0, 0))]] M ∧ j ≤ cases.length ∧ extCs m (cases.drop j) n d = extCs m cases (extTs m kids 1 0).1 (extTs m kids 1 0).2 ∧ 0 ≤ d ∧ d < n ∧ n + sizeCs (cases.drop j) ≤ 1 + sizeTs kids + sizeCs cases ∧ k = cases.length - j) _ ⟨0, n, d, rfl, rfl, rfl, rfl, rfl, rfl, rfl, (Sk Sub.nil), Nat.zero_le _, (by rw [hr]; rfl), (by omega), (by omega), (by simp only [List.drop_zero]; omega), rfl⟩ ?_
 rintro _ ρ26 _ ⟨j, n, d, e27, e28, e29, e30, e31, e32, e33, hm34, hj, hinv, hd0, hdn, hnn, rfl⟩
 obtain ⟨ρ35, rfl⟩ := Ze (uc e27 (uc e28 (uc e29 (uc e30 (uc e31 (uc e32 (uc e33 un)))))))
 clear e27 e28 e29 e30 e31 e32 e33
 refine J_sub hm34 ?_
 have hlen := hcv.le
 refine Zg ?_
 refine J_cut (fun ρ M => ρ 1 = .int .i64 m ∧ ρ 2 = .pointer (some ⟨b1, 0, none⟩) ∧ ρ 4 = .int .i64 0 ∧ ρ 5 = .int .i64 0 ∧ ρ 6 = .int .i64 n ∧ ρ 7 = .int .i64 d ∧ ρ 11 = .int .i64 ((j : Int)) ∧ ρ 54 = .bool ((decide ((j : Int) < (cases.length : Int))) && (decide (n ≤ m))) ∧ M = [[(b1, .cells ⟨pkT kind num ref ks cv⟩ 27 (0, 0))]]) ?_ ?_
 ·refine Zc ?_
  refine Za (v := .int .i64 ((j : Int))) rfl (Pu.move rfl) ?_
  refine Za (v := .pointer (some ⟨b1, 35, none⟩)) rfl (fa27_4 rfl rfl) ?_
  refine Zd rfl (Zh ty25 rfl (At.bx 0 rfl) (pkT_35 ..) ?_)
  obtain ⟨a36, cap36, hv36⟩ := hcv.sl
  have hle36 := hcv.le
  refine Za (v := .int .i64 ((cases.length : Int))) rfl (Pu.lenSl Tryz.runUnderlying25 hv36) ?_
  refine Za (v := .bool (decide ((j : Int) < (cases.length : Int)))) rfl (Pu.lss rfl rfl) ?_
  refine Za (v := .bool (decide ((j : Int) < (cases.length : Int)))) rfl (Pu.move rfl) ?_
  cases h37 : (decide ((j : Int) < (cases.length : Int))) with
  | true =>
   replace h37 := dt h37
   have h37n : j < cases.length := by omega
   have hs1 := sizeCs_mem _ (List.getElem_mem h37n)
   have hs2 : sizeCs (cases.drop j) = sizeP cases[j].1 + sizeT cases[j].2 + sizeCs (cases.drop (j + 1)) := by rw [dropc h37n, sizeCs]
   have hs3 := extT_le cases[j].2 (m - 1)
   have hs4 := extP_le cases[j].1 (m - 1)
   refine Za (v := .int .i64 n) rfl (Pu.move rfl) ?_
   refine Za (v := .int .i64 m) rfl (Pu.move rfl) ?_
   refine Za (v := .bool (decide (n ≤ m))) rfl (Pu.leq rfl rfl) ?_
   refine Za (v := .bool (decide (n ≤ m))) rfl (Pu.pickT rfl rfl) ?_
   refine Zb ?_
   first | exact ⟨rfl, rfl, rfl, rfl, rfl, rfl, rfl, rfl, rfl⟩ | (exfalso; omega)
  | false =>
   replace h37 := df h37
   have h37n : cases.length ≤ j := by omega
   refine Zf rfl ?_
   refine Zf rfl ?_
   refine Zf rfl ?_
   refine Za (v := .bool false) rfl (Pu.pickF rfl rfl) ?_
   refine Zb ?_
   first | exact ⟨rfl, rfl, rfl, rfl, rfl, rfl, rfl, rfl, rfl⟩ | (exfalso; omega)
 rintro ρ38 _ ⟨e39, e40, e41, e42, e43, e44, e45, e46, rfl⟩
 obtain ⟨ρ47, rfl⟩ := Ze (uc e39 (uc e40 (uc e41 (uc e42 (uc e43 (uc e44 (uc e45 (uc e46 un))))))))
 clear e39 e40 e41 e42 e43 e44 e45 e46
 refine Zl (b := (decide ((j : Int) < (cases.length : Int))) && (decide (n ≤ m))) rfl (fun h48 => ?_) (fun h48 => ?_)
 ·obtain ⟨h48a, h48b⟩ := andT h48
  replace h48a := dt h48a
  have h48an : j < cases.length := by omega
  have hs1 := sizeCs_mem _ (List.getElem_mem h48an)
  have hs2 : sizeCs (cases.drop j) = sizeP cases[j].1 + sizeT cases[j].2 + sizeCs (cases.drop (j + 1)) := by rw [dropc h48an, sizeCs]
  have hs3 := extT_le cases[j].2 (m - 1)
  have hs4 := extP_le cases[j].1 (m - 1)
  replace h48b := dt h48b
  refine Zq ?_
  refine Zg ?_
  refine Zs ?_
  refine Zg (Zc ?_)
  refine Za (v := .pointer (some ⟨b1, 35, none⟩)) rfl (fa27_4 rfl rfl) ?_
  refine Zd rfl (Zh ty25 rfl (At.bx 0 rfl) (pkT_35 ..) ?_)
  refine Za (v := .int .i64 ((j : Int))) rfl (Pu.move rfl) ?_
  obtain ⟨b49, o49, cap49, row49, T49, fr49, cs49, hv49, hb49, hs49, hE49⟩ := hcv.get j (by first | assumption | omega | decide | simp)
  obtain ⟨ca49, cb49, rfl, hA49, hB49⟩ := hE49
  refine Za (v := .pointer (some ⟨b49, o49 + j * 71, none⟩)) rfl (Pu.idx j Tryz.runUnderlying25 ty34 hv49 rfl rfl (by first | assumption | omega | decide | simp)) ?_
  refine Za (v := .pointer (some ⟨b49, o49 + j * 71, none⟩)) rfl (fa34_0 rfl rfl) ?_
  refine Zd rfl (Zj ty30 rfl (At.im hb49) (sub_sub0 hs49 (sub_l (RP_len hA49))) ?_)
  refine Za (v := .int .i64 m) rfl (Pu.move rfl) ?_
  refine Za (v := .int .i64 (m - 1)) rfl (Pu.sub64 rfl rfl (by first | omega | (constructor <;> omega))) ?_
  refine Zk rfl Tryz.call47 rfl (fun hin => patternSize_ct _ _ _ _ (RP.mono (Hle.hu _ _) hA49) (by omega) (by omega) (by omega)) rfl ?_
  rintro _ _ ⟨rfl, rfl⟩
  refine Za (v := .tuple ⟨[.int .i64 ((extP (m - 1) (cases[j].1)).1), .int .i64 ((extP (m - 1) (cases[j].1)).2)]⟩) rfl (Pu.move rfl) ?_
  refine Za (v := .int .i64 ((extP (m - 1) (cases[j].1)).1)) rfl (Pu.extract rfl rfl) ?_
  refine Za (v := .int .i64 ((extP (m - 1) (cases[j].1)).2)) rfl (Pu.extract rfl rfl) ?_
  refine Za (v := .int .i64 ((extP (m - 1) (cases[j].1)).1)) rfl (Pu.assign rfl) ?_
  refine Za (v := .int .i64 ((extP (m - 1) (cases[j].1)).2)) rfl (Pu.assign rfl) ?_
  refine Zb ?_
  refine Zg (Zc ?_)
  refine Za (v := .pointer (some ⟨b1, 35, none⟩)) rfl (fa27_4 rfl rfl) ?_
  refine Zd rfl (Zh ty25 rfl (At.bx 0 rfl) (pkT_35 ..) ?_)
  refine Za (v := .int .i64 ((j : Int))) rfl (Pu.move rfl) ?_
  obtain ⟨b50, o50, cap50, row50, T50, fr50, cs50, hv50, hb50, hs50, hE50⟩ := hcv.get j (by first | assumption | omega | decide | simp)
  obtain ⟨ca50, cb50, rfl, hA50, hB50⟩ := hE50
  refine Za (v := .pointer (some ⟨b50, o50 + j * 71, none⟩)) rfl (Pu.idx j Tryz.runUnderlying25 ty34 hv50 rfl rfl (by first | assumption | omega | decide | simp)) ?_
  refine Za (v := .pointer (some ⟨b50, o50 + j * 71 + 35, none⟩)) rfl (fa34_1 rfl rfl) ?_
  refine Zd rfl (Zj Zt rfl (At.im hb50) (sub_sub hs50 (sub_r (RP_len hA50) (Zv hB50))) ?_)
  refine Za (v := .int .i64 m) rfl (Pu.move rfl) ?_
  refine Za (v := .int .i64 (m - 1)) rfl (Pu.sub64 rfl rfl (by first | omega | (constructor <;> omega))) ?_
  refine Zk rfl Tryz.call13 rfl (fun hin => ih' _ (List.getElem_mem h48an) _ _ _ (RT.mono (Hle.hu _ _) hB50) (by omega) (by omega) (by omega)) rfl ?_
  rintro _ _ ⟨rfl, rfl⟩
  refine Za (v := .tuple ⟨[.int .i64 ((extT (m - 1) (cases[j].2)).1), .int .i64 ((extT (m - 1) (cases[j].2)).2)]⟩) rfl (Pu.move rfl) ?_
  refine Za (v := .int .i64 ((extT (m - 1) (cases[j].2)).1)) rfl (Pu.extract rfl rfl) ?_
  refine Za (v := .int .i64 ((extT (m - 1) (cases[j].2)).2)) rfl (Pu.extract rfl rfl) ?_
  refine Za (v := .int .i64 ((extT (m - 1) (cases[j].2)).1)) rfl (Pu.assign rfl) ?_
  refine Za (v := .int .i64 ((extT (m - 1) (cases[j].2)).2)) rfl (Pu.assign rfl) ?_
  refine Zb ?_
  refine Zc ?_
  refine Za (v := .int .i64 n) rfl (Pu.move rfl) ?_
  refine Za (v := .int .i64 ((extP (m - 1) (cases[j].1)).1)) rfl (Pu.move rfl) ?_
  refine Za (v := .int .i64 (n + ((extP (m - 1) (cases[j].1)).1))) rfl (Pu.add64 rfl rfl (by first | omega | (constructor <;> omega))) ?_
  refine Za (v := .int .i64 ((extT (m - 1) (cases[j].2)).1)) rfl (Pu.move rfl) ?_
  refine Za (v := .int .i64 (n + ((extP (m - 1) (cases[j].1)).1) + ((extT (m - 1) (cases[j].2)).1))) rfl (Pu.add64 rfl rfl (by first | omega | (constructor <;> omega))) ?_
  refine Za (v := .int .i64 d) rfl (Pu.move rfl) ?_
  refine Za (v := .int .i64 ((extP (m - 1) (cases[j].1)).2)) rfl (Pu.move rfl) ?_
  refine Za (v := .int .i64 ((extT (m - 1) (cases[j].2)).2)) rfl (Pu.move rfl) ?_
  refine Za (v := .int .i64 (max (max d ((extP (m - 1) (cases[j].1)).2)) ((extT (m - 1) (cases[j].2)).2))) rfl (Pu.max3 rfl rfl rfl) ?_
  refine Za (v := .int .i64 (n + ((extP (m - 1) (cases[j].1)).1) + ((extT (m - 1) (cases[j].2)).1))) rfl (Pu.assign rfl) ?_
  refine Za (v := .int .i64 (max (max d ((extP (m - 1) (cases[j].1)).2)) ((extT (m - 1) (cases[j].2)).2))) rfl (Pu.assign rfl) ?_
  refine Zb ?_
  refine Zc ?_
  refine Za (v := .int .i64 ((j : Int))) rfl (Pu.move rfl) ?_
  refine Za (v := .int .i64 (((j + 1 : Nat) : Int))) rfl (Pu.inc rfl rfl (by omega)) ?_
  refine Za (v := .int .i64 (((j + 1 : Nat) : Int))) rfl (Pu.assign rfl) ?_
  refine Zb ?_
  refine ⟨_, ?_, (j + 1), (n + ((extP (m - 1) (cases[j].1)).1) + ((extT (m - 1) (cases[j].2)).1)), (max (max d ((extP (m - 1) (cases[j].1)).2)) ((extT (m - 1) (cases[j].2)).2)), rfl, rfl, rfl, rfl, rfl, rfl, rfl, (Sk Sub.nil), ?_, ?_, ?_, ?_, ?_, rfl⟩
  ·omega
  ·omega
  ·rw [dropc h48an, extCs, if_pos (by omega)] at hinv; exact hinv
  ·omega
  ·omega
  omega
 refine J_exit _ rfl ?_
 refine Zg (Zc ?_)
 refine Za (v := .int .i64 n) rfl (Pu.move rfl) ?_
 refine Za (v := .int .i64 d) rfl (Pu.move rfl) ?_
 refine Za (v := .int .i64 (d + 1)) rfl (Pu.add64 rfl rfl (by first | omega | (constructor <;> omega))) ?_
 refine Za (v := .int .i64 n) rfl (Pu.assign rfl) ?_
 refine Za (v := .int .i64 (d + 1)) rfl (Pu.assign rfl) ?_
 refine Zb ?_
 refine Zo ?_
 refine ⟨.tuple ⟨[.int .i64 n, .int .i64 (d + 1)]⟩, [], Ret.two rfl (RV.tmp rfl) (RV.tmp rfl), Sub.nil, ?_⟩
 have hf : ¬ ((j : Int) < (cases.length : Int) ∧ n ≤ m) := by
  intro ⟨hx1, hx2⟩
  have := h48
  simp [hx1, hx2] at this
  try omega
 have hr : extCs m cases (extTs m kids 1 0).1 (extTs m kids 1 0).2 = (n, d) := by
  rw [← hinv]; rcases Nat.lt_or_ge j cases.length with hl | hl
  ·have hnm : ¬ n ≤ m := fun hle => hf ⟨by omega, hle⟩
   rw [dropc hl, extCs, if_neg hnm]
  ·rw [dropn hl, extCs]
 exact ⟨by rw [extT, hr], rfl⟩
theorem longR_ct (t : Tm) (cs : List Value) (H : Heap) (ht : RT H cs t) (hz : sizeT t ≤ 1000000000) : CT Tryz.prog 56 ⟨[.agg ⟨cs⟩]⟩ [] H (fun v N => v = .bool (longB t) ∧ N = []) := by
 refine Zr Tryz.func56 rfl rfl ?_
 refine Zg (Zc ?_)
 refine Zd rfl (Zx (l := cs) rfl rfl fun b1 => ?_)
 refine Za (v := .bool false) rfl (Pu.assign rfl) ?_
 refine Zb ?_
 refine Zg (Zc ?_)
 refine Zd rfl (Zj Zt rfl (At.bx 0 rfl) (Zy (Zv ht)) ?_)
 refine Zk rfl Tryz.call13 rfl (fun hin => extent_ct _ _ _ _ (RT.mono (Hle.hu _ _) ht) (by omega) (by omega) (by omega)) rfl ?_
 rintro _ _ ⟨rfl, rfl⟩
 refine Za (v := .tuple ⟨[.int .i64 ((extT 400 t).1), .int .i64 ((extT 400 t).2)]⟩) rfl (Pu.move rfl) ?_
 refine Za (v := .int .i64 ((extT 400 t).1)) rfl (Pu.extract rfl rfl) ?_
 refine Za (v := .int .i64 ((extT 400 t).2)) rfl (Pu.extract rfl rfl) ?_
 refine Za (v := .int .i64 ((extT 400 t).1)) rfl (Pu.assign rfl) ?_
 refine Za (v := .int .i64 ((extT 400 t).2)) rfl (Pu.assign rfl) ?_
 refine Zb ?_
 refine J_cut (fun ρ M => ρ 2 = .bool ((decide (300 < (extT 400 t).1)) || (decide (60 < (extT 400 t).2))) ∧ M = [[(b1, .cells ⟨cs⟩ 27 (0, 0))]]) ?_ ?_
 ·refine Zc ?_
  refine Za (v := .int .i64 ((extT 400 t).1)) rfl (Pu.move rfl) ?_
  refine Za (v := .bool (decide (300 < (extT 400 t).1))) rfl (Pu.gtr rfl rfl) ?_
  refine Za (v := .bool (decide (300 < (extT 400 t).1))) rfl (Pu.move rfl) ?_
  cases h2 : (decide (300 < (extT 400 t).1)) with
  | true =>
   replace h2 := dt h2
   refine Zf rfl ?_
   refine Zf rfl ?_
   refine Za (v := .bool true) rfl (Pu.pickT rfl rfl) ?_
   refine Za (v := .bool true) rfl (Pu.assign rfl) ?_
   refine Zb ?_
   first | exact ⟨rfl, rfl⟩ | (exfalso; omega)
  | false =>
   replace h2 := df h2
   refine Za (v := .int .i64 ((extT 400 t).2)) rfl (Pu.move rfl) ?_
   refine Za (v := .bool (decide (60 < (extT 400 t).2))) rfl (Pu.gtr rfl rfl) ?_
   refine Za (v := .bool (decide (60 < (extT 400 t).2))) rfl (Pu.pickF rfl rfl) ?_
   refine Za (v := .bool (decide (60 < (extT 400 t).2))) rfl (Pu.assign rfl) ?_
   refine Zb ?_
   first | exact ⟨rfl, rfl⟩ | (exfalso; omega)
 rintro ρ3 _ ⟨e4, rfl⟩
 obtain ⟨ρ5, rfl⟩ := Ze (uc e4 un)
 clear e4
 refine Zo ?_
 refine ⟨.bool ((decide (300 < (extT 400 t).1)) || (decide (60 < (extT 400 t).2))), [], Ret.one rfl (RV.tmp rfl), Sub.nil, ?_⟩
 exact ⟨rfl, rfl⟩
theorem checkR_ct (t : Tm) (d m : Int) (cs : List Value) (H : Heap) (ht : RT H cs t) (hz : sizeT t ≤ 400000) : CT Tryz.prog 20 ⟨[.agg ⟨cs⟩, .int .i64 d, .int .i64 m]⟩ [] H (fun v N => v = .int .i64 (checkR d m t) ∧ N = []) := by
 refine Zr Tryz.func20 rfl rfl ?_
 refine Zg (Zc ?_)
 refine Zd rfl (Zx (l := cs) rfl rfl fun b1 => ?_)
 refine Za (v := .int .i64 0) rfl (Pu.assign rfl) ?_
 refine Zb ?_
 refine Zg ?_
 refine Zg (Zc ?_)
 refine Zd rfl (Zj Zt rfl (At.bx 0 rfl) (Zy (Zv ht)) ?_)
 refine Zk rfl Tryz.call56 rfl (fun hin => longR_ct _ _ _ (RT.mono (Hle.hu _ _) ht) (by omega)) rfl ?_
 rintro _ _ ⟨rfl, rfl⟩
 refine Zb ?_
 refine Zl (b := longB t) rfl (fun h2 => ?_) (fun h2 => ?_)
 ·refine Zg (Zc ?_)
  refine Za (v := .int .i64 11) rfl (Pu.assign rfl) ?_
  refine Zb ?_
  refine Zo ?_
  refine ⟨.int .i64 11, [], Ret.one rfl (RV.tmp rfl), Sub.nil, ?_⟩
  exact ⟨by rw [checkR, if_pos (by simp [h2])], rfl⟩
 refine Zq ?_
 refine Zg (Zc ?_)
 refine Zd rfl (Zj Zt rfl (At.bx 0 rfl) (Zy (Zv ht)) ?_)
 refine Za (v := .int .i64 d) rfl (Pu.move rfl) ?_
 refine Za (v := .int .i64 m) rfl (Pu.move rfl) ?_
 refine Zk rfl Tryz.call57 rfl (fun hin => nodeError_ct _ _ _ _ _ _ (RT.mono (Hle.hu _ _) ht) (by omega) (by omega)) rfl ?_
 rintro _ _ ⟨rfl, rfl⟩
 refine Za (v := .int .i64 (nErr d m 0 t)) rfl (Pu.assign rfl) ?_
 refine Zb ?_
 refine Zo ?_
 refine ⟨.int .i64 (nErr d m 0 t), [], Ret.one rfl (RV.tmp rfl), Sub.nil, ?_⟩
 exact ⟨by rw [checkR, if_neg (by simp [h2])], rfl⟩
theorem rightR_ct (t : Tm) (cs : List Value) (H : Heap) (ht : RT H cs t) (hz : sizeT t ≤ 400000) : CT Tryz.prog 46 ⟨[.agg ⟨cs⟩]⟩ [] H (fun v N => v = .int .i64 (checkR 60 8 t) ∧ N = []) := by
 refine Zr Tryz.func46 rfl rfl ?_
 refine Zg (Zc ?_)
 refine Zd rfl (Zx (l := cs) rfl rfl fun b1 => ?_)
 refine Za (v := .int .i64 0) rfl (Pu.assign rfl) ?_
 refine Zb ?_
 refine Zg (Zc ?_)
 refine Zd rfl (Zj Zt rfl (At.bx 0 rfl) (Zy (Zv ht)) ?_)
 refine Zk rfl Tryz.call20 rfl (fun hin => checkR_ct _ _ _ _ _ (RT.mono (Hle.hu _ _) ht) (by omega)) rfl ?_
 rintro _ _ ⟨rfl, rfl⟩
 refine Za (v := .int .i64 (checkR 60 8 t)) rfl (Pu.assign rfl) ?_
 refine Zb ?_
 refine Zo ?_
 refine ⟨.int .i64 (checkR 60 8 t), [], Ret.one rfl (RV.tmp rfl), Sub.nil, ?_⟩
 exact ⟨rfl, rfl⟩
theorem rightL_ct (t : Tm) (cs : List Value) (H : Heap) (ht : RT H cs t) (hz : sizeT t ≤ 400000) : CT Tryz.prog 12 ⟨[.agg ⟨cs⟩]⟩ [] H (fun v N => v = .tuple ⟨[.bool (decide (checkR 60 8 t = 0)), .int .i64 (checkR 60 8 t)]⟩ ∧ N = []) := by
 refine Zr Tryz.func12 rfl rfl ?_
 refine Zg (Zc ?_)
 refine Zd rfl (Zx (l := cs) rfl rfl fun b1 => ?_)
 refine Za (v := .bool false) rfl (Pu.assign rfl) ?_
 refine Za (v := .int .i64 0) rfl (Pu.assign rfl) ?_
 refine Zb ?_
 refine Zg (Zc ?_)
 refine Zd rfl (Zj Zt rfl (At.bx 0 rfl) (Zy (Zv ht)) ?_)
 refine Zk rfl Tryz.call46 rfl (fun hin => rightR_ct _ _ _ (RT.mono (Hle.hu _ _) ht) (by omega)) rfl ?_
 rintro _ _ ⟨rfl, rfl⟩
 refine Za (v := .int .i64 (checkR 60 8 t)) rfl (Pu.assign rfl) ?_
 refine Zb ?_
 refine Zg (Zc ?_)
 refine Za (v := .int .i64 (checkR 60 8 t)) rfl (Pu.move rfl) ?_
 refine Za (v := .bool (decide (checkR 60 8 t = 0))) rfl (Pu.eql rfl rfl) ?_
 refine Za (v := .int .i64 (checkR 60 8 t)) rfl (Pu.move rfl) ?_
 refine Za (v := .bool (decide (checkR 60 8 t = 0))) rfl (Pu.assign rfl) ?_
 refine Za (v := .int .i64 (checkR 60 8 t)) rfl (Pu.assign rfl) ?_
 refine Zb ?_
 refine Zo ?_
 refine ⟨.tuple ⟨[.bool (decide (checkR 60 8 t = 0)), .int .i64 (checkR 60 8 t)]⟩, [], Ret.two rfl (RV.tmp rfl) (RV.tmp rfl), Sub.nil, ?_⟩
 exact ⟨rfl, rfl⟩
end Go.Proofs.YtdeinimmmjichaaGreat.Hs
/-! Walks, printed by a program of this session's own (gen.py). -/
namespace Go.Proofs.YtdeinimmmjichaaGreat.Hs
open Go Go.Proofs
set_option maxRecDepth 100000
set_option linter.unusedVariables false
set_option linter.unusedSimpArgs false
attribute [local irreducible] JL J CT wlo
theorem eqFuncP_ct (g : Nat) (fs cv : List Value) (hcall : ∀ args w, (callFunc g args).run Tryz.prog w = .ok (.enter g args) w) (l m : List Pt) (v u : Value) (H : Heap) (hl : rdS RP 35 H v l) (hm : rdS RP 35 H u m) (hg : ∀ x ∈ l, ∀ y ∈ m, ∀ a b h, Hle H h → RP h a x → RP h b y → CT Tryz.prog g ⟨fs ++ [.agg ⟨a⟩, .agg ⟨b⟩] ++ cv⟩ [] h (fun v N => v = .bool (decide (x = y)) ∧ N = [])) : CT Tryz.prog 65 ⟨[v, u, .func (.func g) ⟨fs⟩ ⟨cv⟩]⟩ [] H (fun v N => v = .bool (decide (l = m)) ∧ N = []) := by
 refine Zr Tryz.func65 rfl rfl ?_
 refine Zg (Zc ?_)
 refine Za (v := .bool false) rfl (Pu.assign rfl) ?_
 refine Zb ?_
 refine Zg ?_
 refine Zg (Zc ?_)
 refine Za (v := v) rfl (Pu.move rfl) ?_
 obtain ⟨a1, cap1, hv1⟩ := hl.sl
 have hle1 := hl.le
 refine Za (v := .int .i64 ((l.length : Int))) rfl (Pu.lenSl Tryz.runUnderlying28 hv1) ?_
 refine Za (v := u) rfl (Pu.move rfl) ?_
 obtain ⟨a2, cap2, hv2⟩ := hm.sl
 have hle2 := hm.le
 refine Za (v := .int .i64 ((m.length : Int))) rfl (Pu.lenSl Tryz.runUnderlying28 hv2) ?_
 refine Za (v := .bool (!decide ((l.length : Int) = (m.length : Int)))) rfl (Pu.neq rfl rfl) ?_
 refine Zb ?_
 refine Zl (b := !decide ((l.length : Int) = (m.length : Int))) rfl (fun h3 => ?_) (fun h3 => ?_)
 ·replace h3 := nt h3
  replace h3 := df h3
  refine Zg (Zc ?_)
  refine Za (v := .bool false) rfl (Pu.assign rfl) ?_
  refine Zb ?_
  refine Zo ?_
  refine ⟨.bool false, [], Ret.one rfl (RV.tmp rfl), Sub.nil, ?_⟩
  exact ⟨by rw [decide_eq_false]; intro e; subst e; exact h3 rfl, rfl⟩
 replace h3 := nf h3
 replace h3 := dt h3
 refine Zq ?_
 refine Zg ?_
 refine Zg (Zc ?_)
 refine Za (v := v) rfl (Pu.move rfl) ?_
 obtain ⟨a4, cap4, hv4⟩ := hl.sl
 have hle4 := hl.le
 refine Za (v := .int .i64 ((l.length : Int))) rfl (Pu.lenSl Tryz.runUnderlying28 hv4) ?_
 refine Za (v := .int .i64 0) rfl (Pu.move rfl) ?_
 refine Zb ?_
 refine Zs ?_
 refine J_loop (fun k ρ M => ∃ (j : Nat), ρ 1 = u ∧ ρ 2 = .func (.func g) ⟨fs⟩ ⟨cv⟩ ∧ ρ 6 = .bool false ∧ ρ 15 = v ∧ ρ 16 = .int .i64 ((l.length : Int)) ∧ ρ 17 = .int .i64 ((j : Int)) ∧ Sub [] M ∧ j ≤ l.length ∧ l.length = m.length ∧ l.take j = m.take j ∧ k = l.length - j) _ ⟨0, rfl, rfl, rfl, rfl, rfl, rfl, Sub.nil, Nat.zero_le _, (by omega), rfl, rfl⟩ ?_
 rintro _ ρ5 _ ⟨j, e6, e7, e8, e9, e10, e11, hm12, hj, hlen, htake, rfl⟩
 obtain ⟨ρ13, rfl⟩ := Ze (uc e6 (uc e7 (uc e8 (uc e9 (uc e10 (uc e11 un))))))
 clear e6 e7 e8 e9 e10 e11
 refine J_sub hm12 ?_
 refine Zg (Zc ?_)
 refine Za (v := .bool (decide ((j : Int) < (l.length : Int)))) rfl (Pu.lss rfl rfl) ?_
 refine Zb ?_
 refine Zg ?_
 refine Zl (b := decide ((j : Int) < (l.length : Int))) rfl (fun h14 => ?_) (fun h14 => ?_)
 ·replace h14 := dt h14
  have h14n : j < l.length := by omega
  have hlenl := hl.le
  have hltm : j < m.length := by omega
  refine Zq ?_
  refine Zg ?_
  refine Zs ?_
  refine Zg (Zc ?_)
  refine Za (v := .int .i64 ((j : Int))) rfl (Pu.move rfl) ?_
  obtain ⟨b15, o15, cap15, row15, T15, fr15, cs15, hv15, hb15, hs15, hE15⟩ := hl.get j (by first | assumption | omega | decide | simp)
  refine Za (v := .pointer (some ⟨b15, o15 + j * 35, none⟩)) rfl (Pu.idx j Tryz.runUnderlying28 ty30 hv15 rfl rfl (by first | assumption | omega | decide | simp)) ?_
  refine Zd rfl (Zj ty30 rfl (At.im hb15) hs15 ?_)
  refine Zd rfl (Zn (l := pkP 0 0 zS (.slice none 0 0)) Tryz.zeroValue30 rfl fun b16 => ?_)
  refine Za (v := .int .i64 ((j : Int))) rfl (Pu.assign rfl) ?_
  refine Zd rfl (Zi 0 (vs := cs15) (l := cs15) ty30 rfl rfl rfl rfl (RP_len hE15) (RP_ok hE15) (spl_a (n := 35) rfl (RP_len hE15)) ?_)
  refine Zb ?_
  refine Zg (Zc ?_)
  refine Za (v := u) rfl (Pu.move rfl) ?_
  refine Za (v := .int .i64 ((j : Int))) rfl (Pu.move rfl) ?_
  obtain ⟨b17, o17, cap17, row17, T17, fr17, cs17, hv17, hb17, hs17, hE17⟩ := hm.get j (by first | assumption | omega | decide | simp)
  refine Za (v := .pointer (some ⟨b17, o17 + j * 35, none⟩)) rfl (Pu.idx j Tryz.runUnderlying28 ty30 hv17 rfl rfl (by first | assumption | omega | decide | simp)) ?_
  refine Zd rfl (Zj ty30 rfl (At.im hb17) hs17 ?_)
  refine Zd rfl (Zn (l := pkP 0 0 zS (.slice none 0 0)) Tryz.zeroValue30 rfl fun b18 => ?_)
  refine Zd rfl (Zi 0 (vs := cs17) (l := cs17) ty30 rfl rfl rfl rfl (RP_len hE17) (RP_ok hE17) (spl_a (n := 35) rfl (RP_len hE17)) ?_)
  refine Zb ?_
  refine Zg (Zc ?_)
  refine Za (v := .func (.func g) ⟨fs⟩ ⟨cv⟩) rfl (Pu.move rfl) ?_
  refine Zd rfl (Zj ty30 rfl (At.bx 1 rfl) (Zy (RP_len hE15)) ?_)
  refine Zd rfl (Zj ty30 rfl (At.bx 0 rfl) (Zy (RP_len hE17)) ?_)
  refine Zk rfl hcall rfl (fun hin => hg _ (List.getElem_mem h14n) _ (List.getElem_mem (by omega)) _ _ _ (Hle.hu _ _) (RP.mono (Hle.hu _ _) hE15) (RP.mono (Hle.hu _ _) hE17)) rfl ?_
  rintro _ _ ⟨rfl, rfl⟩
  refine Za (v := .bool (!(decide ((l[j]) = (m[j]))))) rfl (Pu.not rfl) ?_
  refine Zb ?_
  refine Zl (b := !(decide ((l[j]) = (m[j])))) rfl (fun h19 => ?_) (fun h19 => ?_)
  ·replace h19 := nt h19
   replace h19 := df h19
   refine Zg (Zc ?_)
   refine Za (v := .bool false) rfl (Pu.assign rfl) ?_
   refine Zb ?_
   refine Zo ?_
   refine ⟨.bool false, [], Ret.one rfl (RV.tmp rfl), Sub.nil, ?_⟩
   exact ⟨by rw [decide_eq_false]; intro e; subst e; exact h19 rfl, rfl⟩
  replace h19 := nf h19
  replace h19 := dt h19
  refine Zq ?_
  refine Zc ?_
  refine Za (v := .int .i64 (((j + 1 : Nat) : Int))) rfl (Pu.inc rfl rfl (by omega)) ?_
  refine Za (v := .int .i64 (((j + 1 : Nat) : Int))) rfl (Pu.move rfl) ?_
  refine Zb ?_
  refine ⟨_, ?_, (j + 1), rfl, rfl, rfl, rfl, rfl, rfl, Sub.nil, ?_, ?_, ?_, rfl⟩
  ·omega
  ·omega
  ·assumption
  rw [List.take_succ_eq_append_getElem h14n, List.take_succ_eq_append_getElem (by omega), htake, h19]
 replace h14 := df h14
 have h14n : l.length ≤ j := by omega
 refine J_exit _ rfl ?_
 refine Zg (Zc ?_)
 refine Za (v := .bool true) rfl (Pu.assign rfl) ?_
 refine Zb ?_
 refine Zo ?_
 refine ⟨.bool true, [], Ret.one rfl (RV.tmp rfl), Sub.nil, ?_⟩
 exact ⟨by rw [decide_eq_true]; have e := htake; rw [List.take_of_length_le h14n, List.take_of_length_le (by omega)] at e; exact e, rfl⟩
theorem eqFuncT_ct (g : Nat) (fs cv : List Value) (hcall : ∀ args w, (callFunc g args).run Tryz.prog w = .ok (.enter g args) w) (l m : List Tm) (v u : Value) (H : Heap) (hl : rdS RT 36 H v l) (hm : rdS RT 36 H u m) (hg : ∀ x ∈ l, ∀ y ∈ m, ∀ a b h, Hle H h → RT h a x → RT h b y → CT Tryz.prog g ⟨fs ++ [.agg ⟨a⟩, .agg ⟨b⟩] ++ cv⟩ [] h (fun v N => v = .bool (decide (x = y)) ∧ N = [])) : CT Tryz.prog 58 ⟨[v, u, .func (.func g) ⟨fs⟩ ⟨cv⟩]⟩ [] H (fun v N => v = .bool (decide (l = m)) ∧ N = []) := by
 refine Zr Tryz.func58 rfl rfl ?_
 refine Zg (Zc ?_)
 refine Za (v := .bool false) rfl (Pu.assign rfl) ?_
 refine Zb ?_
 refine Zg ?_
 refine Zg (Zc ?_)
 refine Za (v := v) rfl (Pu.move rfl) ?_
 obtain ⟨a1, cap1, hv1⟩ := hl.sl
 have hle1 := hl.le
 refine Za (v := .int .i64 ((l.length : Int))) rfl (Pu.lenSl Tryz.runUnderlying24 hv1) ?_
 refine Za (v := u) rfl (Pu.move rfl) ?_
 obtain ⟨a2, cap2, hv2⟩ := hm.sl
 have hle2 := hm.le
 refine Za (v := .int .i64 ((m.length : Int))) rfl (Pu.lenSl Tryz.runUnderlying24 hv2) ?_
 refine Za (v := .bool (!decide ((l.length : Int) = (m.length : Int)))) rfl (Pu.neq rfl rfl) ?_
 refine Zb ?_
 refine Zl (b := !decide ((l.length : Int) = (m.length : Int))) rfl (fun h3 => ?_) (fun h3 => ?_)
 ·replace h3 := nt h3
  replace h3 := df h3
  refine Zg (Zc ?_)
  refine Za (v := .bool false) rfl (Pu.assign rfl) ?_
  refine Zb ?_
  refine Zo ?_
  refine ⟨.bool false, [], Ret.one rfl (RV.tmp rfl), Sub.nil, ?_⟩
  exact ⟨by rw [decide_eq_false]; intro e; subst e; exact h3 rfl, rfl⟩
 replace h3 := nf h3
 replace h3 := dt h3
 refine Zq ?_
 refine Zg ?_
 refine Zg (Zc ?_)
 refine Za (v := v) rfl (Pu.move rfl) ?_
 obtain ⟨a4, cap4, hv4⟩ := hl.sl
 have hle4 := hl.le
 refine Za (v := .int .i64 ((l.length : Int))) rfl (Pu.lenSl Tryz.runUnderlying24 hv4) ?_
 refine Za (v := .int .i64 0) rfl (Pu.move rfl) ?_
 refine Zb ?_
 refine Zs ?_
 refine J_loop (fun k ρ M => ∃ (j : Nat), ρ 1 = u ∧ ρ 2 = .func (.func g) ⟨fs⟩ ⟨cv⟩ ∧ ρ 6 = .bool false ∧ ρ 15 = v ∧ ρ 16 = .int .i64 ((l.length : Int)) ∧ ρ 17 = .int .i64 ((j : Int)) ∧ Sub [] M ∧ j ≤ l.length ∧ l.length = m.length ∧ l.take j = m.take j ∧ k = l.length - j) _ ⟨0, rfl, rfl, rfl, rfl, rfl, rfl, Sub.nil, Nat.zero_le _, (by omega), rfl, rfl⟩ ?_
 rintro _ ρ5 _ ⟨j, e6, e7, e8, e9, e10, e11, hm12, hj, hlen, htake, rfl⟩
 obtain ⟨ρ13, rfl⟩ := Ze (uc e6 (uc e7 (uc e8 (uc e9 (uc e10 (uc e11 un))))))
 clear e6 e7 e8 e9 e10 e11
 refine J_sub hm12 ?_
 refine Zg (Zc ?_)
 refine Za (v := .bool (decide ((j : Int) < (l.length : Int)))) rfl (Pu.lss rfl rfl) ?_
 refine Zb ?_
 refine Zg ?_
 refine Zl (b := decide ((j : Int) < (l.length : Int))) rfl (fun h14 => ?_) (fun h14 => ?_)
 ·replace h14 := dt h14
  have h14n : j < l.length := by omega
  have hlenl := hl.le
  have hltm : j < m.length := by omega
  refine Zq ?_
  refine Zg ?_
  refine Zs ?_
  refine Zg (Zc ?_)
  refine Za (v := .int .i64 ((j : Int))) rfl (Pu.move rfl) ?_
  obtain ⟨b15, o15, cap15, row15, T15, fr15, cs15, hv15, hb15, hs15, hE15⟩ := hl.get j (by first | assumption | omega | decide | simp)
  refine Za (v := .pointer (some ⟨b15, o15 + j * 36, none⟩)) rfl (Pu.idx j Tryz.runUnderlying24 Zt hv15 rfl rfl (by first | assumption | omega | decide | simp)) ?_
  refine Zd rfl (Zj Zt rfl (At.im hb15) hs15 ?_)
  refine Zd rfl (Zn (l := pkT 0 0 zS (.slice none 0 0) (.slice none 0 0)) Tryz.zeroValue27 rfl fun b16 => ?_)
  refine Za (v := .int .i64 ((j : Int))) rfl (Pu.assign rfl) ?_
  refine Zd rfl (Zi 0 (vs := cs15) (l := cs15) Zt rfl rfl rfl rfl (Zv hE15) (RT_ok hE15) (spl_a (n := 36) rfl (Zv hE15)) ?_)
  refine Zb ?_
  refine Zg (Zc ?_)
  refine Za (v := u) rfl (Pu.move rfl) ?_
  refine Za (v := .int .i64 ((j : Int))) rfl (Pu.move rfl) ?_
  obtain ⟨b17, o17, cap17, row17, T17, fr17, cs17, hv17, hb17, hs17, hE17⟩ := hm.get j (by first | assumption | omega | decide | simp)
  refine Za (v := .pointer (some ⟨b17, o17 + j * 36, none⟩)) rfl (Pu.idx j Tryz.runUnderlying24 Zt hv17 rfl rfl (by first | assumption | omega | decide | simp)) ?_
  refine Zd rfl (Zj Zt rfl (At.im hb17) hs17 ?_)
  refine Zd rfl (Zn (l := pkT 0 0 zS (.slice none 0 0) (.slice none 0 0)) Tryz.zeroValue27 rfl fun b18 => ?_)
  refine Zd rfl (Zi 0 (vs := cs17) (l := cs17) Zt rfl rfl rfl rfl (Zv hE17) (RT_ok hE17) (spl_a (n := 36) rfl (Zv hE17)) ?_)
  refine Zb ?_
  refine Zg (Zc ?_)
  refine Za (v := .func (.func g) ⟨fs⟩ ⟨cv⟩) rfl (Pu.move rfl) ?_
  refine Zd rfl (Zj Zt rfl (At.bx 1 rfl) (Zy (Zv hE15)) ?_)
  refine Zd rfl (Zj Zt rfl (At.bx 0 rfl) (Zy (Zv hE17)) ?_)
  refine Zk rfl hcall rfl (fun hin => hg _ (List.getElem_mem h14n) _ (List.getElem_mem (by omega)) _ _ _ (Hle.hu _ _) (RT.mono (Hle.hu _ _) hE15) (RT.mono (Hle.hu _ _) hE17)) rfl ?_
  rintro _ _ ⟨rfl, rfl⟩
  refine Za (v := .bool (!(decide ((l[j]) = (m[j]))))) rfl (Pu.not rfl) ?_
  refine Zb ?_
  refine Zl (b := !(decide ((l[j]) = (m[j])))) rfl (fun h19 => ?_) (fun h19 => ?_)
  ·replace h19 := nt h19
   replace h19 := df h19
   refine Zg (Zc ?_)
   refine Za (v := .bool false) rfl (Pu.assign rfl) ?_
   refine Zb ?_
   refine Zo ?_
   refine ⟨.bool false, [], Ret.one rfl (RV.tmp rfl), Sub.nil, ?_⟩
   exact ⟨by rw [decide_eq_false]; intro e; subst e; exact h19 rfl, rfl⟩
  replace h19 := nf h19
  replace h19 := dt h19
  refine Zq ?_
  refine Zc ?_
  refine Za (v := .int .i64 (((j + 1 : Nat) : Int))) rfl (Pu.inc rfl rfl (by omega)) ?_
  refine Za (v := .int .i64 (((j + 1 : Nat) : Int))) rfl (Pu.move rfl) ?_
  refine Zb ?_
  refine ⟨_, ?_, (j + 1), rfl, rfl, rfl, rfl, rfl, rfl, Sub.nil, ?_, ?_, ?_, rfl⟩
  ·omega
  ·omega
  ·assumption
  rw [List.take_succ_eq_append_getElem h14n, List.take_succ_eq_append_getElem (by omega), htake, h19]
 replace h14 := df h14
 have h14n : l.length ≤ j := by omega
 refine J_exit _ rfl ?_
 refine Zg (Zc ?_)
 refine Za (v := .bool true) rfl (Pu.assign rfl) ?_
 refine Zb ?_
 refine Zo ?_
 refine ⟨.bool true, [], Ret.one rfl (RV.tmp rfl), Sub.nil, ?_⟩
 exact ⟨by rw [decide_eq_true]; have e := htake; rw [List.take_of_length_le h14n, List.take_of_length_le (by omega)] at e; exact e, rfl⟩
theorem eqFuncC_ct (g : Nat) (fs cv : List Value) (hcall : ∀ args w, (callFunc g args).run Tryz.prog w = .ok (.enter g args) w) (l m : List (Pt × Tm)) (v u : Value) (H : Heap) (hl : rdS RC 71 H v l) (hm : rdS RC 71 H u m) (hg : ∀ x ∈ l, ∀ y ∈ m, ∀ a b h, Hle H h → RC h a x → RC h b y → CT Tryz.prog g ⟨fs ++ [.agg ⟨a⟩, .agg ⟨b⟩] ++ cv⟩ [] h (fun v N => v = .bool (decide (x = y)) ∧ N = [])) : CT Tryz.prog 59 ⟨[v, u, .func (.func g) ⟨fs⟩ ⟨cv⟩]⟩ [] H (fun v N => v = .bool (decide (l = m)) ∧ N = []) := by
 refine Zr Tryz.func59 rfl rfl ?_
 refine Zg (Zc ?_)
 refine Za (v := .bool false) rfl (Pu.assign rfl) ?_
 refine Zb ?_
 refine Zg ?_
 refine Zg (Zc ?_)
 refine Za (v := v) rfl (Pu.move rfl) ?_
 obtain ⟨a1, cap1, hv1⟩ := hl.sl
 have hle1 := hl.le
 refine Za (v := .int .i64 ((l.length : Int))) rfl (Pu.lenSl Tryz.runUnderlying25 hv1) ?_
 refine Za (v := u) rfl (Pu.move rfl) ?_
 obtain ⟨a2, cap2, hv2⟩ := hm.sl
 have hle2 := hm.le
 refine Za (v := .int .i64 ((m.length : Int))) rfl (Pu.lenSl Tryz.runUnderlying25 hv2) ?_
 refine Za (v := .bool (!decide ((l.length : Int) = (m.length : Int)))) rfl (Pu.neq rfl rfl) ?_
 refine Zb ?_
 refine Zl (b := !decide ((l.length : Int) = (m.length : Int))) rfl (fun h3 => ?_) (fun h3 => ?_)
 ·replace h3 := nt h3
  replace h3 := df h3
  refine Zg (Zc ?_)
  refine Za (v := .bool false) rfl (Pu.assign rfl) ?_
  refine Zb ?_
  refine Zo ?_
  refine ⟨.bool false, [], Ret.one rfl (RV.tmp rfl), Sub.nil, ?_⟩
  exact ⟨by rw [decide_eq_false]; intro e; subst e; exact h3 rfl, rfl⟩
 replace h3 := nf h3
 replace h3 := dt h3
 refine Zq ?_
 refine Zg ?_
 refine Zg (Zc ?_)
 refine Za (v := v) rfl (Pu.move rfl) ?_
 obtain ⟨a4, cap4, hv4⟩ := hl.sl
 have hle4 := hl.le
 refine Za (v := .int .i64 ((l.length : Int))) rfl (Pu.lenSl Tryz.runUnderlying25 hv4) ?_
 refine Za (v := .int .i64 0) rfl (Pu.move rfl) ?_
 refine Zb ?_
 refine Zs ?_
 refine J_loop (fun k ρ M => ∃ (j : Nat), ρ 1 = u ∧ ρ 2 = .func (.func g) ⟨fs⟩ ⟨cv⟩ ∧ ρ 6 = .bool false ∧ ρ 15 = v ∧ ρ 16 = .int .i64 ((l.length : Int)) ∧ ρ 17 = .int .i64 ((j : Int)) ∧ Sub [] M ∧ j ≤ l.length ∧ l.length = m.length ∧ l.take j = m.take j ∧ k = l.length - j) _ ⟨0, rfl, rfl, rfl, rfl, rfl, rfl, Sub.nil, Nat.zero_le _, (by omega), rfl, rfl⟩ ?_
 rintro _ ρ5 _ ⟨j, e6, e7, e8, e9, e10, e11, hm12, hj, hlen, htake, rfl⟩
 obtain ⟨ρ13, rfl⟩ := Ze (uc e6 (uc e7 (uc e8 (uc e9 (uc e10 (uc e11 un))))))
 clear e6 e7 e8 e9 e10 e11
 refine J_sub hm12 ?_
 refine Zg (Zc ?_)
 refine Za (v := .bool (decide ((j : Int) < (l.length : Int)))) rfl (Pu.lss rfl rfl) ?_
 refine Zb ?_
 refine Zg ?_
 refine Zl (b := decide ((j : Int) < (l.length : Int))) rfl (fun h14 => ?_) (fun h14 => ?_)
 ·replace h14 := dt h14
  have h14n : j < l.length := by omega
  have hlenl := hl.le
  have hltm : j < m.length := by omega
  refine Zq ?_
  refine Zg ?_
  refine Zs ?_
  refine Zg (Zc ?_)
  refine Za (v := .int .i64 ((j : Int))) rfl (Pu.move rfl) ?_
  obtain ⟨b15, o15, cap15, row15, T15, fr15, cs15, hv15, hb15, hs15, hE15⟩ := hl.get j (by first | assumption | omega | decide | simp)
  obtain ⟨ca15, cb15, rfl, hA15, hB15⟩ := hE15
  refine Za (v := .pointer (some ⟨b15, o15 + j * 71, none⟩)) rfl (Pu.idx j Tryz.runUnderlying25 ty34 hv15 rfl rfl (by first | assumption | omega | decide | simp)) ?_
  refine Zd rfl (Zj ty34 rfl (At.im hb15) hs15 ?_)
  refine Zd rfl (Zn (l := (pkP 0 0 zS (.slice none 0 0)) ++ (pkT 0 0 zS (.slice none 0 0) (.slice none 0 0))) Tryz.zeroValue34 rfl fun b16 => ?_)
  refine Za (v := .int .i64 ((j : Int))) rfl (Pu.assign rfl) ?_
  refine Zd rfl (Zi 0 (vs := ca15 ++ cb15) (l := ca15 ++ cb15) ty34 rfl rfl rfl rfl (len_app (RP_len hA15) (Zv hB15)) (okc_app (RP_ok hA15) (RT_ok hB15)) (spl_a (n := 71) rfl (len_app (RP_len hA15) (Zv hB15))) ?_)
  refine Zb ?_
  refine Zg (Zc ?_)
  refine Za (v := u) rfl (Pu.move rfl) ?_
  refine Za (v := .int .i64 ((j : Int))) rfl (Pu.move rfl) ?_
  obtain ⟨b17, o17, cap17, row17, T17, fr17, cs17, hv17, hb17, hs17, hE17⟩ := hm.get j (by first | assumption | omega | decide | simp)
  obtain ⟨ca17, cb17, rfl, hA17, hB17⟩ := hE17
  refine Za (v := .pointer (some ⟨b17, o17 + j * 71, none⟩)) rfl (Pu.idx j Tryz.runUnderlying25 ty34 hv17 rfl rfl (by first | assumption | omega | decide | simp)) ?_
  refine Zd rfl (Zj ty34 rfl (At.im hb17) hs17 ?_)
  refine Zd rfl (Zn (l := (pkP 0 0 zS (.slice none 0 0)) ++ (pkT 0 0 zS (.slice none 0 0) (.slice none 0 0))) Tryz.zeroValue34 rfl fun b18 => ?_)
  refine Zd rfl (Zi 0 (vs := ca17 ++ cb17) (l := ca17 ++ cb17) ty34 rfl rfl rfl rfl (len_app (RP_len hA17) (Zv hB17)) (okc_app (RP_ok hA17) (RT_ok hB17)) (spl_a (n := 71) rfl (len_app (RP_len hA17) (Zv hB17))) ?_)
  refine Zb ?_
  refine Zg (Zc ?_)
  refine Za (v := .func (.func g) ⟨fs⟩ ⟨cv⟩) rfl (Pu.move rfl) ?_
  refine Zd rfl (Zj ty34 rfl (At.bx 1 rfl) (Zy (len_app (RP_len hA15) (Zv hB15))) ?_)
  refine Zd rfl (Zj ty34 rfl (At.bx 0 rfl) (Zy (len_app (RP_len hA17) (Zv hB17))) ?_)
  refine Zk rfl hcall rfl (fun hin => hg _ (List.getElem_mem h14n) _ (List.getElem_mem (by omega)) _ _ _ (Hle.hu _ _) (RC.mono (Hle.hu _ _) (RC_mk hA15 hB15)) (RC.mono (Hle.hu _ _) (RC_mk hA17 hB17))) rfl ?_
  rintro _ _ ⟨rfl, rfl⟩
  refine Za (v := .bool (!(decide ((l[j]) = (m[j]))))) rfl (Pu.not rfl) ?_
  refine Zb ?_
  refine Zl (b := !(decide ((l[j]) = (m[j])))) rfl (fun h19 => ?_) (fun h19 => ?_)
  ·replace h19 := nt h19
   replace h19 := df h19
   refine Zg (Zc ?_)
   refine Za (v := .bool false) rfl (Pu.assign rfl) ?_
   refine Zb ?_
   refine Zo ?_
   refine ⟨.bool false, [], Ret.one rfl (RV.tmp rfl), Sub.nil, ?_⟩
   exact ⟨by rw [decide_eq_false]; intro e; subst e; exact h19 rfl, rfl⟩
  replace h19 := nf h19
  replace h19 := dt h19
  refine Zq ?_
  refine Zc ?_
  refine Za (v := .int .i64 (((j + 1 : Nat) : Int))) rfl (Pu.inc rfl rfl (by omega)) ?_
  refine Za (v := .int .i64 (((j + 1 : Nat) : Int))) rfl (Pu.move rfl) ?_
  refine Zb ?_
  refine ⟨_, ?_, (j + 1), rfl, rfl, rfl, rfl, rfl, rfl, Sub.nil, ?_, ?_, ?_, rfl⟩
  ·omega
  ·omega
  ·assumption
  rw [List.take_succ_eq_append_getElem h14n, List.take_succ_eq_append_getElem (by omega), htake, h19]
 replace h14 := df h14
 have h14n : l.length ≤ j := by omega
 refine J_exit _ rfl ?_
 refine Zg (Zc ?_)
 refine Za (v := .bool true) rfl (Pu.assign rfl) ?_
 refine Zb ?_
 refine Zo ?_
 refine ⟨.bool true, [], Ret.one rfl (RV.tmp rfl), Sub.nil, ?_⟩
 exact ⟨by rw [decide_eq_true]; have e := htake; rw [List.take_of_length_le h14n, List.take_of_length_le (by omega)] at e; exact e, rfl⟩
theorem samePattern_ct : ∀ (p q : Pt) (cs ds : List Value) (H : Heap), RP H cs p → RP H ds q → CT Tryz.prog 25 ⟨[.agg ⟨cs⟩, .agg ⟨ds⟩]⟩ [] H (fun v N => v = .bool (decide (p = q)) ∧ N = []) := by
 intro p
 induction p using Pt.ind with
 | h kind num ref kids ih =>
 intro q cs ds H hp hq
 obtain ⟨ks, rfl, hk, hn, hks⟩ := RP_mk.1 hp
 obtain ⟨ksq, rfl, hkq, hnq, hksq⟩ := RP_open hq
 refine Zr Tryz.func25 rfl rfl ?_
 refine Zg (Zc ?_)
 refine Zd rfl (Zx (l := pkP kind num ref ks) rfl rfl fun b1 => ?_)
 refine Zd rfl (Zx (l := pkP (q.kind) (q.num) (q.ref) ksq) rfl rfl fun b2 => ?_)
 refine Za (v := .bool false) rfl (Pu.assign rfl) ?_
 refine Zb ?_
 refine J_cut (fun ρ M => ρ 4 = .bool ((((decide (kind = q.kind)) && (decide (num = q.num))) && (decide (ref = q.ref))) && (decide (kids = (q.kids)))) ∧ M = [[(b2, .cells ⟨pkP (q.kind) (q.num) (q.ref) ksq⟩ 30 (0, 0))], [(b1, .cells ⟨pkP kind num ref ks⟩ 30 (0, 0))]]) ?_ ?_
 ·refine Zc ?_
  refine Za (v := .pointer (some ⟨b1, 0, none⟩)) rfl (fa30_0 rfl rfl) ?_
  refine Zd rfl (Zh ty3 rfl (At.bx 1 rfl) (pkP_0 ..) ?_)
  refine Za (v := .pointer (some ⟨b2, 0, none⟩)) rfl (fa30_0 rfl rfl) ?_
  refine Zd rfl (Zh ty3 rfl (At.bx 0 rfl) (pkP_0 ..) ?_)
  refine Za (v := .bool (decide (kind = q.kind))) rfl (Pu.eql rfl rfl) ?_
  refine Za (v := .bool (decide (kind = q.kind))) rfl (Pu.move rfl) ?_
  cases h3 : (decide (kind = q.kind)) with
  | true =>
   replace h3 := dt h3
   refine Za (v := .pointer (some ⟨b1, 1, none⟩)) rfl (fa30_1 rfl rfl) ?_
   refine Zd rfl (Zh ty3 rfl (At.bx 1 rfl) (pkP_1 ..) ?_)
   refine Za (v := .pointer (some ⟨b2, 1, none⟩)) rfl (fa30_1 rfl rfl) ?_
   refine Zd rfl (Zh ty3 rfl (At.bx 0 rfl) (pkP_1 ..) ?_)
   refine Za (v := .bool (decide (num = q.num))) rfl (Pu.eql rfl rfl) ?_
   refine Za (v := .bool (decide (num = q.num))) rfl (Pu.pickT rfl rfl) ?_
   refine Za (v := .bool (decide (num = q.num))) rfl (Pu.move rfl) ?_
   cases h4 : (decide (num = q.num)) with
   | true =>
    replace h4 := dt h4
    refine Za (v := .pointer (some ⟨b1, 2, none⟩)) rfl (fa30_2 rfl rfl) ?_
    refine Zd rfl (Zj ty23 rfl (At.bx 1 rfl) (pkP_2 ..) ?_)
    refine Za (v := .pointer (some ⟨b2, 2, none⟩)) rfl (fa30_2 rfl rfl) ?_
    refine Zd rfl (Zj ty23 rfl (At.bx 0 rfl) (pkP_2 ..) ?_)
    refine Za (v := .bool (decide (ref = q.ref))) rfl (eqS rfl rfl) ?_
    refine Za (v := .bool (decide (ref = q.ref))) rfl (Pu.pickT rfl rfl) ?_
    refine Za (v := .bool (decide (ref = q.ref))) rfl (Pu.move rfl) ?_
    cases h5 : (decide (ref = q.ref)) with
    | true =>
     replace h5 := dt h5
     refine Za (v := .pointer (some ⟨b1, 34, none⟩)) rfl (fa30_3 rfl rfl) ?_
     refine Zd rfl (Zh ty28 rfl (At.bx 1 rfl) (pkP_34 ..) ?_)
     refine Za (v := .pointer (some ⟨b2, 34, none⟩)) rfl (fa30_3 rfl rfl) ?_
     refine Zd rfl (Zh ty28 rfl (At.bx 0 rfl) (pkP_34 ..) ?_)
     refine Zk rfl Tryz.call65 rfl (fun hin => eqFuncP_ct 25 [] [] (fun _ _ => rfl) _ _ _ _ _ (RPs.mono (Hle.hu _ _) hks) (RPs.mono (Hle.hu _ _) hksq) (fun x hx y hy a b h hh ra rb => ih x hx y a b h ra rb)) rfl ?_
     rintro _ _ ⟨rfl, rfl⟩
     refine Za (v := .bool (decide (kids = (q.kids)))) rfl (Pu.pickT rfl rfl) ?_
     refine Za (v := .bool (decide (kids = (q.kids)))) rfl (Pu.assign rfl) ?_
     refine Zb ?_
     first | exact ⟨rfl, rfl⟩ | (exfalso; omega)
    | false =>
     replace h5 := df h5
     refine Zf rfl ?_
     refine Zf rfl ?_
     refine Zf rfl ?_
     refine Zf rfl ?_
     refine Zf rfl ?_
     refine Za (v := .bool false) rfl (Pu.pickF rfl rfl) ?_
     refine Za (v := .bool false) rfl (Pu.assign rfl) ?_
     refine Zb ?_
     first | exact ⟨rfl, rfl⟩ | (exfalso; omega)
   | false =>
    replace h4 := df h4
    refine Zf rfl ?_
    refine Zf rfl ?_
    refine Zf rfl ?_
    refine Zf rfl ?_
    refine Zf rfl ?_
    refine Za (v := .bool false) rfl (Pu.pickF rfl rfl) ?_
    refine Za (v := .bool false) rfl (Pu.move rfl) ?_
    refine Zf rfl ?_
    refine Zf rfl ?_
    refine Zf rfl ?_
    refine Zf rfl ?_
    refine Zf rfl ?_
    refine Za (v := .bool false) rfl (Pu.pickF rfl rfl) ?_
    refine Za (v := .bool false) rfl (Pu.assign rfl) ?_
    refine Zb ?_
    first | exact ⟨rfl, rfl⟩ | (exfalso; omega)
  | false =>
   replace h3 := df h3
   refine Zf rfl ?_
   refine Zf rfl ?_
   refine Zf rfl ?_
   refine Zf rfl ?_
   refine Zf rfl ?_
   refine Za (v := .bool false) rfl (Pu.pickF rfl rfl) ?_
   refine Za (v := .bool false) rfl (Pu.move rfl) ?_
   refine Zf rfl ?_
   refine Zf rfl ?_
   refine Zf rfl ?_
   refine Zf rfl ?_
   refine Zf rfl ?_
   refine Za (v := .bool false) rfl (Pu.pickF rfl rfl) ?_
   refine Za (v := .bool false) rfl (Pu.move rfl) ?_
   refine Zf rfl ?_
   refine Zf rfl ?_
   refine Zf rfl ?_
   refine Zf rfl ?_
   refine Zf rfl ?_
   refine Za (v := .bool false) rfl (Pu.pickF rfl rfl) ?_
   refine Za (v := .bool false) rfl (Pu.assign rfl) ?_
   refine Zb ?_
   first | exact ⟨rfl, rfl⟩ | (exfalso; omega)
 rintro ρ6 _ ⟨e7, rfl⟩
 obtain ⟨ρ8, rfl⟩ := Ze (uc e7 un)
 clear e7
 refine Zo ?_
 refine ⟨.bool ((((decide (kind = q.kind)) && (decide (num = q.num))) && (decide (ref = q.ref))) && (decide (kids = (q.kids)))), [], Ret.one rfl (RV.tmp rfl), Sub.nil, ?_⟩
 exact ⟨congrArg Value.bool (eqPd ..), rfl⟩
theorem sameCase_ct : ∀ (c d : Pt × Tm) (a b : List Value) (H : Heap), RC H a c → RC H b d → (∀ h a b, Hle H h → RT h a c.2 → RT h b d.2 → CT Tryz.prog 24 ⟨[.agg ⟨a⟩, .agg ⟨b⟩]⟩ [] h (fun v N => v = .bool (decide (c.2 = d.2)) ∧ N = [])) → CT Tryz.prog 64 ⟨[.agg ⟨a⟩, .agg ⟨b⟩]⟩ [] H (fun v N => v = .bool (decide (c = d)) ∧ N = []) := by
 intro c d a b H ⟨ca, cb, e1, ra1, ra2⟩ ⟨da, db, e2, rb1, rb2⟩ hg
 subst e1 e2
 refine Zr Tryz.func64 rfl rfl ?_
 refine Zg (Zc ?_)
 refine Zd rfl (Zx (l := ca ++ cb) rfl rfl fun b1 => ?_)
 refine Zd rfl (Zx (l := da ++ db) rfl rfl fun b2 => ?_)
 refine Za (v := .bool false) rfl (Pu.assign rfl) ?_
 refine Zb ?_
 refine J_cut (fun ρ M => ρ 4 = .bool ((decide ((c.1) = (d.1))) && (decide ((c.2) = (d.2)))) ∧ M = [[(b2, .cells ⟨da ++ db⟩ 34 (0, 0))], [(b1, .cells ⟨ca ++ cb⟩ 34 (0, 0))]]) ?_ ?_
 ·refine Zc ?_
  refine Za (v := .pointer (some ⟨b1, 0, none⟩)) rfl (fa34_0 rfl rfl) ?_
  refine Zd rfl (Zj ty30 rfl (At.bx 1 rfl) (sub_l (RP_len ra1)) ?_)
  refine Za (v := .pointer (some ⟨b2, 0, none⟩)) rfl (fa34_0 rfl rfl) ?_
  refine Zd rfl (Zj ty30 rfl (At.bx 0 rfl) (sub_l (RP_len rb1)) ?_)
  refine Zk rfl Tryz.call25 rfl (fun hin => samePattern_ct _ _ _ _ _ (RP.mono (Hle.hu _ _) ra1) (RP.mono (Hle.hu _ _) rb1)) rfl ?_
  rintro _ _ ⟨rfl, rfl⟩
  refine Za (v := .bool (decide ((c.1) = (d.1)))) rfl (Pu.move rfl) ?_
  cases h3 : (decide ((c.1) = (d.1))) with
  | true =>
   replace h3 := dt h3
   refine Za (v := .pointer (some ⟨b1, 35, none⟩)) rfl (fa34_1 rfl rfl) ?_
   refine Zd rfl (Zj Zt rfl (At.bx 1 rfl) (sub_r (RP_len ra1) (Zv ra2)) ?_)
   refine Za (v := .pointer (some ⟨b2, 35, none⟩)) rfl (fa34_1 rfl rfl) ?_
   refine Zd rfl (Zj Zt rfl (At.bx 0 rfl) (sub_r (RP_len rb1) (Zv rb2)) ?_)
   refine Zk rfl Tryz.call24 rfl (fun hin => hg _ _ _ (Hle.hu _ _) (RT.mono (Hle.hu _ _) ra2) (RT.mono (Hle.hu _ _) rb2)) rfl ?_
   rintro _ _ ⟨rfl, rfl⟩
   refine Za (v := .bool (decide ((c.2) = (d.2)))) rfl (Pu.pickT rfl rfl) ?_
   refine Za (v := .bool (decide ((c.2) = (d.2)))) rfl (Pu.assign rfl) ?_
   refine Zb ?_
   first | exact ⟨rfl, rfl⟩ | (exfalso; omega)
  | false =>
   replace h3 := df h3
   refine Zf rfl ?_
   refine Zf rfl ?_
   refine Zf rfl ?_
   refine Zf rfl ?_
   refine Zf rfl ?_
   refine Za (v := .bool false) rfl (Pu.pickF rfl rfl) ?_
   refine Za (v := .bool false) rfl (Pu.assign rfl) ?_
   refine Zb ?_
   first | exact ⟨rfl, rfl⟩ | (exfalso; omega)
 rintro ρ4 _ ⟨e5, rfl⟩
 obtain ⟨ρ6, rfl⟩ := Ze (uc e5 un)
 clear e5
 refine Zo ?_
 refine ⟨.bool ((decide ((c.1) = (d.1))) && (decide ((c.2) = (d.2)))), [], Ret.one rfl (RV.tmp rfl), Sub.nil, ?_⟩
 exact ⟨by obtain ⟨c1, c2⟩ := c; obtain ⟨d1, d2⟩ := d; refine congrArg Value.bool ?_; rw [Bool.eq_iff_iff]; simp, rfl⟩
theorem sameTerms_ct : ∀ (l m : List Tm) (v u : Value) (H : Heap) (_ : rdS RT 36 H v l) (_ : rdS RT 36 H u m) (_ : ∀ x ∈ l, ∀ y a b h, Hle H h → RT h a x → RT h b y → CT Tryz.prog 24 ⟨[.agg ⟨a⟩, .agg ⟨b⟩]⟩ [] h (fun v N => v = .bool (decide (x = y)) ∧ N = [])), CT Tryz.prog 63 ⟨[v, u]⟩ [] H (fun v N => v = .bool (decide (l = m)) ∧ N = []) := by
 intro l m v u H hl hm hg
 refine Zr Tryz.func63 rfl rfl ?_
 refine Zg (Zc ?_)
 refine Za (v := .bool false) rfl (Pu.assign rfl) ?_
 refine Zb ?_
 refine Zg (Zc ?_)
 refine Za (v := v) rfl (Pu.move rfl) ?_
 refine Za (v := u) rfl (Pu.move rfl) ?_
 refine Zk rfl Tryz.call58 rfl (fun hin => eqFuncT_ct 24 [] [] (fun _ _ => rfl) _ _ _ _ _ (RTs.mono (Hle.hu _ _) hl) (RTs.mono (Hle.hu _ _) hm) (fun x hx y hy a b h hh ra rb => hg x hx y a b h (Hle.trans (Hle.hu _ _) hh) ra rb)) rfl ?_
 rintro _ _ ⟨rfl, rfl⟩
 refine Za (v := .bool (decide (l = m))) rfl (Pu.assign rfl) ?_
 refine Zb ?_
 refine Zo ?_
 refine ⟨.bool (decide (l = m)), [], Ret.one rfl (RV.tmp rfl), Sub.nil, ?_⟩
 exact ⟨rfl, rfl⟩
theorem sameTerm_ct : ∀ (t u : Tm) (cs ds : List Value) (H : Heap), RT H cs t → RT H ds u → CT Tryz.prog 24 ⟨[.agg ⟨cs⟩, .agg ⟨ds⟩]⟩ [] H (fun v N => v = .bool (decide (t = u)) ∧ N = []) := by
 intro t
 induction t using Tm.ind with
 | h kind num ref kids cases ih ih' =>
 intro u cs ds H ht hu
 obtain ⟨ks, cv, rfl, hk, hn, hks, hcv⟩ := RT_mk.1 ht
 obtain ⟨ksu, cvu, rfl, hku, hnu, hksu, hcvu⟩ := RT_open hu
 refine Zr Tryz.func24 rfl rfl ?_
 refine Zg (Zc ?_)
 refine Zd rfl (Zx (l := pkT kind num ref ks cv) rfl rfl fun b1 => ?_)
 refine Zd rfl (Zx (l := pkT (u.kind) (u.num) (u.ref) ksu cvu) rfl rfl fun b2 => ?_)
 refine Za (v := .bool false) rfl (Pu.assign rfl) ?_
 refine Zb ?_
 refine J_cut (fun ρ M => ρ 4 = .bool (((((decide (kind = u.kind)) && (decide (num = u.num))) && (decide (ref = u.ref))) && (decide (kids = (u.kids)))) && (decide (cases = (u.cases)))) ∧ M = [[(b2, .cells ⟨pkT (u.kind) (u.num) (u.ref) ksu cvu⟩ 27 (0, 0))], [(b1, .cells ⟨pkT kind num ref ks cv⟩ 27 (0, 0))]]) ?_ ?_
 ·refine Zc ?_
  refine Za (v := .pointer (some ⟨b1, 0, none⟩)) rfl (fa27_0 rfl rfl) ?_
  refine Zd rfl (Zh ty3 rfl (At.bx 1 rfl) (pkT_0 ..) ?_)
  refine Za (v := .pointer (some ⟨b2, 0, none⟩)) rfl (fa27_0 rfl rfl) ?_
  refine Zd rfl (Zh ty3 rfl (At.bx 0 rfl) (pkT_0 ..) ?_)
  refine Za (v := .bool (decide (kind = u.kind))) rfl (Pu.eql rfl rfl) ?_
  refine Za (v := .bool (decide (kind = u.kind))) rfl (Pu.move rfl) ?_
  cases h3 : (decide (kind = u.kind)) with
  | true =>
   replace h3 := dt h3
   refine Za (v := .pointer (some ⟨b1, 1, none⟩)) rfl (fa27_1 rfl rfl) ?_
   refine Zd rfl (Zh ty3 rfl (At.bx 1 rfl) (pkT_1 ..) ?_)
   refine Za (v := .pointer (some ⟨b2, 1, none⟩)) rfl (fa27_1 rfl rfl) ?_
   refine Zd rfl (Zh ty3 rfl (At.bx 0 rfl) (pkT_1 ..) ?_)
   refine Za (v := .bool (decide (num = u.num))) rfl (Pu.eql rfl rfl) ?_
   refine Za (v := .bool (decide (num = u.num))) rfl (Pu.pickT rfl rfl) ?_
   refine Za (v := .bool (decide (num = u.num))) rfl (Pu.move rfl) ?_
   cases h4 : (decide (num = u.num)) with
   | true =>
    replace h4 := dt h4
    refine Za (v := .pointer (some ⟨b1, 2, none⟩)) rfl (fa27_2 rfl rfl) ?_
    refine Zd rfl (Zj ty23 rfl (At.bx 1 rfl) (pkT_2 ..) ?_)
    refine Za (v := .pointer (some ⟨b2, 2, none⟩)) rfl (fa27_2 rfl rfl) ?_
    refine Zd rfl (Zj ty23 rfl (At.bx 0 rfl) (pkT_2 ..) ?_)
    refine Za (v := .bool (decide (ref = u.ref))) rfl (eqS rfl rfl) ?_
    refine Za (v := .bool (decide (ref = u.ref))) rfl (Pu.pickT rfl rfl) ?_
    refine Za (v := .bool (decide (ref = u.ref))) rfl (Pu.move rfl) ?_
    cases h5 : (decide (ref = u.ref)) with
    | true =>
     replace h5 := dt h5
     refine Za (v := .pointer (some ⟨b1, 34, none⟩)) rfl (fa27_3 rfl rfl) ?_
     refine Zd rfl (Zh ty24 rfl (At.bx 1 rfl) (pkT_34 ..) ?_)
     refine Za (v := .pointer (some ⟨b2, 34, none⟩)) rfl (fa27_3 rfl rfl) ?_
     refine Zd rfl (Zh ty24 rfl (At.bx 0 rfl) (pkT_34 ..) ?_)
     refine Zk rfl Tryz.call63 rfl (fun hin => sameTerms_ct _ _ _ _ _ (RTs.mono (Hle.hu _ _) hks) (RTs.mono (Hle.hu _ _) hksu) (fun x hx y a b h _ ra rb => ih x hx y a b h ra rb)) rfl ?_
     rintro _ _ ⟨rfl, rfl⟩
     refine Za (v := .bool (decide (kids = (u.kids)))) rfl (Pu.pickT rfl rfl) ?_
     refine Za (v := .bool (decide (kids = (u.kids)))) rfl (Pu.move rfl) ?_
     cases h6 : (decide (kids = (u.kids))) with
     | true =>
      replace h6 := dt h6
      refine Za (v := .pointer (some ⟨b1, 35, none⟩)) rfl (fa27_4 rfl rfl) ?_
      refine Zd rfl (Zh ty25 rfl (At.bx 1 rfl) (pkT_35 ..) ?_)
      refine Za (v := .pointer (some ⟨b2, 35, none⟩)) rfl (fa27_4 rfl rfl) ?_
      refine Zd rfl (Zh ty25 rfl (At.bx 0 rfl) (pkT_35 ..) ?_)
      refine Zk rfl Tryz.call59 rfl (fun hin => eqFuncC_ct 64 [] [] (fun _ _ => rfl) _ _ _ _ _ (RCs.mono (Hle.hu _ _) hcv) (RCs.mono (Hle.hu _ _) hcvu) (fun x hx y hy a b h hh ra rb => sameCase_ct x y a b h ra rb (fun h' a' b' _ r1 r2 => ih' x hx y.2 a' b' h' r1 r2))) rfl ?_
      rintro _ _ ⟨rfl, rfl⟩
      refine Za (v := .bool (decide (cases = (u.cases)))) rfl (Pu.pickT rfl rfl) ?_
      refine Za (v := .bool (decide (cases = (u.cases)))) rfl (Pu.assign rfl) ?_
      refine Zb ?_
      first | exact ⟨rfl, rfl⟩ | (exfalso; omega)
     | false =>
      replace h6 := df h6
      refine Zf rfl ?_
      refine Zf rfl ?_
      refine Zf rfl ?_
      refine Zf rfl ?_
      refine Zf rfl ?_
      refine Za (v := .bool false) rfl (Pu.pickF rfl rfl) ?_
      refine Za (v := .bool false) rfl (Pu.assign rfl) ?_
      refine Zb ?_
      first | exact ⟨rfl, rfl⟩ | (exfalso; omega)
    | false =>
     replace h5 := df h5
     refine Zf rfl ?_
     refine Zf rfl ?_
     refine Zf rfl ?_
     refine Zf rfl ?_
     refine Zf rfl ?_
     refine Za (v := .bool false) rfl (Pu.pickF rfl rfl) ?_
     refine Za (v := .bool false) rfl (Pu.move rfl) ?_
     refine Zf rfl ?_
     refine Zf rfl ?_
     refine Zf rfl ?_
     refine Zf rfl ?_
     refine Zf rfl ?_
     refine Za (v := .bool false) rfl (Pu.pickF rfl rfl) ?_
     refine Za (v := .bool false) rfl (Pu.assign rfl) ?_
     refine Zb ?_
     first | exact ⟨rfl, rfl⟩ | (exfalso; omega)
   | false =>
    replace h4 := df h4
    refine Zf rfl ?_
    refine Zf rfl ?_
    refine Zf rfl ?_
    refine Zf rfl ?_
    refine Zf rfl ?_
    refine Za (v := .bool false) rfl (Pu.pickF rfl rfl) ?_
    refine Za (v := .bool false) rfl (Pu.move rfl) ?_
    refine Zf rfl ?_
    refine Zf rfl ?_
    refine Zf rfl ?_
    refine Zf rfl ?_
    refine Zf rfl ?_
    refine Za (v := .bool false) rfl (Pu.pickF rfl rfl) ?_
    refine Za (v := .bool false) rfl (Pu.move rfl) ?_
    refine Zf rfl ?_
    refine Zf rfl ?_
    refine Zf rfl ?_
    refine Zf rfl ?_
    refine Zf rfl ?_
    refine Za (v := .bool false) rfl (Pu.pickF rfl rfl) ?_
    refine Za (v := .bool false) rfl (Pu.assign rfl) ?_
    refine Zb ?_
    first | exact ⟨rfl, rfl⟩ | (exfalso; omega)
  | false =>
   replace h3 := df h3
   refine Zf rfl ?_
   refine Zf rfl ?_
   refine Zf rfl ?_
   refine Zf rfl ?_
   refine Zf rfl ?_
   refine Za (v := .bool false) rfl (Pu.pickF rfl rfl) ?_
   refine Za (v := .bool false) rfl (Pu.move rfl) ?_
   refine Zf rfl ?_
   refine Zf rfl ?_
   refine Zf rfl ?_
   refine Zf rfl ?_
   refine Zf rfl ?_
   refine Za (v := .bool false) rfl (Pu.pickF rfl rfl) ?_
   refine Za (v := .bool false) rfl (Pu.move rfl) ?_
   refine Zf rfl ?_
   refine Zf rfl ?_
   refine Zf rfl ?_
   refine Zf rfl ?_
   refine Zf rfl ?_
   refine Za (v := .bool false) rfl (Pu.pickF rfl rfl) ?_
   refine Za (v := .bool false) rfl (Pu.move rfl) ?_
   refine Zf rfl ?_
   refine Zf rfl ?_
   refine Zf rfl ?_
   refine Zf rfl ?_
   refine Zf rfl ?_
   refine Za (v := .bool false) rfl (Pu.pickF rfl rfl) ?_
   refine Za (v := .bool false) rfl (Pu.assign rfl) ?_
   refine Zb ?_
   first | exact ⟨rfl, rfl⟩ | (exfalso; omega)
 rintro ρ7 _ ⟨e8, rfl⟩
 obtain ⟨ρ9, rfl⟩ := Ze (uc e8 un)
 clear e8
 refine Zo ?_
 refine ⟨.bool (((((decide (kind = u.kind)) && (decide (num = u.num))) && (decide (ref = u.ref))) && (decide (kids = (u.kids)))) && (decide (cases = (u.cases)))), [], Ret.one rfl (RV.tmp rfl), Sub.nil, ?_⟩
 exact ⟨congrArg Value.bool (eqTd ..), rfl⟩
end Go.Proofs.YtdeinimmmjichaaGreat.Hs
/-! Walks, printed by a program of this session's own (gen.py). -/
namespace Go.Proofs.YtdeinimmmjichaaGreat.Hs
open Go Go.Proofs
set_option maxRecDepth 100000
set_option linter.unusedVariables false
set_option linter.unusedSimpArgs false
attribute [local irreducible] JL J CT wlo
theorem idxP_ct (g : Nat) (fs cv : List Value) (hcall : ∀ args w, (callFunc g args).run Tryz.prog w = .ok (.enter g args) w) {σ : Type} (Sc : σ → Zm) (Inv : σ → Prop) (step : Pt → σ → Bool × σ) (l : List Pt) (v : Value) (H : Heap) (hl : rdS RP 35 H v l) (s0 : σ) (h0 : Inv s0) (hI : ∀ x ∈ l, ∀ s, Inv s → (step x s).1 = false → Inv (step x s).2) (hg : ∀ x ∈ l, ∀ s, Inv s → ∀ a h, Hle H h → RP h a x → CT Tryz.prog g ⟨fs ++ [.agg ⟨a⟩] ++ cv⟩ [Sc s] h (fun v N => v = .bool (step x s).1 ∧ N = [Sc (step x s).2])) : CT Tryz.prog 73 ⟨[v, .func (.func g) ⟨fs⟩ ⟨cv⟩]⟩ [Sc s0] H (fun v N => v = .int .i64 (idxS step l 0 s0).1 ∧ N = [Sc (idxS step l 0 s0).2]) := by
 refine Zr Tryz.func73 rfl rfl ?_
 refine Zg (Zc ?_)
 refine Za (v := .int .i64 0) rfl (Pu.assign rfl) ?_
 refine Zb ?_
 refine Zg ?_
 refine Zg (Zc ?_)
 refine Za (v := v) rfl (Pu.move rfl) ?_
 obtain ⟨a1, cap1, hv1⟩ := hl.sl
 have hle1 := hl.le
 refine Za (v := .int .i64 ((l.length : Int))) rfl (Pu.lenSl Tryz.runUnderlying28 hv1) ?_
 refine Za (v := .int .i64 0) rfl (Pu.move rfl) ?_
 refine Zb ?_
 refine Zs ?_
 refine J_loop (fun k ρ M => ∃ (j : Nat) (s : σ), ρ 0 = v ∧ ρ 1 = .func (.func g) ⟨fs⟩ ⟨cv⟩ ∧ ρ 4 = .int .i64 0 ∧ ρ 7 = .int .i64 ((l.length : Int)) ∧ ρ 8 = .int .i64 ((j : Int)) ∧ Sub [Sc s] M ∧ j ≤ l.length ∧ Inv s ∧ idxS step (l.drop j) j s = idxS step l 0 s0 ∧ k = l.length - j) _ ⟨0, s0, rfl, rfl, rfl, rfl, rfl, (Sk Sub.nil), Nat.zero_le _, h0, rfl, rfl⟩ ?_
 rintro _ ρ2 _ ⟨j, s, e3, e4, e5, e6, e7, hm8, hj, hs, hinv, rfl⟩
 obtain ⟨ρ9, rfl⟩ := Ze (uc e3 (uc e4 (uc e5 (uc e6 (uc e7 un)))))
 clear e3 e4 e5 e6 e7
 refine J_sub hm8 ?_
 refine Zg (Zc ?_)
 refine Za (v := .bool (decide ((j : Int) < (l.length : Int)))) rfl (Pu.lss rfl rfl) ?_
 refine Zb ?_
 refine Zg ?_
 refine Zl (b := decide ((j : Int) < (l.length : Int))) rfl (fun h10 => ?_) (fun h10 => ?_)
 ·replace h10 := dt h10
  have h10n : j < l.length := by omega
  have hlenl := hl.le
  refine Zq ?_
  refine Zg ?_
  refine Zs ?_
  refine Zg (Zc ?_)
  refine Za (v := .int .i64 ((j : Int))) rfl (Pu.move rfl) ?_
  refine Za (v := .int .i64 ((j : Int))) rfl (Pu.assign rfl) ?_
  refine Zb ?_
  refine Zg (Zc ?_)
  refine Za (v := .func (.func g) ⟨fs⟩ ⟨cv⟩) rfl (Pu.move rfl) ?_
  refine Za (v := v) rfl (Pu.move rfl) ?_
  refine Za (v := .int .i64 ((j : Int))) rfl (Pu.move rfl) ?_
  obtain ⟨b11, o11, cap11, row11, T11, fr11, cs11, hv11, hb11, hs11, hE11⟩ := hl.get j (by first | assumption | omega | decide | simp)
  refine Za (v := .pointer (some ⟨b11, o11 + j * 35, none⟩)) rfl (Pu.idx j Tryz.runUnderlying28 ty30 hv11 rfl rfl (by first | assumption | omega | decide | simp)) ?_
  refine Zd rfl (Zj ty30 rfl (At.im hb11) hs11 ?_)
  refine JL_call1 0 rfl hcall rfl rfl (fun hin => hg _ (List.getElem_mem h10n) _ hs _ _ (Hle.hu _ _) (RP.mono (Hle.hu _ _) hE11)) rfl ?_
  rintro _ _ ⟨rfl, rfl⟩
  refine Zb ?_
  refine Zl (b := (step (l[j]) s).1) rfl (fun h12 => ?_) (fun h12 => ?_)
  ·refine Zg (Zc ?_)
   refine Za (v := .int .i64 ((j : Int))) rfl (Pu.move rfl) ?_
   refine Za (v := .int .i64 ((j : Int))) rfl (Pu.assign rfl) ?_
   refine Zb ?_
   refine Zo ?_
   refine ⟨.int .i64 ((j : Int)), [Sc (step (l[j]) s).2], Ret.one rfl (RV.tmp rfl), (Sk Sub.nil), ?_⟩
   refine ⟨?_, ?_⟩ <;> rw [← hinv, dropc h10n, idxS, if_pos h12]
  refine Zq ?_
  refine Zc ?_
  refine Za (v := .int .i64 (((j + 1 : Nat) : Int))) rfl (Pu.inc rfl rfl (by omega)) ?_
  refine Za (v := .int .i64 (((j + 1 : Nat) : Int))) rfl (Pu.move rfl) ?_
  refine Zb ?_
  refine ⟨_, ?_, (j + 1), ((step (l[j]) s).2), rfl, rfl, rfl, rfl, rfl, (Sk Sub.nil), ?_, ?_, ?_, rfl⟩
  ·omega
  ·omega
  ·exact hI _ (List.getElem_mem h10n) s hs h12
  rw [dropc h10n, idxS, if_neg (by simp [h12])] at hinv; exact hinv
 replace h10 := df h10
 have h10n : l.length ≤ j := by omega
 refine J_exit _ rfl ?_
 refine Zg (Zc ?_)
 refine Za (v := .int .i64 (-1)) rfl (Pu.assign rfl) ?_
 refine Zb ?_
 refine Zo ?_
 refine ⟨.int .i64 (-1), [Sc s], Ret.one rfl (RV.tmp rfl), (Sk Sub.nil), ?_⟩
 refine ⟨?_, ?_⟩ <;> rw [← hinv, dropn h10n] <;> rfl
theorem idxT_ct (g : Nat) (fs cv : List Value) (hcall : ∀ args w, (callFunc g args).run Tryz.prog w = .ok (.enter g args) w) {σ : Type} (Sc : σ → Zm) (Inv : σ → Prop) (step : Tm → σ → Bool × σ) (l : List Tm) (v : Value) (H : Heap) (hl : rdS RT 36 H v l) (s0 : σ) (h0 : Inv s0) (hI : ∀ x ∈ l, ∀ s, Inv s → (step x s).1 = false → Inv (step x s).2) (hg : ∀ x ∈ l, ∀ s, Inv s → ∀ a h, Hle H h → RT h a x → CT Tryz.prog g ⟨fs ++ [.agg ⟨a⟩] ++ cv⟩ [Sc s] h (fun v N => v = .bool (step x s).1 ∧ N = [Sc (step x s).2])) : CT Tryz.prog 74 ⟨[v, .func (.func g) ⟨fs⟩ ⟨cv⟩]⟩ [Sc s0] H (fun v N => v = .int .i64 (idxS step l 0 s0).1 ∧ N = [Sc (idxS step l 0 s0).2]) := by
 refine Zr Tryz.func74 rfl rfl ?_
 refine Zg (Zc ?_)
 refine Za (v := .int .i64 0) rfl (Pu.assign rfl) ?_
 refine Zb ?_
 refine Zg ?_
 refine Zg (Zc ?_)
 refine Za (v := v) rfl (Pu.move rfl) ?_
 obtain ⟨a1, cap1, hv1⟩ := hl.sl
 have hle1 := hl.le
 refine Za (v := .int .i64 ((l.length : Int))) rfl (Pu.lenSl Tryz.runUnderlying24 hv1) ?_
 refine Za (v := .int .i64 0) rfl (Pu.move rfl) ?_
 refine Zb ?_
 refine Zs ?_
 refine J_loop (fun k ρ M => ∃ (j : Nat) (s : σ), ρ 0 = v ∧ ρ 1 = .func (.func g) ⟨fs⟩ ⟨cv⟩ ∧ ρ 4 = .int .i64 0 ∧ ρ 7 = .int .i64 ((l.length : Int)) ∧ ρ 8 = .int .i64 ((j : Int)) ∧ Sub [Sc s] M ∧ j ≤ l.length ∧ Inv s ∧ idxS step (l.drop j) j s = idxS step l 0 s0 ∧ k = l.length - j) _ ⟨0, s0, rfl, rfl, rfl, rfl, rfl, (Sk Sub.nil), Nat.zero_le _, h0, rfl, rfl⟩ ?_
 rintro _ ρ2 _ ⟨j, s, e3, e4, e5, e6, e7, hm8, hj, hs, hinv, rfl⟩
 obtain ⟨ρ9, rfl⟩ := Ze (uc e3 (uc e4 (uc e5 (uc e6 (uc e7 un)))))
 clear e3 e4 e5 e6 e7
 refine J_sub hm8 ?_
 refine Zg (Zc ?_)
 refine Za (v := .bool (decide ((j : Int) < (l.length : Int)))) rfl (Pu.lss rfl rfl) ?_
 refine Zb ?_
 refine Zg ?_
 refine Zl (b := decide ((j : Int) < (l.length : Int))) rfl (fun h10 => ?_) (fun h10 => ?_)
 ·replace h10 := dt h10
  have h10n : j < l.length := by omega
  have hlenl := hl.le
  refine Zq ?_
  refine Zg ?_
  refine Zs ?_
  refine Zg (Zc ?_)
  refine Za (v := .int .i64 ((j : Int))) rfl (Pu.move rfl) ?_
  refine Za (v := .int .i64 ((j : Int))) rfl (Pu.assign rfl) ?_
  refine Zb ?_
  refine Zg (Zc ?_)
  refine Za (v := .func (.func g) ⟨fs⟩ ⟨cv⟩) rfl (Pu.move rfl) ?_
  refine Za (v := v) rfl (Pu.move rfl) ?_
  refine Za (v := .int .i64 ((j : Int))) rfl (Pu.move rfl) ?_
  obtain ⟨b11, o11, cap11, row11, T11, fr11, cs11, hv11, hb11, hs11, hE11⟩ := hl.get j (by first | assumption | omega | decide | simp)
  refine Za (v := .pointer (some ⟨b11, o11 + j * 36, none⟩)) rfl (Pu.idx j Tryz.runUnderlying24 Zt hv11 rfl rfl (by first | assumption | omega | decide | simp)) ?_
  refine Zd rfl (Zj Zt rfl (At.im hb11) hs11 ?_)
  refine JL_call1 0 rfl hcall rfl rfl (fun hin => hg _ (List.getElem_mem h10n) _ hs _ _ (Hle.hu _ _) (RT.mono (Hle.hu _ _) hE11)) rfl ?_
  rintro _ _ ⟨rfl, rfl⟩
  refine Zb ?_
  refine Zl (b := (step (l[j]) s).1) rfl (fun h12 => ?_) (fun h12 => ?_)
  ·refine Zg (Zc ?_)
   refine Za (v := .int .i64 ((j : Int))) rfl (Pu.move rfl) ?_
   refine Za (v := .int .i64 ((j : Int))) rfl (Pu.assign rfl) ?_
   refine Zb ?_
   refine Zo ?_
   refine ⟨.int .i64 ((j : Int)), [Sc (step (l[j]) s).2], Ret.one rfl (RV.tmp rfl), (Sk Sub.nil), ?_⟩
   refine ⟨?_, ?_⟩ <;> rw [← hinv, dropc h10n, idxS, if_pos h12]
  refine Zq ?_
  refine Zc ?_
  refine Za (v := .int .i64 (((j + 1 : Nat) : Int))) rfl (Pu.inc rfl rfl (by omega)) ?_
  refine Za (v := .int .i64 (((j + 1 : Nat) : Int))) rfl (Pu.move rfl) ?_
  refine Zb ?_
  refine ⟨_, ?_, (j + 1), ((step (l[j]) s).2), rfl, rfl, rfl, rfl, rfl, (Sk Sub.nil), ?_, ?_, ?_, rfl⟩
  ·omega
  ·omega
  ·exact hI _ (List.getElem_mem h10n) s hs h12
  rw [dropc h10n, idxS, if_neg (by simp [h12])] at hinv; exact hinv
 replace h10 := df h10
 have h10n : l.length ≤ j := by omega
 refine J_exit _ rfl ?_
 refine Zg (Zc ?_)
 refine Za (v := .int .i64 (-1)) rfl (Pu.assign rfl) ?_
 refine Zb ?_
 refine Zo ?_
 refine ⟨.int .i64 (-1), [Sc s], Ret.one rfl (RV.tmp rfl), (Sk Sub.nil), ?_⟩
 refine ⟨?_, ?_⟩ <;> rw [← hinv, dropn h10n] <;> rfl
theorem idxC_ct (g : Nat) (fs cv : List Value) (hcall : ∀ args w, (callFunc g args).run Tryz.prog w = .ok (.enter g args) w) {σ : Type} (Sc : σ → Zm) (Inv : σ → Prop) (step : (Pt × Tm) → σ → Bool × σ) (l : List (Pt × Tm)) (v : Value) (H : Heap) (hl : rdS RC 71 H v l) (s0 : σ) (h0 : Inv s0) (hI : ∀ x ∈ l, ∀ s, Inv s → (step x s).1 = false → Inv (step x s).2) (hg : ∀ x ∈ l, ∀ s, Inv s → ∀ a h, Hle H h → RC h a x → CT Tryz.prog g ⟨fs ++ [.agg ⟨a⟩] ++ cv⟩ [Sc s] h (fun v N => v = .bool (step x s).1 ∧ N = [Sc (step x s).2])) : CT Tryz.prog 75 ⟨[v, .func (.func g) ⟨fs⟩ ⟨cv⟩]⟩ [Sc s0] H (fun v N => v = .int .i64 (idxS step l 0 s0).1 ∧ N = [Sc (idxS step l 0 s0).2]) := by
 refine Zr Tryz.func75 rfl rfl ?_
 refine Zg (Zc ?_)
 refine Za (v := .int .i64 0) rfl (Pu.assign rfl) ?_
 refine Zb ?_
 refine Zg ?_
 refine Zg (Zc ?_)
 refine Za (v := v) rfl (Pu.move rfl) ?_
 obtain ⟨a1, cap1, hv1⟩ := hl.sl
 have hle1 := hl.le
 refine Za (v := .int .i64 ((l.length : Int))) rfl (Pu.lenSl Tryz.runUnderlying25 hv1) ?_
 refine Za (v := .int .i64 0) rfl (Pu.move rfl) ?_
 refine Zb ?_
 refine Zs ?_
 refine J_loop (fun k ρ M => ∃ (j : Nat) (s : σ), ρ 0 = v ∧ ρ 1 = .func (.func g) ⟨fs⟩ ⟨cv⟩ ∧ ρ 4 = .int .i64 0 ∧ ρ 7 = .int .i64 ((l.length : Int)) ∧ ρ 8 = .int .i64 ((j : Int)) ∧ Sub [Sc s] M ∧ j ≤ l.length ∧ Inv s ∧ idxS step (l.drop j) j s = idxS step l 0 s0 ∧ k = l.length - j) _ ⟨0, s0, rfl, rfl, rfl, rfl, rfl, (Sk Sub.nil), Nat.zero_le _, h0, rfl, rfl⟩ ?_
 rintro _ ρ2 _ ⟨j, s, e3, e4, e5, e6, e7, hm8, hj, hs, hinv, rfl⟩
 obtain ⟨ρ9, rfl⟩ := Ze (uc e3 (uc e4 (uc e5 (uc e6 (uc e7 un)))))
 clear e3 e4 e5 e6 e7
 refine J_sub hm8 ?_
 refine Zg (Zc ?_)
 refine Za (v := .bool (decide ((j : Int) < (l.length : Int)))) rfl (Pu.lss rfl rfl) ?_
 refine Zb ?_
 refine Zg ?_
 refine Zl (b := decide ((j : Int) < (l.length : Int))) rfl (fun h10 => ?_) (fun h10 => ?_)
 ·replace h10 := dt h10
  have h10n : j < l.length := by omega
  have hlenl := hl.le
  refine Zq ?_
  refine Zg ?_
  refine Zs ?_
  refine Zg (Zc ?_)
  refine Za (v := .int .i64 ((j : Int))) rfl (Pu.move rfl) ?_
  refine Za (v := .int .i64 ((j : Int))) rfl (Pu.assign rfl) ?_
  refine Zb ?_
  refine Zg (Zc ?_)
  refine Za (v := .func (.func g) ⟨fs⟩ ⟨cv⟩) rfl (Pu.move rfl) ?_
  refine Za (v := v) rfl (Pu.move rfl) ?_
  refine Za (v := .int .i64 ((j : Int))) rfl (Pu.move rfl) ?_
  obtain ⟨b11, o11, cap11, row11, T11, fr11, cs11, hv11, hb11, hs11, hE11⟩ := hl.get j (by first | assumption | omega | decide | simp)
  obtain ⟨ca11, cb11, rfl, hA11, hB11⟩ := hE11
  refine Za (v := .pointer (some ⟨b11, o11 + j * 71, none⟩)) rfl (Pu.idx j Tryz.runUnderlying25 ty34 hv11 rfl rfl (by first | assumption | omega | decide | simp)) ?_
  refine Zd rfl (Zj ty34 rfl (At.im hb11) hs11 ?_)
  refine JL_call1 0 rfl hcall rfl rfl (fun hin => hg _ (List.getElem_mem h10n) _ hs _ _ (Hle.hu _ _) (RC.mono (Hle.hu _ _) (RC_mk hA11 hB11))) rfl ?_
  rintro _ _ ⟨rfl, rfl⟩
  refine Zb ?_
  refine Zl (b := (step (l[j]) s).1) rfl (fun h12 => ?_) (fun h12 => ?_)
  ·refine Zg (Zc ?_)
   refine Za (v := .int .i64 ((j : Int))) rfl (Pu.move rfl) ?_
   refine Za (v := .int .i64 ((j : Int))) rfl (Pu.assign rfl) ?_
   refine Zb ?_
   refine Zo ?_
   refine ⟨.int .i64 ((j : Int)), [Sc (step (l[j]) s).2], Ret.one rfl (RV.tmp rfl), (Sk Sub.nil), ?_⟩
   refine ⟨?_, ?_⟩ <;> rw [← hinv, dropc h10n, idxS, if_pos h12]
  refine Zq ?_
  refine Zc ?_
  refine Za (v := .int .i64 (((j + 1 : Nat) : Int))) rfl (Pu.inc rfl rfl (by omega)) ?_
  refine Za (v := .int .i64 (((j + 1 : Nat) : Int))) rfl (Pu.move rfl) ?_
  refine Zb ?_
  refine ⟨_, ?_, (j + 1), ((step (l[j]) s).2), rfl, rfl, rfl, rfl, rfl, (Sk Sub.nil), ?_, ?_, ?_, rfl⟩
  ·omega
  ·omega
  ·exact hI _ (List.getElem_mem h10n) s hs h12
  rw [dropc h10n, idxS, if_neg (by simp [h12])] at hinv; exact hinv
 replace h10 := df h10
 have h10n : l.length ≤ j := by omega
 refine J_exit _ rfl ?_
 refine Zg (Zc ?_)
 refine Za (v := .int .i64 (-1)) rfl (Pu.assign rfl) ?_
 refine Zb ?_
 refine Zo ?_
 refine ⟨.int .i64 (-1), [Sc s], Ret.one rfl (RV.tmp rfl), (Sk Sub.nil), ?_⟩
 refine ⟨?_, ?_⟩ <;> rw [← hinv, dropn h10n] <;> rfl
theorem containsP_ct (g : Nat) (fs cv : List Value) (hcall : ∀ args w, (callFunc g args).run Tryz.prog w = .ok (.enter g args) w) {σ : Type} (Sc : σ → Zm) (Inv : σ → Prop) (step : Pt → σ → Bool × σ) (l : List Pt) (v : Value) (H : Heap) (hl : rdS RP 35 H v l) (s0 : σ) (h0 : Inv s0) (hI : ∀ x ∈ l, ∀ s, Inv s → (step x s).1 = false → Inv (step x s).2) (hg : ∀ x ∈ l, ∀ s, Inv s → ∀ a h, Hle H h → RP h a x → CT Tryz.prog g ⟨fs ++ [.agg ⟨a⟩] ++ cv⟩ [Sc s] h (fun v N => v = .bool (step x s).1 ∧ N = [Sc (step x s).2])) : CT Tryz.prog 33 ⟨[v, .func (.func g) ⟨fs⟩ ⟨cv⟩]⟩ [Sc s0] H (fun v N => v = .bool (anyS step l s0).1 ∧ N = [Sc (anyS step l s0).2]) := by
 refine Zr Tryz.func33 rfl rfl ?_
 refine Zg (Zc ?_)
 refine Za (v := .bool false) rfl (Pu.assign rfl) ?_
 refine Zb ?_
 refine Zg (Zc ?_)
 refine Za (v := v) rfl (Pu.move rfl) ?_
 refine Za (v := .func (.func g) ⟨fs⟩ ⟨cv⟩) rfl (Pu.move rfl) ?_
 refine JL_call1 0 rfl Tryz.call73 rfl rfl (fun hin => idxP_ct g fs cv hcall Sc Inv step _ _ _ (RPs.mono (Hle.hu _ _) hl) s0 h0 hI (fun x hx s hs a h hh ra => hg x hx s hs a h (Hle.trans (Hle.hu _ _) hh) ra)) rfl ?_
 rintro _ _ ⟨rfl, rfl⟩
 refine Za (v := .bool (decide (0 ≤ (idxS step l 0 s0).1))) rfl (Pu.geq rfl rfl) ?_
 refine Za (v := .bool (decide (0 ≤ (idxS step l 0 s0).1))) rfl (Pu.assign rfl) ?_
 refine Zb ?_
 refine Zo ?_
 refine ⟨.bool (decide (0 ≤ (idxS step l 0 s0).1)), [Sc (idxS step l 0 s0).2], Ret.one rfl (RV.tmp rfl), (Sk Sub.nil), ?_⟩
 exact ⟨by rw [(idxS_any step l 0 s0).1], by rw [(idxS_any step l 0 s0).2]⟩
theorem containsT_ct (g : Nat) (fs cv : List Value) (hcall : ∀ args w, (callFunc g args).run Tryz.prog w = .ok (.enter g args) w) {σ : Type} (Sc : σ → Zm) (Inv : σ → Prop) (step : Tm → σ → Bool × σ) (l : List Tm) (v : Value) (H : Heap) (hl : rdS RT 36 H v l) (s0 : σ) (h0 : Inv s0) (hI : ∀ x ∈ l, ∀ s, Inv s → (step x s).1 = false → Inv (step x s).2) (hg : ∀ x ∈ l, ∀ s, Inv s → ∀ a h, Hle H h → RT h a x → CT Tryz.prog g ⟨fs ++ [.agg ⟨a⟩] ++ cv⟩ [Sc s] h (fun v N => v = .bool (step x s).1 ∧ N = [Sc (step x s).2])) : CT Tryz.prog 35 ⟨[v, .func (.func g) ⟨fs⟩ ⟨cv⟩]⟩ [Sc s0] H (fun v N => v = .bool (anyS step l s0).1 ∧ N = [Sc (anyS step l s0).2]) := by
 refine Zr Tryz.func35 rfl rfl ?_
 refine Zg (Zc ?_)
 refine Za (v := .bool false) rfl (Pu.assign rfl) ?_
 refine Zb ?_
 refine Zg (Zc ?_)
 refine Za (v := v) rfl (Pu.move rfl) ?_
 refine Za (v := .func (.func g) ⟨fs⟩ ⟨cv⟩) rfl (Pu.move rfl) ?_
 refine JL_call1 0 rfl Tryz.call74 rfl rfl (fun hin => idxT_ct g fs cv hcall Sc Inv step _ _ _ (RTs.mono (Hle.hu _ _) hl) s0 h0 hI (fun x hx s hs a h hh ra => hg x hx s hs a h (Hle.trans (Hle.hu _ _) hh) ra)) rfl ?_
 rintro _ _ ⟨rfl, rfl⟩
 refine Za (v := .bool (decide (0 ≤ (idxS step l 0 s0).1))) rfl (Pu.geq rfl rfl) ?_
 refine Za (v := .bool (decide (0 ≤ (idxS step l 0 s0).1))) rfl (Pu.assign rfl) ?_
 refine Zb ?_
 refine Zo ?_
 refine ⟨.bool (decide (0 ≤ (idxS step l 0 s0).1)), [Sc (idxS step l 0 s0).2], Ret.one rfl (RV.tmp rfl), (Sk Sub.nil), ?_⟩
 exact ⟨by rw [(idxS_any step l 0 s0).1], by rw [(idxS_any step l 0 s0).2]⟩
theorem containsC_ct (g : Nat) (fs cv : List Value) (hcall : ∀ args w, (callFunc g args).run Tryz.prog w = .ok (.enter g args) w) {σ : Type} (Sc : σ → Zm) (Inv : σ → Prop) (step : (Pt × Tm) → σ → Bool × σ) (l : List (Pt × Tm)) (v : Value) (H : Heap) (hl : rdS RC 71 H v l) (s0 : σ) (h0 : Inv s0) (hI : ∀ x ∈ l, ∀ s, Inv s → (step x s).1 = false → Inv (step x s).2) (hg : ∀ x ∈ l, ∀ s, Inv s → ∀ a h, Hle H h → RC h a x → CT Tryz.prog g ⟨fs ++ [.agg ⟨a⟩] ++ cv⟩ [Sc s] h (fun v N => v = .bool (step x s).1 ∧ N = [Sc (step x s).2])) : CT Tryz.prog 36 ⟨[v, .func (.func g) ⟨fs⟩ ⟨cv⟩]⟩ [Sc s0] H (fun v N => v = .bool (anyS step l s0).1 ∧ N = [Sc (anyS step l s0).2]) := by
 refine Zr Tryz.func36 rfl rfl ?_
 refine Zg (Zc ?_)
 refine Za (v := .bool false) rfl (Pu.assign rfl) ?_
 refine Zb ?_
 refine Zg (Zc ?_)
 refine Za (v := v) rfl (Pu.move rfl) ?_
 refine Za (v := .func (.func g) ⟨fs⟩ ⟨cv⟩) rfl (Pu.move rfl) ?_
 refine JL_call1 0 rfl Tryz.call75 rfl rfl (fun hin => idxC_ct g fs cv hcall Sc Inv step _ _ _ (RCs.mono (Hle.hu _ _) hl) s0 h0 hI (fun x hx s hs a h hh ra => hg x hx s hs a h (Hle.trans (Hle.hu _ _) hh) ra)) rfl ?_
 rintro _ _ ⟨rfl, rfl⟩
 refine Za (v := .bool (decide (0 ≤ (idxS step l 0 s0).1))) rfl (Pu.geq rfl rfl) ?_
 refine Za (v := .bool (decide (0 ≤ (idxS step l 0 s0).1))) rfl (Pu.assign rfl) ?_
 refine Zb ?_
 refine Zo ?_
 refine ⟨.bool (decide (0 ≤ (idxS step l 0 s0).1)), [Sc (idxS step l 0 s0).2], Ret.one rfl (RV.tmp rfl), (Sk Sub.nil), ?_⟩
 exact ⟨by rw [(idxS_any step l 0 s0).1], by rw [(idxS_any step l 0 s0).2]⟩
end Go.Proofs.YtdeinimmmjichaaGreat.Hs
/-! Walks, printed by a program of this session's own (gen.py). -/
namespace Go.Proofs.YtdeinimmmjichaaGreat.Hs
open Go Go.Proofs
set_option maxRecDepth 100000
set_option linter.unusedVariables false
set_option linter.unusedSimpArgs false
attribute [local irreducible] JL J CT wlo
theorem greatP_ct : ∀ (p : Pt) (d n : Int) (cs : List Value) (H : Heap) (bN bP : Nat), RP H cs p → 0 ≤ n → n ≤ 400 → H bP = some (.cells ⟨[.func (.func 32) ⟨[]⟩ ⟨[.pointer (some ⟨bN, 0, none⟩), .pointer (some ⟨bP, 0, none⟩)]⟩]⟩ 63 (0, 0)) → CT Tryz.prog 32 ⟨[.agg ⟨cs⟩, .pointer (some ⟨bN, 0, none⟩), .pointer (some ⟨bP, 0, none⟩)]⟩ [[(bN, .cells ⟨[.int .i64 n]⟩ 3 (0, 0))]] H (fun v N => v = .bool (cnP stG d p n).1 ∧ N = [[(bN, .cells ⟨[.int .i64 ((cnP stG d p n).2)]⟩ 3 (0, 0))]]) := by
 intro p
 induction p using Pt.ind with
 | h kind num ref kids ih =>
 intro d n cs H bN bP hp hn0 hn1 hP
 obtain ⟨ks, rfl, hk, hn, hks⟩ := RP_mk.1 hp
 refine Zr Tryz.func32 rfl rfl ?_
 refine Zg (Zc ?_)
 refine Zd rfl (Zx (l := pkP kind num ref ks) rfl rfl fun b1 => ?_)
 refine Za (v := .bool false) rfl (Pu.assign rfl) ?_
 refine Zb ?_
 refine Zg (Zc ?_)
 refine Zd rfl (Zh ty3 rfl (At.bx 1 rfl) rfl ?_)
 refine Za (v := .int .i64 (n + 1)) rfl (Pu.add64 rfl rfl (by first | omega | (constructor <;> omega))) ?_
 refine Zd rfl (Zi 1 (vs := [.int .i64 (n + 1)]) (l := [.int .i64 (n + 1)]) ty3 rfl rfl rfl rfl rfl (Zp rfl Zz) rfl ?_)
 refine Zb ?_
 refine Zg (Zc ?_)
 refine Zd rfl (Zh ty3 rfl (At.bx 1 rfl) rfl ?_)
 refine Za (v := .bool (decide (400 < n + 1))) rfl (Pu.gtr rfl rfl) ?_
 refine Za (v := .bool (decide (400 < n + 1))) rfl (Pu.move rfl) ?_
 cases h2 : (decide (400 < n + 1)) with
 | true =>
  replace h2 := dt h2
  refine Zf rfl ?_
  refine Zf rfl ?_
  refine Zf rfl ?_
  refine Zf rfl ?_
  refine Za (v := .bool true) rfl (Pu.pickT rfl rfl) ?_
  refine Za (v := .bool true) rfl (Pu.assign rfl) ?_
  refine Zb ?_
  refine Zo ?_
  refine ⟨.bool true, [[(bN, .cells ⟨[.int .i64 (n + 1)]⟩ 3 (0, 0))]], Ret.one rfl (RV.tmp rfl), (Sd (Sk Sub.nil)), ?_⟩
  refine ⟨?_, ?_⟩ <;> rw [cnP, if_pos (by simp [stG]; omega)]
 | false =>
  replace h2 := df h2
  refine Za (v := .pointer (some ⟨b1, 34, none⟩)) rfl (fa30_3 rfl rfl) ?_
  refine Zd rfl (Zh ty28 rfl (At.bx 0 rfl) (pkP_34 ..) ?_)
  refine Zd rfl (Zh ty63 rfl (At.im hP) rfl ?_)
  refine JL_call1 1 rfl Tryz.call33 rfl rfl (fun hin => containsP_ct 32 [] [.pointer (some ⟨bN, 0, none⟩), .pointer (some ⟨bP, 0, none⟩)] (fun _ _ => rfl) (fun n => [(bN, .cells ⟨[.int .i64 n]⟩ 3 (0, 0))]) (fun n => 0 ≤ n ∧ n ≤ 400) (cnP stG (d + 1)) _ _ _ (RPs.mono (Hle.hu _ _) hks) (n + 1) ⟨by omega, by omega⟩ (fun x hx s hs hf => cnP_keep stG_le x _ s hs.1 hf) (fun x hx s hs a h hh ra => ih x hx (d + 1) s a h bN bP ra hs.1 hs.2 (hh _ _ (Hle.hu _ _ _ _ hP)))) rfl ?_
  rintro _ _ ⟨rfl, rfl⟩
  refine Za (v := .bool ((anyS (cnP stG (d + 1)) kids (n + 1)).1)) rfl (Pu.pickF rfl rfl) ?_
  refine Za (v := .bool ((anyS (cnP stG (d + 1)) kids (n + 1)).1)) rfl (Pu.assign rfl) ?_
  refine Zb ?_
  refine Zo ?_
  refine ⟨.bool ((anyS (cnP stG (d + 1)) kids (n + 1)).1), [[(bN, .cells ⟨[.int .i64 ((anyS (cnP stG (d + 1)) kids (n + 1)).2)]⟩ 3 (0, 0))]], Ret.one rfl (RV.tmp rfl), (Sk Sub.nil), ?_⟩
  refine ⟨?_, ?_⟩ <;> rw [cnP, if_neg (by simp [stG]; omega), cnPs_any]
theorem greatC_ct : ∀ (c : Pt × Tm) (d n : Int) (a : List Value) (H : Heap) (bN bW bP : Nat), RC H a c → 0 ≤ n → n ≤ 400 → H bW = some (.cells ⟨[.func (.func 34) ⟨[]⟩ ⟨[.pointer (some ⟨bN, 0, none⟩), .pointer (some ⟨bW, 0, none⟩), .pointer (some ⟨bP, 0, none⟩)]⟩]⟩ 36 (0, 0)) → H bP = some (.cells ⟨[.func (.func 32) ⟨[]⟩ ⟨[.pointer (some ⟨bN, 0, none⟩), .pointer (some ⟨bP, 0, none⟩)]⟩]⟩ 63 (0, 0)) → (∀ s a h, Hle H h → RT h a c.2 → 0 ≤ s → s ≤ 400 → CT Tryz.prog 34 ⟨[.agg ⟨a⟩, .pointer (some ⟨bN, 0, none⟩), .pointer (some ⟨bW, 0, none⟩), .pointer (some ⟨bP, 0, none⟩)]⟩ [[(bN, .cells ⟨[.int .i64 s]⟩ 3 (0, 0))]] h (fun v N => v = .bool (cnT stG d c.2 s).1 ∧ N = [[(bN, .cells ⟨[.int .i64 ((cnT stG d c.2 s).2)]⟩ 3 (0, 0))]])) → CT Tryz.prog 37 ⟨[.agg ⟨a⟩, .pointer (some ⟨bP, 0, none⟩), .pointer (some ⟨bW, 0, none⟩)]⟩ [[(bN, .cells ⟨[.int .i64 n]⟩ 3 (0, 0))]] H (fun v N => v = .bool (cnC stG d c n).1 ∧ N = [[(bN, .cells ⟨[.int .i64 ((cnC stG d c n).2)]⟩ 3 (0, 0))]]) := by
 intro c d n a H bN bW bP ⟨ca, cb, e1, ra1, ra2⟩ hn0 hn1 hW hP hg
 subst e1
 refine Zr Tryz.func37 rfl rfl ?_
 refine Zg (Zc ?_)
 refine Zd rfl (Zx (l := ca ++ cb) rfl rfl fun b1 => ?_)
 refine Za (v := .bool false) rfl (Pu.assign rfl) ?_
 refine Zb ?_
 refine Zg (Zc ?_)
 refine Zd rfl (Zh ty63 rfl (At.im hP) rfl ?_)
 refine Za (v := .pointer (some ⟨b1, 0, none⟩)) rfl (fa34_0 rfl rfl) ?_
 refine Zd rfl (Zj ty30 rfl (At.bx 0 rfl) (sub_l (RP_len ra1)) ?_)
 refine JL_call1 1 rfl Tryz.call32 rfl rfl (fun hin => greatP_ct _ d _ _ _ bN bP (RP.mono (Hle.hu _ _) ra1) hn0 hn1 (Hle.hu _ _ _ _ hP)) rfl ?_
 rintro _ _ ⟨rfl, rfl⟩
 refine Za (v := .bool ((cnP stG d (c.1) n).1)) rfl (Pu.move rfl) ?_
 cases h3 : ((cnP stG d (c.1) n).1) with
 | true =>
  refine Zf rfl ?_
  refine Zf rfl ?_
  refine Zf rfl ?_
  refine Zf rfl ?_
  refine Za (v := .bool true) rfl (Pu.pickT rfl rfl) ?_
  refine Za (v := .bool true) rfl (Pu.assign rfl) ?_
  refine Zb ?_
  refine Zo ?_
  refine ⟨.bool true, [[(bN, .cells ⟨[.int .i64 ((cnP stG d (c.1) n).2)]⟩ 3 (0, 0))]], Ret.one rfl (RV.tmp rfl), (Sk Sub.nil), ?_⟩
  refine ⟨?_, ?_⟩ <;> rw [cnC, if_pos h3]
 | false =>
  refine Zd rfl (Zh ty36 rfl (At.im hW) rfl ?_)
  refine Za (v := .pointer (some ⟨b1, 35, none⟩)) rfl (fa34_1 rfl rfl) ?_
  refine Zd rfl (Zj Zt rfl (At.bx 1 rfl) (sub_r (RP_len ra1) (Zv ra2)) ?_)
  refine JL_call1 0 rfl Tryz.call34 rfl rfl (fun hin => hg _ _ _ (Hle.hu _ _) (RT.mono (Hle.hu _ _) ra2) (cnP_keep stG_le _ _ _ hn0 h3).1 (cnP_keep stG_le _ _ _ hn0 h3).2) rfl ?_
  rintro _ _ ⟨rfl, rfl⟩
  refine Za (v := .bool ((cnT stG d (c.2) ((cnP stG d (c.1) n).2)).1)) rfl (Pu.pickF rfl rfl) ?_
  refine Za (v := .bool ((cnT stG d (c.2) ((cnP stG d (c.1) n).2)).1)) rfl (Pu.assign rfl) ?_
  refine Zb ?_
  refine Zo ?_
  refine ⟨.bool ((cnT stG d (c.2) ((cnP stG d (c.1) n).2)).1), [[(bN, .cells ⟨[.int .i64 ((cnT stG d (c.2) ((cnP stG d (c.1) n).2)).2)]⟩ 3 (0, 0))]], Ret.one rfl (RV.tmp rfl), (Sk Sub.nil), ?_⟩
  refine ⟨?_, ?_⟩ <;> rw [cnC, if_neg (by simp [h3])]
theorem greatT_ct : ∀ (t : Tm) (d n : Int) (cs : List Value) (H : Heap) (bN bW bP : Nat), RT H cs t → 0 ≤ n → n ≤ 400 → H bW = some (.cells ⟨[.func (.func 34) ⟨[]⟩ ⟨[.pointer (some ⟨bN, 0, none⟩), .pointer (some ⟨bW, 0, none⟩), .pointer (some ⟨bP, 0, none⟩)]⟩]⟩ 36 (0, 0)) → H bP = some (.cells ⟨[.func (.func 32) ⟨[]⟩ ⟨[.pointer (some ⟨bN, 0, none⟩), .pointer (some ⟨bP, 0, none⟩)]⟩]⟩ 63 (0, 0)) → CT Tryz.prog 34 ⟨[.agg ⟨cs⟩, .pointer (some ⟨bN, 0, none⟩), .pointer (some ⟨bW, 0, none⟩), .pointer (some ⟨bP, 0, none⟩)]⟩ [[(bN, .cells ⟨[.int .i64 n]⟩ 3 (0, 0))]] H (fun v N => v = .bool (cnT stG d t n).1 ∧ N = [[(bN, .cells ⟨[.int .i64 ((cnT stG d t n).2)]⟩ 3 (0, 0))]]) := by
 intro t
 induction t using Tm.ind with
 | h kind num ref kids cases ih ih' =>
 intro d n cs H bN bW bP ht hn0 hn1 hW hP
 obtain ⟨ks, cv, rfl, hk, hn, hks, hcv⟩ := RT_mk.1 ht
 refine Zr Tryz.func34 rfl rfl ?_
 refine Zg (Zc ?_)
 refine Zd rfl (Zx (l := pkT kind num ref ks cv) rfl rfl fun b1 => ?_)
 refine Za (v := .bool false) rfl (Pu.assign rfl) ?_
 refine Zb ?_
 refine Zg (Zc ?_)
 refine Zd rfl (Zh ty3 rfl (At.bx 1 rfl) rfl ?_)
 refine Za (v := .int .i64 (n + 1)) rfl (Pu.add64 rfl rfl (by first | omega | (constructor <;> omega))) ?_
 refine Zd rfl (Zi 1 (vs := [.int .i64 (n + 1)]) (l := [.int .i64 (n + 1)]) ty3 rfl rfl rfl rfl rfl (Zp rfl Zz) rfl ?_)
 refine Zb ?_
 refine Zg (Zc ?_)
 refine Zd rfl (Zh ty3 rfl (At.bx 1 rfl) rfl ?_)
 refine Za (v := .bool (decide (400 < n + 1))) rfl (Pu.gtr rfl rfl) ?_
 refine Za (v := .bool (decide (400 < n + 1))) rfl (Pu.move rfl) ?_
 cases h2 : (decide (400 < n + 1)) with
 | true =>
  replace h2 := dt h2
  refine Zf rfl ?_
  refine Zf rfl ?_
  refine Zf rfl ?_
  refine Zf rfl ?_
  refine Za (v := .bool true) rfl (Pu.pickT rfl rfl) ?_
  refine Za (v := .bool true) rfl (Pu.move rfl) ?_
  refine Zf rfl ?_
  refine Zf rfl ?_
  refine Zf rfl ?_
  refine Zf rfl ?_
  refine Za (v := .bool true) rfl (Pu.pickT rfl rfl) ?_
  refine Za (v := .bool true) rfl (Pu.assign rfl) ?_
  refine Zb ?_
  refine Zo ?_
  refine ⟨.bool true, [[(bN, .cells ⟨[.int .i64 (n + 1)]⟩ 3 (0, 0))]], Ret.one rfl (RV.tmp rfl), (Sd (Sk Sub.nil)), ?_⟩
  refine ⟨?_, ?_⟩ <;> rw [cnT, if_pos (by simp [stG]; omega)]
 | false =>
  replace h2 := df h2
  refine Za (v := .pointer (some ⟨b1, 34, none⟩)) rfl (fa27_3 rfl rfl) ?_
  refine Zd rfl (Zh ty24 rfl (At.bx 0 rfl) (pkT_34 ..) ?_)
  refine Zd rfl (Zh ty36 rfl (At.im hW) rfl ?_)
  refine JL_call1 1 rfl Tryz.call35 rfl rfl (fun hin => containsT_ct 34 [] [.pointer (some ⟨bN, 0, none⟩), .pointer (some ⟨bW, 0, none⟩), .pointer (some ⟨bP, 0, none⟩)] (fun _ _ => rfl) (fun n => [(bN, .cells ⟨[.int .i64 n]⟩ 3 (0, 0))]) (fun n => 0 ≤ n ∧ n ≤ 400) (cnT stG (d + 1)) _ _ _ (RTs.mono (Hle.hu _ _) hks) (n + 1) ⟨by omega, by omega⟩ (fun x hx s hs hf => cnT_keep stG_le x _ s hs.1 hf) (fun x hx s hs a h hh ra => ih x hx (d + 1) s a h bN bW bP ra hs.1 hs.2 (hh _ _ (Hle.hu _ _ _ _ hW)) (hh _ _ (Hle.hu _ _ _ _ hP)))) rfl ?_
  rintro _ _ ⟨rfl, rfl⟩
  refine Za (v := .bool ((anyS (cnT stG (d + 1)) kids (n + 1)).1)) rfl (Pu.pickF rfl rfl) ?_
  refine Za (v := .bool ((anyS (cnT stG (d + 1)) kids (n + 1)).1)) rfl (Pu.move rfl) ?_
  cases h4 : ((anyS (cnT stG (d + 1)) kids (n + 1)).1) with
  | true =>
   refine Zf rfl ?_
   refine Zf rfl ?_
   refine Zf rfl ?_
   refine Zf rfl ?_
   refine Za (v := .bool true) rfl (Pu.pickT rfl rfl) ?_
   refine Za (v := .bool true) rfl (Pu.assign rfl) ?_
   refine Zb ?_
   refine Zo ?_
   refine ⟨.bool true, [[(bN, .cells ⟨[.int .i64 ((anyS (cnT stG (d + 1)) kids (n + 1)).2)]⟩ 3 (0, 0))]], Ret.one rfl (RV.tmp rfl), (Sk Sub.nil), ?_⟩
   refine ⟨?_, ?_⟩ <;> rw [cnT, if_neg (by simp [stG]; omega), cnTs_any, if_pos h4]
  | false =>
   refine Za (v := .pointer (some ⟨b1, 35, none⟩)) rfl (fa27_4 rfl rfl) ?_
   refine Zd rfl (Zh ty25 rfl (At.bx 1 rfl) (pkT_35 ..) ?_)
   refine Za (v := .func (.func 37) ⟨[]⟩ ⟨[.pointer (some ⟨bP, 0, none⟩), .pointer (some ⟨bW, 0, none⟩)]⟩) rfl (Pu.makeFunc rfl rfl) ?_
   refine JL_call1 0 rfl Tryz.call36 rfl rfl (fun hin => containsC_ct 37 [] [.pointer (some ⟨bP, 0, none⟩), .pointer (some ⟨bW, 0, none⟩)] (fun _ _ => rfl) (fun n => [(bN, .cells ⟨[.int .i64 n]⟩ 3 (0, 0))]) (fun n => 0 ≤ n ∧ n ≤ 400) (cnC stG (d + 1)) _ _ _ (RCs.mono (Hle.hu _ _) hcv) ((anyS (cnT stG (d + 1)) kids (n + 1)).2) (anyT_keep stG_le _ _ _ (by omega) (by omega) h4) (fun x hx s hs hf => cnC_keep stG_le x _ s hs.1 hf) (fun x hx s hs a h hh ra => greatC_ct x (d + 1) s a h bN bW bP ra hs.1 hs.2 (hh _ _ (Hle.hu _ _ _ _ hW)) (hh _ _ (Hle.hu _ _ _ _ hP)) (fun s' a' h' hh' ra' k1 k2 => ih' x hx (d + 1) s' a' h' bN bW bP ra' k1 k2 (hh' _ _ (hh _ _ (Hle.hu _ _ _ _ hW))) (hh' _ _ (hh _ _ (Hle.hu _ _ _ _ hP)))))) rfl ?_
   rintro _ _ ⟨rfl, rfl⟩
   refine Za (v := .bool ((anyS (cnC stG (d + 1)) cases ((anyS (cnT stG (d + 1)) kids (n + 1)).2)).1)) rfl (Pu.pickF rfl rfl) ?_
   refine Za (v := .bool ((anyS (cnC stG (d + 1)) cases ((anyS (cnT stG (d + 1)) kids (n + 1)).2)).1)) rfl (Pu.assign rfl) ?_
   refine Zb ?_
   refine Zo ?_
   refine ⟨.bool ((anyS (cnC stG (d + 1)) cases ((anyS (cnT stG (d + 1)) kids (n + 1)).2)).1), [[(bN, .cells ⟨[.int .i64 ((anyS (cnC stG (d + 1)) cases ((anyS (cnT stG (d + 1)) kids (n + 1)).2)).2)]⟩ 3 (0, 0))]], Ret.one rfl (RV.tmp rfl), (Sk Sub.nil), ?_⟩
   refine ⟨?_, ?_⟩ <;> rw [cnT, if_neg (by simp [stG]; omega), cnTs_any, if_neg (by simp [h4]), cnCs_any]
theorem great_ct (t : Tm) (cs : List Value) (H : Heap) (ht : RT H cs t) : CT Tryz.prog 8 ⟨[.agg ⟨cs⟩]⟩ [] H (fun v N => v = .bool (cnT stG 0 t 0).1 ∧ N = []) := by
 refine Zr Tryz.func8 rfl rfl ?_
 refine Zg (Zc ?_)
 refine Zd rfl (Zx (l := cs) rfl rfl fun b1 => ?_)
 refine Za (v := .bool false) rfl (Pu.assign rfl) ?_
 refine Zb ?_
 refine Zg (Zc ?_)
 refine Zd rfl (Zn (l := [.int .i64 0]) Tryz.zeroValue3 rfl fun b2 => ?_)
 refine Zd rfl (Zi 0 (vs := [.int .i64 0]) (l := [.int .i64 0]) ty3 rfl rfl rfl rfl rfl (Zp rfl Zz) rfl ?_)
 refine Zb ?_
 refine Zg (Zc ?_)
 refine Zd rfl (Zn (l := [.nilFunc]) Tryz.zeroValue63 rfl fun b3 => ?_)
 refine Zb ?_
 refine Zg (Zc ?_)
 refine Za (v := .func (.func 32) ⟨[]⟩ ⟨[.pointer (some ⟨b2, 0, none⟩), .pointer (some ⟨b3, 0, none⟩)]⟩) rfl (Pu.makeFunc rfl rfl) ?_
 refine Zd rfl (Zi 0 (vs := [.func (.func 32) ⟨[]⟩ ⟨[.pointer (some ⟨b2, 0, none⟩), .pointer (some ⟨b3, 0, none⟩)]⟩]) (l := [.func (.func 32) ⟨[]⟩ ⟨[.pointer (some ⟨b2, 0, none⟩), .pointer (some ⟨b3, 0, none⟩)]⟩]) ty63 rfl rfl rfl rfl rfl (Zp rfl Zz) rfl ?_)
 refine Zb ?_
 refine Zg (Zc ?_)
 refine Zd rfl (Zn (l := [.nilFunc]) Tryz.zeroValue36 rfl fun b4 => ?_)
 refine Zb ?_
 refine Zg (Zc ?_)
 refine Za (v := .func (.func 34) ⟨[]⟩ ⟨[.pointer (some ⟨b2, 0, none⟩), .pointer (some ⟨b4, 0, none⟩), .pointer (some ⟨b3, 0, none⟩)]⟩) rfl (Pu.makeFunc rfl rfl) ?_
 refine Zd rfl (Zi 0 (vs := [.func (.func 34) ⟨[]⟩ ⟨[.pointer (some ⟨b2, 0, none⟩), .pointer (some ⟨b4, 0, none⟩), .pointer (some ⟨b3, 0, none⟩)]⟩]) (l := [.func (.func 34) ⟨[]⟩ ⟨[.pointer (some ⟨b2, 0, none⟩), .pointer (some ⟨b4, 0, none⟩), .pointer (some ⟨b3, 0, none⟩)]⟩]) ty36 rfl rfl rfl rfl rfl (Zp rfl Zz) rfl ?_)
 refine Zb ?_
 refine Zg (Zc ?_)
 refine Zd rfl (Zh ty36 rfl (At.bx 0 rfl) rfl ?_)
 refine Zd rfl (Zj Zt rfl (At.bx 3 rfl) (Zy (Zv ht)) ?_)
 refine JL_call1 2 rfl Tryz.call34 rfl rfl (fun hin => greatT_ct _ 0 _ _ _ _ _ _ (RT.mono (Hle.hu _ _) ht) (by decide) (by decide) (hin 0 _ rfl _ _ List.mem_cons_self) (hin 1 _ rfl _ _ List.mem_cons_self)) rfl ?_
 rintro _ _ ⟨rfl, rfl⟩
 refine Za (v := .bool ((cnT stG 0 t 0).1)) rfl (Pu.assign rfl) ?_
 refine Zb ?_
 refine Zo ?_
 refine ⟨.bool ((cnT stG 0 t 0).1), [], Ret.one rfl (RV.tmp rfl), Sub.nil, ?_⟩
 exact ⟨rfl, rfl⟩
end Go.Proofs.YtdeinimmmjichaaGreat.Hs
/-! Walks, printed by a program of this session's own (gen.py). -/
namespace Go.Proofs.YtdeinimmmjichaaGreat.Hs
open Go Go.Proofs
set_option maxRecDepth 100000
set_option linter.unusedVariables false
set_option linter.unusedSimpArgs false
attribute [local irreducible] JL J CT wlo
theorem longPK_ct : ∀ (x : Pt) (d s : Int) (a : List Value) (H : Heap) (bL bA bD : Nat), RP H a x → H bA = some (.cells ⟨[.pointer (some ⟨bL, 0, none⟩)]⟩ 86 (0, 0)) → H bD = some (.cells ⟨[.int .i64 d]⟩ 3 (0, 0)) → 0 ≤ d → d ≤ 100 → (∀ h a, Hle H h → RP h a x → CT Tryz.prog 90 ⟨[.pointer (some ⟨bL, 0, none⟩), .agg ⟨a⟩, .int .i64 (d + 1)]⟩ [[(bL, .cells ⟨[.int .i64 s]⟩ 88 (0, 0))]] h (fun v N => v = .bool (cnP stL (d + 1) x s).1 ∧ N = [[(bL, .cells ⟨[.int .i64 ((cnP stL (d + 1) x s).2)]⟩ 88 (0, 0))]])) → CT Tryz.prog 108 ⟨[.agg ⟨a⟩, .pointer (some ⟨bA, 0, none⟩), .pointer (some ⟨bD, 0, none⟩)]⟩ [[(bL, .cells ⟨[.int .i64 s]⟩ 88 (0, 0))]] H (fun v N => v = .bool (cnP stL (d + 1) x s).1 ∧ N = [[(bL, .cells ⟨[.int .i64 ((cnP stL (d + 1) x s).2)]⟩ 88 (0, 0))]]) := by
 intro x d s a H bL bA bD ra hH1 hH5 hd0 hd1 hg
 refine Zr Tryz.func108 rfl rfl ?_
 refine Zg (Zc ?_)
 refine Zd rfl (Zx (l := a) rfl rfl fun b1 => ?_)
 refine Za (v := .bool false) rfl (Pu.assign rfl) ?_
 refine Zb ?_
 refine Zg (Zc ?_)
 refine Zd rfl (Zh ty86 rfl (At.im hH1) rfl ?_)
 refine Zd rfl (Zj ty30 rfl (At.bx 0 rfl) (Zy (RP_len ra)) ?_)
 refine Zd rfl (Zh ty3 rfl (At.im hH5) rfl ?_)
 refine Za (v := .int .i64 (d + 1)) rfl (Pu.add64 rfl rfl (by first | omega | (constructor <;> omega))) ?_
 refine JL_call1 1 rfl Tryz.call90 rfl rfl (fun hin => hg _ _ (Hle.hu _ _) (RP.mono (Hle.hu _ _) ra)) rfl ?_
 rintro _ _ ⟨rfl, rfl⟩
 refine Za (v := .bool ((cnP stL (d + 1) x s).1)) rfl (Pu.assign rfl) ?_
 refine Zb ?_
 refine Zo ?_
 refine ⟨.bool ((cnP stL (d + 1) x s).1), [[(bL, .cells ⟨[.int .i64 ((cnP stL (d + 1) x s).2)]⟩ 88 (0, 0))]], Ret.one rfl (RV.tmp rfl), (Sk Sub.nil), ?_⟩
 exact ⟨rfl, rfl⟩
theorem longTK_ct : ∀ (x : Tm) (d s : Int) (a : List Value) (H : Heap) (bL bA bD : Nat), RT H a x → H bA = some (.cells ⟨[.pointer (some ⟨bL, 0, none⟩)]⟩ 86 (0, 0)) → H bD = some (.cells ⟨[.int .i64 d]⟩ 3 (0, 0)) → 0 ≤ d → d ≤ 100 → (∀ h a, Hle H h → RT h a x → CT Tryz.prog 51 ⟨[.pointer (some ⟨bL, 0, none⟩), .agg ⟨a⟩, .int .i64 (d + 1)]⟩ [[(bL, .cells ⟨[.int .i64 s]⟩ 88 (0, 0))]] h (fun v N => v = .bool (cnT stL (d + 1) x s).1 ∧ N = [[(bL, .cells ⟨[.int .i64 ((cnT stL (d + 1) x s).2)]⟩ 88 (0, 0))]])) → CT Tryz.prog 88 ⟨[.agg ⟨a⟩, .pointer (some ⟨bA, 0, none⟩), .pointer (some ⟨bD, 0, none⟩)]⟩ [[(bL, .cells ⟨[.int .i64 s]⟩ 88 (0, 0))]] H (fun v N => v = .bool (cnT stL (d + 1) x s).1 ∧ N = [[(bL, .cells ⟨[.int .i64 ((cnT stL (d + 1) x s).2)]⟩ 88 (0, 0))]]) := by
 intro x d s a H bL bA bD ra hH1 hH5 hd0 hd1 hg
 refine Zr Tryz.func88 rfl rfl ?_
 refine Zg (Zc ?_)
 refine Zd rfl (Zx (l := a) rfl rfl fun b1 => ?_)
 refine Za (v := .bool false) rfl (Pu.assign rfl) ?_
 refine Zb ?_
 refine Zg (Zc ?_)
 refine Zd rfl (Zh ty86 rfl (At.im hH1) rfl ?_)
 refine Zd rfl (Zj Zt rfl (At.bx 0 rfl) (Zy (Zv ra)) ?_)
 refine Zd rfl (Zh ty3 rfl (At.im hH5) rfl ?_)
 refine Za (v := .int .i64 (d + 1)) rfl (Pu.add64 rfl rfl (by first | omega | (constructor <;> omega))) ?_
 refine JL_call1 1 rfl Tryz.call51 rfl rfl (fun hin => hg _ _ (Hle.hu _ _) (RT.mono (Hle.hu _ _) ra)) rfl ?_
 rintro _ _ ⟨rfl, rfl⟩
 refine Za (v := .bool ((cnT stL (d + 1) x s).1)) rfl (Pu.assign rfl) ?_
 refine Zb ?_
 refine Zo ?_
 refine ⟨.bool ((cnT stL (d + 1) x s).1), [[(bL, .cells ⟨[.int .i64 ((cnT stL (d + 1) x s).2)]⟩ 88 (0, 0))]], Ret.one rfl (RV.tmp rfl), (Sk Sub.nil), ?_⟩
 exact ⟨rfl, rfl⟩
theorem longP_ct : ∀ (p : Pt) (d n : Int) (cs : List Value) (H : Heap) (bL : Nat), RP H cs p → 0 ≤ n → n ≤ 300 → 0 ≤ d → d ≤ 61 → CT Tryz.prog 90 ⟨[.pointer (some ⟨bL, 0, none⟩), .agg ⟨cs⟩, .int .i64 d]⟩ [[(bL, .cells ⟨[.int .i64 n]⟩ 88 (0, 0))]] H (fun v N => v = .bool (cnP stL d p n).1 ∧ N = [[(bL, .cells ⟨[.int .i64 ((cnP stL d p n).2)]⟩ 88 (0, 0))]]) := by
 intro p
 induction p using Pt.ind with
 | h kind num ref kids ih =>
 intro d n cs H bL hp hn0 hn1 hd0 hd1
 obtain ⟨ks, rfl, hk, hn, hks⟩ := RP_mk.1 hp
 refine Zr Tryz.func90 rfl rfl ?_
 refine Zg (Zc ?_)
 refine Zd rfl (Zx (l := [.pointer (some ⟨bL, 0, none⟩)]) rfl rfl fun b1 => ?_)
 refine Zd rfl (Zx (l := pkP kind num ref ks) rfl rfl fun b2 => ?_)
 refine Zd rfl (Zx (l := [.int .i64 d]) rfl rfl fun b3 => ?_)
 refine Za (v := .bool false) rfl (Pu.assign rfl) ?_
 refine Zb ?_
 refine Zg ?_
 refine Zg (Zc ?_)
 refine Zd rfl (Zh ty86 rfl (At.bx 2 rfl) rfl ?_)
 refine Za (v := .pointer (some ⟨bL, 0, none⟩)) rfl (Pu.nilCheck rfl) ?_
 refine Za (v := .pointer (some ⟨bL, 0, none⟩)) rfl (fa88_0 rfl rfl) ?_
 refine Zd rfl (Zh ty3 rfl (At.bx 3 rfl) rfl ?_)
 refine Za (v := .int .i64 (n + 1)) rfl (Pu.add64 rfl rfl (by first | omega | (constructor <;> omega))) ?_
 refine Za (v := .pointer (some ⟨bL, 0, none⟩)) rfl (Pu.nilCheck rfl) ?_
 refine Za (v := .pointer (some ⟨bL, 0, none⟩)) rfl (fa88_0 rfl rfl) ?_
 refine Zd rfl (Zi 3 (vs := [.int .i64 (n + 1)]) (l := [.int .i64 (n + 1)]) ty3 rfl rfl rfl rfl rfl (Zp rfl Zz) rfl ?_)
 refine Zb ?_
 refine J_cut (fun ρ M => ρ 3 = .pointer (some ⟨b1, 0, none⟩) ∧ ρ 4 = .pointer (some ⟨b2, 0, none⟩) ∧ ρ 5 = .pointer (some ⟨b3, 0, none⟩) ∧ ρ 6 = .bool false ∧ ρ 22 = .bool ((decide (300 < n + 1)) || (decide (60 < d))) ∧ M = [[(b3, .cells ⟨[.int .i64 d]⟩ 3 (0, 0))], [(b2, .cells ⟨pkP kind num ref ks⟩ 30 (0, 0))], [(b1, .cells ⟨[.pointer (some ⟨bL, 0, none⟩)]⟩ 86 (0, 0))], [(bL, .cells ⟨[.int .i64 (n + 1)]⟩ 88 (0, 0))]]) ?_ ?_
 ·refine Zc ?_
  refine Zd rfl (Zh ty86 rfl (At.bx 2 rfl) rfl ?_)
  refine Za (v := .pointer (some ⟨bL, 0, none⟩)) rfl (Pu.nilCheck rfl) ?_
  refine Za (v := .pointer (some ⟨bL, 0, none⟩)) rfl (fa88_0 rfl rfl) ?_
  refine Zd rfl (Zh ty3 rfl (At.bx 3 rfl) rfl ?_)
  refine Za (v := .bool (decide (300 < n + 1))) rfl (Pu.gtr rfl rfl) ?_
  refine Za (v := .bool (decide (300 < n + 1))) rfl (Pu.move rfl) ?_
  cases h4 : (decide (300 < n + 1)) with
  | true =>
   replace h4 := dt h4
   refine Zf rfl ?_
   refine Zf rfl ?_
   refine Za (v := .bool true) rfl (Pu.pickT rfl rfl) ?_
   refine Zb ?_
   first | exact ⟨rfl, rfl, rfl, rfl, rfl, rfl⟩ | (exfalso; omega)
  | false =>
   replace h4 := df h4
   refine Zd rfl (Zh ty3 rfl (At.bx 0 rfl) rfl ?_)
   refine Za (v := .bool (decide (60 < d))) rfl (Pu.gtr rfl rfl) ?_
   refine Za (v := .bool (decide (60 < d))) rfl (Pu.pickF rfl rfl) ?_
   refine Zb ?_
   first | exact ⟨rfl, rfl, rfl, rfl, rfl, rfl⟩ | (exfalso; omega)
 rintro ρ5 _ ⟨e6, e7, e8, e9, e10, rfl⟩
 obtain ⟨ρ11, rfl⟩ := Ze (uc e6 (uc e7 (uc e8 (uc e9 (uc e10 un)))))
 clear e6 e7 e8 e9 e10
 refine Zl (b := (decide (300 < n + 1)) || (decide (60 < d))) rfl (fun h12 => ?_) (fun h12 => ?_)
 ·refine Zg (Zc ?_)
  refine Za (v := .bool true) rfl (Pu.assign rfl) ?_
  refine Zb ?_
  refine Zo ?_
  refine ⟨.bool true, [[(bL, .cells ⟨[.int .i64 (n + 1)]⟩ 88 (0, 0))]], Ret.one rfl (RV.tmp rfl), (Sd (Sd (Sd (Sk Sub.nil)))), ?_⟩
  refine ⟨?_, ?_⟩ <;> rw [cnP, if_pos (by simpa [stL] using h12)]
 obtain ⟨h12a, h12b⟩ := orF h12
 replace h12a := df h12a
 replace h12b := df h12b
 refine Zq ?_
 refine Zg (Zc ?_)
 refine Za (v := .pointer (some ⟨b2, 34, none⟩)) rfl (fa30_3 rfl rfl) ?_
 refine Zd rfl (Zh ty28 rfl (At.bx 1 rfl) (pkP_34 ..) ?_)
 refine Za (v := .func (.func 108) ⟨[]⟩ ⟨[.pointer (some ⟨b1, 0, none⟩), .pointer (some ⟨b3, 0, none⟩)]⟩) rfl (Pu.makeFunc rfl rfl) ?_
 refine JL_call1 3 rfl Tryz.call33 rfl rfl (fun hin => containsP_ct 108 [] [.pointer (some ⟨b1, 0, none⟩), .pointer (some ⟨b3, 0, none⟩)] (fun _ _ => rfl) (fun n => [(bL, .cells ⟨[.int .i64 n]⟩ 88 (0, 0))]) (fun n => 0 ≤ n ∧ n ≤ 300) (cnP stL (d + 1)) _ _ _ (RPs.mono (Hle.hu _ _) hks) (n + 1) ⟨by omega, by omega⟩ (fun x hx s hs hf => cnP_keep stL_le x _ s hs.1 hf) (fun x hx s hs a h hh ra => longPK_ct x d s a h bL b1 b3 ra (hh _ _ (hin 2 _ rfl _ _ List.mem_cons_self)) (hh _ _ (hin 0 _ rfl _ _ List.mem_cons_self)) (by omega) (by omega) (fun h' a' hh' ra' => ih x hx (d + 1) s a' h' bL ra' hs.1 hs.2 (by omega) (by omega)))) rfl ?_
 rintro _ _ ⟨rfl, rfl⟩
 refine Za (v := .bool ((anyS (cnP stL (d + 1)) kids (n + 1)).1)) rfl (Pu.assign rfl) ?_
 refine Zb ?_
 refine Zo ?_
 refine ⟨.bool ((anyS (cnP stL (d + 1)) kids (n + 1)).1), [[(bL, .cells ⟨[.int .i64 ((anyS (cnP stL (d + 1)) kids (n + 1)).2)]⟩ 88 (0, 0))]], Ret.one rfl (RV.tmp rfl), (Sk Sub.nil), ?_⟩
 refine ⟨?_, ?_⟩ <;> rw [cnP, if_neg (by simp [stL]; omega), cnPs_any]
theorem longC_ct : ∀ (c : Pt × Tm) (d n : Int) (a : List Value) (H : Heap) (bL bA bD bK : Nat), RC H a c → 0 ≤ n → n ≤ 300 → 0 ≤ d → d ≤ 60 → H bA = some (.cells ⟨[.pointer (some ⟨bL, 0, none⟩)]⟩ 86 (0, 0)) → H bD = some (.cells ⟨[.int .i64 d]⟩ 3 (0, 0)) → H bK = some (.cells ⟨[.func (.func 88) ⟨[]⟩ ⟨[.pointer (some ⟨bA, 0, none⟩), .pointer (some ⟨bD, 0, none⟩)]⟩]⟩ 36 (0, 0)) → (∀ s a h, Hle H h → RT h a c.2 → 0 ≤ s → s ≤ 300 → CT Tryz.prog 51 ⟨[.pointer (some ⟨bL, 0, none⟩), .agg ⟨a⟩, .int .i64 (d + 1)]⟩ [[(bL, .cells ⟨[.int .i64 s]⟩ 88 (0, 0))]] h (fun v N => v = .bool (cnT stL (d + 1) c.2 s).1 ∧ N = [[(bL, .cells ⟨[.int .i64 ((cnT stL (d + 1) c.2 s).2)]⟩ 88 (0, 0))]])) → CT Tryz.prog 89 ⟨[.agg ⟨a⟩, .pointer (some ⟨bA, 0, none⟩), .pointer (some ⟨bD, 0, none⟩), .pointer (some ⟨bK, 0, none⟩)]⟩ [[(bL, .cells ⟨[.int .i64 n]⟩ 88 (0, 0))]] H (fun v N => v = .bool (cnC stL (d + 1) c n).1 ∧ N = [[(bL, .cells ⟨[.int .i64 ((cnC stL (d + 1) c n).2)]⟩ 88 (0, 0))]]) := by
 intro c d n a H bL bA bD bK ⟨ca, cb, e1, ra1, ra2⟩ hn0 hn1 hd0 hd1 hH1 hH5 hH7 hg
 subst e1
 refine Zr Tryz.func89 rfl rfl ?_
 refine Zg (Zc ?_)
 refine Zd rfl (Zx (l := ca ++ cb) rfl rfl fun b1 => ?_)
 refine Za (v := .bool false) rfl (Pu.assign rfl) ?_
 refine Zb ?_
 refine Zg (Zc ?_)
 refine Zd rfl (Zh ty86 rfl (At.im hH1) rfl ?_)
 refine Za (v := .pointer (some ⟨b1, 0, none⟩)) rfl (fa34_0 rfl rfl) ?_
 refine Zd rfl (Zj ty30 rfl (At.bx 0 rfl) (sub_l (RP_len ra1)) ?_)
 refine Zd rfl (Zh ty3 rfl (At.im hH5) rfl ?_)
 refine Za (v := .int .i64 (d + 1)) rfl (Pu.add64 rfl rfl (by first | omega | (constructor <;> omega))) ?_
 refine JL_call1 1 rfl Tryz.call90 rfl rfl (fun hin => longP_ct _ _ _ _ _ _ (RP.mono (Hle.hu _ _) ra1) (by omega) (by omega) (by omega) (by omega)) rfl ?_
 rintro _ _ ⟨rfl, rfl⟩
 refine Za (v := .bool ((cnP stL (d + 1) (c.1) n).1)) rfl (Pu.move rfl) ?_
 cases h3 : ((cnP stL (d + 1) (c.1) n).1) with
 | true =>
  refine Zf rfl ?_
  refine Zf rfl ?_
  refine Zf rfl ?_
  refine Zf rfl ?_
  refine Za (v := .bool true) rfl (Pu.pickT rfl rfl) ?_
  refine Za (v := .bool true) rfl (Pu.assign rfl) ?_
  refine Zb ?_
  refine Zo ?_
  refine ⟨.bool true, [[(bL, .cells ⟨[.int .i64 ((cnP stL (d + 1) (c.1) n).2)]⟩ 88 (0, 0))]], Ret.one rfl (RV.tmp rfl), (Sk Sub.nil), ?_⟩
  refine ⟨?_, ?_⟩ <;> rw [cnC, if_pos h3]
 | false =>
  refine Zd rfl (Zh ty36 rfl (At.im hH7) rfl ?_)
  refine Za (v := .pointer (some ⟨b1, 35, none⟩)) rfl (fa34_1 rfl rfl) ?_
  refine Zd rfl (Zj Zt rfl (At.bx 1 rfl) (sub_r (RP_len ra1) (Zv ra2)) ?_)
  refine JL_call1 0 rfl Tryz.call88 rfl rfl (fun hin => longTK_ct _ d _ _ _ bL bA bD (RT.mono (Hle.hu _ _) ra2) (Hle.hu _ _ _ _ hH1) (Hle.hu _ _ _ _ hH5) (by omega) (by omega) (fun h' a' hh' ra' => hg _ _ _ (Hle.trans (Hle.hu _ _) hh') ra' (cnP_keep stL_le _ _ _ hn0 h3).1 (cnP_keep stL_le _ _ _ hn0 h3).2)) rfl ?_
  rintro _ _ ⟨rfl, rfl⟩
  refine Za (v := .bool ((cnT stL (d + 1) (c.2) ((cnP stL (d + 1) (c.1) n).2)).1)) rfl (Pu.pickF rfl rfl) ?_
  refine Za (v := .bool ((cnT stL (d + 1) (c.2) ((cnP stL (d + 1) (c.1) n).2)).1)) rfl (Pu.assign rfl) ?_
  refine Zb ?_
  refine Zo ?_
  refine ⟨.bool ((cnT stL (d + 1) (c.2) ((cnP stL (d + 1) (c.1) n).2)).1), [[(bL, .cells ⟨[.int .i64 ((cnT stL (d + 1) (c.2) ((cnP stL (d + 1) (c.1) n).2)).2)]⟩ 88 (0, 0))]], Ret.one rfl (RV.tmp rfl), (Sk Sub.nil), ?_⟩
  refine ⟨?_, ?_⟩ <;> rw [cnC, if_neg (by simp [h3])]
theorem longT_ct : ∀ (t : Tm) (d n : Int) (cs : List Value) (H : Heap) (bL : Nat), RT H cs t → 0 ≤ n → n ≤ 300 → 0 ≤ d → d ≤ 61 → CT Tryz.prog 51 ⟨[.pointer (some ⟨bL, 0, none⟩), .agg ⟨cs⟩, .int .i64 d]⟩ [[(bL, .cells ⟨[.int .i64 n]⟩ 88 (0, 0))]] H (fun v N => v = .bool (cnT stL d t n).1 ∧ N = [[(bL, .cells ⟨[.int .i64 ((cnT stL d t n).2)]⟩ 88 (0, 0))]]) := by
 intro t
 induction t using Tm.ind with
 | h kind num ref kids cases ih ih' =>
 intro d n cs H bL ht hn0 hn1 hd0 hd1
 obtain ⟨ks, cv, rfl, hk, hn, hks, hcv⟩ := RT_mk.1 ht
 refine Zr Tryz.func51 rfl rfl ?_
 refine Zg (Zc ?_)
 refine Zd rfl (Zx (l := [.pointer (some ⟨bL, 0, none⟩)]) rfl rfl fun b1 => ?_)
 refine Zd rfl (Zx (l := pkT kind num ref ks cv) rfl rfl fun b2 => ?_)
 refine Zd rfl (Zx (l := [.int .i64 d]) rfl rfl fun b3 => ?_)
 refine Za (v := .bool false) rfl (Pu.assign rfl) ?_
 refine Zb ?_
 refine Zg ?_
 refine Zg (Zc ?_)
 refine Zd rfl (Zh ty86 rfl (At.bx 2 rfl) rfl ?_)
 refine Za (v := .pointer (some ⟨bL, 0, none⟩)) rfl (Pu.nilCheck rfl) ?_
 refine Za (v := .pointer (some ⟨bL, 0, none⟩)) rfl (fa88_0 rfl rfl) ?_
 refine Zd rfl (Zh ty3 rfl (At.bx 3 rfl) rfl ?_)
 refine Za (v := .int .i64 (n + 1)) rfl (Pu.add64 rfl rfl (by first | omega | (constructor <;> omega))) ?_
 refine Za (v := .pointer (some ⟨bL, 0, none⟩)) rfl (Pu.nilCheck rfl) ?_
 refine Za (v := .pointer (some ⟨bL, 0, none⟩)) rfl (fa88_0 rfl rfl) ?_
 refine Zd rfl (Zi 3 (vs := [.int .i64 (n + 1)]) (l := [.int .i64 (n + 1)]) ty3 rfl rfl rfl rfl rfl (Zp rfl Zz) rfl ?_)
 refine Zb ?_
 refine J_cut (fun ρ M => ρ 3 = .pointer (some ⟨b1, 0, none⟩) ∧ ρ 4 = .pointer (some ⟨b2, 0, none⟩) ∧ ρ 5 = .pointer (some ⟨b3, 0, none⟩) ∧ ρ 6 = .bool false ∧ ρ 23 = .bool ((decide (300 < n + 1)) || (decide (60 < d))) ∧ M = [[(b3, .cells ⟨[.int .i64 d]⟩ 3 (0, 0))], [(b2, .cells ⟨pkT kind num ref ks cv⟩ 27 (0, 0))], [(b1, .cells ⟨[.pointer (some ⟨bL, 0, none⟩)]⟩ 86 (0, 0))], [(bL, .cells ⟨[.int .i64 (n + 1)]⟩ 88 (0, 0))]]) ?_ ?_
 ·refine Zc ?_
  refine Zd rfl (Zh ty86 rfl (At.bx 2 rfl) rfl ?_)
  refine Za (v := .pointer (some ⟨bL, 0, none⟩)) rfl (Pu.nilCheck rfl) ?_
  refine Za (v := .pointer (some ⟨bL, 0, none⟩)) rfl (fa88_0 rfl rfl) ?_
  refine Zd rfl (Zh ty3 rfl (At.bx 3 rfl) rfl ?_)
  refine Za (v := .bool (decide (300 < n + 1))) rfl (Pu.gtr rfl rfl) ?_
  refine Za (v := .bool (decide (300 < n + 1))) rfl (Pu.move rfl) ?_
  cases h4 : (decide (300 < n + 1)) with
  | true =>
   replace h4 := dt h4
   refine Zf rfl ?_
   refine Zf rfl ?_
   refine Za (v := .bool true) rfl (Pu.pickT rfl rfl) ?_
   refine Zb ?_
   first | exact ⟨rfl, rfl, rfl, rfl, rfl, rfl⟩ | (exfalso; omega)
  | false =>
   replace h4 := df h4
   refine Zd rfl (Zh ty3 rfl (At.bx 0 rfl) rfl ?_)
   refine Za (v := .bool (decide (60 < d))) rfl (Pu.gtr rfl rfl) ?_
   refine Za (v := .bool (decide (60 < d))) rfl (Pu.pickF rfl rfl) ?_
   refine Zb ?_
   first | exact ⟨rfl, rfl, rfl, rfl, rfl, rfl⟩ | (exfalso; omega)
 rintro ρ5 _ ⟨e6, e7, e8, e9, e10, rfl⟩
 obtain ⟨ρ11, rfl⟩ := Ze (uc e6 (uc e7 (uc e8 (uc e9 (uc e10 un)))))
 clear e6 e7 e8 e9 e10
 refine Zl (b := (decide (300 < n + 1)) || (decide (60 < d))) rfl (fun h12 => ?_) (fun h12 => ?_)
 ·refine Zg (Zc ?_)
  refine Za (v := .bool true) rfl (Pu.assign rfl) ?_
  refine Zb ?_
  refine Zo ?_
  refine ⟨.bool true, [[(bL, .cells ⟨[.int .i64 (n + 1)]⟩ 88 (0, 0))]], Ret.one rfl (RV.tmp rfl), (Sd (Sd (Sd (Sk Sub.nil)))), ?_⟩
  refine ⟨?_, ?_⟩ <;> rw [cnT, if_pos (by simpa [stL] using h12)]
 obtain ⟨h12a, h12b⟩ := orF h12
 replace h12a := df h12a
 replace h12b := df h12b
 refine Zq ?_
 refine Zg (Zc ?_)
 refine Za (v := .func (.func 88) ⟨[]⟩ ⟨[.pointer (some ⟨b1, 0, none⟩), .pointer (some ⟨b3, 0, none⟩)]⟩) rfl (Pu.makeFunc rfl rfl) ?_
 refine Zd rfl (Zn (l := [.nilFunc]) Tryz.zeroValue36 rfl fun b13 => ?_)
 refine Zd rfl (Zi 0 (vs := [.func (.func 88) ⟨[]⟩ ⟨[.pointer (some ⟨b1, 0, none⟩), .pointer (some ⟨b3, 0, none⟩)]⟩]) (l := [.func (.func 88) ⟨[]⟩ ⟨[.pointer (some ⟨b1, 0, none⟩), .pointer (some ⟨b3, 0, none⟩)]⟩]) ty36 rfl rfl rfl rfl rfl (Zp rfl Zz) rfl ?_)
 refine Zb ?_
 refine Zg (Zc ?_)
 refine Za (v := .pointer (some ⟨b2, 34, none⟩)) rfl (fa27_3 rfl rfl) ?_
 refine Zd rfl (Zh ty24 rfl (At.bx 2 rfl) (pkT_34 ..) ?_)
 refine Zd rfl (Zh ty36 rfl (At.bx 0 rfl) rfl ?_)
 refine JL_call1 4 rfl Tryz.call35 rfl rfl (fun hin => containsT_ct 88 [] [.pointer (some ⟨b1, 0, none⟩), .pointer (some ⟨b3, 0, none⟩)] (fun _ _ => rfl) (fun n => [(bL, .cells ⟨[.int .i64 n]⟩ 88 (0, 0))]) (fun n => 0 ≤ n ∧ n ≤ 300) (cnT stL (d + 1)) _ _ _ (RTs.mono (Hle.hu _ _) hks) (n + 1) ⟨by omega, by omega⟩ (fun x hx s hs hf => cnT_keep stL_le x _ s hs.1 hf) (fun x hx s hs a h hh ra => longTK_ct x d s a h bL b1 b3 ra (hh _ _ (hin 3 _ rfl _ _ List.mem_cons_self)) (hh _ _ (hin 1 _ rfl _ _ List.mem_cons_self)) (by omega) (by omega) (fun h' a' hh' ra' => ih x hx (d + 1) s a' h' bL ra' hs.1 hs.2 (by omega) (by omega)))) rfl ?_
 rintro _ _ ⟨rfl, rfl⟩
 refine Za (v := .bool ((anyS (cnT stL (d + 1)) kids (n + 1)).1)) rfl (Pu.move rfl) ?_
 cases h15 : ((anyS (cnT stL (d + 1)) kids (n + 1)).1) with
 | true =>
  refine Zf rfl ?_
  refine Zf rfl ?_
  refine Zf rfl ?_
  refine Zf rfl ?_
  refine Za (v := .bool true) rfl (Pu.pickT rfl rfl) ?_
  refine Za (v := .bool true) rfl (Pu.assign rfl) ?_
  refine Zb ?_
  refine Zo ?_
  refine ⟨.bool true, [[(bL, .cells ⟨[.int .i64 ((anyS (cnT stL (d + 1)) kids (n + 1)).2)]⟩ 88 (0, 0))]], Ret.one rfl (RV.tmp rfl), (Sk Sub.nil), ?_⟩
  refine ⟨?_, ?_⟩ <;> rw [cnT, if_neg (by simp [stL]; omega), cnTs_any, if_pos h15]
 | false =>
  refine Za (v := .pointer (some ⟨b2, 35, none⟩)) rfl (fa27_4 rfl rfl) ?_
  refine Zd rfl (Zh ty25 rfl (At.bx 3 rfl) (pkT_35 ..) ?_)
  refine Za (v := .func (.func 89) ⟨[]⟩ ⟨[.pointer (some ⟨b1, 0, none⟩), .pointer (some ⟨b3, 0, none⟩), .pointer (some ⟨b13, 0, none⟩)]⟩) rfl (Pu.makeFunc rfl rfl) ?_
  refine JL_call1 0 rfl Tryz.call36 rfl rfl (fun hin => containsC_ct 89 [] [.pointer (some ⟨b1, 0, none⟩), .pointer (some ⟨b3, 0, none⟩), .pointer (some ⟨b13, 0, none⟩)] (fun _ _ => rfl) (fun n => [(bL, .cells ⟨[.int .i64 n]⟩ 88 (0, 0))]) (fun n => 0 ≤ n ∧ n ≤ 300) (cnC stL (d + 1)) _ _ _ (RCs.mono (Hle.hu _ _) hcv) ((anyS (cnT stL (d + 1)) kids (n + 1)).2) (anyT_keep stL_le _ _ _ (by omega) (by omega) h15) (fun x hx s hs hf => cnC_keep stL_le x _ s hs.1 hf) (fun x hx s hs a h hh ra => longC_ct x d s a h bL b1 b3 b13 ra hs.1 hs.2 (by omega) (by omega) (hh _ _ (hin 3 _ rfl _ _ List.mem_cons_self)) (hh _ _ (hin 1 _ rfl _ _ List.mem_cons_self)) (hh _ _ (hin 0 _ rfl _ _ List.mem_cons_self)) (fun s' a' h' hh' ra' k1 k2 => ih' x hx (d + 1) s' a' h' bL ra' k1 k2 (by omega) (by omega)))) rfl ?_
  rintro _ _ ⟨rfl, rfl⟩
  refine Za (v := .bool ((anyS (cnC stL (d + 1)) cases ((anyS (cnT stL (d + 1)) kids (n + 1)).2)).1)) rfl (Pu.pickF rfl rfl) ?_
  refine Za (v := .bool ((anyS (cnC stL (d + 1)) cases ((anyS (cnT stL (d + 1)) kids (n + 1)).2)).1)) rfl (Pu.assign rfl) ?_
  refine Zb ?_
  refine Zo ?_
  refine ⟨.bool ((anyS (cnC stL (d + 1)) cases ((anyS (cnT stL (d + 1)) kids (n + 1)).2)).1), [[(bL, .cells ⟨[.int .i64 ((anyS (cnC stL (d + 1)) cases ((anyS (cnT stL (d + 1)) kids (n + 1)).2)).2)]⟩ 88 (0, 0))]], Ret.one rfl (RV.tmp rfl), (Sk Sub.nil), ?_⟩
  refine ⟨?_, ?_⟩ <;> rw [cnT, if_neg (by simp [stL]; omega), cnTs_any, if_neg (by simp [h15]), cnCs_any]
end Go.Proofs.YtdeinimmmjichaaGreat.Hs
/-! The mapper without a state. -/
namespace Go.Proofs.YtdeinimmmjichaaGreat.Hs
open Go Go.Proofs
set_option maxRecDepth 100000

theorem CT.nils {P : Program} {f : FuncId} {a : Array Value} {H : Heap} {t : Tm} (h : CT P f a [] H (fun v N => ∃ cs k, v = .agg ⟨cs⟩ ∧ N = [k] ∧ OT t cs k)) :
    CT P f a [[]] H (fun v N => ∃ cs k, v = .agg ⟨cs⟩ ∧ N = [k, []] ∧ OT t cs k) := fun F w m => by
  refine (h F w (by simpa using m)).mono ?_
  rintro e w' ⟨v, N, h1, h2, cs, k, h3, h4, h5⟩
  subst h4
  exact ⟨v, [k, []], h1, by simpa using h2, cs, k, h3, rfl, h5⟩
theorem CT.unnils {P : Program} {f : FuncId} {a : Array Value} {H : Heap} {t : Tm} (h : CT P f a [[]] H (fun v N => ∃ cs k, v = .agg ⟨cs⟩ ∧ N = [k, []] ∧ OT t cs k)) :
    CT P f a [] H (fun v N => ∃ cs k, v = .agg ⟨cs⟩ ∧ N = [k] ∧ OT t cs k) := fun F w m => by
  refine (h F w (by simpa using m)).mono ?_
  rintro e w' ⟨v, N, h1, h2, cs, k, h3, h4, h5⟩
  subst h4
  exact ⟨v, [k], h1, by simpa using h2, cs, k, h3, rfl, h5⟩

theorem mapTermP_ct (gr : Nat) (frs crs : List Value) (hcallr : ∀ args w, (callFunc gr args).run Tryz.prog w = .ok (.enter gr args) w) (rf : Sm → Sm) (gv : Nat) (fvs cvs : List Value) (hcallv : ∀ args w, (callFunc gv args).run Tryz.prog w = .ok (.enter gv args) w)
    (vf : Int → Int → Tm) (t : Tm) (b : Int) (cs : List Value) (H : Heap) (ht : RT H cs t) (hz : sizeT t ≤ 1000000) (hv : vOK t) (hb0 : 0 ≤ b) (hb : b + 2 * sizeT t ≤ 2000000)
    (hgr : ∀ s h, Hle H h → CT Tryz.prog gr ⟨frs ++ [.agg ⟨sC s⟩] ++ crs⟩ [] h (fun v N => v = .agg ⟨sC (rf s)⟩ ∧ N = []))
    (hgv : ∀ (n b : Int) (h : Heap), Hle H h → 0 ≤ n → n ≤ 2000000 → 0 ≤ b → b ≤ 2000000 → CT Tryz.prog gv ⟨fvs ++ [.int .i64 n, .int .i64 b] ++ cvs⟩ [] h (fun v N => ∃ cs k, v = .agg ⟨cs⟩ ∧ N = [k] ∧ OT (vf n b) cs k)) :
    CT Tryz.prog 81 ⟨[.agg ⟨[.func (.func gv) ⟨fvs⟩ ⟨cvs⟩, .func (.func gr) ⟨frs⟩ ⟨crs⟩]⟩, .agg ⟨cs⟩, .int .i64 b]⟩ [] H (fun v N => ∃ cs k, v = .agg ⟨cs⟩ ∧ N = [k] ∧ OT (mapQ rf vf b t) cs k) :=
  CT.unnils (mapTerm_ct gr frs crs hcallr rf gv fvs cvs hcallv Unit (fun _ => []) (fun _ => True) (fun n b s => (vf n b, s)) (fun _ _ _ _ => trivial) t b () cs H ht hz hv hb0 hb trivial hgr
    (fun n b _ h hh _ h1 h2 h3 h4 => CT.nils (hgv n b h hh h1 h2 h3 h4)))
end Go.Proofs.YtdeinimmmjichaaGreat.Hs
/-! Walks, printed by a program of this session's own (gen.py). -/
namespace Go.Proofs.YtdeinimmmjichaaGreat.Hs
open Go Go.Proofs
set_option maxRecDepth 100000
set_option linter.unusedVariables false
set_option linter.unusedSimpArgs false
attribute [local irreducible] JL J CT wlo
theorem shiftedV_ct (n b dy fr : Int) (H : Heap) (bF bD : Nat) (hF : H bF = some (.cells ⟨[.int .i64 fr]⟩ 3 (0, 0))) (hD : H bD = some (.cells ⟨[.int .i64 dy]⟩ 3 (0, 0))) (hn0 : 0 ≤ n) (hn1 : n ≤ 2000000) (hb0 : 0 ≤ b) (hb1 : b ≤ 2000000) (hd0 : -2000000 ≤ dy) (hd1 : dy ≤ 2000000) : CT Tryz.prog 102 ⟨[.int .i64 n, .int .i64 b, .pointer (some ⟨bF, 0, none⟩), .pointer (some ⟨bD, 0, none⟩)]⟩ [] H (fun v N => ∃ cs k, v = .agg ⟨cs⟩ ∧ N = [k] ∧ OT (shv dy fr n b) cs k) := by
 refine Zr Tryz.func102 rfl rfl ?_
 refine Zg (Zc ?_)
 refine Zd rfl (Zn (l := pkT 0 0 zS (.slice none 0 0) (.slice none 0 0)) Tryz.zeroValue27 rfl fun b1 => ?_)
 refine Zb ?_
 refine Zg ?_
 refine Zg (Zc ?_)
 refine Za (v := .int .i64 n) rfl (Pu.move rfl) ?_
 refine Zd rfl (Zh ty3 rfl (At.im hF) rfl ?_)
 refine Za (v := .bool (decide (fr ≤ n))) rfl (Pu.geq rfl rfl) ?_
 refine Zb ?_
 refine Zl (b := decide (fr ≤ n)) rfl (fun h2 => ?_) (fun h2 => ?_)
 ·replace h2 := dt h2
  refine Zc ?_
  refine Za (v := .int .i64 n) rfl (Pu.move rfl) ?_
  refine Zd rfl (Zh ty3 rfl (At.im hD) rfl ?_)
  refine Za (v := .int .i64 (n + dy)) rfl (Pu.add64 rfl rfl (by first | omega | (constructor <;> omega))) ?_
  refine Za (v := .int .i64 (n + dy)) rfl (Pu.assign rfl) ?_
  refine Zb ?_
  refine Zg (Zc ?_)
  refine Za (v := .int .i64 (n + dy)) rfl (Pu.move rfl) ?_
  refine Za (v := .int .i64 b) rfl (Pu.move rfl) ?_
  refine Zk rfl Tryz.call79 rfl (fun hin => stay_ct _ _ _ (by unfold inI; omega)) rfl ?_
  rintro _ _ ⟨cs3, k3, rfl, rfl, hO3⟩
  refine Zd rfl (Zi 1 (vs := cs3) (l := cs3) Zt rfl rfl rfl rfl hO3.len hO3.ok (spl_a (n := 36) rfl hO3.len) ?_)
  refine Zb ?_
  refine Zo ?_
  refine ⟨.agg ⟨cs3⟩, [k3], Ret.one rfl (RV.cell Zt rfl (At.bx 1 rfl) (Zy hO3.len)), (Sk Sub.nil), ?_⟩
  have hx : shv dy fr n b = .mk 1 (n + dy + b) zS [] [] := by first | rfl | (simp only [shv]; (repeat' split) <;> first | rfl | (exfalso; omega))
  exact ⟨_, _, rfl, rfl, by rw [hx]; exact hO3⟩
 replace h2 := df h2
 refine Zq ?_
 refine Zg (Zc ?_)
 refine Za (v := .int .i64 n) rfl (Pu.move rfl) ?_
 refine Za (v := .int .i64 b) rfl (Pu.move rfl) ?_
 refine Zk rfl Tryz.call79 rfl (fun hin => stay_ct _ _ _ (by unfold inI; omega)) rfl ?_
 rintro _ _ ⟨cs4, k4, rfl, rfl, hO4⟩
 refine Zd rfl (Zi 1 (vs := cs4) (l := cs4) Zt rfl rfl rfl rfl hO4.len hO4.ok (spl_a (n := 36) rfl hO4.len) ?_)
 refine Zb ?_
 refine Zo ?_
 refine ⟨.agg ⟨cs4⟩, [k4], Ret.one rfl (RV.cell Zt rfl (At.bx 1 rfl) (Zy hO4.len)), (Sk Sub.nil), ?_⟩
 have hx : shv dy fr n b = .mk 1 (n + b) zS [] [] := by first | rfl | (simp only [shv]; (repeat' split) <;> first | rfl | (exfalso; omega))
 exact ⟨_, _, rfl, rfl, by rw [hx]; exact hO4⟩
theorem shifted_ct (t : Tm) (dy fr : Int) (cs : List Value) (H : Heap) (ht : RT H cs t) (hz : sizeT t ≤ 900000) (hv : vOK t) (hd0 : -2000000 ≤ dy) (hd1 : dy ≤ 2000000) : CT Tryz.prog 78 ⟨[.agg ⟨cs⟩, .int .i64 dy, .int .i64 fr]⟩ [] H (fun v N => ∃ cs k, v = .agg ⟨cs⟩ ∧ N = [k] ∧ OT (shT dy fr t) cs k) := by
 refine Zr Tryz.func78 rfl rfl ?_
 refine Zg (Zc ?_)
 refine Zd rfl (Zx (l := cs) rfl rfl fun b1 => ?_)
 refine Zd rfl (Zx (l := [.int .i64 dy]) rfl rfl fun b2 => ?_)
 refine Zd rfl (Zx (l := [.int .i64 fr]) rfl rfl fun b3 => ?_)
 refine Zd rfl (Zn (l := pkT 0 0 zS (.slice none 0 0) (.slice none 0 0)) Tryz.zeroValue27 rfl fun b4 => ?_)
 refine Zb ?_
 refine Zg (Zc ?_)
 refine Za (v := .func (.func 102) ⟨[]⟩ ⟨[.pointer (some ⟨b3, 0, none⟩), .pointer (some ⟨b2, 0, none⟩)]⟩) rfl (Pu.makeFunc rfl rfl) ?_
 refine Za (v := .agg ⟨[.func (.func 102) ⟨[]⟩ ⟨[.pointer (some ⟨b3, 0, none⟩), .pointer (some ⟨b2, 0, none⟩)]⟩, .func (.func 80) ⟨[]⟩ ⟨[]⟩]⟩) rfl (Pu.build (pv := [(0, .func (.func 102) ⟨[]⟩ ⟨[.pointer (some ⟨b3, 0, none⟩), .pointer (some ⟨b2, 0, none⟩)]⟩), (1, .func (.func 80) ⟨[]⟩ ⟨[]⟩)]) (l := [.func (.func 102) ⟨[]⟩ ⟨[.pointer (some ⟨b3, 0, none⟩), .pointer (some ⟨b2, 0, none⟩)]⟩, .func (.func 80) ⟨[]⟩ ⟨[]⟩]) rfl (bld118_0_1 _ _ _ _ _ _)) ?_
 refine Zd rfl (Zj Zt rfl (At.bx 3 rfl) (Zy (Zv ht)) ?_)
 refine Zk rfl Tryz.call81 rfl (fun hin => mapTermP_ct 80 [] [] Tryz.call80 (fun s => s) 102 [] [.pointer (some ⟨b3, 0, none⟩), .pointer (some ⟨b2, 0, none⟩)] Tryz.call102 (shv dy fr) _ _ _ _ (RT.mono (Hle.hu _ _) ht) (by omega) hv (by decide) (by omega) (fun s h hh => same_ct s h) (fun n b h hh h1 h2 h3 h4 => shiftedV_ct n b dy fr h b3 b2 (hh _ _ (hin 1 _ rfl _ _ List.mem_cons_self)) (hh _ _ (hin 2 _ rfl _ _ List.mem_cons_self)) h1 h2 h3 h4 hd0 hd1)) rfl ?_
 rintro _ _ ⟨cs5, k5, rfl, rfl, hO5⟩
 refine Zd rfl (Zi 1 (vs := cs5) (l := cs5) Zt rfl rfl rfl rfl hO5.len hO5.ok (spl_a (n := 36) rfl hO5.len) ?_)
 refine Zb ?_
 refine Zo ?_
 refine ⟨.agg ⟨cs5⟩, [k5], Ret.one rfl (RV.cell Zt rfl (At.bx 1 rfl) (Zy hO5.len)), (Sk Sub.nil), ?_⟩
 have hx : shT dy fr t = mapQ (fun s => s) (shv dy fr) 0 t := by first | rfl | (simp only [shT]; (repeat' split) <;> first | rfl | (exfalso; omega))
 exact ⟨_, _, rfl, rfl, by rw [hx]; exact hO5⟩
theorem substV_ct (n b m : Int) (u : Tm) (us : List Value) (H : Heap) (bN bU : Nat) (hN : H bN = some (.cells ⟨[.int .i64 m]⟩ 3 (0, 0))) (hU : H bU = some (.cells ⟨us⟩ 27 (0, 0))) (hu1 : RT H us u) (hzu : sizeT u ≤ 900000) (hvu : vOK u) (hn0 : 0 ≤ n) (hn1 : n ≤ 2000000) (hb0 : 0 ≤ b) (hb1 : b ≤ 2000000) : CT Tryz.prog 77 ⟨[.int .i64 n, .int .i64 b, .pointer (some ⟨bN, 0, none⟩), .pointer (some ⟨bU, 0, none⟩)]⟩ [] H (fun v N => ∃ cs k, v = .agg ⟨cs⟩ ∧ N = [k] ∧ OT (sbv m u n b) cs k) := by
 refine Zr Tryz.func77 rfl rfl ?_
 refine Zg (Zc ?_)
 refine Zd rfl (Zn (l := pkT 0 0 zS (.slice none 0 0) (.slice none 0 0)) Tryz.zeroValue27 rfl fun b1 => ?_)
 refine Zb ?_
 refine Zg ?_
 refine Zs ?_
 refine Zg (Zc ?_)
 refine Za (v := .int .i64 n) rfl (Pu.move rfl) ?_
 refine Zd rfl (Zh ty3 rfl (At.im hN) rfl ?_)
 refine Za (v := .bool (decide (n = m))) rfl (Pu.eql rfl rfl) ?_
 refine Za (v := .bool (decide (n = m))) rfl (Pu.assign rfl) ?_
 refine Zb ?_
 refine Zl (b := decide (n = m)) rfl (fun h2 => ?_) (fun h2 => ?_)
 ·replace h2 := dt h2
  refine Zg (Zc ?_)
  refine Zd rfl (Zj Zt rfl (At.im hU) (Zy (Zv hu1)) ?_)
  refine Za (v := .int .i64 b) rfl (Pu.move rfl) ?_
  refine Zk rfl Tryz.call78 rfl (fun hin => shifted_ct _ _ _ _ _ (RT.mono (Hle.hu _ _) hu1) hzu hvu (by omega) (by omega)) rfl ?_
  rintro _ _ ⟨cs3, k3, rfl, rfl, hO3⟩
  refine Zd rfl (Zi 1 (vs := cs3) (l := cs3) Zt rfl rfl rfl rfl hO3.len hO3.ok (spl_a (n := 36) rfl hO3.len) ?_)
  refine Zb ?_
  refine Zo ?_
  refine ⟨.agg ⟨cs3⟩, [k3], Ret.one rfl (RV.cell Zt rfl (At.bx 1 rfl) (Zy hO3.len)), (Sk Sub.nil), ?_⟩
  have hx : sbv m u n b = shT b 0 u := by first | rfl | (simp only [sbv]; (repeat' split) <;> first | rfl | (exfalso; omega))
  exact ⟨_, _, rfl, rfl, by rw [hx]; exact hO3⟩
 replace h2 := df h2
 refine Zg (Zc ?_)
 refine Za (v := .int .i64 n) rfl (Pu.move rfl) ?_
 refine Zd rfl (Zh ty3 rfl (At.im hN) rfl ?_)
 refine Za (v := .bool (decide (m < n))) rfl (Pu.gtr rfl rfl) ?_
 refine Za (v := .bool (decide (m < n))) rfl (Pu.assign rfl) ?_
 refine Zb ?_
 refine Zl (b := decide (m < n)) rfl (fun h4 => ?_) (fun h4 => ?_)
 ·replace h4 := dt h4
  refine Zc ?_
  refine Za (v := .int .i64 n) rfl (Pu.move rfl) ?_
  refine Za (v := .int .i64 (n - 1)) rfl (Pu.sub64 rfl rfl (by first | omega | (constructor <;> omega))) ?_
  refine Za (v := .int .i64 (n - 1)) rfl (Pu.assign rfl) ?_
  refine Zb ?_
  refine Zg (Zc ?_)
  refine Za (v := .int .i64 (n - 1)) rfl (Pu.move rfl) ?_
  refine Za (v := .int .i64 b) rfl (Pu.move rfl) ?_
  refine Zk rfl Tryz.call79 rfl (fun hin => stay_ct _ _ _ (by unfold inI; omega)) rfl ?_
  rintro _ _ ⟨cs5, k5, rfl, rfl, hO5⟩
  refine Zd rfl (Zi 1 (vs := cs5) (l := cs5) Zt rfl rfl rfl rfl hO5.len hO5.ok (spl_a (n := 36) rfl hO5.len) ?_)
  refine Zb ?_
  refine Zo ?_
  refine ⟨.agg ⟨cs5⟩, [k5], Ret.one rfl (RV.cell Zt rfl (At.bx 1 rfl) (Zy hO5.len)), (Sk Sub.nil), ?_⟩
  have hx : sbv m u n b = .mk 1 (n - 1 + b) zS [] [] := by first | rfl | (simp only [sbv]; (repeat' split) <;> first | rfl | (exfalso; omega))
  exact ⟨_, _, rfl, rfl, by rw [hx]; exact hO5⟩
 replace h4 := df h4
 refine Zq ?_
 refine Zg (Zc ?_)
 refine Za (v := .int .i64 n) rfl (Pu.move rfl) ?_
 refine Za (v := .int .i64 b) rfl (Pu.move rfl) ?_
 refine Zk rfl Tryz.call79 rfl (fun hin => stay_ct _ _ _ (by unfold inI; omega)) rfl ?_
 rintro _ _ ⟨cs6, k6, rfl, rfl, hO6⟩
 refine Zd rfl (Zi 1 (vs := cs6) (l := cs6) Zt rfl rfl rfl rfl hO6.len hO6.ok (spl_a (n := 36) rfl hO6.len) ?_)
 refine Zb ?_
 refine Zo ?_
 refine ⟨.agg ⟨cs6⟩, [k6], Ret.one rfl (RV.cell Zt rfl (At.bx 1 rfl) (Zy hO6.len)), (Sk Sub.nil), ?_⟩
 have hx : sbv m u n b = .mk 1 (n + b) zS [] [] := by first | rfl | (simp only [sbv]; (repeat' split) <;> first | rfl | (exfalso; omega))
 exact ⟨_, _, rfl, rfl, by rw [hx]; exact hO6⟩
theorem short_ct (t : Tm) (cs : List Value) (H : Heap) (ht : RT H cs t) : CT Tryz.prog 71 ⟨[.agg ⟨cs⟩]⟩ [] H (fun v N => v = .tuple ⟨[.agg ⟨if longB t = true then pkT 0 0 zS (.slice none 0 0) (.slice none 0 0) else cs⟩, .int .i64 (if longB t = true then 11 else 0)]⟩ ∧ N = []) := by
 refine Zr Tryz.func71 rfl rfl ?_
 refine Zg (Zc ?_)
 refine Zd rfl (Zx (l := cs) rfl rfl fun b1 => ?_)
 refine Zd rfl (Zn (l := pkT 0 0 zS (.slice none 0 0) (.slice none 0 0)) Tryz.zeroValue27 rfl fun b2 => ?_)
 refine Za (v := .int .i64 0) rfl (Pu.assign rfl) ?_
 refine Zb ?_
 refine Zg ?_
 refine Zg (Zc ?_)
 refine Za (v := .agg ⟨[.int .i64 0]⟩) rfl (Pu.build (pv := []) (l := [.int .i64 0]) rfl bld88_) ?_
 refine Zd rfl (Zx (l := [.int .i64 0]) rfl rfl fun b3 => ?_)
 refine Zd rfl (Zj Zt rfl (At.bx 2 rfl) (Zy (Zv ht)) ?_)
 refine JL_call1 0 rfl Tryz.call51 rfl rfl (fun hin => longT_ct _ _ _ _ _ _ (RT.mono (Hle.hu _ _) ht) (by omega) (by omega) (by omega) (by omega)) rfl ?_
 rintro _ _ ⟨rfl, rfl⟩
 refine Zb ?_
 refine Zl (b := (cnT stL 1 t 0).1) rfl (fun h5 => ?_) (fun h5 => ?_)
 ·refine Zg (Zc ?_)
  refine Za (v := .agg ⟨pkT 0 0 zS (.slice none 0 0) (.slice none 0 0)⟩) rfl (Pu.build (pv := []) (l := pkT 0 0 zS (.slice none 0 0) (.slice none 0 0)) rfl (bld27_ )) ?_
  refine Zd rfl (Zi 1 (vs := pkT 0 0 zS (.slice none 0 0) (.slice none 0 0)) (l := pkT 0 0 zS (.slice none 0 0) (.slice none 0 0)) Zt rfl rfl rfl rfl rfl (pkT_ok rfl rfl) (pkT_s ..) ?_)
  refine Za (v := .int .i64 11) rfl (Pu.assign rfl) ?_
  refine Zb ?_
  refine Zo ?_
  refine ⟨.tuple ⟨[.agg ⟨pkT 0 0 zS (.slice none 0 0) (.slice none 0 0)⟩, .int .i64 11]⟩, [], Ret.two rfl (RV.cell Zt rfl (At.bx 1 rfl) (pkT_a ..)) (RV.tmp rfl), Sub.nil, ?_⟩
  rw [long_eq] at h5
  exact ⟨by simp [h5], rfl⟩
 refine Zq ?_
 refine Zg (Zc ?_)
 refine Zd rfl (Zj Zt rfl (At.bx 2 rfl) (Zy (Zv ht)) ?_)
 refine Zd rfl (Zi 1 (vs := cs) (l := cs) Zt rfl rfl rfl rfl (Zv ht) (RT_ok ht) (spl_a (n := 36) rfl (Zv ht)) ?_)
 refine Za (v := .int .i64 0) rfl (Pu.assign rfl) ?_
 refine Zb ?_
 refine Zo ?_
 refine ⟨.tuple ⟨[.agg ⟨cs⟩, .int .i64 0]⟩, [], Ret.two rfl (RV.cell Zt rfl (At.bx 1 rfl) (Zy (Zv ht))) (RV.tmp rfl), Sub.nil, ?_⟩
 rw [long_eq] at h5
 exact ⟨by simp [h5], rfl⟩
end Go.Proofs.YtdeinimmmjichaaGreat.Hs
