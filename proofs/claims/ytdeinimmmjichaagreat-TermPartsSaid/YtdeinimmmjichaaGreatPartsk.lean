import Derived.Test.YtdeinimmmjichaaGreatPartsj
/-! Walks, printed by a program of this session's own (gen.py). -/
namespace Go.Proofs.YtdeinimmmjichaaGreat.Hs
open Go Go.Proofs
set_option maxRecDepth 100000
set_option linter.unusedVariables false
set_option linter.unusedSimpArgs false
attribute [local irreducible] JL J CT wlo
theorem known_ct (n b d : Int) (H : Heap) (bD : Nat) (hD : H bD = some (.cells ⟨[.int .i64 d]⟩ 3 (0, 0))) (hb0 : 0 ≤ b) (hb1 : b ≤ 1000000) (hn1 : -9223372036854775808 ≤ n) (hn2 : n ≤ 9223372036854775807) : CT Tryz.prog 54 ⟨[.int .i64 n, .int .i64 b, .pointer (some ⟨bD, 0, none⟩)]⟩ [] H (fun v N => v = .bool (knownB d n b) ∧ N = []) := by
 refine Zr Tryz.func54 rfl rfl ?_
 refine Zg (Zc ?_)
 refine Za (v := .bool false) rfl (Pu.assign rfl) ?_
 refine Zb ?_
 refine J_cut (fun ρ M => ρ 5 = .bool ((decide (0 ≤ n)) && ((decide (n < b)) || (decide (n - b < d)))) ∧ M = []) ?_ ?_
 ·refine Zc ?_
  refine Za (v := .int .i64 n) rfl (Pu.move rfl) ?_
  refine Za (v := .bool (decide (0 ≤ n))) rfl (Pu.geq rfl rfl) ?_
  refine Za (v := .bool (decide (0 ≤ n))) rfl (Pu.move rfl) ?_
  cases h1 : (decide (0 ≤ n)) with
  | true =>
   replace h1 := dt h1
   refine Za (v := .int .i64 n) rfl (Pu.move rfl) ?_
   refine Za (v := .int .i64 b) rfl (Pu.move rfl) ?_
   refine Za (v := .bool (decide (n < b))) rfl (Pu.lss rfl rfl) ?_
   refine Za (v := .bool (decide (n < b))) rfl (Pu.move rfl) ?_
   cases h2 : (decide (n < b)) with
   | true =>
    replace h2 := dt h2
    refine Zf rfl ?_
    refine Zf rfl ?_
    refine Zf rfl ?_
    refine Zf rfl ?_
    refine Zf rfl ?_
    refine Za (v := .bool true) rfl (Pu.pickT rfl rfl) ?_
    refine Za (v := .bool true) rfl (Pu.pickT rfl rfl) ?_
    refine Za (v := .bool true) rfl (Pu.assign rfl) ?_
    refine Zb ?_
    first | exact ⟨rfl, rfl⟩ | (exfalso; omega)
   | false =>
    replace h2 := df h2
    refine Za (v := .int .i64 n) rfl (Pu.move rfl) ?_
    refine Za (v := .int .i64 b) rfl (Pu.move rfl) ?_
    refine Za (v := .int .i64 (n - b)) rfl (Pu.sub64 rfl rfl (by first | omega | (constructor <;> omega))) ?_
    refine Zd rfl (Zh ty3 rfl (At.im hD) rfl ?_)
    refine Za (v := .bool (decide (n - b < d))) rfl (Pu.lss rfl rfl) ?_
    refine Za (v := .bool (decide (n - b < d))) rfl (Pu.pickF rfl rfl) ?_
    refine Za (v := .bool (decide (n - b < d))) rfl (Pu.pickT rfl rfl) ?_
    refine Za (v := .bool (decide (n - b < d))) rfl (Pu.assign rfl) ?_
    refine Zb ?_
    first | exact ⟨rfl, rfl⟩ | (exfalso; omega)
  | false =>
   replace h1 := df h1
   refine Zf rfl ?_
   refine Zf rfl ?_
   refine Zf rfl ?_
   refine Zf rfl ?_
   refine Zf rfl ?_
   refine Zf rfl ?_
   refine Zf rfl ?_
   refine Zf rfl ?_
   refine Zf rfl ?_
   refine Zf rfl ?_
   refine Za (v := .bool false) rfl (Pu.pickF rfl rfl) ?_
   refine Za (v := .bool false) rfl (Pu.assign rfl) ?_
   refine Zb ?_
   first | exact ⟨rfl, rfl⟩ | (exfalso; omega)
 rintro ρ3 _ ⟨e4, rfl⟩
 obtain ⟨ρ5, rfl⟩ := Ze (uc e4 un)
 clear e4
 refine Zo ?_
 refine ⟨.bool ((decide (0 ≤ n)) && ((decide (n < b)) || (decide (n - b < d)))), [], Ret.one rfl (RV.tmp rfl), Sub.nil, ?_⟩
 exact ⟨rfl, rfl⟩
set_option maxHeartbeats 2000000 in
theorem chkTerm_ct (kind num : Int) (ref : Sm) (ks cv : Value) (kids : List Tm) (cases : List (Pt × Tm)) (d m b : Int) (H : Heap) (bD : Nat) (hks : rdS RT 36 H ks kids) (hcv : rdS RC 71 H cv cases) (hD : H bD = some (.cells ⟨[.int .i64 d]⟩ 3 (0, 0))) (hb0 : 0 ≤ b) (hb1 : b ≤ 1000000) (hn1 : -9223372036854775808 ≤ num) (hn2 : num ≤ 9223372036854775807) : CT Tryz.prog 92 ⟨[.agg ⟨[.int .i64 m, .func (.func 54) ⟨[]⟩ ⟨[.pointer (some ⟨bD, 0, none⟩)]⟩]⟩, .agg ⟨pkT kind num ref ks cv⟩, .int .i64 b]⟩ [] H (fun v N => v = .int .i64 (tHead d m b kind num ref kids.length cases.length) ∧ N = []) := by
 refine Zr Tryz.func92 rfl rfl ?_
 refine Zg (Zc ?_)
 refine Zd rfl (Zx (l := [.int .i64 m, .func (.func 54) ⟨[]⟩ ⟨[.pointer (some ⟨bD, 0, none⟩)]⟩]) rfl rfl fun b1 => ?_)
 refine Zd rfl (Zx (l := pkT kind num ref ks cv) rfl rfl fun b2 => ?_)
 refine Za (v := .int .i64 0) rfl (Pu.assign rfl) ?_
 refine Zb ?_
 refine Zg ?_
 refine Zs ?_
 refine Zg (Zc ?_)
 refine Za (v := .pointer (some ⟨b2, 0, none⟩)) rfl (fa27_0 rfl rfl) ?_
 refine Zd rfl (Zh ty3 rfl (At.bx 0 rfl) (pkT_0 ..) ?_)
 refine Zk rfl Tryz.call76 rfl (fun hin => off_ct _ _ _ _) rfl ?_
 rintro _ _ ⟨rfl, rfl⟩
 refine Za (v := .bool (decide (kind < 1 ∨ 12 < kind))) rfl (Pu.assign rfl) ?_
 refine Zb ?_
 refine Zl (b := decide (kind < 1 ∨ 12 < kind)) rfl (fun h3 => ?_) (fun h3 => ?_)
 ·replace h3 := dt h3
  refine Zg (Zc ?_)
  refine Za (v := .int .i64 3) rfl (Pu.assign rfl) ?_
  refine Zb ?_
  refine Zo ?_
  refine ⟨.int .i64 3, [], Ret.one rfl (RV.tmp rfl), Sub.nil, ?_⟩
  exact ⟨by refine congrArg (Value.int .i64) ?_; simp only [tHead]; (repeat' split) <;> first | rfl | omega | (exfalso; simp_all; done) | (exfalso; simp_all; omega) | grind, rfl⟩
 replace h3 := df h3
 refine Zg ?_
 obtain ⟨a5, cap5, hv5⟩ := hcv.sl
 have hle5 := hcv.le
 refine J_draw mixed #[0, 1, 3, 0, 8, 0, 32, 0, 128, 384, 1023, 2047] 10 10 2 rfl (by kernel_rfl) (fun i r4 N4 => match i with | 0 => (r4 0) = .pointer (some ⟨b2, 0, none⟩) | 1 => (r4 1) = .int .i64 kind | 2 => (r4 2) = .agg ⟨[.bool (fN kind), .bool (fR kind), .bool (fC kind)]⟩ | 3 => (r4 3) = .pointer (some ⟨b2, 1, none⟩) | 4 => (r4 4) = .int .i64 num | 5 => (r4 5) = .pointer (some ⟨b2, 2, none⟩) | 6 => (r4 6) = .agg ⟨sC ref⟩ | 7 => (r4 7) = .pointer (some ⟨b2, 35, none⟩) | 8 => (r4 8) = cv | 9 => (r4 9) = .int .i64 ((cases.length : Int)) | _ => True) ⟨?_, ?_, ?_, ?_, ?_, ?_, ?_, ?_, ?_, ?_, trivial⟩ ?_
 ·intro ρ r4 N4 B hB hBa hp hr hr0
  have q4 : ρ 4 = .pointer (some ⟨b2, 0, none⟩) := hr0 4 (by kernel_rfl)
  obtain ⟨ρ6, rfl⟩ := Ze (uc q4 un)
  clear q4
  refine Za (v := .pointer (some ⟨b2, 0, none⟩)) rfl (fa27_0 rfl rfl) ?_
  refine Zb ?_
  exact ⟨.pointer (some ⟨b2, 0, none⟩), [], rfl, (Sub.emp Sub.refl), rfl⟩
 ·intro ρ r4 N4 B hB hBa hp hr hr0
  have q13 : ρ 13 = .pointer (some ⟨b2, 0, none⟩) := (hr 0 _ _ (by decide) rfl rfl rfl).trans (hp 0 (by decide) rfl)
  obtain ⟨ρ7, rfl⟩ := Ze (uc q13 un)
  clear q13
  refine Zd rfl (Zh ty3 rfl (At.bx 10 (Zu ((hB 0 (by decide)).trans rfl))) (pkT_0 ..) ?_)
  refine Zb ?_
  exact ⟨.int .i64 kind, [], rfl, (Sub.emp Sub.refl), rfl⟩
 ·intro ρ r4 N4 B hB hBa hp hr hr0
  have q14 : ρ 14 = .int .i64 kind := (hr 1 _ _ (by decide) rfl rfl rfl).trans (hp 1 (by decide) rfl)
  obtain ⟨ρ8, rfl⟩ := Ze (uc q14 un)
  clear q14
  refine Zk rfl Tryz.call110 rfl (fun hin => fields_ct _ _) rfl ?_
  rintro _ _ ⟨rfl, rfl⟩
  refine Zb ?_
  exact ⟨.agg ⟨[.bool (fN kind), .bool (fR kind), .bool (fC kind)]⟩, [], rfl, (Sub.emp Sub.refl), rfl⟩
 ·intro ρ r4 N4 B hB hBa hp hr hr0
  have q4 : ρ 4 = .pointer (some ⟨b2, 0, none⟩) := hr0 4 (by kernel_rfl)
  obtain ⟨ρ9, rfl⟩ := Ze (uc q4 un)
  clear q4
  refine Za (v := .pointer (some ⟨b2, 1, none⟩)) rfl (fa27_1 rfl rfl) ?_
  refine Zb ?_
  exact ⟨.pointer (some ⟨b2, 1, none⟩), [], rfl, (Sub.emp Sub.refl), rfl⟩
 ·intro ρ r4 N4 B hB hBa hp hr hr0
  have q16 : ρ 16 = .pointer (some ⟨b2, 1, none⟩) := (hr 3 _ _ (by decide) rfl rfl rfl).trans (hp 3 (by decide) rfl)
  obtain ⟨ρ10, rfl⟩ := Ze (uc q16 un)
  clear q16
  refine Zd rfl (Zh ty3 rfl (At.bx 10 (Zu ((hB 0 (by decide)).trans rfl))) (pkT_1 ..) ?_)
  refine Zb ?_
  exact ⟨.int .i64 num, [], rfl, (Sub.emp Sub.refl), rfl⟩
 ·intro ρ r4 N4 B hB hBa hp hr hr0
  have q4 : ρ 4 = .pointer (some ⟨b2, 0, none⟩) := hr0 4 (by kernel_rfl)
  obtain ⟨ρ11, rfl⟩ := Ze (uc q4 un)
  clear q4
  refine Za (v := .pointer (some ⟨b2, 2, none⟩)) rfl (fa27_2 rfl rfl) ?_
  refine Zb ?_
  exact ⟨.pointer (some ⟨b2, 2, none⟩), [], rfl, (Sub.emp Sub.refl), rfl⟩
 ·intro ρ r4 N4 B hB hBa hp hr hr0
  have q18 : ρ 18 = .pointer (some ⟨b2, 2, none⟩) := (hr 5 _ _ (by decide) rfl rfl rfl).trans (hp 5 (by decide) rfl)
  obtain ⟨ρ12, rfl⟩ := Ze (uc q18 un)
  clear q18
  refine Zd rfl (Zj ty23 rfl (At.bx 10 (Zu ((hB 0 (by decide)).trans rfl))) (pkT_2 ..) ?_)
  refine Zb ?_
  exact ⟨.agg ⟨sC ref⟩, [], rfl, (Sub.emp Sub.refl), rfl⟩
 ·intro ρ r4 N4 B hB hBa hp hr hr0
  have q4 : ρ 4 = .pointer (some ⟨b2, 0, none⟩) := hr0 4 (by kernel_rfl)
  obtain ⟨ρ13, rfl⟩ := Ze (uc q4 un)
  clear q4
  refine Za (v := .pointer (some ⟨b2, 35, none⟩)) rfl (fa27_4 rfl rfl) ?_
  refine Zb ?_
  exact ⟨.pointer (some ⟨b2, 35, none⟩), [], rfl, (Sub.emp Sub.refl), rfl⟩
 ·intro ρ r4 N4 B hB hBa hp hr hr0
  have q20 : ρ 20 = .pointer (some ⟨b2, 35, none⟩) := (hr 7 _ _ (by decide) rfl rfl rfl).trans (hp 7 (by decide) rfl)
  obtain ⟨ρ14, rfl⟩ := Ze (uc q20 un)
  clear q20
  refine Zd rfl (Zh ty25 rfl (At.bx 10 (Zu ((hB 0 (by decide)).trans rfl))) (pkT_35 ..) ?_)
  refine Zb ?_
  exact ⟨cv, [], rfl, (Sub.emp Sub.refl), rfl⟩
 ·intro ρ r4 N4 B hB hBa hp hr hr0
  have q21 : ρ 21 = cv := (hr 8 _ _ (by decide) rfl rfl rfl).trans (hp 8 (by decide) rfl)
  obtain ⟨ρ15, rfl⟩ := Ze (uc q21 un)
  clear q21
  refine Za (v := .int .i64 ((cases.length : Int))) rfl (Pu.lenSl Tryz.runUnderlying25 hv5) ?_
  refine Zb ?_
  exact ⟨.int .i64 ((cases.length : Int)), [], rfl, (Sub.emp Sub.refl), rfl⟩
 intro ρ r4 N4 hp hr hr0
 have q2 : ρ 2 = .int .i64 b := hr0 2 (by kernel_rfl)
 have q3 : ρ 3 = .pointer (some ⟨b1, 0, none⟩) := hr0 3 (by kernel_rfl)
 have q4 : ρ 4 = .pointer (some ⟨b2, 0, none⟩) := hr0 4 (by kernel_rfl)
 have q6 : ρ 6 = .int .i64 0 := hr0 6 (by kernel_rfl)
 have q15 : ρ 15 = .agg ⟨[.bool (fN kind), .bool (fR kind), .bool (fC kind)]⟩ := (hr 2 _ _ (by decide) rfl rfl).trans (hp 2 (by decide))
 have q17 : ρ 17 = .int .i64 num := (hr 4 _ _ (by decide) rfl rfl).trans (hp 4 (by decide))
 have q19 : ρ 19 = .agg ⟨sC ref⟩ := (hr 6 _ _ (by decide) rfl rfl).trans (hp 6 (by decide))
 have q22 : ρ 22 = .int .i64 ((cases.length : Int)) := (hr 9 _ _ (by decide) rfl rfl).trans (hp 9 (by decide))
 obtain ⟨ρ16, rfl⟩ := Ze (uc q2 (uc q3 (uc q4 (uc q6 (uc q15 (uc q17 (uc q19 (uc q22 un))))))))
 clear q2 q3 q4 q6 q15 q17 q19 q22
 clear hp hr hr0 
 refine Zw (M' := [(N4 0), (N4 1), (N4 2), (N4 3), (N4 4), (N4 5), (N4 6), (N4 7), (N4 8), (N4 9), [(b2, .cells ⟨pkT kind num ref ks cv⟩ 27 (0, 0))], [(b1, .cells ⟨[.int .i64 m, .func (.func 54) ⟨[]⟩ ⟨[.pointer (some ⟨bD, 0, none⟩)]⟩]⟩ 92 (0, 0))]]) Sub.refl ?_
 refine Zw (M' := [[(b2, .cells ⟨pkT kind num ref ks cv⟩ 27 (0, 0))], [(b1, .cells ⟨[.int .i64 m, .func (.func 54) ⟨[]⟩ ⟨[.pointer (some ⟨bD, 0, none⟩)]⟩]⟩ 92 (0, 0))]]) (Sd (Sd (Sd (Sd (Sd (Sd (Sd (Sd (Sd (Sd (Sk (Sk Sub.nil)))))))))))) ?_
 show JL _ _ _ [_, _] _ _ _
 refine Zk rfl Tryz.call109 rfl (fun hin => clash_ct _ _ _ _ _ _ _) rfl ?_
 rintro _ _ ⟨rfl, rfl⟩
 refine Za (v := .bool (clashB (fN kind) (fR kind) (fC kind) num ref ((cases.length : Int)))) rfl (Pu.assign rfl) ?_
 refine Zb ?_
 refine Zl (b := clashB (fN kind) (fR kind) (fC kind) num ref ((cases.length : Int))) rfl (fun h17 => ?_) (fun h17 => ?_)
 ·refine Zg (Zc ?_)
  refine Za (v := .int .i64 7) rfl (Pu.assign rfl) ?_
  refine Zb ?_
  refine Zo ?_
  refine ⟨.int .i64 7, [], Ret.one rfl (RV.tmp rfl), Sub.nil, ?_⟩
  exact ⟨by refine congrArg (Value.int .i64) ?_; simp only [tHead]; (repeat' split) <;> first | rfl | omega | (exfalso; simp_all; done) | (exfalso; simp_all; omega) | grind, rfl⟩
 refine J_cut (fun ρ M => ρ 2 = .int .i64 b ∧ ρ 3 = .pointer (some ⟨b1, 0, none⟩) ∧ ρ 4 = .pointer (some ⟨b2, 0, none⟩) ∧ ρ 6 = .int .i64 0 ∧ ρ 24 = .bool ((!(kidsB kind ((kids.length : Int)))) || (decide (8 < (cases.length : Int)))) ∧ M = [[(b2, .cells ⟨pkT kind num ref ks cv⟩ 27 (0, 0))], [(b1, .cells ⟨[.int .i64 m, .func (.func 54) ⟨[]⟩ ⟨[.pointer (some ⟨bD, 0, none⟩)]⟩]⟩ 92 (0, 0))]]) ?_ ?_
 ·refine Zc ?_
  refine Za (v := .pointer (some ⟨b2, 0, none⟩)) rfl (fa27_0 rfl rfl) ?_
  refine Zd rfl (Zh ty3 rfl (At.bx 0 rfl) (pkT_0 ..) ?_)
  refine Za (v := .pointer (some ⟨b2, 34, none⟩)) rfl (fa27_3 rfl rfl) ?_
  refine Zd rfl (Zh ty24 rfl (At.bx 0 rfl) (pkT_34 ..) ?_)
  obtain ⟨a18, cap18, hv18⟩ := hks.sl
  have hle18 := hks.le
  refine Za (v := .int .i64 ((kids.length : Int))) rfl (Pu.lenSl Tryz.runUnderlying24 hv18) ?_
  refine Zk rfl Tryz.call111 rfl (fun hin => kidsT_ct _ _ _) rfl ?_
  rintro _ _ ⟨rfl, rfl⟩
  refine Za (v := .bool (!(kidsB kind ((kids.length : Int))))) rfl (Pu.not rfl) ?_
  refine Za (v := .bool (!(kidsB kind ((kids.length : Int))))) rfl (Pu.move rfl) ?_
  cases h19 : (!(kidsB kind ((kids.length : Int)))) with
  | true =>
   replace h19 := nt h19
   refine Zf rfl ?_
   refine Zf rfl ?_
   refine Zf rfl ?_
   refine Zf rfl ?_
   refine Za (v := .bool true) rfl (Pu.pickT rfl rfl) ?_
   refine Za (v := .bool true) rfl (Pu.assign rfl) ?_
   refine Zb ?_
   first | exact ⟨rfl, rfl, rfl, rfl, rfl, rfl⟩ | (exfalso; omega)
  | false =>
   replace h19 := nf h19
   refine Za (v := .pointer (some ⟨b2, 35, none⟩)) rfl (fa27_4 rfl rfl) ?_
   refine Zd rfl (Zh ty25 rfl (At.bx 0 rfl) (pkT_35 ..) ?_)
   obtain ⟨a20, cap20, hv20⟩ := hcv.sl
   have hle20 := hcv.le
   refine Za (v := .int .i64 ((cases.length : Int))) rfl (Pu.lenSl Tryz.runUnderlying25 hv20) ?_
   refine Za (v := .bool (decide (8 < (cases.length : Int)))) rfl (Pu.gtr rfl rfl) ?_
   refine Za (v := .bool (decide (8 < (cases.length : Int)))) rfl (Pu.pickF rfl rfl) ?_
   refine Za (v := .bool (decide (8 < (cases.length : Int)))) rfl (Pu.assign rfl) ?_
   refine Zb ?_
   first | exact ⟨rfl, rfl, rfl, rfl, rfl, rfl⟩ | (exfalso; omega)
 rintro ρ21 _ ⟨e22, e23, e24, e25, e26, rfl⟩
 obtain ⟨ρ27, rfl⟩ := Ze (uc e22 (uc e23 (uc e24 (uc e25 (uc e26 un)))))
 clear e22 e23 e24 e25 e26
 refine Zl (b := (!(kidsB kind ((kids.length : Int)))) || (decide (8 < (cases.length : Int)))) rfl (fun h28 => ?_) (fun h28 => ?_)
 ·refine Zg (Zc ?_)
  refine Za (v := .int .i64 2) rfl (Pu.assign rfl) ?_
  refine Zb ?_
  refine Zo ?_
  refine ⟨.int .i64 2, [], Ret.one rfl (RV.tmp rfl), Sub.nil, ?_⟩
  exact ⟨by refine congrArg (Value.int .i64) ?_; simp only [tHead]; (repeat' split) <;> first | rfl | omega | (exfalso; simp_all; done) | (exfalso; simp_all; omega) | grind, rfl⟩
 obtain ⟨h28a, h28b⟩ := orF h28
 replace h28a := nf h28a
 replace h28b := df h28b
 refine Zq ?_
 refine Zg (Zc ?_)
 refine Za (v := .int .i64 1073741824) rfl (Pu.assign rfl) ?_
 refine Zb ?_
 refine Zg ?_
 refine Zg (Zc ?_)
 refine Za (v := .pointer (some ⟨b2, 0, none⟩)) rfl (fa27_0 rfl rfl) ?_
 refine Zd rfl (Zh ty3 rfl (At.bx 0 rfl) (pkT_0 ..) ?_)
 refine Zb ?_
 refine Zs ?_
 refine Zg (Zc ?_)
 refine Za (v := .bool (decide (kind = 10))) rfl (Pu.eql rfl rfl) ?_
 refine Za (v := .bool (decide (kind = 10))) rfl (Pu.assign rfl) ?_
 refine Zb ?_
 refine Zl (b := decide (kind = 10)) rfl (fun h29 => ?_) (fun h29 => ?_)
 ·replace h29 := dt h29
  refine Zg (Zc ?_)
  refine Za (v := .pointer (some ⟨b2, 1, none⟩)) rfl (fa27_1 rfl rfl) ?_
  refine Zd rfl (Zh ty3 rfl (At.bx 0 rfl) (pkT_1 ..) ?_)
  refine Zk rfl Tryz.call76 rfl (fun hin => off_ct _ _ _ _) rfl ?_
  rintro _ _ ⟨rfl, rfl⟩
  refine Zb ?_
  refine Zl (b := decide (num < 1 ∨ 5 < num)) rfl (fun h30 => ?_) (fun h30 => ?_)
  ·replace h30 := dt h30
   refine Zg (Zc ?_)
   refine Za (v := .int .i64 3) rfl (Pu.assign rfl) ?_
   refine Zb ?_
   refine Zo ?_
   refine ⟨.int .i64 3, [], Ret.one rfl (RV.tmp rfl), Sub.nil, ?_⟩
   exact ⟨by refine congrArg (Value.int .i64) ?_; simp only [tHead]; (repeat' split) <;> first | rfl | omega | (exfalso; simp_all; done) | (exfalso; simp_all; omega) | grind, rfl⟩
  replace h30 := df h30
  refine Zq ?_
  refine Zg ?_
  refine J_cut (fun ρ M => ρ 6 = .int .i64 0 ∧ ρ 87 = .bool ((((decide (kind = 2)) || (decide (kind = 8))) || (decide (kind = 11))) && (decide (num < 0 ∨ 1073741824 < num))) ∧ M = [[(b2, .cells ⟨pkT kind num ref ks cv⟩ 27 (0, 0))], [(b1, .cells ⟨[.int .i64 m, .func (.func 54) ⟨[]⟩ ⟨[.pointer (some ⟨bD, 0, none⟩)]⟩]⟩ 92 (0, 0))]]) ?_ ?_
  ·refine Zc ?_
   refine Za (v := .pointer (some ⟨b2, 0, none⟩)) rfl (fa27_0 rfl rfl) ?_
   refine Zd rfl (Zh ty3 rfl (At.bx 0 rfl) (pkT_0 ..) ?_)
   refine Za (v := .bool (decide (kind = 2))) rfl (Pu.eql rfl rfl) ?_
   refine Za (v := .bool (decide (kind = 2))) rfl (Pu.move rfl) ?_
   cases h31 : (decide (kind = 2)) with
   | true =>
    replace h31 := dt h31
    refine Zf rfl ?_
    refine Zf rfl ?_
    refine Zf rfl ?_
    refine Za (v := .bool true) rfl (Pu.pickT rfl rfl) ?_
    refine Za (v := .bool true) rfl (Pu.move rfl) ?_
    refine Zf rfl ?_
    refine Zf rfl ?_
    refine Zf rfl ?_
    refine Za (v := .bool true) rfl (Pu.pickT rfl rfl) ?_
    refine Za (v := .bool true) rfl (Pu.move rfl) ?_
    refine Za (v := .pointer (some ⟨b2, 1, none⟩)) rfl (fa27_1 rfl rfl) ?_
    refine Zd rfl (Zh ty3 rfl (At.bx 0 rfl) (pkT_1 ..) ?_)
    refine Za (v := .int .i64 1073741824) rfl (Pu.move rfl) ?_
    refine Zk rfl Tryz.call76 rfl (fun hin => off_ct _ _ _ _) rfl ?_
    rintro _ _ ⟨rfl, rfl⟩
    refine Za (v := .bool (decide (num < 0 ∨ 1073741824 < num))) rfl (Pu.pickT rfl rfl) ?_
    refine Zb ?_
    first | exact ⟨rfl, rfl, rfl⟩ | (exfalso; omega)
   | false =>
    replace h31 := df h31
    refine Za (v := .pointer (some ⟨b2, 0, none⟩)) rfl (fa27_0 rfl rfl) ?_
    refine Zd rfl (Zh ty3 rfl (At.bx 0 rfl) (pkT_0 ..) ?_)
    refine Za (v := .bool (decide (kind = 8))) rfl (Pu.eql rfl rfl) ?_
    refine Za (v := .bool (decide (kind = 8))) rfl (Pu.pickF rfl rfl) ?_
    refine Za (v := .bool (decide (kind = 8))) rfl (Pu.move rfl) ?_
    cases h32 : (decide (kind = 8)) with
    | true =>
     replace h32 := dt h32
     refine Zf rfl ?_
     refine Zf rfl ?_
     refine Zf rfl ?_
     refine Za (v := .bool true) rfl (Pu.pickT rfl rfl) ?_
     refine Za (v := .bool true) rfl (Pu.move rfl) ?_
     refine Za (v := .pointer (some ⟨b2, 1, none⟩)) rfl (fa27_1 rfl rfl) ?_
     refine Zd rfl (Zh ty3 rfl (At.bx 0 rfl) (pkT_1 ..) ?_)
     refine Za (v := .int .i64 1073741824) rfl (Pu.move rfl) ?_
     refine Zk rfl Tryz.call76 rfl (fun hin => off_ct _ _ _ _) rfl ?_
     rintro _ _ ⟨rfl, rfl⟩
     refine Za (v := .bool (decide (num < 0 ∨ 1073741824 < num))) rfl (Pu.pickT rfl rfl) ?_
     refine Zb ?_
     first | exact ⟨rfl, rfl, rfl⟩ | (exfalso; omega)
    | false =>
     replace h32 := df h32
     refine Za (v := .pointer (some ⟨b2, 0, none⟩)) rfl (fa27_0 rfl rfl) ?_
     refine Zd rfl (Zh ty3 rfl (At.bx 0 rfl) (pkT_0 ..) ?_)
     refine Za (v := .bool (decide (kind = 11))) rfl (Pu.eql rfl rfl) ?_
     refine Za (v := .bool (decide (kind = 11))) rfl (Pu.pickF rfl rfl) ?_
     refine Za (v := .bool (decide (kind = 11))) rfl (Pu.move rfl) ?_
     cases h33 : (decide (kind = 11)) with
     | true =>
      replace h33 := dt h33
      refine Za (v := .pointer (some ⟨b2, 1, none⟩)) rfl (fa27_1 rfl rfl) ?_
      refine Zd rfl (Zh ty3 rfl (At.bx 0 rfl) (pkT_1 ..) ?_)
      refine Za (v := .int .i64 1073741824) rfl (Pu.move rfl) ?_
      refine Zk rfl Tryz.call76 rfl (fun hin => off_ct _ _ _ _) rfl ?_
      rintro _ _ ⟨rfl, rfl⟩
      refine Za (v := .bool (decide (num < 0 ∨ 1073741824 < num))) rfl (Pu.pickT rfl rfl) ?_
      refine Zb ?_
      first | exact ⟨rfl, rfl, rfl⟩ | (exfalso; omega)
     | false =>
      replace h33 := df h33
      refine Zf rfl ?_
      refine Zf rfl ?_
      refine Zf rfl ?_
      refine Zf rfl ?_
      refine Za (v := .bool false) rfl (Pu.pickF rfl rfl) ?_
      refine Zb ?_
      first | exact ⟨rfl, rfl, rfl⟩ | (exfalso; omega)
  rintro ρ34 _ ⟨e35, e36, rfl⟩
  obtain ⟨ρ37, rfl⟩ := Ze (uc e35 (uc e36 un))
  clear e35 e36
  refine Zl (b := (((decide (kind = 2)) || (decide (kind = 8))) || (decide (kind = 11))) && (decide (num < 0 ∨ 1073741824 < num))) rfl (fun h38 => ?_) (fun h38 => ?_)
  ·obtain ⟨h38a, h38b⟩ := andT h38
   replace h38b := dt h38b
   refine Zg (Zc ?_)
   refine Za (v := .int .i64 3) rfl (Pu.assign rfl) ?_
   refine Zb ?_
   refine Zo ?_
   refine ⟨.int .i64 3, [], Ret.one rfl (RV.tmp rfl), Sub.nil, ?_⟩
   exact ⟨by refine congrArg (Value.int .i64) ?_; simp only [tHead]; (repeat' split) <;> first | rfl | omega | (exfalso; simp_all; done) | (exfalso; simp_all; omega) | grind, rfl⟩
  refine Zq ?_
  refine Zg (Zc ?_)
  refine Za (v := .int .i64 0) rfl (Pu.assign rfl) ?_
  refine Zb ?_
  refine Zo ?_
  refine ⟨.int .i64 0, [], Ret.one rfl (RV.tmp rfl), Sub.nil, ?_⟩
  exact ⟨by refine congrArg (Value.int .i64) ?_; simp only [tHead]; (repeat' split) <;> first | rfl | omega | (exfalso; simp_all; done) | (exfalso; simp_all; omega) | grind, rfl⟩
 replace h29 := df h29
 refine Zg ?_
 refine Zg (Zc ?_)
 refine Za (v := .bool (decide (kind = 8))) rfl (Pu.eql rfl rfl) ?_
 refine Za (v := .bool (decide (kind = 8))) rfl (Pu.assign rfl) ?_
 refine Zb ?_
 refine Zl (b := decide (kind = 8)) rfl (fun h39 => ?_) (fun h39 => ?_)
 ·replace h39 := dt h39
  refine Zq ?_
  refine Zl (b := decide (kind = 8)) rfl (fun _ => ?_) (fun h40 => absurd h39 (df h40))
  refine Zc ?_
  refine Za (v := .int .i64 7) rfl (Pu.assign rfl) ?_
  refine Zb ?_
  refine Zg ?_
  refine J_cut (fun ρ M => ρ 6 = .int .i64 0 ∧ ρ 87 = .bool ((((decide (kind = 2)) || (decide (kind = 8))) || (decide (kind = 11))) && (decide (num < 0 ∨ 7 < num))) ∧ M = [[(b2, .cells ⟨pkT kind num ref ks cv⟩ 27 (0, 0))], [(b1, .cells ⟨[.int .i64 m, .func (.func 54) ⟨[]⟩ ⟨[.pointer (some ⟨bD, 0, none⟩)]⟩]⟩ 92 (0, 0))]]) ?_ ?_
  ·refine Zc ?_
   refine Za (v := .pointer (some ⟨b2, 0, none⟩)) rfl (fa27_0 rfl rfl) ?_
   refine Zd rfl (Zh ty3 rfl (At.bx 0 rfl) (pkT_0 ..) ?_)
   refine Za (v := .bool (decide (kind = 2))) rfl (Pu.eql rfl rfl) ?_
   refine Za (v := .bool (decide (kind = 2))) rfl (Pu.move rfl) ?_
   cases h41 : (decide (kind = 2)) with
   | true =>
    replace h41 := dt h41
    refine Zf rfl ?_
    refine Zf rfl ?_
    refine Zf rfl ?_
    refine Za (v := .bool true) rfl (Pu.pickT rfl rfl) ?_
    refine Za (v := .bool true) rfl (Pu.move rfl) ?_
    refine Zf rfl ?_
    refine Zf rfl ?_
    refine Zf rfl ?_
    refine Za (v := .bool true) rfl (Pu.pickT rfl rfl) ?_
    refine Za (v := .bool true) rfl (Pu.move rfl) ?_
    refine Za (v := .pointer (some ⟨b2, 1, none⟩)) rfl (fa27_1 rfl rfl) ?_
    refine Zd rfl (Zh ty3 rfl (At.bx 0 rfl) (pkT_1 ..) ?_)
    refine Za (v := .int .i64 7) rfl (Pu.move rfl) ?_
    refine Zk rfl Tryz.call76 rfl (fun hin => off_ct _ _ _ _) rfl ?_
    rintro _ _ ⟨rfl, rfl⟩
    refine Za (v := .bool (decide (num < 0 ∨ 7 < num))) rfl (Pu.pickT rfl rfl) ?_
    refine Zb ?_
    first | exact ⟨rfl, rfl, rfl⟩ | (exfalso; omega)
   | false =>
    replace h41 := df h41
    refine Za (v := .pointer (some ⟨b2, 0, none⟩)) rfl (fa27_0 rfl rfl) ?_
    refine Zd rfl (Zh ty3 rfl (At.bx 0 rfl) (pkT_0 ..) ?_)
    refine Za (v := .bool (decide (kind = 8))) rfl (Pu.eql rfl rfl) ?_
    refine Za (v := .bool (decide (kind = 8))) rfl (Pu.pickF rfl rfl) ?_
    refine Za (v := .bool (decide (kind = 8))) rfl (Pu.move rfl) ?_
    cases h42 : (decide (kind = 8)) with
    | true =>
     replace h42 := dt h42
     refine Zf rfl ?_
     refine Zf rfl ?_
     refine Zf rfl ?_
     refine Za (v := .bool true) rfl (Pu.pickT rfl rfl) ?_
     refine Za (v := .bool true) rfl (Pu.move rfl) ?_
     refine Za (v := .pointer (some ⟨b2, 1, none⟩)) rfl (fa27_1 rfl rfl) ?_
     refine Zd rfl (Zh ty3 rfl (At.bx 0 rfl) (pkT_1 ..) ?_)
     refine Za (v := .int .i64 7) rfl (Pu.move rfl) ?_
     refine Zk rfl Tryz.call76 rfl (fun hin => off_ct _ _ _ _) rfl ?_
     rintro _ _ ⟨rfl, rfl⟩
     refine Za (v := .bool (decide (num < 0 ∨ 7 < num))) rfl (Pu.pickT rfl rfl) ?_
     refine Zb ?_
     first | exact ⟨rfl, rfl, rfl⟩ | (exfalso; omega)
    | false =>
     replace h42 := df h42
     refine Za (v := .pointer (some ⟨b2, 0, none⟩)) rfl (fa27_0 rfl rfl) ?_
     refine Zd rfl (Zh ty3 rfl (At.bx 0 rfl) (pkT_0 ..) ?_)
     refine Za (v := .bool (decide (kind = 11))) rfl (Pu.eql rfl rfl) ?_
     refine Za (v := .bool (decide (kind = 11))) rfl (Pu.pickF rfl rfl) ?_
     refine Za (v := .bool (decide (kind = 11))) rfl (Pu.move rfl) ?_
     cases h43 : (decide (kind = 11)) with
     | true =>
      replace h43 := dt h43
      refine Za (v := .pointer (some ⟨b2, 1, none⟩)) rfl (fa27_1 rfl rfl) ?_
      refine Zd rfl (Zh ty3 rfl (At.bx 0 rfl) (pkT_1 ..) ?_)
      refine Za (v := .int .i64 7) rfl (Pu.move rfl) ?_
      refine Zk rfl Tryz.call76 rfl (fun hin => off_ct _ _ _ _) rfl ?_
      rintro _ _ ⟨rfl, rfl⟩
      refine Za (v := .bool (decide (num < 0 ∨ 7 < num))) rfl (Pu.pickT rfl rfl) ?_
      refine Zb ?_
      first | exact ⟨rfl, rfl, rfl⟩ | (exfalso; omega)
     | false =>
      replace h43 := df h43
      refine Zf rfl ?_
      refine Zf rfl ?_
      refine Zf rfl ?_
      refine Zf rfl ?_
      refine Za (v := .bool false) rfl (Pu.pickF rfl rfl) ?_
      refine Zb ?_
      first | exact ⟨rfl, rfl, rfl⟩ | (exfalso; omega)
  rintro ρ44 _ ⟨e45, e46, rfl⟩
  obtain ⟨ρ47, rfl⟩ := Ze (uc e45 (uc e46 un))
  clear e45 e46
  refine Zl (b := (((decide (kind = 2)) || (decide (kind = 8))) || (decide (kind = 11))) && (decide (num < 0 ∨ 7 < num))) rfl (fun h48 => ?_) (fun h48 => ?_)
  ·obtain ⟨h48a, h48b⟩ := andT h48
   replace h48b := dt h48b
   refine Zg (Zc ?_)
   refine Za (v := .int .i64 3) rfl (Pu.assign rfl) ?_
   refine Zb ?_
   refine Zo ?_
   refine ⟨.int .i64 3, [], Ret.one rfl (RV.tmp rfl), Sub.nil, ?_⟩
   exact ⟨by refine congrArg (Value.int .i64) ?_; simp only [tHead]; (repeat' split) <;> first | rfl | omega | (exfalso; simp_all; done) | (exfalso; simp_all; omega) | grind, rfl⟩
  refine Zq ?_
  refine Zg (Zc ?_)
  refine Za (v := .int .i64 0) rfl (Pu.assign rfl) ?_
  refine Zb ?_
  refine Zo ?_
  refine ⟨.int .i64 0, [], Ret.one rfl (RV.tmp rfl), Sub.nil, ?_⟩
  exact ⟨by refine congrArg (Value.int .i64) ?_; simp only [tHead]; (repeat' split) <;> first | rfl | omega | (exfalso; simp_all; done) | (exfalso; simp_all; omega) | grind, rfl⟩
 replace h39 := df h39
 refine Zc ?_
 refine Za (v := .bool (decide (kind = 11))) rfl (Pu.eql rfl rfl) ?_
 refine Za (v := .bool (decide (kind = 11))) rfl (Pu.assign rfl) ?_
 refine Zb ?_
 refine Zl (b := decide (kind = 11)) rfl (fun h49 => ?_) (fun h49 => ?_)
 ·replace h49 := dt h49
  refine Zc ?_
  refine Za (v := .int .i64 7) rfl (Pu.assign rfl) ?_
  refine Zb ?_
  refine Zg ?_
  refine J_cut (fun ρ M => ρ 6 = .int .i64 0 ∧ ρ 87 = .bool ((((decide (kind = 2)) || (decide (kind = 8))) || (decide (kind = 11))) && (decide (num < 0 ∨ 7 < num))) ∧ M = [[(b2, .cells ⟨pkT kind num ref ks cv⟩ 27 (0, 0))], [(b1, .cells ⟨[.int .i64 m, .func (.func 54) ⟨[]⟩ ⟨[.pointer (some ⟨bD, 0, none⟩)]⟩]⟩ 92 (0, 0))]]) ?_ ?_
  ·refine Zc ?_
   refine Za (v := .pointer (some ⟨b2, 0, none⟩)) rfl (fa27_0 rfl rfl) ?_
   refine Zd rfl (Zh ty3 rfl (At.bx 0 rfl) (pkT_0 ..) ?_)
   refine Za (v := .bool (decide (kind = 2))) rfl (Pu.eql rfl rfl) ?_
   refine Za (v := .bool (decide (kind = 2))) rfl (Pu.move rfl) ?_
   cases h50 : (decide (kind = 2)) with
   | true =>
    replace h50 := dt h50
    refine Zf rfl ?_
    refine Zf rfl ?_
    refine Zf rfl ?_
    refine Za (v := .bool true) rfl (Pu.pickT rfl rfl) ?_
    refine Za (v := .bool true) rfl (Pu.move rfl) ?_
    refine Zf rfl ?_
    refine Zf rfl ?_
    refine Zf rfl ?_
    refine Za (v := .bool true) rfl (Pu.pickT rfl rfl) ?_
    refine Za (v := .bool true) rfl (Pu.move rfl) ?_
    refine Za (v := .pointer (some ⟨b2, 1, none⟩)) rfl (fa27_1 rfl rfl) ?_
    refine Zd rfl (Zh ty3 rfl (At.bx 0 rfl) (pkT_1 ..) ?_)
    refine Za (v := .int .i64 7) rfl (Pu.move rfl) ?_
    refine Zk rfl Tryz.call76 rfl (fun hin => off_ct _ _ _ _) rfl ?_
    rintro _ _ ⟨rfl, rfl⟩
    refine Za (v := .bool (decide (num < 0 ∨ 7 < num))) rfl (Pu.pickT rfl rfl) ?_
    refine Zb ?_
    first | exact ⟨rfl, rfl, rfl⟩ | (exfalso; omega)
   | false =>
    replace h50 := df h50
    refine Za (v := .pointer (some ⟨b2, 0, none⟩)) rfl (fa27_0 rfl rfl) ?_
    refine Zd rfl (Zh ty3 rfl (At.bx 0 rfl) (pkT_0 ..) ?_)
    refine Za (v := .bool (decide (kind = 8))) rfl (Pu.eql rfl rfl) ?_
    refine Za (v := .bool (decide (kind = 8))) rfl (Pu.pickF rfl rfl) ?_
    refine Za (v := .bool (decide (kind = 8))) rfl (Pu.move rfl) ?_
    cases h51 : (decide (kind = 8)) with
    | true =>
     replace h51 := dt h51
     refine Zf rfl ?_
     refine Zf rfl ?_
     refine Zf rfl ?_
     refine Za (v := .bool true) rfl (Pu.pickT rfl rfl) ?_
     refine Za (v := .bool true) rfl (Pu.move rfl) ?_
     refine Za (v := .pointer (some ⟨b2, 1, none⟩)) rfl (fa27_1 rfl rfl) ?_
     refine Zd rfl (Zh ty3 rfl (At.bx 0 rfl) (pkT_1 ..) ?_)
     refine Za (v := .int .i64 7) rfl (Pu.move rfl) ?_
     refine Zk rfl Tryz.call76 rfl (fun hin => off_ct _ _ _ _) rfl ?_
     rintro _ _ ⟨rfl, rfl⟩
     refine Za (v := .bool (decide (num < 0 ∨ 7 < num))) rfl (Pu.pickT rfl rfl) ?_
     refine Zb ?_
     first | exact ⟨rfl, rfl, rfl⟩ | (exfalso; omega)
    | false =>
     replace h51 := df h51
     refine Za (v := .pointer (some ⟨b2, 0, none⟩)) rfl (fa27_0 rfl rfl) ?_
     refine Zd rfl (Zh ty3 rfl (At.bx 0 rfl) (pkT_0 ..) ?_)
     refine Za (v := .bool (decide (kind = 11))) rfl (Pu.eql rfl rfl) ?_
     refine Za (v := .bool (decide (kind = 11))) rfl (Pu.pickF rfl rfl) ?_
     refine Za (v := .bool (decide (kind = 11))) rfl (Pu.move rfl) ?_
     cases h52 : (decide (kind = 11)) with
     | true =>
      replace h52 := dt h52
      refine Za (v := .pointer (some ⟨b2, 1, none⟩)) rfl (fa27_1 rfl rfl) ?_
      refine Zd rfl (Zh ty3 rfl (At.bx 0 rfl) (pkT_1 ..) ?_)
      refine Za (v := .int .i64 7) rfl (Pu.move rfl) ?_
      refine Zk rfl Tryz.call76 rfl (fun hin => off_ct _ _ _ _) rfl ?_
      rintro _ _ ⟨rfl, rfl⟩
      refine Za (v := .bool (decide (num < 0 ∨ 7 < num))) rfl (Pu.pickT rfl rfl) ?_
      refine Zb ?_
      first | exact ⟨rfl, rfl, rfl⟩ | (exfalso; omega)
     | false =>
      replace h52 := df h52
      refine Zf rfl ?_
      refine Zf rfl ?_
      refine Zf rfl ?_
      refine Zf rfl ?_
      refine Za (v := .bool false) rfl (Pu.pickF rfl rfl) ?_
      refine Zb ?_
      first | exact ⟨rfl, rfl, rfl⟩ | (exfalso; omega)
  rintro ρ53 _ ⟨e54, e55, rfl⟩
  obtain ⟨ρ56, rfl⟩ := Ze (uc e54 (uc e55 un))
  clear e54 e55
  refine Zl (b := (((decide (kind = 2)) || (decide (kind = 8))) || (decide (kind = 11))) && (decide (num < 0 ∨ 7 < num))) rfl (fun h57 => ?_) (fun h57 => ?_)
  ·obtain ⟨h57a, h57b⟩ := andT h57
   replace h57b := dt h57b
   refine Zg (Zc ?_)
   refine Za (v := .int .i64 3) rfl (Pu.assign rfl) ?_
   refine Zb ?_
   refine Zo ?_
   refine ⟨.int .i64 3, [], Ret.one rfl (RV.tmp rfl), Sub.nil, ?_⟩
   exact ⟨by refine congrArg (Value.int .i64) ?_; simp only [tHead]; (repeat' split) <;> first | rfl | omega | (exfalso; simp_all; done) | (exfalso; simp_all; omega) | grind, rfl⟩
  refine Zq ?_
  refine Zg (Zc ?_)
  refine Za (v := .int .i64 0) rfl (Pu.assign rfl) ?_
  refine Zb ?_
  refine Zo ?_
  refine ⟨.int .i64 0, [], Ret.one rfl (RV.tmp rfl), Sub.nil, ?_⟩
  exact ⟨by refine congrArg (Value.int .i64) ?_; simp only [tHead]; (repeat' split) <;> first | rfl | omega | (exfalso; simp_all; done) | (exfalso; simp_all; omega) | grind, rfl⟩
 replace h49 := df h49
 refine Zg (Zc ?_)
 refine Za (v := .bool (decide (kind = 1))) rfl (Pu.eql rfl rfl) ?_
 refine Za (v := .bool (decide (kind = 1))) rfl (Pu.assign rfl) ?_
 refine Zb ?_
 refine Zl (b := decide (kind = 1)) rfl (fun h58 => ?_) (fun h58 => ?_)
 ·replace h58 := dt h58
  refine Zg (Zc ?_)
  refine Za (v := .pointer (some ⟨b1, 1, none⟩)) rfl (fa92_1 rfl rfl) ?_
  refine Zd rfl (Zh ty90 rfl (At.bx 1 rfl) rfl ?_)
  refine Za (v := .pointer (some ⟨b2, 1, none⟩)) rfl (fa27_1 rfl rfl) ?_
  refine Zd rfl (Zh ty3 rfl (At.bx 0 rfl) (pkT_1 ..) ?_)
  refine Za (v := .int .i64 b) rfl (Pu.move rfl) ?_
  refine Zk rfl Tryz.call54 rfl (fun hin => known_ct _ _ _ _ bD (Hle.hu _ _ _ _ hD) hb0 hb1 hn1 hn2) rfl ?_
  rintro _ _ ⟨rfl, rfl⟩
  refine Za (v := .bool (!(knownB d num b))) rfl (Pu.not rfl) ?_
  refine Zb ?_
  refine Zl (b := !(knownB d num b)) rfl (fun h59 => ?_) (fun h59 => ?_)
  ·replace h59 := nt h59
   refine Zg (Zc ?_)
   refine Za (v := .int .i64 1) rfl (Pu.assign rfl) ?_
   refine Zb ?_
   refine Zo ?_
   refine ⟨.int .i64 1, [], Ret.one rfl (RV.tmp rfl), Sub.nil, ?_⟩
   exact ⟨by refine congrArg (Value.int .i64) ?_; simp only [tHead]; (repeat' split) <;> first | rfl | omega | (exfalso; simp_all; done) | (exfalso; simp_all; omega) | grind, rfl⟩
  replace h59 := nf h59
  refine Zq ?_
  refine Zg ?_
  refine J_cut (fun ρ M => ρ 6 = .int .i64 0 ∧ ρ 87 = .bool ((((decide (kind = 2)) || (decide (kind = 8))) || (decide (kind = 11))) && (decide (num < 0 ∨ 1073741824 < num))) ∧ M = [[(b2, .cells ⟨pkT kind num ref ks cv⟩ 27 (0, 0))], [(b1, .cells ⟨[.int .i64 m, .func (.func 54) ⟨[]⟩ ⟨[.pointer (some ⟨bD, 0, none⟩)]⟩]⟩ 92 (0, 0))]]) ?_ ?_
  ·refine Zc ?_
   refine Za (v := .pointer (some ⟨b2, 0, none⟩)) rfl (fa27_0 rfl rfl) ?_
   refine Zd rfl (Zh ty3 rfl (At.bx 0 rfl) (pkT_0 ..) ?_)
   refine Za (v := .bool (decide (kind = 2))) rfl (Pu.eql rfl rfl) ?_
   refine Za (v := .bool (decide (kind = 2))) rfl (Pu.move rfl) ?_
   cases h60 : (decide (kind = 2)) with
   | true =>
    replace h60 := dt h60
    refine Zf rfl ?_
    refine Zf rfl ?_
    refine Zf rfl ?_
    refine Za (v := .bool true) rfl (Pu.pickT rfl rfl) ?_
    refine Za (v := .bool true) rfl (Pu.move rfl) ?_
    refine Zf rfl ?_
    refine Zf rfl ?_
    refine Zf rfl ?_
    refine Za (v := .bool true) rfl (Pu.pickT rfl rfl) ?_
    refine Za (v := .bool true) rfl (Pu.move rfl) ?_
    refine Za (v := .pointer (some ⟨b2, 1, none⟩)) rfl (fa27_1 rfl rfl) ?_
    refine Zd rfl (Zh ty3 rfl (At.bx 0 rfl) (pkT_1 ..) ?_)
    refine Za (v := .int .i64 1073741824) rfl (Pu.move rfl) ?_
    refine Zk rfl Tryz.call76 rfl (fun hin => off_ct _ _ _ _) rfl ?_
    rintro _ _ ⟨rfl, rfl⟩
    refine Za (v := .bool (decide (num < 0 ∨ 1073741824 < num))) rfl (Pu.pickT rfl rfl) ?_
    refine Zb ?_
    first | exact ⟨rfl, rfl, rfl⟩ | (exfalso; omega)
   | false =>
    replace h60 := df h60
    refine Za (v := .pointer (some ⟨b2, 0, none⟩)) rfl (fa27_0 rfl rfl) ?_
    refine Zd rfl (Zh ty3 rfl (At.bx 0 rfl) (pkT_0 ..) ?_)
    refine Za (v := .bool (decide (kind = 8))) rfl (Pu.eql rfl rfl) ?_
    refine Za (v := .bool (decide (kind = 8))) rfl (Pu.pickF rfl rfl) ?_
    refine Za (v := .bool (decide (kind = 8))) rfl (Pu.move rfl) ?_
    cases h61 : (decide (kind = 8)) with
    | true =>
     replace h61 := dt h61
     refine Zf rfl ?_
     refine Zf rfl ?_
     refine Zf rfl ?_
     refine Za (v := .bool true) rfl (Pu.pickT rfl rfl) ?_
     refine Za (v := .bool true) rfl (Pu.move rfl) ?_
     refine Za (v := .pointer (some ⟨b2, 1, none⟩)) rfl (fa27_1 rfl rfl) ?_
     refine Zd rfl (Zh ty3 rfl (At.bx 0 rfl) (pkT_1 ..) ?_)
     refine Za (v := .int .i64 1073741824) rfl (Pu.move rfl) ?_
     refine Zk rfl Tryz.call76 rfl (fun hin => off_ct _ _ _ _) rfl ?_
     rintro _ _ ⟨rfl, rfl⟩
     refine Za (v := .bool (decide (num < 0 ∨ 1073741824 < num))) rfl (Pu.pickT rfl rfl) ?_
     refine Zb ?_
     first | exact ⟨rfl, rfl, rfl⟩ | (exfalso; omega)
    | false =>
     replace h61 := df h61
     refine Za (v := .pointer (some ⟨b2, 0, none⟩)) rfl (fa27_0 rfl rfl) ?_
     refine Zd rfl (Zh ty3 rfl (At.bx 0 rfl) (pkT_0 ..) ?_)
     refine Za (v := .bool (decide (kind = 11))) rfl (Pu.eql rfl rfl) ?_
     refine Za (v := .bool (decide (kind = 11))) rfl (Pu.pickF rfl rfl) ?_
     refine Za (v := .bool (decide (kind = 11))) rfl (Pu.move rfl) ?_
     cases h62 : (decide (kind = 11)) with
     | true =>
      replace h62 := dt h62
      refine Za (v := .pointer (some ⟨b2, 1, none⟩)) rfl (fa27_1 rfl rfl) ?_
      refine Zd rfl (Zh ty3 rfl (At.bx 0 rfl) (pkT_1 ..) ?_)
      refine Za (v := .int .i64 1073741824) rfl (Pu.move rfl) ?_
      refine Zk rfl Tryz.call76 rfl (fun hin => off_ct _ _ _ _) rfl ?_
      rintro _ _ ⟨rfl, rfl⟩
      refine Za (v := .bool (decide (num < 0 ∨ 1073741824 < num))) rfl (Pu.pickT rfl rfl) ?_
      refine Zb ?_
      first | exact ⟨rfl, rfl, rfl⟩ | (exfalso; omega)
     | false =>
      replace h62 := df h62
      refine Zf rfl ?_
      refine Zf rfl ?_
      refine Zf rfl ?_
      refine Zf rfl ?_
      refine Za (v := .bool false) rfl (Pu.pickF rfl rfl) ?_
      refine Zb ?_
      first | exact ⟨rfl, rfl, rfl⟩ | (exfalso; omega)
  rintro ρ63 _ ⟨e64, e65, rfl⟩
  obtain ⟨ρ66, rfl⟩ := Ze (uc e64 (uc e65 un))
  clear e64 e65
  refine Zl (b := (((decide (kind = 2)) || (decide (kind = 8))) || (decide (kind = 11))) && (decide (num < 0 ∨ 1073741824 < num))) rfl (fun h67 => ?_) (fun h67 => ?_)
  ·obtain ⟨h67a, h67b⟩ := andT h67
   replace h67b := dt h67b
   refine Zg (Zc ?_)
   refine Za (v := .int .i64 3) rfl (Pu.assign rfl) ?_
   refine Zb ?_
   refine Zo ?_
   refine ⟨.int .i64 3, [], Ret.one rfl (RV.tmp rfl), Sub.nil, ?_⟩
   exact ⟨by refine congrArg (Value.int .i64) ?_; simp only [tHead]; (repeat' split) <;> first | rfl | omega | (exfalso; simp_all; done) | (exfalso; simp_all; omega) | grind, rfl⟩
  refine Zq ?_
  refine Zg (Zc ?_)
  refine Za (v := .int .i64 0) rfl (Pu.assign rfl) ?_
  refine Zb ?_
  refine Zo ?_
  refine ⟨.int .i64 0, [], Ret.one rfl (RV.tmp rfl), Sub.nil, ?_⟩
  exact ⟨by refine congrArg (Value.int .i64) ?_; simp only [tHead]; (repeat' split) <;> first | rfl | omega | (exfalso; simp_all; done) | (exfalso; simp_all; omega) | grind, rfl⟩
 replace h58 := df h58
 refine Zg (Zc ?_)
 refine Za (v := .bool (decide (kind = 7))) rfl (Pu.eql rfl rfl) ?_
 refine Za (v := .bool (decide (kind = 7))) rfl (Pu.assign rfl) ?_
 refine Zb ?_
 refine Zl (b := decide (kind = 7)) rfl (fun h68 => ?_) (fun h68 => ?_)
 ·replace h68 := dt h68
  refine J_cut (fun ρ M => ρ 4 = .pointer (some ⟨b2, 0, none⟩) ∧ ρ 6 = .int .i64 0 ∧ ρ 7 = .int .i64 1073741824 ∧ ρ 68 = .bool ((decide (num < 0)) || (decide (m ≤ num))) ∧ M = [[(b2, .cells ⟨pkT kind num ref ks cv⟩ 27 (0, 0))], [(b1, .cells ⟨[.int .i64 m, .func (.func 54) ⟨[]⟩ ⟨[.pointer (some ⟨bD, 0, none⟩)]⟩]⟩ 92 (0, 0))]]) ?_ ?_
  ·refine Zc ?_
   refine Za (v := .pointer (some ⟨b2, 1, none⟩)) rfl (fa27_1 rfl rfl) ?_
   refine Zd rfl (Zh ty3 rfl (At.bx 0 rfl) (pkT_1 ..) ?_)
   refine Za (v := .bool (decide (num < 0))) rfl (Pu.lss rfl rfl) ?_
   refine Za (v := .bool (decide (num < 0))) rfl (Pu.move rfl) ?_
   cases h69 : (decide (num < 0)) with
   | true =>
    replace h69 := dt h69
    refine Zf rfl ?_
    refine Zf rfl ?_
    refine Zf rfl ?_
    refine Zf rfl ?_
    refine Zf rfl ?_
    refine Za (v := .bool true) rfl (Pu.pickT rfl rfl) ?_
    refine Zb ?_
    first | exact ⟨rfl, rfl, rfl, rfl, rfl⟩ | (exfalso; omega)
   | false =>
    replace h69 := df h69
    refine Za (v := .pointer (some ⟨b2, 1, none⟩)) rfl (fa27_1 rfl rfl) ?_
    refine Zd rfl (Zh ty3 rfl (At.bx 0 rfl) (pkT_1 ..) ?_)
    refine Za (v := .pointer (some ⟨b1, 0, none⟩)) rfl (fa92_0 rfl rfl) ?_
    refine Zd rfl (Zh ty3 rfl (At.bx 1 rfl) rfl ?_)
    refine Za (v := .bool (decide (m ≤ num))) rfl (Pu.geq rfl rfl) ?_
    refine Za (v := .bool (decide (m ≤ num))) rfl (Pu.pickF rfl rfl) ?_
    refine Zb ?_
    first | exact ⟨rfl, rfl, rfl, rfl, rfl⟩ | (exfalso; omega)
  rintro ρ70 _ ⟨e71, e72, e73, e74, rfl⟩
  obtain ⟨ρ75, rfl⟩ := Ze (uc e71 (uc e72 (uc e73 (uc e74 un))))
  clear e71 e72 e73 e74
  refine Zl (b := (decide (num < 0)) || (decide (m ≤ num))) rfl (fun h76 => ?_) (fun h76 => ?_)
  ·refine Zg (Zc ?_)
   refine Za (v := .int .i64 1) rfl (Pu.assign rfl) ?_
   refine Zb ?_
   refine Zo ?_
   refine ⟨.int .i64 1, [], Ret.one rfl (RV.tmp rfl), Sub.nil, ?_⟩
   exact ⟨by refine congrArg (Value.int .i64) ?_; simp only [tHead]; (repeat' split) <;> first | rfl | omega | (exfalso; simp_all; done) | (exfalso; simp_all; omega) | grind, rfl⟩
  obtain ⟨h76a, h76b⟩ := orF h76
  replace h76a := df h76a
  replace h76b := df h76b
  refine Zq ?_
  refine Zg ?_
  refine J_cut (fun ρ M => ρ 6 = .int .i64 0 ∧ ρ 87 = .bool ((((decide (kind = 2)) || (decide (kind = 8))) || (decide (kind = 11))) && (decide (num < 0 ∨ 1073741824 < num))) ∧ M = [[(b2, .cells ⟨pkT kind num ref ks cv⟩ 27 (0, 0))], [(b1, .cells ⟨[.int .i64 m, .func (.func 54) ⟨[]⟩ ⟨[.pointer (some ⟨bD, 0, none⟩)]⟩]⟩ 92 (0, 0))]]) ?_ ?_
  ·refine Zc ?_
   refine Za (v := .pointer (some ⟨b2, 0, none⟩)) rfl (fa27_0 rfl rfl) ?_
   refine Zd rfl (Zh ty3 rfl (At.bx 0 rfl) (pkT_0 ..) ?_)
   refine Za (v := .bool (decide (kind = 2))) rfl (Pu.eql rfl rfl) ?_
   refine Za (v := .bool (decide (kind = 2))) rfl (Pu.move rfl) ?_
   cases h77 : (decide (kind = 2)) with
   | true =>
    replace h77 := dt h77
    refine Zf rfl ?_
    refine Zf rfl ?_
    refine Zf rfl ?_
    refine Za (v := .bool true) rfl (Pu.pickT rfl rfl) ?_
    refine Za (v := .bool true) rfl (Pu.move rfl) ?_
    refine Zf rfl ?_
    refine Zf rfl ?_
    refine Zf rfl ?_
    refine Za (v := .bool true) rfl (Pu.pickT rfl rfl) ?_
    refine Za (v := .bool true) rfl (Pu.move rfl) ?_
    refine Za (v := .pointer (some ⟨b2, 1, none⟩)) rfl (fa27_1 rfl rfl) ?_
    refine Zd rfl (Zh ty3 rfl (At.bx 0 rfl) (pkT_1 ..) ?_)
    refine Za (v := .int .i64 1073741824) rfl (Pu.move rfl) ?_
    refine Zk rfl Tryz.call76 rfl (fun hin => off_ct _ _ _ _) rfl ?_
    rintro _ _ ⟨rfl, rfl⟩
    refine Za (v := .bool (decide (num < 0 ∨ 1073741824 < num))) rfl (Pu.pickT rfl rfl) ?_
    refine Zb ?_
    first | exact ⟨rfl, rfl, rfl⟩ | (exfalso; omega)
   | false =>
    replace h77 := df h77
    refine Za (v := .pointer (some ⟨b2, 0, none⟩)) rfl (fa27_0 rfl rfl) ?_
    refine Zd rfl (Zh ty3 rfl (At.bx 0 rfl) (pkT_0 ..) ?_)
    refine Za (v := .bool (decide (kind = 8))) rfl (Pu.eql rfl rfl) ?_
    refine Za (v := .bool (decide (kind = 8))) rfl (Pu.pickF rfl rfl) ?_
    refine Za (v := .bool (decide (kind = 8))) rfl (Pu.move rfl) ?_
    cases h78 : (decide (kind = 8)) with
    | true =>
     replace h78 := dt h78
     refine Zf rfl ?_
     refine Zf rfl ?_
     refine Zf rfl ?_
     refine Za (v := .bool true) rfl (Pu.pickT rfl rfl) ?_
     refine Za (v := .bool true) rfl (Pu.move rfl) ?_
     refine Za (v := .pointer (some ⟨b2, 1, none⟩)) rfl (fa27_1 rfl rfl) ?_
     refine Zd rfl (Zh ty3 rfl (At.bx 0 rfl) (pkT_1 ..) ?_)
     refine Za (v := .int .i64 1073741824) rfl (Pu.move rfl) ?_
     refine Zk rfl Tryz.call76 rfl (fun hin => off_ct _ _ _ _) rfl ?_
     rintro _ _ ⟨rfl, rfl⟩
     refine Za (v := .bool (decide (num < 0 ∨ 1073741824 < num))) rfl (Pu.pickT rfl rfl) ?_
     refine Zb ?_
     first | exact ⟨rfl, rfl, rfl⟩ | (exfalso; omega)
    | false =>
     replace h78 := df h78
     refine Za (v := .pointer (some ⟨b2, 0, none⟩)) rfl (fa27_0 rfl rfl) ?_
     refine Zd rfl (Zh ty3 rfl (At.bx 0 rfl) (pkT_0 ..) ?_)
     refine Za (v := .bool (decide (kind = 11))) rfl (Pu.eql rfl rfl) ?_
     refine Za (v := .bool (decide (kind = 11))) rfl (Pu.pickF rfl rfl) ?_
     refine Za (v := .bool (decide (kind = 11))) rfl (Pu.move rfl) ?_
     cases h79 : (decide (kind = 11)) with
     | true =>
      replace h79 := dt h79
      refine Za (v := .pointer (some ⟨b2, 1, none⟩)) rfl (fa27_1 rfl rfl) ?_
      refine Zd rfl (Zh ty3 rfl (At.bx 0 rfl) (pkT_1 ..) ?_)
      refine Za (v := .int .i64 1073741824) rfl (Pu.move rfl) ?_
      refine Zk rfl Tryz.call76 rfl (fun hin => off_ct _ _ _ _) rfl ?_
      rintro _ _ ⟨rfl, rfl⟩
      refine Za (v := .bool (decide (num < 0 ∨ 1073741824 < num))) rfl (Pu.pickT rfl rfl) ?_
      refine Zb ?_
      first | exact ⟨rfl, rfl, rfl⟩ | (exfalso; omega)
     | false =>
      replace h79 := df h79
      refine Zf rfl ?_
      refine Zf rfl ?_
      refine Zf rfl ?_
      refine Zf rfl ?_
      refine Za (v := .bool false) rfl (Pu.pickF rfl rfl) ?_
      refine Zb ?_
      first | exact ⟨rfl, rfl, rfl⟩ | (exfalso; omega)
  rintro ρ80 _ ⟨e81, e82, rfl⟩
  obtain ⟨ρ83, rfl⟩ := Ze (uc e81 (uc e82 un))
  clear e81 e82
  refine Zl (b := (((decide (kind = 2)) || (decide (kind = 8))) || (decide (kind = 11))) && (decide (num < 0 ∨ 1073741824 < num))) rfl (fun h84 => ?_) (fun h84 => ?_)
  ·obtain ⟨h84a, h84b⟩ := andT h84
   replace h84b := dt h84b
   refine Zg (Zc ?_)
   refine Za (v := .int .i64 3) rfl (Pu.assign rfl) ?_
   refine Zb ?_
   refine Zo ?_
   refine ⟨.int .i64 3, [], Ret.one rfl (RV.tmp rfl), Sub.nil, ?_⟩
   exact ⟨by refine congrArg (Value.int .i64) ?_; simp only [tHead]; (repeat' split) <;> first | rfl | omega | (exfalso; simp_all; done) | (exfalso; simp_all; omega) | grind, rfl⟩
  refine Zq ?_
  refine Zg (Zc ?_)
  refine Za (v := .int .i64 0) rfl (Pu.assign rfl) ?_
  refine Zb ?_
  refine Zo ?_
  refine ⟨.int .i64 0, [], Ret.one rfl (RV.tmp rfl), Sub.nil, ?_⟩
  exact ⟨by refine congrArg (Value.int .i64) ?_; simp only [tHead]; (repeat' split) <;> first | rfl | omega | (exfalso; simp_all; done) | (exfalso; simp_all; omega) | grind, rfl⟩
 replace h68 := df h68
 refine Zq ?_
 refine Zg ?_
 refine J_cut (fun ρ M => ρ 6 = .int .i64 0 ∧ ρ 87 = .bool ((((decide (kind = 2)) || (decide (kind = 8))) || (decide (kind = 11))) && (decide (num < 0 ∨ 1073741824 < num))) ∧ M = [[(b2, .cells ⟨pkT kind num ref ks cv⟩ 27 (0, 0))], [(b1, .cells ⟨[.int .i64 m, .func (.func 54) ⟨[]⟩ ⟨[.pointer (some ⟨bD, 0, none⟩)]⟩]⟩ 92 (0, 0))]]) ?_ ?_
 ·refine Zc ?_
  refine Za (v := .pointer (some ⟨b2, 0, none⟩)) rfl (fa27_0 rfl rfl) ?_
  refine Zd rfl (Zh ty3 rfl (At.bx 0 rfl) (pkT_0 ..) ?_)
  refine Za (v := .bool (decide (kind = 2))) rfl (Pu.eql rfl rfl) ?_
  refine Za (v := .bool (decide (kind = 2))) rfl (Pu.move rfl) ?_
  cases h85 : (decide (kind = 2)) with
  | true =>
   replace h85 := dt h85
   refine Zf rfl ?_
   refine Zf rfl ?_
   refine Zf rfl ?_
   refine Za (v := .bool true) rfl (Pu.pickT rfl rfl) ?_
   refine Za (v := .bool true) rfl (Pu.move rfl) ?_
   refine Zf rfl ?_
   refine Zf rfl ?_
   refine Zf rfl ?_
   refine Za (v := .bool true) rfl (Pu.pickT rfl rfl) ?_
   refine Za (v := .bool true) rfl (Pu.move rfl) ?_
   refine Za (v := .pointer (some ⟨b2, 1, none⟩)) rfl (fa27_1 rfl rfl) ?_
   refine Zd rfl (Zh ty3 rfl (At.bx 0 rfl) (pkT_1 ..) ?_)
   refine Za (v := .int .i64 1073741824) rfl (Pu.move rfl) ?_
   refine Zk rfl Tryz.call76 rfl (fun hin => off_ct _ _ _ _) rfl ?_
   rintro _ _ ⟨rfl, rfl⟩
   refine Za (v := .bool (decide (num < 0 ∨ 1073741824 < num))) rfl (Pu.pickT rfl rfl) ?_
   refine Zb ?_
   first | exact ⟨rfl, rfl, rfl⟩ | (exfalso; omega)
  | false =>
   replace h85 := df h85
   refine Za (v := .pointer (some ⟨b2, 0, none⟩)) rfl (fa27_0 rfl rfl) ?_
   refine Zd rfl (Zh ty3 rfl (At.bx 0 rfl) (pkT_0 ..) ?_)
   refine Za (v := .bool (decide (kind = 8))) rfl (Pu.eql rfl rfl) ?_
   refine Za (v := .bool (decide (kind = 8))) rfl (Pu.pickF rfl rfl) ?_
   refine Za (v := .bool (decide (kind = 8))) rfl (Pu.move rfl) ?_
   cases h86 : (decide (kind = 8)) with
   | true =>
    replace h86 := dt h86
    refine Zf rfl ?_
    refine Zf rfl ?_
    refine Zf rfl ?_
    refine Za (v := .bool true) rfl (Pu.pickT rfl rfl) ?_
    refine Za (v := .bool true) rfl (Pu.move rfl) ?_
    refine Za (v := .pointer (some ⟨b2, 1, none⟩)) rfl (fa27_1 rfl rfl) ?_
    refine Zd rfl (Zh ty3 rfl (At.bx 0 rfl) (pkT_1 ..) ?_)
    refine Za (v := .int .i64 1073741824) rfl (Pu.move rfl) ?_
    refine Zk rfl Tryz.call76 rfl (fun hin => off_ct _ _ _ _) rfl ?_
    rintro _ _ ⟨rfl, rfl⟩
    refine Za (v := .bool (decide (num < 0 ∨ 1073741824 < num))) rfl (Pu.pickT rfl rfl) ?_
    refine Zb ?_
    first | exact ⟨rfl, rfl, rfl⟩ | (exfalso; omega)
   | false =>
    replace h86 := df h86
    refine Za (v := .pointer (some ⟨b2, 0, none⟩)) rfl (fa27_0 rfl rfl) ?_
    refine Zd rfl (Zh ty3 rfl (At.bx 0 rfl) (pkT_0 ..) ?_)
    refine Za (v := .bool (decide (kind = 11))) rfl (Pu.eql rfl rfl) ?_
    refine Za (v := .bool (decide (kind = 11))) rfl (Pu.pickF rfl rfl) ?_
    refine Za (v := .bool (decide (kind = 11))) rfl (Pu.move rfl) ?_
    cases h87 : (decide (kind = 11)) with
    | true =>
     replace h87 := dt h87
     refine Za (v := .pointer (some ⟨b2, 1, none⟩)) rfl (fa27_1 rfl rfl) ?_
     refine Zd rfl (Zh ty3 rfl (At.bx 0 rfl) (pkT_1 ..) ?_)
     refine Za (v := .int .i64 1073741824) rfl (Pu.move rfl) ?_
     refine Zk rfl Tryz.call76 rfl (fun hin => off_ct _ _ _ _) rfl ?_
     rintro _ _ ⟨rfl, rfl⟩
     refine Za (v := .bool (decide (num < 0 ∨ 1073741824 < num))) rfl (Pu.pickT rfl rfl) ?_
     refine Zb ?_
     first | exact ⟨rfl, rfl, rfl⟩ | (exfalso; omega)
    | false =>
     replace h87 := df h87
     refine Zf rfl ?_
     refine Zf rfl ?_
     refine Zf rfl ?_
     refine Zf rfl ?_
     refine Za (v := .bool false) rfl (Pu.pickF rfl rfl) ?_
     refine Zb ?_
     first | exact ⟨rfl, rfl, rfl⟩ | (exfalso; omega)
 rintro ρ88 _ ⟨e89, e90, rfl⟩
 obtain ⟨ρ91, rfl⟩ := Ze (uc e89 (uc e90 un))
 clear e89 e90
 refine Zl (b := (((decide (kind = 2)) || (decide (kind = 8))) || (decide (kind = 11))) && (decide (num < 0 ∨ 1073741824 < num))) rfl (fun h92 => ?_) (fun h92 => ?_)
 ·obtain ⟨h92a, h92b⟩ := andT h92
  replace h92b := dt h92b
  refine Zg (Zc ?_)
  refine Za (v := .int .i64 3) rfl (Pu.assign rfl) ?_
  refine Zb ?_
  refine Zo ?_
  refine ⟨.int .i64 3, [], Ret.one rfl (RV.tmp rfl), Sub.nil, ?_⟩
  exact ⟨by refine congrArg (Value.int .i64) ?_; simp only [tHead]; (repeat' split) <;> first | rfl | omega | (exfalso; simp_all; done) | (exfalso; simp_all; omega) | grind, rfl⟩
 refine Zq ?_
 refine Zg (Zc ?_)
 refine Za (v := .int .i64 0) rfl (Pu.assign rfl) ?_
 refine Zb ?_
 refine Zo ?_
 refine ⟨.int .i64 0, [], Ret.one rfl (RV.tmp rfl), Sub.nil, ?_⟩
 exact ⟨by refine congrArg (Value.int .i64) ?_; simp only [tHead]; (repeat' split) <;> first | rfl | omega | (exfalso; simp_all; done) | (exfalso; simp_all; omega) | grind, rfl⟩
end Go.Proofs.YtdeinimmmjichaaGreat.Hs
/-! Walks, printed by a program of this session's own (gen.py). -/
namespace Go.Proofs.YtdeinimmmjichaaGreat.Hs
open Go Go.Proofs
set_option maxRecDepth 100000
set_option linter.unusedVariables false
set_option linter.unusedSimpArgs false
attribute [local irreducible] JL J CT wlo
theorem parts_ct (cs : List Value) (H : Heap) (hl : cs.length = 36) : CT Tryz.prog 68 ⟨[.agg ⟨cs⟩]⟩ [] H (fun v N => ∃ b, v = .func (.func 100) ⟨[]⟩ ⟨[.pointer (some ⟨b, 0, none⟩)]⟩ ∧ N = [[(b, .cells ⟨cs⟩ 27 (0, 0))]]) := by
 refine Zr Tryz.func68 rfl rfl ?_
 refine Zg (Zc ?_)
 refine Zd rfl (Zx (l := cs) rfl rfl fun b1 => ?_)
 refine Za (v := .nilFunc) rfl (Pu.assign rfl) ?_
 refine Zb ?_
 refine Zg (Zc ?_)
 refine Za (v := .func (.func 100) ⟨[]⟩ ⟨[.pointer (some ⟨b1, 0, none⟩)]⟩) rfl (Pu.makeFunc rfl rfl) ?_
 refine Za (v := .func (.func 100) ⟨[]⟩ ⟨[.pointer (some ⟨b1, 0, none⟩)]⟩) rfl (Pu.assign rfl) ?_
 refine Zb ?_
 refine Zo ?_
 refine ⟨.func (.func 100) ⟨[]⟩ ⟨[.pointer (some ⟨b1, 0, none⟩)]⟩, [[(b1, .cells ⟨cs⟩ 27 (0, 0))]], Ret.one rfl (RV.tmp rfl), (Sk Sub.nil), ?_⟩
 exact ⟨_, rfl, rfl⟩
theorem parts1_ct (kind num : Int) (ref : Sm) (ks cv : Value) (kids : List Tm) (cases : List (Pt × Tm)) (H : Heap) (bT : Nat) (hks : rdS RT 36 H ks kids) (hcv : rdS RC 71 H cv cases) (hT : H bT = some (.cells ⟨pkT kind num ref ks cv⟩ 27 (0, 0))) (hsz : ∀ c ∈ cases, binds c.1 ≤ 1000000) (hkl : kids.length ≤ 1000000) (hcl : cases.length ≤ 1000000) (l : Nat) {σ : Type} (yc : σ → Zm) (Inv : σ → Prop) (step : Tm → Int → σ → Bool × σ) (s0 : σ) (h0 : Inv s0) (It : Tm → Int → Prop) (hIK : ∀ (j : Nat) (hj : j < kids.length), It kids[j] (more kind j)) (hIC : ∀ (j : Nat) (hj : j < cases.length), It cases[j].2 (binds cases[j].1 : Int)) (hI : ∀ x mo s, Inv s → (step x mo s).1 = true → Inv (step x mo s).2) (hy : ∀ x mo, It x mo → ∀ s (i : Int) a h, Inv s → Hle H h → RT h a x → YT Tryz.prog l ⟨[.int .i64 i, .agg ⟨a ++ [.int .i64 mo]⟩]⟩ [yc s] h (fun v N => v = .bool (step x mo s).1 ∧ N = [yc (step x mo s).2])) : CT Tryz.prog 100 ⟨[.func (.yield l) ⟨[]⟩ ⟨[]⟩, .pointer (some ⟨bT, 0, none⟩)]⟩ [yc s0] H (fun _ N => N = [yc (yP step kind kids cases s0)]) := by
 refine Zr Tryz.func100 rfl rfl ?_
 refine Zg ?_
 refine Zg (Zc ?_)
 refine Za (v := .pointer (some ⟨bT, 34, none⟩)) rfl (fa27_3 rfl rfl) ?_
 refine Zd rfl (Zh ty24 rfl (At.im hT) (pkT_34 ..) ?_)
 obtain ⟨a1, cap1, hv1⟩ := hks.sl
 have hle1 := hks.le
 refine Za (v := .int .i64 ((kids.length : Int))) rfl (Pu.lenSl Tryz.runUnderlying24 hv1) ?_
 refine Za (v := .int .i64 0) rfl (Pu.move rfl) ?_
 refine Zb ?_
 refine Zs ?_
 refine J_loop (fun k ρ M => ∃ (j : Nat) (s : σ), ρ 0 = .func (.yield l) ⟨[]⟩ ⟨[]⟩ ∧ ρ 1 = .pointer (some ⟨bT, 0, none⟩) ∧ ρ 8 = ks ∧ ρ 9 = .int .i64 ((kids.length : Int)) ∧ ρ 10 = .int .i64 ((j : Int)) ∧ Sub [yc s] M ∧ j ≤ kids.length ∧ Inv s ∧ yK step kind j (kids.drop j) s = yK step kind 0 kids s0 ∧ k = kids.length - j) _ ⟨0, s0, rfl, rfl, rfl, rfl, rfl, (Sk Sub.nil), Nat.zero_le _, h0, rfl, rfl⟩ ?_
 rintro _ ρ2 _ ⟨j, s, e3, e4, e5, e6, e7, hm8, hj, hs, hinv, rfl⟩
 obtain ⟨ρ9, rfl⟩ := Ze (uc e3 (uc e4 (uc e5 (uc e6 (uc e7 un)))))
 clear e3 e4 e5 e6 e7
 refine J_sub hm8 ?_
 have hlen := hks.le
 refine Zg (Zc ?_)
 refine Za (v := .bool (decide ((j : Int) < (kids.length : Int)))) rfl (Pu.lss rfl rfl) ?_
 refine Zb ?_
 refine Zg ?_
 refine Zl (b := decide ((j : Int) < (kids.length : Int))) rfl (fun h10 => ?_) (fun h10 => ?_)
 ·replace h10 := dt h10
  have h10n : j < kids.length := by omega
  refine Zq ?_
  refine Zg ?_
  refine Zs ?_
  refine Zg (Zc ?_)
  refine Za (v := .int .i64 ((j : Int))) rfl (Pu.move rfl) ?_
  obtain ⟨b11, o11, cap11, row11, T11, fr11, cs11, hv11, hb11, hs11, hE11⟩ := hks.get j (by first | assumption | omega | decide | simp)
  refine Za (v := .pointer (some ⟨b11, o11 + j * 36, none⟩)) rfl (Pu.idx j Tryz.runUnderlying24 Zt hv11 rfl rfl (by first | assumption | omega | decide | simp)) ?_
  refine Zd rfl (Zj Zt rfl (At.im hb11) hs11 ?_)
  refine Zd rfl (Zn (l := pkT 0 0 zS (.slice none 0 0) (.slice none 0 0)) Tryz.zeroValue27 rfl fun b12 => ?_)
  refine Za (v := .int .i64 ((j : Int))) rfl (Pu.assign rfl) ?_
  refine Zd rfl (Zi 0 (vs := cs11) (l := cs11) Zt rfl rfl rfl rfl (Zv hE11) (RT_ok hE11) (spl_a (n := 36) rfl (Zv hE11)) ?_)
  refine Zb ?_
  refine Zg ?_
  refine J_draw mixed #[0, 0, 0, 0, 8, 0, 56, 124, 255, 511] 8 8 2 rfl (by kernel_rfl) (fun i r13 N13 => match i with | 0 => (r13 0) = .func (.yield l) ⟨[]⟩ ⟨[]⟩ | 1 => (r13 1) = .int .i64 ((j : Int)) | 2 => (r13 2) = .agg ⟨cs11⟩ | 3 => (r13 3) = .pointer (some ⟨bT, 0, none⟩) | 4 => (r13 4) = .int .i64 kind | 5 => (r13 5) = .int .i64 ((j : Int)) | 6 => (r13 6) = .int .i64 (more kind ((j : Int))) | 7 => (r13 7) = .agg ⟨cs11 ++ ([.int .i64 (more kind ((j : Int)))] : List Value)⟩ | _ => True) ⟨?_, ?_, ?_, ?_, ?_, ?_, ?_, ?_, trivial⟩ ?_
  ·intro ρ r13 N13 B hB hBa hp hr hr0
   have q0 : ρ 0 = .func (.yield l) ⟨[]⟩ ⟨[]⟩ := hr0 0 (by kernel_rfl)
   obtain ⟨ρ14, rfl⟩ := Ze (uc q0 un)
   clear q0
   refine Za (v := .func (.yield l) ⟨[]⟩ ⟨[]⟩) rfl (Pu.move rfl) ?_
   refine Zb ?_
   exact ⟨.func (.yield l) ⟨[]⟩ ⟨[]⟩, [], rfl, (Sub.emp Sub.refl), rfl⟩
  ·intro ρ r13 N13 B hB hBa hp hr hr0
   have q3 : ρ 3 = .int .i64 ((j : Int)) := hr0 3 (by kernel_rfl)
   obtain ⟨ρ15, rfl⟩ := Ze (uc q3 un)
   clear q3
   refine Za (v := .int .i64 ((j : Int))) rfl (Pu.move rfl) ?_
   refine Zb ?_
   exact ⟨.int .i64 ((j : Int)), [], rfl, (Sub.emp Sub.refl), rfl⟩
  ·intro ρ r13 N13 B hB hBa hp hr hr0
   have q4 : ρ 4 = .pointer (some ⟨b12, 0, none⟩) := hr0 4 (by kernel_rfl)
   obtain ⟨ρ16, rfl⟩ := Ze (uc q4 un)
   clear q4
   refine Zd rfl (Zj Zt rfl (At.bx 8 (Zu ((hB 0 (by decide)).trans rfl))) (Zy (Zv hE11)) ?_)
   refine Zb ?_
   exact ⟨.agg ⟨cs11⟩, [], rfl, (Sub.emp Sub.refl), rfl⟩
  ·intro ρ r13 N13 B hB hBa hp hr hr0
   have q1 : ρ 1 = .pointer (some ⟨bT, 0, none⟩) := hr0 1 (by kernel_rfl)
   obtain ⟨ρ17, rfl⟩ := Ze (uc q1 un)
   clear q1
   refine Za (v := .pointer (some ⟨bT, 0, none⟩)) rfl (fa27_0 rfl rfl) ?_
   refine Zb ?_
   exact ⟨.pointer (some ⟨bT, 0, none⟩), [], rfl, (Sub.emp Sub.refl), rfl⟩
  ·intro ρ r13 N13 B hB hBa hp hr hr0
   have q18 : ρ 18 = .pointer (some ⟨bT, 0, none⟩) := (hr 3 _ _ (by decide) rfl rfl rfl).trans (hp 3 (by decide) rfl)
   obtain ⟨ρ18, rfl⟩ := Ze (uc q18 un)
   clear q18
   refine Zd rfl (Zh ty3 rfl (At.im hT) (pkT_0 ..) ?_)
   refine Zb ?_
   exact ⟨.int .i64 kind, [], rfl, (Sub.emp Sub.refl), rfl⟩
  ·intro ρ r13 N13 B hB hBa hp hr hr0
   have q3 : ρ 3 = .int .i64 ((j : Int)) := hr0 3 (by kernel_rfl)
   obtain ⟨ρ19, rfl⟩ := Ze (uc q3 un)
   clear q3
   refine Za (v := .int .i64 ((j : Int))) rfl (Pu.move rfl) ?_
   refine Zb ?_
   exact ⟨.int .i64 ((j : Int)), [], rfl, (Sub.emp Sub.refl), rfl⟩
  ·intro ρ r13 N13 B hB hBa hp hr hr0
   have q19 : ρ 19 = .int .i64 kind := (hr 4 _ _ (by decide) rfl rfl rfl).trans (hp 4 (by decide) rfl)
   have q20 : ρ 20 = .int .i64 ((j : Int)) := (hr 5 _ _ (by decide) rfl rfl rfl).trans (hp 5 (by decide) rfl)
   obtain ⟨ρ20, rfl⟩ := Ze (uc q19 (uc q20 un))
   clear q19 q20
   refine Zk rfl Tryz.call101 rfl (fun hin => more_ct _ _ _) rfl ?_
   rintro _ _ ⟨rfl, rfl⟩
   refine Zb ?_
   exact ⟨.int .i64 (more kind ((j : Int))), [], rfl, (Sub.emp Sub.refl), rfl⟩
  ·intro ρ r13 N13 B hB hBa hp hr hr0
   have q17 : ρ 17 = .agg ⟨cs11⟩ := (hr 2 _ _ (by decide) rfl rfl rfl).trans (hp 2 (by decide) rfl)
   have q21 : ρ 21 = .int .i64 (more kind ((j : Int))) := (hr 6 _ _ (by decide) rfl rfl rfl).trans (hp 6 (by decide) rfl)
   obtain ⟨ρ21, rfl⟩ := Ze (uc q17 (uc q21 un))
   clear q17 q21
   refine Za (v := .agg ⟨cs11 ++ ([.int .i64 (more kind ((j : Int)))] : List Value)⟩) rfl (Pu.build (pv := [(0, .agg ⟨cs11⟩), (1, .int .i64 (more kind ((j : Int))))]) (l := cs11 ++ ([.int .i64 (more kind ((j : Int)))] : List Value)) rfl (bld105_0_1 (Zv hE11))) ?_
   refine Zb ?_
   exact ⟨.agg ⟨cs11 ++ ([.int .i64 (more kind ((j : Int)))] : List Value)⟩, [], rfl, (Sub.emp Sub.refl), rfl⟩
  intro ρ r13 N13 hp hr hr0
  have q0 : ρ 0 = .func (.yield l) ⟨[]⟩ ⟨[]⟩ := hr0 0 (by kernel_rfl)
  have q1 : ρ 1 = .pointer (some ⟨bT, 0, none⟩) := hr0 1 (by kernel_rfl)
  have q8 : ρ 8 = ks := hr0 8 (by kernel_rfl)
  have q9 : ρ 9 = .int .i64 ((kids.length : Int)) := hr0 9 (by kernel_rfl)
  have q10 : ρ 10 = .int .i64 ((j : Int)) := hr0 10 (by kernel_rfl)
  have q15 : ρ 15 = .func (.yield l) ⟨[]⟩ ⟨[]⟩ := (hr 0 _ _ (by decide) rfl rfl).trans (hp 0 (by decide))
  have q16 : ρ 16 = .int .i64 ((j : Int)) := (hr 1 _ _ (by decide) rfl rfl).trans (hp 1 (by decide))
  have q22 : ρ 22 = .agg ⟨cs11 ++ ([.int .i64 (more kind ((j : Int)))] : List Value)⟩ := (hr 7 _ _ (by decide) rfl rfl).trans (hp 7 (by decide))
  obtain ⟨ρ22, rfl⟩ := Ze (uc q0 (uc q1 (uc q8 (uc q9 (uc q10 (uc q15 (uc q16 (uc q22 un))))))))
  clear q0 q1 q8 q9 q10 q15 q16 q22
  clear hp hr hr0 
  refine Zw (M' := [(N13 0), (N13 1), (N13 2), (N13 3), (N13 4), (N13 5), (N13 6), (N13 7), [(b12, .cells ⟨cs11⟩ 27 (0, 0))], yc s]) Sub.refl ?_
  refine Zw (M' := [[(b12, .cells ⟨cs11⟩ 27 (0, 0))], yc s]) (Sd (Sd (Sd (Sd (Sd (Sd (Sd (Sd (Sk (Sk Sub.nil)))))))))) ?_
  show JL _ _ _ [_, _] _ _ _
  refine JL_yield1 1 rfl rfl rfl (fun hin => hy _ _ (hIK j h10n) _ _ _ _ hs (Hle.hu _ _) (RT.mono (Hle.hu _ _) hE11)) rfl ?_
  rintro _ _ ⟨rfl, rfl⟩
  refine Za (v := .bool (!((step (kids[j]) (more kind ((j : Int))) s).1))) rfl (Pu.not rfl) ?_
  refine Zb ?_
  refine Zl (b := !((step (kids[j]) (more kind ((j : Int))) s).1)) rfl (fun h23 => ?_) (fun h23 => ?_)
  ·replace h23 := nt h23
   refine Zo ?_
   refine ⟨.tuple ⟨[]⟩, [yc (step (kids[j]) (more kind ((j : Int))) s).2], Ret.none rfl, (Sk Sub.nil), ?_⟩
   rw [dropc h10n, yK, if_neg (by simp [h23])] at hinv
   show _ = _; rw [yP, ← hinv]; rfl
  replace h23 := nf h23
  refine Zq ?_
  refine Zc ?_
  refine Za (v := .int .i64 (((j + 1 : Nat) : Int))) rfl (Pu.inc rfl rfl (by omega)) ?_
  refine Za (v := .int .i64 (((j + 1 : Nat) : Int))) rfl (Pu.move rfl) ?_
  refine Zb ?_
  refine ⟨_, ?_, (j + 1), ((step (kids[j]) (more kind ((j : Int))) s).2), rfl, rfl, rfl, rfl, rfl, (Sk Sub.nil), ?_, ?_, ?_, rfl⟩
  ·omega
  ·omega
  ·exact hI _ _ s hs h23
  rw [dropc h10n, yK, if_pos h23] at hinv; exact hinv
 replace h10 := df h10
 have h10n : kids.length ≤ j := by omega
 refine J_exit _ rfl ?_
 refine Zg (Zc ?_)
 refine Za (v := .pointer (some ⟨bT, 35, none⟩)) rfl (fa27_4 rfl rfl) ?_
 refine Zd rfl (Zh ty25 rfl (At.im hT) (pkT_35 ..) ?_)
 obtain ⟨a24, cap24, hv24⟩ := hcv.sl
 have hle24 := hcv.le
 refine Za (v := .int .i64 ((cases.length : Int))) rfl (Pu.lenSl Tryz.runUnderlying25 hv24) ?_
 refine Za (v := .int .i64 0) rfl (Pu.move rfl) ?_
 refine Zb ?_
 refine Zs ?_
 have hk1 : yK step kind 0 kids s0 = (true, s) := by rw [← hinv, dropn h10n]; rfl
 refine J_loop (fun k ρ M => ∃ (j : Nat) (s2 : σ), ρ 0 = .func (.yield l) ⟨[]⟩ ⟨[]⟩ ∧ ρ 1 = .pointer (some ⟨bT, 0, none⟩) ∧ ρ 27 = cv ∧ ρ 28 = .int .i64 ((cases.length : Int)) ∧ ρ 29 = .int .i64 ((j : Int)) ∧ Sub [yc s2] M ∧ j ≤ cases.length ∧ Inv s2 ∧ yC step (cases.drop j) s2 = yC step cases s ∧ k = cases.length - j) _ ⟨0, s, rfl, rfl, rfl, rfl, rfl, (Sk Sub.nil), Nat.zero_le _, hs, rfl, rfl⟩ ?_
 rintro _ ρ25 _ ⟨j, s2, e26, e27, e28, e29, e30, hm31, hj, hs, hinv, rfl⟩
 obtain ⟨ρ32, rfl⟩ := Ze (uc e26 (uc e27 (uc e28 (uc e29 (uc e30 un)))))
 clear e26 e27 e28 e29 e30
 refine J_sub hm31 ?_
 have hlen := hcv.le
 refine Zg (Zc ?_)
 refine Za (v := .bool (decide ((j : Int) < (cases.length : Int)))) rfl (Pu.lss rfl rfl) ?_
 refine Zb ?_
 refine Zg ?_
 refine Zl (b := decide ((j : Int) < (cases.length : Int))) rfl (fun h33 => ?_) (fun h33 => ?_)
 ·replace h33 := dt h33
  have h33n : j < cases.length := by omega
  have hbm := hsz _ (List.getElem_mem h33n)
  have hlenk := hks.le
  refine Zq ?_
  refine Zg ?_
  refine Zs ?_
  refine Zg (Zc ?_)
  refine Za (v := .int .i64 ((j : Int))) rfl (Pu.move rfl) ?_
  obtain ⟨b34, o34, cap34, row34, T34, fr34, cs34, hv34, hb34, hs34, hE34⟩ := hcv.get j (by first | assumption | omega | decide | simp)
  obtain ⟨ca34, cb34, rfl, hA34, hB34⟩ := hE34
  refine Za (v := .pointer (some ⟨b34, o34 + j * 71, none⟩)) rfl (Pu.idx j Tryz.runUnderlying25 ty34 hv34 rfl rfl (by first | assumption | omega | decide | simp)) ?_
  refine Zd rfl (Zj ty34 rfl (At.im hb34) hs34 ?_)
  refine Zd rfl (Zn (l := (pkP 0 0 zS (.slice none 0 0)) ++ (pkT 0 0 zS (.slice none 0 0) (.slice none 0 0))) Tryz.zeroValue34 rfl fun b35 => ?_)
  refine Za (v := .int .i64 ((j : Int))) rfl (Pu.assign rfl) ?_
  refine Zd rfl (Zi 0 (vs := ca34 ++ cb34) (l := ca34 ++ cb34) ty34 rfl rfl rfl rfl (len_app (RP_len hA34) (Zv hB34)) (okc_app (RP_ok hA34) (RT_ok hB34)) (spl_a (n := 71) rfl (len_app (RP_len hA34) (Zv hB34))) ?_)
  refine Zb ?_
  refine Zg ?_
  obtain ⟨a37, cap37, hv37⟩ := hks.sl
  have hle37 := hks.le
  refine J_draw mixed #[0, 0, 2, 6, 0, 30, 0, 64, 0, 256, 768, 1984, 4095, 8191] 12 12 2 rfl (by kernel_rfl) (fun i r36 N36 => match i with | 0 => (r36 0) = .func (.yield l) ⟨[]⟩ ⟨[]⟩ | 1 => (r36 1) = .pointer (some ⟨bT, 34, none⟩) | 2 => (r36 2) = ks | 3 => (r36 3) = .int .i64 ((kids.length : Int)) | 4 => (r36 4) = .int .i64 ((j : Int)) | 5 => (r36 5) = .int .i64 ((kids.length : Int) + ((j : Int))) | 6 => (r36 6) = .pointer (some ⟨b35, 35, none⟩) | 7 => (r36 7) = .agg ⟨cb34⟩ | 8 => (r36 8) = .pointer (some ⟨b35, 0, none⟩) | 9 => (r36 9) = .agg ⟨ca34⟩ | 10 => (r36 10) = .int .i64 ((binds (cases[j].1) : Int)) | 11 => (r36 11) = .agg ⟨cb34 ++ ([.int .i64 ((binds (cases[j].1) : Int))] : List Value)⟩ | _ => True) ⟨?_, ?_, ?_, ?_, ?_, ?_, ?_, ?_, ?_, ?_, ?_, ?_, trivial⟩ ?_
  ·intro ρ r36 N36 B hB hBa hp hr hr0
   have q0 : ρ 0 = .func (.yield l) ⟨[]⟩ ⟨[]⟩ := hr0 0 (by kernel_rfl)
   obtain ⟨ρ38, rfl⟩ := Ze (uc q0 un)
   clear q0
   refine Za (v := .func (.yield l) ⟨[]⟩ ⟨[]⟩) rfl (Pu.move rfl) ?_
   refine Zb ?_
   exact ⟨.func (.yield l) ⟨[]⟩ ⟨[]⟩, [], rfl, (Sub.emp Sub.refl), rfl⟩
  ·intro ρ r36 N36 B hB hBa hp hr hr0
   have q1 : ρ 1 = .pointer (some ⟨bT, 0, none⟩) := hr0 1 (by kernel_rfl)
   obtain ⟨ρ39, rfl⟩ := Ze (uc q1 un)
   clear q1
   refine Za (v := .pointer (some ⟨bT, 34, none⟩)) rfl (fa27_3 rfl rfl) ?_
   refine Zb ?_
   exact ⟨.pointer (some ⟨bT, 34, none⟩), [], rfl, (Sub.emp Sub.refl), rfl⟩
  ·intro ρ r36 N36 B hB hBa hp hr hr0
   have q35 : ρ 35 = .pointer (some ⟨bT, 34, none⟩) := (hr 1 _ _ (by decide) rfl rfl rfl).trans (hp 1 (by decide) rfl)
   obtain ⟨ρ40, rfl⟩ := Ze (uc q35 un)
   clear q35
   refine Zd rfl (Zh ty24 rfl (At.im hT) (pkT_34 ..) ?_)
   refine Zb ?_
   exact ⟨ks, [], rfl, (Sub.emp Sub.refl), rfl⟩
  ·intro ρ r36 N36 B hB hBa hp hr hr0
   have q36 : ρ 36 = ks := (hr 2 _ _ (by decide) rfl rfl rfl).trans (hp 2 (by decide) rfl)
   obtain ⟨ρ41, rfl⟩ := Ze (uc q36 un)
   clear q36
   refine Za (v := .int .i64 ((kids.length : Int))) rfl (Pu.lenSl Tryz.runUnderlying24 hv37) ?_
   refine Zb ?_
   exact ⟨.int .i64 ((kids.length : Int)), [], rfl, (Sub.emp Sub.refl), rfl⟩
  ·intro ρ r36 N36 B hB hBa hp hr hr0
   have q5 : ρ 5 = .int .i64 ((j : Int)) := hr0 5 (by kernel_rfl)
   obtain ⟨ρ42, rfl⟩ := Ze (uc q5 un)
   clear q5
   refine Za (v := .int .i64 ((j : Int))) rfl (Pu.move rfl) ?_
   refine Zb ?_
   exact ⟨.int .i64 ((j : Int)), [], rfl, (Sub.emp Sub.refl), rfl⟩
  ·intro ρ r36 N36 B hB hBa hp hr hr0
   have q37 : ρ 37 = .int .i64 ((kids.length : Int)) := (hr 3 _ _ (by decide) rfl rfl rfl).trans (hp 3 (by decide) rfl)
   have q38 : ρ 38 = .int .i64 ((j : Int)) := (hr 4 _ _ (by decide) rfl rfl rfl).trans (hp 4 (by decide) rfl)
   obtain ⟨ρ43, rfl⟩ := Ze (uc q37 (uc q38 un))
   clear q37 q38
   refine Za (v := .int .i64 ((kids.length : Int) + ((j : Int)))) rfl (Pu.add64 rfl rfl (by first | omega | (constructor <;> omega))) ?_
   refine Zb ?_
   exact ⟨.int .i64 ((kids.length : Int) + ((j : Int))), [], rfl, (Sub.emp Sub.refl), rfl⟩
  ·intro ρ r36 N36 B hB hBa hp hr hr0
   have q6 : ρ 6 = .pointer (some ⟨b35, 0, none⟩) := hr0 6 (by kernel_rfl)
   obtain ⟨ρ44, rfl⟩ := Ze (uc q6 un)
   clear q6
   refine Za (v := .pointer (some ⟨b35, 35, none⟩)) rfl (fa34_1 rfl rfl) ?_
   refine Zb ?_
   exact ⟨.pointer (some ⟨b35, 35, none⟩), [], rfl, (Sub.emp Sub.refl), rfl⟩
  ·intro ρ r36 N36 B hB hBa hp hr hr0
   have q40 : ρ 40 = .pointer (some ⟨b35, 35, none⟩) := (hr 6 _ _ (by decide) rfl rfl rfl).trans (hp 6 (by decide) rfl)
   obtain ⟨ρ45, rfl⟩ := Ze (uc q40 un)
   clear q40
   refine Zd rfl (Zj Zt rfl (At.bx 12 (Zu ((hB 0 (by decide)).trans rfl))) (sub_r (RP_len hA34) (Zv hB34)) ?_)
   refine Zb ?_
   exact ⟨.agg ⟨cb34⟩, [], rfl, (Sub.emp Sub.refl), rfl⟩
  ·intro ρ r36 N36 B hB hBa hp hr hr0
   have q6 : ρ 6 = .pointer (some ⟨b35, 0, none⟩) := hr0 6 (by kernel_rfl)
   obtain ⟨ρ46, rfl⟩ := Ze (uc q6 un)
   clear q6
   refine Za (v := .pointer (some ⟨b35, 0, none⟩)) rfl (fa34_0 rfl rfl) ?_
   refine Zb ?_
   exact ⟨.pointer (some ⟨b35, 0, none⟩), [], rfl, (Sub.emp Sub.refl), rfl⟩
  ·intro ρ r36 N36 B hB hBa hp hr hr0
   have q42 : ρ 42 = .pointer (some ⟨b35, 0, none⟩) := (hr 8 _ _ (by decide) rfl rfl rfl).trans (hp 8 (by decide) rfl)
   obtain ⟨ρ47, rfl⟩ := Ze (uc q42 un)
   clear q42
   refine Zd rfl (Zj ty30 rfl (At.bx 12 (Zu ((hB 0 (by decide)).trans rfl))) (sub_l (RP_len hA34)) ?_)
   refine Zb ?_
   exact ⟨.agg ⟨ca34⟩, [], rfl, (Sub.emp Sub.refl), rfl⟩
  ·intro ρ r36 N36 B hB hBa hp hr hr0
   have q43 : ρ 43 = .agg ⟨ca34⟩ := (hr 9 _ _ (by decide) rfl rfl rfl).trans (hp 9 (by decide) rfl)
   obtain ⟨ρ48, rfl⟩ := Ze (uc q43 un)
   clear q43
   refine Zk rfl Tryz.call53 rfl (fun hin => binds_ct _ _ _ (RP.mono (Hle.hu _ _) hA34) (by omega)) rfl ?_
   rintro _ _ ⟨rfl, rfl⟩
   refine Zb ?_
   exact ⟨.int .i64 ((binds (cases[j].1) : Int)), [], rfl, (Sub.emp Sub.refl), rfl⟩
  ·intro ρ r36 N36 B hB hBa hp hr hr0
   have q41 : ρ 41 = .agg ⟨cb34⟩ := (hr 7 _ _ (by decide) rfl rfl rfl).trans (hp 7 (by decide) rfl)
   have q44 : ρ 44 = .int .i64 ((binds (cases[j].1) : Int)) := (hr 10 _ _ (by decide) rfl rfl rfl).trans (hp 10 (by decide) rfl)
   obtain ⟨ρ49, rfl⟩ := Ze (uc q41 (uc q44 un))
   clear q41 q44
   refine Za (v := .agg ⟨cb34 ++ ([.int .i64 ((binds (cases[j].1) : Int))] : List Value)⟩) rfl (Pu.build (pv := [(0, .agg ⟨cb34⟩), (1, .int .i64 ((binds (cases[j].1) : Int)))]) (l := cb34 ++ ([.int .i64 ((binds (cases[j].1) : Int))] : List Value)) rfl (bld105_0_1 (Zv hB34))) ?_
   refine Zb ?_
   exact ⟨.agg ⟨cb34 ++ ([.int .i64 ((binds (cases[j].1) : Int))] : List Value)⟩, [], rfl, (Sub.emp Sub.refl), rfl⟩
  intro ρ r36 N36 hp hr hr0
  have q0 : ρ 0 = .func (.yield l) ⟨[]⟩ ⟨[]⟩ := hr0 0 (by kernel_rfl)
  have q1 : ρ 1 = .pointer (some ⟨bT, 0, none⟩) := hr0 1 (by kernel_rfl)
  have q27 : ρ 27 = cv := hr0 27 (by kernel_rfl)
  have q28 : ρ 28 = .int .i64 ((cases.length : Int)) := hr0 28 (by kernel_rfl)
  have q29 : ρ 29 = .int .i64 ((j : Int)) := hr0 29 (by kernel_rfl)
  have q34 : ρ 34 = .func (.yield l) ⟨[]⟩ ⟨[]⟩ := (hr 0 _ _ (by decide) rfl rfl).trans (hp 0 (by decide))
  have q39 : ρ 39 = .int .i64 ((kids.length : Int) + ((j : Int))) := (hr 5 _ _ (by decide) rfl rfl).trans (hp 5 (by decide))
  have q45 : ρ 45 = .agg ⟨cb34 ++ ([.int .i64 ((binds (cases[j].1) : Int))] : List Value)⟩ := (hr 11 _ _ (by decide) rfl rfl).trans (hp 11 (by decide))
  obtain ⟨ρ50, rfl⟩ := Ze (uc q0 (uc q1 (uc q27 (uc q28 (uc q29 (uc q34 (uc q39 (uc q45 un))))))))
  clear q0 q1 q27 q28 q29 q34 q39 q45
  clear hp hr hr0 
  refine Zw (M' := [(N36 0), (N36 1), (N36 2), (N36 3), (N36 4), (N36 5), (N36 6), (N36 7), (N36 8), (N36 9), (N36 10), (N36 11), [(b35, .cells ⟨ca34 ++ cb34⟩ 34 (0, 0))], yc s2]) Sub.refl ?_
  refine Zw (M' := [[(b35, .cells ⟨ca34 ++ cb34⟩ 34 (0, 0))], yc s2]) (Sd (Sd (Sd (Sd (Sd (Sd (Sd (Sd (Sd (Sd (Sd (Sd (Sk (Sk Sub.nil)))))))))))))) ?_
  show JL _ _ _ [_, _] _ _ _
  refine JL_yield1 1 rfl rfl rfl (fun hin => hy _ _ (hIC j h33n) _ _ _ _ hs (Hle.hu _ _) (RT.mono (Hle.hu _ _) hB34)) rfl ?_
  rintro _ _ ⟨rfl, rfl⟩
  refine Za (v := .bool (!((step (cases[j].2) ((binds (cases[j].1) : Int)) s2).1))) rfl (Pu.not rfl) ?_
  refine Zb ?_
  refine Zl (b := !((step (cases[j].2) ((binds (cases[j].1) : Int)) s2).1)) rfl (fun h51 => ?_) (fun h51 => ?_)
  ·replace h51 := nt h51
   refine Zo ?_
   refine ⟨.tuple ⟨[]⟩, [yc (step (cases[j].2) ((binds (cases[j].1) : Int)) s2).2], Ret.none rfl, (Sk Sub.nil), ?_⟩
   rw [dropc h33n, yC, if_neg (by simp [h51])] at hinv
   show _ = _; rw [yP, hk1, if_pos rfl, ← hinv]
  replace h51 := nf h51
  refine Zq ?_
  refine Zc ?_
  refine Za (v := .int .i64 (((j + 1 : Nat) : Int))) rfl (Pu.inc rfl rfl (by omega)) ?_
  refine Za (v := .int .i64 (((j + 1 : Nat) : Int))) rfl (Pu.move rfl) ?_
  refine Zb ?_
  refine ⟨_, ?_, (j + 1), ((step (cases[j].2) ((binds (cases[j].1) : Int)) s2).2), rfl, rfl, rfl, rfl, rfl, (Sk Sub.nil), ?_, ?_, ?_, rfl⟩
  ·omega
  ·omega
  ·exact hI _ _ s2 hs h51
  rw [dropc h33n, yC, if_pos h51] at hinv; exact hinv
 replace h33 := df h33
 have h33n : cases.length ≤ j := by omega
 refine J_exit _ rfl ?_
 refine ⟨.tuple ⟨[]⟩, [yc s2], Ret.none rfl, (Sk Sub.nil), ?_⟩
 show _ = _; rw [yP, hk1, if_pos rfl, ← hinv, dropn h33n]; rfl
end Go.Proofs.YtdeinimmmjichaaGreat.Hs
/-! Walks, printed by a program of this session's own (gen.py). -/
namespace Go.Proofs.YtdeinimmmjichaaGreat.Hs
open Go Go.Proofs
set_option maxRecDepth 100000
set_option linter.unusedVariables false
set_option linter.unusedSimpArgs false
attribute [local irreducible] JL J CT wlo
theorem all_ct : ∀ (t : Tm) (d m b : Int) (cs : List Value) (H : Heap) (bD : Nat), RT H cs t → H bD = some (.cells ⟨[.int .i64 d]⟩ 3 (0, 0)) → 0 ≤ b → b + 2 * sizeT t ≤ 1000000 → CT Tryz.prog 55 ⟨[.agg ⟨[.int .i64 m, .func (.func 54) ⟨[]⟩ ⟨[.pointer (some ⟨bD, 0, none⟩)]⟩]⟩, .agg ⟨cs⟩, .int .i64 b]⟩ [] H (fun v N => v = .int .i64 (tErr d m b t) ∧ N = []) := by
 intro t
 induction t using Tm.ind with
 | h kind num ref kids cases ih ih' =>
 intro d m b cs H bD ht hD hb0 hb
 obtain ⟨ks, cv, rfl, hk, hn, hks, hcv⟩ := RT_mk.1 ht
 rw [sizeT] at hb
 have hn1 : -9223372036854775808 ≤ num := hn.1
 have hn2 : num ≤ 9223372036854775807 := hn.2
 have ihx : ∀ x mo, (fun x mo => ((∃ (j : Nat) (hj : j < kids.length), x = kids[j]) ∨ ∃ (j : Nat) (hj : j < cases.length), x = cases[j].2) ∧ 0 ≤ mo ∧ mo + 2 * (sizeT x : Int) ≤ 2 * ((1 + sizeTs kids + sizeCs cases : Nat) : Int)) x mo → ∀ (d m b : Int) (cs : List Value) (H : Heap) (bD : Nat), RT H cs x → H bD = some (.cells ⟨[.int .i64 d]⟩ 3 (0, 0)) → 0 ≤ b → b + 2 * sizeT x ≤ 1000000 → CT Tryz.prog 55 ⟨[.agg ⟨[.int .i64 m, .func (.func 54) ⟨[]⟩ ⟨[.pointer (some ⟨bD, 0, none⟩)]⟩]⟩, .agg ⟨cs⟩, .int .i64 b]⟩ [] H (fun v N => v = .int .i64 (tErr d m b x) ∧ N = []) := by
  rintro x mo ⟨⟨j, hj, rfl⟩ | ⟨j, hj, rfl⟩, _, _⟩
  ·exact ih _ (List.getElem_mem hj)
  ·exact ih' _ (List.getElem_mem hj)
 refine Zr Tryz.func55 rfl rfl ?_
 refine Zg (Zc ?_)
 refine Zd rfl (Zx (l := [.int .i64 m, .func (.func 54) ⟨[]⟩ ⟨[.pointer (some ⟨bD, 0, none⟩)]⟩]) rfl rfl fun b1 => ?_)
 refine Zd rfl (Zx (l := pkT kind num ref ks cv) rfl rfl fun b2 => ?_)
 refine Zd rfl (Zx (l := [.int .i64 b]) rfl rfl fun b3 => ?_)
 refine Zd rfl (Zn (l := [.int .i64 0]) Tryz.zeroValue40 rfl fun b4 => ?_)
 refine Zb ?_
 refine Zg ?_
 refine Zg (Zc ?_)
 refine Zd rfl (Zj ty92 rfl (At.bx 3 rfl) rfl ?_)
 refine Zd rfl (Zj Zt rfl (At.bx 2 rfl) (pkT_a ..) ?_)
 refine Zd rfl (Zh ty3 rfl (At.bx 1 rfl) rfl ?_)
 refine Zk rfl Tryz.call92 rfl (fun hin => chkTerm_ct _ _ _ _ _ _ _ _ _ _ _ bD (RTs.mono (Hle.hu _ _) hks) (RCs.mono (Hle.hu _ _) hcv) (Hle.hu _ _ _ _ hD) hb0 (by omega) hn1 hn2) rfl ?_
 rintro _ _ ⟨rfl, rfl⟩
 refine Za (v := .int .i64 (tHead d m b kind num ref kids.length cases.length)) rfl (Pu.assign rfl) ?_
 refine Zb ?_
 refine Zg (Zc ?_)
 refine Za (v := .int .i64 (tHead d m b kind num ref kids.length cases.length)) rfl (Pu.move rfl) ?_
 refine Za (v := .bool (!decide (tHead d m b kind num ref kids.length cases.length = 0))) rfl (Pu.neq rfl rfl) ?_
 refine Zb ?_
 refine Zl (b := !decide (tHead d m b kind num ref kids.length cases.length = 0)) rfl (fun h5 => ?_) (fun h5 => ?_)
 ·replace h5 := nt h5
  replace h5 := df h5
  refine Zg (Zc ?_)
  refine Za (v := .int .i64 (tHead d m b kind num ref kids.length cases.length)) rfl (Pu.move rfl) ?_
  refine Zd rfl (Zi 0 (vs := [.int .i64 (tHead d m b kind num ref kids.length cases.length)]) (l := [.int .i64 (tHead d m b kind num ref kids.length cases.length)]) ty40 rfl rfl rfl rfl rfl (Zp rfl Zz) rfl ?_)
  refine Zb ?_
  refine Zo ?_
  refine ⟨.int .i64 (tHead d m b kind num ref kids.length cases.length), [], Ret.one rfl (RV.cell1 ty40 rfl (At.bx 0 rfl) rfl), Sub.nil, ?_⟩
  exact ⟨by rw [tErr, if_neg h5], rfl⟩
 replace h5 := nf h5
 replace h5 := dt h5
 refine Zq ?_
 refine Zg ?_
 refine Zg (Zc ?_)
 refine Za (v := .pointer (some ⟨b2, 35, none⟩)) rfl (fa27_4 rfl rfl) ?_
 refine Zd rfl (Zh ty25 rfl (At.bx 2 rfl) (pkT_35 ..) ?_)
 obtain ⟨a6, cap6, hv6⟩ := hcv.sl
 have hle6 := hcv.le
 refine Za (v := .int .i64 ((cases.length : Int))) rfl (Pu.lenSl Tryz.runUnderlying25 hv6) ?_
 refine Za (v := .int .i64 0) rfl (Pu.move rfl) ?_
 refine Zb ?_
 refine Zs ?_
 have hh0 : tHead d m b kind num ref kids.length cases.length = 0 := h5
 refine J_loop (fun k ρ M => ∃ (j : Nat), ρ 3 = .pointer (some ⟨b1, 0, none⟩) ∧ ρ 4 = .pointer (some ⟨b2, 0, none⟩) ∧ ρ 5 = .pointer (some ⟨b3, 0, none⟩) ∧ ρ 6 = .pointer (some ⟨b4, 0, none⟩) ∧ ρ 22 = cv ∧ ρ 23 = .int .i64 ((cases.length : Int)) ∧ ρ 24 = .int .i64 ((j : Int)) ∧ Sub [[(b4, .cells ⟨[.int .i64 0]⟩ 40 (0, 0))], [(b3, .cells ⟨[.int .i64 b]⟩ 3 (0, 0))], [(b2, .cells ⟨pkT kind num ref ks cv⟩ 27 (0, 0))], [(b1, .cells ⟨[.int .i64 m, .func (.func 54) ⟨[]⟩ ⟨[.pointer (some ⟨bD, 0, none⟩)]⟩]⟩ 92 (0, 0))]] M ∧ j ≤ cases.length ∧ pErrsC (cases.drop j) = pErrsC cases ∧ k = cases.length - j) _ ⟨0, rfl, rfl, rfl, rfl, rfl, rfl, rfl, (Sk (Sk (Sk (Sk Sub.nil)))), Nat.zero_le _, rfl, rfl⟩ ?_
 rintro _ ρ7 _ ⟨j, e8, e9, e10, e11, e12, e13, e14, hm15, hj, hinv, rfl⟩
 obtain ⟨ρ16, rfl⟩ := Ze (uc e8 (uc e9 (uc e10 (uc e11 (uc e12 (uc e13 (uc e14 un)))))))
 clear e8 e9 e10 e11 e12 e13 e14
 refine J_sub hm15 ?_
 have hlen := hcv.le
 refine Zg (Zc ?_)
 refine Za (v := .bool (decide ((j : Int) < (cases.length : Int)))) rfl (Pu.lss rfl rfl) ?_
 refine Zb ?_
 refine Zg ?_
 refine Zl (b := decide ((j : Int) < (cases.length : Int))) rfl (fun h17 => ?_) (fun h17 => ?_)
 ·replace h17 := dt h17
  have h17n : j < cases.length := by omega
  refine Zq ?_
  refine Zg ?_
  refine Zs ?_
  refine Zg (Zc ?_)
  obtain ⟨b18, o18, cap18, row18, T18, fr18, cs18, hv18, hb18, hs18, hE18⟩ := hcv.get j (by first | assumption | omega | decide | simp)
  obtain ⟨ca18, cb18, rfl, hA18, hB18⟩ := hE18
  refine Za (v := .pointer (some ⟨b18, o18 + j * 71, none⟩)) rfl (Pu.idx j Tryz.runUnderlying25 ty34 hv18 rfl rfl (by first | assumption | omega | decide | simp)) ?_
  refine Zd rfl (Zj ty34 rfl (At.im hb18) hs18 ?_)
  refine Zd rfl (Zn (l := (pkP 0 0 zS (.slice none 0 0)) ++ (pkT 0 0 zS (.slice none 0 0) (.slice none 0 0))) Tryz.zeroValue34 rfl fun b19 => ?_)
  refine Zd rfl (Zi 0 (vs := ca18 ++ cb18) (l := ca18 ++ cb18) ty34 rfl rfl rfl rfl (len_app (RP_len hA18) (Zv hB18)) (okc_app (RP_ok hA18) (RT_ok hB18)) (spl_a (n := 71) rfl (len_app (RP_len hA18) (Zv hB18))) ?_)
  refine Zb ?_
  refine Zg (Zc ?_)
  refine Za (v := .pointer (some ⟨b19, 0, none⟩)) rfl (fa34_0 rfl rfl) ?_
  refine Zd rfl (Zj ty30 rfl (At.bx 0 rfl) (sub_l (RP_len hA18)) ?_)
  refine Zk rfl Tryz.call93 rfl (fun hin => patternsError_ct _ _ _ (RP.mono (Hle.hu _ _) hA18)) rfl ?_
  rintro _ _ ⟨rfl, rfl⟩
  refine Za (v := .int .i64 (pErrs (cases[j].1))) rfl (Pu.assign rfl) ?_
  refine Zb ?_
  refine Zg (Zc ?_)
  refine Za (v := .int .i64 (pErrs (cases[j].1))) rfl (Pu.move rfl) ?_
  refine Za (v := .bool (!decide (pErrs (cases[j].1) = 0))) rfl (Pu.neq rfl rfl) ?_
  refine Zb ?_
  refine Zl (b := !decide (pErrs (cases[j].1) = 0)) rfl (fun h20 => ?_) (fun h20 => ?_)
  ·replace h20 := nt h20
   replace h20 := df h20
   refine Zg (Zc ?_)
   refine Za (v := .int .i64 (pErrs (cases[j].1))) rfl (Pu.move rfl) ?_
   refine Zd rfl (Zi 1 (vs := [.int .i64 (pErrs (cases[j].1))]) (l := [.int .i64 (pErrs (cases[j].1))]) ty40 rfl rfl rfl rfl rfl (Zp rfl Zz) rfl ?_)
   refine Zb ?_
   refine Zo ?_
   refine ⟨.int .i64 (pErrs (cases[j].1)), [], Ret.one rfl (RV.cell1 ty40 rfl (At.bx 1 rfl) rfl), Sub.nil, ?_⟩
   exact ⟨by rw [tErr, if_pos hh0, ← hinv, dropc h17n, pErrsC, if_neg h20, if_neg h20], rfl⟩
  replace h20 := nf h20
  replace h20 := dt h20
  refine Zq ?_
  refine Zc ?_
  refine Za (v := .int .i64 (((j + 1 : Nat) : Int))) rfl (Pu.inc rfl rfl (by omega)) ?_
  refine Za (v := .int .i64 (((j + 1 : Nat) : Int))) rfl (Pu.move rfl) ?_
  refine Zb ?_
  refine ⟨_, ?_, (j + 1), rfl, rfl, rfl, rfl, rfl, rfl, rfl, (Sd (Sk (Sk (Sk (Sk Sub.nil))))), ?_, ?_, rfl⟩
  ·omega
  ·omega
  rw [dropc h17n, pErrsC, if_pos h20] at hinv; exact hinv
 replace h17 := df h17
 have h17n : cases.length ≤ j := by omega
 refine J_exit _ rfl ?_
 refine Zg ?_
 refine Zg (Zc ?_)
 refine Zd rfl (Zj Zt rfl (At.bx 2 rfl) (pkT_a ..) ?_)
 refine Zk rfl Tryz.call68 rfl (fun hin => parts_ct _ _ rfl) rfl ?_
 rintro _ _ ⟨bT21, rfl, rfl⟩
 refine Zb ?_
 refine Zs ?_
 have h1 : pErrsC cases = 0 := by rw [← hinv, dropn h17n]; rfl
 refine J_range (L := [[(bT21, .cells ⟨pkT kind num ref ks cv⟩ 27 (0, 0))], [(b3, .cells ⟨[.int .i64 b]⟩ 3 (0, 0))], [(b2, .cells ⟨pkT kind num ref ks cv⟩ 27 (0, 0))], [(b1, .cells ⟨[.int .i64 m, .func (.func 54) ⟨[]⟩ ⟨[.pointer (some ⟨bD, 0, none⟩)]⟩]⟩ 92 (0, 0))]]) (fun e : Int => [[(b4, .cells ⟨[.int .i64 e]⟩ 40 (0, 0))]]) (fun e => !decide (e = 0)) 0 (fun e => e = yP (fun x mo _ => (decide (tErr d m (b + mo) x = 0), tErr d m (b + mo) x)) kind kids cases 0) rfl rfl Tryz.call100 (flatten_pick (i := 1) rfl) ?_ ?_ ?_
 ·intro l yc hY hin
  refine CT.mono (parts1_ct kind num ref ks cv kids cases _ bT21 (RTs.mono (Hle.hu _ _) hks) (RCs.mono (Hle.hu _ _) hcv) (hin 0 _ rfl _ _ List.mem_cons_self) (fun c hc => by have := sizeCs_mem c hc; have := binds_le c.1; omega) (by have := len_sizeTs kids; omega) (by have := len_sizeCs cases; omega) l yc (fun e => e = 0) (fun x mo _ => (decide (tErr d m (b + mo) x = 0), tErr d m (b + mo) x)) 0 rfl (fun x mo => ((∃ (j : Nat) (hj : j < kids.length), x = kids[j]) ∨ ∃ (j : Nat) (hj : j < cases.length), x = cases[j].2) ∧ 0 ≤ mo ∧ mo + 2 * (sizeT x : Int) ≤ 2 * ((1 + sizeTs kids + sizeCs cases : Nat) : Int)) ?_ ?_ (fun x mo s _ h => of_decide_eq_true h) ?_) (fun v N hN => ⟨_, hN, rfl⟩)
  ·intro j hj; have hs1 := sizeTs_mem _ (List.getElem_mem hj); have hm1 := more_le kind j; exact ⟨.inl ⟨j, hj, rfl⟩, by omega, by omega⟩
  ·intro j hj; have hs1 := sizeCs_mem _ (List.getElem_mem hj); have hm1 := binds_le (cases[j]).1; have hp1 := sizeT_pos (cases[j]).2; exact ⟨.inr ⟨j, hj, rfl⟩, by omega, by omega⟩
  intro x mo hit e i a h he hh ra
  subst he
  have hb0x : 0 ≤ b + mo := by have := hit.2.1; omega
  have hb1x : b + mo + 2 * (sizeT x : Int) ≤ 1000000 := by have := hit.2.2; omega
  have hp1 := sizeT_pos x
  refine YT.mono (hY 0 [_, _] h (fun e' => e' = tErr d m (b + mo) x) rfl rfl (RoundOk.mk ?_)) ?_
  ·show J _ _ _ _ [[(b4, .cells ⟨[.int .i64 0]⟩ 40 (0, 0))]] _
   refine Zc ?_
   refine Zd rfl (Zn (l := (pkT 0 0 zS (.slice none 0 0) (.slice none 0 0)) ++ ([.int .i64 0] : List Value)) Tryz.zeroValue105 rfl fun b22 => ?_)
   refine Zd rfl (Zi 0 (vs := a ++ ([.int .i64 mo] : List Value)) (l := a ++ ([.int .i64 mo] : List Value)) ty105 rfl rfl rfl rfl (len_app (Zv ra) rfl) (okc_app (RT_ok ra) (Zp rfl Zz)) (spl_a (n := 37) rfl (len_app (Zv ra) rfl)) ?_)
   refine Zb ?_
   refine Zs ?_
   refine Zg (Zc ?_)
   refine Zd rfl (Zj ty92 rfl (At.im (hh _ _ (hin 3 _ rfl _ _ List.mem_cons_self))) rfl ?_)
   refine Za (v := .pointer (some ⟨b22, 0, none⟩)) rfl (fa105_0 rfl rfl) ?_
   refine Zd rfl (Zj Zt rfl (At.bx 0 rfl) (sub_l (Zv ra)) ?_)
   refine Zd rfl (Zh ty3 rfl (At.im (hh _ _ (hin 1 _ rfl _ _ List.mem_cons_self))) rfl ?_)
   refine Za (v := .pointer (some ⟨b22, 36, none⟩)) rfl (fa105_1 rfl rfl) ?_
   refine Zd rfl (Zh ty3 rfl (At.bx 0 rfl) (get_r (n := 36) (i := 0) (Zv ra) rfl) ?_)
   refine Za (v := .int .i64 (b + mo)) rfl (Pu.add64 rfl rfl (by first | omega | (constructor <;> omega))) ?_
   refine Zk rfl Tryz.call55 rfl (fun hin => ihx x mo hit d m _ _ _ bD (RT.mono (Hle.hu _ _) ra) (Hle.hu _ _ _ _ (hh _ _ (Hle.hu _ _ _ _ hD))) hb0x hb1x) rfl ?_
   rintro _ _ ⟨rfl, rfl⟩
   refine Za (v := .int .i64 (tErr d m (b + mo) x)) rfl (Pu.assign rfl) ?_
   refine Zb ?_
   refine Zg (Zc ?_)
   refine Za (v := .int .i64 (tErr d m (b + mo) x)) rfl (Pu.move rfl) ?_
   refine Za (v := .bool (!decide (tErr d m (b + mo) x = 0))) rfl (Pu.neq rfl rfl) ?_
   refine Zb ?_
   refine Zl (b := !decide (tErr d m (b + mo) x = 0)) rfl (fun h23 => ?_) (fun h23 => ?_)
   ·replace h23 := nt h23
    replace h23 := df h23
    refine Zg (Zc ?_)
    refine Za (v := .int .i64 (tErr d m (b + mo) x)) rfl (Pu.move rfl) ?_
    refine Zd rfl (Zi 1 (vs := [.int .i64 (tErr d m (b + mo) x)]) (l := [.int .i64 (tErr d m (b + mo) x)]) ty40 rfl rfl rfl rfl rfl (Zp rfl Zz) rfl ?_)
    refine Zb ?_
    refine Zo ?_
    exact ⟨tErr d m (b + mo) x, by simp [h23], (Sd (Sk Sub.nil)), rfl⟩
   replace h23 := nf h23
   replace h23 := dt h23
   refine Zq ?_
   exact ⟨0, rfl, (Sd (Sk Sub.nil)), h23.symm⟩
  rintro v N ⟨e', rfl, rfl, rfl⟩; exact ⟨by simp, rfl⟩
 ·rintro ef hef hp
  refine Zg (Zc ?_)
  refine Zd rfl (Zi 0 (vs := [.int .i64 0]) (l := [.int .i64 0]) ty40 rfl rfl rfl rfl rfl (Zp rfl Zz) rfl ?_)
  refine Zb ?_
  refine Zo ?_
  refine ⟨.int .i64 0, [], Ret.one rfl (RV.cell1 ty40 rfl (At.bx 0 rfl) rfl), Sub.nil, ?_⟩
  rw [yP_err] at hef
  have hp0 : ef = 0 := by simpa using hp
  exact ⟨by rw [tErr, if_pos hh0, if_pos h1, ← hef, hp0], rfl⟩
 rintro ef hef hp
 refine ⟨.int .i64 ef, [], Ret.one rfl (RV.cell1 ty40 rfl (At.bx 0 rfl) rfl), Sub.nil, ?_⟩
 rw [yP_err] at hef
 have hp0 : ¬ ef = 0 := by simpa using hp
 exact ⟨by rw [tErr, if_pos hh0, if_pos h1, ← hef], rfl⟩
end Go.Proofs.YtdeinimmmjichaaGreat.Hs
/-! Walks, printed by a program of this session's own (gen.py). -/
namespace Go.Proofs.YtdeinimmmjichaaGreat.Hs
open Go Go.Proofs
set_option maxRecDepth 100000
set_option linter.unusedVariables false
set_option linter.unusedSimpArgs false
attribute [local irreducible] JL J CT wlo
theorem check_ct (t : Tm) (d m : Int) (cs : List Value) (H : Heap) (ht : RT H cs t) : CT Tryz.prog 19 ⟨[.agg ⟨cs⟩, .int .i64 d, .int .i64 m]⟩ [] H (fun v N => v = .int .i64 (checkT d m t) ∧ N = []) := by
 refine Zr Tryz.func19 rfl rfl ?_
 refine Zg (Zc ?_)
 refine Zd rfl (Zx (l := cs) rfl rfl fun b1 => ?_)
 refine Zd rfl (Zx (l := [.int .i64 d]) rfl rfl fun b2 => ?_)
 refine Za (v := .int .i64 0) rfl (Pu.assign rfl) ?_
 refine Zb ?_
 refine Zg ?_
 refine Zg (Zc ?_)
 refine Za (v := .agg ⟨[.int .i64 0]⟩) rfl (Pu.build (pv := []) (l := [.int .i64 0]) rfl bld88_) ?_
 refine Zd rfl (Zx (l := [.int .i64 0]) rfl rfl fun b3 => ?_)
 refine Zd rfl (Zj Zt rfl (At.bx 2 rfl) (Zy (Zv ht)) ?_)
 refine JL_call1 0 rfl Tryz.call51 rfl rfl (fun hin => longT_ct _ _ _ _ _ _ (RT.mono (Hle.hu _ _) ht) (by omega) (by omega) (by omega) (by omega)) rfl ?_
 rintro _ _ ⟨rfl, rfl⟩
 refine Zb ?_
 refine Zl (b := (cnT stL 1 t 0).1) rfl (fun h5 => ?_) (fun h5 => ?_)
 ·refine Zg (Zc ?_)
  refine Za (v := .int .i64 11) rfl (Pu.assign rfl) ?_
  refine Zb ?_
  refine Zo ?_
  refine ⟨.int .i64 11, [], Ret.one rfl (RV.tmp rfl), Sub.nil, ?_⟩
  exact ⟨by rw [checkT, if_pos (by simp [h5])], rfl⟩
 refine Zq ?_
 refine Zg (Zc ?_)
 refine Za (v := .int .i64 m) rfl (Pu.move rfl) ?_
 refine Za (v := .func (.func 54) ⟨[]⟩ ⟨[.pointer (some ⟨b2, 0, none⟩)]⟩) rfl (Pu.makeFunc rfl rfl) ?_
 refine Za (v := .agg ⟨[.int .i64 m, .func (.func 54) ⟨[]⟩ ⟨[.pointer (some ⟨b2, 0, none⟩)]⟩]⟩) rfl (Pu.build (pv := [(0, .int .i64 m), (1, .func (.func 54) ⟨[]⟩ ⟨[.pointer (some ⟨b2, 0, none⟩)]⟩)]) (l := [.int .i64 m, .func (.func 54) ⟨[]⟩ ⟨[.pointer (some ⟨b2, 0, none⟩)]⟩]) rfl (bld92_0_1 _ _ _ _)) ?_
 refine Zd rfl (Zn (l := [.int .i64 0, .nilFunc]) Tryz.zeroValue92 rfl fun b6 => ?_)
 refine Zd rfl (Zi 0 (vs := [.int .i64 m, .func (.func 54) ⟨[]⟩ ⟨[.pointer (some ⟨b2, 0, none⟩)]⟩]) (l := [.int .i64 m, .func (.func 54) ⟨[]⟩ ⟨[.pointer (some ⟨b2, 0, none⟩)]⟩]) ty92 rfl rfl rfl rfl rfl (Zp rfl (Zp rfl Zz)) rfl ?_)
 refine Zb ?_
 refine Zg (Zc ?_)
 refine Zd rfl (Zj ty92 rfl (At.bx 0 rfl) rfl ?_)
 refine Zd rfl (Zj Zt rfl (At.bx 3 rfl) (Zy (Zv ht)) ?_)
 refine Zk rfl Tryz.call55 rfl (fun hin => all_ct _ _ _ _ _ _ _ (RT.mono (Hle.hu _ _) ht) (hin 2 _ rfl _ _ List.mem_cons_self) (by decide) (by have e1 := cnT_size t 1 0 h5; have e2 := cnT_le stL_le t 1 0 h5; omega)) rfl ?_
 rintro _ _ ⟨rfl, rfl⟩
 refine Za (v := .int .i64 (tErr d m 0 t)) rfl (Pu.assign rfl) ?_
 refine Zb ?_
 refine Zo ?_
 refine ⟨.int .i64 (tErr d m 0 t), [], Ret.one rfl (RV.tmp rfl), Sub.nil, ?_⟩
 exact ⟨by rw [checkT, if_neg (by simp [h5])], rfl⟩
theorem right_ct (l : List Tm) (v : Value) (H : Heap) (hl : rdS RT 36 H v l) : CT Tryz.prog 50 ⟨[v]⟩ [] H (fun v N => v = .int .i64 (ZD l) ∧ N = []) := by
 refine Zr Tryz.func50 rfl rfl ?_
 refine Zg (Zc ?_)
 refine Za (v := .int .i64 0) rfl (Pu.assign rfl) ?_
 refine Zb ?_
 refine Zg ?_
 refine Zg (Zc ?_)
 refine Za (v := v) rfl (Pu.move rfl) ?_
 obtain ⟨a1, cap1, hv1⟩ := hl.sl
 have hle1 := hl.le
 refine Za (v := .int .i64 ((l.length : Int))) rfl (Pu.lenSl Tryz.runUnderlying24 hv1) ?_
 refine Za (v := .int .i64 0) rfl (Pu.move rfl) ?_
 refine Zb ?_
 refine Zs ?_
 refine J_loop (fun k ρ M => ∃ (j : Nat), ρ 2 = .int .i64 0 ∧ ρ 6 = v ∧ ρ 7 = .int .i64 ((l.length : Int)) ∧ ρ 8 = .int .i64 ((j : Int)) ∧ Sub [] M ∧ j ≤ l.length ∧ ZD (l.drop j) = ZD l ∧ k = l.length - j) _ ⟨0, rfl, rfl, rfl, rfl, Sub.nil, Nat.zero_le _, rfl, rfl⟩ ?_
 rintro _ ρ2 _ ⟨j, e3, e4, e5, e6, hm7, hj, hinv, rfl⟩
 obtain ⟨ρ8, rfl⟩ := Ze (uc e3 (uc e4 (uc e5 (uc e6 un))))
 clear e3 e4 e5 e6
 refine J_sub hm7 ?_
 refine Zg (Zc ?_)
 refine Za (v := .bool (decide ((j : Int) < (l.length : Int)))) rfl (Pu.lss rfl rfl) ?_
 refine Zb ?_
 refine Zg ?_
 refine Zl (b := decide ((j : Int) < (l.length : Int))) rfl (fun h9 => ?_) (fun h9 => ?_)
 ·replace h9 := dt h9
  have h9n : j < l.length := by omega
  have hlenl := hl.le
  refine Zq ?_
  refine Zg ?_
  refine Zs ?_
  refine Zg (Zc ?_)
  obtain ⟨b10, o10, cap10, row10, T10, fr10, cs10, hv10, hb10, hs10, hE10⟩ := hl.get j (by first | assumption | omega | decide | simp)
  refine Za (v := .pointer (some ⟨b10, o10 + j * 36, none⟩)) rfl (Pu.idx j Tryz.runUnderlying24 Zt hv10 rfl rfl (by first | assumption | omega | decide | simp)) ?_
  refine Zd rfl (Zj Zt rfl (At.im hb10) hs10 ?_)
  refine Zd rfl (Zn (l := pkT 0 0 zS (.slice none 0 0) (.slice none 0 0)) Tryz.zeroValue27 rfl fun b11 => ?_)
  refine Zd rfl (Zi 0 (vs := cs10) (l := cs10) Zt rfl rfl rfl rfl (Zv hE10) (RT_ok hE10) (spl_a (n := 36) rfl (Zv hE10)) ?_)
  refine Zb ?_
  refine Zg (Zc ?_)
  refine Zd rfl (Zj Zt rfl (At.bx 0 rfl) (Zy (Zv hE10)) ?_)
  refine Zk rfl Tryz.call19 rfl (fun hin => check_ct _ _ _ _ _ (RT.mono (Hle.hu _ _) hE10)) rfl ?_
  rintro _ _ ⟨rfl, rfl⟩
  refine Za (v := .int .i64 (checkT 60 8 (l[j]))) rfl (Pu.assign rfl) ?_
  refine Zb ?_
  refine Zg (Zc ?_)
  refine Za (v := .int .i64 (checkT 60 8 (l[j]))) rfl (Pu.move rfl) ?_
  refine Za (v := .bool (!decide (checkT 60 8 (l[j]) = 0))) rfl (Pu.neq rfl rfl) ?_
  refine Zb ?_
  refine Zl (b := !decide (checkT 60 8 (l[j]) = 0)) rfl (fun h12 => ?_) (fun h12 => ?_)
  ·replace h12 := nt h12
   replace h12 := df h12
   refine Zg (Zc ?_)
   refine Za (v := .int .i64 (checkT 60 8 (l[j]))) rfl (Pu.move rfl) ?_
   refine Za (v := .int .i64 (checkT 60 8 (l[j]))) rfl (Pu.assign rfl) ?_
   refine Zb ?_
   refine Zo ?_
   refine ⟨.int .i64 (checkT 60 8 (l[j])), [], Ret.one rfl (RV.tmp rfl), Sub.nil, ?_⟩
   exact ⟨by rw [← hinv, dropc h9n, ZD, if_neg h12], rfl⟩
  replace h12 := nf h12
  replace h12 := dt h12
  refine Zq ?_
  refine Zc ?_
  refine Za (v := .int .i64 (((j + 1 : Nat) : Int))) rfl (Pu.inc rfl rfl (by omega)) ?_
  refine Za (v := .int .i64 (((j + 1 : Nat) : Int))) rfl (Pu.move rfl) ?_
  refine Zb ?_
  refine ⟨_, ?_, (j + 1), rfl, rfl, rfl, rfl, Sub.nil, ?_, ?_, rfl⟩
  ·omega
  ·omega
  rw [dropc h9n, ZD, if_pos h12] at hinv; exact hinv
 replace h9 := df h9
 have h9n : l.length ≤ j := by omega
 refine J_exit _ rfl ?_
 refine Zg (Zc ?_)
 refine Za (v := .int .i64 0) rfl (Pu.assign rfl) ?_
 refine Zb ?_
 refine Zo ?_
 refine ⟨.int .i64 0, [], Ret.one rfl (RV.tmp rfl), Sub.nil, ?_⟩
 exact ⟨by rw [← hinv, dropn h9n]; rfl, rfl⟩
end Go.Proofs.YtdeinimmmjichaaGreat.Hs
/-! Copies of slices of numbers. -/
namespace Go.Proofs.YtdeinimmmjichaaGreat.Hs
open Go Go.Proofs
set_option maxRecDepth 100000
/-- A slice of bytes, as cells read. -/
def RB (_ : Heap) (cs : List Value) (n : Int) : Prop := cs = [.int .u8 n]
theorem RBs.mono {h h' : Heap} (hh : Hle h h') {v : Value} {l : List Int} (q : Hs.rdS RB 1 h v l) : Hs.rdS RB 1 h' v l := rdS.mono q hh fun _ _ _ e => e
theorem ints_len1 (l : List Int) : ∀ e ∈ ints l, e.length = 1 := by
  intro e he; obtain ⟨x, _, rfl⟩ := List.mem_map.1 he; rfl
theorem ints_ok (l : List Int) : ∀ e ∈ ints l, okc e := by
  intro e he v hv; obtain ⟨x, _, rfl⟩ := List.mem_map.1 he; simp only [List.mem_singleton] at hv; subst hv; rfl
theorem num_src {P : Program} {H : Heap} {v : Value} {l : List Int} {E : Heap → List Value → Int → Prop} {f : Int → Value} (hE : ∀ h cs x, E h cs x → cs = [f x]) (h : Hs.rdS E 1 H v l) : ∀ w L, Mem w L H → Src P 1 w v l.length (l.map fun n => [f n]).flatten := by
  obtain ⟨es, e1, e2, e3, e4⟩ := rdS.src (P := P) h
  have : es = l.map fun n => [f n] := by
    apply List.ext_getElem
    · rw [e1, List.length_map]
    · intro i h1 h2
      have := hE _ _ _ (e2 i h1 (by omega))
      rw [this, List.getElem_map]
  subst this
  intro w L m
  exact e4 w L H (Hle.refl _) m
theorem ints_src {P : Program} {H : Heap} {v : Value} {l : List Int} (h : Hs.rdS RI 1 H v l) : ∀ w L, Mem w L H → Src P 1 w v l.length (ints l).flatten := num_src (fun _ _ _ e => e) h
/-- What is none is empty. -/
theorem rd_none {E : Heap → List Value → Int → Prop} {sz : Nat} {h : Heap} {v : Value} {l : List Int} {a : Option Addr} {n cap : Nat} (r : Hs.rdS E sz h v l) (hv : v = .slice a n cap) (ha : a.isNone = true) : l = [] := by
  obtain ⟨a', c', e, _, h0 | ⟨b, o, row, T, fr, e1, _⟩⟩ := r
  · exact List.eq_nil_of_length_eq_zero h0
  · rw [hv] at e; cases e; subst e1; cases ha
section
variable {P : Program} {e : Operand → Value} {d : Option Nat} {ot : TypeId} {pos : String} {af : Array Edge} {g : Option (Nat × Bool)} {T T' : TypeId} {x y z : Operand}
theorem run_equalIn_nil {el : TypeId} {a : Option Addr} {n c n' c' : Nat} (m : Nat) (w : World) (hT : ∀ w, (underlying T).run P w = .ok (.slice el) w) : (Op.equalIn (m + 1) T (.slice a n c) (.slice none n' c')).run P w = .ok a.isNone w := by
  cases a <;> simp [Op.equalIn, hT]
theorem Pu.eqlNil {el : TypeId} {a : Option Addr} {n c n' c' : Nat} (hT : ∀ w, (underlying T).run P w = .ok (.slice el) w) (hx : e x = .slice a n c) (hy : e y = .slice none n' c') : Pu P e ⟨d, .binOp .eql T x y T', ot, pos, af, g⟩ (.bool a.isNone) := fun w => by
  have := run_equalIn_nil (P := P) (a := a) (n := n) (c := c) (n' := n') (c' := c') 9999 w hT
  simp only [execOp, hx, hy, eqGuard, binOp, Op.equal, Op.maxDepth]
  simp [this]
end
end Go.Proofs.YtdeinimmmjichaaGreat.Hs
/-! Walks, printed by a program of this session's own (gen.py). -/
namespace Go.Proofs.YtdeinimmmjichaaGreat.Hs
open Go Go.Proofs
set_option maxRecDepth 100000
set_option linter.unusedVariables false
set_option linter.unusedSimpArgs false
attribute [local irreducible] JL J CT wlo
theorem idxI_ct (g : Nat) (fs cv : List Value) (hcall : ∀ args w, (callFunc g args).run Tryz.prog w = .ok (.enter g args) w) (pr : Int → Bool) (l : List Int) (v : Value) (H : Heap) (hl : rdS RI 1 H v l) (hg : ∀ x ∈ l, ∀ h, Hle H h → CT Tryz.prog g ⟨fs ++ [.int .i64 x] ++ cv⟩ [] h (fun v N => v = .bool (pr x) ∧ N = [])) : CT Tryz.prog 113 ⟨[v, .func (.func g) ⟨fs⟩ ⟨cv⟩]⟩ [] H (fun v N => v = .int .i64 (fstI pr l 0) ∧ N = []) := by
 refine Zr Tryz.func113 rfl rfl ?_
 refine Zg (Zc ?_)
 refine Za (v := .int .i64 0) rfl (Pu.assign rfl) ?_
 refine Zb ?_
 refine Zg ?_
 refine Zg (Zc ?_)
 refine Za (v := v) rfl (Pu.move rfl) ?_
 obtain ⟨a1, cap1, hv1⟩ := hl.sl
 have hle1 := hl.le
 refine Za (v := .int .i64 ((l.length : Int))) rfl (Pu.lenSl Tryz.runUnderlying43 hv1) ?_
 refine Za (v := .int .i64 0) rfl (Pu.move rfl) ?_
 refine Zb ?_
 refine Zs ?_
 refine J_loop (fun k ρ M => ∃ (j : Nat), ρ 0 = v ∧ ρ 1 = .func (.func g) ⟨fs⟩ ⟨cv⟩ ∧ ρ 4 = .int .i64 0 ∧ ρ 7 = .int .i64 ((l.length : Int)) ∧ ρ 8 = .int .i64 ((j : Int)) ∧ Sub [] M ∧ j ≤ l.length ∧ fstI pr (l.drop j) j = fstI pr l 0 ∧ k = l.length - j) _ ⟨0, rfl, rfl, rfl, rfl, rfl, Sub.nil, Nat.zero_le _, rfl, rfl⟩ ?_
 rintro _ ρ2 _ ⟨j, e3, e4, e5, e6, e7, hm8, hj, hinv, rfl⟩
 obtain ⟨ρ9, rfl⟩ := Ze (uc e3 (uc e4 (uc e5 (uc e6 (uc e7 un)))))
 clear e3 e4 e5 e6 e7
 refine J_sub hm8 ?_
 refine Zg (Zc ?_)
 refine Za (v := .bool (decide ((j : Int) < (l.length : Int)))) rfl (Pu.lss rfl rfl) ?_
 refine Zb ?_
 refine Zg ?_
 refine Zl (b := decide ((j : Int) < (l.length : Int))) rfl (fun h10 => ?_) (fun h10 => ?_)
 ·replace h10 := dt h10
  have h10n : j < l.length := by omega
  have hlenl := hl.le
  refine Zq ?_
  refine Zg ?_
  refine Zs ?_
  refine Zg (Zc ?_)
  refine Za (v := .int .i64 ((j : Int))) rfl (Pu.move rfl) ?_
  refine Za (v := .int .i64 ((j : Int))) rfl (Pu.assign rfl) ?_
  refine Zb ?_
  refine Zg (Zc ?_)
  refine Za (v := .func (.func g) ⟨fs⟩ ⟨cv⟩) rfl (Pu.move rfl) ?_
  refine Za (v := v) rfl (Pu.move rfl) ?_
  refine Za (v := .int .i64 ((j : Int))) rfl (Pu.move rfl) ?_
  obtain ⟨b11, o11, cap11, row11, T11, fr11, cs11, hv11, hb11, hs11, hE11⟩ := hl.get j (by first | assumption | omega | decide | simp)
  refine Za (v := .pointer (some ⟨b11, o11 + j * 1, none⟩)) rfl (Pu.idx j Tryz.runUnderlying43 ty3 hv11 rfl rfl (by first | assumption | omega | decide | simp)) ?_
  refine Zd rfl (Zh ty3 rfl (At.im hb11) (sub_one ((show cs11 = [Value.int .i64 (l[j])] from hE11) ▸ hs11)) ?_)
  refine Zk rfl hcall rfl (fun hin => hg _ (List.getElem_mem h10n) _ (Hle.hu _ _)) rfl ?_
  rintro _ _ ⟨rfl, rfl⟩
  refine Zb ?_
  refine Zl (b := pr (l[j])) rfl (fun h12 => ?_) (fun h12 => ?_)
  ·refine Zg (Zc ?_)
   refine Za (v := .int .i64 ((j : Int))) rfl (Pu.move rfl) ?_
   refine Za (v := .int .i64 ((j : Int))) rfl (Pu.assign rfl) ?_
   refine Zb ?_
   refine Zo ?_
   refine ⟨.int .i64 ((j : Int)), [], Ret.one rfl (RV.tmp rfl), Sub.nil, ?_⟩
   exact ⟨by rw [← hinv, dropc h10n, fstI, if_pos h12], rfl⟩
  refine Zq ?_
  refine Zc ?_
  refine Za (v := .int .i64 (((j + 1 : Nat) : Int))) rfl (Pu.inc rfl rfl (by omega)) ?_
  refine Za (v := .int .i64 (((j + 1 : Nat) : Int))) rfl (Pu.move rfl) ?_
  refine Zb ?_
  refine ⟨_, ?_, (j + 1), rfl, rfl, rfl, rfl, rfl, Sub.nil, ?_, ?_, rfl⟩
  ·omega
  ·omega
  rw [dropc h10n, fstI, if_neg (by simp [h12])] at hinv; exact hinv
 replace h10 := df h10
 have h10n : l.length ≤ j := by omega
 refine J_exit _ rfl ?_
 refine Zg (Zc ?_)
 refine Za (v := .int .i64 (-1)) rfl (Pu.assign rfl) ?_
 refine Zb ?_
 refine Zo ?_
 refine ⟨.int .i64 (-1), [], Ret.one rfl (RV.tmp rfl), Sub.nil, ?_⟩
 exact ⟨by rw [← hinv, dropn h10n]; rfl, rfl⟩
theorem containsI_ct (g : Nat) (fs cv : List Value) (hcall : ∀ args w, (callFunc g args).run Tryz.prog w = .ok (.enter g args) w) (pr : Int → Bool) (l : List Int) (v : Value) (H : Heap) (hl : rdS RI 1 H v l) (hg : ∀ x ∈ l, ∀ h, Hle H h → CT Tryz.prog g ⟨fs ++ [.int .i64 x] ++ cv⟩ [] h (fun v N => v = .bool (pr x) ∧ N = [])) : CT Tryz.prog 104 ⟨[v, .func (.func g) ⟨fs⟩ ⟨cv⟩]⟩ [] H (fun v N => v = .bool (l.any pr) ∧ N = []) := by
 refine Zr Tryz.func104 rfl rfl ?_
 refine Zg (Zc ?_)
 refine Za (v := .bool false) rfl (Pu.assign rfl) ?_
 refine Zb ?_
 refine Zg (Zc ?_)
 refine Za (v := v) rfl (Pu.move rfl) ?_
 refine Za (v := .func (.func g) ⟨fs⟩ ⟨cv⟩) rfl (Pu.move rfl) ?_
 refine Zk rfl Tryz.call113 rfl (fun hin => idxI_ct g fs cv hcall pr _ _ _ (RIs.mono (Hle.hu _ _) hl) (fun x hx h hh => hg x hx h (Hle.trans (Hle.hu _ _) hh))) rfl ?_
 rintro _ _ ⟨rfl, rfl⟩
 refine Za (v := .bool (decide (0 ≤ fstI pr l 0))) rfl (Pu.geq rfl rfl) ?_
 refine Za (v := .bool (decide (0 ≤ fstI pr l 0))) rfl (Pu.assign rfl) ?_
 refine Zb ?_
 refine Zo ?_
 refine ⟨.bool (decide (0 ≤ fstI pr l 0)), [], Ret.one rfl (RV.tmp rfl), Sub.nil, ?_⟩
 exact ⟨by rw [← fstI_any pr l 0], rfl⟩
theorem every1_ct (g : Nat) (fs cv : List Value) (hcall : ∀ args w, (callFunc g args).run Tryz.prog w = .ok (.enter g args) w) (pr : Int → Bool) (x : Int) (H : Heap) (bP : Nat) (hP : H bP = some (.cells ⟨[.func (.func g) ⟨fs⟩ ⟨cv⟩]⟩ 121 (0, 0))) (hg : ∀ h, Hle H h → CT Tryz.prog g ⟨fs ++ [.int .i64 x] ++ cv⟩ [] h (fun v N => v = .bool (pr x) ∧ N = [])) : CT Tryz.prog 105 ⟨[.int .i64 x, .pointer (some ⟨bP, 0, none⟩)]⟩ [] H (fun v N => v = .bool (!pr x) ∧ N = []) := by
 refine Zr Tryz.func105 rfl rfl ?_
 refine Zg (Zc ?_)
 refine Za (v := .bool false) rfl (Pu.assign rfl) ?_
 refine Zb ?_
 refine Zg (Zc ?_)
 refine Zd rfl (Zh ty121 rfl (At.im hP) rfl ?_)
 refine Za (v := .int .i64 x) rfl (Pu.move rfl) ?_
 refine Zk rfl hcall rfl (fun hin => hg _ (Hle.hu _ _)) rfl ?_
 rintro _ _ ⟨rfl, rfl⟩
 refine Za (v := .bool (!(pr x))) rfl (Pu.not rfl) ?_
 refine Za (v := .bool (!(pr x))) rfl (Pu.assign rfl) ?_
 refine Zb ?_
 refine Zo ?_
 refine ⟨.bool (!(pr x)), [], Ret.one rfl (RV.tmp rfl), Sub.nil, ?_⟩
 exact ⟨rfl, rfl⟩
theorem every_ct (g : Nat) (fs cv : List Value) (hcall : ∀ args w, (callFunc g args).run Tryz.prog w = .ok (.enter g args) w) (pr : Int → Bool) (l : List Int) (v : Value) (H : Heap) (hl : rdS RI 1 H v l) (hg : ∀ x ∈ l, ∀ h, Hle H h → CT Tryz.prog g ⟨fs ++ [.int .i64 x] ++ cv⟩ [] h (fun v N => v = .bool (pr x) ∧ N = [])) : CT Tryz.prog 82 ⟨[v, .func (.func g) ⟨fs⟩ ⟨cv⟩]⟩ [] H (fun v N => v = .bool (l.all pr) ∧ N = []) := by
 refine Zr Tryz.func82 rfl rfl ?_
 refine Zg (Zc ?_)
 refine Zd rfl (Zx (l := [.func (.func g) ⟨fs⟩ ⟨cv⟩]) rfl rfl fun b1 => ?_)
 refine Za (v := .bool false) rfl (Pu.assign rfl) ?_
 refine Zb ?_
 refine Zg (Zc ?_)
 refine Za (v := v) rfl (Pu.move rfl) ?_
 refine Za (v := .func (.func 105) ⟨[]⟩ ⟨[.pointer (some ⟨b1, 0, none⟩)]⟩) rfl (Pu.makeFunc rfl rfl) ?_
 refine Zk rfl Tryz.call104 rfl (fun hin => containsI_ct 105 [] [.pointer (some ⟨b1, 0, none⟩)] Tryz.call105 (fun x => !pr x) _ _ _ (RIs.mono (Hle.hu _ _) hl) (fun x hx h hh => every1_ct g fs cv hcall pr x h b1 (hh _ _ (hin 0 _ rfl _ _ List.mem_cons_self)) (fun h2 hh2 => hg x hx h2 (Hle.trans (Hle.trans (Hle.hu _ _) hh) hh2)))) rfl ?_
 rintro _ _ ⟨rfl, rfl⟩
 refine Za (v := .bool (!(l.any (fun x => !pr x)))) rfl (Pu.not rfl) ?_
 refine Za (v := .bool (!(l.any (fun x => !pr x)))) rfl (Pu.assign rfl) ?_
 refine Zb ?_
 refine Zo ?_
 refine ⟨.bool (!(l.any (fun x => !pr x))), [], Ret.one rfl (RV.tmp rfl), Sub.nil, ?_⟩
 exact ⟨by simp [List.not_any_eq_all_not], rfl⟩
theorem shiftO_ct (n dy fr : Int) (H : Heap) (bF bD : Nat) (hF : H bF = some (.cells ⟨[.int .i64 fr]⟩ 3 (0, 0))) (hD : H bD = some (.cells ⟨[.int .i64 dy]⟩ 3 (0, 0))) (hn0 : 0 ≤ n) (hn1 : n ≤ 60) (hd0 : -60 ≤ dy) (hd1 : dy ≤ 60) : CT Tryz.prog 83 ⟨[.int .i64 n, .pointer (some ⟨bF, 0, none⟩), .pointer (some ⟨bD, 0, none⟩)]⟩ [] H (fun v N => v = .bool (mvOk dy fr n) ∧ N = []) := by
 refine Zr Tryz.func83 rfl rfl ?_
 refine Zg (Zc ?_)
 refine Za (v := .bool false) rfl (Pu.assign rfl) ?_
 refine Zb ?_
 refine Zg (Zc ?_)
 refine Za (v := .int .i64 n) rfl (Pu.move rfl) ?_
 refine Zd rfl (Zh ty3 rfl (At.im hF) rfl ?_)
 refine Za (v := .bool (decide (n < fr))) rfl (Pu.lss rfl rfl) ?_
 refine Za (v := .bool (decide (n < fr))) rfl (Pu.move rfl) ?_
 cases h1 : (decide (n < fr)) with
 | true =>
  replace h1 := dt h1
  refine Zf rfl ?_
  refine Zf rfl ?_
  refine Zf rfl ?_
  refine Zf rfl ?_
  refine Zf rfl ?_
  refine Zf rfl ?_
  refine Za (v := .bool true) rfl (Pu.pickT rfl rfl) ?_
  refine Za (v := .bool true) rfl (Pu.assign rfl) ?_
  refine Zb ?_
  refine Zo ?_
  refine ⟨.bool true, [], Ret.one rfl (RV.tmp rfl), Sub.nil, ?_⟩
  exact ⟨by simp only [mvOk]; simp_all <;> omega, rfl⟩
 | false =>
  replace h1 := df h1
  refine Za (v := .int .i64 n) rfl (Pu.move rfl) ?_
  refine Zd rfl (Zh ty3 rfl (At.im hD) rfl ?_)
  refine Za (v := .int .i64 (n + dy)) rfl (Pu.add64 rfl rfl (by first | omega | (constructor <;> omega))) ?_
  refine Zd rfl (Zh ty3 rfl (At.im hF) rfl ?_)
  refine Zk rfl Tryz.call76 rfl (fun hin => off_ct _ _ _ _) rfl ?_
  rintro _ _ ⟨rfl, rfl⟩
  refine Za (v := .bool (!(decide (n + dy < fr ∨ 59 < n + dy)))) rfl (Pu.not rfl) ?_
  refine Za (v := .bool (!(decide (n + dy < fr ∨ 59 < n + dy)))) rfl (Pu.pickF rfl rfl) ?_
  refine Za (v := .bool (!(decide (n + dy < fr ∨ 59 < n + dy)))) rfl (Pu.assign rfl) ?_
  refine Zb ?_
  refine Zo ?_
  refine ⟨.bool (!(decide (n + dy < fr ∨ 59 < n + dy))), [], Ret.one rfl (RV.tmp rfl), Sub.nil, ?_⟩
  exact ⟨by simp only [mvOk]; simp_all <;> omega, rfl⟩
theorem freeV_ct (n b : Int) (s : List Int) (r : Nat) (H : Heap) (bM : Nat) (hM : H bM = some (.cells ⟨[.map (some r)]⟩ 127 (0, 0))) (hn0 : 0 ≤ n) (hn1 : n ≤ 2000000) (hb0 : 0 ≤ b) (hb1 : b ≤ 2000000) : CT Tryz.prog 91 ⟨[.int .i64 n, .int .i64 b, .pointer (some ⟨bM, 0, none⟩)]⟩ [metC r s] H (fun v N => ∃ cs k, v = .agg ⟨cs⟩ ∧ N = [k, metC r (metV n b s).2] ∧ OT (metV n b s).1 cs k) := by
 refine Zr Tryz.func91 rfl rfl ?_
 refine Zg (Zc ?_)
 refine Zd rfl (Zn (l := pkT 0 0 zS (.slice none 0 0) (.slice none 0 0)) Tryz.zeroValue27 rfl fun b1 => ?_)
 refine Zb ?_
 refine Zg (Zc ?_)
 refine Zd rfl (Zh ty127 rfl (At.im hM) rfl ?_)
 refine Za (v := .int .i64 n) rfl (Pu.move rfl) ?_
 refine Zd rfl (Runs_mapUpdate (i := 1) Tryz.underlying127 Tryz.underlying3 rfl rfl rfl rfl ?_)
 refine Zb ?_
 refine Zg (Zc ?_)
 refine Za (v := .int .i64 n) rfl (Pu.move rfl) ?_
 refine Za (v := .int .i64 b) rfl (Pu.move rfl) ?_
 refine Zk rfl Tryz.call79 rfl (fun hin => stay_ct _ _ _ (by unfold inI; omega)) rfl ?_
 rintro _ _ ⟨cs2, k2, rfl, rfl, hO2⟩
 refine Zd rfl (Zi 1 (vs := cs2) (l := cs2) Zt rfl rfl rfl rfl hO2.len hO2.ok (spl_a (n := 36) rfl hO2.len) ?_)
 refine Zb ?_
 refine Zo ?_
 refine ⟨.agg ⟨cs2⟩, [k2, metC r (addK s n)], Ret.one rfl (RV.cell Zt rfl (At.bx 1 rfl) (Zy hO2.len)), (Sk (Sd (Sk Sub.nil))), ?_⟩
 exact ⟨_, _, rfl, rfl, hO2⟩
theorem freeP_ct (t : Tm) (cs : List Value) (H : Heap) (ht : RT H cs t) (hz : sizeT t ≤ 900000) (hv : vOK t) : CT Tryz.prog 52 ⟨[.agg ⟨cs⟩]⟩ [] H (fun v N => ∃ u k, v = u ∧ N = [k] ∧ Own 3 1 u (ints (freeP t)) k) := by
 refine Zr Tryz.func52 rfl rfl ?_
 refine Zg (Zc ?_)
 refine Zd rfl (Zx (l := cs) rfl rfl fun b1 => ?_)
 refine Za (v := .slice none 0 0) rfl (Pu.assign rfl) ?_
 refine Zb ?_
 refine Zg (Zc ?_)
 refine Zd rfl (Runs_makeMap fun r2 => ?_)
 refine Zd rfl (Zn (l := [.map none]) Tryz.zeroValue127 rfl fun b3 => ?_)
 refine Zd rfl (Zi 0 (vs := [.map (some r2)]) (l := [.map (some r2)]) ty127 rfl rfl rfl rfl rfl (Zp rfl Zz) rfl ?_)
 refine Zb ?_
 refine Zg (Zc ?_)
 refine Za (v := .func (.func 91) ⟨[]⟩ ⟨[.pointer (some ⟨b3, 0, none⟩)]⟩) rfl (Pu.makeFunc rfl rfl) ?_
 refine Za (v := .agg ⟨[.func (.func 91) ⟨[]⟩ ⟨[.pointer (some ⟨b3, 0, none⟩)]⟩, .func (.func 80) ⟨[]⟩ ⟨[]⟩]⟩) rfl (Pu.build (pv := [(0, .func (.func 91) ⟨[]⟩ ⟨[.pointer (some ⟨b3, 0, none⟩)]⟩), (1, .func (.func 80) ⟨[]⟩ ⟨[]⟩)]) (l := [.func (.func 91) ⟨[]⟩ ⟨[.pointer (some ⟨b3, 0, none⟩)]⟩, .func (.func 80) ⟨[]⟩ ⟨[]⟩]) rfl (bld118_0_1 _ _ _ _ _ _)) ?_
 refine Zd rfl (Zj Zt rfl (At.bx 2 rfl) (Zy (Zv ht)) ?_)
 refine JL_call1 1 rfl Tryz.call81 rfl rfl (fun hin => mapTerm_ct 80 [] [] Tryz.call80 (fun s => s) 91 [] [.pointer (some ⟨b3, 0, none⟩)] Tryz.call91 (List Int) (metC r2) (fun _ => True) metV (fun _ _ _ _ => trivial) _ _ _ _ _ (RT.mono (Hle.hu _ _) ht) (by omega) hv (by decide) (by omega) trivial (fun s h hh => same_ct s h) (fun n b s h hh _ h1 h2 h3 h4 => freeV_ct n b s r2 h b3 (hh _ _ (hin 0 _ rfl _ _ List.mem_cons_self)) h1 h2 h3 h4)) rfl ?_
 rintro _ _ ⟨cs4, k4, rfl, rfl, hO4⟩
 refine Zb ?_
 refine Zg (Zc ?_)
 refine Za (v := .slice none 0 0) rfl (Pu.assign rfl) ?_
 refine Zb ?_
 refine Zg ?_
 refine Zg (Zc ?_)
 refine Za (v := .int .i64 0) rfl (Pu.move rfl) ?_
 refine Zb ?_
 refine Zs ?_
 refine J_loop (fun k ρ M => ∃ (j : Nat) (v : Value) (k1 : Zm), ρ 2 = .slice none 0 0 ∧ ρ 3 = .pointer (some ⟨b3, 0, none⟩) ∧ ρ 4 = v ∧ ρ 11 = .int .i64 ((j : Int)) ∧ Sub [k1, metC r2 (metT t), [(b3, .cells ⟨[.map (some r2)]⟩ 127 (0, 0))]] M ∧ j ≤ 60 ∧ Own 3 1 v (ints (upTo (metF (metT t)) j)) k1 ∧ k = 60 - j) _ ⟨0, (.slice none 0 0), [], rfl, rfl, rfl, rfl, (Sub.emp (Sd (Sk (Sk Sub.nil)))), Nat.zero_le _, Own.nil, rfl⟩ ?_
 rintro _ ρ5 _ ⟨j, v, k1, e6, e7, e8, e9, hm10, hj, ho, rfl⟩
 obtain ⟨ρ11, rfl⟩ := Ze (uc e6 (uc e7 (uc e8 (uc e9 un))))
 clear e6 e7 e8 e9
 refine J_sub hm10 ?_
 refine Zg (Zc ?_)
 refine Za (v := .bool (decide ((j : Int) < 60))) rfl (Pu.lss rfl rfl) ?_
 refine Zb ?_
 refine Zg ?_
 refine Zl (b := decide ((j : Int) < 60)) rfl (fun h12 => ?_) (fun h12 => ?_)
 ·replace h12 := dt h12
  have h12n : j < 60 := by omega
  have hul := upTo_len (metF (metT t)) j
  have hil := ints_len (upTo (metF (metT t)) j)
  have hge := metF_get (metT t) j h12n
  refine Zq ?_
  refine Zg ?_
  refine Zs ?_
  refine Zg (Zc ?_)
  refine Za (v := .int .i64 ((j : Int))) rfl (Pu.move rfl) ?_
  refine Za (v := .int .i64 ((j : Int))) rfl (Pu.assign rfl) ?_
  refine Zb ?_
  refine Zg (Zc ?_)
  refine Zd rfl (Zh ty127 rfl (At.bx 2 rfl) rfl ?_)
  refine Za (v := .int .i64 ((j : Int))) rfl (Pu.move rfl) ?_
  refine Zd rfl (Runs_lookup (i := 1) Tryz.underlying127 Tryz.underlying3 Tryz.zeroValue4 rfl rfl rfl ?_)
  refine Zb ?_
  refine Zl (b := decide ((j : Int) ∈ (metT t))) rfl (fun h13 => ?_) (fun h13 => ?_)
  ·replace h13 := dt h13
   refine Zc ?_
   refine Za (v := v) rfl (Pu.move rfl) ?_
   refine Za (v := .int .i64 ((j : Int))) rfl (Pu.move rfl) ?_
   refine Zd rfl (ZA (vs := [.int .i64 ((j : Int))]) [[.int .i64 ((j : Int))]] Tryz.runUnderlying43 el3 rfl rfl (by intro e he; simp only [List.mem_cons, List.not_mem_nil, or_false] at he; subst he; exact rfl) rfl (by decide) fun b14 k14 ho14 hk14 => ?_)
   have hlens15 : ∀ e ∈ ([[.int .i64 ((j : Int))]] : List (List Value)), List.length e = 1 := by
    intro e he; simp only [List.mem_cons, List.not_mem_nil, or_false] at he
    rcases he with rfl
    ·exact rfl
   have hoks15 : ∀ e ∈ ([[.int .i64 ((j : Int))]] : List (List Value)), okc e := by
    intro e he; simp only [List.mem_cons, List.not_mem_nil, or_false] at he
    rcases he with rfl
    ·exact (Zp rfl Zz)
   refine Zd rfl (Runs_append (i := 1) (n := 1) (es' := [[.int .i64 ((j : Int))]]) Tryz.runUnderlying43 Tryz.runUnderlying43 (Or.inl rfl) el3 rfl rfl rfl ho (fun F w m => Src.row (((At.k 0 rfl (by rw [hk14]; exact List.mem_cons_self))).heap m) (Zy (flatten_len hlens15))) rfl hlens15 hoks15 (by decide) (by omega) fun v15 k15 ho15 => ?_)
   refine Za (v := v15) rfl (Pu.assign rfl) ?_
   refine Zb ?_
   refine Zc ?_
   refine Za (v := .int .i64 (((j + 1 : Nat) : Int))) rfl (Pu.inc rfl rfl (by omega)) ?_
   refine Za (v := .int .i64 (((j + 1 : Nat) : Int))) rfl (Pu.move rfl) ?_
   refine Zb ?_
   refine ⟨_, ?_, (j + 1), v15, k15, rfl, rfl, rfl, rfl, (Sd (Sk (Sk (Sk Sub.nil)))), ?_, ?_, rfl⟩
   ·omega
   ·omega
   rw [upTo_succ, hge, if_pos (by simp [h13]), ints_snoc]; exact ho15
  replace h13 := df h13
  refine Zq ?_
  refine Zc ?_
  refine Za (v := .int .i64 (((j + 1 : Nat) : Int))) rfl (Pu.inc rfl rfl (by omega)) ?_
  refine Za (v := .int .i64 (((j + 1 : Nat) : Int))) rfl (Pu.move rfl) ?_
  refine Zb ?_
  refine ⟨_, ?_, (j + 1), v, k1, rfl, rfl, rfl, rfl, (Sk (Sk (Sk Sub.nil))), ?_, ?_, rfl⟩
  ·omega
  ·omega
  rw [upTo_succ, hge, if_neg (by simp [h13])]; exact ho
 replace h12 := df h12
 have h12n : 60 ≤ j := by omega
 refine J_exit _ rfl ?_
 refine Zg (Zc ?_)
 refine Za (v := v) rfl (Pu.move rfl) ?_
 refine Za (v := v) rfl (Pu.assign rfl) ?_
 refine Zb ?_
 refine Zo ?_
 refine ⟨v, [k1], Ret.one rfl (RV.tmp rfl), (Sk Sub.nil), ?_⟩
 obtain rfl : j = 60 := by omega
 exact ⟨v, k1, rfl, rfl, ho⟩
end Go.Proofs.YtdeinimmmjichaaGreat.Hs
/-! Walks, printed by a program of this session's own (gen.py). -/
namespace Go.Proofs.YtdeinimmmjichaaGreat.Hs
open Go Go.Proofs
set_option maxRecDepth 100000
set_option linter.unusedVariables false
set_option linter.unusedSimpArgs false
attribute [local irreducible] JL J CT wlo
theorem shiftP_ct (t : Tm) (dy fr : Int) (cs : List Value) (H : Heap) (ht : RT H cs t) : CT Tryz.prog 42 ⟨[.agg ⟨cs⟩, .int .i64 dy, .int .i64 fr]⟩ [] H (fun v N => ∃ cs k, v = .tuple ⟨[.agg ⟨cs⟩, .int .i64 (shiftP t dy fr).2]⟩ ∧ N = [k] ∧ OT (shiftP t dy fr).1 cs k) := by
 refine Zr Tryz.func42 rfl rfl ?_
 refine Zg (Zc ?_)
 refine Zd rfl (Zx (l := cs) rfl rfl fun b1 => ?_)
 refine Zd rfl (Zx (l := [.int .i64 dy]) rfl rfl fun b2 => ?_)
 refine Zd rfl (Zx (l := [.int .i64 fr]) rfl rfl fun b3 => ?_)
 refine Zd rfl (Zn (l := pkT 0 0 zS (.slice none 0 0) (.slice none 0 0)) Tryz.zeroValue27 rfl fun b4 => ?_)
 refine Za (v := .int .i64 0) rfl (Pu.assign rfl) ?_
 refine Zb ?_
 refine Zg ?_
 refine Zg (Zc ?_)
 refine Zd rfl (Zj Zt rfl (At.bx 3 rfl) (Zy (Zv ht)) ?_)
 refine Zd rfl (ZA (vs := [.agg ⟨cs⟩]) [cs] Tryz.runUnderlying24 el27 rfl rfl (by intro e he; simp only [List.mem_cons, List.not_mem_nil, or_false] at he; subst he; exact (Zv ht)) rfl (by decide) fun b5 k5 ho5 hk5 => ?_)
 refine Zk rfl Tryz.call50 rfl (fun hin => right_ct _ _ _ (Own.rd1 ho5 (hin 0 _ rfl) (RT.mono (Hle.hu _ _) ht))) rfl ?_
 rintro _ _ ⟨rfl, rfl⟩
 refine Za (v := .int .i64 (ZD [t])) rfl (Pu.assign rfl) ?_
 refine Zb ?_
 refine Zg (Zc ?_)
 refine Za (v := .int .i64 (ZD [t])) rfl (Pu.move rfl) ?_
 refine Za (v := .bool (!decide (ZD [t] = 0))) rfl (Pu.neq rfl rfl) ?_
 refine Zb ?_
 refine Zl (b := !decide (ZD [t] = 0)) rfl (fun h6 => ?_) (fun h6 => ?_)
 ·replace h6 := nt h6
  replace h6 := df h6
  refine Zg (Zc ?_)
  refine Za (v := .agg ⟨pkT 0 0 zS (.slice none 0 0) (.slice none 0 0)⟩) rfl (Pu.build (pv := []) (l := pkT 0 0 zS (.slice none 0 0) (.slice none 0 0)) rfl (bld27_ )) ?_
  refine Za (v := .int .i64 (ZD [t])) rfl (Pu.move rfl) ?_
  refine Zd rfl (Zi 1 (vs := pkT 0 0 zS (.slice none 0 0) (.slice none 0 0)) (l := pkT 0 0 zS (.slice none 0 0) (.slice none 0 0)) Zt rfl rfl rfl rfl rfl (pkT_ok rfl rfl) (pkT_s ..) ?_)
  refine Za (v := .int .i64 (ZD [t])) rfl (Pu.assign rfl) ?_
  refine Zb ?_
  refine Zo ?_
  refine ⟨.tuple ⟨[.agg ⟨pkT 0 0 zS (.slice none 0 0) (.slice none 0 0)⟩, .int .i64 (ZD [t])]⟩, [[]], Ret.two rfl (RV.cell Zt rfl (At.bx 1 rfl) (pkT_a ..)) (RV.tmp rfl), (Sub.emp Sub.nil), ?_⟩
  have hx : shiftP t dy fr = (zT, ZD [t]) := by simp only [shiftP]; (repeat' split) <;> first | rfl | (exfalso; simp_all; done) | (exfalso; simp_all; omega)
  exact ⟨_, _, by rw [hx], rfl, by rw [hx]; exact OT_zero⟩
 replace h6 := nf h6
 replace h6 := dt h6
 refine Zq ?_
 refine Zg ?_
 refine J_cut (fun ρ M => ρ 3 = .pointer (some ⟨b1, 0, none⟩) ∧ ρ 4 = .pointer (some ⟨b2, 0, none⟩) ∧ ρ 5 = .pointer (some ⟨b3, 0, none⟩) ∧ ρ 6 = .pointer (some ⟨b4, 0, none⟩) ∧ ρ 7 = .int .i64 0 ∧ ρ 21 = .bool ((decide (dy < -60 ∨ 60 < dy)) || (decide (fr < 0 ∨ 60 < fr))) ∧ M = [k5, [(b4, .cells ⟨pkT 0 0 zS (.slice none 0 0) (.slice none 0 0)⟩ 27 (0, 0))], [(b3, .cells ⟨[.int .i64 fr]⟩ 3 (0, 0))], [(b2, .cells ⟨[.int .i64 dy]⟩ 3 (0, 0))], [(b1, .cells ⟨cs⟩ 27 (0, 0))]]) ?_ ?_
 ·refine Zc ?_
  refine Zd rfl (Zh ty3 rfl (At.bx 3 rfl) rfl ?_)
  refine Zk rfl Tryz.call76 rfl (fun hin => off_ct _ _ _ _) rfl ?_
  rintro _ _ ⟨rfl, rfl⟩
  refine Za (v := .bool (decide (dy < -60 ∨ 60 < dy))) rfl (Pu.move rfl) ?_
  cases h7 : (decide (dy < -60 ∨ 60 < dy)) with
  | true =>
   replace h7 := dt h7
   refine Zf rfl ?_
   refine Zf rfl ?_
   refine Za (v := .bool true) rfl (Pu.pickT rfl rfl) ?_
   refine Zb ?_
   first | exact ⟨rfl, rfl, rfl, rfl, rfl, rfl, rfl⟩ | (exfalso; omega)
  | false =>
   replace h7 := df h7
   refine Zd rfl (Zh ty3 rfl (At.bx 2 rfl) rfl ?_)
   refine Zk rfl Tryz.call76 rfl (fun hin => off_ct _ _ _ _) rfl ?_
   rintro _ _ ⟨rfl, rfl⟩
   refine Za (v := .bool (decide (fr < 0 ∨ 60 < fr))) rfl (Pu.pickF rfl rfl) ?_
   refine Zb ?_
   first | exact ⟨rfl, rfl, rfl, rfl, rfl, rfl, rfl⟩ | (exfalso; omega)
 rintro ρ8 _ ⟨e9, e10, e11, e12, e13, e14, rfl⟩
 obtain ⟨ρ15, rfl⟩ := Ze (uc e9 (uc e10 (uc e11 (uc e12 (uc e13 (uc e14 un))))))
 clear e9 e10 e11 e12 e13 e14
 refine Zl (b := (decide (dy < -60 ∨ 60 < dy)) || (decide (fr < 0 ∨ 60 < fr))) rfl (fun h16 => ?_) (fun h16 => ?_)
 ·refine Zg (Zc ?_)
  refine Za (v := .agg ⟨pkT 0 0 zS (.slice none 0 0) (.slice none 0 0)⟩) rfl (Pu.build (pv := []) (l := pkT 0 0 zS (.slice none 0 0) (.slice none 0 0)) rfl (bld27_ )) ?_
  refine Zd rfl (Zi 1 (vs := pkT 0 0 zS (.slice none 0 0) (.slice none 0 0)) (l := pkT 0 0 zS (.slice none 0 0) (.slice none 0 0)) Zt rfl rfl rfl rfl rfl (pkT_ok rfl rfl) (pkT_s ..) ?_)
  refine Za (v := .int .i64 3) rfl (Pu.assign rfl) ?_
  refine Zb ?_
  refine Zo ?_
  refine ⟨.tuple ⟨[.agg ⟨pkT 0 0 zS (.slice none 0 0) (.slice none 0 0)⟩, .int .i64 3]⟩, [[]], Ret.two rfl (RV.cell Zt rfl (At.bx 1 rfl) (pkT_a ..)) (RV.tmp rfl), (Sub.emp Sub.nil), ?_⟩
  have hx : shiftP t dy fr = (zT, 3) := by simp only [shiftP]; (repeat' split) <;> first | rfl | (exfalso; simp_all; done) | (exfalso; simp_all; omega)
  exact ⟨_, _, by rw [hx], rfl, by rw [hx]; exact OT_zero⟩
 obtain ⟨h16a, h16b⟩ := orF h16
 replace h16a := df h16a
 replace h16b := df h16b
 refine Zq ?_
 refine Zg ?_
 refine Zg (Zc ?_)
 refine Zd rfl (Zj Zt rfl (At.bx 4 rfl) (Zy (Zv ht)) ?_)
 refine Zk rfl Tryz.call52 rfl (fun hin => freeP_ct _ _ _ (RT.mono (Hle.hu _ _) ht) (by have := (checkT_ok (rightT1 ‹ZD [t] = 0›)).1; omega) (checkT_ok (rightT1 ‹ZD [t] = 0›)).2.1) rfl ?_
 rintro u17 _ ⟨_, k17, hu17, rfl, ho17⟩; subst hu17
 refine Za (v := .func (.func 83) ⟨[]⟩ ⟨[.pointer (some ⟨b3, 0, none⟩), .pointer (some ⟨b2, 0, none⟩)]⟩) rfl (Pu.makeFunc rfl rfl) ?_
 refine Zk rfl Tryz.call82 rfl (fun hin => every_ct 83 [] [.pointer (some ⟨b3, 0, none⟩), .pointer (some ⟨b2, 0, none⟩)] Tryz.call83 (mvOk dy fr) _ _ _ (own_ints ho17 (by have := freeP_len t; omega) (hin 0 _ rfl)) (fun x hx h hh => shiftO_ct x dy fr h b3 b2 (hh _ _ (hin 3 _ rfl _ _ List.mem_cons_self)) (hh _ _ (hin 4 _ rfl _ _ List.mem_cons_self)) (freeP_bound t x hx).1 (by have := (freeP_bound t x hx).2; omega) (by omega) (by omega))) rfl ?_
 rintro _ _ ⟨rfl, rfl⟩
 refine Za (v := .bool (!((freeP t).all (mvOk dy fr)))) rfl (Pu.not rfl) ?_
 refine Zb ?_
 refine Zl (b := !((freeP t).all (mvOk dy fr))) rfl (fun h18 => ?_) (fun h18 => ?_)
 ·replace h18 := nt h18
  refine Zg (Zc ?_)
  refine Za (v := .agg ⟨pkT 0 0 zS (.slice none 0 0) (.slice none 0 0)⟩) rfl (Pu.build (pv := []) (l := pkT 0 0 zS (.slice none 0 0) (.slice none 0 0)) rfl (bld27_ )) ?_
  refine Zd rfl (Zi 2 (vs := pkT 0 0 zS (.slice none 0 0) (.slice none 0 0)) (l := pkT 0 0 zS (.slice none 0 0) (.slice none 0 0)) Zt rfl rfl rfl rfl rfl (pkT_ok rfl rfl) (pkT_s ..) ?_)
  refine Za (v := .int .i64 1) rfl (Pu.assign rfl) ?_
  refine Zb ?_
  refine Zo ?_
  refine ⟨.tuple ⟨[.agg ⟨pkT 0 0 zS (.slice none 0 0) (.slice none 0 0)⟩, .int .i64 1]⟩, [[]], Ret.two rfl (RV.cell Zt rfl (At.bx 2 rfl) (pkT_a ..)) (RV.tmp rfl), (Sub.emp Sub.nil), ?_⟩
  have hx : shiftP t dy fr = (zT, 1) := by simp only [shiftP]; (repeat' split) <;> first | rfl | (exfalso; simp_all; done) | (exfalso; simp_all; omega)
  exact ⟨_, _, by rw [hx], rfl, by rw [hx]; exact OT_zero⟩
 replace h18 := nf h18
 refine Zq ?_
 refine Zg (Zc ?_)
 refine Zd rfl (Zj Zt rfl (At.bx 5 rfl) (Zy (Zv ht)) ?_)
 refine Zd rfl (Zh ty3 rfl (At.bx 4 rfl) rfl ?_)
 refine Zd rfl (Zh ty3 rfl (At.bx 3 rfl) rfl ?_)
 refine Zk rfl Tryz.call78 rfl (fun hin => shifted_ct _ _ _ _ _ (RT.mono (Hle.hu _ _) ht) (by have := (checkT_ok (rightT1 ‹ZD [t] = 0›)).1; omega) (checkT_ok (rightT1 ‹ZD [t] = 0›)).2.1 (by omega) (by omega)) rfl ?_
 rintro _ _ ⟨cs19, k19, rfl, rfl, hO19⟩
 refine Zd rfl (Zi 3 (vs := cs19) (l := cs19) Zt rfl rfl rfl rfl hO19.len hO19.ok (spl_a (n := 36) rfl hO19.len) ?_)
 refine Za (v := .int .i64 0) rfl (Pu.assign rfl) ?_
 refine Zb ?_
 refine Zo ?_
 refine ⟨.tuple ⟨[.agg ⟨cs19⟩, .int .i64 0]⟩, [k19], Ret.two rfl (RV.cell Zt rfl (At.bx 3 rfl) (Zy hO19.len)) (RV.tmp rfl), (Sk Sub.nil), ?_⟩
 have hx : shiftP t dy fr = (shT dy fr t, 0) := by simp only [shiftP]; (repeat' split) <;> first | rfl | (exfalso; simp_all; done) | (exfalso; simp_all; omega)
 exact ⟨_, _, by rw [hx], rfl, by rw [hx]; exact hO19⟩
theorem freeE_ct (t : Tm) (cs : List Value) (H : Heap) (ht : RT H cs t) : CT Tryz.prog 17 ⟨[.agg ⟨cs⟩]⟩ [] H (fun v N => ∃ u e k, v = .tuple ⟨[u, .int .i64 e]⟩ ∧ N = [k] ∧ Own 3 1 u (ints (freeE t).1) k ∧ e = (freeE t).2) := by
 refine Zr Tryz.func17 rfl rfl ?_
 refine Zg (Zc ?_)
 refine Zd rfl (Zx (l := cs) rfl rfl fun b1 => ?_)
 refine Za (v := .slice none 0 0) rfl (Pu.assign rfl) ?_
 refine Za (v := .int .i64 0) rfl (Pu.assign rfl) ?_
 refine Zb ?_
 refine Zg ?_
 refine Zg (Zc ?_)
 refine Zd rfl (Zj Zt rfl (At.bx 0 rfl) (Zy (Zv ht)) ?_)
 refine Zd rfl (ZA (vs := [.agg ⟨cs⟩]) [cs] Tryz.runUnderlying24 el27 rfl rfl (by intro e he; simp only [List.mem_cons, List.not_mem_nil, or_false] at he; subst he; exact (Zv ht)) rfl (by decide) fun b2 k2 ho2 hk2 => ?_)
 refine Zk rfl Tryz.call50 rfl (fun hin => right_ct _ _ _ (Own.rd1 ho2 (hin 0 _ rfl) (RT.mono (Hle.hu _ _) ht))) rfl ?_
 rintro _ _ ⟨rfl, rfl⟩
 refine Za (v := .int .i64 (ZD [t])) rfl (Pu.assign rfl) ?_
 refine Zb ?_
 refine Zg (Zc ?_)
 refine Za (v := .int .i64 (ZD [t])) rfl (Pu.move rfl) ?_
 refine Za (v := .bool (!decide (ZD [t] = 0))) rfl (Pu.neq rfl rfl) ?_
 refine Zb ?_
 refine Zl (b := !decide (ZD [t] = 0)) rfl (fun h3 => ?_) (fun h3 => ?_)
 ·replace h3 := nt h3
  replace h3 := df h3
  refine Zg (Zc ?_)
  refine Za (v := .int .i64 (ZD [t])) rfl (Pu.move rfl) ?_
  refine Za (v := .slice none 0 0) rfl (Pu.assign rfl) ?_
  refine Za (v := .int .i64 (ZD [t])) rfl (Pu.assign rfl) ?_
  refine Zb ?_
  refine Zo ?_
  refine ⟨.tuple ⟨[.slice none 0 0, .int .i64 (ZD [t])]⟩, [[]], Ret.two rfl (RV.tmp rfl) (RV.tmp rfl), (Sub.emp Sub.nil), ?_⟩
  have hx : freeE t = ([], ZD [t]) := by rw [freeE, if_neg (by assumption)]
  exact ⟨_, _, _, rfl, rfl, by rw [hx]; exact Own.nil, by rw [hx]⟩
 replace h3 := nf h3
 replace h3 := dt h3
 refine Zq ?_
 refine Zg (Zc ?_)
 refine Zd rfl (Zj Zt rfl (At.bx 1 rfl) (Zy (Zv ht)) ?_)
 refine Zk rfl Tryz.call52 rfl (fun hin => freeP_ct _ _ _ (RT.mono (Hle.hu _ _) ht) (by have := (checkT_ok (rightT1 ‹ZD [t] = 0›)).1; omega) (checkT_ok (rightT1 ‹ZD [t] = 0›)).2.1) rfl ?_
 rintro u4 _ ⟨_, k4, hu4, rfl, ho4⟩; subst hu4
 refine Za (v := u4) rfl (Pu.assign rfl) ?_
 refine Za (v := .int .i64 0) rfl (Pu.assign rfl) ?_
 refine Zb ?_
 refine Zo ?_
 refine ⟨.tuple ⟨[u4, .int .i64 0]⟩, [k4], Ret.two rfl (RV.tmp rfl) (RV.tmp rfl), (Sk Sub.nil), ?_⟩
 have hx : freeE t = (freeP t, 0) := by rw [freeE, if_pos (by assumption)]
 exact ⟨_, _, _, rfl, rfl, by rw [hx]; exact ho4, by rw [hx]⟩
theorem substP_ct (t : Tm) (m : Int) (u : Tm) (cs us : List Value) (H : Heap) (ht : RT H cs t) (hu1 : RT H us u) : CT Tryz.prog 41 ⟨[.agg ⟨cs⟩, .int .i64 m, .agg ⟨us⟩]⟩ [] H (fun v N => ∃ cs k, v = .tuple ⟨[.agg ⟨cs⟩, .int .i64 (substP t m u).2]⟩ ∧ N = [k] ∧ OT (substP t m u).1 cs k) := by
 refine Zr Tryz.func41 rfl rfl ?_
 refine Zg (Zc ?_)
 refine Zd rfl (Zx (l := cs) rfl rfl fun b1 => ?_)
 refine Zd rfl (Zx (l := [.int .i64 m]) rfl rfl fun b2 => ?_)
 refine Zd rfl (Zx (l := us) rfl rfl fun b3 => ?_)
 refine Zd rfl (Zn (l := pkT 0 0 zS (.slice none 0 0) (.slice none 0 0)) Tryz.zeroValue27 rfl fun b4 => ?_)
 refine Za (v := .int .i64 0) rfl (Pu.assign rfl) ?_
 refine Zb ?_
 refine Zg ?_
 refine Zg (Zc ?_)
 refine Zd rfl (Zj Zt rfl (At.bx 3 rfl) (Zy (Zv ht)) ?_)
 refine Zd rfl (Zj Zt rfl (At.bx 1 rfl) (Zy (Zv hu1)) ?_)
 refine Zd rfl (ZA (vs := [.agg ⟨cs⟩, .agg ⟨us⟩]) [cs, us] Tryz.runUnderlying24 el27 rfl rfl (by intro e he; simp only [List.mem_cons, List.not_mem_nil, or_false] at he; rcases he with rfl | rfl <;> first | exact (Zv ht) | exact (Zv hu1)) rfl (by decide) fun b5 k5 ho5 hk5 => ?_)
 refine Zk rfl Tryz.call50 rfl (fun hin => right_ct _ _ _ (Own.rd2 ho5 (hin 0 _ rfl) (RT.mono (Hle.hu _ _) ht) (RT.mono (Hle.hu _ _) hu1))) rfl ?_
 rintro _ _ ⟨rfl, rfl⟩
 refine Za (v := .int .i64 (ZD [t, u])) rfl (Pu.assign rfl) ?_
 refine Zb ?_
 refine Zg (Zc ?_)
 refine Za (v := .int .i64 (ZD [t, u])) rfl (Pu.move rfl) ?_
 refine Za (v := .bool (!decide (ZD [t, u] = 0))) rfl (Pu.neq rfl rfl) ?_
 refine Zb ?_
 refine Zl (b := !decide (ZD [t, u] = 0)) rfl (fun h6 => ?_) (fun h6 => ?_)
 ·replace h6 := nt h6
  replace h6 := df h6
  refine Zg (Zc ?_)
  refine Za (v := .agg ⟨pkT 0 0 zS (.slice none 0 0) (.slice none 0 0)⟩) rfl (Pu.build (pv := []) (l := pkT 0 0 zS (.slice none 0 0) (.slice none 0 0)) rfl (bld27_ )) ?_
  refine Za (v := .int .i64 (ZD [t, u])) rfl (Pu.move rfl) ?_
  refine Zd rfl (Zi 1 (vs := pkT 0 0 zS (.slice none 0 0) (.slice none 0 0)) (l := pkT 0 0 zS (.slice none 0 0) (.slice none 0 0)) Zt rfl rfl rfl rfl rfl (pkT_ok rfl rfl) (pkT_s ..) ?_)
  refine Za (v := .int .i64 (ZD [t, u])) rfl (Pu.assign rfl) ?_
  refine Zb ?_
  refine Zo ?_
  refine ⟨.tuple ⟨[.agg ⟨pkT 0 0 zS (.slice none 0 0) (.slice none 0 0)⟩, .int .i64 (ZD [t, u])]⟩, [[]], Ret.two rfl (RV.cell Zt rfl (At.bx 1 rfl) (pkT_a ..)) (RV.tmp rfl), (Sub.emp Sub.nil), ?_⟩
  have hx : substP t m u = (zT, ZD [t, u]) := by simp only [substP]; (repeat' split) <;> first | rfl | (exfalso; simp_all; done) | (exfalso; simp_all; omega)
  exact ⟨_, _, by rw [hx], rfl, by rw [hx]; exact OT_zero⟩
 replace h6 := nf h6
 replace h6 := dt h6
 refine Zq ?_
 refine Zg ?_
 refine Zg (Zc ?_)
 refine Zd rfl (Zh ty3 rfl (At.bx 3 rfl) rfl ?_)
 refine Zk rfl Tryz.call76 rfl (fun hin => off_ct _ _ _ _) rfl ?_
 rintro _ _ ⟨rfl, rfl⟩
 refine Zb ?_
 refine Zl (b := decide (m < 0 ∨ 59 < m)) rfl (fun h7 => ?_) (fun h7 => ?_)
 ·replace h7 := dt h7
  refine Zg (Zc ?_)
  refine Za (v := .agg ⟨pkT 0 0 zS (.slice none 0 0) (.slice none 0 0)⟩) rfl (Pu.build (pv := []) (l := pkT 0 0 zS (.slice none 0 0) (.slice none 0 0)) rfl (bld27_ )) ?_
  refine Zd rfl (Zi 1 (vs := pkT 0 0 zS (.slice none 0 0) (.slice none 0 0)) (l := pkT 0 0 zS (.slice none 0 0) (.slice none 0 0)) Zt rfl rfl rfl rfl rfl (pkT_ok rfl rfl) (pkT_s ..) ?_)
  refine Za (v := .int .i64 3) rfl (Pu.assign rfl) ?_
  refine Zb ?_
  refine Zo ?_
  refine ⟨.tuple ⟨[.agg ⟨pkT 0 0 zS (.slice none 0 0) (.slice none 0 0)⟩, .int .i64 3]⟩, [[]], Ret.two rfl (RV.cell Zt rfl (At.bx 1 rfl) (pkT_a ..)) (RV.tmp rfl), (Sub.emp Sub.nil), ?_⟩
  have hx : substP t m u = (zT, 3) := by simp only [substP]; (repeat' split) <;> first | rfl | (exfalso; simp_all; done) | (exfalso; simp_all; omega)
  exact ⟨_, _, by rw [hx], rfl, by rw [hx]; exact OT_zero⟩
 replace h7 := df h7
 refine Zq ?_
 refine Zg (Zc ?_)
 refine Za (v := .func (.func 77) ⟨[]⟩ ⟨[.pointer (some ⟨b2, 0, none⟩), .pointer (some ⟨b3, 0, none⟩)]⟩) rfl (Pu.makeFunc rfl rfl) ?_
 refine Za (v := .agg ⟨[.func (.func 77) ⟨[]⟩ ⟨[.pointer (some ⟨b2, 0, none⟩), .pointer (some ⟨b3, 0, none⟩)]⟩, .func (.func 80) ⟨[]⟩ ⟨[]⟩]⟩) rfl (Pu.build (pv := [(0, .func (.func 77) ⟨[]⟩ ⟨[.pointer (some ⟨b2, 0, none⟩), .pointer (some ⟨b3, 0, none⟩)]⟩), (1, .func (.func 80) ⟨[]⟩ ⟨[]⟩)]) (l := [.func (.func 77) ⟨[]⟩ ⟨[.pointer (some ⟨b2, 0, none⟩), .pointer (some ⟨b3, 0, none⟩)]⟩, .func (.func 80) ⟨[]⟩ ⟨[]⟩]) rfl (bld118_0_1 _ _ _ _ _ _)) ?_
 refine Zd rfl (Zj Zt rfl (At.bx 4 rfl) (Zy (Zv ht)) ?_)
 refine Zk rfl Tryz.call81 rfl (fun hin => mapTermP_ct 80 [] [] Tryz.call80 (fun s => s) 77 [] [.pointer (some ⟨b2, 0, none⟩), .pointer (some ⟨b3, 0, none⟩)] Tryz.call77 (sbv m u) _ _ _ _ (RT.mono (Hle.hu _ _) ht) (by have := (checkT_ok (rightT2 ‹ZD [t, u] = 0›).1).1; omega) (checkT_ok (rightT2 ‹ZD [t, u] = 0›).1).2.1 (by decide) (by have := (checkT_ok (rightT2 ‹ZD [t, u] = 0›).1).1; omega) (fun s h hh => same_ct s h) (fun n b h hh h1 h2 h3 h4 => substV_ct n b m u _ h b2 b3 (hh _ _ (hin 3 _ rfl _ _ List.mem_cons_self)) (hh _ _ (hin 2 _ rfl _ _ List.mem_cons_self)) (RT.mono (Hle.trans (Hle.hu _ _) hh) hu1) (by have := (checkT_ok (rightT2 ‹ZD [t, u] = 0›).2).1; omega) (checkT_ok (rightT2 ‹ZD [t, u] = 0›).2).2.1 h1 h2 h3 h4)) rfl ?_
 rintro _ _ ⟨cs8, k8, rfl, rfl, hO8⟩
 refine Zk rfl Tryz.call71 rfl (fun hin => short_ct _ _ _ (hO8.rd (hin 0 _ rfl))) rfl ?_
 rintro _ _ ⟨rfl, rfl⟩
 refine Za (v := .agg ⟨(if longB (mapQ (fun s => s) (sbv m u) 0 t) = true then pkT 0 0 zS (.slice none 0 0) (.slice none 0 0) else cs8)⟩) rfl (Pu.extract rfl rfl) ?_
 refine Za (v := .int .i64 ((if longB (mapQ (fun s => s) (sbv m u) 0 t) = true then 11 else 0))) rfl (Pu.extract rfl rfl) ?_
 refine Zd rfl (Zi 2 (vs := (if longB (mapQ (fun s => s) (sbv m u) 0 t) = true then pkT 0 0 zS (.slice none 0 0) (.slice none 0 0) else cs8)) (l := (if longB (mapQ (fun s => s) (sbv m u) 0 t) = true then pkT 0 0 zS (.slice none 0 0) (.slice none 0 0) else cs8)) Zt rfl rfl rfl rfl (len_ite (n := 36) rfl hO8.len) (okc_ite (pkT_ok rfl rfl) hO8.ok) (spl_a (n := 36) rfl (len_ite (n := 36) rfl hO8.len)) ?_)
 refine Za (v := .int .i64 ((if longB (mapQ (fun s => s) (sbv m u) 0 t) = true then 11 else 0))) rfl (Pu.assign rfl) ?_
 refine Zb ?_
 refine Zo ?_
 by_cases hL : longB (mapQ (fun s => s) (sbv m u) 0 t) = true
 ·refine ⟨.tuple ⟨[.agg ⟨(if longB (mapQ (fun s => s) (sbv m u) 0 t) = true then pkT 0 0 zS (.slice none 0 0) (.slice none 0 0) else cs8)⟩, .int .i64 ((if longB (mapQ (fun s => s) (sbv m u) 0 t) = true then 11 else 0))]⟩, [[]], Ret.two rfl (RV.cell Zt rfl (At.bx 2 rfl) (Zy (len_ite (n := 36) rfl hO8.len))) (RV.tmp rfl), (Sub.emp Sub.nil), ?_⟩
  have hx : substP t m u = (zT, 11) := by rw [substP, if_pos (by assumption), if_neg (by omega), if_pos (show longB (sbT m u t) = true from hL)]
  exact ⟨_, _, by rw [if_pos hL, if_pos hL, hx], rfl, by rw [hx]; exact OT_zero⟩
 refine ⟨.tuple ⟨[.agg ⟨(if longB (mapQ (fun s => s) (sbv m u) 0 t) = true then pkT 0 0 zS (.slice none 0 0) (.slice none 0 0) else cs8)⟩, .int .i64 ((if longB (mapQ (fun s => s) (sbv m u) 0 t) = true then 11 else 0))]⟩, [k8], Ret.two rfl (RV.cell Zt rfl (At.bx 2 rfl) (Zy (len_ite (n := 36) rfl hO8.len))) (RV.tmp rfl), (Sk Sub.nil), ?_⟩
 have hx : substP t m u = (mapQ (fun s => s) (sbv m u) 0 t, 0) := by rw [substP, if_pos (by assumption), if_neg (by omega), if_neg (show ¬ longB (sbT m u t) = true from hL)]; rfl
 exact ⟨_, _, by rw [if_neg hL, if_neg hL, hx], rfl, by rw [hx]; exact hO8⟩
end Go.Proofs.YtdeinimmmjichaaGreat.Hs
/-! Walks, printed by a program of this session's own (gen.py). -/
namespace Go.Proofs.YtdeinimmmjichaaGreat.Hs
open Go Go.Proofs
set_option maxRecDepth 100000
set_option linter.unusedVariables false
set_option linter.unusedSimpArgs false
attribute [local irreducible] JL J CT wlo
theorem spoil_ct : ∀ (t : Tm) (cs : List Value) (k : Zm) (H : Heap), OT t cs k → CT Tryz.prog 72 ⟨[.agg ⟨cs⟩]⟩ [k] H (fun v N => v = .tuple ⟨[]⟩ ∧ N = []) := by
 intro t
 induction t using Tm.ind with
 | h kind num ref kids cases ih ih' =>
 intro cs k H hO
 obtain ⟨ks, cv, es, es', k1, k2, k3, k4, rfl, hk, hn, ho1, ho2, ho3, ho4, rfl, hlK, hlC⟩ := OT_mk.1 hO
 refine Zr Tryz.func72 rfl rfl ?_
 refine J_sub (M' := [k1, k2, k3, k4]) (Sub.flat Sub.refl (by simp)) ?_
 refine Zg (Zc ?_)
 refine Zd rfl (Zx (l := pkT kind num ref ks cv) rfl rfl fun b1 => ?_)
 refine Zb ?_
 refine Zg ?_
 refine Zg (Zc ?_)
 refine Za (v := .pointer (some ⟨b1, 34, none⟩)) rfl (fa27_3 rfl rfl) ?_
 refine Zd rfl (Zh ty24 rfl (At.bx 0 rfl) (pkT_34 ..) ?_)
 obtain ⟨a2, cap2, hv2⟩ := ho1.sl
 rw [(OTs_len ho2)] at hv2
 refine Za (v := .int .i64 ((kids.length : Int))) rfl (Pu.lenSl Tryz.runUnderlying24 hv2) ?_
 refine Za (v := .int .i64 0) rfl (Pu.move rfl) ?_
 refine Zb ?_
 refine Zs ?_
 refine J_loop (fun k ρ M => ∃ (j : Nat) (es5 : List (List Value)) (k5 c0 : Zm), ρ 1 = .pointer (some ⟨b1, 0, none⟩) ∧ ρ 7 = .int .i64 ((kids.length : Int)) ∧ ρ 8 = .int .i64 ((j : Int)) ∧ Sub [[(b1, .cells ⟨pkT kind num ref ks cv⟩ 27 (0, 0))], k5, c0, k3, k4] M ∧ j ≤ kids.length ∧ Own 27 36 ks es5 k5 ∧ es5.length = kids.length ∧ OTs (kids.drop j) (es5.drop j) c0 ∧ k = kids.length - j) _ ⟨0, es, k1, k2, rfl, rfl, rfl, (Sk (Sk (Sk (Sk (Sk Sub.nil))))), Nat.zero_le _, ho1, OTs_len ho2, by simpa using ho2, rfl⟩ ?_
 rintro _ ρ3 _ ⟨j, es5, k5, c0, e4, e5, e6, hm7, hj, ho5, hl5, hr5, rfl⟩
 obtain ⟨ρ8, rfl⟩ := Ze (uc e4 (uc e5 (uc e6 un)))
 clear e4 e5 e6
 refine J_sub hm7 ?_
 refine Zg (Zc ?_)
 refine Za (v := .bool (decide ((j : Int) < (kids.length : Int)))) rfl (Pu.lss rfl rfl) ?_
 refine Zb ?_
 refine Zg ?_
 refine Zl (b := decide ((j : Int) < (kids.length : Int))) rfl (fun h9 => ?_) (fun h9 => ?_)
 ·replace h9 := dt h9
  have h9n : j < kids.length := by omega
  obtain ⟨e5, kc5, c5, hE, hO5, rfl, hR5⟩ := OTs.take hr5 h9n
  refine J_sub (M' := [[(b1, .cells ⟨pkT kind num ref ks cv⟩ 27 (0, 0))], k5, kc5, c5, k3, k4]) (Sub.flat Sub.refl (by simp)) ?_
  refine Zq ?_
  refine Zg ?_
  refine Zs ?_
  refine Zg (Zc ?_)
  refine Za (v := .int .i64 ((j : Int))) rfl (Pu.move rfl) ?_
  refine Za (v := .int .i64 ((j : Int))) rfl (Pu.assign rfl) ?_
  refine Zb ?_
  refine Zg (Zc ?_)
  refine Za (v := .pointer (some ⟨b1, 34, none⟩)) rfl (fa27_3 rfl rfl) ?_
  refine Zd rfl (Zh ty24 rfl (At.bx 0 rfl) (pkT_34 ..) ?_)
  refine Za (v := .int .i64 ((j : Int))) rfl (Pu.move rfl) ?_
  obtain ⟨b10, cap10, row10, hv10, hm10, hs10⟩ := ho5.at' hE
  refine Za (v := .pointer (some ⟨b10, 0 + j * 36, none⟩)) rfl (Pu.idx j Tryz.runUnderlying24 Zt hv10 rfl rfl (by rw [hl5]; exact h9n)) ?_
  refine Zd rfl (Zj Zt rfl (At.k 1 rfl hm10) hs10 ?_)
  refine JL_call1 2 rfl Tryz.call72 rfl rfl (fun hin => ih _ (List.getElem_mem h9n) _ _ _ hO5) rfl ?_
  rintro _ _ ⟨rfl, rfl⟩
  refine Zb ?_
  refine Zc ?_
  refine Za (v := .pointer (some ⟨b1, 34, none⟩)) rfl (fa27_3 rfl rfl) ?_
  refine Zd rfl (Zh ty24 rfl (At.bx 0 rfl) (pkT_34 ..) ?_)
  refine Za (v := .int .i64 ((j : Int))) rfl (Pu.move rfl) ?_
  refine Za (v := .agg ⟨pkT 98 0 zS (.slice none 0 0) (.slice none 0 0)⟩) rfl (Pu.build (pv := [(0, .int .i64 98)]) (l := pkT 98 0 zS (.slice none 0 0) (.slice none 0 0)) rfl (bld27_0 _)) ?_
  obtain ⟨b11, cap11, row11, hv11, hm11, hs11⟩ := ho5.at' hE
  refine Za (v := .pointer (some ⟨b11, 0 + j * 36, none⟩)) rfl (Pu.idx j Tryz.runUnderlying24 Zt hv11 rfl rfl (by rw [hl5]; exact h9n)) ?_
  refine Zd rfl (Runs_storeOwn (i := 1) (j := j) (b := b11) Zt rfl ho5 ⟨_, _, hv11⟩ rfl (by rw [hl5]; exact h9n) rfl rfl rfl (pkT_ok rfl rfl) fun k12 ho12 => ?_)
  refine Zb ?_
  refine Zc ?_
  refine Za (v := .int .i64 (((j + 1 : Nat) : Int))) rfl (Pu.inc rfl rfl (by omega)) ?_
  refine Za (v := .int .i64 (((j + 1 : Nat) : Int))) rfl (Pu.move rfl) ?_
  refine Zb ?_
  refine ⟨_, ?_, (j + 1), (es5.set j (pkT 98 0 zS (.slice none 0 0) (.slice none 0 0))), k12, c5, rfl, rfl, rfl, (Sk (Sk (Sk (Sk (Sk Sub.nil))))), ?_, ?_, ?_, ?_, rfl⟩
  ·omega
  ·omega
  ·exact ho12
  ·rw [List.length_set]; exact hl5
  exact hR5 _
 replace h9 := df h9
 have h9n : kids.length ≤ j := by omega
 refine J_exit _ rfl ?_
 refine Zg (Zc ?_)
 refine Za (v := .pointer (some ⟨b1, 35, none⟩)) rfl (fa27_4 rfl rfl) ?_
 refine Zd rfl (Zh ty25 rfl (At.bx 0 rfl) (pkT_35 ..) ?_)
 obtain ⟨a13, cap13, hv13⟩ := ho3.sl
 rw [(OCs_len ho4)] at hv13
 refine Za (v := .int .i64 ((cases.length : Int))) rfl (Pu.lenSl Tryz.runUnderlying25 hv13) ?_
 refine Za (v := .int .i64 0) rfl (Pu.move rfl) ?_
 refine Zb ?_
 refine Zs ?_
 refine J_loop (fun k ρ M => ∃ (j : Nat) (es7 : List (List Value)) (k7 c1 : Zm), ρ 1 = .pointer (some ⟨b1, 0, none⟩) ∧ ρ 25 = .int .i64 ((cases.length : Int)) ∧ ρ 26 = .int .i64 ((j : Int)) ∧ Sub [[(b1, .cells ⟨pkT kind num ref ks cv⟩ 27 (0, 0))], k7, c1] M ∧ j ≤ cases.length ∧ Own 34 71 cv es7 k7 ∧ es7.length = cases.length ∧ OCs (cases.drop j) (es7.drop j) c1 ∧ k = cases.length - j) _ ⟨0, es', k3, k4, rfl, rfl, rfl, (Sk (Sd (Sd (Sk (Sk Sub.nil))))), Nat.zero_le _, ho3, OCs_len ho4, by simpa using ho4, rfl⟩ ?_
 rintro _ ρ14 _ ⟨j, es7, k7, c1, e15, e16, e17, hm18, hj, ho7, hl7, hr6, rfl⟩
 obtain ⟨ρ19, rfl⟩ := Ze (uc e15 (uc e16 (uc e17 un)))
 clear e15 e16 e17
 refine J_sub hm18 ?_
 refine Zg (Zc ?_)
 refine Za (v := .bool (decide ((j : Int) < (cases.length : Int)))) rfl (Pu.lss rfl rfl) ?_
 refine Zb ?_
 refine Zg ?_
 refine Zl (b := decide ((j : Int) < (cases.length : Int))) rfl (fun h20 => ?_) (fun h20 => ?_)
 ·replace h20 := dt h20
  have h20n : j < cases.length := by omega
  obtain ⟨kk6, n6, r6, ks6, e6, esp6, q6, kp6, kq6, kc6, c6, hE, hOp, hq6, hq66, hO6, rfl, hR6⟩ := OCs.take hr6 h20n
  refine J_sub (M' := [[(b1, .cells ⟨pkT kind num ref ks cv⟩ 27 (0, 0))], k7, kp6, kq6, kc6, c6]) (Sub.flat Sub.refl (by simp)) ?_
  refine Zq ?_
  refine Zg ?_
  refine Zs ?_
  refine Zg (Zc ?_)
  refine Za (v := .int .i64 ((j : Int))) rfl (Pu.move rfl) ?_
  refine Za (v := .int .i64 ((j : Int))) rfl (Pu.assign rfl) ?_
  refine Zb ?_
  refine Zg (Zc ?_)
  refine Za (v := .pointer (some ⟨b1, 35, none⟩)) rfl (fa27_4 rfl rfl) ?_
  refine Zd rfl (Zh ty25 rfl (At.bx 0 rfl) (pkT_35 ..) ?_)
  refine Za (v := .int .i64 ((j : Int))) rfl (Pu.move rfl) ?_
  obtain ⟨b21, cap21, row21, hv21, hm21, hs21⟩ := ho7.at' hE
  refine Za (v := .pointer (some ⟨b21, 0 + j * 71, none⟩)) rfl (Pu.idx j Tryz.runUnderlying25 ty34 hv21 rfl rfl (by rw [hl7]; exact h20n)) ?_
  refine Za (v := .pointer (some ⟨b21, 0 + j * 71 + 35, none⟩)) rfl (fa34_1 rfl rfl) ?_
  refine Zd rfl (Zj Zt rfl (At.k 1 rfl hm21) (sub_sub hs21 (sub_r rfl hO6.len)) ?_)
  refine JL_call1 4 rfl Tryz.call72 rfl rfl (fun hin => ih' _ (List.getElem_mem h20n) _ _ _ hO6) rfl ?_
  rintro _ _ ⟨rfl, rfl⟩
  refine Zb ?_
  refine Zg ?_
  refine Zg (Zc ?_)
  refine Za (v := .pointer (some ⟨b1, 35, none⟩)) rfl (fa27_4 rfl rfl) ?_
  refine Zd rfl (Zh ty25 rfl (At.bx 0 rfl) (pkT_35 ..) ?_)
  refine Za (v := .int .i64 ((j : Int))) rfl (Pu.move rfl) ?_
  obtain ⟨b22, cap22, row22, hv22, hm22, hs22⟩ := ho7.at' hE
  refine Za (v := .pointer (some ⟨b22, 0 + j * 71, none⟩)) rfl (Pu.idx j Tryz.runUnderlying25 ty34 hv22 rfl rfl (by rw [hl7]; exact h20n)) ?_
  refine Za (v := .pointer (some ⟨b22, 0 + j * 71, none⟩)) rfl (fa34_0 rfl rfl) ?_
  refine Za (v := .pointer (some ⟨b22, 0 + j * 71 + 34, none⟩)) rfl (fa30_3 rfl rfl) ?_
  refine Zd rfl (Zh ty28 rfl (At.k 1 rfl hm22) (sub_get hs22 (get_l (pkP_34 ..))) ?_)
  obtain ⟨a23, cap23, hv23⟩ := hOp.sl
  rw [hq6] at hv23
  refine Za (v := .int .i64 ((q6 : Int))) rfl (Pu.lenSl Tryz.runUnderlying28 hv23) ?_
  refine Za (v := .int .i64 0) rfl (Pu.move rfl) ?_
  refine Zb ?_
  refine Zs ?_
  refine J_loop (fun k ρ M => ∃ (i : Nat) (es8 : List (List Value)) (k8 : Zm), ρ 1 = .pointer (some ⟨b1, 0, none⟩) ∧ ρ 3 = .int .i64 ((j : Int)) ∧ ρ 25 = .int .i64 ((cases.length : Int)) ∧ ρ 26 = .int .i64 ((j : Int)) ∧ ρ 43 = .int .i64 ((q6 : Int)) ∧ ρ 44 = .int .i64 ((i : Int)) ∧ Sub [k8, [(b1, .cells ⟨pkT kind num ref ks cv⟩ 27 (0, 0))], k7, kq6, c6] M ∧ i ≤ q6 ∧ Own 30 35 ks6 es8 k8 ∧ es8.length = q6 ∧ k = q6 - i) _ ⟨0, esp6, kp6, rfl, rfl, rfl, rfl, rfl, rfl, (Sub.cons 2 rfl (Sk (Sk (Sk (Sk Sub.nil))))), Nat.zero_le _, hOp, hq6, rfl⟩ ?_
  rintro _ ρ24 _ ⟨i, es8, k8, e25, e26, e27, e28, e29, e30, hm31, hi, ho8, hl8, rfl⟩
  obtain ⟨ρ32, rfl⟩ := Ze (uc e25 (uc e26 (uc e27 (uc e28 (uc e29 (uc e30 un))))))
  clear e25 e26 e27 e28 e29 e30
  refine J_sub hm31 ?_
  refine Zg (Zc ?_)
  refine Za (v := .bool (decide ((i : Int) < (q6 : Int)))) rfl (Pu.lss rfl rfl) ?_
  refine Zb ?_
  refine Zg ?_
  refine Zl (b := decide ((i : Int) < (q6 : Int))) rfl (fun h33 => ?_) (fun h33 => ?_)
  ·replace h33 := dt h33
   have h33n : i < q6 := by omega
   refine Zq ?_
   refine Zg ?_
   refine Zs ?_
   refine Zg (Zc ?_)
   refine Za (v := .int .i64 ((i : Int))) rfl (Pu.move rfl) ?_
   refine Za (v := .int .i64 ((i : Int))) rfl (Pu.assign rfl) ?_
   refine Zb ?_
   refine Zc ?_
   refine Za (v := .pointer (some ⟨b1, 35, none⟩)) rfl (fa27_4 rfl rfl) ?_
   refine Zd rfl (Zh ty25 rfl (At.bx 1 rfl) (pkT_35 ..) ?_)
   refine Za (v := .int .i64 ((j : Int))) rfl (Pu.move rfl) ?_
   obtain ⟨b34, cap34, row34, hv34, hm34, hs34⟩ := ho7.at' hE
   refine Za (v := .pointer (some ⟨b34, 0 + j * 71, none⟩)) rfl (Pu.idx j Tryz.runUnderlying25 ty34 hv34 rfl rfl (by rw [hl7]; exact h20n)) ?_
   refine Za (v := .pointer (some ⟨b34, 0 + j * 71, none⟩)) rfl (fa34_0 rfl rfl) ?_
   refine Za (v := .pointer (some ⟨b34, 0 + j * 71 + 34, none⟩)) rfl (fa30_3 rfl rfl) ?_
   refine Zd rfl (Zh ty28 rfl (At.k 2 rfl hm34) (sub_get hs34 (get_l (pkP_34 ..))) ?_)
   refine Za (v := .int .i64 ((i : Int))) rfl (Pu.move rfl) ?_
   refine Za (v := .agg ⟨pkP 98 0 zS (.slice none 0 0)⟩) rfl (Pu.build (pv := [(0, .int .i64 98)]) (l := pkP 98 0 zS (.slice none 0 0)) rfl (bld30_0 _)) ?_
   obtain ⟨b35, cap35, row35, hv35, hm35, hs35⟩ := ho8.at (j := i) (by rw [hl8]; exact h33n)
   refine Za (v := .pointer (some ⟨b35, 0 + i * 35, none⟩)) rfl (Pu.idx i Tryz.runUnderlying28 ty30 hv35 rfl rfl (by rw [hl8]; exact h33n)) ?_
   refine Zd rfl (Runs_storeOwn (i := 0) (j := i) (b := b35) ty30 rfl ho8 ⟨_, _, hv35⟩ rfl (by rw [hl8]; exact h33n) rfl rfl rfl (pkP_ok rfl) fun k36 ho36 => ?_)
   refine Zb ?_
   refine Zc ?_
   refine Za (v := .int .i64 (((i + 1 : Nat) : Int))) rfl (Pu.inc rfl rfl (by omega)) ?_
   refine Za (v := .int .i64 (((i + 1 : Nat) : Int))) rfl (Pu.move rfl) ?_
   refine Zb ?_
   refine ⟨_, ?_, (i + 1), (es8.set i (pkP 98 0 zS (.slice none 0 0))), k36, rfl, rfl, rfl, rfl, rfl, rfl, (Sk (Sk (Sk (Sk (Sk Sub.nil))))), ?_, ?_, ?_, rfl⟩
   ·omega
   ·omega
   ·exact ho36
   rw [List.length_set]; exact hl8
  replace h33 := df h33
  have h33n : q6 ≤ i := by omega
  refine J_exit _ rfl ?_
  refine Zc ?_
  refine Za (v := .pointer (some ⟨b1, 35, none⟩)) rfl (fa27_4 rfl rfl) ?_
  refine Zd rfl (Zh ty25 rfl (At.bx 1 rfl) (pkT_35 ..) ?_)
  refine Za (v := .int .i64 ((j : Int))) rfl (Pu.move rfl) ?_
  refine Za (v := .agg ⟨(pkP 0 0 zS (.slice none 0 0)) ++ (pkT 0 0 zS (.slice none 0 0) (.slice none 0 0))⟩) rfl (Pu.build (pv := []) (l := (pkP 0 0 zS (.slice none 0 0)) ++ (pkT 0 0 zS (.slice none 0 0) (.slice none 0 0))) rfl bld34_) ?_
  obtain ⟨b37, cap37, row37, hv37, hm37, hs37⟩ := ho7.at' hE
  refine Za (v := .pointer (some ⟨b37, 0 + j * 71, none⟩)) rfl (Pu.idx j Tryz.runUnderlying25 ty34 hv37 rfl rfl (by rw [hl7]; exact h20n)) ?_
  refine Zd rfl (Runs_storeOwn (i := 2) (j := j) (b := b37) ty34 rfl ho7 ⟨_, _, hv37⟩ rfl (by rw [hl7]; exact h20n) rfl rfl rfl (okc_app (pkP_ok rfl) (pkT_ok rfl rfl)) fun k38 ho38 => ?_)
  refine Zb ?_
  refine Zc ?_
  refine Za (v := .int .i64 (((j + 1 : Nat) : Int))) rfl (Pu.inc rfl rfl (by omega)) ?_
  refine Za (v := .int .i64 (((j + 1 : Nat) : Int))) rfl (Pu.move rfl) ?_
  refine Zb ?_
  refine ⟨_, ?_, (j + 1), (es7.set j ((pkP 0 0 zS (.slice none 0 0)) ++ (pkT 0 0 zS (.slice none 0 0) (.slice none 0 0)))), k38, c6, rfl, rfl, rfl, (Sd (Sk (Sk (Sd (Sk Sub.nil))))), ?_, ?_, ?_, ?_, rfl⟩
  ·omega
  ·omega
  ·exact ho38
  ·rw [List.length_set]; exact hl7
  exact hR6 _
 replace h20 := df h20
 have h20n : cases.length ≤ j := by omega
 refine J_exit _ rfl ?_
 refine ⟨.tuple ⟨[]⟩, [], Ret.none rfl, Sub.nil, ?_⟩
 exact ⟨rfl, rfl⟩
end Go.Proofs.YtdeinimmmjichaaGreat.Hs
/-! Walks, printed by a program of this session's own (gen.py). -/
namespace Go.Proofs.YtdeinimmmjichaaGreat.Hs
open Go Go.Proofs
set_option maxRecDepth 100000
set_option linter.unusedVariables false
set_option linter.unusedSimpArgs false
attribute [local irreducible] JL J CT wlo
theorem ownTerm_ct : ∀ (t : Tm) (cs : List Value) (H : Heap), RT H cs t → sizeT t ≤ 1000000 → CT Tryz.prog 10 ⟨[.agg ⟨cs⟩]⟩ [] H (fun v N => ∃ cs k, v = .agg ⟨cs⟩ ∧ N = [k] ∧ OT t cs k) := by
 intro t
 induction t using Tm.ind with
 | h kind num ref kids cases ih ih' =>
 intro cs H ht hz
 rw [sizeT] at hz
 have hlk := len_sizeTs kids
 have hlc := len_sizeCs cases
 obtain ⟨ks, cv, rfl, hk, hn, hks, hcv⟩ := RT_mk.1 ht
 refine Zr Tryz.func10 rfl rfl ?_
 refine Zg (Zc ?_)
 refine Zd rfl (Zx (l := pkT kind num ref ks cv) rfl rfl fun b1 => ?_)
 refine Zd rfl (Zn (l := pkT 0 0 zS (.slice none 0 0) (.slice none 0 0)) Tryz.zeroValue27 rfl fun b2 => ?_)
 refine Zb ?_
 refine Zg ?_
 refine J_draw mixed #[0, 1, 0, 4, 3, 31] 5 5 2 rfl (by kernel_rfl) (fun i r3 N3 => match i with | 0 => (r3 0) = .pointer (some ⟨b1, 34, none⟩) | 1 => (r3 1) = ks | 2 => (r3 2) = .pointer (some ⟨b1, 35, none⟩) | 3 => (r3 3) = cv | 4 => (r3 4) = ks | _ => True) ⟨?_, ?_, ?_, ?_, ?_, trivial⟩ ?_
 ·intro ρ r3 N3 B hB hBa hp hr hr0
  have q1 : ρ 1 = .pointer (some ⟨b1, 0, none⟩) := hr0 1 (by kernel_rfl)
  obtain ⟨ρ4, rfl⟩ := Ze (uc q1 un)
  clear q1
  refine Za (v := .pointer (some ⟨b1, 34, none⟩)) rfl (fa27_3 rfl rfl) ?_
  refine Zb ?_
  exact ⟨.pointer (some ⟨b1, 34, none⟩), [], rfl, (Sub.emp Sub.refl), rfl⟩
 ·intro ρ r3 N3 B hB hBa hp hr hr0
  have q9 : ρ 9 = .pointer (some ⟨b1, 34, none⟩) := (hr 0 _ _ (by decide) rfl rfl rfl).trans (hp 0 (by decide) rfl)
  obtain ⟨ρ5, rfl⟩ := Ze (uc q9 un)
  clear q9
  refine Zd rfl (Zh ty24 rfl (At.bx 6 (Zu ((hB 1 (by decide)).trans rfl))) (pkT_34 ..) ?_)
  refine Zb ?_
  exact ⟨ks, [], rfl, (Sub.emp Sub.refl), rfl⟩
 ·intro ρ r3 N3 B hB hBa hp hr hr0
  have q1 : ρ 1 = .pointer (some ⟨b1, 0, none⟩) := hr0 1 (by kernel_rfl)
  obtain ⟨ρ6, rfl⟩ := Ze (uc q1 un)
  clear q1
  refine Za (v := .pointer (some ⟨b1, 35, none⟩)) rfl (fa27_4 rfl rfl) ?_
  refine Zb ?_
  exact ⟨.pointer (some ⟨b1, 35, none⟩), [], rfl, (Sub.emp Sub.refl), rfl⟩
 ·intro ρ r3 N3 B hB hBa hp hr hr0
  have q11 : ρ 11 = .pointer (some ⟨b1, 35, none⟩) := (hr 2 _ _ (by decide) rfl rfl rfl).trans (hp 2 (by decide) rfl)
  obtain ⟨ρ7, rfl⟩ := Ze (uc q11 un)
  clear q11
  refine Zd rfl (Zh ty25 rfl (At.bx 6 (Zu ((hB 1 (by decide)).trans rfl))) (pkT_35 ..) ?_)
  refine Zb ?_
  exact ⟨cv, [], rfl, (Sub.emp Sub.refl), rfl⟩
 ·intro ρ r3 N3 B hB hBa hp hr hr0
  have q10 : ρ 10 = ks := (hr 1 _ _ (by decide) rfl rfl rfl).trans (hp 1 (by decide) rfl)
  obtain ⟨ρ8, rfl⟩ := Ze (uc q10 un)
  clear q10
  refine Za (v := ks) rfl (Pu.assign rfl) ?_
  refine Zb ?_
  exact ⟨ks, [], rfl, (Sub.emp Sub.refl), rfl⟩
 intro ρ r3 N3 hp hr hr0
 have q1 : ρ 1 = .pointer (some ⟨b1, 0, none⟩) := hr0 1 (by kernel_rfl)
 have q2 : ρ 2 = .pointer (some ⟨b2, 0, none⟩) := hr0 2 (by kernel_rfl)
 have q3 : ρ 3 = ks := (hr 4 _ _ (by decide) rfl rfl).trans (hp 4 (by decide))
 have q12 : ρ 12 = cv := (hr 3 _ _ (by decide) rfl rfl).trans (hp 3 (by decide))
 obtain ⟨ρ9, rfl⟩ := Ze (uc q1 (uc q2 (uc q3 (uc q12 un))))
 clear q1 q2 q3 q12
 clear hp hr hr0 
 refine Zw (M' := [(N3 0), (N3 1), (N3 2), (N3 3), (N3 4), [(b2, .cells ⟨pkT 0 0 zS (.slice none 0 0) (.slice none 0 0)⟩ 27 (0, 0))], [(b1, .cells ⟨pkT kind num ref ks cv⟩ 27 (0, 0))]]) Sub.refl ?_
 refine Zw (M' := [[(b2, .cells ⟨pkT 0 0 zS (.slice none 0 0) (.slice none 0 0)⟩ 27 (0, 0))], [(b1, .cells ⟨pkT kind num ref ks cv⟩ 27 (0, 0))]]) (Sd (Sd (Sd (Sd (Sd (Sk (Sk Sub.nil))))))) ?_
 show JL _ _ _ [_] _ _ _
 refine Za (v := cv) rfl (Pu.assign rfl) ?_
 refine Zb ?_
 refine Zg (Zc ?_)
 refine Za (v := .pointer (some ⟨b1, 34, none⟩)) rfl (fa27_3 rfl rfl) ?_
 refine Zd rfl (Zi 1 (vs := [.slice none 0 0]) (l := pkT kind num ref (.slice none 0 0) cv) ty24 rfl rfl rfl rfl rfl (Zp rfl Zz) (pkT_s34 ..) ?_)
 refine Za (v := .pointer (some ⟨b1, 35, none⟩)) rfl (fa27_4 rfl rfl) ?_
 refine Zd rfl (Zi 1 (vs := [.slice none 0 0]) (l := pkT kind num ref (.slice none 0 0) (.slice none 0 0)) ty25 rfl rfl rfl rfl rfl (Zp rfl Zz) (pkT_s35 ..) ?_)
 refine Zb ?_
 refine Zg ?_
 refine Zg (Zc ?_)
 refine Za (v := ks) rfl (Pu.move rfl) ?_
 obtain ⟨a10, cap10, hv10⟩ := hks.sl
 have hle10 := hks.le
 refine Za (v := .int .i64 ((kids.length : Int))) rfl (Pu.lenSl Tryz.runUnderlying24 hv10) ?_
 refine Za (v := .int .i64 0) rfl (Pu.move rfl) ?_
 refine Zb ?_
 refine Zs ?_
 refine J_loop (fun k ρ M => ∃ (j : Nat) (v : Value) (es : List (List Value)) (k1 k2 : Zm), ρ 1 = .pointer (some ⟨b1, 0, none⟩) ∧ ρ 2 = .pointer (some ⟨b2, 0, none⟩) ∧ ρ 4 = cv ∧ ρ 15 = ks ∧ ρ 16 = .int .i64 ((kids.length : Int)) ∧ ρ 17 = .int .i64 ((j : Int)) ∧ Sub [[(b1, .cells ⟨pkT kind num ref v (.slice none 0 0)⟩ 27 (0, 0))], k1, k2, [(b2, .cells ⟨pkT 0 0 zS (.slice none 0 0) (.slice none 0 0)⟩ 27 (0, 0))]] M ∧ j ≤ kids.length ∧ Own 27 36 v es k1 ∧ OTs ((kids.take j)) es k2 ∧ k = kids.length - j) _ ⟨0, (.slice none 0 0), [], [], [], rfl, rfl, rfl, rfl, rfl, rfl, (Sub.cons 1 rfl (Sub.emp (Sub.emp (Sk Sub.nil)))), Nat.zero_le _, Own.nil, OTs.nil, rfl⟩ ?_
 rintro _ ρ11 _ ⟨j, v, es, k1, k2, e12, e13, e14, e15, e16, e17, hm18, hj, hov, hopv, rfl⟩
 obtain ⟨ρ19, rfl⟩ := Ze (uc e12 (uc e13 (uc e14 (uc e15 (uc e16 (uc e17 un))))))
 clear e12 e13 e14 e15 e16 e17
 refine J_sub hm18 ?_
 have hlen := hks.le
 refine Zg (Zc ?_)
 refine Za (v := .bool (decide ((j : Int) < (kids.length : Int)))) rfl (Pu.lss rfl rfl) ?_
 refine Zb ?_
 refine Zg ?_
 refine Zl (b := decide ((j : Int) < (kids.length : Int))) rfl (fun h20 => ?_) (fun h20 => ?_)
 ·replace h20 := dt h20
  have h20n : j < kids.length := by omega
  have helv := OTs_len hopv
  rw [List.length_take] at helv
  have hs1 := sizeTs_mem _ (List.getElem_mem h20n)
  refine Zq ?_
  refine Zg ?_
  refine Zs ?_
  refine Zg (Zc ?_)
  obtain ⟨b21, o21, cap21, row21, T21, fr21, cs21, hv21, hb21, hs21, hE21⟩ := hks.get j (by first | assumption | omega | decide | simp)
  refine Za (v := .pointer (some ⟨b21, o21 + j * 36, none⟩)) rfl (Pu.idx j Tryz.runUnderlying24 Zt hv21 rfl rfl (by first | assumption | omega | decide | simp)) ?_
  refine Zd rfl (Zj Zt rfl (At.im hb21) hs21 ?_)
  refine Zd rfl (Zn (l := pkT 0 0 zS (.slice none 0 0) (.slice none 0 0)) Tryz.zeroValue27 rfl fun b22 => ?_)
  refine Zd rfl (Zi 0 (vs := cs21) (l := cs21) Zt rfl rfl rfl rfl (Zv hE21) (RT_ok hE21) (spl_a (n := 36) rfl (Zv hE21)) ?_)
  refine Zb ?_
  refine J_draw mixed #[0, 1, 0, 4, 12, 31, 63, 127] 5 5 5 rfl (by kernel_rfl) (fun i r23 N23 => match i with | 0 => (r23 0) = .pointer (some ⟨b1, 34, none⟩) | 1 => (r23 1) = v | 2 => (r23 2) = .agg ⟨cs21⟩ | 3 => (r23 3) = .agg ⟨(cel (r23 3))⟩ ∧ OT (kids[j]) (cel (r23 3)) (N23 3) | 4 => (r23 4) = .slice (some ⟨(sblk (r23 4)), 0, none⟩) 1 1 ∧ (N23 4) = [(sblk (r23 4), .cells ⟨List.flatten [(cel (r23 3))]⟩ 27 (0, 0))] ∧ Own 27 36 (.slice (some ⟨(sblk (r23 4)), 0, none⟩) 1 1) [(cel (r23 3))] (N23 4) | _ => True) ⟨?_, ?_, ?_, ?_, ?_, trivial⟩ ?_
  ·intro ρ r23 N23 B hB hBa hp hr hr0
   have q1 : ρ 1 = .pointer (some ⟨b1, 0, none⟩) := hr0 1 (by kernel_rfl)
   obtain ⟨ρ24, rfl⟩ := Ze (uc q1 un)
   clear q1
   refine Za (v := .pointer (some ⟨b1, 34, none⟩)) rfl (fa27_3 rfl rfl) ?_
   refine Zb ?_
   exact ⟨.pointer (some ⟨b1, 34, none⟩), [], rfl, (Sub.emp Sub.refl), rfl⟩
  ·intro ρ r23 N23 B hB hBa hp hr hr0
   have q21 : ρ 21 = .pointer (some ⟨b1, 34, none⟩) := (hr 0 _ _ (by decide) rfl rfl rfl).trans (hp 0 (by decide) rfl)
   obtain ⟨ρ25, rfl⟩ := Ze (uc q21 un)
   clear q21
   refine Zd rfl (Zh ty24 rfl (At.bx 6 (Zu ((hB 1 (by decide)).trans rfl))) (pkT_34 ..) ?_)
   refine Zb ?_
   exact ⟨v, [], rfl, (Sub.emp Sub.refl), rfl⟩
  ·intro ρ r23 N23 B hB hBa hp hr hr0
   have q6 : ρ 6 = .pointer (some ⟨b22, 0, none⟩) := hr0 6 (by kernel_rfl)
   obtain ⟨ρ26, rfl⟩ := Ze (uc q6 un)
   clear q6
   refine Zd rfl (Zj Zt rfl (At.bx 5 (Zu ((hB 0 (by decide)).trans rfl))) (Zy (Zv hE21)) ?_)
   refine Zb ?_
   exact ⟨.agg ⟨cs21⟩, [], rfl, (Sub.emp Sub.refl), rfl⟩
  ·intro ρ r23 N23 B hB hBa hp hr hr0
   have q23 : ρ 23 = .agg ⟨cs21⟩ := (hr 2 _ _ (by decide) rfl rfl rfl).trans (hp 2 (by decide) rfl)
   obtain ⟨ρ27, rfl⟩ := Ze (uc q23 un)
   clear q23
   refine Zk rfl Tryz.call10 rfl (fun hin => ih _ (List.getElem_mem h20n) _ _ (RT.mono (Hle.hu _ _) hE21) (by omega)) rfl ?_
   rintro _ _ ⟨cs28, k28, rfl, rfl, hO28⟩
   refine Zb ?_
   exact ⟨.agg ⟨cs28⟩, k28, rfl, Sub.refl, ⟨rfl, hO28⟩⟩
  ·intro ρ r23 N23 B hB hBa hp hr hr0
   have p3 : (r23 3) = .agg ⟨(cel (r23 3))⟩ ∧ OT (kids[j]) (cel (r23 3)) (N23 3) := hp 3 (by decide) rfl
   have q24 : ρ 24 = .agg ⟨(cel (r23 3))⟩ := (hr 3 _ _ (by decide) rfl rfl rfl).trans p3.1
   obtain ⟨ρ29, rfl⟩ := Ze (uc q24 un)
   clear q24
   refine Zd rfl (ZA (vs := [.agg ⟨(cel (r23 3))⟩]) [(cel (r23 3))] Tryz.runUnderlying24 el27 rfl rfl (by intro e he; simp only [List.mem_cons, List.not_mem_nil, or_false] at he; subst he; exact p3.2.len) rfl (by decide) fun b30 k30 ho30 hk30 => ?_)
   refine Zb ?_
   exact ⟨.slice (some ⟨b30, 0, none⟩) 1 1, k30, rfl, Sub.refl, ⟨rfl, hk30, ho30⟩⟩
  intro ρ r23 N23 hp hr hr0
  have p3 : (r23 3) = .agg ⟨(cel (r23 3))⟩ ∧ OT (kids[j]) (cel (r23 3)) (N23 3) := hp 3 (by decide)
  have p4 : (r23 4) = .slice (some ⟨(sblk (r23 4)), 0, none⟩) 1 1 ∧ (N23 4) = [(sblk (r23 4), .cells ⟨List.flatten [(cel (r23 3))]⟩ 27 (0, 0))] ∧ Own 27 36 (.slice (some ⟨(sblk (r23 4)), 0, none⟩) 1 1) [(cel (r23 3))] (N23 4) := hp 4 (by decide)
  have q1 : ρ 1 = .pointer (some ⟨b1, 0, none⟩) := hr0 1 (by kernel_rfl)
  have q2 : ρ 2 = .pointer (some ⟨b2, 0, none⟩) := hr0 2 (by kernel_rfl)
  have q4 : ρ 4 = cv := hr0 4 (by kernel_rfl)
  have q15 : ρ 15 = ks := hr0 15 (by kernel_rfl)
  have q16 : ρ 16 = .int .i64 ((kids.length : Int)) := hr0 16 (by kernel_rfl)
  have q17 : ρ 17 = .int .i64 ((j : Int)) := hr0 17 (by kernel_rfl)
  have q22 : ρ 22 = v := (hr 1 _ _ (by decide) rfl rfl).trans (hp 1 (by decide))
  have q25 : ρ 25 = .slice (some ⟨(sblk (r23 4)), 0, none⟩) 1 1 := (hr 4 _ _ (by decide) rfl rfl).trans p4.1
  obtain ⟨ρ31, rfl⟩ := Ze (uc q1 (uc q2 (uc q4 (uc q15 (uc q16 (uc q17 (uc q22 (uc q25 un))))))))
  clear q1 q2 q4 q15 q16 q17 q22 q25
  have p23_3 := p3; have p23_4 := p4
  clear hp hr hr0 p3 p4
  refine Zw (M' := [(N23 0), (N23 1), (N23 2), (N23 3), (N23 4), [(b22, .cells ⟨cs21⟩ 27 (0, 0))], [(b1, .cells ⟨pkT kind num ref v (.slice none 0 0)⟩ 27 (0, 0))], k1, k2, [(b2, .cells ⟨pkT 0 0 zS (.slice none 0 0) (.slice none 0 0)⟩ 27 (0, 0))]]) Sub.refl ?_
  refine Zw (M' := [(N23 3), (N23 4), [(b22, .cells ⟨cs21⟩ 27 (0, 0))], [(b1, .cells ⟨pkT kind num ref v (.slice none 0 0)⟩ 27 (0, 0))], k1, k2, [(b2, .cells ⟨pkT 0 0 zS (.slice none 0 0) (.slice none 0 0)⟩ 27 (0, 0))]]) (Sd (Sd (Sd (Sk (Sk (Sk (Sk (Sk (Sk (Sk Sub.nil)))))))))) ?_
  show JL _ _ _ [_, _, _] _ _ _
  have hlens32 : ∀ e ∈ ([(cel (r23 3))] : List (List Value)), List.length e = 36 := by
   intro e he; simp only [List.mem_cons, List.not_mem_nil, or_false] at he
   rcases he with rfl
   ·exact p23_3.2.len
  have hoks32 : ∀ e ∈ ([(cel (r23 3))] : List (List Value)), okc e := by
   intro e he; simp only [List.mem_cons, List.not_mem_nil, or_false] at he
   rcases he with rfl
   ·exact p23_3.2.ok
  refine Zd rfl (Runs_append (i := 4) (n := 1) (es' := [(cel (r23 3))]) Tryz.runUnderlying24 Tryz.runUnderlying24 (Or.inl rfl) el27 rfl rfl rfl hov (fun F w m => Src.row (((At.k 1 rfl (by rw [p23_4.2.1]; exact List.mem_cons_self))).heap m) (Zy (flatten_len hlens32))) rfl hlens32 hoks32 (by decide) (by omega) fun v32 k32 ho32 => ?_)
  refine Za (v := .pointer (some ⟨b1, 34, none⟩)) rfl (fa27_3 rfl rfl) ?_
  refine Zd rfl (Zi 3 (vs := [v32]) (l := pkT kind num ref v32 (.slice none 0 0)) ty24 rfl rfl rfl (cells_one ho32.one) rfl (Zp ho32.one Zz) (pkT_s34 ..) ?_)
  refine Zb ?_
  refine Zc ?_
  refine Za (v := .int .i64 (((j + 1 : Nat) : Int))) rfl (Pu.inc rfl rfl (by omega)) ?_
  refine Za (v := .int .i64 (((j + 1 : Nat) : Int))) rfl (Pu.move rfl) ?_
  refine Zb ?_
  refine ⟨_, ?_, (j + 1), v32, (es ++ [(cel (r23 3))]), k32, (k2 ++ ((N23 3))), rfl, rfl, rfl, rfl, rfl, rfl, (Sub.cons 3 rfl (Sub.cons 3 rfl (Sub.join (Sub.cons 3 rfl (Sk (Sd (Sd (Sk Sub.nil)))))))), ?_, ?_, ?_, rfl⟩
  ·omega
  ·omega
  ·assumption
  rw [List.take_succ_eq_append_getElem h20n]; exact OTs.snoc p23_3.2 hopv
 replace h20 := df h20
 have h20n : kids.length ≤ j := by omega
 refine J_exit _ rfl ?_
 refine Zg ?_
 refine Zg (Zc ?_)
 refine Za (v := cv) rfl (Pu.move rfl) ?_
 obtain ⟨a33, cap33, hv33⟩ := hcv.sl
 have hle33 := hcv.le
 refine Za (v := .int .i64 ((cases.length : Int))) rfl (Pu.lenSl Tryz.runUnderlying25 hv33) ?_
 refine Za (v := .int .i64 0) rfl (Pu.move rfl) ?_
 refine Zb ?_
 refine Zs ?_
 rw [List.take_of_length_le h20n] at hopv
 refine J_loop (fun k ρ M => ∃ (j : Nat) (w : Value) (es2 : List (List Value)) (k3 k4 : Zm), ρ 1 = .pointer (some ⟨b1, 0, none⟩) ∧ ρ 2 = .pointer (some ⟨b2, 0, none⟩) ∧ ρ 29 = cv ∧ ρ 30 = .int .i64 ((cases.length : Int)) ∧ ρ 31 = .int .i64 ((j : Int)) ∧ Sub [[(b1, .cells ⟨pkT kind num ref v w⟩ 27 (0, 0))], k3, k4, k1, k2, [(b2, .cells ⟨pkT 0 0 zS (.slice none 0 0) (.slice none 0 0)⟩ 27 (0, 0))]] M ∧ j ≤ cases.length ∧ Own 34 71 w es2 k3 ∧ OCs ((cases.take j)) es2 k4 ∧ k = cases.length - j) _ ⟨0, (.slice none 0 0), [], [], [], rfl, rfl, rfl, rfl, rfl, (Sk (Sub.emp (Sub.emp (Sk (Sk (Sk Sub.nil)))))), Nat.zero_le _, Own.nil, OCs.nil, rfl⟩ ?_
 rintro _ ρ34 _ ⟨j, w, es2, k3, k4, e35, e36, e37, e38, e39, hm40, hj, how, hopw, rfl⟩
 obtain ⟨ρ41, rfl⟩ := Ze (uc e35 (uc e36 (uc e37 (uc e38 (uc e39 un)))))
 clear e35 e36 e37 e38 e39
 refine J_sub hm40 ?_
 have hlen := hcv.le
 refine Zg (Zc ?_)
 refine Za (v := .bool (decide ((j : Int) < (cases.length : Int)))) rfl (Pu.lss rfl rfl) ?_
 refine Zb ?_
 refine Zg ?_
 refine Zl (b := decide ((j : Int) < (cases.length : Int))) rfl (fun h42 => ?_) (fun h42 => ?_)
 ·replace h42 := dt h42
  have h42n : j < cases.length := by omega
  have helw := OCs_len hopw
  rw [List.length_take] at helw
  have hs1 := sizeCs_mem _ (List.getElem_mem h42n)
  refine Zq ?_
  refine Zg ?_
  refine Zs ?_
  refine Zg (Zc ?_)
  obtain ⟨b43, o43, cap43, row43, T43, fr43, cs43, hv43, hb43, hs43, hE43⟩ := hcv.get j (by first | assumption | omega | decide | simp)
  obtain ⟨ca43, cb43, rfl, hA43, hB43⟩ := hE43
  refine Za (v := .pointer (some ⟨b43, o43 + j * 71, none⟩)) rfl (Pu.idx j Tryz.runUnderlying25 ty34 hv43 rfl rfl (by first | assumption | omega | decide | simp)) ?_
  refine Zd rfl (Zj ty34 rfl (At.im hb43) hs43 ?_)
  refine Zd rfl (Zn (l := (pkP 0 0 zS (.slice none 0 0)) ++ (pkT 0 0 zS (.slice none 0 0) (.slice none 0 0))) Tryz.zeroValue34 rfl fun b44 => ?_)
  refine Zd rfl (Zi 0 (vs := ca43 ++ cb43) (l := ca43 ++ cb43) ty34 rfl rfl rfl rfl (len_app (RP_len hA43) (Zv hB43)) (okc_app (RP_ok hA43) (RT_ok hB43)) (spl_a (n := 71) rfl (len_app (RP_len hA43) (Zv hB43))) ?_)
  refine Zb ?_
  refine J_draw mixed #[0, 1, 0, 4, 12, 0, 32, 124, 252, 508, 1023, 2047, 4095] 10 10 7 rfl (by kernel_rfl) (fun i r45 N45 => match i with | 0 => (r45 0) = .pointer (some ⟨b1, 35, none⟩) | 1 => (r45 1) = w | 2 => (r45 2) = .pointer (some ⟨b44, 0, none⟩) | 3 => (r45 3) = .agg ⟨ca43⟩ | 4 => (r45 4) = .agg ⟨(cel (r45 4))⟩ ∧ OP (cases[j].1) (cel (r45 4)) (N45 4) | 5 => (r45 5) = .pointer (some ⟨b44, 35, none⟩) | 6 => (r45 6) = .agg ⟨cb43⟩ | 7 => (r45 7) = .agg ⟨(cel (r45 7))⟩ ∧ OT (cases[j].2) (cel (r45 7)) (N45 7) | 8 => (r45 8) = .agg ⟨((cel (r45 4))) ++ ((cel (r45 7)))⟩ | 9 => (r45 9) = .slice (some ⟨(sblk (r45 9)), 0, none⟩) 1 1 ∧ (N45 9) = [(sblk (r45 9), .cells ⟨List.flatten [((cel (r45 4))) ++ ((cel (r45 7)))]⟩ 34 (0, 0))] ∧ Own 34 71 (.slice (some ⟨(sblk (r45 9)), 0, none⟩) 1 1) [((cel (r45 4))) ++ ((cel (r45 7)))] (N45 9) | _ => True) ⟨?_, ?_, ?_, ?_, ?_, ?_, ?_, ?_, ?_, ?_, trivial⟩ ?_
  ·intro ρ r45 N45 B hB hBa hp hr hr0
   have q1 : ρ 1 = .pointer (some ⟨b1, 0, none⟩) := hr0 1 (by kernel_rfl)
   obtain ⟨ρ46, rfl⟩ := Ze (uc q1 un)
   clear q1
   refine Za (v := .pointer (some ⟨b1, 35, none⟩)) rfl (fa27_4 rfl rfl) ?_
   refine Zb ?_
   exact ⟨.pointer (some ⟨b1, 35, none⟩), [], rfl, (Sub.emp Sub.refl), rfl⟩
  ·intro ρ r45 N45 B hB hBa hp hr hr0
   have q35 : ρ 35 = .pointer (some ⟨b1, 35, none⟩) := (hr 0 _ _ (by decide) rfl rfl rfl).trans (hp 0 (by decide) rfl)
   obtain ⟨ρ47, rfl⟩ := Ze (uc q35 un)
   clear q35
   refine Zd rfl (Zh ty25 rfl (At.bx 11 (Zu ((hB 1 (by decide)).trans rfl))) (pkT_35 ..) ?_)
   refine Zb ?_
   exact ⟨w, [], rfl, (Sub.emp Sub.refl), rfl⟩
  ·intro ρ r45 N45 B hB hBa hp hr hr0
   have q8 : ρ 8 = .pointer (some ⟨b44, 0, none⟩) := hr0 8 (by kernel_rfl)
   obtain ⟨ρ48, rfl⟩ := Ze (uc q8 un)
   clear q8
   refine Za (v := .pointer (some ⟨b44, 0, none⟩)) rfl (fa34_0 rfl rfl) ?_
   refine Zb ?_
   exact ⟨.pointer (some ⟨b44, 0, none⟩), [], rfl, (Sub.emp Sub.refl), rfl⟩
  ·intro ρ r45 N45 B hB hBa hp hr hr0
   have q37 : ρ 37 = .pointer (some ⟨b44, 0, none⟩) := (hr 2 _ _ (by decide) rfl rfl rfl).trans (hp 2 (by decide) rfl)
   obtain ⟨ρ49, rfl⟩ := Ze (uc q37 un)
   clear q37
   refine Zd rfl (Zj ty30 rfl (At.bx 10 (Zu ((hB 0 (by decide)).trans rfl))) (sub_l (RP_len hA43)) ?_)
   refine Zb ?_
   exact ⟨.agg ⟨ca43⟩, [], rfl, (Sub.emp Sub.refl), rfl⟩
  ·intro ρ r45 N45 B hB hBa hp hr hr0
   have q38 : ρ 38 = .agg ⟨ca43⟩ := (hr 3 _ _ (by decide) rfl rfl rfl).trans (hp 3 (by decide) rfl)
   obtain ⟨ρ50, rfl⟩ := Ze (uc q38 un)
   clear q38
   refine Zk rfl Tryz.call11 rfl (fun hin => ownPattern_ct _ _ _ (RP.mono (Hle.hu _ _) hA43) (by omega)) rfl ?_
   rintro _ _ ⟨cs51, k51, rfl, rfl, hO51⟩
   refine Zb ?_
   exact ⟨.agg ⟨cs51⟩, k51, rfl, Sub.refl, ⟨rfl, hO51⟩⟩
  ·intro ρ r45 N45 B hB hBa hp hr hr0
   have q8 : ρ 8 = .pointer (some ⟨b44, 0, none⟩) := hr0 8 (by kernel_rfl)
   obtain ⟨ρ52, rfl⟩ := Ze (uc q8 un)
   clear q8
   refine Za (v := .pointer (some ⟨b44, 35, none⟩)) rfl (fa34_1 rfl rfl) ?_
   refine Zb ?_
   exact ⟨.pointer (some ⟨b44, 35, none⟩), [], rfl, (Sub.emp Sub.refl), rfl⟩
  ·intro ρ r45 N45 B hB hBa hp hr hr0
   have q40 : ρ 40 = .pointer (some ⟨b44, 35, none⟩) := (hr 5 _ _ (by decide) rfl rfl rfl).trans (hp 5 (by decide) rfl)
   obtain ⟨ρ53, rfl⟩ := Ze (uc q40 un)
   clear q40
   refine Zd rfl (Zj Zt rfl (At.bx 10 (Zu ((hB 0 (by decide)).trans rfl))) (sub_r (RP_len hA43) (Zv hB43)) ?_)
   refine Zb ?_
   exact ⟨.agg ⟨cb43⟩, [], rfl, (Sub.emp Sub.refl), rfl⟩
  ·intro ρ r45 N45 B hB hBa hp hr hr0
   have q41 : ρ 41 = .agg ⟨cb43⟩ := (hr 6 _ _ (by decide) rfl rfl rfl).trans (hp 6 (by decide) rfl)
   obtain ⟨ρ54, rfl⟩ := Ze (uc q41 un)
   clear q41
   refine Zk rfl Tryz.call10 rfl (fun hin => ih' _ (List.getElem_mem h42n) _ _ (RT.mono (Hle.hu _ _) hB43) (by omega)) rfl ?_
   rintro _ _ ⟨cs55, k55, rfl, rfl, hO55⟩
   refine Zb ?_
   exact ⟨.agg ⟨cs55⟩, k55, rfl, Sub.refl, ⟨rfl, hO55⟩⟩
  ·intro ρ r45 N45 B hB hBa hp hr hr0
   have p4 : (r45 4) = .agg ⟨(cel (r45 4))⟩ ∧ OP (cases[j].1) (cel (r45 4)) (N45 4) := hp 4 (by decide) rfl
   have p7 : (r45 7) = .agg ⟨(cel (r45 7))⟩ ∧ OT (cases[j].2) (cel (r45 7)) (N45 7) := hp 7 (by decide) rfl
   have q39 : ρ 39 = .agg ⟨(cel (r45 4))⟩ := (hr 4 _ _ (by decide) rfl rfl rfl).trans p4.1
   have q42 : ρ 42 = .agg ⟨(cel (r45 7))⟩ := (hr 7 _ _ (by decide) rfl rfl rfl).trans p7.1
   obtain ⟨ρ56, rfl⟩ := Ze (uc q39 (uc q42 un))
   clear q39 q42
   refine Za (v := .agg ⟨((cel (r45 4))) ++ ((cel (r45 7)))⟩) rfl (Pu.build (pv := [(0, .agg ⟨(cel (r45 4))⟩), (1, .agg ⟨(cel (r45 7))⟩)]) (l := ((cel (r45 4))) ++ ((cel (r45 7)))) rfl (bld34_0_1 p4.2.len p7.2.len)) ?_
   refine Zb ?_
   exact ⟨.agg ⟨((cel (r45 4))) ++ ((cel (r45 7)))⟩, [], rfl, (Sub.emp Sub.refl), rfl⟩
  ·intro ρ r45 N45 B hB hBa hp hr hr0
   have p4 : (r45 4) = .agg ⟨(cel (r45 4))⟩ ∧ OP (cases[j].1) (cel (r45 4)) (N45 4) := hp 4 (by decide) rfl
   have p7 : (r45 7) = .agg ⟨(cel (r45 7))⟩ ∧ OT (cases[j].2) (cel (r45 7)) (N45 7) := hp 7 (by decide) rfl
   have q43 : ρ 43 = .agg ⟨((cel (r45 4))) ++ ((cel (r45 7)))⟩ := (hr 8 _ _ (by decide) rfl rfl rfl).trans (hp 8 (by decide) rfl)
   obtain ⟨ρ57, rfl⟩ := Ze (uc q43 un)
   clear q43
   refine Zd rfl (ZA (vs := [.agg ⟨((cel (r45 4))) ++ ((cel (r45 7)))⟩]) [((cel (r45 4))) ++ ((cel (r45 7)))] Tryz.runUnderlying25 el34 rfl rfl (by intro e he; simp only [List.mem_cons, List.not_mem_nil, or_false] at he; subst he; exact (len_app p4.2.len p7.2.len)) rfl (by decide) fun b58 k58 ho58 hk58 => ?_)
   refine Zb ?_
   exact ⟨.slice (some ⟨b58, 0, none⟩) 1 1, k58, rfl, Sub.refl, ⟨rfl, hk58, ho58⟩⟩
  intro ρ r45 N45 hp hr hr0
  have p4 : (r45 4) = .agg ⟨(cel (r45 4))⟩ ∧ OP (cases[j].1) (cel (r45 4)) (N45 4) := hp 4 (by decide)
  have p7 : (r45 7) = .agg ⟨(cel (r45 7))⟩ ∧ OT (cases[j].2) (cel (r45 7)) (N45 7) := hp 7 (by decide)
  have p9 : (r45 9) = .slice (some ⟨(sblk (r45 9)), 0, none⟩) 1 1 ∧ (N45 9) = [(sblk (r45 9), .cells ⟨List.flatten [((cel (r45 4))) ++ ((cel (r45 7)))]⟩ 34 (0, 0))] ∧ Own 34 71 (.slice (some ⟨(sblk (r45 9)), 0, none⟩) 1 1) [((cel (r45 4))) ++ ((cel (r45 7)))] (N45 9) := hp 9 (by decide)
  have q1 : ρ 1 = .pointer (some ⟨b1, 0, none⟩) := hr0 1 (by kernel_rfl)
  have q2 : ρ 2 = .pointer (some ⟨b2, 0, none⟩) := hr0 2 (by kernel_rfl)
  have q29 : ρ 29 = cv := hr0 29 (by kernel_rfl)
  have q30 : ρ 30 = .int .i64 ((cases.length : Int)) := hr0 30 (by kernel_rfl)
  have q31 : ρ 31 = .int .i64 ((j : Int)) := hr0 31 (by kernel_rfl)
  have q36 : ρ 36 = w := (hr 1 _ _ (by decide) rfl rfl).trans (hp 1 (by decide))
  have q44 : ρ 44 = .slice (some ⟨(sblk (r45 9)), 0, none⟩) 1 1 := (hr 9 _ _ (by decide) rfl rfl).trans p9.1
  obtain ⟨ρ59, rfl⟩ := Ze (uc q1 (uc q2 (uc q29 (uc q30 (uc q31 (uc q36 (uc q44 un)))))))
  clear q1 q2 q29 q30 q31 q36 q44
  have p45_4 := p4; have p45_7 := p7; have p45_9 := p9
  clear hp hr hr0 p4 p7 p9
  refine Zw (M' := [(N45 0), (N45 1), (N45 2), (N45 3), (N45 4), (N45 5), (N45 6), (N45 7), (N45 8), (N45 9), [(b44, .cells ⟨ca43 ++ cb43⟩ 34 (0, 0))], [(b1, .cells ⟨pkT kind num ref v w⟩ 27 (0, 0))], k3, k4, k1, k2, [(b2, .cells ⟨pkT 0 0 zS (.slice none 0 0) (.slice none 0 0)⟩ 27 (0, 0))]]) Sub.refl ?_
  refine Zw (M' := [(N45 4), (N45 7), (N45 9), [(b44, .cells ⟨ca43 ++ cb43⟩ 34 (0, 0))], [(b1, .cells ⟨pkT kind num ref v w⟩ 27 (0, 0))], k3, k4, k1, k2, [(b2, .cells ⟨pkT 0 0 zS (.slice none 0 0) (.slice none 0 0)⟩ 27 (0, 0))]]) (Sd (Sd (Sd (Sd (Sk (Sd (Sd (Sk (Sd (Sk (Sk (Sk (Sk (Sk (Sk (Sk (Sk Sub.nil))))))))))))))))) ?_
  show JL _ _ _ [_, _, _] _ _ _
  have hlens60 : ∀ e ∈ ([((cel (r45 4))) ++ ((cel (r45 7)))] : List (List Value)), List.length e = 71 := by
   intro e he; simp only [List.mem_cons, List.not_mem_nil, or_false] at he
   rcases he with rfl
   ·exact (len_app p45_4.2.len p45_7.2.len)
  have hoks60 : ∀ e ∈ ([((cel (r45 4))) ++ ((cel (r45 7)))] : List (List Value)), okc e := by
   intro e he; simp only [List.mem_cons, List.not_mem_nil, or_false] at he
   rcases he with rfl
   ·exact (okc_app p45_4.2.ok p45_7.2.ok)
  refine Zd rfl (Runs_append (i := 5) (n := 1) (es' := [((cel (r45 4))) ++ ((cel (r45 7)))]) Tryz.runUnderlying25 Tryz.runUnderlying25 (Or.inl rfl) el34 rfl rfl rfl how (fun F w m => Src.row (((At.k 2 rfl (by rw [p45_9.2.1]; exact List.mem_cons_self))).heap m) (Zy (flatten_len hlens60))) rfl hlens60 hoks60 (by decide) (by omega) fun v60 k60 ho60 => ?_)
  refine Za (v := .pointer (some ⟨b1, 35, none⟩)) rfl (fa27_4 rfl rfl) ?_
  refine Zd rfl (Zi 4 (vs := [v60]) (l := pkT kind num ref v v60) ty25 rfl rfl rfl (cells_one ho60.one) rfl (Zp ho60.one Zz) (pkT_s35 ..) ?_)
  refine Zb ?_
  refine Zc ?_
  refine Za (v := .int .i64 (((j + 1 : Nat) : Int))) rfl (Pu.inc rfl rfl (by omega)) ?_
  refine Za (v := .int .i64 (((j + 1 : Nat) : Int))) rfl (Pu.move rfl) ?_
  refine Zb ?_
  refine ⟨_, ?_, (j + 1), v60, (es2 ++ [((cel (r45 4))) ++ ((cel (r45 7)))]), k60, (k4 ++ (((N45 4)) ++ ((N45 7)))), rfl, rfl, rfl, rfl, rfl, (Sub.cons 4 rfl (Sub.cons 4 rfl (Sub.join3 (Sub.cons 4 rfl (Sk (Sk (Sd (Sd (Sk (Sk (Sk Sub.nil))))))))))), ?_, ?_, ?_, rfl⟩
  ·omega
  ·omega
  ·assumption
  rw [List.take_succ_eq_append_getElem h42n]; exact OCs.snoc p45_4.2 p45_7.2 hopw
 replace h42 := df h42
 have h42n : cases.length ≤ j := by omega
 refine J_exit _ rfl ?_
 refine Zg (Zc ?_)
 refine Zd rfl (Zj Zt rfl (At.bx 0 rfl) (pkT_a ..) ?_)
 refine Zd rfl (Zi 5 (vs := pkT kind num ref v w) (l := pkT kind num ref v w) Zt rfl rfl rfl rfl rfl (pkT_ok hov.one how.one) (pkT_s ..) ?_)
 refine Zb ?_
 refine Zo ?_
 refine ⟨.agg ⟨pkT kind num ref v w⟩, [k1 ++ (k2 ++ (k3 ++ k4))], Ret.one rfl (RV.cell Zt rfl (At.bx 5 rfl) (pkT_a ..)), (Sub.join4 (Sd (Sub.cons 2 rfl (Sub.cons 2 rfl (Sk (Sk Sub.nil)))))), ?_⟩
 rw [List.take_of_length_le h42n] at hopw
 exact ⟨_, _, rfl, rfl, OT_mk.2 ⟨v, w, es, es2, k1, k2, k3, k4, rfl, hk, hn, hov, hopv, how, hopw, rfl, hks.le, hcv.le⟩⟩
end Go.Proofs.YtdeinimmmjichaaGreat.Hs
/-! Walks, printed by a program of this session's own (gen.py). -/
namespace Go.Proofs.YtdeinimmmjichaaGreat.Hs
open Go Go.Proofs
set_option maxRecDepth 100000
set_option linter.unusedVariables false
set_option linter.unusedSimpArgs false
attribute [local irreducible] JL J CT wlo
theorem ownQ_ct (t : Tm) (cs : List Value) (H : Heap) (ht : RT H cs t) (hz : sizeT t ≤ 900000) (hv : vOK t) : CT Tryz.prog 69 ⟨[.agg ⟨cs⟩]⟩ [] H (fun v N => ∃ cs k, v = .agg ⟨cs⟩ ∧ N = [k] ∧ OT (ownQ t) cs k) := by
 refine Zr Tryz.func69 rfl rfl ?_
 refine Zg (Zc ?_)
 refine Zd rfl (Zx (l := cs) rfl rfl fun b1 => ?_)
 refine Zd rfl (Zn (l := pkT 0 0 zS (.slice none 0 0) (.slice none 0 0)) Tryz.zeroValue27 rfl fun b2 => ?_)
 refine Zb ?_
 refine Zg (Zc ?_)
 refine Za (v := .agg ⟨[.func (.func 79) ⟨[]⟩ ⟨[]⟩, .func (.func 80) ⟨[]⟩ ⟨[]⟩]⟩) rfl (Pu.build (pv := [(0, .func (.func 79) ⟨[]⟩ ⟨[]⟩), (1, .func (.func 80) ⟨[]⟩ ⟨[]⟩)]) (l := [.func (.func 79) ⟨[]⟩ ⟨[]⟩, .func (.func 80) ⟨[]⟩ ⟨[]⟩]) rfl (bld118_0_1 _ _ _ _ _ _)) ?_
 refine Zd rfl (Zj Zt rfl (At.bx 1 rfl) (Zy (Zv ht)) ?_)
 refine Zk rfl Tryz.call81 rfl (fun hin => mapTermP_ct 80 [] [] Tryz.call80 (fun s => s) 79 [] [] Tryz.call79 stayV _ _ _ _ (RT.mono (Hle.hu _ _) ht) (by omega) hv (by decide) (by omega) (fun s h hh => same_ct s h) (fun n b h hh h1 h2 h3 h4 => stay_ct n b h (by unfold inI; omega))) rfl ?_
 rintro _ _ ⟨cs3, k3, rfl, rfl, hO3⟩
 refine Zd rfl (Zi 1 (vs := cs3) (l := cs3) Zt rfl rfl rfl rfl hO3.len hO3.ok (spl_a (n := 36) rfl hO3.len) ?_)
 refine Zb ?_
 refine Zo ?_
 refine ⟨.agg ⟨cs3⟩, [k3], Ret.one rfl (RV.cell Zt rfl (At.bx 1 rfl) (Zy hO3.len)), (Sk Sub.nil), ?_⟩
 have hx : ownQ t = mapQ (fun s => s) stayV 0 t := by first | rfl | (simp only [ownQ]; (repeat' split) <;> first | rfl | (exfalso; omega))
 exact ⟨_, _, rfl, rfl, by rw [hx]; exact hO3⟩
theorem ownR_ct : ∀ (t : Tm) (cs : List Value) (H : Heap), RT H cs t → sizeT t ≤ 1000000 → CT Tryz.prog 66 ⟨[.agg ⟨cs⟩]⟩ [] H (fun v N => ∃ cs k, v = .agg ⟨cs⟩ ∧ N = [k] ∧ OT t cs k) := by
 intro t
 induction t using Tm.ind with
 | h kind num ref kids cases ih ih' =>
 intro cs H ht hz
 rw [sizeT] at hz
 have hlk := len_sizeTs kids
 have hlc := len_sizeCs cases
 obtain ⟨ks, cv, rfl, hk, hn, hks, hcv⟩ := RT_mk.1 ht
 refine Zr Tryz.func66 rfl rfl ?_
 refine Zg (Zc ?_)
 refine Zd rfl (Zx (l := pkT kind num ref ks cv) rfl rfl fun b1 => ?_)
 refine Zd rfl (Zn (l := pkT 0 0 zS (.slice none 0 0) (.slice none 0 0)) Tryz.zeroValue27 rfl fun b2 => ?_)
 refine Zb ?_
 refine Zg (Zc ?_)
 refine Za (v := .pointer (some ⟨b1, 0, none⟩)) rfl (fa27_0 rfl rfl) ?_
 refine Zd rfl (Zh ty3 rfl (At.bx 1 rfl) (pkT_0 ..) ?_)
 refine Za (v := .pointer (some ⟨b1, 1, none⟩)) rfl (fa27_1 rfl rfl) ?_
 refine Zd rfl (Zh ty3 rfl (At.bx 1 rfl) (pkT_1 ..) ?_)
 refine Za (v := .pointer (some ⟨b1, 2, none⟩)) rfl (fa27_2 rfl rfl) ?_
 refine Zd rfl (Zj ty23 rfl (At.bx 1 rfl) (pkT_2 ..) ?_)
 refine Za (v := .agg ⟨pkT kind num ref (.slice none 0 0) (.slice none 0 0)⟩) rfl (Pu.build (pv := [(0, .int .i64 kind), (1, .int .i64 num), (2, .agg ⟨sC ref⟩)]) (l := pkT kind num ref (.slice none 0 0) (.slice none 0 0)) rfl (bld27_0_1_2 _ _ _)) ?_
 refine Zd rfl (Zn (l := pkT 0 0 zS (.slice none 0 0) (.slice none 0 0)) Tryz.zeroValue27 rfl fun b3 => ?_)
 refine Zd rfl (Zi 0 (vs := pkT kind num ref (.slice none 0 0) (.slice none 0 0)) (l := pkT kind num ref (.slice none 0 0) (.slice none 0 0)) Zt rfl rfl rfl rfl rfl (pkT_ok rfl rfl) (pkT_s ..) ?_)
 refine Zb ?_
 refine Zg ?_
 refine Zg (Zc ?_)
 refine Za (v := .int .i64 0) rfl (Pu.assign rfl) ?_
 refine Zb ?_
 refine Zs ?_
 refine J_loop (fun k ρ M => ∃ (j : Nat) (v : Value) (es : List (List Value)) (k1 k2 : Zm), ρ 1 = .pointer (some ⟨b1, 0, none⟩) ∧ ρ 2 = .pointer (some ⟨b2, 0, none⟩) ∧ ρ 3 = .pointer (some ⟨b3, 0, none⟩) ∧ ρ 4 = .int .i64 ((j : Int)) ∧ Sub [[(b3, .cells ⟨pkT kind num ref v (.slice none 0 0)⟩ 27 (0, 0))], k1, k2, [(b2, .cells ⟨pkT 0 0 zS (.slice none 0 0) (.slice none 0 0)⟩ 27 (0, 0))], [(b1, .cells ⟨pkT kind num ref ks cv⟩ 27 (0, 0))]] M ∧ j ≤ kids.length ∧ Own 27 36 v es k1 ∧ OTs ((kids.take j)) es k2 ∧ k = kids.length - j) _ ⟨0, (.slice none 0 0), [], [], [], rfl, rfl, rfl, rfl, (Sk (Sub.emp (Sub.emp (Sk (Sk Sub.nil))))), Nat.zero_le _, Own.nil, OTs.nil, rfl⟩ ?_
 rintro _ ρ4 _ ⟨j, v, es, k1, k2, e5, e6, e7, e8, hm9, hj, hov, hopv, rfl⟩
 obtain ⟨ρ10, rfl⟩ := Ze (uc e5 (uc e6 (uc e7 (uc e8 un))))
 clear e5 e6 e7 e8
 refine J_sub hm9 ?_
 have hlen := hks.le
 refine Zg ?_
 refine Zg (Zc ?_)
 refine Za (v := .int .i64 ((j : Int))) rfl (Pu.move rfl) ?_
 refine Za (v := .pointer (some ⟨b1, 34, none⟩)) rfl (fa27_3 rfl rfl) ?_
 refine Zd rfl (Zh ty24 rfl (At.bx 4 rfl) (pkT_34 ..) ?_)
 obtain ⟨a11, cap11, hv11⟩ := hks.sl
 have hle11 := hks.le
 refine Za (v := .int .i64 ((kids.length : Int))) rfl (Pu.lenSl Tryz.runUnderlying24 hv11) ?_
 refine Za (v := .bool (decide ((j : Int) < (kids.length : Int)))) rfl (Pu.lss rfl rfl) ?_
 refine Zb ?_
 refine Zl (b := decide ((j : Int) < (kids.length : Int))) rfl (fun h12 => ?_) (fun h12 => ?_)
 ·replace h12 := dt h12
  have h12n : j < kids.length := by omega
  have helv := OTs_len hopv
  rw [List.length_take] at helv
  have hs1 := sizeTs_mem _ (List.getElem_mem h12n)
  refine Zq ?_
  refine Zg ?_
  refine Zs ?_
  obtain ⟨b14, o14, cap14, row14, T14, fr14, cs14, hv14, hb14, hs14, hE14⟩ := hks.get j (by first | assumption | omega | decide | simp)
  refine J_draw mixed #[0, 1, 0, 4, 0, 28, 60, 124, 252, 511, 1023, 2047] 9 9 5 rfl (by kernel_rfl) (fun i r13 N13 => match i with | 0 => (r13 0) = .pointer (some ⟨b3, 34, none⟩) | 1 => (r13 1) = v | 2 => (r13 2) = .pointer (some ⟨b1, 34, none⟩) | 3 => (r13 3) = ks | 4 => (r13 4) = .int .i64 ((j : Int)) | 5 => (r13 5) = .pointer (some ⟨b14, o14 + j * 36, none⟩) | 6 => (r13 6) = .agg ⟨cs14⟩ | 7 => (r13 7) = .agg ⟨(cel (r13 7))⟩ ∧ OT (kids[j]) (cel (r13 7)) (N13 7) | 8 => (r13 8) = .slice (some ⟨(sblk (r13 8)), 0, none⟩) 1 1 ∧ (N13 8) = [(sblk (r13 8), .cells ⟨List.flatten [(cel (r13 7))]⟩ 27 (0, 0))] ∧ Own 27 36 (.slice (some ⟨(sblk (r13 8)), 0, none⟩) 1 1) [(cel (r13 7))] (N13 8) | _ => True) ⟨?_, ?_, ?_, ?_, ?_, ?_, ?_, ?_, ?_, trivial⟩ ?_
  ·intro ρ r13 N13 B hB hBa hp hr hr0
   have q3 : ρ 3 = .pointer (some ⟨b3, 0, none⟩) := hr0 3 (by kernel_rfl)
   obtain ⟨ρ15, rfl⟩ := Ze (uc q3 un)
   clear q3
   refine Za (v := .pointer (some ⟨b3, 34, none⟩)) rfl (fa27_3 rfl rfl) ?_
   refine Zb ?_
   exact ⟨.pointer (some ⟨b3, 34, none⟩), [], rfl, (Sub.emp Sub.refl), rfl⟩
  ·intro ρ r13 N13 B hB hBa hp hr hr0
   have q20 : ρ 20 = .pointer (some ⟨b3, 34, none⟩) := (hr 0 _ _ (by decide) rfl rfl rfl).trans (hp 0 (by decide) rfl)
   obtain ⟨ρ16, rfl⟩ := Ze (uc q20 un)
   clear q20
   refine Zd rfl (Zh ty24 rfl (At.bx 9 (Zu ((hB 0 (by decide)).trans rfl))) (pkT_34 ..) ?_)
   refine Zb ?_
   exact ⟨v, [], rfl, (Sub.emp Sub.refl), rfl⟩
  ·intro ρ r13 N13 B hB hBa hp hr hr0
   have q1 : ρ 1 = .pointer (some ⟨b1, 0, none⟩) := hr0 1 (by kernel_rfl)
   obtain ⟨ρ17, rfl⟩ := Ze (uc q1 un)
   clear q1
   refine Za (v := .pointer (some ⟨b1, 34, none⟩)) rfl (fa27_3 rfl rfl) ?_
   refine Zb ?_
   exact ⟨.pointer (some ⟨b1, 34, none⟩), [], rfl, (Sub.emp Sub.refl), rfl⟩
  ·intro ρ r13 N13 B hB hBa hp hr hr0
   have q22 : ρ 22 = .pointer (some ⟨b1, 34, none⟩) := (hr 2 _ _ (by decide) rfl rfl rfl).trans (hp 2 (by decide) rfl)
   obtain ⟨ρ18, rfl⟩ := Ze (uc q22 un)
   clear q22
   refine Zd rfl (Zh ty24 rfl (At.bx 13 (Zu ((hB 4 (by decide)).trans rfl))) (pkT_34 ..) ?_)
   refine Zb ?_
   exact ⟨ks, [], rfl, (Sub.emp Sub.refl), rfl⟩
  ·intro ρ r13 N13 B hB hBa hp hr hr0
   have q4 : ρ 4 = .int .i64 ((j : Int)) := hr0 4 (by kernel_rfl)
   obtain ⟨ρ19, rfl⟩ := Ze (uc q4 un)
   clear q4
   refine Za (v := .int .i64 ((j : Int))) rfl (Pu.move rfl) ?_
   refine Zb ?_
   exact ⟨.int .i64 ((j : Int)), [], rfl, (Sub.emp Sub.refl), rfl⟩
  ·intro ρ r13 N13 B hB hBa hp hr hr0
   have q23 : ρ 23 = ks := (hr 3 _ _ (by decide) rfl rfl rfl).trans (hp 3 (by decide) rfl)
   have q24 : ρ 24 = .int .i64 ((j : Int)) := (hr 4 _ _ (by decide) rfl rfl rfl).trans (hp 4 (by decide) rfl)
   obtain ⟨ρ20, rfl⟩ := Ze (uc q23 (uc q24 un))
   clear q23 q24
   refine Za (v := .pointer (some ⟨b14, o14 + j * 36, none⟩)) rfl (Pu.idx j Tryz.runUnderlying24 Zt hv14 rfl rfl (by first | assumption | omega | decide | simp)) ?_
   refine Zb ?_
   exact ⟨.pointer (some ⟨b14, o14 + j * 36, none⟩), [], rfl, (Sub.emp Sub.refl), rfl⟩
  ·intro ρ r13 N13 B hB hBa hp hr hr0
   have q25 : ρ 25 = .pointer (some ⟨b14, o14 + j * 36, none⟩) := (hr 5 _ _ (by decide) rfl rfl rfl).trans (hp 5 (by decide) rfl)
   obtain ⟨ρ21, rfl⟩ := Ze (uc q25 un)
   clear q25
   refine Zd rfl (Zj Zt rfl (At.im hb14) hs14 ?_)
   refine Zb ?_
   exact ⟨.agg ⟨cs14⟩, [], rfl, (Sub.emp Sub.refl), rfl⟩
  ·intro ρ r13 N13 B hB hBa hp hr hr0
   have q26 : ρ 26 = .agg ⟨cs14⟩ := (hr 6 _ _ (by decide) rfl rfl rfl).trans (hp 6 (by decide) rfl)
   obtain ⟨ρ22, rfl⟩ := Ze (uc q26 un)
   clear q26
   refine Zk rfl Tryz.call66 rfl (fun hin => ih _ (List.getElem_mem h12n) _ _ (RT.mono (Hle.hu _ _) hE14) (by omega)) rfl ?_
   rintro _ _ ⟨cs23, k23, rfl, rfl, hO23⟩
   refine Zb ?_
   exact ⟨.agg ⟨cs23⟩, k23, rfl, Sub.refl, ⟨rfl, hO23⟩⟩
  ·intro ρ r13 N13 B hB hBa hp hr hr0
   have p7 : (r13 7) = .agg ⟨(cel (r13 7))⟩ ∧ OT (kids[j]) (cel (r13 7)) (N13 7) := hp 7 (by decide) rfl
   have q27 : ρ 27 = .agg ⟨(cel (r13 7))⟩ := (hr 7 _ _ (by decide) rfl rfl rfl).trans p7.1
   obtain ⟨ρ24, rfl⟩ := Ze (uc q27 un)
   clear q27
   refine Zd rfl (ZA (vs := [.agg ⟨(cel (r13 7))⟩]) [(cel (r13 7))] Tryz.runUnderlying24 el27 rfl rfl (by intro e he; simp only [List.mem_cons, List.not_mem_nil, or_false] at he; subst he; exact p7.2.len) rfl (by decide) fun b25 k25 ho25 hk25 => ?_)
   refine Zb ?_
   exact ⟨.slice (some ⟨b25, 0, none⟩) 1 1, k25, rfl, Sub.refl, ⟨rfl, hk25, ho25⟩⟩
  intro ρ r13 N13 hp hr hr0
  have p7 : (r13 7) = .agg ⟨(cel (r13 7))⟩ ∧ OT (kids[j]) (cel (r13 7)) (N13 7) := hp 7 (by decide)
  have p8 : (r13 8) = .slice (some ⟨(sblk (r13 8)), 0, none⟩) 1 1 ∧ (N13 8) = [(sblk (r13 8), .cells ⟨List.flatten [(cel (r13 7))]⟩ 27 (0, 0))] ∧ Own 27 36 (.slice (some ⟨(sblk (r13 8)), 0, none⟩) 1 1) [(cel (r13 7))] (N13 8) := hp 8 (by decide)
  have q1 : ρ 1 = .pointer (some ⟨b1, 0, none⟩) := hr0 1 (by kernel_rfl)
  have q2 : ρ 2 = .pointer (some ⟨b2, 0, none⟩) := hr0 2 (by kernel_rfl)
  have q3 : ρ 3 = .pointer (some ⟨b3, 0, none⟩) := hr0 3 (by kernel_rfl)
  have q4 : ρ 4 = .int .i64 ((j : Int)) := hr0 4 (by kernel_rfl)
  have q21 : ρ 21 = v := (hr 1 _ _ (by decide) rfl rfl).trans (hp 1 (by decide))
  have q28 : ρ 28 = .slice (some ⟨(sblk (r13 8)), 0, none⟩) 1 1 := (hr 8 _ _ (by decide) rfl rfl).trans p8.1
  obtain ⟨ρ26, rfl⟩ := Ze (uc q1 (uc q2 (uc q3 (uc q4 (uc q21 (uc q28 un))))))
  clear q1 q2 q3 q4 q21 q28
  have p13_7 := p7; have p13_8 := p8
  clear hp hr hr0 p7 p8
  refine Zw (M' := [(N13 0), (N13 1), (N13 2), (N13 3), (N13 4), (N13 5), (N13 6), (N13 7), (N13 8), [(b3, .cells ⟨pkT kind num ref v (.slice none 0 0)⟩ 27 (0, 0))], k1, k2, [(b2, .cells ⟨pkT 0 0 zS (.slice none 0 0) (.slice none 0 0)⟩ 27 (0, 0))], [(b1, .cells ⟨pkT kind num ref ks cv⟩ 27 (0, 0))]]) Sub.refl ?_
  refine Zw (M' := [(N13 7), (N13 8), [(b3, .cells ⟨pkT kind num ref v (.slice none 0 0)⟩ 27 (0, 0))], k1, k2, [(b2, .cells ⟨pkT 0 0 zS (.slice none 0 0) (.slice none 0 0)⟩ 27 (0, 0))], [(b1, .cells ⟨pkT kind num ref ks cv⟩ 27 (0, 0))]]) (Sd (Sd (Sd (Sd (Sd (Sd (Sd (Sk (Sk (Sk (Sk (Sk (Sk (Sk Sub.nil)))))))))))))) ?_
  show JL _ _ _ [_, _, _] _ _ _
  have hlens27 : ∀ e ∈ ([(cel (r13 7))] : List (List Value)), List.length e = 36 := by
   intro e he; simp only [List.mem_cons, List.not_mem_nil, or_false] at he
   rcases he with rfl
   ·exact p13_7.2.len
  have hoks27 : ∀ e ∈ ([(cel (r13 7))] : List (List Value)), okc e := by
   intro e he; simp only [List.mem_cons, List.not_mem_nil, or_false] at he
   rcases he with rfl
   ·exact p13_7.2.ok
  refine Zd rfl (Runs_append (i := 3) (n := 1) (es' := [(cel (r13 7))]) Tryz.runUnderlying24 Tryz.runUnderlying24 (Or.inl rfl) el27 rfl rfl rfl hov (fun F w m => Src.row (((At.k 1 rfl (by rw [p13_8.2.1]; exact List.mem_cons_self))).heap m) (Zy (flatten_len hlens27))) rfl hlens27 hoks27 (by decide) (by omega) fun v27 k27 ho27 => ?_)
  refine Za (v := .pointer (some ⟨b3, 34, none⟩)) rfl (fa27_3 rfl rfl) ?_
  refine Zd rfl (Zi 2 (vs := [v27]) (l := pkT kind num ref v27 (.slice none 0 0)) ty24 rfl rfl rfl (cells_one ho27.one) rfl (Zp ho27.one Zz) (pkT_s34 ..) ?_)
  refine Zb ?_
  refine Zc ?_
  refine Za (v := .int .i64 ((j : Int))) rfl (Pu.move rfl) ?_
  refine Za (v := .int .i64 (((j + 1 : Nat) : Int))) rfl (Pu.inc rfl rfl (by omega)) ?_
  refine Za (v := .int .i64 (((j + 1 : Nat) : Int))) rfl (Pu.assign rfl) ?_
  refine Zb ?_
  refine ⟨_, ?_, (j + 1), v27, (es ++ [(cel (r13 7))]), k27, (k2 ++ ((N13 7))), rfl, rfl, rfl, rfl, (Sub.cons 2 rfl (Sub.cons 2 rfl (Sub.join (Sub.cons 2 rfl (Sk (Sd (Sk (Sk Sub.nil)))))))), ?_, ?_, ?_, rfl⟩
  ·omega
  ·omega
  ·assumption
  rw [List.take_succ_eq_append_getElem h12n]; exact OTs.snoc p13_7.2 hopv
 replace h12 := df h12
 have h12n : kids.length ≤ j := by omega
 refine J_exit _ rfl ?_
 refine Zg ?_
 refine Zg (Zc ?_)
 refine Za (v := .int .i64 0) rfl (Pu.assign rfl) ?_
 refine Zb ?_
 refine Zs ?_
 rw [List.take_of_length_le h12n] at hopv
 refine J_loop (fun k ρ M => ∃ (j : Nat) (w : Value) (es2 : List (List Value)) (k3 k4 : Zm), ρ 1 = .pointer (some ⟨b1, 0, none⟩) ∧ ρ 2 = .pointer (some ⟨b2, 0, none⟩) ∧ ρ 3 = .pointer (some ⟨b3, 0, none⟩) ∧ ρ 5 = .int .i64 ((j : Int)) ∧ Sub [[(b3, .cells ⟨pkT kind num ref v w⟩ 27 (0, 0))], k3, k4, k1, k2, [(b2, .cells ⟨pkT 0 0 zS (.slice none 0 0) (.slice none 0 0)⟩ 27 (0, 0))], [(b1, .cells ⟨pkT kind num ref ks cv⟩ 27 (0, 0))]] M ∧ j ≤ cases.length ∧ Own 34 71 w es2 k3 ∧ OCs ((cases.take j)) es2 k4 ∧ k = cases.length - j) _ ⟨0, (.slice none 0 0), [], [], [], rfl, rfl, rfl, rfl, (Sk (Sub.emp (Sub.emp (Sk (Sk (Sk (Sk Sub.nil))))))), Nat.zero_le _, Own.nil, OCs.nil, rfl⟩ ?_
 rintro _ ρ28 _ ⟨j, w, es2, k3, k4, e29, e30, e31, e32, hm33, hj, how, hopw, rfl⟩
 obtain ⟨ρ34, rfl⟩ := Ze (uc e29 (uc e30 (uc e31 (uc e32 un))))
 clear e29 e30 e31 e32
 refine J_sub hm33 ?_
 have hlen := hcv.le
 refine Zg ?_
 refine Zg (Zc ?_)
 refine Za (v := .int .i64 ((j : Int))) rfl (Pu.move rfl) ?_
 refine Za (v := .pointer (some ⟨b1, 35, none⟩)) rfl (fa27_4 rfl rfl) ?_
 refine Zd rfl (Zh ty25 rfl (At.bx 6 rfl) (pkT_35 ..) ?_)
 obtain ⟨a35, cap35, hv35⟩ := hcv.sl
 have hle35 := hcv.le
 refine Za (v := .int .i64 ((cases.length : Int))) rfl (Pu.lenSl Tryz.runUnderlying25 hv35) ?_
 refine Za (v := .bool (decide ((j : Int) < (cases.length : Int)))) rfl (Pu.lss rfl rfl) ?_
 refine Zb ?_
 refine Zl (b := decide ((j : Int) < (cases.length : Int))) rfl (fun h36 => ?_) (fun h36 => ?_)
 ·replace h36 := dt h36
  have h36n : j < cases.length := by omega
  have helw := OCs_len hopw
  rw [List.length_take] at helw
  have hs1 := sizeCs_mem _ (List.getElem_mem h36n)
  refine Zq ?_
  refine Zg ?_
  refine Zs ?_
  obtain ⟨b38, o38, cap38, row38, T38, fr38, cs38, hv38, hb38, hs38, hE38⟩ := hcv.get j (by first | assumption | omega | decide | simp)
  obtain ⟨ca38, cb38, rfl, hA38, hB38⟩ := hE38
  refine J_draw mixed #[0, 1, 0, 4, 0, 28, 60, 124, 252, 0, 512, 0, 3584, 7680, 15872, 32764, 65532, 131068, 262143, 524287, 1048575] 18 18 7 rfl (by kernel_rfl) (fun i r37 N37 => match i with | 0 => (r37 0) = .pointer (some ⟨b3, 35, none⟩) | 1 => (r37 1) = w | 2 => (r37 2) = .pointer (some ⟨b1, 35, none⟩) | 3 => (r37 3) = cv | 4 => (r37 4) = .int .i64 ((j : Int)) | 5 => (r37 5) = .pointer (some ⟨b38, o38 + j * 71, none⟩) | 6 => (r37 6) = .pointer (some ⟨b38, o38 + j * 71, none⟩) | 7 => (r37 7) = .agg ⟨ca38⟩ | 8 => (r37 8) = .agg ⟨(cel (r37 8))⟩ ∧ OP (cases[j].1) (cel (r37 8)) (N37 8) | 9 => (r37 9) = .pointer (some ⟨b1, 35, none⟩) | 10 => (r37 10) = cv | 11 => (r37 11) = .int .i64 ((j : Int)) | 12 => (r37 12) = .pointer (some ⟨b38, o38 + j * 71, none⟩) | 13 => (r37 13) = .pointer (some ⟨b38, o38 + j * 71 + 35, none⟩) | 14 => (r37 14) = .agg ⟨cb38⟩ | 15 => (r37 15) = .agg ⟨(cel (r37 15))⟩ ∧ OT (cases[j].2) (cel (r37 15)) (N37 15) | 16 => (r37 16) = .agg ⟨((cel (r37 8))) ++ ((cel (r37 15)))⟩ | 17 => (r37 17) = .slice (some ⟨(sblk (r37 17)), 0, none⟩) 1 1 ∧ (N37 17) = [(sblk (r37 17), .cells ⟨List.flatten [((cel (r37 8))) ++ ((cel (r37 15)))]⟩ 34 (0, 0))] ∧ Own 34 71 (.slice (some ⟨(sblk (r37 17)), 0, none⟩) 1 1) [((cel (r37 8))) ++ ((cel (r37 15)))] (N37 17) | _ => True) ⟨?_, ?_, ?_, ?_, ?_, ?_, ?_, ?_, ?_, ?_, ?_, ?_, ?_, ?_, ?_, ?_, ?_, ?_, trivial⟩ ?_
  ·intro ρ r37 N37 B hB hBa hp hr hr0
   have q3 : ρ 3 = .pointer (some ⟨b3, 0, none⟩) := hr0 3 (by kernel_rfl)
   obtain ⟨ρ39, rfl⟩ := Ze (uc q3 un)
   clear q3
   refine Za (v := .pointer (some ⟨b3, 35, none⟩)) rfl (fa27_4 rfl rfl) ?_
   refine Zb ?_
   exact ⟨.pointer (some ⟨b3, 35, none⟩), [], rfl, (Sub.emp Sub.refl), rfl⟩
  ·intro ρ r37 N37 B hB hBa hp hr hr0
   have q38 : ρ 38 = .pointer (some ⟨b3, 35, none⟩) := (hr 0 _ _ (by decide) rfl rfl rfl).trans (hp 0 (by decide) rfl)
   obtain ⟨ρ40, rfl⟩ := Ze (uc q38 un)
   clear q38
   refine Zd rfl (Zh ty25 rfl (At.bx 18 (Zu ((hB 0 (by decide)).trans rfl))) (pkT_35 ..) ?_)
   refine Zb ?_
   exact ⟨w, [], rfl, (Sub.emp Sub.refl), rfl⟩
  ·intro ρ r37 N37 B hB hBa hp hr hr0
   have q1 : ρ 1 = .pointer (some ⟨b1, 0, none⟩) := hr0 1 (by kernel_rfl)
   obtain ⟨ρ41, rfl⟩ := Ze (uc q1 un)
   clear q1
   refine Za (v := .pointer (some ⟨b1, 35, none⟩)) rfl (fa27_4 rfl rfl) ?_
   refine Zb ?_
   exact ⟨.pointer (some ⟨b1, 35, none⟩), [], rfl, (Sub.emp Sub.refl), rfl⟩
  ·intro ρ r37 N37 B hB hBa hp hr hr0
   have q40 : ρ 40 = .pointer (some ⟨b1, 35, none⟩) := (hr 2 _ _ (by decide) rfl rfl rfl).trans (hp 2 (by decide) rfl)
   obtain ⟨ρ42, rfl⟩ := Ze (uc q40 un)
   clear q40
   refine Zd rfl (Zh ty25 rfl (At.bx 24 (Zu ((hB 6 (by decide)).trans rfl))) (pkT_35 ..) ?_)
   refine Zb ?_
   exact ⟨cv, [], rfl, (Sub.emp Sub.refl), rfl⟩
  ·intro ρ r37 N37 B hB hBa hp hr hr0
   have q5 : ρ 5 = .int .i64 ((j : Int)) := hr0 5 (by kernel_rfl)
   obtain ⟨ρ43, rfl⟩ := Ze (uc q5 un)
   clear q5
   refine Za (v := .int .i64 ((j : Int))) rfl (Pu.move rfl) ?_
   refine Zb ?_
   exact ⟨.int .i64 ((j : Int)), [], rfl, (Sub.emp Sub.refl), rfl⟩
  ·intro ρ r37 N37 B hB hBa hp hr hr0
   have q41 : ρ 41 = cv := (hr 3 _ _ (by decide) rfl rfl rfl).trans (hp 3 (by decide) rfl)
   have q42 : ρ 42 = .int .i64 ((j : Int)) := (hr 4 _ _ (by decide) rfl rfl rfl).trans (hp 4 (by decide) rfl)
   obtain ⟨ρ44, rfl⟩ := Ze (uc q41 (uc q42 un))
   clear q41 q42
   refine Za (v := .pointer (some ⟨b38, o38 + j * 71, none⟩)) rfl (Pu.idx j Tryz.runUnderlying25 ty34 hv38 rfl rfl (by first | assumption | omega | decide | simp)) ?_
   refine Zb ?_
   exact ⟨.pointer (some ⟨b38, o38 + j * 71, none⟩), [], rfl, (Sub.emp Sub.refl), rfl⟩
  ·intro ρ r37 N37 B hB hBa hp hr hr0
   have q43 : ρ 43 = .pointer (some ⟨b38, o38 + j * 71, none⟩) := (hr 5 _ _ (by decide) rfl rfl rfl).trans (hp 5 (by decide) rfl)
   obtain ⟨ρ45, rfl⟩ := Ze (uc q43 un)
   clear q43
   refine Za (v := .pointer (some ⟨b38, o38 + j * 71, none⟩)) rfl (fa34_0 rfl rfl) ?_
   refine Zb ?_
   exact ⟨.pointer (some ⟨b38, o38 + j * 71, none⟩), [], rfl, (Sub.emp Sub.refl), rfl⟩
  ·intro ρ r37 N37 B hB hBa hp hr hr0
   have q44 : ρ 44 = .pointer (some ⟨b38, o38 + j * 71, none⟩) := (hr 6 _ _ (by decide) rfl rfl rfl).trans (hp 6 (by decide) rfl)
   obtain ⟨ρ46, rfl⟩ := Ze (uc q44 un)
   clear q44
   refine Zd rfl (Zj ty30 rfl (At.im hb38) (sub_sub0 hs38 (sub_l (RP_len hA38))) ?_)
   refine Zb ?_
   exact ⟨.agg ⟨ca38⟩, [], rfl, (Sub.emp Sub.refl), rfl⟩
  ·intro ρ r37 N37 B hB hBa hp hr hr0
   have q45 : ρ 45 = .agg ⟨ca38⟩ := (hr 7 _ _ (by decide) rfl rfl rfl).trans (hp 7 (by decide) rfl)
   obtain ⟨ρ47, rfl⟩ := Ze (uc q45 un)
   clear q45
   refine Zk rfl Tryz.call99 rfl (fun hin => ownPatternR_ct _ _ _ (RP.mono (Hle.hu _ _) hA38) (by omega)) rfl ?_
   rintro _ _ ⟨cs48, k48, rfl, rfl, hO48⟩
   refine Zb ?_
   exact ⟨.agg ⟨cs48⟩, k48, rfl, Sub.refl, ⟨rfl, hO48⟩⟩
  ·intro ρ r37 N37 B hB hBa hp hr hr0
   have q1 : ρ 1 = .pointer (some ⟨b1, 0, none⟩) := hr0 1 (by kernel_rfl)
   obtain ⟨ρ49, rfl⟩ := Ze (uc q1 un)
   clear q1
   refine Za (v := .pointer (some ⟨b1, 35, none⟩)) rfl (fa27_4 rfl rfl) ?_
   refine Zb ?_
   exact ⟨.pointer (some ⟨b1, 35, none⟩), [], rfl, (Sub.emp Sub.refl), rfl⟩
  ·intro ρ r37 N37 B hB hBa hp hr hr0
   have q47 : ρ 47 = .pointer (some ⟨b1, 35, none⟩) := (hr 9 _ _ (by decide) rfl rfl rfl).trans (hp 9 (by decide) rfl)
   obtain ⟨ρ50, rfl⟩ := Ze (uc q47 un)
   clear q47
   refine Zd rfl (Zh ty25 rfl (At.bx 24 (Zu ((hB 6 (by decide)).trans rfl))) (pkT_35 ..) ?_)
   refine Zb ?_
   exact ⟨cv, [], rfl, (Sub.emp Sub.refl), rfl⟩
  ·intro ρ r37 N37 B hB hBa hp hr hr0
   have q5 : ρ 5 = .int .i64 ((j : Int)) := hr0 5 (by kernel_rfl)
   obtain ⟨ρ51, rfl⟩ := Ze (uc q5 un)
   clear q5
   refine Za (v := .int .i64 ((j : Int))) rfl (Pu.move rfl) ?_
   refine Zb ?_
   exact ⟨.int .i64 ((j : Int)), [], rfl, (Sub.emp Sub.refl), rfl⟩
  ·intro ρ r37 N37 B hB hBa hp hr hr0
   have q48 : ρ 48 = cv := (hr 10 _ _ (by decide) rfl rfl rfl).trans (hp 10 (by decide) rfl)
   have q49 : ρ 49 = .int .i64 ((j : Int)) := (hr 11 _ _ (by decide) rfl rfl rfl).trans (hp 11 (by decide) rfl)
   obtain ⟨ρ52, rfl⟩ := Ze (uc q48 (uc q49 un))
   clear q48 q49
   refine Za (v := .pointer (some ⟨b38, o38 + j * 71, none⟩)) rfl (Pu.idx j Tryz.runUnderlying25 ty34 hv38 rfl rfl (by first | assumption | omega | decide | simp)) ?_
   refine Zb ?_
   exact ⟨.pointer (some ⟨b38, o38 + j * 71, none⟩), [], rfl, (Sub.emp Sub.refl), rfl⟩
  ·intro ρ r37 N37 B hB hBa hp hr hr0
   have q50 : ρ 50 = .pointer (some ⟨b38, o38 + j * 71, none⟩) := (hr 12 _ _ (by decide) rfl rfl rfl).trans (hp 12 (by decide) rfl)
   obtain ⟨ρ53, rfl⟩ := Ze (uc q50 un)
   clear q50
   refine Za (v := .pointer (some ⟨b38, o38 + j * 71 + 35, none⟩)) rfl (fa34_1 rfl rfl) ?_
   refine Zb ?_
   exact ⟨.pointer (some ⟨b38, o38 + j * 71 + 35, none⟩), [], rfl, (Sub.emp Sub.refl), rfl⟩
  ·intro ρ r37 N37 B hB hBa hp hr hr0
   have q51 : ρ 51 = .pointer (some ⟨b38, o38 + j * 71 + 35, none⟩) := (hr 13 _ _ (by decide) rfl rfl rfl).trans (hp 13 (by decide) rfl)
   obtain ⟨ρ54, rfl⟩ := Ze (uc q51 un)
   clear q51
   refine Zd rfl (Zj Zt rfl (At.im hb38) (sub_sub hs38 (sub_r (RP_len hA38) (Zv hB38))) ?_)
   refine Zb ?_
   exact ⟨.agg ⟨cb38⟩, [], rfl, (Sub.emp Sub.refl), rfl⟩
  ·intro ρ r37 N37 B hB hBa hp hr hr0
   have q52 : ρ 52 = .agg ⟨cb38⟩ := (hr 14 _ _ (by decide) rfl rfl rfl).trans (hp 14 (by decide) rfl)
   obtain ⟨ρ55, rfl⟩ := Ze (uc q52 un)
   clear q52
   refine Zk rfl Tryz.call66 rfl (fun hin => ih' _ (List.getElem_mem h36n) _ _ (RT.mono (Hle.hu _ _) hB38) (by omega)) rfl ?_
   rintro _ _ ⟨cs56, k56, rfl, rfl, hO56⟩
   refine Zb ?_
   exact ⟨.agg ⟨cs56⟩, k56, rfl, Sub.refl, ⟨rfl, hO56⟩⟩
  ·intro ρ r37 N37 B hB hBa hp hr hr0
   have p8 : (r37 8) = .agg ⟨(cel (r37 8))⟩ ∧ OP (cases[j].1) (cel (r37 8)) (N37 8) := hp 8 (by decide) rfl
   have p15 : (r37 15) = .agg ⟨(cel (r37 15))⟩ ∧ OT (cases[j].2) (cel (r37 15)) (N37 15) := hp 15 (by decide) rfl
   have q46 : ρ 46 = .agg ⟨(cel (r37 8))⟩ := (hr 8 _ _ (by decide) rfl rfl rfl).trans p8.1
   have q53 : ρ 53 = .agg ⟨(cel (r37 15))⟩ := (hr 15 _ _ (by decide) rfl rfl rfl).trans p15.1
   obtain ⟨ρ57, rfl⟩ := Ze (uc q46 (uc q53 un))
   clear q46 q53
   refine Za (v := .agg ⟨((cel (r37 8))) ++ ((cel (r37 15)))⟩) rfl (Pu.build (pv := [(0, .agg ⟨(cel (r37 8))⟩), (1, .agg ⟨(cel (r37 15))⟩)]) (l := ((cel (r37 8))) ++ ((cel (r37 15)))) rfl (bld34_0_1 p8.2.len p15.2.len)) ?_
   refine Zb ?_
   exact ⟨.agg ⟨((cel (r37 8))) ++ ((cel (r37 15)))⟩, [], rfl, (Sub.emp Sub.refl), rfl⟩
  ·intro ρ r37 N37 B hB hBa hp hr hr0
   have p8 : (r37 8) = .agg ⟨(cel (r37 8))⟩ ∧ OP (cases[j].1) (cel (r37 8)) (N37 8) := hp 8 (by decide) rfl
   have p15 : (r37 15) = .agg ⟨(cel (r37 15))⟩ ∧ OT (cases[j].2) (cel (r37 15)) (N37 15) := hp 15 (by decide) rfl
   have q54 : ρ 54 = .agg ⟨((cel (r37 8))) ++ ((cel (r37 15)))⟩ := (hr 16 _ _ (by decide) rfl rfl rfl).trans (hp 16 (by decide) rfl)
   obtain ⟨ρ58, rfl⟩ := Ze (uc q54 un)
   clear q54
   refine Zd rfl (ZA (vs := [.agg ⟨((cel (r37 8))) ++ ((cel (r37 15)))⟩]) [((cel (r37 8))) ++ ((cel (r37 15)))] Tryz.runUnderlying25 el34 rfl rfl (by intro e he; simp only [List.mem_cons, List.not_mem_nil, or_false] at he; subst he; exact (len_app p8.2.len p15.2.len)) rfl (by decide) fun b59 k59 ho59 hk59 => ?_)
   refine Zb ?_
   exact ⟨.slice (some ⟨b59, 0, none⟩) 1 1, k59, rfl, Sub.refl, ⟨rfl, hk59, ho59⟩⟩
  intro ρ r37 N37 hp hr hr0
  have p8 : (r37 8) = .agg ⟨(cel (r37 8))⟩ ∧ OP (cases[j].1) (cel (r37 8)) (N37 8) := hp 8 (by decide)
  have p15 : (r37 15) = .agg ⟨(cel (r37 15))⟩ ∧ OT (cases[j].2) (cel (r37 15)) (N37 15) := hp 15 (by decide)
  have p17 : (r37 17) = .slice (some ⟨(sblk (r37 17)), 0, none⟩) 1 1 ∧ (N37 17) = [(sblk (r37 17), .cells ⟨List.flatten [((cel (r37 8))) ++ ((cel (r37 15)))]⟩ 34 (0, 0))] ∧ Own 34 71 (.slice (some ⟨(sblk (r37 17)), 0, none⟩) 1 1) [((cel (r37 8))) ++ ((cel (r37 15)))] (N37 17) := hp 17 (by decide)
  have q1 : ρ 1 = .pointer (some ⟨b1, 0, none⟩) := hr0 1 (by kernel_rfl)
  have q2 : ρ 2 = .pointer (some ⟨b2, 0, none⟩) := hr0 2 (by kernel_rfl)
  have q3 : ρ 3 = .pointer (some ⟨b3, 0, none⟩) := hr0 3 (by kernel_rfl)
  have q5 : ρ 5 = .int .i64 ((j : Int)) := hr0 5 (by kernel_rfl)
  have q39 : ρ 39 = w := (hr 1 _ _ (by decide) rfl rfl).trans (hp 1 (by decide))
  have q55 : ρ 55 = .slice (some ⟨(sblk (r37 17)), 0, none⟩) 1 1 := (hr 17 _ _ (by decide) rfl rfl).trans p17.1
  obtain ⟨ρ60, rfl⟩ := Ze (uc q1 (uc q2 (uc q3 (uc q5 (uc q39 (uc q55 un))))))
  clear q1 q2 q3 q5 q39 q55
  have p37_8 := p8; have p37_15 := p15; have p37_17 := p17
  clear hp hr hr0 p8 p15 p17
  refine Zw (M' := [(N37 0), (N37 1), (N37 2), (N37 3), (N37 4), (N37 5), (N37 6), (N37 7), (N37 8), (N37 9), (N37 10), (N37 11), (N37 12), (N37 13), (N37 14), (N37 15), (N37 16), (N37 17), [(b3, .cells ⟨pkT kind num ref v w⟩ 27 (0, 0))], k3, k4, k1, k2, [(b2, .cells ⟨pkT 0 0 zS (.slice none 0 0) (.slice none 0 0)⟩ 27 (0, 0))], [(b1, .cells ⟨pkT kind num ref ks cv⟩ 27 (0, 0))]]) Sub.refl ?_
  refine Zw (M' := [(N37 8), (N37 15), (N37 17), [(b3, .cells ⟨pkT kind num ref v w⟩ 27 (0, 0))], k3, k4, k1, k2, [(b2, .cells ⟨pkT 0 0 zS (.slice none 0 0) (.slice none 0 0)⟩ 27 (0, 0))], [(b1, .cells ⟨pkT kind num ref ks cv⟩ 27 (0, 0))]]) (Sd (Sd (Sd (Sd (Sd (Sd (Sd (Sd (Sk (Sd (Sd (Sd (Sd (Sd (Sd (Sk (Sd (Sk (Sk (Sk (Sk (Sk (Sk (Sk (Sk Sub.nil))))))))))))))))))))))))) ?_
  show JL _ _ _ [_, _, _] _ _ _
  have hlens61 : ∀ e ∈ ([((cel (r37 8))) ++ ((cel (r37 15)))] : List (List Value)), List.length e = 71 := by
   intro e he; simp only [List.mem_cons, List.not_mem_nil, or_false] at he
   rcases he with rfl
   ·exact (len_app p37_8.2.len p37_15.2.len)
  have hoks61 : ∀ e ∈ ([((cel (r37 8))) ++ ((cel (r37 15)))] : List (List Value)), okc e := by
   intro e he; simp only [List.mem_cons, List.not_mem_nil, or_false] at he
   rcases he with rfl
   ·exact (okc_app p37_8.2.ok p37_15.2.ok)
  refine Zd rfl (Runs_append (i := 4) (n := 1) (es' := [((cel (r37 8))) ++ ((cel (r37 15)))]) Tryz.runUnderlying25 Tryz.runUnderlying25 (Or.inl rfl) el34 rfl rfl rfl how (fun F w m => Src.row (((At.k 2 rfl (by rw [p37_17.2.1]; exact List.mem_cons_self))).heap m) (Zy (flatten_len hlens61))) rfl hlens61 hoks61 (by decide) (by omega) fun v61 k61 ho61 => ?_)
  refine Za (v := .pointer (some ⟨b3, 35, none⟩)) rfl (fa27_4 rfl rfl) ?_
  refine Zd rfl (Zi 3 (vs := [v61]) (l := pkT kind num ref v v61) ty25 rfl rfl rfl (cells_one ho61.one) rfl (Zp ho61.one Zz) (pkT_s35 ..) ?_)
  refine Zb ?_
  refine Zc ?_
  refine Za (v := .int .i64 ((j : Int))) rfl (Pu.move rfl) ?_
  refine Za (v := .int .i64 (((j + 1 : Nat) : Int))) rfl (Pu.inc rfl rfl (by omega)) ?_
  refine Za (v := .int .i64 (((j + 1 : Nat) : Int))) rfl (Pu.assign rfl) ?_
  refine Zb ?_
  refine ⟨_, ?_, (j + 1), v61, (es2 ++ [((cel (r37 8))) ++ ((cel (r37 15)))]), k61, (k4 ++ (((N37 8)) ++ ((N37 15)))), rfl, rfl, rfl, rfl, (Sub.cons 3 rfl (Sub.cons 3 rfl (Sub.join3 (Sub.cons 3 rfl (Sk (Sk (Sd (Sk (Sk (Sk (Sk Sub.nil))))))))))), ?_, ?_, ?_, rfl⟩
  ·omega
  ·omega
  ·assumption
  rw [List.take_succ_eq_append_getElem h36n]; exact OCs.snoc p37_8.2 p37_15.2 hopw
 replace h36 := df h36
 have h36n : cases.length ≤ j := by omega
 refine J_exit _ rfl ?_
 refine Zg (Zc ?_)
 refine Zd rfl (Zj Zt rfl (At.bx 0 rfl) (pkT_a ..) ?_)
 refine Zd rfl (Zi 5 (vs := pkT kind num ref v w) (l := pkT kind num ref v w) Zt rfl rfl rfl rfl rfl (pkT_ok hov.one how.one) (pkT_s ..) ?_)
 refine Zb ?_
 refine Zo ?_
 refine ⟨.agg ⟨pkT kind num ref v w⟩, [k1 ++ (k2 ++ (k3 ++ k4))], Ret.one rfl (RV.cell Zt rfl (At.bx 5 rfl) (pkT_a ..)), (Sub.join4 (Sd (Sub.cons 2 rfl (Sub.cons 2 rfl (Sk (Sk Sub.nil)))))), ?_⟩
 rw [List.take_of_length_le h36n] at hopw
 exact ⟨_, _, rfl, rfl, OT_mk.2 ⟨v, w, es, es2, k1, k2, k3, k4, rfl, hk, hn, hov, hopv, how, hopw, rfl, hks.le, hcv.le⟩⟩
theorem atR_ct (t : Tm) (path : List Int) (cs : List Value) (pv : Value) (H : Heap) (ht : RT H cs t) (hp : Hs.rdS RI 1 H pv path) (hpi : ∀ n ∈ path, inI n) (hz : sizeT t ≤ 1000000) : CT Tryz.prog 27 ⟨[.agg ⟨cs⟩, pv]⟩ [] H (fun v N => ∃ cs k, v = .tuple ⟨[.agg ⟨cs⟩, .int .i64 (atR t path).2]⟩ ∧ N = [k] ∧ OT (atR t path).1 cs k) := by
 refine Zr Tryz.func27 rfl rfl ?_
 refine Zg (Zc ?_)
 refine Zd rfl (Zx (l := cs) rfl rfl fun b1 => ?_)
 refine Zd rfl (Zn (l := pkT 0 0 zS (.slice none 0 0) (.slice none 0 0)) Tryz.zeroValue27 rfl fun b2 => ?_)
 refine Za (v := .int .i64 0) rfl (Pu.assign rfl) ?_
 refine Zb ?_
 refine Zg ?_
 refine Zg (Zc ?_)
 refine Za (v := .int .i64 0) rfl (Pu.assign rfl) ?_
 refine Zb ?_
 refine Zs ?_
 refine J_loop (fun k ρ M => ∃ (j : Nat) (x : Tm) (xc : List Value), ρ 1 = pv ∧ ρ 2 = .pointer (some ⟨b1, 0, none⟩) ∧ ρ 4 = .pointer (some ⟨b2, 0, none⟩) ∧ ρ 5 = .int .i64 0 ∧ ρ 6 = .int .i64 ((j : Int)) ∧ Sub [[(b1, .cells ⟨xc⟩ 27 (0, 0))], [(b2, .cells ⟨pkT 0 0 zS (.slice none 0 0) (.slice none 0 0)⟩ 27 (0, 0))]] M ∧ j ≤ path.length ∧ RT H xc x ∧ atT x (path.drop j) = atT t path ∧ sizeT x ≤ sizeT t ∧ (vOK t → vOK x) ∧ (tidy t → tidy x) ∧ k = path.length - j) _ ⟨0, t, cs, rfl, rfl, rfl, rfl, rfl, (Sub.cons 1 rfl (Sk Sub.nil)), Nat.zero_le _, ht, rfl, Nat.le_refl _, id, id, rfl⟩ ?_
 rintro _ ρ3 _ ⟨j, x, xc, e4, e5, e6, e7, e8, hm9, hj, hx, hinv, hsz, hvx, htx, rfl⟩
 obtain ⟨ρ10, rfl⟩ := Ze (uc e4 (uc e5 (uc e6 (uc e7 (uc e8 un)))))
 clear e4 e5 e6 e7 e8
 refine J_sub hm9 ?_
 refine Zg ?_
 refine Zg (Zc ?_)
 refine Za (v := .int .i64 ((j : Int))) rfl (Pu.move rfl) ?_
 refine Za (v := pv) rfl (Pu.move rfl) ?_
 obtain ⟨a11, cap11, hv11⟩ := hp.sl
 have hle11 := hp.le
 refine Za (v := .int .i64 ((path.length : Int))) rfl (Pu.lenSl Tryz.runUnderlying43 hv11) ?_
 refine Za (v := .bool (decide ((j : Int) < (path.length : Int)))) rfl (Pu.lss rfl rfl) ?_
 refine Zb ?_
 refine Zl (b := decide ((j : Int) < (path.length : Int))) rfl (fun h12 => ?_) (fun h12 => ?_)
 ·replace h12 := dt h12
  have h12n : j < path.length := by omega
  obtain ⟨xks, xcv, rfl, hxk, hxn, hxks, hxcv⟩ := RT_open hx
  have hpj := hpi _ (List.getElem_mem h12n)
  unfold inI at hpj
  have hxl := hxks.le
  refine Zq ?_
  refine Zg ?_
  refine Zs ?_
  refine Zg (Zc ?_)
  refine Za (v := pv) rfl (Pu.move rfl) ?_
  refine Za (v := .int .i64 ((j : Int))) rfl (Pu.move rfl) ?_
  obtain ⟨b13, o13, cap13, row13, T13, fr13, cs13, hv13, hb13, hs13, hE13⟩ := hp.get j (by first | assumption | omega | decide | simp)
  refine Za (v := .pointer (some ⟨b13, o13 + j * 1, none⟩)) rfl (Pu.idx j Tryz.runUnderlying43 ty3 hv13 rfl rfl (by first | assumption | omega | decide | simp)) ?_
  refine Zd rfl (Zh ty3 rfl (At.im hb13) (sub_one ((show cs13 = [Value.int .i64 (path[j])] from hE13) ▸ hs13)) ?_)
  refine Za (v := .int .i64 (path[j])) rfl (Pu.assign rfl) ?_
  refine Zb ?_
  refine Zs ?_
  refine J_cut (fun ρ M => ρ 1 = pv ∧ ρ 2 = .pointer (some ⟨b1, 0, none⟩) ∧ ρ 4 = .pointer (some ⟨b2, 0, none⟩) ∧ ρ 5 = .int .i64 0 ∧ ρ 6 = .int .i64 ((j : Int)) ∧ ρ 7 = .int .i64 (path[j]) ∧ ρ 19 = .bool ((decide (0 ≤ path[j])) && (decide (path[j] < ((x.kids).length : Int)))) ∧ M = [[(b1, .cells ⟨pkT (x.kind) (x.num) (x.ref) xks xcv⟩ 27 (0, 0))], [(b2, .cells ⟨pkT 0 0 zS (.slice none 0 0) (.slice none 0 0)⟩ 27 (0, 0))]]) ?_ ?_
  ·refine Zc ?_
   refine Za (v := .int .i64 (path[j])) rfl (Pu.move rfl) ?_
   refine Za (v := .bool (decide (0 ≤ path[j]))) rfl (Pu.geq rfl rfl) ?_
   refine Za (v := .bool (decide (0 ≤ path[j]))) rfl (Pu.move rfl) ?_
   cases h14 : (decide (0 ≤ path[j])) with
   | true =>
    replace h14 := dt h14
    refine Za (v := .int .i64 (path[j])) rfl (Pu.move rfl) ?_
    refine Za (v := .pointer (some ⟨b1, 34, none⟩)) rfl (fa27_3 rfl rfl) ?_
    refine Zd rfl (Zh ty24 rfl (At.bx 0 rfl) (pkT_34 ..) ?_)
    obtain ⟨a15, cap15, hv15⟩ := hxks.sl
    have hle15 := hxks.le
    refine Za (v := .int .i64 (((x.kids).length : Int))) rfl (Pu.lenSl Tryz.runUnderlying24 hv15) ?_
    refine Za (v := .bool (decide (path[j] < ((x.kids).length : Int)))) rfl (Pu.lss rfl rfl) ?_
    refine Za (v := .bool (decide (path[j] < ((x.kids).length : Int)))) rfl (Pu.pickT rfl rfl) ?_
    refine Za (v := .bool (decide (path[j] < ((x.kids).length : Int)))) rfl (Pu.assign rfl) ?_
    refine Zb ?_
    first | exact ⟨rfl, rfl, rfl, rfl, rfl, rfl, rfl, rfl⟩ | (exfalso; omega)
   | false =>
    replace h14 := df h14
    refine Zf rfl ?_
    refine Zf rfl ?_
    refine Zf rfl ?_
    refine Zf rfl ?_
    refine Zf rfl ?_
    refine Za (v := .bool false) rfl (Pu.pickF rfl rfl) ?_
    refine Za (v := .bool false) rfl (Pu.assign rfl) ?_
    refine Zb ?_
    first | exact ⟨rfl, rfl, rfl, rfl, rfl, rfl, rfl, rfl⟩ | (exfalso; omega)
  rintro ρ16 _ ⟨e17, e18, e19, e20, e21, e22, e23, rfl⟩
  obtain ⟨ρ24, rfl⟩ := Ze (uc e17 (uc e18 (uc e19 (uc e20 (uc e21 (uc e22 (uc e23 un)))))))
  clear e17 e18 e19 e20 e21 e22 e23
  refine Zl (b := (decide (0 ≤ path[j])) && (decide (path[j] < ((x.kids).length : Int)))) rfl (fun h25 => ?_) (fun h25 => ?_)
  ·obtain ⟨h25a, h25b⟩ := andT h25
   replace h25a := dt h25a
   replace h25b := dt h25b
   refine Zc ?_
   refine Za (v := .pointer (some ⟨b1, 34, none⟩)) rfl (fa27_3 rfl rfl) ?_
   refine Zd rfl (Zh ty24 rfl (At.bx 0 rfl) (pkT_34 ..) ?_)
   refine Za (v := .int .i64 (path[j])) rfl (Pu.move rfl) ?_
   obtain ⟨b26, o26, cap26, row26, T26, fr26, cs26, hv26, hb26, hs26, hE26⟩ := hxks.get (path[j]).toNat (by first | assumption | omega | decide | simp)
   refine Za (v := .pointer (some ⟨b26, o26 + (path[j]).toNat * 36, none⟩)) rfl (Pu.idx (path[j]).toNat Tryz.runUnderlying24 Zt hv26 rfl (by first | rfl | omega) (by first | assumption | omega | decide | simp)) ?_
   refine Zd rfl (Zj Zt rfl (At.im hb26) hs26 ?_)
   refine Zd rfl (Zi 0 (vs := cs26) (l := cs26) Zt rfl rfl rfl rfl (Zv hE26) (RT_ok hE26) (spl_a (n := 36) rfl (Zv hE26)) ?_)
   refine Zb ?_
   refine Zc ?_
   refine Za (v := .int .i64 ((j : Int))) rfl (Pu.move rfl) ?_
   refine Za (v := .int .i64 (((j + 1 : Nat) : Int))) rfl (Pu.inc rfl rfl (by omega)) ?_
   refine Za (v := .int .i64 (((j + 1 : Nat) : Int))) rfl (Pu.assign rfl) ?_
   refine Zb ?_
   refine ⟨_, ?_, (j + 1), (x.kids)[(path[j]).toNat], cs26, rfl, rfl, rfl, rfl, rfl, (Sk (Sk Sub.nil)), ?_, ?_, ?_, ?_, ?_, ?_, rfl⟩
   ·omega
   ·omega
   ·exact hE26
   ·have hpk := (part_kid (t := x) (k := path[j]) (by omega) (by omega)); rw [dropc h12n, atT_some hpk] at hinv; exact hinv
   ·have hpk := part_size (part_kid (t := x) (k := path[j]) (by omega) (by omega)); exact Nat.le_trans hpk.1 hsz
   ·have hpk := part_size (part_kid (t := x) (k := path[j]) (by omega) (by omega)); exact fun q => hpk.2.1 (hvx q)
   have hpk := part_size (part_kid (t := x) (k := path[j]) (by omega) (by omega)); exact fun q => hpk.2.2 (htx q)
  refine J_cut (fun ρ M => ρ 1 = pv ∧ ρ 2 = .pointer (some ⟨b1, 0, none⟩) ∧ ρ 4 = .pointer (some ⟨b2, 0, none⟩) ∧ ρ 5 = .int .i64 0 ∧ ρ 6 = .int .i64 ((j : Int)) ∧ ρ 7 = .int .i64 (path[j]) ∧ ρ 34 = .bool ((decide (((x.kids).length : Int) ≤ path[j])) && (decide (path[j] - (((x.kids).length : Int)) < ((x.cases).length : Int)))) ∧ M = [[(b1, .cells ⟨pkT (x.kind) (x.num) (x.ref) xks xcv⟩ 27 (0, 0))], [(b2, .cells ⟨pkT 0 0 zS (.slice none 0 0) (.slice none 0 0)⟩ 27 (0, 0))]]) ?_ ?_
  ·refine Zc ?_
   refine Za (v := .int .i64 (path[j])) rfl (Pu.move rfl) ?_
   refine Za (v := .pointer (some ⟨b1, 34, none⟩)) rfl (fa27_3 rfl rfl) ?_
   refine Zd rfl (Zh ty24 rfl (At.bx 0 rfl) (pkT_34 ..) ?_)
   obtain ⟨a27, cap27, hv27⟩ := hxks.sl
   have hle27 := hxks.le
   refine Za (v := .int .i64 (((x.kids).length : Int))) rfl (Pu.lenSl Tryz.runUnderlying24 hv27) ?_
   refine Za (v := .bool (decide (((x.kids).length : Int) ≤ path[j]))) rfl (Pu.geq rfl rfl) ?_
   refine Za (v := .bool (decide (((x.kids).length : Int) ≤ path[j]))) rfl (Pu.move rfl) ?_
   cases h28 : (decide (((x.kids).length : Int) ≤ path[j])) with
   | true =>
    replace h28 := dt h28
    refine Za (v := .int .i64 (path[j])) rfl (Pu.move rfl) ?_
    refine Za (v := .pointer (some ⟨b1, 34, none⟩)) rfl (fa27_3 rfl rfl) ?_
    refine Zd rfl (Zh ty24 rfl (At.bx 0 rfl) (pkT_34 ..) ?_)
    obtain ⟨a29, cap29, hv29⟩ := hxks.sl
    have hle29 := hxks.le
    refine Za (v := .int .i64 (((x.kids).length : Int))) rfl (Pu.lenSl Tryz.runUnderlying24 hv29) ?_
    refine Za (v := .int .i64 (path[j] - (((x.kids).length : Int)))) rfl (Pu.sub64 rfl rfl (by first | omega | (constructor <;> omega))) ?_
    refine Za (v := .pointer (some ⟨b1, 35, none⟩)) rfl (fa27_4 rfl rfl) ?_
    refine Zd rfl (Zh ty25 rfl (At.bx 0 rfl) (pkT_35 ..) ?_)
    obtain ⟨a30, cap30, hv30⟩ := hxcv.sl
    have hle30 := hxcv.le
    refine Za (v := .int .i64 (((x.cases).length : Int))) rfl (Pu.lenSl Tryz.runUnderlying25 hv30) ?_
    refine Za (v := .bool (decide (path[j] - (((x.kids).length : Int)) < ((x.cases).length : Int)))) rfl (Pu.lss rfl rfl) ?_
    refine Za (v := .bool (decide (path[j] - (((x.kids).length : Int)) < ((x.cases).length : Int)))) rfl (Pu.pickT rfl rfl) ?_
    refine Za (v := .bool (decide (path[j] - (((x.kids).length : Int)) < ((x.cases).length : Int)))) rfl (Pu.assign rfl) ?_
    refine Zb ?_
    first | exact ⟨rfl, rfl, rfl, rfl, rfl, rfl, rfl, rfl⟩ | (exfalso; omega)
   | false =>
    replace h28 := df h28
    refine Zf rfl ?_
    refine Zf rfl ?_
    refine Zf rfl ?_
    refine Zf rfl ?_
    refine Zf rfl ?_
    refine Zf rfl ?_
    refine Zf rfl ?_
    refine Zf rfl ?_
    refine Zf rfl ?_
    refine Za (v := .bool false) rfl (Pu.pickF rfl rfl) ?_
    refine Za (v := .bool false) rfl (Pu.assign rfl) ?_
    refine Zb ?_
    first | exact ⟨rfl, rfl, rfl, rfl, rfl, rfl, rfl, rfl⟩ | (exfalso; omega)
  rintro ρ31 _ ⟨e32, e33, e34, e35, e36, e37, e38, rfl⟩
  obtain ⟨ρ39, rfl⟩ := Ze (uc e32 (uc e33 (uc e34 (uc e35 (uc e36 (uc e37 (uc e38 un)))))))
  clear e32 e33 e34 e35 e36 e37 e38
  refine Zl (b := (decide (((x.kids).length : Int) ≤ path[j])) && (decide (path[j] - (((x.kids).length : Int)) < ((x.cases).length : Int)))) rfl (fun h40 => ?_) (fun h40 => ?_)
  ·obtain ⟨h40a, h40b⟩ := andT h40
   replace h40a := dt h40a
   replace h40b := dt h40b
   refine Zc ?_
   refine Za (v := .pointer (some ⟨b1, 35, none⟩)) rfl (fa27_4 rfl rfl) ?_
   refine Zd rfl (Zh ty25 rfl (At.bx 0 rfl) (pkT_35 ..) ?_)
   refine Za (v := .int .i64 (path[j])) rfl (Pu.move rfl) ?_
   refine Za (v := .pointer (some ⟨b1, 34, none⟩)) rfl (fa27_3 rfl rfl) ?_
   refine Zd rfl (Zh ty24 rfl (At.bx 0 rfl) (pkT_34 ..) ?_)
   obtain ⟨a41, cap41, hv41⟩ := hxks.sl
   have hle41 := hxks.le
   refine Za (v := .int .i64 (((x.kids).length : Int))) rfl (Pu.lenSl Tryz.runUnderlying24 hv41) ?_
   refine Za (v := .int .i64 (path[j] - (((x.kids).length : Int)))) rfl (Pu.sub64 rfl rfl (by first | omega | (constructor <;> omega))) ?_
   obtain ⟨b42, o42, cap42, row42, T42, fr42, cs42, hv42, hb42, hs42, hE42⟩ := hxcv.get (path[j] - (((x.kids).length : Int))).toNat (by first | assumption | omega | decide | simp)
   obtain ⟨ca42, cb42, rfl, hA42, hB42⟩ := hE42
   refine Za (v := .pointer (some ⟨b42, o42 + (path[j] - (((x.kids).length : Int))).toNat * 71, none⟩)) rfl (Pu.idx (path[j] - (((x.kids).length : Int))).toNat Tryz.runUnderlying25 ty34 hv42 rfl (by first | rfl | omega) (by first | assumption | omega | decide | simp)) ?_
   refine Za (v := .pointer (some ⟨b42, o42 + (path[j] - (((x.kids).length : Int))).toNat * 71 + 35, none⟩)) rfl (fa34_1 rfl rfl) ?_
   refine Zd rfl (Zj Zt rfl (At.im hb42) (sub_sub hs42 (sub_r (RP_len hA42) (Zv hB42))) ?_)
   refine Zd rfl (Zi 0 (vs := cb42) (l := cb42) Zt rfl rfl rfl rfl (Zv hB42) (RT_ok hB42) (spl_a (n := 36) rfl (Zv hB42)) ?_)
   refine Zb ?_
   refine Zc ?_
   refine Za (v := .int .i64 ((j : Int))) rfl (Pu.move rfl) ?_
   refine Za (v := .int .i64 (((j + 1 : Nat) : Int))) rfl (Pu.inc rfl rfl (by omega)) ?_
   refine Za (v := .int .i64 (((j + 1 : Nat) : Int))) rfl (Pu.assign rfl) ?_
   refine Zb ?_
   refine ⟨_, ?_, (j + 1), (x.cases)[(path[j] - (((x.kids).length : Int))).toNat].2, cb42, rfl, rfl, rfl, rfl, rfl, (Sk (Sk Sub.nil)), ?_, ?_, ?_, ?_, ?_, ?_, rfl⟩
   ·omega
   ·omega
   ·exact hB42
   ·have hpk := (part_case (t := x) (k := path[j]) (by omega) (by omega)); rw [dropc h12n, atT_some hpk] at hinv; exact hinv
   ·have hpk := part_size (part_case (t := x) (k := path[j]) (by omega) (by omega)); exact Nat.le_trans hpk.1 hsz
   ·have hpk := part_size (part_case (t := x) (k := path[j]) (by omega) (by omega)); exact fun q => hpk.2.1 (hvx q)
   have hpk := part_size (part_case (t := x) (k := path[j]) (by omega) (by omega)); exact fun q => hpk.2.2 (htx q)
  refine Zg (Zc ?_)
  refine Za (v := .agg ⟨pkT 0 0 zS (.slice none 0 0) (.slice none 0 0)⟩) rfl (Pu.build (pv := []) (l := pkT 0 0 zS (.slice none 0 0) (.slice none 0 0)) rfl (bld27_ )) ?_
  refine Zd rfl (Zi 1 (vs := pkT 0 0 zS (.slice none 0 0) (.slice none 0 0)) (l := pkT 0 0 zS (.slice none 0 0) (.slice none 0 0)) Zt rfl rfl rfl rfl rfl (pkT_ok rfl rfl) (pkT_s ..) ?_)
  refine Za (v := .int .i64 1) rfl (Pu.assign rfl) ?_
  refine Zb ?_
  refine Zo ?_
  refine ⟨.tuple ⟨[.agg ⟨pkT 0 0 zS (.slice none 0 0) (.slice none 0 0)⟩, .int .i64 1]⟩, [[]], Ret.two rfl (RV.cell Zt rfl (At.bx 1 rfl) (pkT_a ..)) (RV.tmp rfl), (Sub.emp Sub.nil), ?_⟩
  have hpn := part_none (t := x) (k := path[j]) (by clear hinv; rintro ⟨q1, q2⟩; simp_all) (by clear hinv; rintro ⟨q1, q2⟩; simp_all)
  have hx2 : atR t path = (zT, 1) := by rw [dropc h12n, atT_none hpn] at hinv; rw [atR, ← hinv]
  exact ⟨_, _, by rw [hx2], rfl, by rw [hx2]; exact OT_zero⟩
 replace h12 := df h12
 have h12n : path.length ≤ j := by omega
 refine J_exit _ rfl ?_
 refine Zg (Zc ?_)
 refine Zd rfl (Zj Zt rfl (At.bx 0 rfl) (Zy (Zv hx)) ?_)
 refine Zk rfl Tryz.call66 rfl (fun hin => ownR_ct _ _ _ (RT.mono (Hle.hu _ _) hx) (by omega)) rfl ?_
 rintro _ _ ⟨cs43, k43, rfl, rfl, hO43⟩
 refine Zd rfl (Zi 2 (vs := cs43) (l := cs43) Zt rfl rfl rfl rfl hO43.len hO43.ok (spl_a (n := 36) rfl hO43.len) ?_)
 refine Za (v := .int .i64 0) rfl (Pu.assign rfl) ?_
 refine Zb ?_
 refine Zo ?_
 refine ⟨.tuple ⟨[.agg ⟨cs43⟩, .int .i64 0]⟩, [k43], Ret.two rfl (RV.cell Zt rfl (At.bx 2 rfl) (Zy hO43.len)) (RV.tmp rfl), (Sk Sub.nil), ?_⟩
 have hx2 : atR t path = (x, 0) := by rw [dropn h12n] at hinv; rw [atR, ← hinv]; rfl
 exact ⟨_, _, by rw [hx2], rfl, by rw [hx2]; exact hO43⟩
end Go.Proofs.YtdeinimmmjichaaGreat.Hs
/-! Walks, printed by a program of this session's own (gen.py). -/
namespace Go.Proofs.YtdeinimmmjichaaGreat.Hs
open Go Go.Proofs
set_option maxRecDepth 100000
set_option linter.unusedVariables false
set_option linter.unusedSimpArgs false
attribute [local irreducible] JL J CT wlo
set_option maxHeartbeats 4000000 in
theorem putP_ct : ∀ (N : Nat) (l : List Int) (v : Value) (t u : Tm) (cs us : List Value) (k ku : Zm) (H : Heap), l.length = N → pathR H v l → (∀ n ∈ l, inI n) → OT t cs k → OT u us ku → CT Tryz.prog 70 ⟨[.agg ⟨cs⟩, v, .agg ⟨us⟩]⟩ [k ++ ku] H (fun r M => ∃ cs' k', r = .tuple ⟨[.agg ⟨cs'⟩, .bool (setP l t u).2]⟩ ∧ M = [k'] ∧ OT (setP l t u).1 cs' k') := by
 intro N
 induction N using Nat.strongRecOn with
 | _ N ih =>
 intro l v t u cs us k ku H hN hpr hpi hO hU
 obtain ⟨kind, num, ref, kids, cases⟩ := t
 obtain ⟨ks, cv, es, es', k1, k2, k3, k4, rfl, hk, hn, ho1, ho2, ho3, ho4, rfl, hlK, hlC⟩ := OT_mk.1 hO
 have hl0 : ∀ (q : 0 < l.length), -9223372036854775808 ≤ l[0] ∧ l[0] ≤ 9223372036854775807 := fun q => hpi _ (List.getElem_mem q)
 refine Zr Tryz.func70 rfl rfl ?_
 refine J_sub (M' := [k1, k2, k3, k4, ku]) (Sub.flat Sub.refl (by simp)) ?_
 refine Zg (Zc ?_)
 refine Zd rfl (Zx (l := pkT kind num ref ks cv) rfl rfl fun b1 => ?_)
 refine Zd rfl (Zx (l := us) rfl rfl fun b2 => ?_)
 refine Zd rfl (Zn (l := pkT 0 0 zS (.slice none 0 0) (.slice none 0 0)) Tryz.zeroValue27 rfl fun b3 => ?_)
 refine Za (v := .bool false) rfl (Pu.assign rfl) ?_
 refine Zb ?_
 refine Zg ?_
 refine Zg (Zc ?_)
 refine Za (v := v) rfl (Pu.move rfl) ?_
 obtain ⟨a4, cap4, hv4⟩ := hpr.rd.sl
 have hle4 := hpr.rd.le
 refine Za (v := .int .i64 ((l.length : Int))) rfl (Pu.lenSl Tryz.runUnderlying43 hv4) ?_
 refine Za (v := .bool (decide ((l.length : Int) = 0))) rfl (Pu.eql rfl rfl) ?_
 refine Zb ?_
 refine Zl (b := decide ((l.length : Int) = 0)) rfl (fun h5 => ?_) (fun h5 => ?_)
 ·replace h5 := dt h5
  refine Zg (Zc ?_)
  refine Zd rfl (Zj Zt rfl (At.bx 1 rfl) (Zy hU.len) ?_)
  refine Zd rfl (Zi 0 (vs := us) (l := us) Zt rfl rfl rfl rfl hU.len hU.ok (spl_a (n := 36) rfl hU.len) ?_)
  refine Za (v := .bool true) rfl (Pu.assign rfl) ?_
  refine Zb ?_
  refine Zo ?_
  refine ⟨.tuple ⟨[.agg ⟨us⟩, .bool true]⟩, [ku], Ret.two rfl (RV.cell Zt rfl (At.bx 0 rfl) (Zy hU.len)) (RV.tmp rfl), (Sd (Sd (Sd (Sd (Sd (Sd (Sd (Sk Sub.nil)))))))), ?_⟩
  obtain rfl : l = [] := List.eq_nil_of_length_eq_zero (by omega)
  exact ⟨_, _, rfl, rfl, hU⟩
 replace h5 := df h5
 refine Zq ?_
 refine Zg (Zc ?_)
 refine Za (v := v) rfl (Pu.move rfl) ?_
 obtain ⟨b6, o6, cap6, row6, T6, fr6, cs6, hv6, hb6, hs6, hE6⟩ := hpr.rd.get 0 (by first | assumption | omega | decide | simp)
 refine Za (v := .pointer (some ⟨b6, o6 + 0 * 1, none⟩)) rfl (Pu.idx 0 Tryz.runUnderlying43 ty3 hv6 rfl rfl (by first | assumption | omega | decide | simp)) ?_
 refine Zd rfl (Zh ty3 rfl (At.im hb6) (sub_one ((show cs6 = [Value.int .i64 (l[0])] from hE6) ▸ hs6)) ?_)
 refine Za (v := .int .i64 (l[0])) rfl (Pu.assign rfl) ?_
 refine Za (v := .bool false) rfl (Pu.assign rfl) ?_
 refine Zb ?_
 refine Zg ?_
 refine Zs ?_
 refine Zg (Zc ?_)
 refine Za (v := .int .i64 (l[0])) rfl (Pu.move rfl) ?_
 refine Za (v := .bool (decide (l[0] < 0))) rfl (Pu.lss rfl rfl) ?_
 refine Za (v := .bool (decide (l[0] < 0))) rfl (Pu.assign rfl) ?_
 refine Zb ?_
 refine Zl (b := decide (l[0] < 0)) rfl (fun h7 => ?_) (fun h7 => ?_)
 ·replace h7 := dt h7
  refine Zq ?_
  refine Zg (Zc ?_)
  refine Zd rfl (Zj Zt rfl (At.bx 2 rfl) (pkT_a ..) ?_)
  refine Za (v := .bool false) rfl (Pu.move rfl) ?_
  refine Zd rfl (Zi 0 (vs := pkT kind num ref ks cv) (l := pkT kind num ref ks cv) Zt rfl rfl rfl rfl rfl (pkT_ok ho1.one ho3.one) (pkT_s ..) ?_)
  refine Za (v := .bool false) rfl (Pu.assign rfl) ?_
  refine Zb ?_
  refine Zo ?_
  refine ⟨.tuple ⟨[.agg ⟨pkT kind num ref ks cv⟩, .bool false]⟩, [k1 ++ (k2 ++ (k3 ++ k4))], Ret.two rfl (RV.cell Zt rfl (At.bx 0 rfl) (pkT_a ..)) (RV.tmp rfl), (Sub.join4 (Sd (Sd (Sd (Sk (Sk (Sk (Sk Sub.nil)))))))), ?_⟩
  have hs := setP_pos (l := l) (by omega) kind num ref kids cases u
  have hs2 : setP l (.mk kind num ref kids cases) u = (.mk kind num ref kids cases, false) := by rw [hs]; (repeat' split) <;> first | rfl | omega
  exact ⟨_, _, by rw [hs2], rfl, by rw [hs2]; exact hO⟩
 replace h7 := df h7
 refine Zg (Zc ?_)
 refine Za (v := .int .i64 (l[0])) rfl (Pu.move rfl) ?_
 refine Za (v := .pointer (some ⟨b1, 34, none⟩)) rfl (fa27_3 rfl rfl) ?_
 refine Zd rfl (Zh ty24 rfl (At.bx 2 rfl) (pkT_34 ..) ?_)
 obtain ⟨a8, cap8, hv8⟩ := ho1.sl
 rw [(OTs_len ho2)] at hv8
 refine Za (v := .int .i64 ((kids.length : Int))) rfl (Pu.lenSl Tryz.runUnderlying24 hv8) ?_
 refine Za (v := .bool (decide (l[0] < (kids.length : Int)))) rfl (Pu.lss rfl rfl) ?_
 refine Za (v := .bool (decide (l[0] < (kids.length : Int)))) rfl (Pu.assign rfl) ?_
 refine Zb ?_
 refine Zl (b := decide (l[0] < (kids.length : Int))) rfl (fun h9 => ?_) (fun h9 => ?_)
 ·replace h9 := dt h9
  have hj_ : (l[0]).toNat < kids.length := by omega
  obtain ⟨e5_, kb_, c5_, hE5_, hOb_, hP5_, hR5_⟩ := OTs.pick ho2 hj_
  refine J_sub (M' := [kb_ ++ c5_, [(b3, .cells ⟨pkT 0 0 zS (.slice none 0 0) (.slice none 0 0)⟩ 27 (0, 0))], [(b2, .cells ⟨us⟩ 27 (0, 0))], [(b1, .cells ⟨pkT kind num ref ks cv⟩ 27 (0, 0))], k1, k3, k4, ku]) (Sub.rep (Sub.cons 4 rfl (Sk (Sk (Sk (Sk (Sk (Sk (Sk Sub.nil)))))))) hP5_) ?_
  refine J_sub (M' := [kb_, c5_, [(b3, .cells ⟨pkT 0 0 zS (.slice none 0 0) (.slice none 0 0)⟩ 27 (0, 0))], [(b2, .cells ⟨us⟩ 27 (0, 0))], [(b1, .cells ⟨pkT kind num ref ks cv⟩ 27 (0, 0))], k1, k3, k4, ku]) (Sub.flat Sub.refl (by simp)) ?_
  refine J_sub (M' := [k1 ++ (kb_ ++ ku), c5_, [(b3, .cells ⟨pkT 0 0 zS (.slice none 0 0) (.slice none 0 0)⟩ 27 (0, 0))], [(b2, .cells ⟨us⟩ 27 (0, 0))], [(b1, .cells ⟨pkT kind num ref ks cv⟩ 27 (0, 0))], k3, k4]) (Sub.join3 (Sub.cons 5 rfl (Sk (Sub.cons 6 rfl (Sk (Sk (Sk (Sk (Sk (Sk Sub.nil)))))))))) ?_
  obtain ⟨b11, cap11, row11, hv11, hm11, hs11⟩ := ho1.at' hE5_; rw [OTs_len ho2] at hv11
  refine J_drawM mixed #[0, 1, 0, 0, 8, 0, 56, 120, 0, 256, 0, 2040, 4088, 8184, 8184, 16383, 49151, 131071] 17 0 [11, 16] rfl (by kernel_rfl) (by decide) rfl (by kernel_rfl) (fun i r10 N10 => match i with | 0 => (r10 0) = .pointer (some ⟨b1, 34, none⟩) | 1 => (r10 1) = ks | 2 => (r10 2) = .int .i64 (l[0]) | 3 => (r10 3) = .pointer (some ⟨b1, 34, none⟩) | 4 => (r10 4) = ks | 5 => (r10 5) = .int .i64 (l[0]) | 6 => (r10 6) = .pointer (some ⟨b11, 0 + (l[0]).toNat * 36, none⟩) | 7 => (r10 7) = .agg ⟨e5_⟩ | 8 => (r10 8) = v | 9 => ∀ h, pathR h v l → pathR h (r10 9) l.tail | 10 => (r10 10) = .agg ⟨us⟩ | 11 => (r10 11) = .tuple ⟨[.agg ⟨(ZC (r10 11))⟩, .bool (((setP l.tail kids[(l[0]).toNat] u)).2)]⟩ ∧ ((ZC (r10 11))).length = 36 ∧ okc ((ZC (r10 11))) ∧ ∃ kM, (N10 11) = k1 ++ kM ∧ OT ((setP l.tail kids[(l[0]).toNat] u)).1 ((ZC (r10 11))) kM | 12 => (r10 12) = .tuple ⟨[.agg ⟨(ZC (r10 11))⟩, .bool (((setP l.tail kids[(l[0]).toNat] u)).2)]⟩ | 13 => (r10 13) = .agg ⟨(ZC (r10 11))⟩ | 14 => (r10 14) = .bool (((setP l.tail kids[(l[0]).toNat] u)).2) | 15 => (r10 15) = .pointer (some ⟨b11, 0 + (l[0]).toNat * 36, none⟩) | 16 => ∃ kR kS, (N10 16) = kR ++ kS ∧ Own 27 36 ks (es.set ((l[0]).toNat) ((ZC (r10 11)))) kR ∧ OT ((setP l.tail kids[(l[0]).toNat] u)).1 ((ZC (r10 11))) kS | _ => True) ⟨?_, ?_, ?_, ?_, ?_, ?_, ?_, ?_, ?_, ?_, ?_, ?_, ?_, ?_, ?_, ?_, ?_, trivial⟩ ?_
  ·intro ρ r10 N10 B hB hBa hBb hp hr hr0
   have q3 : ρ 3 = .pointer (some ⟨b1, 0, none⟩) := hr0 3 (by kernel_rfl)
   obtain ⟨ρ12, rfl⟩ := Ze (uc q3 un)
   clear q3
   refine Za (v := .pointer (some ⟨b1, 34, none⟩)) rfl (fa27_3 rfl rfl) ?_
   refine Zb ?_
   exact ⟨.pointer (some ⟨b1, 34, none⟩), [], rfl, (Sub.emp Sub.refl), rfl⟩
  ·intro ρ r10 N10 B hB hBa hBb hp hr hr0
   have p0 : (r10 0) = .pointer (some ⟨b1, 34, none⟩) := hp 0 (by decide) rfl
   have q28 : ρ 28 = .pointer (some ⟨b1, 34, none⟩) := (hr 0 _ _ (by decide) rfl rfl rfl).trans p0
   obtain ⟨ρ13, rfl⟩ := Ze (uc q28 un)
   clear q28
   refine Zd rfl (Zh ty24 rfl (At.bx 21 (Zu ((hB 4 (by decide)).trans rfl))) (pkT_34 ..) ?_)
   refine Zb ?_
   exact ⟨ks, [], rfl, (Sub.emp Sub.refl), rfl⟩
  ·intro ρ r10 N10 B hB hBa hBb hp hr hr0
   have q8 : ρ 8 = .int .i64 (l[0]) := hr0 8 (by kernel_rfl)
   obtain ⟨ρ14, rfl⟩ := Ze (uc q8 un)
   clear q8
   refine Za (v := .int .i64 (l[0])) rfl (Pu.move rfl) ?_
   refine Zb ?_
   exact ⟨.int .i64 (l[0]), [], rfl, (Sub.emp Sub.refl), rfl⟩
  ·intro ρ r10 N10 B hB hBa hBb hp hr hr0
   have q3 : ρ 3 = .pointer (some ⟨b1, 0, none⟩) := hr0 3 (by kernel_rfl)
   obtain ⟨ρ15, rfl⟩ := Ze (uc q3 un)
   clear q3
   have hB2 := hBb rfl
   change B = [k1 ++ (kb_ ++ ku), c5_, [(b3, .cells ⟨pkT 0 0 zS (.slice none 0 0) (.slice none 0 0)⟩ 27 (0, 0))], [(b2, .cells ⟨us⟩ 27 (0, 0))], [(b1, .cells ⟨pkT kind num ref ks cv⟩ 27 (0, 0))], k3, k4] at hB2
   subst hB2
   refine Zw (M' := [(N10 0), (N10 1), (N10 2), (N10 3), (N10 4), (N10 5), (N10 6), (N10 7), (N10 8), (N10 9), (N10 10), [], (N10 12), (N10 13), (N10 14), (N10 15), [], k1 ++ (kb_ ++ ku), c5_, [(b3, .cells ⟨pkT 0 0 zS (.slice none 0 0) (.slice none 0 0)⟩ 27 (0, 0))], [(b2, .cells ⟨us⟩ 27 (0, 0))], [(b1, .cells ⟨pkT kind num ref ks cv⟩ 27 (0, 0))], k3, k4]) Sub.refl ?_
   refine Zw (M' := [(N10 0), (N10 1), (N10 2), (N10 3), (N10 4), (N10 5), (N10 6), (N10 7), (N10 8), (N10 9), (N10 10), [], (N10 12), (N10 13), (N10 14), (N10 15), [], k1, kb_, ku, c5_, [(b3, .cells ⟨pkT 0 0 zS (.slice none 0 0) (.slice none 0 0)⟩ 27 (0, 0))], [(b2, .cells ⟨us⟩ 27 (0, 0))], [(b1, .cells ⟨pkT kind num ref ks cv⟩ 27 (0, 0))], k3, k4]) (Sub.flat Sub.refl (by simp)) ?_
   refine Za (v := .pointer (some ⟨b1, 34, none⟩)) rfl (fa27_3 rfl rfl) ?_
   refine Zb ?_
   exact ⟨.pointer (some ⟨b1, 34, none⟩), [], rfl, (Sub.flat (M' := [[], (N10 0), (N10 1), (N10 2), (N10 3), (N10 4), (N10 5), (N10 6), (N10 7), (N10 8), (N10 9), (N10 10), [], (N10 12), (N10 13), (N10 14), (N10 15), [], k1 ++ (kb_ ++ ku), c5_, [(b3, .cells ⟨pkT 0 0 zS (.slice none 0 0) (.slice none 0 0)⟩ 27 (0, 0))], [(b2, .cells ⟨us⟩ 27 (0, 0))], [(b1, .cells ⟨pkT kind num ref ks cv⟩ 27 (0, 0))], k3, k4]) (Sub.emp (Sk (Sk (Sk (Sk (Sk (Sk (Sk (Sk (Sk (Sk (Sk (Sub.emp (Sd (Sk (Sk (Sk (Sk (Sub.emp (Sub.join3 (Sd (Sk (Sk (Sk (Sk (Sk (Sk (Sk (Sk (Sk Sub.nil)))))))))))))))))))))))))))))) rfl), rfl⟩
  ·intro ρ r10 N10 B hB hBa hBb hp hr hr0
   have p3 : (r10 3) = .pointer (some ⟨b1, 34, none⟩) := hp 3 (by decide) rfl
   have q31 : ρ 31 = .pointer (some ⟨b1, 34, none⟩) := (hr 3 _ _ (by decide) rfl rfl rfl).trans p3
   obtain ⟨ρ16, rfl⟩ := Ze (uc q31 un)
   clear q31
   have hB2 := hBb rfl
   change B = [k1 ++ (kb_ ++ ku), c5_, [(b3, .cells ⟨pkT 0 0 zS (.slice none 0 0) (.slice none 0 0)⟩ 27 (0, 0))], [(b2, .cells ⟨us⟩ 27 (0, 0))], [(b1, .cells ⟨pkT kind num ref ks cv⟩ 27 (0, 0))], k3, k4] at hB2
   subst hB2
   refine Zw (M' := [(N10 0), (N10 1), (N10 2), (N10 3), (N10 4), (N10 5), (N10 6), (N10 7), (N10 8), (N10 9), (N10 10), [], (N10 12), (N10 13), (N10 14), (N10 15), [], k1 ++ (kb_ ++ ku), c5_, [(b3, .cells ⟨pkT 0 0 zS (.slice none 0 0) (.slice none 0 0)⟩ 27 (0, 0))], [(b2, .cells ⟨us⟩ 27 (0, 0))], [(b1, .cells ⟨pkT kind num ref ks cv⟩ 27 (0, 0))], k3, k4]) Sub.refl ?_
   refine Zw (M' := [(N10 0), (N10 1), (N10 2), (N10 3), (N10 4), (N10 5), (N10 6), (N10 7), (N10 8), (N10 9), (N10 10), [], (N10 12), (N10 13), (N10 14), (N10 15), [], k1, kb_, ku, c5_, [(b3, .cells ⟨pkT 0 0 zS (.slice none 0 0) (.slice none 0 0)⟩ 27 (0, 0))], [(b2, .cells ⟨us⟩ 27 (0, 0))], [(b1, .cells ⟨pkT kind num ref ks cv⟩ 27 (0, 0))], k3, k4]) (Sub.flat Sub.refl (by simp)) ?_
   refine Zd rfl (Zh ty24 rfl (At.bx 23 rfl) (pkT_34 ..) ?_)
   refine Zb ?_
   exact ⟨ks, [], rfl, (Sub.flat (M' := [[], (N10 0), (N10 1), (N10 2), (N10 3), (N10 4), (N10 5), (N10 6), (N10 7), (N10 8), (N10 9), (N10 10), [], (N10 12), (N10 13), (N10 14), (N10 15), [], k1 ++ (kb_ ++ ku), c5_, [(b3, .cells ⟨pkT 0 0 zS (.slice none 0 0) (.slice none 0 0)⟩ 27 (0, 0))], [(b2, .cells ⟨us⟩ 27 (0, 0))], [(b1, .cells ⟨pkT kind num ref ks cv⟩ 27 (0, 0))], k3, k4]) (Sub.emp (Sk (Sk (Sk (Sk (Sk (Sk (Sk (Sk (Sk (Sk (Sk (Sub.emp (Sd (Sk (Sk (Sk (Sk (Sub.emp (Sub.join3 (Sd (Sk (Sk (Sk (Sk (Sk (Sk (Sk (Sk (Sk Sub.nil)))))))))))))))))))))))))))))) rfl), rfl⟩
  ·intro ρ r10 N10 B hB hBa hBb hp hr hr0
   have q8 : ρ 8 = .int .i64 (l[0]) := hr0 8 (by kernel_rfl)
   obtain ⟨ρ17, rfl⟩ := Ze (uc q8 un)
   clear q8
   have hB2 := hBb rfl
   change B = [k1 ++ (kb_ ++ ku), c5_, [(b3, .cells ⟨pkT 0 0 zS (.slice none 0 0) (.slice none 0 0)⟩ 27 (0, 0))], [(b2, .cells ⟨us⟩ 27 (0, 0))], [(b1, .cells ⟨pkT kind num ref ks cv⟩ 27 (0, 0))], k3, k4] at hB2
   subst hB2
   refine Zw (M' := [(N10 0), (N10 1), (N10 2), (N10 3), (N10 4), (N10 5), (N10 6), (N10 7), (N10 8), (N10 9), (N10 10), [], (N10 12), (N10 13), (N10 14), (N10 15), [], k1 ++ (kb_ ++ ku), c5_, [(b3, .cells ⟨pkT 0 0 zS (.slice none 0 0) (.slice none 0 0)⟩ 27 (0, 0))], [(b2, .cells ⟨us⟩ 27 (0, 0))], [(b1, .cells ⟨pkT kind num ref ks cv⟩ 27 (0, 0))], k3, k4]) Sub.refl ?_
   refine Zw (M' := [(N10 0), (N10 1), (N10 2), (N10 3), (N10 4), (N10 5), (N10 6), (N10 7), (N10 8), (N10 9), (N10 10), [], (N10 12), (N10 13), (N10 14), (N10 15), [], k1, kb_, ku, c5_, [(b3, .cells ⟨pkT 0 0 zS (.slice none 0 0) (.slice none 0 0)⟩ 27 (0, 0))], [(b2, .cells ⟨us⟩ 27 (0, 0))], [(b1, .cells ⟨pkT kind num ref ks cv⟩ 27 (0, 0))], k3, k4]) (Sub.flat Sub.refl (by simp)) ?_
   refine Za (v := .int .i64 (l[0])) rfl (Pu.move rfl) ?_
   refine Zb ?_
   exact ⟨.int .i64 (l[0]), [], rfl, (Sub.flat (M' := [[], (N10 0), (N10 1), (N10 2), (N10 3), (N10 4), (N10 5), (N10 6), (N10 7), (N10 8), (N10 9), (N10 10), [], (N10 12), (N10 13), (N10 14), (N10 15), [], k1 ++ (kb_ ++ ku), c5_, [(b3, .cells ⟨pkT 0 0 zS (.slice none 0 0) (.slice none 0 0)⟩ 27 (0, 0))], [(b2, .cells ⟨us⟩ 27 (0, 0))], [(b1, .cells ⟨pkT kind num ref ks cv⟩ 27 (0, 0))], k3, k4]) (Sub.emp (Sk (Sk (Sk (Sk (Sk (Sk (Sk (Sk (Sk (Sk (Sk (Sub.emp (Sd (Sk (Sk (Sk (Sk (Sub.emp (Sub.join3 (Sd (Sk (Sk (Sk (Sk (Sk (Sk (Sk (Sk (Sk Sub.nil)))))))))))))))))))))))))))))) rfl), rfl⟩
  ·intro ρ r10 N10 B hB hBa hBb hp hr hr0
   have p4 : (r10 4) = ks := hp 4 (by decide) rfl
   have p5 : (r10 5) = .int .i64 (l[0]) := hp 5 (by decide) rfl
   have q32 : ρ 32 = ks := (hr 4 _ _ (by decide) rfl rfl rfl).trans p4
   have q33 : ρ 33 = .int .i64 (l[0]) := (hr 5 _ _ (by decide) rfl rfl rfl).trans p5
   obtain ⟨ρ18, rfl⟩ := Ze (uc q32 (uc q33 un))
   clear q32 q33
   have hB2 := hBb rfl
   change B = [k1 ++ (kb_ ++ ku), c5_, [(b3, .cells ⟨pkT 0 0 zS (.slice none 0 0) (.slice none 0 0)⟩ 27 (0, 0))], [(b2, .cells ⟨us⟩ 27 (0, 0))], [(b1, .cells ⟨pkT kind num ref ks cv⟩ 27 (0, 0))], k3, k4] at hB2
   subst hB2
   refine Zw (M' := [(N10 0), (N10 1), (N10 2), (N10 3), (N10 4), (N10 5), (N10 6), (N10 7), (N10 8), (N10 9), (N10 10), [], (N10 12), (N10 13), (N10 14), (N10 15), [], k1 ++ (kb_ ++ ku), c5_, [(b3, .cells ⟨pkT 0 0 zS (.slice none 0 0) (.slice none 0 0)⟩ 27 (0, 0))], [(b2, .cells ⟨us⟩ 27 (0, 0))], [(b1, .cells ⟨pkT kind num ref ks cv⟩ 27 (0, 0))], k3, k4]) Sub.refl ?_
   refine Zw (M' := [(N10 0), (N10 1), (N10 2), (N10 3), (N10 4), (N10 5), (N10 6), (N10 7), (N10 8), (N10 9), (N10 10), [], (N10 12), (N10 13), (N10 14), (N10 15), [], k1, kb_, ku, c5_, [(b3, .cells ⟨pkT 0 0 zS (.slice none 0 0) (.slice none 0 0)⟩ 27 (0, 0))], [(b2, .cells ⟨us⟩ 27 (0, 0))], [(b1, .cells ⟨pkT kind num ref ks cv⟩ 27 (0, 0))], k3, k4]) (Sub.flat Sub.refl (by simp)) ?_
   refine Za (v := .pointer (some ⟨b11, 0 + (l[0]).toNat * 36, none⟩)) rfl (Pu.idx (l[0]).toNat Tryz.runUnderlying24 Zt hv11 rfl (by first | rfl | omega) (by have := OTs_len ho2; omega)) ?_
   refine Zb ?_
   exact ⟨.pointer (some ⟨b11, 0 + (l[0]).toNat * 36, none⟩), [], rfl, (Sub.flat (M' := [[], (N10 0), (N10 1), (N10 2), (N10 3), (N10 4), (N10 5), (N10 6), (N10 7), (N10 8), (N10 9), (N10 10), [], (N10 12), (N10 13), (N10 14), (N10 15), [], k1 ++ (kb_ ++ ku), c5_, [(b3, .cells ⟨pkT 0 0 zS (.slice none 0 0) (.slice none 0 0)⟩ 27 (0, 0))], [(b2, .cells ⟨us⟩ 27 (0, 0))], [(b1, .cells ⟨pkT kind num ref ks cv⟩ 27 (0, 0))], k3, k4]) (Sub.emp (Sk (Sk (Sk (Sk (Sk (Sk (Sk (Sk (Sk (Sk (Sk (Sub.emp (Sd (Sk (Sk (Sk (Sk (Sub.emp (Sub.join3 (Sd (Sk (Sk (Sk (Sk (Sk (Sk (Sk (Sk (Sk Sub.nil)))))))))))))))))))))))))))))) rfl), rfl⟩
  ·intro ρ r10 N10 B hB hBa hBb hp hr hr0
   have p6 : (r10 6) = .pointer (some ⟨b11, 0 + (l[0]).toNat * 36, none⟩) := hp 6 (by decide) rfl
   have q34 : ρ 34 = .pointer (some ⟨b11, 0 + (l[0]).toNat * 36, none⟩) := (hr 6 _ _ (by decide) rfl rfl rfl).trans p6
   obtain ⟨ρ19, rfl⟩ := Ze (uc q34 un)
   clear q34
   have hB2 := hBb rfl
   change B = [k1 ++ (kb_ ++ ku), c5_, [(b3, .cells ⟨pkT 0 0 zS (.slice none 0 0) (.slice none 0 0)⟩ 27 (0, 0))], [(b2, .cells ⟨us⟩ 27 (0, 0))], [(b1, .cells ⟨pkT kind num ref ks cv⟩ 27 (0, 0))], k3, k4] at hB2
   subst hB2
   refine Zw (M' := [(N10 0), (N10 1), (N10 2), (N10 3), (N10 4), (N10 5), (N10 6), (N10 7), (N10 8), (N10 9), (N10 10), [], (N10 12), (N10 13), (N10 14), (N10 15), [], k1 ++ (kb_ ++ ku), c5_, [(b3, .cells ⟨pkT 0 0 zS (.slice none 0 0) (.slice none 0 0)⟩ 27 (0, 0))], [(b2, .cells ⟨us⟩ 27 (0, 0))], [(b1, .cells ⟨pkT kind num ref ks cv⟩ 27 (0, 0))], k3, k4]) Sub.refl ?_
   refine Zw (M' := [(N10 0), (N10 1), (N10 2), (N10 3), (N10 4), (N10 5), (N10 6), (N10 7), (N10 8), (N10 9), (N10 10), [], (N10 12), (N10 13), (N10 14), (N10 15), [], k1, kb_, ku, c5_, [(b3, .cells ⟨pkT 0 0 zS (.slice none 0 0) (.slice none 0 0)⟩ 27 (0, 0))], [(b2, .cells ⟨us⟩ 27 (0, 0))], [(b1, .cells ⟨pkT kind num ref ks cv⟩ 27 (0, 0))], k3, k4]) (Sub.flat Sub.refl (by simp)) ?_
   refine Zd rfl (Zj Zt rfl (At.k 17 rfl hm11) hs11 ?_)
   refine Zb ?_
   exact ⟨.agg ⟨e5_⟩, [], rfl, (Sub.flat (M' := [[], (N10 0), (N10 1), (N10 2), (N10 3), (N10 4), (N10 5), (N10 6), (N10 7), (N10 8), (N10 9), (N10 10), [], (N10 12), (N10 13), (N10 14), (N10 15), [], k1 ++ (kb_ ++ ku), c5_, [(b3, .cells ⟨pkT 0 0 zS (.slice none 0 0) (.slice none 0 0)⟩ 27 (0, 0))], [(b2, .cells ⟨us⟩ 27 (0, 0))], [(b1, .cells ⟨pkT kind num ref ks cv⟩ 27 (0, 0))], k3, k4]) (Sub.emp (Sk (Sk (Sk (Sk (Sk (Sk (Sk (Sk (Sk (Sk (Sk (Sub.emp (Sd (Sk (Sk (Sk (Sk (Sub.emp (Sub.join3 (Sd (Sk (Sk (Sk (Sk (Sk (Sk (Sk (Sk (Sk Sub.nil)))))))))))))))))))))))))))))) rfl), rfl⟩
  ·intro ρ r10 N10 B hB hBa hBb hp hr hr0
   have q1 : ρ 1 = v := hr0 1 (by kernel_rfl)
   obtain ⟨ρ20, rfl⟩ := Ze (uc q1 un)
   clear q1
   have hB2 := hBb rfl
   change B = [k1 ++ (kb_ ++ ku), c5_, [(b3, .cells ⟨pkT 0 0 zS (.slice none 0 0) (.slice none 0 0)⟩ 27 (0, 0))], [(b2, .cells ⟨us⟩ 27 (0, 0))], [(b1, .cells ⟨pkT kind num ref ks cv⟩ 27 (0, 0))], k3, k4] at hB2
   subst hB2
   refine Zw (M' := [(N10 0), (N10 1), (N10 2), (N10 3), (N10 4), (N10 5), (N10 6), (N10 7), (N10 8), (N10 9), (N10 10), [], (N10 12), (N10 13), (N10 14), (N10 15), [], k1 ++ (kb_ ++ ku), c5_, [(b3, .cells ⟨pkT 0 0 zS (.slice none 0 0) (.slice none 0 0)⟩ 27 (0, 0))], [(b2, .cells ⟨us⟩ 27 (0, 0))], [(b1, .cells ⟨pkT kind num ref ks cv⟩ 27 (0, 0))], k3, k4]) Sub.refl ?_
   refine Zw (M' := [(N10 0), (N10 1), (N10 2), (N10 3), (N10 4), (N10 5), (N10 6), (N10 7), (N10 8), (N10 9), (N10 10), [], (N10 12), (N10 13), (N10 14), (N10 15), [], k1, kb_, ku, c5_, [(b3, .cells ⟨pkT 0 0 zS (.slice none 0 0) (.slice none 0 0)⟩ 27 (0, 0))], [(b2, .cells ⟨us⟩ 27 (0, 0))], [(b1, .cells ⟨pkT kind num ref ks cv⟩ 27 (0, 0))], k3, k4]) (Sub.flat Sub.refl (by simp)) ?_
   refine Za (v := v) rfl (Pu.move rfl) ?_
   refine Zb ?_
   exact ⟨v, [], rfl, (Sub.flat (M' := [[], (N10 0), (N10 1), (N10 2), (N10 3), (N10 4), (N10 5), (N10 6), (N10 7), (N10 8), (N10 9), (N10 10), [], (N10 12), (N10 13), (N10 14), (N10 15), [], k1 ++ (kb_ ++ ku), c5_, [(b3, .cells ⟨pkT 0 0 zS (.slice none 0 0) (.slice none 0 0)⟩ 27 (0, 0))], [(b2, .cells ⟨us⟩ 27 (0, 0))], [(b1, .cells ⟨pkT kind num ref ks cv⟩ 27 (0, 0))], k3, k4]) (Sub.emp (Sk (Sk (Sk (Sk (Sk (Sk (Sk (Sk (Sk (Sk (Sk (Sub.emp (Sd (Sk (Sk (Sk (Sk (Sub.emp (Sub.join3 (Sd (Sk (Sk (Sk (Sk (Sk (Sk (Sk (Sk (Sk Sub.nil)))))))))))))))))))))))))))))) rfl), rfl⟩
  ·intro ρ r10 N10 B hB hBa hBb hp hr hr0
   have p8 : (r10 8) = v := hp 8 (by decide) rfl
   have q36 : ρ 36 = v := (hr 8 _ _ (by decide) rfl rfl rfl).trans p8
   obtain ⟨ρ21, rfl⟩ := Ze (uc q36 un)
   clear q36
   have hB2 := hBb rfl
   change B = [k1 ++ (kb_ ++ ku), c5_, [(b3, .cells ⟨pkT 0 0 zS (.slice none 0 0) (.slice none 0 0)⟩ 27 (0, 0))], [(b2, .cells ⟨us⟩ 27 (0, 0))], [(b1, .cells ⟨pkT kind num ref ks cv⟩ 27 (0, 0))], k3, k4] at hB2
   subst hB2
   refine Zw (M' := [(N10 0), (N10 1), (N10 2), (N10 3), (N10 4), (N10 5), (N10 6), (N10 7), (N10 8), (N10 9), (N10 10), [], (N10 12), (N10 13), (N10 14), (N10 15), [], k1 ++ (kb_ ++ ku), c5_, [(b3, .cells ⟨pkT 0 0 zS (.slice none 0 0) (.slice none 0 0)⟩ 27 (0, 0))], [(b2, .cells ⟨us⟩ 27 (0, 0))], [(b1, .cells ⟨pkT kind num ref ks cv⟩ 27 (0, 0))], k3, k4]) Sub.refl ?_
   refine Zw (M' := [(N10 0), (N10 1), (N10 2), (N10 3), (N10 4), (N10 5), (N10 6), (N10 7), (N10 8), (N10 9), (N10 10), [], (N10 12), (N10 13), (N10 14), (N10 15), [], k1, kb_, ku, c5_, [(b3, .cells ⟨pkT 0 0 zS (.slice none 0 0) (.slice none 0 0)⟩ 27 (0, 0))], [(b2, .cells ⟨us⟩ 27 (0, 0))], [(b1, .cells ⟨pkT kind num ref ks cv⟩ 27 (0, 0))], k3, k4]) (Sub.flat Sub.refl (by simp)) ?_
   refine Zd rfl (Runs_slice1 hpr (by omega) Tryz.runUnderlying43 Tryz.sizeOf3 rfl rfl fun u22 hu22 => ?_)
   refine Zb ?_
   exact ⟨u22, [], rfl, (Sub.flat (M' := [[], (N10 0), (N10 1), (N10 2), (N10 3), (N10 4), (N10 5), (N10 6), (N10 7), (N10 8), (N10 9), (N10 10), [], (N10 12), (N10 13), (N10 14), (N10 15), [], k1 ++ (kb_ ++ ku), c5_, [(b3, .cells ⟨pkT 0 0 zS (.slice none 0 0) (.slice none 0 0)⟩ 27 (0, 0))], [(b2, .cells ⟨us⟩ 27 (0, 0))], [(b1, .cells ⟨pkT kind num ref ks cv⟩ 27 (0, 0))], k3, k4]) (Sub.emp (Sk (Sk (Sk (Sk (Sk (Sk (Sk (Sk (Sk (Sk (Sk (Sub.emp (Sd (Sk (Sk (Sk (Sk (Sub.emp (Sub.join3 (Sd (Sk (Sk (Sk (Sk (Sk (Sk (Sk (Sk (Sk Sub.nil)))))))))))))))))))))))))))))) rfl), hu22⟩
  ·intro ρ r10 N10 B hB hBa hBb hp hr hr0
   have q5 : ρ 5 = .pointer (some ⟨b2, 0, none⟩) := hr0 5 (by kernel_rfl)
   obtain ⟨ρ23, rfl⟩ := Ze (uc q5 un)
   clear q5
   have hB2 := hBb rfl
   change B = [k1 ++ (kb_ ++ ku), c5_, [(b3, .cells ⟨pkT 0 0 zS (.slice none 0 0) (.slice none 0 0)⟩ 27 (0, 0))], [(b2, .cells ⟨us⟩ 27 (0, 0))], [(b1, .cells ⟨pkT kind num ref ks cv⟩ 27 (0, 0))], k3, k4] at hB2
   subst hB2
   refine Zw (M' := [(N10 0), (N10 1), (N10 2), (N10 3), (N10 4), (N10 5), (N10 6), (N10 7), (N10 8), (N10 9), (N10 10), [], (N10 12), (N10 13), (N10 14), (N10 15), [], k1 ++ (kb_ ++ ku), c5_, [(b3, .cells ⟨pkT 0 0 zS (.slice none 0 0) (.slice none 0 0)⟩ 27 (0, 0))], [(b2, .cells ⟨us⟩ 27 (0, 0))], [(b1, .cells ⟨pkT kind num ref ks cv⟩ 27 (0, 0))], k3, k4]) Sub.refl ?_
   refine Zw (M' := [(N10 0), (N10 1), (N10 2), (N10 3), (N10 4), (N10 5), (N10 6), (N10 7), (N10 8), (N10 9), (N10 10), [], (N10 12), (N10 13), (N10 14), (N10 15), [], k1, kb_, ku, c5_, [(b3, .cells ⟨pkT 0 0 zS (.slice none 0 0) (.slice none 0 0)⟩ 27 (0, 0))], [(b2, .cells ⟨us⟩ 27 (0, 0))], [(b1, .cells ⟨pkT kind num ref ks cv⟩ 27 (0, 0))], k3, k4]) (Sub.flat Sub.refl (by simp)) ?_
   refine Zd rfl (Zj Zt rfl (At.bx 22 rfl) (Zy hU.len) ?_)
   refine Zb ?_
   exact ⟨.agg ⟨us⟩, [], rfl, (Sub.flat (M' := [[], (N10 0), (N10 1), (N10 2), (N10 3), (N10 4), (N10 5), (N10 6), (N10 7), (N10 8), (N10 9), (N10 10), [], (N10 12), (N10 13), (N10 14), (N10 15), [], k1 ++ (kb_ ++ ku), c5_, [(b3, .cells ⟨pkT 0 0 zS (.slice none 0 0) (.slice none 0 0)⟩ 27 (0, 0))], [(b2, .cells ⟨us⟩ 27 (0, 0))], [(b1, .cells ⟨pkT kind num ref ks cv⟩ 27 (0, 0))], k3, k4]) (Sub.emp (Sk (Sk (Sk (Sk (Sk (Sk (Sk (Sk (Sk (Sk (Sk (Sub.emp (Sd (Sk (Sk (Sk (Sk (Sub.emp (Sub.join3 (Sd (Sk (Sk (Sk (Sk (Sk (Sk (Sk (Sk (Sk Sub.nil)))))))))))))))))))))))))))))) rfl), rfl⟩
  ·intro ρ r10 N10 B hB hBa hBb hp hr hr0
   have p7 : (r10 7) = .agg ⟨e5_⟩ := hp 7 (by decide) rfl
   have p9 : ∀ h, pathR h v l → pathR h (r10 9) l.tail := hp 9 (by decide) rfl
   have p10 : (r10 10) = .agg ⟨us⟩ := hp 10 (by decide) rfl
   have q35 : ρ 35 = .agg ⟨e5_⟩ := (hr 7 _ _ (by decide) rfl rfl rfl).trans p7
   have q37 : ρ 37 = (r10 9) := (hr 9 _ _ (by decide) rfl rfl rfl)
   have q38 : ρ 38 = .agg ⟨us⟩ := (hr 10 _ _ (by decide) rfl rfl rfl).trans p10
   obtain ⟨ρ24, rfl⟩ := Ze (uc q35 (uc q37 (uc q38 un)))
   clear q35 q37 q38
   have hB2 := hBa rfl
   change B = [k1 ++ (kb_ ++ ku), c5_, [(b3, .cells ⟨pkT 0 0 zS (.slice none 0 0) (.slice none 0 0)⟩ 27 (0, 0))], [(b2, .cells ⟨us⟩ 27 (0, 0))], [(b1, .cells ⟨pkT kind num ref ks cv⟩ 27 (0, 0))], k3, k4] at hB2
   subst hB2
   refine Zw (M' := [(N10 0), (N10 1), (N10 2), (N10 3), (N10 4), (N10 5), (N10 6), (N10 7), (N10 8), (N10 9), (N10 10), [], (N10 12), (N10 13), (N10 14), (N10 15), [], k1 ++ (kb_ ++ ku), c5_, [(b3, .cells ⟨pkT 0 0 zS (.slice none 0 0) (.slice none 0 0)⟩ 27 (0, 0))], [(b2, .cells ⟨us⟩ 27 (0, 0))], [(b1, .cells ⟨pkT kind num ref ks cv⟩ 27 (0, 0))], k3, k4]) Sub.refl ?_
   refine Zw (M' := [(N10 0), (N10 1), (N10 2), (N10 3), (N10 4), (N10 5), (N10 6), (N10 7), (N10 8), (N10 9), (N10 10), [], (N10 12), (N10 13), (N10 14), (N10 15), [], k1, kb_, ku, c5_, [(b3, .cells ⟨pkT 0 0 zS (.slice none 0 0) (.slice none 0 0)⟩ 27 (0, 0))], [(b2, .cells ⟨us⟩ 27 (0, 0))], [(b1, .cells ⟨pkT kind num ref ks cv⟩ 27 (0, 0))], k3, k4]) (Sub.flat Sub.refl (by simp)) ?_
   refine Zw (M' := [kb_ ++ ku, (N10 0), (N10 1), (N10 2), (N10 3), (N10 4), (N10 5), (N10 6), (N10 7), (N10 8), (N10 9), (N10 10), [], (N10 12), (N10 13), (N10 14), (N10 15), [], k1, c5_, [(b3, .cells ⟨pkT 0 0 zS (.slice none 0 0) (.slice none 0 0)⟩ 27 (0, 0))], [(b2, .cells ⟨us⟩ 27 (0, 0))], [(b1, .cells ⟨pkT kind num ref ks cv⟩ 27 (0, 0))], k3, k4]) (Sub.join (Sub.cons 18 rfl (Sub.cons 18 rfl (Sk (Sk (Sk (Sk (Sk (Sk (Sk (Sk (Sk (Sk (Sk (Sk (Sk (Sk (Sk (Sk (Sk (Sk (Sk (Sk (Sk (Sk (Sk (Sk Sub.nil))))))))))))))))))))))))))) ?_
   refine JL_call1 0 rfl Tryz.call70 rfl rfl (fun hin => ih (l.tail).length (by rw [List.length_tail]; omega) _ _ _ u _ _ _ _ _ rfl (pathR.mono (Hle.hu _ _) (p9 _ hpr)) (fun n hn => hpi n (List.mem_of_mem_tail hn)) hOb_ hU) rfl ?_
   rintro _ _ ⟨cs25, k25, rfl, rfl, hO25⟩
   refine Zb ?_
   exact ⟨.tuple ⟨[.agg ⟨cs25⟩, .bool (((setP l.tail kids[(l[0]).toNat] u)).2)]⟩, k1 ++ k25, rfl, (Sub.flat (M' := [(N10 0), (N10 1), (N10 2), (N10 3), (N10 4), (N10 5), (N10 6), (N10 7), (N10 8), (N10 9), (N10 10), [], (N10 12), (N10 13), (N10 14), (N10 15), [], k1 ++ k25, c5_, [(b3, .cells ⟨pkT 0 0 zS (.slice none 0 0) (.slice none 0 0)⟩ 27 (0, 0))], [(b2, .cells ⟨us⟩ 27 (0, 0))], [(b1, .cells ⟨pkT kind num ref ks cv⟩ 27 (0, 0))], k3, k4]) (Sub.cons 1 rfl (Sub.cons 1 rfl (Sub.cons 1 rfl (Sub.cons 1 rfl (Sub.cons 1 rfl (Sub.cons 1 rfl (Sub.cons 1 rfl (Sub.cons 1 rfl (Sub.cons 1 rfl (Sub.cons 1 rfl (Sub.cons 1 rfl (Sub.emp (Sub.cons 2 rfl (Sub.cons 2 rfl (Sub.cons 2 rfl (Sub.cons 2 rfl (Sub.emp (Sub.join (Sub.cons 3 rfl (Sk (Sd (Sd (Sk (Sk (Sk (Sk (Sk (Sk Sub.nil)))))))))))))))))))))))))))) rfl), ⟨rfl, hO25.len, hO25.ok, k25, rfl, hO25⟩⟩
  ·intro ρ r10 N10 B hB hBa hBb hp hr hr0
   have p11 : (r10 11) = .tuple ⟨[.agg ⟨(ZC (r10 11))⟩, .bool (((setP l.tail kids[(l[0]).toNat] u)).2)]⟩ ∧ ((ZC (r10 11))).length = 36 ∧ okc ((ZC (r10 11))) ∧ ∃ kM, (N10 11) = k1 ++ kM ∧ OT ((setP l.tail kids[(l[0]).toNat] u)).1 ((ZC (r10 11))) kM := hp 11 (by decide) rfl
   have q39 : ρ 39 = .tuple ⟨[.agg ⟨(ZC (r10 11))⟩, .bool (((setP l.tail kids[(l[0]).toNat] u)).2)]⟩ := (hr 11 _ _ (by decide) rfl rfl rfl).trans p11.1
   obtain ⟨ρ26, rfl⟩ := Ze (uc q39 un)
   clear q39
   refine Za (v := .tuple ⟨[.agg ⟨(ZC (r10 11))⟩, .bool (((setP l.tail kids[(l[0]).toNat] u)).2)]⟩) rfl (Pu.move rfl) ?_
   refine Zb ?_
   exact ⟨.tuple ⟨[.agg ⟨(ZC (r10 11))⟩, .bool (((setP l.tail kids[(l[0]).toNat] u)).2)]⟩, [], rfl, (Sub.emp Sub.refl), rfl⟩
  ·intro ρ r10 N10 B hB hBa hBb hp hr hr0
   have p12 : (r10 12) = .tuple ⟨[.agg ⟨(ZC (r10 11))⟩, .bool (((setP l.tail kids[(l[0]).toNat] u)).2)]⟩ := hp 12 (by decide) rfl
   have q27 : ρ 27 = .tuple ⟨[.agg ⟨(ZC (r10 11))⟩, .bool (((setP l.tail kids[(l[0]).toNat] u)).2)]⟩ := (hr 12 _ _ (by decide) rfl rfl rfl).trans p12
   obtain ⟨ρ27, rfl⟩ := Ze (uc q27 un)
   clear q27
   refine Za (v := .agg ⟨(ZC (r10 11))⟩) rfl (Pu.extract rfl rfl) ?_
   refine Zb ?_
   exact ⟨.agg ⟨(ZC (r10 11))⟩, [], rfl, (Sub.emp Sub.refl), rfl⟩
  ·intro ρ r10 N10 B hB hBa hBb hp hr hr0
   have p12 : (r10 12) = .tuple ⟨[.agg ⟨(ZC (r10 11))⟩, .bool (((setP l.tail kids[(l[0]).toNat] u)).2)]⟩ := hp 12 (by decide) rfl
   have q27 : ρ 27 = .tuple ⟨[.agg ⟨(ZC (r10 11))⟩, .bool (((setP l.tail kids[(l[0]).toNat] u)).2)]⟩ := (hr 12 _ _ (by decide) rfl rfl rfl).trans p12
   obtain ⟨ρ28, rfl⟩ := Ze (uc q27 un)
   clear q27
   refine Za (v := .bool (((setP l.tail kids[(l[0]).toNat] u)).2)) rfl (Pu.extract rfl rfl) ?_
   refine Zb ?_
   exact ⟨.bool (((setP l.tail kids[(l[0]).toNat] u)).2), [], rfl, (Sub.emp Sub.refl), rfl⟩
  ·intro ρ r10 N10 B hB hBa hBb hp hr hr0
   have p1 : (r10 1) = ks := hp 1 (by decide) rfl
   have p2 : (r10 2) = .int .i64 (l[0]) := hp 2 (by decide) rfl
   have q29 : ρ 29 = ks := (hr 1 _ _ (by decide) rfl rfl rfl).trans p1
   have q30 : ρ 30 = .int .i64 (l[0]) := (hr 2 _ _ (by decide) rfl rfl rfl).trans p2
   obtain ⟨ρ29, rfl⟩ := Ze (uc q29 (uc q30 un))
   clear q29 q30
   refine Za (v := .pointer (some ⟨b11, 0 + (l[0]).toNat * 36, none⟩)) rfl (Pu.idx (l[0]).toNat Tryz.runUnderlying24 Zt hv11 rfl (by first | rfl | omega) (by have := OTs_len ho2; omega)) ?_
   refine Zb ?_
   exact ⟨.pointer (some ⟨b11, 0 + (l[0]).toNat * 36, none⟩), [], rfl, (Sub.emp Sub.refl), rfl⟩
  ·intro ρ r10 N10 B hB hBa hBb hp hr hr0
   have p11 : (r10 11) = .tuple ⟨[.agg ⟨(ZC (r10 11))⟩, .bool (((setP l.tail kids[(l[0]).toNat] u)).2)]⟩ ∧ ((ZC (r10 11))).length = 36 ∧ okc ((ZC (r10 11))) ∧ ∃ kM, (N10 11) = k1 ++ kM ∧ OT ((setP l.tail kids[(l[0]).toNat] u)).1 ((ZC (r10 11))) kM := hp 11 (by decide) rfl
   have p13 : (r10 13) = .agg ⟨(ZC (r10 11))⟩ := hp 13 (by decide) rfl
   have p15 : (r10 15) = .pointer (some ⟨b11, 0 + (l[0]).toNat * 36, none⟩) := hp 15 (by decide) rfl
   have q40 : ρ 40 = .agg ⟨(ZC (r10 11))⟩ := (hr 13 _ _ (by decide) rfl rfl rfl).trans p13
   have q42 : ρ 42 = .pointer (some ⟨b11, 0 + (l[0]).toNat * 36, none⟩) := (hr 15 _ _ (by decide) rfl rfl rfl).trans p15
   obtain ⟨ρ30, rfl⟩ := Ze (uc q40 (uc q42 un))
   clear q40 q42
   have hB2 := hBa rfl
   change B = [(N10 11), c5_, [(b3, .cells ⟨pkT 0 0 zS (.slice none 0 0) (.slice none 0 0)⟩ 27 (0, 0))], [(b2, .cells ⟨us⟩ 27 (0, 0))], [(b1, .cells ⟨pkT kind num ref ks cv⟩ 27 (0, 0))], k3, k4] at hB2
   subst hB2
   refine Zw (M' := [(N10 0), (N10 1), (N10 2), (N10 3), (N10 4), (N10 5), (N10 6), (N10 7), (N10 8), (N10 9), (N10 10), [], (N10 12), (N10 13), (N10 14), (N10 15), [], (N10 11), c5_, [(b3, .cells ⟨pkT 0 0 zS (.slice none 0 0) (.slice none 0 0)⟩ 27 (0, 0))], [(b2, .cells ⟨us⟩ 27 (0, 0))], [(b1, .cells ⟨pkT kind num ref ks cv⟩ 27 (0, 0))], k3, k4]) Sub.refl ?_
   obtain ⟨kM10_11, hNM10_11, hOM10_11⟩ := p11.2.2.2
   refine Zw (M' := [(N10 0), (N10 1), (N10 2), (N10 3), (N10 4), (N10 5), (N10 6), (N10 7), (N10 8), (N10 9), (N10 10), [], (N10 12), (N10 13), (N10 14), (N10 15), [], k1 ++ kM10_11, c5_, [(b3, .cells ⟨pkT 0 0 zS (.slice none 0 0) (.slice none 0 0)⟩ 27 (0, 0))], [(b2, .cells ⟨us⟩ 27 (0, 0))], [(b1, .cells ⟨pkT kind num ref ks cv⟩ 27 (0, 0))], k3, k4]) (Sk (Sk (Sk (Sk (Sk (Sk (Sk (Sk (Sk (Sk (Sk (Sub.emp (Sd (Sk (Sk (Sk (Sk (Sub.emp (Sd (Se hNM10_11 (Sk (Sk (Sk (Sk (Sk (Sk Sub.nil)))))))))))))))))))))))))) ?_
   refine Zw (M' := [(N10 0), (N10 1), (N10 2), (N10 3), (N10 4), (N10 5), (N10 6), (N10 7), (N10 8), (N10 9), (N10 10), [], (N10 12), (N10 13), (N10 14), (N10 15), [], k1, kM10_11, c5_, [(b3, .cells ⟨pkT 0 0 zS (.slice none 0 0) (.slice none 0 0)⟩ 27 (0, 0))], [(b2, .cells ⟨us⟩ 27 (0, 0))], [(b1, .cells ⟨pkT kind num ref ks cv⟩ 27 (0, 0))], k3, k4]) (Sub.flat Sub.refl (by simp)) ?_
   refine Zd rfl (Runs_storeOwn (i := 17) (j := ((l[0]).toNat)) (b := b11) Zt rfl ho1 ⟨_, _, hv11⟩ rfl (by have := OTs_len ho2; omega) rfl rfl p11.2.1 p11.2.2.1 fun k31 ho31 => ?_)
   refine Zb ?_
   exact ⟨undef, k31 ++ kM10_11, rfl, (Sub.flat (M' := [(N10 0), (N10 1), (N10 2), (N10 3), (N10 4), (N10 5), (N10 6), (N10 7), (N10 8), (N10 9), (N10 10), [], (N10 12), (N10 13), (N10 14), (N10 15), [], k31 ++ kM10_11, c5_, [(b3, .cells ⟨pkT 0 0 zS (.slice none 0 0) (.slice none 0 0)⟩ 27 (0, 0))], [(b2, .cells ⟨us⟩ 27 (0, 0))], [(b1, .cells ⟨pkT kind num ref ks cv⟩ 27 (0, 0))], k3, k4]) (Sk (Sk (Sk (Sk (Sk (Sk (Sk (Sk (Sk (Sk (Sk (Sub.emp (Sd (Sk (Sk (Sk (Sk (Sub.emp (Sub.join (Sd (Sk (Sk (Sk (Sk (Sk (Sk (Sk (Sk Sub.nil)))))))))))))))))))))))))))) rfl), ⟨k31, kM10_11, rfl, ho31, hOM10_11⟩⟩
  intro ρ r10 N10 hp hr hr0
  have p11 : (r10 11) = .tuple ⟨[.agg ⟨(ZC (r10 11))⟩, .bool (((setP l.tail kids[(l[0]).toNat] u)).2)]⟩ ∧ ((ZC (r10 11))).length = 36 ∧ okc ((ZC (r10 11))) ∧ ∃ kM, (N10 11) = k1 ++ kM ∧ OT ((setP l.tail kids[(l[0]).toNat] u)).1 ((ZC (r10 11))) kM := hp 11 (by decide)
  have p16 : ∃ kR kS, (N10 16) = kR ++ kS ∧ Own 27 36 ks (es.set ((l[0]).toNat) ((ZC (r10 11)))) kR ∧ OT ((setP l.tail kids[(l[0]).toNat] u)).1 ((ZC (r10 11))) kS := hp 16 (by decide)
  have q3 : ρ 3 = .pointer (some ⟨b1, 0, none⟩) := hr0 3 (by kernel_rfl)
  have q6 : ρ 6 = .pointer (some ⟨b3, 0, none⟩) := hr0 6 (by kernel_rfl)
  have q7 : ρ 7 = .bool false := hr0 7 (by kernel_rfl)
  have q9 : ρ 9 = .bool false := hr0 9 (by kernel_rfl)
  have q41 : ρ 41 = .bool (((setP l.tail kids[(l[0]).toNat] u)).2) := (hr 14 _ _ (by decide) rfl rfl).trans (hp 14 (by decide))
  obtain ⟨ρ32, rfl⟩ := Ze (uc q3 (uc q6 (uc q7 (uc q9 (uc q41 un)))))
  clear q3 q6 q7 q9 q41
  have p10_11 := p11; have p10_16 := p16
  clear hp hr hr0 p11 p16
  refine Zw (M' := [(N10 0), (N10 1), (N10 2), (N10 3), (N10 4), (N10 5), (N10 6), (N10 7), (N10 8), (N10 9), (N10 10), [], (N10 12), (N10 13), (N10 14), (N10 15), [], (N10 16), c5_, [(b3, .cells ⟨pkT 0 0 zS (.slice none 0 0) (.slice none 0 0)⟩ 27 (0, 0))], [(b2, .cells ⟨us⟩ 27 (0, 0))], [(b1, .cells ⟨pkT kind num ref ks cv⟩ 27 (0, 0))], k3, k4]) Sub.refl ?_
  obtain ⟨kR10_16, kS10_16, hNM10_16, hRM10_16, hOS10_16⟩ := p10_16
  refine Zw (M' := [kR10_16 ++ kS10_16, c5_, [(b3, .cells ⟨pkT 0 0 zS (.slice none 0 0) (.slice none 0 0)⟩ 27 (0, 0))], [(b2, .cells ⟨us⟩ 27 (0, 0))], [(b1, .cells ⟨pkT kind num ref ks cv⟩ 27 (0, 0))], k3, k4]) (Sd (Sd (Sd (Sd (Sd (Sd (Sd (Sd (Sd (Sd (Sd (Sd (Sd (Sd (Sd (Sd (Sd (Se hNM10_16 (Sk (Sk (Sk (Sk (Sk (Sk Sub.nil)))))))))))))))))))))))) ?_
  refine Zw (M' := [kR10_16, kS10_16, c5_, [(b3, .cells ⟨pkT 0 0 zS (.slice none 0 0) (.slice none 0 0)⟩ 27 (0, 0))], [(b2, .cells ⟨us⟩ 27 (0, 0))], [(b1, .cells ⟨pkT kind num ref ks cv⟩ 27 (0, 0))], k3, k4]) (Sub.flat Sub.refl (by simp)) ?_
  show JL _ _ _ [_] _ _ _
  refine Za (v := .bool (((setP l.tail kids[(l[0]).toNat] u)).2)) rfl (Pu.assign rfl) ?_
  refine Zb ?_
  refine Zg (Zc ?_)
  refine Zd rfl (Zj Zt rfl (At.bx 5 rfl) (pkT_a ..) ?_)
  refine Za (v := .bool (((setP l.tail kids[(l[0]).toNat] u)).2)) rfl (Pu.move rfl) ?_
  refine Zd rfl (Zi 3 (vs := pkT kind num ref ks cv) (l := pkT kind num ref ks cv) Zt rfl rfl rfl rfl rfl (pkT_ok ho1.one ho3.one) (pkT_s ..) ?_)
  refine Za (v := .bool (((setP l.tail kids[(l[0]).toNat] u)).2)) rfl (Pu.assign rfl) ?_
  refine Zb ?_
  refine Zo ?_
  obtain ⟨c6_, hOs_, hP6_⟩ := hR5_ _ _ _ hOS10_16
  refine ⟨.tuple ⟨[.agg ⟨pkT kind num ref ks cv⟩, .bool (((setP l.tail kids[(l[0]).toNat] u)).2)]⟩, [kR10_16 ++ (c6_ ++ (k3 ++ k4))], Ret.two rfl (RV.cell Zt rfl (At.bx 3 rfl) (pkT_a ..)) (RV.tmp rfl), (Sub.mid (Sub.flat (M'' := [kR10_16 ++ ((kS10_16 ++ c5_) ++ (k3 ++ k4))]) (Sub.join5 (Sk (Sk (Sk (Sd (Sd (Sd (Sk (Sk Sub.nil))))))))) (by simp)) hP6_), ?_⟩
  have hs := setP_pos (l := l) (by omega) kind num ref kids cases u
  rw [if_neg (by omega), if_pos (by omega), getD_at (by omega)] at hs
  exact ⟨_, _, by rw [hs], rfl, by rw [hs]; exact OT_mk.2 ⟨_, _, _, _, _, _, _, _, rfl, hk, hn, hRM10_16, hOs_, ho3, ho4, rfl, by simpa using hlK, hlC⟩⟩
 replace h9 := df h9
 refine Zg ?_
 have hl1 := hl0 (by omega)
 refine Zc ?_
 refine Za (v := .int .i64 (l[0])) rfl (Pu.move rfl) ?_
 refine Za (v := .pointer (some ⟨b1, 34, none⟩)) rfl (fa27_3 rfl rfl) ?_
 refine Zd rfl (Zh ty24 rfl (At.bx 2 rfl) (pkT_34 ..) ?_)
 obtain ⟨a33, cap33, hv33⟩ := ho1.sl
 rw [(OTs_len ho2)] at hv33
 refine Za (v := .int .i64 ((kids.length : Int))) rfl (Pu.lenSl Tryz.runUnderlying24 hv33) ?_
 refine Za (v := .int .i64 (l[0] - ((kids.length : Int)))) rfl (Pu.sub64 rfl rfl (by first | omega | (constructor <;> omega))) ?_
 refine Za (v := .pointer (some ⟨b1, 35, none⟩)) rfl (fa27_4 rfl rfl) ?_
 refine Zd rfl (Zh ty25 rfl (At.bx 2 rfl) (pkT_35 ..) ?_)
 obtain ⟨a34, cap34, hv34⟩ := ho3.sl
 rw [(OCs_len ho4)] at hv34
 refine Za (v := .int .i64 ((cases.length : Int))) rfl (Pu.lenSl Tryz.runUnderlying25 hv34) ?_
 refine Za (v := .bool (decide (l[0] - ((kids.length : Int)) < (cases.length : Int)))) rfl (Pu.lss rfl rfl) ?_
 refine Za (v := .bool (decide (l[0] - ((kids.length : Int)) < (cases.length : Int)))) rfl (Pu.assign rfl) ?_
 refine Zb ?_
 refine Zl (b := decide (l[0] - ((kids.length : Int)) < (cases.length : Int))) rfl (fun h35 => ?_) (fun h35 => ?_)
 ·replace h35 := dt h35
  refine Zg ?_
  have hj_ : (l[0] - ((kids.length : Int))).toNat < cases.length := by omega
  obtain ⟨pa_, pb_, kb_, c5_, hE5_, hpl_, hpo_, hOb_, hP5_, hR5_⟩ := OCs.pick ho4 hj_
  refine Zc ?_
  refine Za (v := .pointer (some ⟨b1, 35, none⟩)) rfl (fa27_4 rfl rfl) ?_
  refine Zd rfl (Zh ty25 rfl (At.bx 2 rfl) (pkT_35 ..) ?_)
  refine Za (v := .int .i64 (l[0])) rfl (Pu.move rfl) ?_
  refine Za (v := .pointer (some ⟨b1, 34, none⟩)) rfl (fa27_3 rfl rfl) ?_
  refine Zd rfl (Zh ty24 rfl (At.bx 2 rfl) (pkT_34 ..) ?_)
  obtain ⟨a36, cap36, hv36⟩ := ho1.sl
  rw [(OTs_len ho2)] at hv36
  refine Za (v := .int .i64 ((kids.length : Int))) rfl (Pu.lenSl Tryz.runUnderlying24 hv36) ?_
  refine Za (v := .int .i64 (l[0] - ((kids.length : Int)))) rfl (Pu.sub64 rfl rfl (by first | omega | (constructor <;> omega))) ?_
  obtain ⟨b37, cap37, row37, hv37, hm37, hs37⟩ := ho3.at' hE5_; rw [OCs_len ho4] at hv37
  refine Za (v := .pointer (some ⟨b37, 0 + (l[0] - ((kids.length : Int))).toNat * 71, none⟩)) rfl (Pu.idx (l[0] - ((kids.length : Int))).toNat Tryz.runUnderlying25 ty34 hv37 rfl (by first | rfl | omega) (by have := OCs_len ho4; omega)) ?_
  refine Za (v := .pointer (some ⟨b37, 0 + (l[0] - ((kids.length : Int))).toNat * 71, none⟩)) rfl (Pu.assign rfl) ?_
  refine Zb ?_
  skip
  refine J_sub (M' := [kb_ ++ c5_, [(b3, .cells ⟨pkT 0 0 zS (.slice none 0 0) (.slice none 0 0)⟩ 27 (0, 0))], [(b2, .cells ⟨us⟩ 27 (0, 0))], [(b1, .cells ⟨pkT kind num ref ks cv⟩ 27 (0, 0))], k1, k2, k3, ku]) (Sub.rep (Sub.cons 6 rfl (Sk (Sk (Sk (Sk (Sk (Sk (Sk Sub.nil)))))))) hP5_) ?_
  refine J_sub (M' := [kb_, c5_, [(b3, .cells ⟨pkT 0 0 zS (.slice none 0 0) (.slice none 0 0)⟩ 27 (0, 0))], [(b2, .cells ⟨us⟩ 27 (0, 0))], [(b1, .cells ⟨pkT kind num ref ks cv⟩ 27 (0, 0))], k1, k2, k3, ku]) (Sub.flat Sub.refl (by simp)) ?_
  refine J_sub (M' := [k3 ++ (kb_ ++ ku), c5_, [(b3, .cells ⟨pkT 0 0 zS (.slice none 0 0) (.slice none 0 0)⟩ 27 (0, 0))], [(b2, .cells ⟨us⟩ 27 (0, 0))], [(b1, .cells ⟨pkT kind num ref ks cv⟩ 27 (0, 0))], k1, k2]) (Sub.join3 (Sub.cons 7 rfl (Sk (Sub.cons 6 rfl (Sk (Sk (Sk (Sk (Sk (Sk Sub.nil)))))))))) ?_
  refine J_drawM mixed #[0, 0, 2, 6, 14, 0, 32, 0, 254, 510, 1022, 1022, 2047, 6143, 14335, 32767] 15 0 [8, 14] rfl (by kernel_rfl) (by decide) rfl (by kernel_rfl) (fun i r38 N38 => match i with | 0 => (r38 0) = .pointer (some ⟨b37, 0 + (l[0] - ((kids.length : Int))).toNat * 71, none⟩) | 1 => (r38 1) = .pointer (some ⟨b37, 0 + (l[0] - ((kids.length : Int))).toNat * 71, none⟩) | 2 => (r38 2) = .pointer (some ⟨b37, 0 + (l[0] - ((kids.length : Int))).toNat * 71, none⟩) | 3 => (r38 3) = .pointer (some ⟨b37, 0 + (l[0] - ((kids.length : Int))).toNat * 71 + 35, none⟩) | 4 => (r38 4) = .agg ⟨pb_⟩ | 5 => (r38 5) = v | 6 => ∀ h, pathR h v l → pathR h (r38 6) l.tail | 7 => (r38 7) = .agg ⟨us⟩ | 8 => (r38 8) = .tuple ⟨[.agg ⟨(ZC (r38 8))⟩, .bool (((setP l.tail cases[(l[0] - ((kids.length : Int))).toNat].2 u)).2)]⟩ ∧ ((ZC (r38 8))).length = 36 ∧ okc ((ZC (r38 8))) ∧ ∃ kM, (N38 8) = k3 ++ kM ∧ OT ((setP l.tail cases[(l[0] - ((kids.length : Int))).toNat].2 u)).1 ((ZC (r38 8))) kM | 9 => (r38 9) = .tuple ⟨[.agg ⟨(ZC (r38 8))⟩, .bool (((setP l.tail cases[(l[0] - ((kids.length : Int))).toNat].2 u)).2)]⟩ | 10 => (r38 10) = .agg ⟨(ZC (r38 8))⟩ | 11 => (r38 11) = .bool (((setP l.tail cases[(l[0] - ((kids.length : Int))).toNat].2 u)).2) | 12 => (r38 12) = .pointer (some ⟨b37, 0 + (l[0] - ((kids.length : Int))).toNat * 71, none⟩) | 13 => (r38 13) = .pointer (some ⟨b37, 0 + (l[0] - ((kids.length : Int))).toNat * 71 + 35, none⟩) | 14 => ∃ kR kS, (N38 14) = kR ++ kS ∧ Own 34 71 cv (es'.set ((l[0] - ((kids.length : Int))).toNat) (pa_ ++ ((ZC (r38 8))))) kR ∧ OT ((setP l.tail cases[(l[0] - ((kids.length : Int))).toNat].2 u)).1 ((ZC (r38 8))) kS | _ => True) ⟨?_, ?_, ?_, ?_, ?_, ?_, ?_, ?_, ?_, ?_, ?_, ?_, ?_, ?_, ?_, trivial⟩ ?_
  ·intro ρ r38 N38 B hB hBa hBb hp hr hr0
   have q10 : ρ 10 = .pointer (some ⟨b37, 0 + (l[0] - ((kids.length : Int))).toNat * 71, none⟩) := hr0 10 (by kernel_rfl)
   obtain ⟨ρ39, rfl⟩ := Ze (uc q10 un)
   clear q10
   refine Za (v := .pointer (some ⟨b37, 0 + (l[0] - ((kids.length : Int))).toNat * 71, none⟩)) rfl (Pu.move rfl) ?_
   refine Zb ?_
   exact ⟨.pointer (some ⟨b37, 0 + (l[0] - ((kids.length : Int))).toNat * 71, none⟩), [], rfl, (Sub.emp Sub.refl), rfl⟩
  ·intro ρ r38 N38 B hB hBa hBb hp hr hr0
   have q10 : ρ 10 = .pointer (some ⟨b37, 0 + (l[0] - ((kids.length : Int))).toNat * 71, none⟩) := hr0 10 (by kernel_rfl)
   obtain ⟨ρ40, rfl⟩ := Ze (uc q10 un)
   clear q10
   have hB2 := hBb rfl
   change B = [k3 ++ (kb_ ++ ku), c5_, [(b3, .cells ⟨pkT 0 0 zS (.slice none 0 0) (.slice none 0 0)⟩ 27 (0, 0))], [(b2, .cells ⟨us⟩ 27 (0, 0))], [(b1, .cells ⟨pkT kind num ref ks cv⟩ 27 (0, 0))], k1, k2] at hB2
   subst hB2
   refine Zw (M' := [(N38 0), (N38 1), (N38 2), (N38 3), (N38 4), (N38 5), (N38 6), (N38 7), [], (N38 9), (N38 10), (N38 11), (N38 12), (N38 13), [], k3 ++ (kb_ ++ ku), c5_, [(b3, .cells ⟨pkT 0 0 zS (.slice none 0 0) (.slice none 0 0)⟩ 27 (0, 0))], [(b2, .cells ⟨us⟩ 27 (0, 0))], [(b1, .cells ⟨pkT kind num ref ks cv⟩ 27 (0, 0))], k1, k2]) Sub.refl ?_
   refine Zw (M' := [(N38 0), (N38 1), (N38 2), (N38 3), (N38 4), (N38 5), (N38 6), (N38 7), [], (N38 9), (N38 10), (N38 11), (N38 12), (N38 13), [], k3, kb_, ku, c5_, [(b3, .cells ⟨pkT 0 0 zS (.slice none 0 0) (.slice none 0 0)⟩ 27 (0, 0))], [(b2, .cells ⟨us⟩ 27 (0, 0))], [(b1, .cells ⟨pkT kind num ref ks cv⟩ 27 (0, 0))], k1, k2]) (Sub.flat Sub.refl (by simp)) ?_
   refine Za (v := .pointer (some ⟨b37, 0 + (l[0] - ((kids.length : Int))).toNat * 71, none⟩)) rfl (Pu.move rfl) ?_
   refine Zb ?_
   exact ⟨.pointer (some ⟨b37, 0 + (l[0] - ((kids.length : Int))).toNat * 71, none⟩), [], rfl, (Sub.flat (M' := [[], (N38 0), (N38 1), (N38 2), (N38 3), (N38 4), (N38 5), (N38 6), (N38 7), [], (N38 9), (N38 10), (N38 11), (N38 12), (N38 13), [], k3 ++ (kb_ ++ ku), c5_, [(b3, .cells ⟨pkT 0 0 zS (.slice none 0 0) (.slice none 0 0)⟩ 27 (0, 0))], [(b2, .cells ⟨us⟩ 27 (0, 0))], [(b1, .cells ⟨pkT kind num ref ks cv⟩ 27 (0, 0))], k1, k2]) (Sub.emp (Sk (Sk (Sk (Sk (Sk (Sk (Sk (Sk (Sub.emp (Sd (Sk (Sk (Sk (Sk (Sk (Sub.emp (Sub.join3 (Sd (Sk (Sk (Sk (Sk (Sk (Sk (Sk (Sk (Sk Sub.nil)))))))))))))))))))))))))))) rfl), rfl⟩
  ·intro ρ r38 N38 B hB hBa hBb hp hr hr0
   have p1 : (r38 1) = .pointer (some ⟨b37, 0 + (l[0] - ((kids.length : Int))).toNat * 71, none⟩) := hp 1 (by decide) rfl
   have q63 : ρ 63 = .pointer (some ⟨b37, 0 + (l[0] - ((kids.length : Int))).toNat * 71, none⟩) := (hr 1 _ _ (by decide) rfl rfl rfl).trans p1
   obtain ⟨ρ41, rfl⟩ := Ze (uc q63 un)
   clear q63
   have hB2 := hBb rfl
   change B = [k3 ++ (kb_ ++ ku), c5_, [(b3, .cells ⟨pkT 0 0 zS (.slice none 0 0) (.slice none 0 0)⟩ 27 (0, 0))], [(b2, .cells ⟨us⟩ 27 (0, 0))], [(b1, .cells ⟨pkT kind num ref ks cv⟩ 27 (0, 0))], k1, k2] at hB2
   subst hB2
   refine Zw (M' := [(N38 0), (N38 1), (N38 2), (N38 3), (N38 4), (N38 5), (N38 6), (N38 7), [], (N38 9), (N38 10), (N38 11), (N38 12), (N38 13), [], k3 ++ (kb_ ++ ku), c5_, [(b3, .cells ⟨pkT 0 0 zS (.slice none 0 0) (.slice none 0 0)⟩ 27 (0, 0))], [(b2, .cells ⟨us⟩ 27 (0, 0))], [(b1, .cells ⟨pkT kind num ref ks cv⟩ 27 (0, 0))], k1, k2]) Sub.refl ?_
   refine Zw (M' := [(N38 0), (N38 1), (N38 2), (N38 3), (N38 4), (N38 5), (N38 6), (N38 7), [], (N38 9), (N38 10), (N38 11), (N38 12), (N38 13), [], k3, kb_, ku, c5_, [(b3, .cells ⟨pkT 0 0 zS (.slice none 0 0) (.slice none 0 0)⟩ 27 (0, 0))], [(b2, .cells ⟨us⟩ 27 (0, 0))], [(b1, .cells ⟨pkT kind num ref ks cv⟩ 27 (0, 0))], k1, k2]) (Sub.flat Sub.refl (by simp)) ?_
   refine Za (v := .pointer (some ⟨b37, 0 + (l[0] - ((kids.length : Int))).toNat * 71, none⟩)) rfl (Pu.nilCheck rfl) ?_
   refine Zb ?_
   exact ⟨.pointer (some ⟨b37, 0 + (l[0] - ((kids.length : Int))).toNat * 71, none⟩), [], rfl, (Sub.flat (M' := [[], (N38 0), (N38 1), (N38 2), (N38 3), (N38 4), (N38 5), (N38 6), (N38 7), [], (N38 9), (N38 10), (N38 11), (N38 12), (N38 13), [], k3 ++ (kb_ ++ ku), c5_, [(b3, .cells ⟨pkT 0 0 zS (.slice none 0 0) (.slice none 0 0)⟩ 27 (0, 0))], [(b2, .cells ⟨us⟩ 27 (0, 0))], [(b1, .cells ⟨pkT kind num ref ks cv⟩ 27 (0, 0))], k1, k2]) (Sub.emp (Sk (Sk (Sk (Sk (Sk (Sk (Sk (Sk (Sub.emp (Sd (Sk (Sk (Sk (Sk (Sk (Sub.emp (Sub.join3 (Sd (Sk (Sk (Sk (Sk (Sk (Sk (Sk (Sk (Sk Sub.nil)))))))))))))))))))))))))))) rfl), rfl⟩
  ·intro ρ r38 N38 B hB hBa hBb hp hr hr0
   have p2 : (r38 2) = .pointer (some ⟨b37, 0 + (l[0] - ((kids.length : Int))).toNat * 71, none⟩) := hp 2 (by decide) rfl
   have q64 : ρ 64 = .pointer (some ⟨b37, 0 + (l[0] - ((kids.length : Int))).toNat * 71, none⟩) := (hr 2 _ _ (by decide) rfl rfl rfl).trans p2
   obtain ⟨ρ42, rfl⟩ := Ze (uc q64 un)
   clear q64
   have hB2 := hBb rfl
   change B = [k3 ++ (kb_ ++ ku), c5_, [(b3, .cells ⟨pkT 0 0 zS (.slice none 0 0) (.slice none 0 0)⟩ 27 (0, 0))], [(b2, .cells ⟨us⟩ 27 (0, 0))], [(b1, .cells ⟨pkT kind num ref ks cv⟩ 27 (0, 0))], k1, k2] at hB2
   subst hB2
   refine Zw (M' := [(N38 0), (N38 1), (N38 2), (N38 3), (N38 4), (N38 5), (N38 6), (N38 7), [], (N38 9), (N38 10), (N38 11), (N38 12), (N38 13), [], k3 ++ (kb_ ++ ku), c5_, [(b3, .cells ⟨pkT 0 0 zS (.slice none 0 0) (.slice none 0 0)⟩ 27 (0, 0))], [(b2, .cells ⟨us⟩ 27 (0, 0))], [(b1, .cells ⟨pkT kind num ref ks cv⟩ 27 (0, 0))], k1, k2]) Sub.refl ?_
   refine Zw (M' := [(N38 0), (N38 1), (N38 2), (N38 3), (N38 4), (N38 5), (N38 6), (N38 7), [], (N38 9), (N38 10), (N38 11), (N38 12), (N38 13), [], k3, kb_, ku, c5_, [(b3, .cells ⟨pkT 0 0 zS (.slice none 0 0) (.slice none 0 0)⟩ 27 (0, 0))], [(b2, .cells ⟨us⟩ 27 (0, 0))], [(b1, .cells ⟨pkT kind num ref ks cv⟩ 27 (0, 0))], k1, k2]) (Sub.flat Sub.refl (by simp)) ?_
   refine Za (v := .pointer (some ⟨b37, 0 + (l[0] - ((kids.length : Int))).toNat * 71 + 35, none⟩)) rfl (fa34_1 rfl rfl) ?_
   refine Zb ?_
   exact ⟨.pointer (some ⟨b37, 0 + (l[0] - ((kids.length : Int))).toNat * 71 + 35, none⟩), [], rfl, (Sub.flat (M' := [[], (N38 0), (N38 1), (N38 2), (N38 3), (N38 4), (N38 5), (N38 6), (N38 7), [], (N38 9), (N38 10), (N38 11), (N38 12), (N38 13), [], k3 ++ (kb_ ++ ku), c5_, [(b3, .cells ⟨pkT 0 0 zS (.slice none 0 0) (.slice none 0 0)⟩ 27 (0, 0))], [(b2, .cells ⟨us⟩ 27 (0, 0))], [(b1, .cells ⟨pkT kind num ref ks cv⟩ 27 (0, 0))], k1, k2]) (Sub.emp (Sk (Sk (Sk (Sk (Sk (Sk (Sk (Sk (Sub.emp (Sd (Sk (Sk (Sk (Sk (Sk (Sub.emp (Sub.join3 (Sd (Sk (Sk (Sk (Sk (Sk (Sk (Sk (Sk (Sk Sub.nil)))))))))))))))))))))))))))) rfl), rfl⟩
  ·intro ρ r38 N38 B hB hBa hBb hp hr hr0
   have p3 : (r38 3) = .pointer (some ⟨b37, 0 + (l[0] - ((kids.length : Int))).toNat * 71 + 35, none⟩) := hp 3 (by decide) rfl
   have q65 : ρ 65 = .pointer (some ⟨b37, 0 + (l[0] - ((kids.length : Int))).toNat * 71 + 35, none⟩) := (hr 3 _ _ (by decide) rfl rfl rfl).trans p3
   obtain ⟨ρ43, rfl⟩ := Ze (uc q65 un)
   clear q65
   have hB2 := hBb rfl
   change B = [k3 ++ (kb_ ++ ku), c5_, [(b3, .cells ⟨pkT 0 0 zS (.slice none 0 0) (.slice none 0 0)⟩ 27 (0, 0))], [(b2, .cells ⟨us⟩ 27 (0, 0))], [(b1, .cells ⟨pkT kind num ref ks cv⟩ 27 (0, 0))], k1, k2] at hB2
   subst hB2
   refine Zw (M' := [(N38 0), (N38 1), (N38 2), (N38 3), (N38 4), (N38 5), (N38 6), (N38 7), [], (N38 9), (N38 10), (N38 11), (N38 12), (N38 13), [], k3 ++ (kb_ ++ ku), c5_, [(b3, .cells ⟨pkT 0 0 zS (.slice none 0 0) (.slice none 0 0)⟩ 27 (0, 0))], [(b2, .cells ⟨us⟩ 27 (0, 0))], [(b1, .cells ⟨pkT kind num ref ks cv⟩ 27 (0, 0))], k1, k2]) Sub.refl ?_
   refine Zw (M' := [(N38 0), (N38 1), (N38 2), (N38 3), (N38 4), (N38 5), (N38 6), (N38 7), [], (N38 9), (N38 10), (N38 11), (N38 12), (N38 13), [], k3, kb_, ku, c5_, [(b3, .cells ⟨pkT 0 0 zS (.slice none 0 0) (.slice none 0 0)⟩ 27 (0, 0))], [(b2, .cells ⟨us⟩ 27 (0, 0))], [(b1, .cells ⟨pkT kind num ref ks cv⟩ 27 (0, 0))], k1, k2]) (Sub.flat Sub.refl (by simp)) ?_
   refine Zd rfl (Zj Zt rfl (At.k 15 rfl hm37) (sub_sub hs37 (sub_r hpl_ hOb_.len)) ?_)
   refine Zb ?_
   exact ⟨.agg ⟨pb_⟩, [], rfl, (Sub.flat (M' := [[], (N38 0), (N38 1), (N38 2), (N38 3), (N38 4), (N38 5), (N38 6), (N38 7), [], (N38 9), (N38 10), (N38 11), (N38 12), (N38 13), [], k3 ++ (kb_ ++ ku), c5_, [(b3, .cells ⟨pkT 0 0 zS (.slice none 0 0) (.slice none 0 0)⟩ 27 (0, 0))], [(b2, .cells ⟨us⟩ 27 (0, 0))], [(b1, .cells ⟨pkT kind num ref ks cv⟩ 27 (0, 0))], k1, k2]) (Sub.emp (Sk (Sk (Sk (Sk (Sk (Sk (Sk (Sk (Sub.emp (Sd (Sk (Sk (Sk (Sk (Sk (Sub.emp (Sub.join3 (Sd (Sk (Sk (Sk (Sk (Sk (Sk (Sk (Sk (Sk Sub.nil)))))))))))))))))))))))))))) rfl), rfl⟩
  ·intro ρ r38 N38 B hB hBa hBb hp hr hr0
   have q1 : ρ 1 = v := hr0 1 (by kernel_rfl)
   obtain ⟨ρ44, rfl⟩ := Ze (uc q1 un)
   clear q1
   have hB2 := hBb rfl
   change B = [k3 ++ (kb_ ++ ku), c5_, [(b3, .cells ⟨pkT 0 0 zS (.slice none 0 0) (.slice none 0 0)⟩ 27 (0, 0))], [(b2, .cells ⟨us⟩ 27 (0, 0))], [(b1, .cells ⟨pkT kind num ref ks cv⟩ 27 (0, 0))], k1, k2] at hB2
   subst hB2
   refine Zw (M' := [(N38 0), (N38 1), (N38 2), (N38 3), (N38 4), (N38 5), (N38 6), (N38 7), [], (N38 9), (N38 10), (N38 11), (N38 12), (N38 13), [], k3 ++ (kb_ ++ ku), c5_, [(b3, .cells ⟨pkT 0 0 zS (.slice none 0 0) (.slice none 0 0)⟩ 27 (0, 0))], [(b2, .cells ⟨us⟩ 27 (0, 0))], [(b1, .cells ⟨pkT kind num ref ks cv⟩ 27 (0, 0))], k1, k2]) Sub.refl ?_
   refine Zw (M' := [(N38 0), (N38 1), (N38 2), (N38 3), (N38 4), (N38 5), (N38 6), (N38 7), [], (N38 9), (N38 10), (N38 11), (N38 12), (N38 13), [], k3, kb_, ku, c5_, [(b3, .cells ⟨pkT 0 0 zS (.slice none 0 0) (.slice none 0 0)⟩ 27 (0, 0))], [(b2, .cells ⟨us⟩ 27 (0, 0))], [(b1, .cells ⟨pkT kind num ref ks cv⟩ 27 (0, 0))], k1, k2]) (Sub.flat Sub.refl (by simp)) ?_
   refine Za (v := v) rfl (Pu.move rfl) ?_
   refine Zb ?_
   exact ⟨v, [], rfl, (Sub.flat (M' := [[], (N38 0), (N38 1), (N38 2), (N38 3), (N38 4), (N38 5), (N38 6), (N38 7), [], (N38 9), (N38 10), (N38 11), (N38 12), (N38 13), [], k3 ++ (kb_ ++ ku), c5_, [(b3, .cells ⟨pkT 0 0 zS (.slice none 0 0) (.slice none 0 0)⟩ 27 (0, 0))], [(b2, .cells ⟨us⟩ 27 (0, 0))], [(b1, .cells ⟨pkT kind num ref ks cv⟩ 27 (0, 0))], k1, k2]) (Sub.emp (Sk (Sk (Sk (Sk (Sk (Sk (Sk (Sk (Sub.emp (Sd (Sk (Sk (Sk (Sk (Sk (Sub.emp (Sub.join3 (Sd (Sk (Sk (Sk (Sk (Sk (Sk (Sk (Sk (Sk Sub.nil)))))))))))))))))))))))))))) rfl), rfl⟩
  ·intro ρ r38 N38 B hB hBa hBb hp hr hr0
   have p5 : (r38 5) = v := hp 5 (by decide) rfl
   have q67 : ρ 67 = v := (hr 5 _ _ (by decide) rfl rfl rfl).trans p5
   obtain ⟨ρ45, rfl⟩ := Ze (uc q67 un)
   clear q67
   have hB2 := hBb rfl
   change B = [k3 ++ (kb_ ++ ku), c5_, [(b3, .cells ⟨pkT 0 0 zS (.slice none 0 0) (.slice none 0 0)⟩ 27 (0, 0))], [(b2, .cells ⟨us⟩ 27 (0, 0))], [(b1, .cells ⟨pkT kind num ref ks cv⟩ 27 (0, 0))], k1, k2] at hB2
   subst hB2
   refine Zw (M' := [(N38 0), (N38 1), (N38 2), (N38 3), (N38 4), (N38 5), (N38 6), (N38 7), [], (N38 9), (N38 10), (N38 11), (N38 12), (N38 13), [], k3 ++ (kb_ ++ ku), c5_, [(b3, .cells ⟨pkT 0 0 zS (.slice none 0 0) (.slice none 0 0)⟩ 27 (0, 0))], [(b2, .cells ⟨us⟩ 27 (0, 0))], [(b1, .cells ⟨pkT kind num ref ks cv⟩ 27 (0, 0))], k1, k2]) Sub.refl ?_
   refine Zw (M' := [(N38 0), (N38 1), (N38 2), (N38 3), (N38 4), (N38 5), (N38 6), (N38 7), [], (N38 9), (N38 10), (N38 11), (N38 12), (N38 13), [], k3, kb_, ku, c5_, [(b3, .cells ⟨pkT 0 0 zS (.slice none 0 0) (.slice none 0 0)⟩ 27 (0, 0))], [(b2, .cells ⟨us⟩ 27 (0, 0))], [(b1, .cells ⟨pkT kind num ref ks cv⟩ 27 (0, 0))], k1, k2]) (Sub.flat Sub.refl (by simp)) ?_
   refine Zd rfl (Runs_slice1 hpr (by omega) Tryz.runUnderlying43 Tryz.sizeOf3 rfl rfl fun u46 hu46 => ?_)
   refine Zb ?_
   exact ⟨u46, [], rfl, (Sub.flat (M' := [[], (N38 0), (N38 1), (N38 2), (N38 3), (N38 4), (N38 5), (N38 6), (N38 7), [], (N38 9), (N38 10), (N38 11), (N38 12), (N38 13), [], k3 ++ (kb_ ++ ku), c5_, [(b3, .cells ⟨pkT 0 0 zS (.slice none 0 0) (.slice none 0 0)⟩ 27 (0, 0))], [(b2, .cells ⟨us⟩ 27 (0, 0))], [(b1, .cells ⟨pkT kind num ref ks cv⟩ 27 (0, 0))], k1, k2]) (Sub.emp (Sk (Sk (Sk (Sk (Sk (Sk (Sk (Sk (Sub.emp (Sd (Sk (Sk (Sk (Sk (Sk (Sub.emp (Sub.join3 (Sd (Sk (Sk (Sk (Sk (Sk (Sk (Sk (Sk (Sk Sub.nil)))))))))))))))))))))))))))) rfl), hu46⟩
  ·intro ρ r38 N38 B hB hBa hBb hp hr hr0
   have q5 : ρ 5 = .pointer (some ⟨b2, 0, none⟩) := hr0 5 (by kernel_rfl)
   obtain ⟨ρ47, rfl⟩ := Ze (uc q5 un)
   clear q5
   have hB2 := hBb rfl
   change B = [k3 ++ (kb_ ++ ku), c5_, [(b3, .cells ⟨pkT 0 0 zS (.slice none 0 0) (.slice none 0 0)⟩ 27 (0, 0))], [(b2, .cells ⟨us⟩ 27 (0, 0))], [(b1, .cells ⟨pkT kind num ref ks cv⟩ 27 (0, 0))], k1, k2] at hB2
   subst hB2
   refine Zw (M' := [(N38 0), (N38 1), (N38 2), (N38 3), (N38 4), (N38 5), (N38 6), (N38 7), [], (N38 9), (N38 10), (N38 11), (N38 12), (N38 13), [], k3 ++ (kb_ ++ ku), c5_, [(b3, .cells ⟨pkT 0 0 zS (.slice none 0 0) (.slice none 0 0)⟩ 27 (0, 0))], [(b2, .cells ⟨us⟩ 27 (0, 0))], [(b1, .cells ⟨pkT kind num ref ks cv⟩ 27 (0, 0))], k1, k2]) Sub.refl ?_
   refine Zw (M' := [(N38 0), (N38 1), (N38 2), (N38 3), (N38 4), (N38 5), (N38 6), (N38 7), [], (N38 9), (N38 10), (N38 11), (N38 12), (N38 13), [], k3, kb_, ku, c5_, [(b3, .cells ⟨pkT 0 0 zS (.slice none 0 0) (.slice none 0 0)⟩ 27 (0, 0))], [(b2, .cells ⟨us⟩ 27 (0, 0))], [(b1, .cells ⟨pkT kind num ref ks cv⟩ 27 (0, 0))], k1, k2]) (Sub.flat Sub.refl (by simp)) ?_
   refine Zd rfl (Zj Zt rfl (At.bx 20 rfl) (Zy hU.len) ?_)
   refine Zb ?_
   exact ⟨.agg ⟨us⟩, [], rfl, (Sub.flat (M' := [[], (N38 0), (N38 1), (N38 2), (N38 3), (N38 4), (N38 5), (N38 6), (N38 7), [], (N38 9), (N38 10), (N38 11), (N38 12), (N38 13), [], k3 ++ (kb_ ++ ku), c5_, [(b3, .cells ⟨pkT 0 0 zS (.slice none 0 0) (.slice none 0 0)⟩ 27 (0, 0))], [(b2, .cells ⟨us⟩ 27 (0, 0))], [(b1, .cells ⟨pkT kind num ref ks cv⟩ 27 (0, 0))], k1, k2]) (Sub.emp (Sk (Sk (Sk (Sk (Sk (Sk (Sk (Sk (Sub.emp (Sd (Sk (Sk (Sk (Sk (Sk (Sub.emp (Sub.join3 (Sd (Sk (Sk (Sk (Sk (Sk (Sk (Sk (Sk (Sk Sub.nil)))))))))))))))))))))))))))) rfl), rfl⟩
  ·intro ρ r38 N38 B hB hBa hBb hp hr hr0
   have p4 : (r38 4) = .agg ⟨pb_⟩ := hp 4 (by decide) rfl
   have p6 : ∀ h, pathR h v l → pathR h (r38 6) l.tail := hp 6 (by decide) rfl
   have p7 : (r38 7) = .agg ⟨us⟩ := hp 7 (by decide) rfl
   have q66 : ρ 66 = .agg ⟨pb_⟩ := (hr 4 _ _ (by decide) rfl rfl rfl).trans p4
   have q68 : ρ 68 = (r38 6) := (hr 6 _ _ (by decide) rfl rfl rfl)
   have q69 : ρ 69 = .agg ⟨us⟩ := (hr 7 _ _ (by decide) rfl rfl rfl).trans p7
   obtain ⟨ρ48, rfl⟩ := Ze (uc q66 (uc q68 (uc q69 un)))
   clear q66 q68 q69
   have hB2 := hBa rfl
   change B = [k3 ++ (kb_ ++ ku), c5_, [(b3, .cells ⟨pkT 0 0 zS (.slice none 0 0) (.slice none 0 0)⟩ 27 (0, 0))], [(b2, .cells ⟨us⟩ 27 (0, 0))], [(b1, .cells ⟨pkT kind num ref ks cv⟩ 27 (0, 0))], k1, k2] at hB2
   subst hB2
   refine Zw (M' := [(N38 0), (N38 1), (N38 2), (N38 3), (N38 4), (N38 5), (N38 6), (N38 7), [], (N38 9), (N38 10), (N38 11), (N38 12), (N38 13), [], k3 ++ (kb_ ++ ku), c5_, [(b3, .cells ⟨pkT 0 0 zS (.slice none 0 0) (.slice none 0 0)⟩ 27 (0, 0))], [(b2, .cells ⟨us⟩ 27 (0, 0))], [(b1, .cells ⟨pkT kind num ref ks cv⟩ 27 (0, 0))], k1, k2]) Sub.refl ?_
   refine Zw (M' := [(N38 0), (N38 1), (N38 2), (N38 3), (N38 4), (N38 5), (N38 6), (N38 7), [], (N38 9), (N38 10), (N38 11), (N38 12), (N38 13), [], k3, kb_, ku, c5_, [(b3, .cells ⟨pkT 0 0 zS (.slice none 0 0) (.slice none 0 0)⟩ 27 (0, 0))], [(b2, .cells ⟨us⟩ 27 (0, 0))], [(b1, .cells ⟨pkT kind num ref ks cv⟩ 27 (0, 0))], k1, k2]) (Sub.flat Sub.refl (by simp)) ?_
   refine Zw (M' := [kb_ ++ ku, (N38 0), (N38 1), (N38 2), (N38 3), (N38 4), (N38 5), (N38 6), (N38 7), [], (N38 9), (N38 10), (N38 11), (N38 12), (N38 13), [], k3, c5_, [(b3, .cells ⟨pkT 0 0 zS (.slice none 0 0) (.slice none 0 0)⟩ 27 (0, 0))], [(b2, .cells ⟨us⟩ 27 (0, 0))], [(b1, .cells ⟨pkT kind num ref ks cv⟩ 27 (0, 0))], k1, k2]) (Sub.join (Sub.cons 16 rfl (Sub.cons 16 rfl (Sk (Sk (Sk (Sk (Sk (Sk (Sk (Sk (Sk (Sk (Sk (Sk (Sk (Sk (Sk (Sk (Sk (Sk (Sk (Sk (Sk (Sk Sub.nil))))))))))))))))))))))))) ?_
   refine JL_call1 0 rfl Tryz.call70 rfl rfl (fun hin => ih (l.tail).length (by rw [List.length_tail]; omega) _ _ _ u _ _ _ _ _ rfl (pathR.mono (Hle.hu _ _) (p6 _ hpr)) (fun n hn => hpi n (List.mem_of_mem_tail hn)) hOb_ hU) rfl ?_
   rintro _ _ ⟨cs49, k49, rfl, rfl, hO49⟩
   refine Zb ?_
   exact ⟨.tuple ⟨[.agg ⟨cs49⟩, .bool (((setP l.tail cases[(l[0] - ((kids.length : Int))).toNat].2 u)).2)]⟩, k3 ++ k49, rfl, (Sub.flat (M' := [(N38 0), (N38 1), (N38 2), (N38 3), (N38 4), (N38 5), (N38 6), (N38 7), [], (N38 9), (N38 10), (N38 11), (N38 12), (N38 13), [], k3 ++ k49, c5_, [(b3, .cells ⟨pkT 0 0 zS (.slice none 0 0) (.slice none 0 0)⟩ 27 (0, 0))], [(b2, .cells ⟨us⟩ 27 (0, 0))], [(b1, .cells ⟨pkT kind num ref ks cv⟩ 27 (0, 0))], k1, k2]) (Sub.cons 1 rfl (Sub.cons 1 rfl (Sub.cons 1 rfl (Sub.cons 1 rfl (Sub.cons 1 rfl (Sub.cons 1 rfl (Sub.cons 1 rfl (Sub.cons 1 rfl (Sub.emp (Sub.cons 2 rfl (Sub.cons 2 rfl (Sub.cons 2 rfl (Sub.cons 2 rfl (Sub.cons 2 rfl (Sub.emp (Sub.join (Sub.cons 3 rfl (Sk (Sd (Sd (Sk (Sk (Sk (Sk (Sk (Sk Sub.nil)))))))))))))))))))))))))) rfl), ⟨rfl, hO49.len, hO49.ok, k49, rfl, hO49⟩⟩
  ·intro ρ r38 N38 B hB hBa hBb hp hr hr0
   have p8 : (r38 8) = .tuple ⟨[.agg ⟨(ZC (r38 8))⟩, .bool (((setP l.tail cases[(l[0] - ((kids.length : Int))).toNat].2 u)).2)]⟩ ∧ ((ZC (r38 8))).length = 36 ∧ okc ((ZC (r38 8))) ∧ ∃ kM, (N38 8) = k3 ++ kM ∧ OT ((setP l.tail cases[(l[0] - ((kids.length : Int))).toNat].2 u)).1 ((ZC (r38 8))) kM := hp 8 (by decide) rfl
   have q70 : ρ 70 = .tuple ⟨[.agg ⟨(ZC (r38 8))⟩, .bool (((setP l.tail cases[(l[0] - ((kids.length : Int))).toNat].2 u)).2)]⟩ := (hr 8 _ _ (by decide) rfl rfl rfl).trans p8.1
   obtain ⟨ρ50, rfl⟩ := Ze (uc q70 un)
   clear q70
   refine Za (v := .tuple ⟨[.agg ⟨(ZC (r38 8))⟩, .bool (((setP l.tail cases[(l[0] - ((kids.length : Int))).toNat].2 u)).2)]⟩) rfl (Pu.move rfl) ?_
   refine Zb ?_
   exact ⟨.tuple ⟨[.agg ⟨(ZC (r38 8))⟩, .bool (((setP l.tail cases[(l[0] - ((kids.length : Int))).toNat].2 u)).2)]⟩, [], rfl, (Sub.emp Sub.refl), rfl⟩
  ·intro ρ r38 N38 B hB hBa hBb hp hr hr0
   have p9 : (r38 9) = .tuple ⟨[.agg ⟨(ZC (r38 8))⟩, .bool (((setP l.tail cases[(l[0] - ((kids.length : Int))).toNat].2 u)).2)]⟩ := hp 9 (by decide) rfl
   have q61 : ρ 61 = .tuple ⟨[.agg ⟨(ZC (r38 8))⟩, .bool (((setP l.tail cases[(l[0] - ((kids.length : Int))).toNat].2 u)).2)]⟩ := (hr 9 _ _ (by decide) rfl rfl rfl).trans p9
   obtain ⟨ρ51, rfl⟩ := Ze (uc q61 un)
   clear q61
   refine Za (v := .agg ⟨(ZC (r38 8))⟩) rfl (Pu.extract rfl rfl) ?_
   refine Zb ?_
   exact ⟨.agg ⟨(ZC (r38 8))⟩, [], rfl, (Sub.emp Sub.refl), rfl⟩
  ·intro ρ r38 N38 B hB hBa hBb hp hr hr0
   have p9 : (r38 9) = .tuple ⟨[.agg ⟨(ZC (r38 8))⟩, .bool (((setP l.tail cases[(l[0] - ((kids.length : Int))).toNat].2 u)).2)]⟩ := hp 9 (by decide) rfl
   have q61 : ρ 61 = .tuple ⟨[.agg ⟨(ZC (r38 8))⟩, .bool (((setP l.tail cases[(l[0] - ((kids.length : Int))).toNat].2 u)).2)]⟩ := (hr 9 _ _ (by decide) rfl rfl rfl).trans p9
   obtain ⟨ρ52, rfl⟩ := Ze (uc q61 un)
   clear q61
   refine Za (v := .bool (((setP l.tail cases[(l[0] - ((kids.length : Int))).toNat].2 u)).2)) rfl (Pu.extract rfl rfl) ?_
   refine Zb ?_
   exact ⟨.bool (((setP l.tail cases[(l[0] - ((kids.length : Int))).toNat].2 u)).2), [], rfl, (Sub.emp Sub.refl), rfl⟩
  ·intro ρ r38 N38 B hB hBa hBb hp hr hr0
   have p0 : (r38 0) = .pointer (some ⟨b37, 0 + (l[0] - ((kids.length : Int))).toNat * 71, none⟩) := hp 0 (by decide) rfl
   have q62 : ρ 62 = .pointer (some ⟨b37, 0 + (l[0] - ((kids.length : Int))).toNat * 71, none⟩) := (hr 0 _ _ (by decide) rfl rfl rfl).trans p0
   obtain ⟨ρ53, rfl⟩ := Ze (uc q62 un)
   clear q62
   refine Za (v := .pointer (some ⟨b37, 0 + (l[0] - ((kids.length : Int))).toNat * 71, none⟩)) rfl (Pu.nilCheck rfl) ?_
   refine Zb ?_
   exact ⟨.pointer (some ⟨b37, 0 + (l[0] - ((kids.length : Int))).toNat * 71, none⟩), [], rfl, (Sub.emp Sub.refl), rfl⟩
  ·intro ρ r38 N38 B hB hBa hBb hp hr hr0
   have p12 : (r38 12) = .pointer (some ⟨b37, 0 + (l[0] - ((kids.length : Int))).toNat * 71, none⟩) := hp 12 (by decide) rfl
   have q73 : ρ 73 = .pointer (some ⟨b37, 0 + (l[0] - ((kids.length : Int))).toNat * 71, none⟩) := (hr 12 _ _ (by decide) rfl rfl rfl).trans p12
   obtain ⟨ρ54, rfl⟩ := Ze (uc q73 un)
   clear q73
   refine Za (v := .pointer (some ⟨b37, 0 + (l[0] - ((kids.length : Int))).toNat * 71 + 35, none⟩)) rfl (fa34_1 rfl rfl) ?_
   refine Zb ?_
   exact ⟨.pointer (some ⟨b37, 0 + (l[0] - ((kids.length : Int))).toNat * 71 + 35, none⟩), [], rfl, (Sub.emp Sub.refl), rfl⟩
  ·intro ρ r38 N38 B hB hBa hBb hp hr hr0
   have p8 : (r38 8) = .tuple ⟨[.agg ⟨(ZC (r38 8))⟩, .bool (((setP l.tail cases[(l[0] - ((kids.length : Int))).toNat].2 u)).2)]⟩ ∧ ((ZC (r38 8))).length = 36 ∧ okc ((ZC (r38 8))) ∧ ∃ kM, (N38 8) = k3 ++ kM ∧ OT ((setP l.tail cases[(l[0] - ((kids.length : Int))).toNat].2 u)).1 ((ZC (r38 8))) kM := hp 8 (by decide) rfl
   have p10 : (r38 10) = .agg ⟨(ZC (r38 8))⟩ := hp 10 (by decide) rfl
   have p13 : (r38 13) = .pointer (some ⟨b37, 0 + (l[0] - ((kids.length : Int))).toNat * 71 + 35, none⟩) := hp 13 (by decide) rfl
   have q71 : ρ 71 = .agg ⟨(ZC (r38 8))⟩ := (hr 10 _ _ (by decide) rfl rfl rfl).trans p10
   have q74 : ρ 74 = .pointer (some ⟨b37, 0 + (l[0] - ((kids.length : Int))).toNat * 71 + 35, none⟩) := (hr 13 _ _ (by decide) rfl rfl rfl).trans p13
   obtain ⟨ρ55, rfl⟩ := Ze (uc q71 (uc q74 un))
   clear q71 q74
   have hB2 := hBa rfl
   change B = [(N38 8), c5_, [(b3, .cells ⟨pkT 0 0 zS (.slice none 0 0) (.slice none 0 0)⟩ 27 (0, 0))], [(b2, .cells ⟨us⟩ 27 (0, 0))], [(b1, .cells ⟨pkT kind num ref ks cv⟩ 27 (0, 0))], k1, k2] at hB2
   subst hB2
   refine Zw (M' := [(N38 0), (N38 1), (N38 2), (N38 3), (N38 4), (N38 5), (N38 6), (N38 7), [], (N38 9), (N38 10), (N38 11), (N38 12), (N38 13), [], (N38 8), c5_, [(b3, .cells ⟨pkT 0 0 zS (.slice none 0 0) (.slice none 0 0)⟩ 27 (0, 0))], [(b2, .cells ⟨us⟩ 27 (0, 0))], [(b1, .cells ⟨pkT kind num ref ks cv⟩ 27 (0, 0))], k1, k2]) Sub.refl ?_
   obtain ⟨kM38_8, hNM38_8, hOM38_8⟩ := p8.2.2.2
   refine Zw (M' := [(N38 0), (N38 1), (N38 2), (N38 3), (N38 4), (N38 5), (N38 6), (N38 7), [], (N38 9), (N38 10), (N38 11), (N38 12), (N38 13), [], k3 ++ kM38_8, c5_, [(b3, .cells ⟨pkT 0 0 zS (.slice none 0 0) (.slice none 0 0)⟩ 27 (0, 0))], [(b2, .cells ⟨us⟩ 27 (0, 0))], [(b1, .cells ⟨pkT kind num ref ks cv⟩ 27 (0, 0))], k1, k2]) (Sk (Sk (Sk (Sk (Sk (Sk (Sk (Sk (Sub.emp (Sd (Sk (Sk (Sk (Sk (Sk (Sub.emp (Sd (Se hNM38_8 (Sk (Sk (Sk (Sk (Sk (Sk Sub.nil)))))))))))))))))))))))) ?_
   refine Zw (M' := [(N38 0), (N38 1), (N38 2), (N38 3), (N38 4), (N38 5), (N38 6), (N38 7), [], (N38 9), (N38 10), (N38 11), (N38 12), (N38 13), [], k3, kM38_8, c5_, [(b3, .cells ⟨pkT 0 0 zS (.slice none 0 0) (.slice none 0 0)⟩ 27 (0, 0))], [(b2, .cells ⟨us⟩ 27 (0, 0))], [(b1, .cells ⟨pkT kind num ref ks cv⟩ 27 (0, 0))], k1, k2]) (Sub.flat Sub.refl (by simp)) ?_
   refine Zd rfl (Runs_storeOwnP (i := 15) (j := (l[0] - ((kids.length : Int))).toNat) (b := b37) (e := pa_ ++ pb_) (e2 := pa_ ++ ((ZC (r38 8)))) Zt rfl ho3 ⟨_, _, hv37⟩ rfl hE5_ rfl rfl p8.2.1 p8.2.2.1 (spl_r (n := 35) (i := 0) hpl_ (spl_a (n := 36) hOb_.len p8.2.1)) (len_app hpl_ p8.2.1) fun k56 ho56 => ?_)
   refine Zb ?_
   exact ⟨undef, k56 ++ kM38_8, rfl, (Sub.flat (M' := [(N38 0), (N38 1), (N38 2), (N38 3), (N38 4), (N38 5), (N38 6), (N38 7), [], (N38 9), (N38 10), (N38 11), (N38 12), (N38 13), [], k56 ++ kM38_8, c5_, [(b3, .cells ⟨pkT 0 0 zS (.slice none 0 0) (.slice none 0 0)⟩ 27 (0, 0))], [(b2, .cells ⟨us⟩ 27 (0, 0))], [(b1, .cells ⟨pkT kind num ref ks cv⟩ 27 (0, 0))], k1, k2]) (Sk (Sk (Sk (Sk (Sk (Sk (Sk (Sk (Sub.emp (Sd (Sk (Sk (Sk (Sk (Sk (Sub.emp (Sub.join (Sd (Sk (Sk (Sk (Sk (Sk (Sk (Sk (Sk Sub.nil)))))))))))))))))))))))))) rfl), ⟨k56, kM38_8, rfl, ho56, hOM38_8⟩⟩
  intro ρ r38 N38 hp hr hr0
  have p8 : (r38 8) = .tuple ⟨[.agg ⟨(ZC (r38 8))⟩, .bool (((setP l.tail cases[(l[0] - ((kids.length : Int))).toNat].2 u)).2)]⟩ ∧ ((ZC (r38 8))).length = 36 ∧ okc ((ZC (r38 8))) ∧ ∃ kM, (N38 8) = k3 ++ kM ∧ OT ((setP l.tail cases[(l[0] - ((kids.length : Int))).toNat].2 u)).1 ((ZC (r38 8))) kM := hp 8 (by decide)
  have p14 : ∃ kR kS, (N38 14) = kR ++ kS ∧ Own 34 71 cv (es'.set ((l[0] - ((kids.length : Int))).toNat) (pa_ ++ ((ZC (r38 8))))) kR ∧ OT ((setP l.tail cases[(l[0] - ((kids.length : Int))).toNat].2 u)).1 ((ZC (r38 8))) kS := hp 14 (by decide)
  have q3 : ρ 3 = .pointer (some ⟨b1, 0, none⟩) := hr0 3 (by kernel_rfl)
  have q6 : ρ 6 = .pointer (some ⟨b3, 0, none⟩) := hr0 6 (by kernel_rfl)
  have q7 : ρ 7 = .bool false := hr0 7 (by kernel_rfl)
  have q9 : ρ 9 = .bool false := hr0 9 (by kernel_rfl)
  have q72 : ρ 72 = .bool (((setP l.tail cases[(l[0] - ((kids.length : Int))).toNat].2 u)).2) := (hr 11 _ _ (by decide) rfl rfl).trans (hp 11 (by decide))
  obtain ⟨ρ57, rfl⟩ := Ze (uc q3 (uc q6 (uc q7 (uc q9 (uc q72 un)))))
  clear q3 q6 q7 q9 q72
  have p38_8 := p8; have p38_14 := p14
  clear hp hr hr0 p8 p14
  refine Zw (M' := [(N38 0), (N38 1), (N38 2), (N38 3), (N38 4), (N38 5), (N38 6), (N38 7), [], (N38 9), (N38 10), (N38 11), (N38 12), (N38 13), [], (N38 14), c5_, [(b3, .cells ⟨pkT 0 0 zS (.slice none 0 0) (.slice none 0 0)⟩ 27 (0, 0))], [(b2, .cells ⟨us⟩ 27 (0, 0))], [(b1, .cells ⟨pkT kind num ref ks cv⟩ 27 (0, 0))], k1, k2]) Sub.refl ?_
  obtain ⟨kR38_14, kS38_14, hNM38_14, hRM38_14, hOS38_14⟩ := p38_14
  refine Zw (M' := [kR38_14 ++ kS38_14, c5_, [(b3, .cells ⟨pkT 0 0 zS (.slice none 0 0) (.slice none 0 0)⟩ 27 (0, 0))], [(b2, .cells ⟨us⟩ 27 (0, 0))], [(b1, .cells ⟨pkT kind num ref ks cv⟩ 27 (0, 0))], k1, k2]) (Sd (Sd (Sd (Sd (Sd (Sd (Sd (Sd (Sd (Sd (Sd (Sd (Sd (Sd (Sd (Se hNM38_14 (Sk (Sk (Sk (Sk (Sk (Sk Sub.nil)))))))))))))))))))))) ?_
  refine Zw (M' := [kR38_14, kS38_14, c5_, [(b3, .cells ⟨pkT 0 0 zS (.slice none 0 0) (.slice none 0 0)⟩ 27 (0, 0))], [(b2, .cells ⟨us⟩ 27 (0, 0))], [(b1, .cells ⟨pkT kind num ref ks cv⟩ 27 (0, 0))], k1, k2]) (Sub.flat Sub.refl (by simp)) ?_
  show JL _ _ _ [_] _ _ _
  refine Za (v := .bool (((setP l.tail cases[(l[0] - ((kids.length : Int))).toNat].2 u)).2)) rfl (Pu.assign rfl) ?_
  refine Zb ?_
  refine Zg (Zc ?_)
  refine Zd rfl (Zj Zt rfl (At.bx 5 rfl) (pkT_a ..) ?_)
  refine Za (v := .bool (((setP l.tail cases[(l[0] - ((kids.length : Int))).toNat].2 u)).2)) rfl (Pu.move rfl) ?_
  refine Zd rfl (Zi 3 (vs := pkT kind num ref ks cv) (l := pkT kind num ref ks cv) Zt rfl rfl rfl rfl rfl (pkT_ok ho1.one ho3.one) (pkT_s ..) ?_)
  refine Za (v := .bool (((setP l.tail cases[(l[0] - ((kids.length : Int))).toNat].2 u)).2)) rfl (Pu.assign rfl) ?_
  refine Zb ?_
  refine Zo ?_
  obtain ⟨c6_, hOs_, hP6_⟩ := hR5_ _ _ _ hOS38_14
  refine ⟨.tuple ⟨[.agg ⟨pkT kind num ref ks cv⟩, .bool (((setP l.tail cases[(l[0] - ((kids.length : Int))).toNat].2 u)).2)]⟩, [k1 ++ (k2 ++ (kR38_14 ++ c6_))], Ret.two rfl (RV.cell Zt rfl (At.bx 3 rfl) (pkT_a ..)) (RV.tmp rfl), (Sub.mid4 (Sub.flat (M'' := [k1 ++ (k2 ++ (kR38_14 ++ (kS38_14 ++ c5_)))]) (Sub.join5 (Sub.cons 6 rfl (Sub.cons 6 rfl (Sk (Sk (Sk Sub.nil)))))) (by simp)) hP6_), ?_⟩
  have hs := setP_pos (l := l) (by omega) kind num ref kids cases u
  rw [if_neg (by omega), if_neg (by omega), if_pos (by omega), getD_at (by omega)] at hs
  exact ⟨_, _, by rw [hs], rfl, by rw [hs]; exact OT_mk.2 ⟨_, _, _, _, _, _, _, _, rfl, hk, hn, ho1, ho2, hRM38_14, hOs_, rfl, hlK, by simpa using hlC⟩⟩
 replace h35 := df h35
 refine Zq ?_
 refine Zg (Zc ?_)
 refine Zd rfl (Zj Zt rfl (At.bx 2 rfl) (pkT_a ..) ?_)
 refine Za (v := .bool false) rfl (Pu.move rfl) ?_
 refine Zd rfl (Zi 0 (vs := pkT kind num ref ks cv) (l := pkT kind num ref ks cv) Zt rfl rfl rfl rfl rfl (pkT_ok ho1.one ho3.one) (pkT_s ..) ?_)
 refine Za (v := .bool false) rfl (Pu.assign rfl) ?_
 refine Zb ?_
 refine Zo ?_
 refine ⟨.tuple ⟨[.agg ⟨pkT kind num ref ks cv⟩, .bool false]⟩, [k1 ++ (k2 ++ (k3 ++ k4))], Ret.two rfl (RV.cell Zt rfl (At.bx 0 rfl) (pkT_a ..)) (RV.tmp rfl), (Sub.join4 (Sd (Sd (Sd (Sk (Sk (Sk (Sk Sub.nil)))))))), ?_⟩
 have hs := setP_pos (l := l) (by omega) kind num ref kids cases u
 have hs2 : setP l (.mk kind num ref kids cases) u = (.mk kind num ref kids cases, false) := by rw [hs]; (repeat' split) <;> first | rfl | omega
 exact ⟨_, _, by rw [hs2], rfl, by rw [hs2]; exact hO⟩
end Go.Proofs.YtdeinimmmjichaaGreat.Hs
