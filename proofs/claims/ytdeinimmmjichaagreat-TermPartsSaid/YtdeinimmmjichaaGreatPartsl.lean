import Derived.Test.YtdeinimmmjichaaGreatPartsk
/-! Walks, printed by a program of this session's own (gen.py). -/
namespace Go.Proofs.YtdeinimmmjichaaGreat.Hs
open Go Go.Proofs
set_option maxRecDepth 100000
set_option linter.unusedVariables false
set_option linter.unusedSimpArgs false
attribute [local irreducible] JL J CT wlo
set_option maxHeartbeats 2000000 in
theorem putPP_ct (t u : Tm) (l : List Int) (cs us : List Value) (v : Value) (H : Heap) (ht : RT H cs t) (hu1 : RT H us u) (hpr : pathR H v l) (hpi : ∀ n ∈ l, inI n) : CT Tryz.prog 30 ⟨[.agg ⟨cs⟩, v, .agg ⟨us⟩]⟩ [] H (fun v N => ∃ cs k, v = .tuple ⟨[.agg ⟨cs⟩, .int .i64 (putE t l u).2]⟩ ∧ N = [k] ∧ OT (putE t l u).1 cs k) := by
 refine Zr Tryz.func30 rfl rfl ?_
 refine Zg (Zc ?_)
 refine Zd rfl (Zx (l := cs) rfl rfl fun b1 => ?_)
 refine Zd rfl (Zx (l := us) rfl rfl fun b2 => ?_)
 refine Zd rfl (Zn (l := pkT 0 0 zS (.slice none 0 0) (.slice none 0 0)) Tryz.zeroValue27 rfl fun b3 => ?_)
 refine Za (v := .int .i64 0) rfl (Pu.assign rfl) ?_
 refine Zb ?_
 refine Zg ?_
 refine Zg (Zc ?_)
 refine Zd rfl (Zj Zt rfl (At.bx 2 rfl) (Zy (Zv ht)) ?_)
 refine Zd rfl (Zj Zt rfl (At.bx 1 rfl) (Zy (Zv hu1)) ?_)
 refine Zd rfl (ZA (vs := [.agg ⟨cs⟩, .agg ⟨us⟩]) [cs, us] Tryz.runUnderlying24 el27 rfl rfl (by intro e he; simp only [List.mem_cons, List.not_mem_nil, or_false] at he; rcases he with rfl | rfl <;> first | exact (Zv ht) | exact (Zv hu1)) rfl (by decide) fun b4 k4 ho4 hk4 => ?_)
 refine Zk rfl Tryz.call50 rfl (fun hin => right_ct _ _ _ (Own.rd2 ho4 (hin 0 _ rfl) (RT.mono (Hle.hu _ _) ht) (RT.mono (Hle.hu _ _) hu1))) rfl ?_
 rintro _ _ ⟨rfl, rfl⟩
 refine Za (v := .int .i64 (ZD [t, u])) rfl (Pu.assign rfl) ?_
 refine Zb ?_
 refine Zg (Zc ?_)
 refine Za (v := .int .i64 (ZD [t, u])) rfl (Pu.move rfl) ?_
 refine Za (v := .bool (!decide (ZD [t, u] = 0))) rfl (Pu.neq rfl rfl) ?_
 refine Zb ?_
 refine Zl (b := !decide (ZD [t, u] = 0)) rfl (fun h5 => ?_) (fun h5 => ?_)
 ·replace h5 := nt h5
  replace h5 := df h5
  refine Zg (Zc ?_)
  refine Za (v := .agg ⟨pkT 0 0 zS (.slice none 0 0) (.slice none 0 0)⟩) rfl (Pu.build (pv := []) (l := pkT 0 0 zS (.slice none 0 0) (.slice none 0 0)) rfl (bld27_ )) ?_
  refine Za (v := .int .i64 (ZD [t, u])) rfl (Pu.move rfl) ?_
  refine Zd rfl (Zi 1 (vs := pkT 0 0 zS (.slice none 0 0) (.slice none 0 0)) (l := pkT 0 0 zS (.slice none 0 0) (.slice none 0 0)) Zt rfl rfl rfl rfl rfl (pkT_ok rfl rfl) (pkT_s ..) ?_)
  refine Za (v := .int .i64 (ZD [t, u])) rfl (Pu.assign rfl) ?_
  refine Zb ?_
  refine Zo ?_
  refine ⟨.tuple ⟨[.agg ⟨pkT 0 0 zS (.slice none 0 0) (.slice none 0 0)⟩, .int .i64 (ZD [t, u])]⟩, [[]], Ret.two rfl (RV.cell Zt rfl (At.bx 1 rfl) (pkT_a ..)) (RV.tmp rfl), (Sub.emp Sub.nil), ?_⟩
  have hx : putE t l u = (zT, ZD [t, u]) := by rw [putE, if_neg (by assumption)]
  exact ⟨_, _, by rw [hx], rfl, by rw [hx]; exact OT_zero⟩
 replace h5 := nf h5
 replace h5 := dt h5
 refine Zq ?_
 refine Zg ?_
 refine J_sub (M' := [([(b1, .cells ⟨cs⟩ 27 (0, 0))]) ++ ([(b3, .cells ⟨pkT 0 0 zS (.slice none 0 0) (.slice none 0 0)⟩ 27 (0, 0))]), k4, [(b2, .cells ⟨us⟩ 27 (0, 0))]]) (Sub.join (Sub.cons 3 rfl (Sub.cons 1 rfl (Sk (Sk Sub.nil))))) ?_
 refine J_drawM mixed #[0, 1, 0, 0, 11, 31, 63, 127, 127, 255, 1023] 10 0 [1, 4, 5, 9] rfl (by kernel_rfl) (by decide) rfl (by kernel_rfl) (fun i r6 N6 => match i with | 0 => (r6 0) = .agg ⟨cs⟩ | 1 => (r6 1) = .agg ⟨(cel (r6 1))⟩ ∧ ((cel (r6 1))).length = 36 ∧ okc ((cel (r6 1))) ∧ ∃ kA, (N6 1) = ([(b1, .cells ⟨cs⟩ 27 (0, 0))]) ++ (([(b3, .cells ⟨pkT 0 0 zS (.slice none 0 0) (.slice none 0 0)⟩ 27 (0, 0))]) ++ kA) ∧ OT t ((cel (r6 1))) kA | 2 => (r6 2) = v | 3 => (r6 3) = .agg ⟨us⟩ | 4 => (r6 4) = .agg ⟨(cel (r6 4))⟩ ∧ ((cel (r6 4))).length = 36 ∧ okc ((cel (r6 4))) ∧ ∃ kA kB, (N6 4) = ([(b1, .cells ⟨cs⟩ 27 (0, 0))]) ++ (([(b3, .cells ⟨pkT 0 0 zS (.slice none 0 0) (.slice none 0 0)⟩ 27 (0, 0))]) ++ (kA ++ kB)) ∧ OT t ((cel (r6 1))) kA ∧ OT u ((cel (r6 4))) kB | 5 => (r6 5) = .tuple ⟨[.agg ⟨(ZC (r6 5))⟩, .bool ((setP l t u).2)]⟩ ∧ ((ZC (r6 5))).length = 36 ∧ okc ((ZC (r6 5))) ∧ ∃ kM, (N6 5) = ([(b1, .cells ⟨cs⟩ 27 (0, 0))]) ++ (([(b3, .cells ⟨pkT 0 0 zS (.slice none 0 0) (.slice none 0 0)⟩ 27 (0, 0))]) ++ kM) ∧ OT (setP l t u).1 ((ZC (r6 5))) kM | 6 => (r6 6) = .tuple ⟨[.agg ⟨(ZC (r6 5))⟩, .bool ((setP l t u).2)]⟩ | 7 => (r6 7) = .agg ⟨(ZC (r6 5))⟩ | 8 => (r6 8) = .bool ((setP l t u).2) | 9 => ∃ kS, (N6 9) = ([(b1, .cells ⟨(ZC (r6 5))⟩ 27 (0, 0))]) ++ (([(b3, .cells ⟨pkT 0 0 zS (.slice none 0 0) (.slice none 0 0)⟩ 27 (0, 0))]) ++ kS) ∧ OT (setP l t u).1 ((ZC (r6 5))) kS | _ => True) ⟨?_, ?_, ?_, ?_, ?_, ?_, ?_, ?_, ?_, ?_, trivial⟩ ?_
 ·intro ρ r6 N6 B hB hBa hBb hp hr hr0
  have q3 : ρ 3 = .pointer (some ⟨b1, 0, none⟩) := hr0 3 (by kernel_rfl)
  obtain ⟨ρ7, rfl⟩ := Ze (uc q3 un)
  clear q3
  have hB2 := hBb rfl
  change B = [([(b1, .cells ⟨cs⟩ 27 (0, 0))]) ++ ([(b3, .cells ⟨pkT 0 0 zS (.slice none 0 0) (.slice none 0 0)⟩ 27 (0, 0))]), k4, [(b2, .cells ⟨us⟩ 27 (0, 0))]] at hB2
  subst hB2
  refine Zw (M' := [(N6 0), [], (N6 2), (N6 3), [], [], (N6 6), (N6 7), (N6 8), [], ([(b1, .cells ⟨cs⟩ 27 (0, 0))]) ++ ([(b3, .cells ⟨pkT 0 0 zS (.slice none 0 0) (.slice none 0 0)⟩ 27 (0, 0))]), k4, [(b2, .cells ⟨us⟩ 27 (0, 0))]]) Sub.refl ?_
  refine Zw (M' := [(N6 0), [], (N6 2), (N6 3), [], [], (N6 6), (N6 7), (N6 8), [], [(b1, .cells ⟨cs⟩ 27 (0, 0))], [(b3, .cells ⟨pkT 0 0 zS (.slice none 0 0) (.slice none 0 0)⟩ 27 (0, 0))], k4, [(b2, .cells ⟨us⟩ 27 (0, 0))]]) (Sub.flat Sub.refl (by simp)) ?_
  refine Zd rfl (Zj Zt rfl (At.bx 10 rfl) (Zy (Zv ht)) ?_)
  refine Zb ?_
  exact ⟨.agg ⟨cs⟩, [], rfl, (Sub.flat (M' := [[], (N6 0), [], (N6 2), (N6 3), [], [], (N6 6), (N6 7), (N6 8), [], ([(b1, .cells ⟨cs⟩ 27 (0, 0))]) ++ ([(b3, .cells ⟨pkT 0 0 zS (.slice none 0 0) (.slice none 0 0)⟩ 27 (0, 0))]), k4, [(b2, .cells ⟨us⟩ 27 (0, 0))]]) (Sub.emp (Sk (Sub.emp (Sd (Sk (Sk (Sub.emp (Sub.emp (Sd (Sd (Sk (Sk (Sk (Sub.emp (Sub.join (Sd (Sk (Sk (Sk (Sk Sub.nil)))))))))))))))))))) rfl), rfl⟩
 ·intro ρ r6 N6 B hB hBa hBb hp hr hr0
  have p0 : (r6 0) = .agg ⟨cs⟩ := hp 0 (by decide) rfl
  have q19 : ρ 19 = .agg ⟨cs⟩ := (hr 0 _ _ (by decide) rfl rfl rfl).trans p0
  obtain ⟨ρ8, rfl⟩ := Ze (uc q19 un)
  clear q19
  have hB2 := hBa rfl
  change B = [([(b1, .cells ⟨cs⟩ 27 (0, 0))]) ++ ([(b3, .cells ⟨pkT 0 0 zS (.slice none 0 0) (.slice none 0 0)⟩ 27 (0, 0))]), k4, [(b2, .cells ⟨us⟩ 27 (0, 0))]] at hB2
  subst hB2
  refine Zw (M' := [(N6 0), [], (N6 2), (N6 3), [], [], (N6 6), (N6 7), (N6 8), [], ([(b1, .cells ⟨cs⟩ 27 (0, 0))]) ++ ([(b3, .cells ⟨pkT 0 0 zS (.slice none 0 0) (.slice none 0 0)⟩ 27 (0, 0))]), k4, [(b2, .cells ⟨us⟩ 27 (0, 0))]]) Sub.refl ?_
  refine Zw (M' := [(N6 0), [], (N6 2), (N6 3), [], [], (N6 6), (N6 7), (N6 8), [], [(b1, .cells ⟨cs⟩ 27 (0, 0))], [(b3, .cells ⟨pkT 0 0 zS (.slice none 0 0) (.slice none 0 0)⟩ 27 (0, 0))], k4, [(b2, .cells ⟨us⟩ 27 (0, 0))]]) (Sub.flat Sub.refl (by simp)) ?_
  refine Zk rfl Tryz.call69 rfl (fun hin => ownQ_ct _ _ _ (RT.mono (Hle.hu _ _) ht) (by have := (checkT_ok (rightT2 ‹ZD [t, u] = 0›).1).1; omega) (checkT_ok (rightT2 ‹ZD [t, u] = 0›).1).2.1) rfl ?_
  rintro _ _ ⟨cs9, k9, rfl, rfl, hO9⟩
  refine Zb ?_
  exact ⟨.agg ⟨cs9⟩, ([(b1, .cells ⟨cs⟩ 27 (0, 0))]) ++ (([(b3, .cells ⟨pkT 0 0 zS (.slice none 0 0) (.slice none 0 0)⟩ 27 (0, 0))]) ++ k9), rfl, (Sub.flat (M' := [(N6 0), [], (N6 2), (N6 3), [], [], (N6 6), (N6 7), (N6 8), [], ([(b1, .cells ⟨cs⟩ 27 (0, 0))]) ++ (([(b3, .cells ⟨pkT 0 0 zS (.slice none 0 0) (.slice none 0 0)⟩ 27 (0, 0))]) ++ k9), k4, [(b2, .cells ⟨us⟩ 27 (0, 0))]]) (Sub.cons 1 rfl (Sub.emp (Sub.cons 2 rfl (Sub.cons 2 rfl (Sub.emp (Sub.emp (Sub.cons 4 rfl (Sub.cons 4 rfl (Sub.cons 4 rfl (Sub.emp (Sub.join3 (Sub.cons 5 rfl (Sub.cons 5 rfl (Sk (Sd (Sd (Sd (Sd (Sk (Sk Sub.nil)))))))))))))))))))) rfl), ⟨rfl, hO9.len, hO9.ok, k9, rfl, (by have hO_ := hO9; rw [own_eq (checkT_ok (rightT2 ‹ZD [t, u] = 0›).1).2.2.1] at hO_; exact hO_)⟩⟩
 ·intro ρ r6 N6 B hB hBa hBb hp hr hr0
  have q1 : ρ 1 = v := hr0 1 (by kernel_rfl)
  obtain ⟨ρ10, rfl⟩ := Ze (uc q1 un)
  clear q1
  refine Za (v := v) rfl (Pu.move rfl) ?_
  refine Zb ?_
  exact ⟨v, [], rfl, (Sub.emp Sub.refl), rfl⟩
 ·intro ρ r6 N6 B hB hBa hBb hp hr hr0
  have q5 : ρ 5 = .pointer (some ⟨b2, 0, none⟩) := hr0 5 (by kernel_rfl)
  obtain ⟨ρ11, rfl⟩ := Ze (uc q5 un)
  clear q5
  refine Zd rfl (Zj Zt rfl (At.bx 12 (Zu ((hB 2 (by decide)).trans rfl))) (Zy (Zv hu1)) ?_)
  refine Zb ?_
  exact ⟨.agg ⟨us⟩, [], rfl, (Sub.emp Sub.refl), rfl⟩
 ·intro ρ r6 N6 B hB hBa hBb hp hr hr0
  have p1 : (r6 1) = .agg ⟨(cel (r6 1))⟩ ∧ ((cel (r6 1))).length = 36 ∧ okc ((cel (r6 1))) ∧ ∃ kA, (N6 1) = ([(b1, .cells ⟨cs⟩ 27 (0, 0))]) ++ (([(b3, .cells ⟨pkT 0 0 zS (.slice none 0 0) (.slice none 0 0)⟩ 27 (0, 0))]) ++ kA) ∧ OT t ((cel (r6 1))) kA := hp 1 (by decide) rfl
  have p3 : (r6 3) = .agg ⟨us⟩ := hp 3 (by decide) rfl
  have q22 : ρ 22 = .agg ⟨us⟩ := (hr 3 _ _ (by decide) rfl rfl rfl).trans p3
  obtain ⟨ρ12, rfl⟩ := Ze (uc q22 un)
  clear q22
  have hB2 := hBa rfl
  change B = [(N6 1), k4, [(b2, .cells ⟨us⟩ 27 (0, 0))]] at hB2
  subst hB2
  refine Zw (M' := [(N6 0), [], (N6 2), (N6 3), [], [], (N6 6), (N6 7), (N6 8), [], (N6 1), k4, [(b2, .cells ⟨us⟩ 27 (0, 0))]]) Sub.refl ?_
  obtain ⟨kA6_1, hNA6_1, hOA6_1⟩ := p1.2.2.2
  refine Zw (M' := [(N6 0), [], (N6 2), (N6 3), [], [], (N6 6), (N6 7), (N6 8), [], ([(b1, .cells ⟨cs⟩ 27 (0, 0))]) ++ (([(b3, .cells ⟨pkT 0 0 zS (.slice none 0 0) (.slice none 0 0)⟩ 27 (0, 0))]) ++ kA6_1), k4, [(b2, .cells ⟨us⟩ 27 (0, 0))]]) (Sk (Sub.emp (Sd (Sk (Sk (Sub.emp (Sub.emp (Sd (Sd (Sk (Sk (Sk (Sub.emp (Sd (Se hNA6_1 (Sk (Sk Sub.nil))))))))))))))))) ?_
  refine Zw (M' := [(N6 0), [], (N6 2), (N6 3), [], [], (N6 6), (N6 7), (N6 8), [], [(b1, .cells ⟨cs⟩ 27 (0, 0))], [(b3, .cells ⟨pkT 0 0 zS (.slice none 0 0) (.slice none 0 0)⟩ 27 (0, 0))], kA6_1, k4, [(b2, .cells ⟨us⟩ 27 (0, 0))]]) (Sub.flat Sub.refl (by simp)) ?_
  refine Zk rfl Tryz.call69 rfl (fun hin => ownQ_ct _ _ _ (RT.mono (Hle.hu _ _) hu1) (by have := (checkT_ok (rightT2 ‹ZD [t, u] = 0›).2).1; omega) (checkT_ok (rightT2 ‹ZD [t, u] = 0›).2).2.1) rfl ?_
  rintro _ _ ⟨cs13, k13, rfl, rfl, hO13⟩
  refine Zb ?_
  exact ⟨.agg ⟨cs13⟩, ([(b1, .cells ⟨cs⟩ 27 (0, 0))]) ++ (([(b3, .cells ⟨pkT 0 0 zS (.slice none 0 0) (.slice none 0 0)⟩ 27 (0, 0))]) ++ (kA6_1 ++ k13)), rfl, (Sub.flat (M' := [(N6 0), [], (N6 2), (N6 3), [], [], (N6 6), (N6 7), (N6 8), [], ([(b1, .cells ⟨cs⟩ 27 (0, 0))]) ++ (([(b3, .cells ⟨pkT 0 0 zS (.slice none 0 0) (.slice none 0 0)⟩ 27 (0, 0))]) ++ (kA6_1 ++ k13)), k4, [(b2, .cells ⟨us⟩ 27 (0, 0))]]) (Sub.cons 1 rfl (Sub.emp (Sub.cons 2 rfl (Sub.cons 2 rfl (Sub.emp (Sub.emp (Sub.cons 4 rfl (Sub.cons 4 rfl (Sub.cons 4 rfl (Sub.emp (Sub.join4 (Sub.cons 5 rfl (Sub.cons 5 rfl (Sub.cons 5 rfl (Sk (Sd (Sd (Sd (Sd (Sk (Sk Sub.nil))))))))))))))))))))) rfl), ⟨rfl, hO13.len, hO13.ok, kA6_1, k13, rfl, hOA6_1, (by have hO_ := hO13; rw [own_eq (checkT_ok (rightT2 ‹ZD [t, u] = 0›).2).2.2.1] at hO_; exact hO_)⟩⟩
 ·intro ρ r6 N6 B hB hBa hBb hp hr hr0
  have p1 : (r6 1) = .agg ⟨(cel (r6 1))⟩ ∧ ((cel (r6 1))).length = 36 ∧ okc ((cel (r6 1))) ∧ ∃ kA, (N6 1) = ([(b1, .cells ⟨cs⟩ 27 (0, 0))]) ++ (([(b3, .cells ⟨pkT 0 0 zS (.slice none 0 0) (.slice none 0 0)⟩ 27 (0, 0))]) ++ kA) ∧ OT t ((cel (r6 1))) kA := hp 1 (by decide) rfl
  have p2 : (r6 2) = v := hp 2 (by decide) rfl
  have p4 : (r6 4) = .agg ⟨(cel (r6 4))⟩ ∧ ((cel (r6 4))).length = 36 ∧ okc ((cel (r6 4))) ∧ ∃ kA kB, (N6 4) = ([(b1, .cells ⟨cs⟩ 27 (0, 0))]) ++ (([(b3, .cells ⟨pkT 0 0 zS (.slice none 0 0) (.slice none 0 0)⟩ 27 (0, 0))]) ++ (kA ++ kB)) ∧ OT t ((cel (r6 1))) kA ∧ OT u ((cel (r6 4))) kB := hp 4 (by decide) rfl
  have q20 : ρ 20 = .agg ⟨(cel (r6 1))⟩ := (hr 1 _ _ (by decide) rfl rfl rfl).trans p1.1
  have q21 : ρ 21 = v := (hr 2 _ _ (by decide) rfl rfl rfl).trans p2
  have q23 : ρ 23 = .agg ⟨(cel (r6 4))⟩ := (hr 4 _ _ (by decide) rfl rfl rfl).trans p4.1
  obtain ⟨ρ14, rfl⟩ := Ze (uc q20 (uc q21 (uc q23 un)))
  clear q20 q21 q23
  have hB2 := hBa rfl
  change B = [(N6 4), k4, [(b2, .cells ⟨us⟩ 27 (0, 0))]] at hB2
  subst hB2
  refine Zw (M' := [(N6 0), [], (N6 2), (N6 3), [], [], (N6 6), (N6 7), (N6 8), [], (N6 4), k4, [(b2, .cells ⟨us⟩ 27 (0, 0))]]) Sub.refl ?_
  obtain ⟨kA6_4, kB6_4, hNB6_4, hOA6_4, hOB6_4⟩ := p4.2.2.2
  refine Zw (M' := [(N6 0), [], (N6 2), (N6 3), [], [], (N6 6), (N6 7), (N6 8), [], ([(b1, .cells ⟨cs⟩ 27 (0, 0))]) ++ (([(b3, .cells ⟨pkT 0 0 zS (.slice none 0 0) (.slice none 0 0)⟩ 27 (0, 0))]) ++ (kA6_4 ++ kB6_4)), k4, [(b2, .cells ⟨us⟩ 27 (0, 0))]]) (Sk (Sub.emp (Sd (Sk (Sk (Sub.emp (Sub.emp (Sd (Sd (Sk (Sk (Sk (Sub.emp (Sd (Se hNB6_4 (Sk (Sk Sub.nil))))))))))))))))) ?_
  refine Zw (M' := [(N6 0), [], (N6 2), (N6 3), [], [], (N6 6), (N6 7), (N6 8), [], [(b1, .cells ⟨cs⟩ 27 (0, 0))], [(b3, .cells ⟨pkT 0 0 zS (.slice none 0 0) (.slice none 0 0)⟩ 27 (0, 0))], kA6_4, kB6_4, k4, [(b2, .cells ⟨us⟩ 27 (0, 0))]]) (Sub.flat Sub.refl (by simp)) ?_
  refine Zw (M' := [kA6_4 ++ kB6_4, (N6 0), [], (N6 2), (N6 3), [], [], (N6 6), (N6 7), (N6 8), [], [(b1, .cells ⟨cs⟩ 27 (0, 0))], [(b3, .cells ⟨pkT 0 0 zS (.slice none 0 0) (.slice none 0 0)⟩ 27 (0, 0))], k4, [(b2, .cells ⟨us⟩ 27 (0, 0))]]) (Sub.join (Sub.cons 12 rfl (Sub.cons 12 rfl (Sk (Sk (Sk (Sk (Sk (Sk (Sk (Sk (Sk (Sk (Sk (Sk (Sk (Sk Sub.nil))))))))))))))))) ?_
  refine JL_call1 0 rfl Tryz.call70 rfl rfl (fun hin => putP_ct _ l _ t u _ _ _ _ _ rfl (pathR.mono (Hle.hu _ _) hpr) hpi hOA6_4 hOB6_4) rfl ?_
  rintro _ _ ⟨cs15, k15, rfl, rfl, hO15⟩
  refine Zb ?_
  exact ⟨.tuple ⟨[.agg ⟨cs15⟩, .bool ((setP l t u).2)]⟩, ([(b1, .cells ⟨cs⟩ 27 (0, 0))]) ++ (([(b3, .cells ⟨pkT 0 0 zS (.slice none 0 0) (.slice none 0 0)⟩ 27 (0, 0))]) ++ k15), rfl, (Sub.flat (M' := [(N6 0), [], (N6 2), (N6 3), [], [], (N6 6), (N6 7), (N6 8), [], ([(b1, .cells ⟨cs⟩ 27 (0, 0))]) ++ (([(b3, .cells ⟨pkT 0 0 zS (.slice none 0 0) (.slice none 0 0)⟩ 27 (0, 0))]) ++ k15), k4, [(b2, .cells ⟨us⟩ 27 (0, 0))]]) (Sub.cons 1 rfl (Sub.emp (Sub.cons 2 rfl (Sub.cons 2 rfl (Sub.emp (Sub.emp (Sub.cons 4 rfl (Sub.cons 4 rfl (Sub.cons 4 rfl (Sub.emp (Sub.join3 (Sub.cons 5 rfl (Sub.cons 5 rfl (Sk (Sd (Sd (Sd (Sd (Sk (Sk Sub.nil)))))))))))))))))))) rfl), ⟨rfl, hO15.len, hO15.ok, k15, rfl, hO15⟩⟩
 ·intro ρ r6 N6 B hB hBa hBb hp hr hr0
  have p5 : (r6 5) = .tuple ⟨[.agg ⟨(ZC (r6 5))⟩, .bool ((setP l t u).2)]⟩ ∧ ((ZC (r6 5))).length = 36 ∧ okc ((ZC (r6 5))) ∧ ∃ kM, (N6 5) = ([(b1, .cells ⟨cs⟩ 27 (0, 0))]) ++ (([(b3, .cells ⟨pkT 0 0 zS (.slice none 0 0) (.slice none 0 0)⟩ 27 (0, 0))]) ++ kM) ∧ OT (setP l t u).1 ((ZC (r6 5))) kM := hp 5 (by decide) rfl
  have q24 : ρ 24 = .tuple ⟨[.agg ⟨(ZC (r6 5))⟩, .bool ((setP l t u).2)]⟩ := (hr 5 _ _ (by decide) rfl rfl rfl).trans p5.1
  obtain ⟨ρ16, rfl⟩ := Ze (uc q24 un)
  clear q24
  refine Za (v := .tuple ⟨[.agg ⟨(ZC (r6 5))⟩, .bool ((setP l t u).2)]⟩) rfl (Pu.move rfl) ?_
  refine Zb ?_
  exact ⟨.tuple ⟨[.agg ⟨(ZC (r6 5))⟩, .bool ((setP l t u).2)]⟩, [], rfl, (Sub.emp Sub.refl), rfl⟩
 ·intro ρ r6 N6 B hB hBa hBb hp hr hr0
  have p6 : (r6 6) = .tuple ⟨[.agg ⟨(ZC (r6 5))⟩, .bool ((setP l t u).2)]⟩ := hp 6 (by decide) rfl
  have q18 : ρ 18 = .tuple ⟨[.agg ⟨(ZC (r6 5))⟩, .bool ((setP l t u).2)]⟩ := (hr 6 _ _ (by decide) rfl rfl rfl).trans p6
  obtain ⟨ρ17, rfl⟩ := Ze (uc q18 un)
  clear q18
  refine Za (v := .agg ⟨(ZC (r6 5))⟩) rfl (Pu.extract rfl rfl) ?_
  refine Zb ?_
  exact ⟨.agg ⟨(ZC (r6 5))⟩, [], rfl, (Sub.emp Sub.refl), rfl⟩
 ·intro ρ r6 N6 B hB hBa hBb hp hr hr0
  have p6 : (r6 6) = .tuple ⟨[.agg ⟨(ZC (r6 5))⟩, .bool ((setP l t u).2)]⟩ := hp 6 (by decide) rfl
  have q18 : ρ 18 = .tuple ⟨[.agg ⟨(ZC (r6 5))⟩, .bool ((setP l t u).2)]⟩ := (hr 6 _ _ (by decide) rfl rfl rfl).trans p6
  obtain ⟨ρ18, rfl⟩ := Ze (uc q18 un)
  clear q18
  refine Za (v := .bool ((setP l t u).2)) rfl (Pu.extract rfl rfl) ?_
  refine Zb ?_
  exact ⟨.bool ((setP l t u).2), [], rfl, (Sub.emp Sub.refl), rfl⟩
 ·intro ρ r6 N6 B hB hBa hBb hp hr hr0
  have p5 : (r6 5) = .tuple ⟨[.agg ⟨(ZC (r6 5))⟩, .bool ((setP l t u).2)]⟩ ∧ ((ZC (r6 5))).length = 36 ∧ okc ((ZC (r6 5))) ∧ ∃ kM, (N6 5) = ([(b1, .cells ⟨cs⟩ 27 (0, 0))]) ++ (([(b3, .cells ⟨pkT 0 0 zS (.slice none 0 0) (.slice none 0 0)⟩ 27 (0, 0))]) ++ kM) ∧ OT (setP l t u).1 ((ZC (r6 5))) kM := hp 5 (by decide) rfl
  have p7 : (r6 7) = .agg ⟨(ZC (r6 5))⟩ := hp 7 (by decide) rfl
  have q3 : ρ 3 = .pointer (some ⟨b1, 0, none⟩) := hr0 3 (by kernel_rfl)
  have q25 : ρ 25 = .agg ⟨(ZC (r6 5))⟩ := (hr 7 _ _ (by decide) rfl rfl rfl).trans p7
  obtain ⟨ρ19, rfl⟩ := Ze (uc q3 (uc q25 un))
  clear q3 q25
  have hB2 := hBa rfl
  change B = [(N6 5), k4, [(b2, .cells ⟨us⟩ 27 (0, 0))]] at hB2
  subst hB2
  refine Zw (M' := [(N6 0), [], (N6 2), (N6 3), [], [], (N6 6), (N6 7), (N6 8), [], (N6 5), k4, [(b2, .cells ⟨us⟩ 27 (0, 0))]]) Sub.refl ?_
  obtain ⟨kM6_5, hNM6_5, hOM6_5⟩ := p5.2.2.2
  refine Zw (M' := [(N6 0), [], (N6 2), (N6 3), [], [], (N6 6), (N6 7), (N6 8), [], ([(b1, .cells ⟨cs⟩ 27 (0, 0))]) ++ (([(b3, .cells ⟨pkT 0 0 zS (.slice none 0 0) (.slice none 0 0)⟩ 27 (0, 0))]) ++ kM6_5), k4, [(b2, .cells ⟨us⟩ 27 (0, 0))]]) (Sk (Sub.emp (Sd (Sk (Sk (Sub.emp (Sub.emp (Sd (Sd (Sk (Sk (Sk (Sub.emp (Sd (Se hNM6_5 (Sk (Sk Sub.nil))))))))))))))))) ?_
  refine Zw (M' := [(N6 0), [], (N6 2), (N6 3), [], [], (N6 6), (N6 7), (N6 8), [], [(b1, .cells ⟨cs⟩ 27 (0, 0))], [(b3, .cells ⟨pkT 0 0 zS (.slice none 0 0) (.slice none 0 0)⟩ 27 (0, 0))], kM6_5, k4, [(b2, .cells ⟨us⟩ 27 (0, 0))]]) (Sub.flat Sub.refl (by simp)) ?_
  refine Zd rfl (Zi 10 (vs := (ZC (r6 5))) (l := (ZC (r6 5))) Zt rfl rfl rfl rfl p5.2.1 p5.2.2.1 (spl_a (n := 36) (Zv ht) p5.2.1) ?_)
  refine Zb ?_
  exact ⟨undef, ([(b1, .cells ⟨(ZC (r6 5))⟩ 27 (0, 0))]) ++ (([(b3, .cells ⟨pkT 0 0 zS (.slice none 0 0) (.slice none 0 0)⟩ 27 (0, 0))]) ++ kM6_5), rfl, (Sub.flat (M' := [(N6 0), [], (N6 2), (N6 3), [], [], (N6 6), (N6 7), (N6 8), [], ([(b1, .cells ⟨(ZC (r6 5))⟩ 27 (0, 0))]) ++ (([(b3, .cells ⟨pkT 0 0 zS (.slice none 0 0) (.slice none 0 0)⟩ 27 (0, 0))]) ++ kM6_5), k4, [(b2, .cells ⟨us⟩ 27 (0, 0))]]) (Sk (Sub.emp (Sd (Sk (Sk (Sub.emp (Sub.emp (Sd (Sd (Sk (Sk (Sk (Sub.emp (Sub.join3 (Sd (Sk (Sk (Sk (Sk (Sk Sub.nil)))))))))))))))))))) rfl), ⟨kM6_5, rfl, hOM6_5⟩⟩
 intro ρ r6 N6 hp hr hr0
 have p1 : (r6 1) = .agg ⟨(cel (r6 1))⟩ ∧ ((cel (r6 1))).length = 36 ∧ okc ((cel (r6 1))) ∧ ∃ kA, (N6 1) = ([(b1, .cells ⟨cs⟩ 27 (0, 0))]) ++ (([(b3, .cells ⟨pkT 0 0 zS (.slice none 0 0) (.slice none 0 0)⟩ 27 (0, 0))]) ++ kA) ∧ OT t ((cel (r6 1))) kA := hp 1 (by decide)
 have p4 : (r6 4) = .agg ⟨(cel (r6 4))⟩ ∧ ((cel (r6 4))).length = 36 ∧ okc ((cel (r6 4))) ∧ ∃ kA kB, (N6 4) = ([(b1, .cells ⟨cs⟩ 27 (0, 0))]) ++ (([(b3, .cells ⟨pkT 0 0 zS (.slice none 0 0) (.slice none 0 0)⟩ 27 (0, 0))]) ++ (kA ++ kB)) ∧ OT t ((cel (r6 1))) kA ∧ OT u ((cel (r6 4))) kB := hp 4 (by decide)
 have p5 : (r6 5) = .tuple ⟨[.agg ⟨(ZC (r6 5))⟩, .bool ((setP l t u).2)]⟩ ∧ ((ZC (r6 5))).length = 36 ∧ okc ((ZC (r6 5))) ∧ ∃ kM, (N6 5) = ([(b1, .cells ⟨cs⟩ 27 (0, 0))]) ++ (([(b3, .cells ⟨pkT 0 0 zS (.slice none 0 0) (.slice none 0 0)⟩ 27 (0, 0))]) ++ kM) ∧ OT (setP l t u).1 ((ZC (r6 5))) kM := hp 5 (by decide)
 have p9 : ∃ kS, (N6 9) = ([(b1, .cells ⟨(ZC (r6 5))⟩ 27 (0, 0))]) ++ (([(b3, .cells ⟨pkT 0 0 zS (.slice none 0 0) (.slice none 0 0)⟩ 27 (0, 0))]) ++ kS) ∧ OT (setP l t u).1 ((ZC (r6 5))) kS := hp 9 (by decide)
 have q3 : ρ 3 = .pointer (some ⟨b1, 0, none⟩) := hr0 3 (by kernel_rfl)
 have q6 : ρ 6 = .pointer (some ⟨b3, 0, none⟩) := hr0 6 (by kernel_rfl)
 have q7 : ρ 7 = .int .i64 0 := hr0 7 (by kernel_rfl)
 have q26 : ρ 26 = .bool ((setP l t u).2) := (hr 8 _ _ (by decide) rfl rfl).trans (hp 8 (by decide))
 obtain ⟨ρ20, rfl⟩ := Ze (uc q3 (uc q6 (uc q7 (uc q26 un))))
 clear q3 q6 q7 q26
 have p6_1 := p1; have p6_4 := p4; have p6_5 := p5; have p6_9 := p9
 clear hp hr hr0 p1 p4 p5 p9
 refine Zw (M' := [(N6 0), [], (N6 2), (N6 3), [], [], (N6 6), (N6 7), (N6 8), [], (N6 9), k4, [(b2, .cells ⟨us⟩ 27 (0, 0))]]) Sub.refl ?_
 obtain ⟨kS6_9, hNM6_9, hOS6_9⟩ := p6_9
 refine Zw (M' := [([(b1, .cells ⟨(ZC (r6 5))⟩ 27 (0, 0))]) ++ (([(b3, .cells ⟨pkT 0 0 zS (.slice none 0 0) (.slice none 0 0)⟩ 27 (0, 0))]) ++ kS6_9), k4, [(b2, .cells ⟨us⟩ 27 (0, 0))]]) (Sd (Sd (Sd (Sd (Sd (Sd (Sd (Sd (Sd (Sd (Se hNM6_9 (Sk (Sk Sub.nil))))))))))))) ?_
 refine Zw (M' := [[(b1, .cells ⟨(ZC (r6 5))⟩ 27 (0, 0))], [(b3, .cells ⟨pkT 0 0 zS (.slice none 0 0) (.slice none 0 0)⟩ 27 (0, 0))], kS6_9, k4, [(b2, .cells ⟨us⟩ 27 (0, 0))]]) (Sub.flat Sub.refl (by simp)) ?_
 show JL _ _ _ [_] _ _ _
 refine Za (v := .bool ((setP l t u).2)) rfl (Pu.assign rfl) ?_
 refine Zb ?_
 refine Zg ?_
 refine Zg (Zc ?_)
 refine Za (v := .bool ((setP l t u).2)) rfl (Pu.move rfl) ?_
 refine Za (v := .bool (!((setP l t u).2))) rfl (Pu.not rfl) ?_
 refine Zb ?_
 refine Zl (b := !((setP l t u).2)) rfl (fun h21 => ?_) (fun h21 => ?_)
 ·replace h21 := nt h21
  refine Zg (Zc ?_)
  refine Za (v := .agg ⟨pkT 0 0 zS (.slice none 0 0) (.slice none 0 0)⟩) rfl (Pu.build (pv := []) (l := pkT 0 0 zS (.slice none 0 0) (.slice none 0 0)) rfl (bld27_ )) ?_
  refine Zd rfl (Zi 1 (vs := pkT 0 0 zS (.slice none 0 0) (.slice none 0 0)) (l := pkT 0 0 zS (.slice none 0 0) (.slice none 0 0)) Zt rfl rfl rfl rfl rfl (pkT_ok rfl rfl) (pkT_s ..) ?_)
  refine Za (v := .int .i64 1) rfl (Pu.assign rfl) ?_
  refine Zb ?_
  refine Zo ?_
  refine ⟨.tuple ⟨[.agg ⟨pkT 0 0 zS (.slice none 0 0) (.slice none 0 0)⟩, .int .i64 1]⟩, [[]], Ret.two rfl (RV.cell Zt rfl (At.bx 1 rfl) (pkT_a ..)) (RV.tmp rfl), (Sub.emp Sub.nil), ?_⟩
  have hat : ¬ (atT t l).isSome = true := by rw [← setP_is l t u]; intro q_; have q2_ : (setP l t u).2 = false := (by assumption); rw [q2_] at q_; cases q_
  have hx : putE t l u = (zT, 1) := by rw [putE, if_pos (by assumption), putR, if_neg hat]
  exact ⟨_, _, by rw [hx], rfl, by rw [hx]; exact OT_zero⟩
 replace h21 := nf h21
 refine Zq ?_
 refine Zg (Zc ?_)
 refine Zd rfl (Zj Zt rfl (At.bx 0 rfl) (Zy p6_5.2.1) ?_)
 refine Zk rfl Tryz.call71 rfl (fun hin => short_ct _ _ _ (hOS6_9.rd (hin 2 _ rfl))) rfl ?_
 rintro _ _ ⟨rfl, rfl⟩
 refine Za (v := .agg ⟨(if longB ((setP l t u).1) = true then pkT 0 0 zS (.slice none 0 0) (.slice none 0 0) else (ZC (r6 5)))⟩) rfl (Pu.extract rfl rfl) ?_
 refine Za (v := .int .i64 ((if longB ((setP l t u).1) = true then 11 else 0))) rfl (Pu.extract rfl rfl) ?_
 refine Zd rfl (Zi 1 (vs := (if longB ((setP l t u).1) = true then pkT 0 0 zS (.slice none 0 0) (.slice none 0 0) else (ZC (r6 5)))) (l := (if longB ((setP l t u).1) = true then pkT 0 0 zS (.slice none 0 0) (.slice none 0 0) else (ZC (r6 5)))) Zt rfl rfl rfl rfl (len_ite (n := 36) rfl p6_5.2.1) (okc_ite (pkT_ok rfl rfl) p6_5.2.2.1) (spl_a (n := 36) rfl (len_ite (n := 36) rfl p6_5.2.1)) ?_)
 refine Za (v := .int .i64 ((if longB ((setP l t u).1) = true then 11 else 0))) rfl (Pu.assign rfl) ?_
 refine Zb ?_
 refine Zo ?_
 have hat : (atT t l).isSome = true := by rw [← setP_is l t u]; assumption
 by_cases hL : longB ((setP l t u).1) = true
 ·refine ⟨.tuple ⟨[.agg ⟨(if longB ((setP l t u).1) = true then pkT 0 0 zS (.slice none 0 0) (.slice none 0 0) else (ZC (r6 5)))⟩, .int .i64 ((if longB ((setP l t u).1) = true then 11 else 0))]⟩, [[]], Ret.two rfl (RV.cell Zt rfl (At.bx 1 rfl) (Zy (len_ite (n := 36) rfl p6_5.2.1))) (RV.tmp rfl), (Sub.emp Sub.nil), ?_⟩
  have hx : putE t l u = (zT, 11) := by rw [putE, if_pos (by assumption), putR, if_pos hat, if_pos (show longB (setP l t u).1 = true from hL)]
  exact ⟨_, _, by rw [if_pos hL, if_pos hL, hx], rfl, by rw [hx]; exact OT_zero⟩
 refine ⟨.tuple ⟨[.agg ⟨(if longB ((setP l t u).1) = true then pkT 0 0 zS (.slice none 0 0) (.slice none 0 0) else (ZC (r6 5)))⟩, .int .i64 ((if longB ((setP l t u).1) = true then 11 else 0))]⟩, [kS6_9], Ret.two rfl (RV.cell Zt rfl (At.bx 1 rfl) (Zy (len_ite (n := 36) rfl p6_5.2.1))) (RV.tmp rfl), (Sd (Sd (Sk Sub.nil))), ?_⟩
 have hx : putE t l u = ((setP l t u).1, 0) := by rw [putE, if_pos (by assumption), putR, if_pos hat, if_neg (show ¬ longB (setP l t u).1 = true from hL)]
 exact ⟨_, _, by rw [if_neg hL, if_neg hL, hx], rfl, by rw [hx]; exact hOS6_9⟩
end Go.Proofs.YtdeinimmmjichaaGreat.Hs
/-! Walks, printed by a program of this session's own (gen.py). -/
namespace Go.Proofs.YtdeinimmmjichaaGreat.Hs
open Go Go.Proofs
set_option maxRecDepth 100000
set_option linter.unusedVariables false
set_option linter.unusedSimpArgs false
attribute [local irreducible] JL J CT wlo
set_option maxHeartbeats 2000000 in
theorem setR_ct : ∀ (N : Nat) (l : List Int) (v : Value) (t u : Tm) (cs us : List Value) (H : Heap), l.length = N → pathR H v l → (∀ n ∈ l, inI n) → RT H cs t → RT H us u → sizeT t ≤ 1000000 → (atT t l).isSome = true → CT Tryz.prog 67 ⟨[.agg ⟨cs⟩, v, .agg ⟨us⟩]⟩ [] H (fun r M => ∃ cs' k, r = .agg ⟨cs'⟩ ∧ M = [k] ∧ cs'.length = 36 ∧ okc cs' ∧ ∀ h, Has k h → Hle H h → RT h cs' (setP l t u).1) := by
 intro N
 induction N using Nat.strongRecOn with
 | _ N ih =>
 intro l v t u cs us H hN hpr hpi ht hu1 hz hat
 obtain ⟨kind, num, ref, kids, cases⟩ := t
 obtain ⟨ks, cv, rfl, hk, hn, hks, hcv⟩ := RT_mk.1 ht
 have hkl := hks.le
 have hcl := hcv.le
 have hz2 := hz
 rw [sizeT] at hz2
 have hkz := len_sizeTs kids
 have hcz := len_sizeCs cases
 refine Zr Tryz.func67 rfl rfl ?_
 refine Zg (Zc ?_)
 refine Zd rfl (Zx (l := pkT kind num ref ks cv) rfl rfl fun b1 => ?_)
 refine Zd rfl (Zx (l := us) rfl rfl fun b2 => ?_)
 refine Zd rfl (Zn (l := pkT 0 0 zS (.slice none 0 0) (.slice none 0 0)) Tryz.zeroValue27 rfl fun b3 => ?_)
 refine Zb ?_
 refine Zg ?_
 refine Zg (Zc ?_)
 refine Za (v := v) rfl (Pu.move rfl) ?_
 obtain ⟨a4, cap4, hv4⟩ := hpr.rd.sl
 have hle4 := hpr.rd.le
 refine Za (v := .int .i64 ((l.length : Int))) rfl (Pu.lenSl Tryz.runUnderlying43 hv4) ?_
 refine Za (v := .bool (decide ((l.length : Int) = 0))) rfl (Pu.eql rfl rfl) ?_
 refine Zb ?_
 refine Zl (b := decide ((l.length : Int) = 0)) rfl (fun h5 => ?_) (fun h5 => ?_)
 ·replace h5 := dt h5
  refine Zg (Zc ?_)
  refine Zd rfl (Zj Zt rfl (At.bx 1 rfl) (Zy (Zv hu1)) ?_)
  refine Zd rfl (Zi 0 (vs := us) (l := us) Zt rfl rfl rfl rfl (Zv hu1) (RT_ok hu1) (spl_a (n := 36) rfl (Zv hu1)) ?_)
  refine Zb ?_
  refine Zo ?_
  refine ⟨.agg ⟨us⟩, [[]], Ret.one rfl (RV.cell Zt rfl (At.bx 0 rfl) (Zy (Zv hu1))), (Sub.emp Sub.nil), ?_⟩
  obtain rfl : l = [] := List.eq_nil_of_length_eq_zero (by omega)
  exact ⟨_, _, rfl, rfl, Zv hu1, RT_ok hu1, fun h _ hh => hu1.mono hh⟩
 replace h5 := df h5
 refine Zq ?_
 refine Zg (Zc ?_)
 refine Zd rfl (Zj Zt rfl (At.bx 2 rfl) (pkT_a ..) ?_)
 refine Zd rfl (Zn (l := pkT 0 0 zS (.slice none 0 0) (.slice none 0 0)) Tryz.zeroValue27 rfl fun b6 => ?_)
 refine Zd rfl (Zi 0 (vs := pkT kind num ref ks cv) (l := pkT kind num ref ks cv) Zt rfl rfl rfl rfl rfl (pkT_ok hks.one hcv.one) (pkT_s ..) ?_)
 refine Zb ?_
 refine Zg ?_
 refine Zg (Zc ?_)
 refine Za (v := v) rfl (Pu.move rfl) ?_
 obtain ⟨b7, o7, cap7, row7, T7, fr7, cs7, hv7, hb7, hs7, hE7⟩ := hpr.rd.get 0 (by first | assumption | omega | decide | simp)
 refine Za (v := .pointer (some ⟨b7, o7 + 0 * 1, none⟩)) rfl (Pu.idx 0 Tryz.runUnderlying43 ty3 hv7 rfl rfl (by first | assumption | omega | decide | simp)) ?_
 refine Zd rfl (Zh ty3 rfl (At.im hb7) (sub_one ((show cs7 = [Value.int .i64 (l[0])] from hE7) ▸ hs7)) ?_)
 refine Za (v := .int .i64 (l[0])) rfl (Pu.assign rfl) ?_
 refine Zb ?_
 refine Zg (Zc ?_)
 refine Za (v := .int .i64 (l[0])) rfl (Pu.move rfl) ?_
 refine Za (v := .pointer (some ⟨b1, 34, none⟩)) rfl (fa27_3 rfl rfl) ?_
 refine Zd rfl (Zh ty24 rfl (At.bx 3 rfl) (pkT_34 ..) ?_)
 obtain ⟨a8, cap8, hv8⟩ := hks.sl
 have hle8 := hks.le
 refine Za (v := .int .i64 ((kids.length : Int))) rfl (Pu.lenSl Tryz.runUnderlying24 hv8) ?_
 refine Za (v := .bool (decide (l[0] < (kids.length : Int)))) rfl (Pu.lss rfl rfl) ?_
 refine Zb ?_
 refine Zl (b := decide (l[0] < (kids.length : Int))) rfl (fun h9 => ?_) (fun h9 => ?_)
 ·replace h9 := dt h9
  refine Zg (Zc ?_)
  refine Zd rfl (ZA (vs := []) [] Tryz.runUnderlying24 el27 rfl rfl (by intro e he; cases he) rfl (by decide) fun b10 k10 ho10 hk10 => ?_)
  refine Za (v := .pointer (some ⟨b1, 34, none⟩)) rfl (fa27_3 rfl rfl) ?_
  refine Zd rfl (Zh ty24 rfl (At.bx 4 rfl) (pkT_34 ..) ?_)
  obtain ⟨es11, he11, hE11, hl11, hk11, hsr11⟩ := terms_src (P := Tryz.prog) hks
  refine Zd rfl (Runs_append (i := 0) (n := kids.length) (es' := es11) Tryz.runUnderlying24 Tryz.runUnderlying24 (Or.inl rfl) el27 rfl rfl rfl ho10 (fun F w m => hsr11 w _ m) he11 hl11 hk11 (by decide) (by simp; omega) fun v11 k11 ho11 => ?_)
  rw [List.nil_append] at ho11
  refine Za (v := .pointer (some ⟨b6, 34, none⟩)) rfl (fa27_3 rfl rfl) ?_
  refine Zd rfl (Zi 1 (vs := [v11]) (l := pkT kind num ref v11 cv) ty24 rfl rfl rfl (cells_one ho11.one) rfl (Zp ho11.one Zz) (pkT_s34 ..) ?_)
  refine Zb ?_
  have hnn := at_nonneg (t := (.mk kind num ref kids cases)) (l := l) (by omega) hat
  have hkm := sizeTs_mem _ (List.getElem_mem (l := kids) (n := l[0].toNat) (by omega))
  obtain ⟨b13, o13, cap13, row13, T13, fr13, cs13, hv13, hb13, hs13, hE13⟩ := hks.get (l[0]).toNat (by first | assumption | omega | decide | simp)
  refine J_draw mixed #[0, 1, 0, 0, 8, 0, 56, 120, 0, 256, 0, 2040, 4095, 8191] 12 12 5 rfl (by kernel_rfl) (fun i r12 N12 => match i with | 0 => (r12 0) = .pointer (some ⟨b6, 34, none⟩) | 1 => (r12 1) = v11 | 2 => (r12 2) = .int .i64 (l[0]) | 3 => (r12 3) = .pointer (some ⟨b1, 34, none⟩) | 4 => (r12 4) = ks | 5 => (r12 5) = .int .i64 (l[0]) | 6 => (r12 6) = .pointer (some ⟨b13, o13 + (l[0]).toNat * 36, none⟩) | 7 => (r12 7) = .agg ⟨cs13⟩ | 8 => (r12 8) = v | 9 => ∀ h, pathR h v l → pathR h (r12 9) l.tail | 10 => (r12 10) = .agg ⟨us⟩ | 11 => (r12 11) = .agg ⟨(cel (r12 11))⟩ ∧ ((cel (r12 11))).length = 36 ∧ okc ((cel (r12 11))) ∧ ∀ h, Has (N12 11) h → Hle H h → RT h ((cel (r12 11))) ((setP l.tail kids[(l[0]).toNat] u).1) | _ => True) ⟨?_, ?_, ?_, ?_, ?_, ?_, ?_, ?_, ?_, ?_, ?_, ?_, trivial⟩ ?_
  ·intro ρ r12 N12 B hB hBa hp hr hr0
   have q7 : ρ 7 = .pointer (some ⟨b6, 0, none⟩) := hr0 7 (by kernel_rfl)
   obtain ⟨ρ14, rfl⟩ := Ze (uc q7 un)
   clear q7
   refine Za (v := .pointer (some ⟨b6, 34, none⟩)) rfl (fa27_3 rfl rfl) ?_
   refine Zb ?_
   exact ⟨.pointer (some ⟨b6, 34, none⟩), [], rfl, (Sub.emp Sub.refl), rfl⟩
  ·intro ρ r12 N12 B hB hBa hp hr hr0
   have q27 : ρ 27 = .pointer (some ⟨b6, 34, none⟩) := (hr 0 _ _ (by decide) rfl rfl rfl).trans (hp 0 (by decide) rfl)
   obtain ⟨ρ15, rfl⟩ := Ze (uc q27 un)
   clear q27
   refine Zd rfl (Zh ty24 rfl (At.bx 13 (Zu ((hB 1 (by decide)).trans rfl))) (pkT_34 ..) ?_)
   refine Zb ?_
   exact ⟨v11, [], rfl, (Sub.emp Sub.refl), rfl⟩
  ·intro ρ r12 N12 B hB hBa hp hr hr0
   have q8 : ρ 8 = .int .i64 (l[0]) := hr0 8 (by kernel_rfl)
   obtain ⟨ρ16, rfl⟩ := Ze (uc q8 un)
   clear q8
   refine Za (v := .int .i64 (l[0])) rfl (Pu.move rfl) ?_
   refine Zb ?_
   exact ⟨.int .i64 (l[0]), [], rfl, (Sub.emp Sub.refl), rfl⟩
  ·intro ρ r12 N12 B hB hBa hp hr hr0
   have q3 : ρ 3 = .pointer (some ⟨b1, 0, none⟩) := hr0 3 (by kernel_rfl)
   obtain ⟨ρ17, rfl⟩ := Ze (uc q3 un)
   clear q3
   refine Za (v := .pointer (some ⟨b1, 34, none⟩)) rfl (fa27_3 rfl rfl) ?_
   refine Zb ?_
   exact ⟨.pointer (some ⟨b1, 34, none⟩), [], rfl, (Sub.emp Sub.refl), rfl⟩
  ·intro ρ r12 N12 B hB hBa hp hr hr0
   have q30 : ρ 30 = .pointer (some ⟨b1, 34, none⟩) := (hr 3 _ _ (by decide) rfl rfl rfl).trans (hp 3 (by decide) rfl)
   obtain ⟨ρ18, rfl⟩ := Ze (uc q30 un)
   clear q30
   refine Zd rfl (Zh ty24 rfl (At.bx 16 (Zu ((hB 4 (by decide)).trans rfl))) (pkT_34 ..) ?_)
   refine Zb ?_
   exact ⟨ks, [], rfl, (Sub.emp Sub.refl), rfl⟩
  ·intro ρ r12 N12 B hB hBa hp hr hr0
   have q8 : ρ 8 = .int .i64 (l[0]) := hr0 8 (by kernel_rfl)
   obtain ⟨ρ19, rfl⟩ := Ze (uc q8 un)
   clear q8
   refine Za (v := .int .i64 (l[0])) rfl (Pu.move rfl) ?_
   refine Zb ?_
   exact ⟨.int .i64 (l[0]), [], rfl, (Sub.emp Sub.refl), rfl⟩
  ·intro ρ r12 N12 B hB hBa hp hr hr0
   have q31 : ρ 31 = ks := (hr 4 _ _ (by decide) rfl rfl rfl).trans (hp 4 (by decide) rfl)
   have q32 : ρ 32 = .int .i64 (l[0]) := (hr 5 _ _ (by decide) rfl rfl rfl).trans (hp 5 (by decide) rfl)
   obtain ⟨ρ20, rfl⟩ := Ze (uc q31 (uc q32 un))
   clear q31 q32
   refine Za (v := .pointer (some ⟨b13, o13 + (l[0]).toNat * 36, none⟩)) rfl (Pu.idx (l[0]).toNat Tryz.runUnderlying24 Zt hv13 rfl (by first | rfl | omega) (by first | assumption | omega | decide | simp)) ?_
   refine Zb ?_
   exact ⟨.pointer (some ⟨b13, o13 + (l[0]).toNat * 36, none⟩), [], rfl, (Sub.emp Sub.refl), rfl⟩
  ·intro ρ r12 N12 B hB hBa hp hr hr0
   have q33 : ρ 33 = .pointer (some ⟨b13, o13 + (l[0]).toNat * 36, none⟩) := (hr 6 _ _ (by decide) rfl rfl rfl).trans (hp 6 (by decide) rfl)
   obtain ⟨ρ21, rfl⟩ := Ze (uc q33 un)
   clear q33
   refine Zd rfl (Zj Zt rfl (At.im hb13) hs13 ?_)
   refine Zb ?_
   exact ⟨.agg ⟨cs13⟩, [], rfl, (Sub.emp Sub.refl), rfl⟩
  ·intro ρ r12 N12 B hB hBa hp hr hr0
   have q1 : ρ 1 = v := hr0 1 (by kernel_rfl)
   obtain ⟨ρ22, rfl⟩ := Ze (uc q1 un)
   clear q1
   refine Za (v := v) rfl (Pu.move rfl) ?_
   refine Zb ?_
   exact ⟨v, [], rfl, (Sub.emp Sub.refl), rfl⟩
  ·intro ρ r12 N12 B hB hBa hp hr hr0
   have q35 : ρ 35 = v := (hr 8 _ _ (by decide) rfl rfl rfl).trans (hp 8 (by decide) rfl)
   obtain ⟨ρ23, rfl⟩ := Ze (uc q35 un)
   clear q35
   refine Zd rfl (Runs_slice1 hpr (by omega) Tryz.runUnderlying43 Tryz.sizeOf3 rfl rfl fun u24 hu24 => ?_)
   refine Zb ?_
   exact ⟨u24, [], rfl, (Sub.emp Sub.refl), hu24⟩
  ·intro ρ r12 N12 B hB hBa hp hr hr0
   have q5 : ρ 5 = .pointer (some ⟨b2, 0, none⟩) := hr0 5 (by kernel_rfl)
   obtain ⟨ρ25, rfl⟩ := Ze (uc q5 un)
   clear q5
   refine Zd rfl (Zj Zt rfl (At.bx 15 (Zu ((hB 3 (by decide)).trans rfl))) (Zy (Zv hu1)) ?_)
   refine Zb ?_
   exact ⟨.agg ⟨us⟩, [], rfl, (Sub.emp Sub.refl), rfl⟩
  ·intro ρ r12 N12 B hB hBa hp hr hr0
   have p9 : ∀ h, pathR h v l → pathR h (r12 9) l.tail := hp 9 (by decide) rfl
   have q34 : ρ 34 = .agg ⟨cs13⟩ := (hr 7 _ _ (by decide) rfl rfl rfl).trans (hp 7 (by decide) rfl)
   have q36 : ρ 36 = (r12 9) := (hr 9 _ _ (by decide) rfl rfl rfl)
   have q37 : ρ 37 = .agg ⟨us⟩ := (hr 10 _ _ (by decide) rfl rfl rfl).trans (hp 10 (by decide) rfl)
   obtain ⟨ρ26, rfl⟩ := Ze (uc q34 (uc q36 (uc q37 un)))
   clear q34 q36 q37
   refine JL_call0 rfl Tryz.call67 rfl (ih (l.tail).length (by rw [List.length_tail]; omega) _ (r12 9) _ _ _ _ H rfl (p9 _ hpr) (fun n hn => hpi n (List.mem_of_mem_tail hn)) hE13 hu1 (by omega) (by have e := at_kid (t := (.mk kind num ref kids cases)) (l := l) (by omega) (by first | assumption | (show (kids.length : Int) ≤ l[0]; omega)) (by first | assumption | (show l[0] - (kids.length : Int) < (cases.length : Int); omega)); rw [e] at hat; exact hat)) rfl ?_
   rintro _ _ ⟨cs27, k27, rfl, rfl, hl27, hk27, hr27⟩
   refine Zb ?_
   exact ⟨.agg ⟨cs27⟩, k27, rfl, Sub.refl, ⟨rfl, hl27, hk27, hr27⟩⟩
  intro ρ r12 N12 hp hr hr0
  have p11 : (r12 11) = .agg ⟨(cel (r12 11))⟩ ∧ ((cel (r12 11))).length = 36 ∧ okc ((cel (r12 11))) ∧ ∀ h, Has (N12 11) h → Hle H h → RT h ((cel (r12 11))) ((setP l.tail kids[(l[0]).toNat] u).1) := hp 11 (by decide)
  have q6 : ρ 6 = .pointer (some ⟨b3, 0, none⟩) := hr0 6 (by kernel_rfl)
  have q7 : ρ 7 = .pointer (some ⟨b6, 0, none⟩) := hr0 7 (by kernel_rfl)
  have q28 : ρ 28 = v11 := (hr 1 _ _ (by decide) rfl rfl).trans (hp 1 (by decide))
  have q29 : ρ 29 = .int .i64 (l[0]) := (hr 2 _ _ (by decide) rfl rfl).trans (hp 2 (by decide))
  have q38 : ρ 38 = .agg ⟨(cel (r12 11))⟩ := (hr 11 _ _ (by decide) rfl rfl).trans p11.1
  obtain ⟨ρ28, rfl⟩ := Ze (uc q6 (uc q7 (uc q28 (uc q29 (uc q38 un)))))
  clear q6 q7 q28 q29 q38
  have p12_11 := p11
  clear hp hr hr0 p11
  refine Zw (M' := [(N12 0), (N12 1), (N12 2), (N12 3), (N12 4), (N12 5), (N12 6), (N12 7), (N12 8), (N12 9), (N12 10), (N12 11), k11, [(b6, .cells ⟨pkT kind num ref v11 cv⟩ 27 (0, 0))], [(b3, .cells ⟨pkT 0 0 zS (.slice none 0 0) (.slice none 0 0)⟩ 27 (0, 0))], [(b2, .cells ⟨us⟩ 27 (0, 0))], [(b1, .cells ⟨pkT kind num ref ks cv⟩ 27 (0, 0))]]) Sub.refl ?_
  refine Zw (M' := [(N12 11), k11, [(b6, .cells ⟨pkT kind num ref v11 cv⟩ 27 (0, 0))], [(b3, .cells ⟨pkT 0 0 zS (.slice none 0 0) (.slice none 0 0)⟩ 27 (0, 0))], [(b2, .cells ⟨us⟩ 27 (0, 0))], [(b1, .cells ⟨pkT kind num ref ks cv⟩ 27 (0, 0))]]) (Sd (Sd (Sd (Sd (Sd (Sd (Sd (Sd (Sd (Sd (Sd (Sk (Sk (Sk (Sk (Sk (Sk Sub.nil))))))))))))))))) ?_
  show JL _ _ _ [_, _] _ _ _
  obtain ⟨b29, cap29, row29, hv29, hm29, hs29⟩ := ho11.at (j := (l[0]).toNat) (by rw [he11]; omega); rw [he11] at hv29
  refine Za (v := .pointer (some ⟨b29, 0 + (l[0]).toNat * 36, none⟩)) rfl (Pu.idx (l[0]).toNat Tryz.runUnderlying24 Zt hv29 rfl (by first | rfl | omega) (by omega)) ?_
  refine Zd rfl (Runs_storeOwn (i := 1) (j := ((l[0]).toNat)) (b := b29) Zt rfl ho11 ⟨_, _, hv29⟩ rfl (by omega) rfl rfl p12_11.2.1 p12_11.2.2.1 fun k30 ho30 => ?_)
  refine Zb ?_
  refine Zg (Zc ?_)
  refine Zd rfl (Zj Zt rfl (At.bx 2 rfl) (pkT_a ..) ?_)
  refine Zd rfl (Zi 3 (vs := pkT kind num ref v11 cv) (l := pkT kind num ref v11 cv) Zt rfl rfl rfl rfl rfl (pkT_ok ho11.one hcv.one) (pkT_s ..) ?_)
  refine Zb ?_
  refine Zo ?_
  refine ⟨.agg ⟨pkT kind num ref v11 cv⟩, [k30 ++ ((N12 11))], Ret.one rfl (RV.cell Zt rfl (At.bx 3 rfl) (pkT_a ..)), (Sub.join (Sub.cons 1 rfl (Sk Sub.nil))), ?_⟩
  have hs := setP_pos (l := l) (by omega) kind num ref kids cases u
  rw [if_neg (by omega), if_pos (by omega), getD_at (by omega)] at hs
  exact ⟨_, _, rfl, rfl, rfl, pkT_ok ho30.one hcv.one, fun h hh hle => by rw [hs]; exact RT_mk.2 ⟨_, _, rfl, hk, hn, row_set ho30 he11 hkl hh.left (fun i h1 h2 => (hE11 i h1 h2).mono hle) (p12_11.2.2.2 _ hh.right hle), RCs.mono hle hcv⟩⟩
 replace h9 := df h9
 refine Zg (Zc ?_)
 refine Zd rfl (ZA (vs := []) [] Tryz.runUnderlying25 el34 rfl rfl (by intro e he; cases he) rfl (by decide) fun b31 k31 ho31 hk31 => ?_)
 refine Za (v := .pointer (some ⟨b1, 35, none⟩)) rfl (fa27_4 rfl rfl) ?_
 refine Zd rfl (Zh ty25 rfl (At.bx 4 rfl) (pkT_35 ..) ?_)
 obtain ⟨es32, he32, hE32, hl32, hk32, hsr32⟩ := cases_src (P := Tryz.prog) hcv
 refine Zd rfl (Runs_append (i := 0) (n := cases.length) (es' := es32) Tryz.runUnderlying25 Tryz.runUnderlying25 (Or.inl rfl) el34 rfl rfl rfl ho31 (fun F w m => hsr32 w _ m) he32 hl32 hk32 (by decide) (by simp; omega) fun v32 k32 ho32 => ?_)
 rw [List.nil_append] at ho32
 refine Za (v := .pointer (some ⟨b6, 35, none⟩)) rfl (fa27_4 rfl rfl) ?_
 refine Zd rfl (Zi 1 (vs := [v32]) (l := pkT kind num ref ks v32) ty25 rfl rfl rfl (cells_one ho32.one) rfl (Zp ho32.one Zz) (pkT_s35 ..) ?_)
 refine Zb ?_
 have hnn := at_nonneg (t := (.mk kind num ref kids cases)) (l := l) (by omega) hat
 have hcn : l[0] - (kids.length : Int) < (cases.length : Int) := at_case_lt (t := (.mk kind num ref kids cases)) (l := l) (by omega) hat (by assumption)
 have hkm := sizeCs_mem _ (List.getElem_mem (l := cases) (n := (l[0] - ((kids.length : Int))).toNat) (by omega))
 obtain ⟨ca_, cb_, hcab_, hca_, hcb_⟩ := hE32 (l[0] - ((kids.length : Int))).toNat (by rw [he32]; omega) (by omega)
 have hce_ : es32[(l[0] - ((kids.length : Int))).toNat]? = some (ca_ ++ cb_) := by rw [List.getElem?_eq_getElem (by rw [he32]; omega), hcab_]
 obtain ⟨a34, cap34, hv34⟩ := hks.sl
 have hle34 := hks.le
 obtain ⟨b35, o35, cap35, row35, T35, fr35, cs35, hv35, hb35, hs35, hE35⟩ := hcv.get (l[0] - ((kids.length : Int))).toNat (by first | assumption | omega | decide | simp)
 obtain ⟨ca35, cb35, rfl, hA35, hB35⟩ := hE35
 refine J_draw mixed #[0, 1, 0, 0, 8, 24, 60, 0, 128, 0, 0, 1024, 3072, 7680, 16256, 32640, 65408, 0, 131072, 0, 1048448, 2097151, 4194303, 8388607] 21 21 5 rfl (by kernel_rfl) (fun i r33 N33 => match i with | 0 => (r33 0) = .pointer (some ⟨b6, 35, none⟩) | 1 => (r33 1) = v32 | 2 => (r33 2) = .int .i64 (l[0]) | 3 => (r33 3) = .pointer (some ⟨b1, 34, none⟩) | 4 => (r33 4) = ks | 5 => (r33 5) = .int .i64 ((kids.length : Int)) | 6 => (r33 6) = .int .i64 (l[0] - ((kids.length : Int))) | 7 => (r33 7) = .pointer (some ⟨b1, 35, none⟩) | 8 => (r33 8) = cv | 9 => (r33 9) = .int .i64 (l[0]) | 10 => (r33 10) = .pointer (some ⟨b1, 34, none⟩) | 11 => (r33 11) = ks | 12 => (r33 12) = .int .i64 ((kids.length : Int)) | 13 => (r33 13) = .int .i64 (l[0] - ((kids.length : Int))) | 14 => (r33 14) = .pointer (some ⟨b35, o35 + (l[0] - ((kids.length : Int))).toNat * 71, none⟩) | 15 => (r33 15) = .pointer (some ⟨b35, o35 + (l[0] - ((kids.length : Int))).toNat * 71 + 35, none⟩) | 16 => (r33 16) = .agg ⟨cb35⟩ | 17 => (r33 17) = v | 18 => ∀ h, pathR h v l → pathR h (r33 18) l.tail | 19 => (r33 19) = .agg ⟨us⟩ | 20 => (r33 20) = .agg ⟨(cel (r33 20))⟩ ∧ ((cel (r33 20))).length = 36 ∧ okc ((cel (r33 20))) ∧ ∀ h, Has (N33 20) h → Hle H h → RT h ((cel (r33 20))) ((setP l.tail cases[(l[0] - ((kids.length : Int))).toNat].2 u).1) | _ => True) ⟨?_, ?_, ?_, ?_, ?_, ?_, ?_, ?_, ?_, ?_, ?_, ?_, ?_, ?_, ?_, ?_, ?_, ?_, ?_, ?_, ?_, trivial⟩ ?_
 ·intro ρ r33 N33 B hB hBa hp hr hr0
  have q7 : ρ 7 = .pointer (some ⟨b6, 0, none⟩) := hr0 7 (by kernel_rfl)
  obtain ⟨ρ36, rfl⟩ := Ze (uc q7 un)
  clear q7
  refine Za (v := .pointer (some ⟨b6, 35, none⟩)) rfl (fa27_4 rfl rfl) ?_
  refine Zb ?_
  exact ⟨.pointer (some ⟨b6, 35, none⟩), [], rfl, (Sub.emp Sub.refl), rfl⟩
 ·intro ρ r33 N33 B hB hBa hp hr hr0
  have q45 : ρ 45 = .pointer (some ⟨b6, 35, none⟩) := (hr 0 _ _ (by decide) rfl rfl rfl).trans (hp 0 (by decide) rfl)
  obtain ⟨ρ37, rfl⟩ := Ze (uc q45 un)
  clear q45
  refine Zd rfl (Zh ty25 rfl (At.bx 22 (Zu ((hB 1 (by decide)).trans rfl))) (pkT_35 ..) ?_)
  refine Zb ?_
  exact ⟨v32, [], rfl, (Sub.emp Sub.refl), rfl⟩
 ·intro ρ r33 N33 B hB hBa hp hr hr0
  have q8 : ρ 8 = .int .i64 (l[0]) := hr0 8 (by kernel_rfl)
  obtain ⟨ρ38, rfl⟩ := Ze (uc q8 un)
  clear q8
  refine Za (v := .int .i64 (l[0])) rfl (Pu.move rfl) ?_
  refine Zb ?_
  exact ⟨.int .i64 (l[0]), [], rfl, (Sub.emp Sub.refl), rfl⟩
 ·intro ρ r33 N33 B hB hBa hp hr hr0
  have q3 : ρ 3 = .pointer (some ⟨b1, 0, none⟩) := hr0 3 (by kernel_rfl)
  obtain ⟨ρ39, rfl⟩ := Ze (uc q3 un)
  clear q3
  refine Za (v := .pointer (some ⟨b1, 34, none⟩)) rfl (fa27_3 rfl rfl) ?_
  refine Zb ?_
  exact ⟨.pointer (some ⟨b1, 34, none⟩), [], rfl, (Sub.emp Sub.refl), rfl⟩
 ·intro ρ r33 N33 B hB hBa hp hr hr0
  have q48 : ρ 48 = .pointer (some ⟨b1, 34, none⟩) := (hr 3 _ _ (by decide) rfl rfl rfl).trans (hp 3 (by decide) rfl)
  obtain ⟨ρ40, rfl⟩ := Ze (uc q48 un)
  clear q48
  refine Zd rfl (Zh ty24 rfl (At.bx 25 (Zu ((hB 4 (by decide)).trans rfl))) (pkT_34 ..) ?_)
  refine Zb ?_
  exact ⟨ks, [], rfl, (Sub.emp Sub.refl), rfl⟩
 ·intro ρ r33 N33 B hB hBa hp hr hr0
  have q49 : ρ 49 = ks := (hr 4 _ _ (by decide) rfl rfl rfl).trans (hp 4 (by decide) rfl)
  obtain ⟨ρ41, rfl⟩ := Ze (uc q49 un)
  clear q49
  refine Za (v := .int .i64 ((kids.length : Int))) rfl (Pu.lenSl Tryz.runUnderlying24 hv34) ?_
  refine Zb ?_
  exact ⟨.int .i64 ((kids.length : Int)), [], rfl, (Sub.emp Sub.refl), rfl⟩
 ·intro ρ r33 N33 B hB hBa hp hr hr0
  have q47 : ρ 47 = .int .i64 (l[0]) := (hr 2 _ _ (by decide) rfl rfl rfl).trans (hp 2 (by decide) rfl)
  have q50 : ρ 50 = .int .i64 ((kids.length : Int)) := (hr 5 _ _ (by decide) rfl rfl rfl).trans (hp 5 (by decide) rfl)
  obtain ⟨ρ42, rfl⟩ := Ze (uc q47 (uc q50 un))
  clear q47 q50
  refine Za (v := .int .i64 (l[0] - ((kids.length : Int)))) rfl (Pu.sub64 rfl rfl (by first | omega | (constructor <;> omega))) ?_
  refine Zb ?_
  exact ⟨.int .i64 (l[0] - ((kids.length : Int))), [], rfl, (Sub.emp Sub.refl), rfl⟩
 ·intro ρ r33 N33 B hB hBa hp hr hr0
  have q3 : ρ 3 = .pointer (some ⟨b1, 0, none⟩) := hr0 3 (by kernel_rfl)
  obtain ⟨ρ43, rfl⟩ := Ze (uc q3 un)
  clear q3
  refine Za (v := .pointer (some ⟨b1, 35, none⟩)) rfl (fa27_4 rfl rfl) ?_
  refine Zb ?_
  exact ⟨.pointer (some ⟨b1, 35, none⟩), [], rfl, (Sub.emp Sub.refl), rfl⟩
 ·intro ρ r33 N33 B hB hBa hp hr hr0
  have q52 : ρ 52 = .pointer (some ⟨b1, 35, none⟩) := (hr 7 _ _ (by decide) rfl rfl rfl).trans (hp 7 (by decide) rfl)
  obtain ⟨ρ44, rfl⟩ := Ze (uc q52 un)
  clear q52
  refine Zd rfl (Zh ty25 rfl (At.bx 25 (Zu ((hB 4 (by decide)).trans rfl))) (pkT_35 ..) ?_)
  refine Zb ?_
  exact ⟨cv, [], rfl, (Sub.emp Sub.refl), rfl⟩
 ·intro ρ r33 N33 B hB hBa hp hr hr0
  have q8 : ρ 8 = .int .i64 (l[0]) := hr0 8 (by kernel_rfl)
  obtain ⟨ρ45, rfl⟩ := Ze (uc q8 un)
  clear q8
  refine Za (v := .int .i64 (l[0])) rfl (Pu.move rfl) ?_
  refine Zb ?_
  exact ⟨.int .i64 (l[0]), [], rfl, (Sub.emp Sub.refl), rfl⟩
 ·intro ρ r33 N33 B hB hBa hp hr hr0
  have q3 : ρ 3 = .pointer (some ⟨b1, 0, none⟩) := hr0 3 (by kernel_rfl)
  obtain ⟨ρ46, rfl⟩ := Ze (uc q3 un)
  clear q3
  refine Za (v := .pointer (some ⟨b1, 34, none⟩)) rfl (fa27_3 rfl rfl) ?_
  refine Zb ?_
  exact ⟨.pointer (some ⟨b1, 34, none⟩), [], rfl, (Sub.emp Sub.refl), rfl⟩
 ·intro ρ r33 N33 B hB hBa hp hr hr0
  have q55 : ρ 55 = .pointer (some ⟨b1, 34, none⟩) := (hr 10 _ _ (by decide) rfl rfl rfl).trans (hp 10 (by decide) rfl)
  obtain ⟨ρ47, rfl⟩ := Ze (uc q55 un)
  clear q55
  refine Zd rfl (Zh ty24 rfl (At.bx 25 (Zu ((hB 4 (by decide)).trans rfl))) (pkT_34 ..) ?_)
  refine Zb ?_
  exact ⟨ks, [], rfl, (Sub.emp Sub.refl), rfl⟩
 ·intro ρ r33 N33 B hB hBa hp hr hr0
  have q56 : ρ 56 = ks := (hr 11 _ _ (by decide) rfl rfl rfl).trans (hp 11 (by decide) rfl)
  obtain ⟨ρ48, rfl⟩ := Ze (uc q56 un)
  clear q56
  refine Za (v := .int .i64 ((kids.length : Int))) rfl (Pu.lenSl Tryz.runUnderlying24 hv34) ?_
  refine Zb ?_
  exact ⟨.int .i64 ((kids.length : Int)), [], rfl, (Sub.emp Sub.refl), rfl⟩
 ·intro ρ r33 N33 B hB hBa hp hr hr0
  have q54 : ρ 54 = .int .i64 (l[0]) := (hr 9 _ _ (by decide) rfl rfl rfl).trans (hp 9 (by decide) rfl)
  have q57 : ρ 57 = .int .i64 ((kids.length : Int)) := (hr 12 _ _ (by decide) rfl rfl rfl).trans (hp 12 (by decide) rfl)
  obtain ⟨ρ49, rfl⟩ := Ze (uc q54 (uc q57 un))
  clear q54 q57
  refine Za (v := .int .i64 (l[0] - ((kids.length : Int)))) rfl (Pu.sub64 rfl rfl (by first | omega | (constructor <;> omega))) ?_
  refine Zb ?_
  exact ⟨.int .i64 (l[0] - ((kids.length : Int))), [], rfl, (Sub.emp Sub.refl), rfl⟩
 ·intro ρ r33 N33 B hB hBa hp hr hr0
  have q53 : ρ 53 = cv := (hr 8 _ _ (by decide) rfl rfl rfl).trans (hp 8 (by decide) rfl)
  have q58 : ρ 58 = .int .i64 (l[0] - ((kids.length : Int))) := (hr 13 _ _ (by decide) rfl rfl rfl).trans (hp 13 (by decide) rfl)
  obtain ⟨ρ50, rfl⟩ := Ze (uc q53 (uc q58 un))
  clear q53 q58
  refine Za (v := .pointer (some ⟨b35, o35 + (l[0] - ((kids.length : Int))).toNat * 71, none⟩)) rfl (Pu.idx (l[0] - ((kids.length : Int))).toNat Tryz.runUnderlying25 ty34 hv35 rfl (by first | rfl | omega) (by first | assumption | omega | decide | simp)) ?_
  refine Zb ?_
  exact ⟨.pointer (some ⟨b35, o35 + (l[0] - ((kids.length : Int))).toNat * 71, none⟩), [], rfl, (Sub.emp Sub.refl), rfl⟩
 ·intro ρ r33 N33 B hB hBa hp hr hr0
  have q59 : ρ 59 = .pointer (some ⟨b35, o35 + (l[0] - ((kids.length : Int))).toNat * 71, none⟩) := (hr 14 _ _ (by decide) rfl rfl rfl).trans (hp 14 (by decide) rfl)
  obtain ⟨ρ51, rfl⟩ := Ze (uc q59 un)
  clear q59
  refine Za (v := .pointer (some ⟨b35, o35 + (l[0] - ((kids.length : Int))).toNat * 71 + 35, none⟩)) rfl (fa34_1 rfl rfl) ?_
  refine Zb ?_
  exact ⟨.pointer (some ⟨b35, o35 + (l[0] - ((kids.length : Int))).toNat * 71 + 35, none⟩), [], rfl, (Sub.emp Sub.refl), rfl⟩
 ·intro ρ r33 N33 B hB hBa hp hr hr0
  have q60 : ρ 60 = .pointer (some ⟨b35, o35 + (l[0] - ((kids.length : Int))).toNat * 71 + 35, none⟩) := (hr 15 _ _ (by decide) rfl rfl rfl).trans (hp 15 (by decide) rfl)
  obtain ⟨ρ52, rfl⟩ := Ze (uc q60 un)
  clear q60
  refine Zd rfl (Zj Zt rfl (At.im hb35) (sub_sub hs35 (sub_r (RP_len hA35) (Zv hB35))) ?_)
  refine Zb ?_
  exact ⟨.agg ⟨cb35⟩, [], rfl, (Sub.emp Sub.refl), rfl⟩
 ·intro ρ r33 N33 B hB hBa hp hr hr0
  have q1 : ρ 1 = v := hr0 1 (by kernel_rfl)
  obtain ⟨ρ53, rfl⟩ := Ze (uc q1 un)
  clear q1
  refine Za (v := v) rfl (Pu.move rfl) ?_
  refine Zb ?_
  exact ⟨v, [], rfl, (Sub.emp Sub.refl), rfl⟩
 ·intro ρ r33 N33 B hB hBa hp hr hr0
  have q62 : ρ 62 = v := (hr 17 _ _ (by decide) rfl rfl rfl).trans (hp 17 (by decide) rfl)
  obtain ⟨ρ54, rfl⟩ := Ze (uc q62 un)
  clear q62
  refine Zd rfl (Runs_slice1 hpr (by omega) Tryz.runUnderlying43 Tryz.sizeOf3 rfl rfl fun u55 hu55 => ?_)
  refine Zb ?_
  exact ⟨u55, [], rfl, (Sub.emp Sub.refl), hu55⟩
 ·intro ρ r33 N33 B hB hBa hp hr hr0
  have q5 : ρ 5 = .pointer (some ⟨b2, 0, none⟩) := hr0 5 (by kernel_rfl)
  obtain ⟨ρ56, rfl⟩ := Ze (uc q5 un)
  clear q5
  refine Zd rfl (Zj Zt rfl (At.bx 24 (Zu ((hB 3 (by decide)).trans rfl))) (Zy (Zv hu1)) ?_)
  refine Zb ?_
  exact ⟨.agg ⟨us⟩, [], rfl, (Sub.emp Sub.refl), rfl⟩
 ·intro ρ r33 N33 B hB hBa hp hr hr0
  have p18 : ∀ h, pathR h v l → pathR h (r33 18) l.tail := hp 18 (by decide) rfl
  have q61 : ρ 61 = .agg ⟨cb35⟩ := (hr 16 _ _ (by decide) rfl rfl rfl).trans (hp 16 (by decide) rfl)
  have q63 : ρ 63 = (r33 18) := (hr 18 _ _ (by decide) rfl rfl rfl)
  have q64 : ρ 64 = .agg ⟨us⟩ := (hr 19 _ _ (by decide) rfl rfl rfl).trans (hp 19 (by decide) rfl)
  obtain ⟨ρ57, rfl⟩ := Ze (uc q61 (uc q63 (uc q64 un)))
  clear q61 q63 q64
  refine JL_call0 rfl Tryz.call67 rfl (ih (l.tail).length (by rw [List.length_tail]; omega) _ (r33 18) _ _ _ _ H rfl (p18 _ hpr) (fun n hn => hpi n (List.mem_of_mem_tail hn)) hB35 hu1 (by omega) (by have e := at_case (t := (.mk kind num ref kids cases)) (l := l) (by omega) (by first | assumption | (show (kids.length : Int) ≤ l[0]; omega)) (by first | assumption | (show l[0] - (kids.length : Int) < (cases.length : Int); omega)); rw [e] at hat; exact hat)) rfl ?_
  rintro _ _ ⟨cs58, k58, rfl, rfl, hl58, hk58, hr58⟩
  refine Zb ?_
  exact ⟨.agg ⟨cs58⟩, k58, rfl, Sub.refl, ⟨rfl, hl58, hk58, hr58⟩⟩
 intro ρ r33 N33 hp hr hr0
 have p20 : (r33 20) = .agg ⟨(cel (r33 20))⟩ ∧ ((cel (r33 20))).length = 36 ∧ okc ((cel (r33 20))) ∧ ∀ h, Has (N33 20) h → Hle H h → RT h ((cel (r33 20))) ((setP l.tail cases[(l[0] - ((kids.length : Int))).toNat].2 u).1) := hp 20 (by decide)
 have q6 : ρ 6 = .pointer (some ⟨b3, 0, none⟩) := hr0 6 (by kernel_rfl)
 have q7 : ρ 7 = .pointer (some ⟨b6, 0, none⟩) := hr0 7 (by kernel_rfl)
 have q46 : ρ 46 = v32 := (hr 1 _ _ (by decide) rfl rfl).trans (hp 1 (by decide))
 have q51 : ρ 51 = .int .i64 (l[0] - ((kids.length : Int))) := (hr 6 _ _ (by decide) rfl rfl).trans (hp 6 (by decide))
 have q65 : ρ 65 = .agg ⟨(cel (r33 20))⟩ := (hr 20 _ _ (by decide) rfl rfl).trans p20.1
 obtain ⟨ρ59, rfl⟩ := Ze (uc q6 (uc q7 (uc q46 (uc q51 (uc q65 un)))))
 clear q6 q7 q46 q51 q65
 have p33_20 := p20
 clear hp hr hr0 p20
 refine Zw (M' := [(N33 0), (N33 1), (N33 2), (N33 3), (N33 4), (N33 5), (N33 6), (N33 7), (N33 8), (N33 9), (N33 10), (N33 11), (N33 12), (N33 13), (N33 14), (N33 15), (N33 16), (N33 17), (N33 18), (N33 19), (N33 20), k32, [(b6, .cells ⟨pkT kind num ref ks v32⟩ 27 (0, 0))], [(b3, .cells ⟨pkT 0 0 zS (.slice none 0 0) (.slice none 0 0)⟩ 27 (0, 0))], [(b2, .cells ⟨us⟩ 27 (0, 0))], [(b1, .cells ⟨pkT kind num ref ks cv⟩ 27 (0, 0))]]) Sub.refl ?_
 refine Zw (M' := [(N33 20), k32, [(b6, .cells ⟨pkT kind num ref ks v32⟩ 27 (0, 0))], [(b3, .cells ⟨pkT 0 0 zS (.slice none 0 0) (.slice none 0 0)⟩ 27 (0, 0))], [(b2, .cells ⟨us⟩ 27 (0, 0))], [(b1, .cells ⟨pkT kind num ref ks cv⟩ 27 (0, 0))]]) (Sd (Sd (Sd (Sd (Sd (Sd (Sd (Sd (Sd (Sd (Sd (Sd (Sd (Sd (Sd (Sd (Sd (Sd (Sd (Sd (Sk (Sk (Sk (Sk (Sk (Sk Sub.nil)))))))))))))))))))))))))) ?_
 show JL _ _ _ [_, _, _] _ _ _
 obtain ⟨b60, cap60, row60, hv60, hm60, hs60⟩ := ho32.at' hce_; rw [he32] at hv60
 refine Za (v := .pointer (some ⟨b60, 0 + (l[0] - ((kids.length : Int))).toNat * 71, none⟩)) rfl (Pu.idx (l[0] - ((kids.length : Int))).toNat Tryz.runUnderlying25 ty34 hv60 rfl (by first | rfl | omega) (by omega)) ?_
 refine Za (v := .pointer (some ⟨b60, 0 + (l[0] - ((kids.length : Int))).toNat * 71 + 35, none⟩)) rfl (fa34_1 rfl rfl) ?_
 refine Zd rfl (Runs_storeOwnP (i := 1) (j := (l[0] - ((kids.length : Int))).toNat) (b := b60) (e := ca_ ++ cb_) (e2 := ca_ ++ ((cel (r33 20)))) Zt rfl ho32 ⟨_, _, hv60⟩ rfl hce_ rfl rfl p33_20.2.1 p33_20.2.2.1 (spl_r (n := 35) (i := 0) (RP_len hca_) (spl_a (n := 36) (Zv hcb_) p33_20.2.1)) (len_app (RP_len hca_) p33_20.2.1) fun k61 ho61 => ?_)
 refine Zb ?_
 refine Zg (Zc ?_)
 refine Zd rfl (Zj Zt rfl (At.bx 2 rfl) (pkT_a ..) ?_)
 refine Zd rfl (Zi 3 (vs := pkT kind num ref ks v32) (l := pkT kind num ref ks v32) Zt rfl rfl rfl rfl rfl (pkT_ok hks.one ho32.one) (pkT_s ..) ?_)
 refine Zb ?_
 refine Zo ?_
 refine ⟨.agg ⟨pkT kind num ref ks v32⟩, [k61 ++ ((N33 20))], Ret.one rfl (RV.cell Zt rfl (At.bx 3 rfl) (pkT_a ..)), (Sub.join (Sub.cons 1 rfl (Sk Sub.nil))), ?_⟩
 have hs := setP_pos (l := l) (by omega) kind num ref kids cases u
 rw [if_neg (by omega), if_neg (by omega), if_pos (by omega), getD_at (by omega)] at hs
 exact ⟨_, _, rfl, rfl, rfl, pkT_ok hks.one ho61.one, fun h hh hle => by rw [hs]; exact RT_mk.2 ⟨_, _, rfl, hk, hn, RTs.mono hle hks, row_setC ho61 he32 hcl hh.left (fun i h1 h2 => (hE32 i h1 h2).mono hle) (hca_.mono hle) (p33_20.2.2.2 _ hh.right hle)⟩⟩
end Go.Proofs.YtdeinimmmjichaaGreat.Hs
/-! Walks, printed by a program of this session's own (gen.py). -/
namespace Go.Proofs.YtdeinimmmjichaaGreat.Hs
open Go Go.Proofs
set_option maxRecDepth 100000
set_option linter.unusedVariables false
set_option linter.unusedSimpArgs false
attribute [local irreducible] JL J CT wlo
theorem putRR_ct (t u : Tm) (l : List Int) (cs us : List Value) (v : Value) (H : Heap) (ht : RT H cs t) (hu1 : RT H us u) (hpr : pathR H v l) (hpi : ∀ n ∈ l, inI n) (hz : sizeT t ≤ 100000) (hzu : sizeT u ≤ 100000) : CT Tryz.prog 28 ⟨[.agg ⟨cs⟩, v, .agg ⟨us⟩]⟩ [] H (fun r M => ∃ cs' k, r = .tuple ⟨[.agg ⟨cs'⟩, .int .i64 (putR t l u).2]⟩ ∧ M = [k] ∧ cs'.length = 36 ∧ okc cs' ∧ ∀ h, Has k h → Hle H h → RT h cs' (putR t l u).1) := by
 refine Zr Tryz.func28 rfl rfl ?_
 refine Zg (Zc ?_)
 refine Zd rfl (Zx (l := cs) rfl rfl fun b1 => ?_)
 refine Zd rfl (Zx (l := us) rfl rfl fun b2 => ?_)
 refine Zd rfl (Zn (l := pkT 0 0 zS (.slice none 0 0) (.slice none 0 0)) Tryz.zeroValue27 rfl fun b3 => ?_)
 refine Za (v := .int .i64 0) rfl (Pu.assign rfl) ?_
 refine Zb ?_
 refine Zg ?_
 refine Zg (Zc ?_)
 refine Zd rfl (Zj Zt rfl (At.bx 2 rfl) (Zy (Zv ht)) ?_)
 refine Za (v := v) rfl (Pu.move rfl) ?_
 refine Zk rfl Tryz.call27 rfl (fun hin => atR_ct _ _ _ _ _ (RT.mono (Hle.hu _ _) ht) (RIs.mono (Hle.hu _ _) hpr.rd) hpi (by omega)) rfl ?_
 rintro _ _ ⟨cs4, k4, rfl, rfl, hO4⟩
 refine Za (v := .tuple ⟨[.agg ⟨cs4⟩, .int .i64 ((atR t l).2)]⟩) rfl (Pu.move rfl) ?_
 refine Za (v := .agg ⟨cs4⟩) rfl (Pu.extract rfl rfl) ?_
 refine Za (v := .int .i64 ((atR t l).2)) rfl (Pu.extract rfl rfl) ?_
 refine Zd rfl (Zn (l := pkT 0 0 zS (.slice none 0 0) (.slice none 0 0)) Tryz.zeroValue27 rfl fun b5 => ?_)
 refine Zd rfl (Zi 0 (vs := cs4) (l := cs4) Zt rfl rfl rfl rfl hO4.len hO4.ok (spl_a (n := 36) rfl hO4.len) ?_)
 refine Za (v := .int .i64 ((atR t l).2)) rfl (Pu.assign rfl) ?_
 refine Zb ?_
 refine Zg (Zc ?_)
 refine Za (v := .int .i64 ((atR t l).2)) rfl (Pu.move rfl) ?_
 refine Za (v := .bool (!decide ((atR t l).2 = 0))) rfl (Pu.neq rfl rfl) ?_
 refine Zb ?_
 refine Zl (b := !decide ((atR t l).2 = 0)) rfl (fun h6 => ?_) (fun h6 => ?_)
 ·replace h6 := nt h6
  replace h6 := df h6
  refine Zg (Zc ?_)
  refine Za (v := .agg ⟨pkT 0 0 zS (.slice none 0 0) (.slice none 0 0)⟩) rfl (Pu.build (pv := []) (l := pkT 0 0 zS (.slice none 0 0) (.slice none 0 0)) rfl (bld27_ )) ?_
  refine Za (v := .int .i64 ((atR t l).2)) rfl (Pu.move rfl) ?_
  refine Zd rfl (Zi 2 (vs := pkT 0 0 zS (.slice none 0 0) (.slice none 0 0)) (l := pkT 0 0 zS (.slice none 0 0) (.slice none 0 0)) Zt rfl rfl rfl rfl rfl (pkT_ok rfl rfl) (pkT_s ..) ?_)
  refine Za (v := .int .i64 ((atR t l).2)) rfl (Pu.assign rfl) ?_
  refine Zb ?_
  refine Zo ?_
  refine ⟨.tuple ⟨[.agg ⟨pkT 0 0 zS (.slice none 0 0) (.slice none 0 0)⟩, .int .i64 ((atR t l).2)]⟩, [[]], Ret.two rfl (RV.cell Zt rfl (At.bx 2 rfl) (pkT_a ..)) (RV.tmp rfl), (Sub.emp Sub.nil), ?_⟩
  have hx := putR_none (u := u) h6
  exact ⟨_, _, by rw [hx], rfl, rfl, pkT_ok rfl rfl, fun h _ _ => by rw [hx]; exact RT_zero⟩
 replace h6 := nf h6
 replace h6 := dt h6
 refine Zq ?_
 refine Zg (Zc ?_)
 refine Zd rfl (Zj Zt rfl (At.bx 4 rfl) (Zy (Zv ht)) ?_)
 refine Za (v := v) rfl (Pu.move rfl) ?_
 refine Zd rfl (Zj Zt rfl (At.bx 3 rfl) (Zy (Zv hu1)) ?_)
 refine JL_call0 rfl Tryz.call67 rfl (setR_ct _ l v t u _ _ H rfl hpr hpi ht hu1 (by omega) (atR_some h6)) rfl ?_
 rintro _ _ ⟨cs7, k7, rfl, rfl, hl7, hk7, hr7⟩
 refine Zd rfl (Zn (l := pkT 0 0 zS (.slice none 0 0) (.slice none 0 0)) Tryz.zeroValue27 rfl fun b8 => ?_)
 refine Zd rfl (Zi 0 (vs := cs7) (l := cs7) Zt rfl rfl rfl rfl hl7 hk7 (spl_a (n := 36) rfl hl7) ?_)
 refine Zb ?_
 refine Zg ?_
 refine Zg (Zc ?_)
 refine Zd rfl (Zj Zt rfl (At.bx 0 rfl) (Zy hl7) ?_)
 refine Zk rfl Tryz.call56 rfl (fun hin => longR_ct _ _ _ (hr7 _ (hin 1 _ rfl) (Hle.hu _ _)) (by have := setP_size l t u; omega)) rfl ?_
 rintro _ _ ⟨rfl, rfl⟩
 refine Zb ?_
 refine Zl (b := longB ((setP l t u).1)) rfl (fun h9 => ?_) (fun h9 => ?_)
 ·refine Zg (Zc ?_)
  refine Za (v := .agg ⟨pkT 0 0 zS (.slice none 0 0) (.slice none 0 0)⟩) rfl (Pu.build (pv := []) (l := pkT 0 0 zS (.slice none 0 0) (.slice none 0 0)) rfl (bld27_ )) ?_
  refine Zd rfl (Zi 4 (vs := pkT 0 0 zS (.slice none 0 0) (.slice none 0 0)) (l := pkT 0 0 zS (.slice none 0 0) (.slice none 0 0)) Zt rfl rfl rfl rfl rfl (pkT_ok rfl rfl) (pkT_s ..) ?_)
  refine Za (v := .int .i64 11) rfl (Pu.assign rfl) ?_
  refine Zb ?_
  refine Zo ?_
  refine ⟨.tuple ⟨[.agg ⟨pkT 0 0 zS (.slice none 0 0) (.slice none 0 0)⟩, .int .i64 11]⟩, [[]], Ret.two rfl (RV.cell Zt rfl (At.bx 4 rfl) (pkT_a ..)) (RV.tmp rfl), (Sub.emp Sub.nil), ?_⟩
  have hx := putR_long (u := u) (by assumption) (show longB (setP l t u).1 = true by simp [h9])
  exact ⟨_, _, by rw [hx], rfl, rfl, pkT_ok rfl rfl, fun h _ _ => by rw [hx]; exact RT_zero⟩
 refine Zq ?_
 refine Zg (Zc ?_)
 refine Zd rfl (Zj Zt rfl (At.bx 0 rfl) (Zy hl7) ?_)
 refine Zd rfl (Zi 4 (vs := cs7) (l := cs7) Zt rfl rfl rfl rfl hl7 hk7 (spl_a (n := 36) rfl hl7) ?_)
 refine Za (v := .int .i64 0) rfl (Pu.assign rfl) ?_
 refine Zb ?_
 refine Zo ?_
 refine ⟨.tuple ⟨[.agg ⟨cs7⟩, .int .i64 0]⟩, [k7], Ret.two rfl (RV.cell Zt rfl (At.bx 4 rfl) (Zy hl7)) (RV.tmp rfl), (Sd (Sk Sub.nil)), ?_⟩
 have hx := putR_put (u := u) (by assumption) (show ¬ longB (setP l t u).1 = true by simp [h9])
 exact ⟨_, _, by rw [hx], rfl, hl7, hk7, by rw [hx]; exact hr7⟩
end Go.Proofs.YtdeinimmmjichaaGreat.Hs
/-! Walks, printed by a program of this session's own (gen.py). -/
namespace Go.Proofs.YtdeinimmmjichaaGreat.Hs
open Go Go.Proofs
set_option maxRecDepth 100000
set_option linter.unusedVariables false
set_option linter.unusedSimpArgs false
attribute [local irreducible] JL J CT wlo
theorem parts1F_ct (kind num : Int) (ref : Sm) (ks cv : Value) (kids : List Tm) (cases : List (Pt × Tm)) (H0 H : Heap) (hle : Hle H0 H) (bT : Nat) (hks : Hs.rdS RT 36 H0 ks kids) (hcv : Hs.rdS RC 71 H0 cv cases) (hT : H bT = some (.cells ⟨pkT kind num ref ks cv⟩ 27 (0, 0))) (hsz : ∀ c ∈ cases, binds c.1 ≤ 1000000) (hkl : kids.length ≤ 1000000) (hcl : cases.length ≤ 1000000) (l : Nat) {σ : Type} (yc : σ → Zm) (n : Int) (s0 : σ) (Fx : Tm → σ → Prop) (hy : ∀ (i mo : Int) x a h, Hle H h → RT H0 a x → YT Tryz.prog l ⟨[.int .i64 i, .agg ⟨a ++ [.int .i64 mo]⟩]⟩ [yc s0] h (fun v N => ∃ s, v = .bool (!decide (i = n)) ∧ N = [yc s] ∧ (i = n → Fx x s) ∧ (¬ i = n → s = s0))) : CT Tryz.prog 100 ⟨[.func (.yield l) ⟨[]⟩ ⟨[]⟩, .pointer (some ⟨bT, 0, none⟩)]⟩ [yc s0] H (fun _ N => ∃ s, N = [yc s] ∧ ((∃ x, partT (.mk kind num ref kids cases) n = some x ∧ Fx x s) ∨ (partT (.mk kind num ref kids cases) n = none ∧ s = s0))) := by
 refine Zr Tryz.func100 rfl rfl ?_
 refine Zg ?_
 refine Zg (Zc ?_)
 refine Za (v := .pointer (some ⟨bT, 34, none⟩)) rfl (fa27_3 rfl rfl) ?_
 refine Zd rfl (Zh ty24 rfl (At.im hT) (pkT_34 ..) ?_)
 obtain ⟨a1, cap1, hv1⟩ := hks.sl
 have hle1 := hks.le
 refine Za (v := .int .i64 ((kids.length : Int))) rfl (Pu.lenSl Tryz.runUnderlying24 hv1) ?_
 refine Za (v := .int .i64 0) rfl (Pu.move rfl) ?_
 refine Zb ?_
 refine Zs ?_
 refine J_loop (fun k ρ M => ∃ (j : Nat), ρ 0 = .func (.yield l) ⟨[]⟩ ⟨[]⟩ ∧ ρ 1 = .pointer (some ⟨bT, 0, none⟩) ∧ ρ 8 = ks ∧ ρ 9 = .int .i64 ((kids.length : Int)) ∧ ρ 10 = .int .i64 ((j : Int)) ∧ Sub [yc s0] M ∧ j ≤ kids.length ∧ (n < 0 ∨ (j : Int) ≤ n) ∧ k = kids.length - j) _ ⟨0, rfl, rfl, rfl, rfl, rfl, (Sk Sub.nil), Nat.zero_le _, (by omega), rfl⟩ ?_
 rintro _ ρ2 _ ⟨j, e3, e4, e5, e6, e7, hm8, hj, hnf, rfl⟩
 obtain ⟨ρ9, rfl⟩ := Ze (uc e3 (uc e4 (uc e5 (uc e6 (uc e7 un)))))
 clear e3 e4 e5 e6 e7
 refine J_sub hm8 ?_
 have hlen := hks.le
 refine Zg (Zc ?_)
 refine Za (v := .bool (decide ((j : Int) < (kids.length : Int)))) rfl (Pu.lss rfl rfl) ?_
 refine Zb ?_
 refine Zg ?_
 refine Zl (b := decide ((j : Int) < (kids.length : Int))) rfl (fun h10 => ?_) (fun h10 => ?_)
 ·replace h10 := dt h10
  have h10n : j < kids.length := by omega
  refine Zq ?_
  refine Zg ?_
  refine Zs ?_
  refine Zg (Zc ?_)
  refine Za (v := .int .i64 ((j : Int))) rfl (Pu.move rfl) ?_
  obtain ⟨b11, o11, cap11, row11, T11, fr11, cs11, hv11, hb11, hs11, hE11⟩ := hks.get j (by first | assumption | omega | decide | simp)
  refine Za (v := .pointer (some ⟨b11, o11 + j * 36, none⟩)) rfl (Pu.idx j Tryz.runUnderlying24 Zt hv11 rfl rfl (by first | assumption | omega | decide | simp)) ?_
  refine Zd rfl (Zj Zt rfl (At.im (hle _ _ hb11)) hs11 ?_)
  refine Zd rfl (Zn (l := pkT 0 0 zS (.slice none 0 0) (.slice none 0 0)) Tryz.zeroValue27 rfl fun b12 => ?_)
  refine Za (v := .int .i64 ((j : Int))) rfl (Pu.assign rfl) ?_
  refine Zd rfl (Zi 0 (vs := cs11) (l := cs11) Zt rfl rfl rfl rfl (Zv hE11) (RT_ok hE11) (spl_a (n := 36) rfl (Zv hE11)) ?_)
  refine Zb ?_
  refine Zg ?_
  refine J_draw mixed #[0, 0, 0, 0, 8, 0, 56, 124, 255, 511] 8 8 2 rfl (by kernel_rfl) (fun i r13 N13 => match i with | 0 => (r13 0) = .func (.yield l) ⟨[]⟩ ⟨[]⟩ | 1 => (r13 1) = .int .i64 ((j : Int)) | 2 => (r13 2) = .agg ⟨cs11⟩ | 3 => (r13 3) = .pointer (some ⟨bT, 0, none⟩) | 4 => (r13 4) = .int .i64 kind | 5 => (r13 5) = .int .i64 ((j : Int)) | 6 => (r13 6) = .int .i64 (more kind ((j : Int))) | 7 => (r13 7) = .agg ⟨cs11 ++ ([.int .i64 (more kind ((j : Int)))] : List Value)⟩ | _ => True) ⟨?_, ?_, ?_, ?_, ?_, ?_, ?_, ?_, trivial⟩ ?_
  ·intro ρ r13 N13 B hB hBa hp hr hr0
   have q0 : ρ 0 = .func (.yield l) ⟨[]⟩ ⟨[]⟩ := hr0 0 (by kernel_rfl)
   obtain ⟨ρ14, rfl⟩ := Ze (uc q0 un)
   clear q0
   refine Za (v := .func (.yield l) ⟨[]⟩ ⟨[]⟩) rfl (Pu.move rfl) ?_
   refine Zb ?_
   exact ⟨.func (.yield l) ⟨[]⟩ ⟨[]⟩, [], rfl, (Sub.emp Sub.refl), rfl⟩
  ·intro ρ r13 N13 B hB hBa hp hr hr0
   have q3 : ρ 3 = .int .i64 ((j : Int)) := hr0 3 (by kernel_rfl)
   obtain ⟨ρ15, rfl⟩ := Ze (uc q3 un)
   clear q3
   refine Za (v := .int .i64 ((j : Int))) rfl (Pu.move rfl) ?_
   refine Zb ?_
   exact ⟨.int .i64 ((j : Int)), [], rfl, (Sub.emp Sub.refl), rfl⟩
  ·intro ρ r13 N13 B hB hBa hp hr hr0
   have q4 : ρ 4 = .pointer (some ⟨b12, 0, none⟩) := hr0 4 (by kernel_rfl)
   obtain ⟨ρ16, rfl⟩ := Ze (uc q4 un)
   clear q4
   refine Zd rfl (Zj Zt rfl (At.bx 8 (Zu ((hB 0 (by decide)).trans rfl))) (Zy (Zv hE11)) ?_)
   refine Zb ?_
   exact ⟨.agg ⟨cs11⟩, [], rfl, (Sub.emp Sub.refl), rfl⟩
  ·intro ρ r13 N13 B hB hBa hp hr hr0
   have q1 : ρ 1 = .pointer (some ⟨bT, 0, none⟩) := hr0 1 (by kernel_rfl)
   obtain ⟨ρ17, rfl⟩ := Ze (uc q1 un)
   clear q1
   refine Za (v := .pointer (some ⟨bT, 0, none⟩)) rfl (fa27_0 rfl rfl) ?_
   refine Zb ?_
   exact ⟨.pointer (some ⟨bT, 0, none⟩), [], rfl, (Sub.emp Sub.refl), rfl⟩
  ·intro ρ r13 N13 B hB hBa hp hr hr0
   have q18 : ρ 18 = .pointer (some ⟨bT, 0, none⟩) := (hr 3 _ _ (by decide) rfl rfl rfl).trans (hp 3 (by decide) rfl)
   obtain ⟨ρ18, rfl⟩ := Ze (uc q18 un)
   clear q18
   refine Zd rfl (Zh ty3 rfl (At.im hT) (pkT_0 ..) ?_)
   refine Zb ?_
   exact ⟨.int .i64 kind, [], rfl, (Sub.emp Sub.refl), rfl⟩
  ·intro ρ r13 N13 B hB hBa hp hr hr0
   have q3 : ρ 3 = .int .i64 ((j : Int)) := hr0 3 (by kernel_rfl)
   obtain ⟨ρ19, rfl⟩ := Ze (uc q3 un)
   clear q3
   refine Za (v := .int .i64 ((j : Int))) rfl (Pu.move rfl) ?_
   refine Zb ?_
   exact ⟨.int .i64 ((j : Int)), [], rfl, (Sub.emp Sub.refl), rfl⟩
  ·intro ρ r13 N13 B hB hBa hp hr hr0
   have q19 : ρ 19 = .int .i64 kind := (hr 4 _ _ (by decide) rfl rfl rfl).trans (hp 4 (by decide) rfl)
   have q20 : ρ 20 = .int .i64 ((j : Int)) := (hr 5 _ _ (by decide) rfl rfl rfl).trans (hp 5 (by decide) rfl)
   obtain ⟨ρ20, rfl⟩ := Ze (uc q19 (uc q20 un))
   clear q19 q20
   refine Zk rfl Tryz.call101 rfl (fun hin => more_ct _ _ _) rfl ?_
   rintro _ _ ⟨rfl, rfl⟩
   refine Zb ?_
   exact ⟨.int .i64 (more kind ((j : Int))), [], rfl, (Sub.emp Sub.refl), rfl⟩
  ·intro ρ r13 N13 B hB hBa hp hr hr0
   have q17 : ρ 17 = .agg ⟨cs11⟩ := (hr 2 _ _ (by decide) rfl rfl rfl).trans (hp 2 (by decide) rfl)
   have q21 : ρ 21 = .int .i64 (more kind ((j : Int))) := (hr 6 _ _ (by decide) rfl rfl rfl).trans (hp 6 (by decide) rfl)
   obtain ⟨ρ21, rfl⟩ := Ze (uc q17 (uc q21 un))
   clear q17 q21
   refine Za (v := .agg ⟨cs11 ++ ([.int .i64 (more kind ((j : Int)))] : List Value)⟩) rfl (Pu.build (pv := [(0, .agg ⟨cs11⟩), (1, .int .i64 (more kind ((j : Int))))]) (l := cs11 ++ ([.int .i64 (more kind ((j : Int)))] : List Value)) rfl (bld105_0_1 (Zv hE11))) ?_
   refine Zb ?_
   exact ⟨.agg ⟨cs11 ++ ([.int .i64 (more kind ((j : Int)))] : List Value)⟩, [], rfl, (Sub.emp Sub.refl), rfl⟩
  intro ρ r13 N13 hp hr hr0
  have q0 : ρ 0 = .func (.yield l) ⟨[]⟩ ⟨[]⟩ := hr0 0 (by kernel_rfl)
  have q1 : ρ 1 = .pointer (some ⟨bT, 0, none⟩) := hr0 1 (by kernel_rfl)
  have q8 : ρ 8 = ks := hr0 8 (by kernel_rfl)
  have q9 : ρ 9 = .int .i64 ((kids.length : Int)) := hr0 9 (by kernel_rfl)
  have q10 : ρ 10 = .int .i64 ((j : Int)) := hr0 10 (by kernel_rfl)
  have q15 : ρ 15 = .func (.yield l) ⟨[]⟩ ⟨[]⟩ := (hr 0 _ _ (by decide) rfl rfl).trans (hp 0 (by decide))
  have q16 : ρ 16 = .int .i64 ((j : Int)) := (hr 1 _ _ (by decide) rfl rfl).trans (hp 1 (by decide))
  have q22 : ρ 22 = .agg ⟨cs11 ++ ([.int .i64 (more kind ((j : Int)))] : List Value)⟩ := (hr 7 _ _ (by decide) rfl rfl).trans (hp 7 (by decide))
  obtain ⟨ρ22, rfl⟩ := Ze (uc q0 (uc q1 (uc q8 (uc q9 (uc q10 (uc q15 (uc q16 (uc q22 un))))))))
  clear q0 q1 q8 q9 q10 q15 q16 q22
  clear hp hr hr0 
  refine Zw (M' := [(N13 0), (N13 1), (N13 2), (N13 3), (N13 4), (N13 5), (N13 6), (N13 7), [(b12, .cells ⟨cs11⟩ 27 (0, 0))], yc s0]) Sub.refl ?_
  refine Zw (M' := [[(b12, .cells ⟨cs11⟩ 27 (0, 0))], yc s0]) (Sd (Sd (Sd (Sd (Sd (Sd (Sd (Sd (Sk (Sk Sub.nil)))))))))) ?_
  show JL _ _ _ [_, _] _ _ _
  refine JL_yield1 1 rfl rfl rfl (fun hin => hy _ _ _ _ _ (Hle.hu _ _) hE11) rfl ?_
  rintro _ _ ⟨s23, rfl, rfl, hs23, hn23⟩
  refine Za (v := .bool (!(!decide (((j : Int)) = n)))) rfl (Pu.not rfl) ?_
  refine Zb ?_
  refine Zl (b := !(!decide (((j : Int)) = n))) rfl (fun h24 => ?_) (fun h24 => ?_)
  ·replace h24 := nt h24
   replace h24 := nf h24
   replace h24 := dt h24
   refine Zo ?_
   refine ⟨.tuple ⟨[]⟩, [yc s23], Ret.none rfl, (Sk Sub.nil), ?_⟩
   have hpk := part_kid' (t := (.mk kind num ref kids cases)) (j := j) h10n
   rw [h24] at hpk
   exact ⟨s23, rfl, .inl ⟨_, hpk, hs23 h24⟩⟩
  replace h24 := nf h24
  replace h24 := nt h24
  replace h24 := df h24
  refine Zq ?_
  refine Zc ?_
  refine Za (v := .int .i64 (((j + 1 : Nat) : Int))) rfl (Pu.inc rfl rfl (by omega)) ?_
  refine Za (v := .int .i64 (((j + 1 : Nat) : Int))) rfl (Pu.move rfl) ?_
  refine Zb ?_
  refine ⟨_, ?_, (j + 1), rfl, rfl, rfl, rfl, rfl, (Se (congrArg yc (hn23 h24)) Sub.nil), ?_, ?_, rfl⟩
  ·omega
  ·omega
  omega
 replace h10 := df h10
 have h10n : kids.length ≤ j := by omega
 refine J_exit _ rfl ?_
 refine Zg (Zc ?_)
 refine Za (v := .pointer (some ⟨bT, 35, none⟩)) rfl (fa27_4 rfl rfl) ?_
 refine Zd rfl (Zh ty25 rfl (At.im hT) (pkT_35 ..) ?_)
 obtain ⟨a25, cap25, hv25⟩ := hcv.sl
 have hle25 := hcv.le
 refine Za (v := .int .i64 ((cases.length : Int))) rfl (Pu.lenSl Tryz.runUnderlying25 hv25) ?_
 refine Za (v := .int .i64 0) rfl (Pu.move rfl) ?_
 refine Zb ?_
 refine Zs ?_
 refine J_loop (fun k ρ M => ∃ (j : Nat), ρ 0 = .func (.yield l) ⟨[]⟩ ⟨[]⟩ ∧ ρ 1 = .pointer (some ⟨bT, 0, none⟩) ∧ ρ 27 = cv ∧ ρ 28 = .int .i64 ((cases.length : Int)) ∧ ρ 29 = .int .i64 ((j : Int)) ∧ Sub [yc s0] M ∧ j ≤ cases.length ∧ (n < 0 ∨ (kids.length : Int) + (j : Int) ≤ n) ∧ k = cases.length - j) _ ⟨0, rfl, rfl, rfl, rfl, rfl, (Sk Sub.nil), Nat.zero_le _, (by omega), rfl⟩ ?_
 rintro _ ρ26 _ ⟨j, e27, e28, e29, e30, e31, hm32, hj, hnf, rfl⟩
 obtain ⟨ρ33, rfl⟩ := Ze (uc e27 (uc e28 (uc e29 (uc e30 (uc e31 un)))))
 clear e27 e28 e29 e30 e31
 refine J_sub hm32 ?_
 have hlen := hcv.le
 refine Zg (Zc ?_)
 refine Za (v := .bool (decide ((j : Int) < (cases.length : Int)))) rfl (Pu.lss rfl rfl) ?_
 refine Zb ?_
 refine Zg ?_
 refine Zl (b := decide ((j : Int) < (cases.length : Int))) rfl (fun h34 => ?_) (fun h34 => ?_)
 ·replace h34 := dt h34
  have h34n : j < cases.length := by omega
  have hbm := hsz _ (List.getElem_mem h34n)
  have hlenk := hks.le
  refine Zq ?_
  refine Zg ?_
  refine Zs ?_
  refine Zg (Zc ?_)
  refine Za (v := .int .i64 ((j : Int))) rfl (Pu.move rfl) ?_
  obtain ⟨b35, o35, cap35, row35, T35, fr35, cs35, hv35, hb35, hs35, hE35⟩ := hcv.get j (by first | assumption | omega | decide | simp)
  obtain ⟨ca35, cb35, rfl, hA35, hB35⟩ := hE35
  refine Za (v := .pointer (some ⟨b35, o35 + j * 71, none⟩)) rfl (Pu.idx j Tryz.runUnderlying25 ty34 hv35 rfl rfl (by first | assumption | omega | decide | simp)) ?_
  refine Zd rfl (Zj ty34 rfl (At.im (hle _ _ hb35)) hs35 ?_)
  refine Zd rfl (Zn (l := (pkP 0 0 zS (.slice none 0 0)) ++ (pkT 0 0 zS (.slice none 0 0) (.slice none 0 0))) Tryz.zeroValue34 rfl fun b36 => ?_)
  refine Za (v := .int .i64 ((j : Int))) rfl (Pu.assign rfl) ?_
  refine Zd rfl (Zi 0 (vs := ca35 ++ cb35) (l := ca35 ++ cb35) ty34 rfl rfl rfl rfl (len_app (RP_len hA35) (Zv hB35)) (okc_app (RP_ok hA35) (RT_ok hB35)) (spl_a (n := 71) rfl (len_app (RP_len hA35) (Zv hB35))) ?_)
  refine Zb ?_
  refine Zg ?_
  obtain ⟨a38, cap38, hv38⟩ := hks.sl
  have hle38 := hks.le
  refine J_draw mixed #[0, 0, 2, 6, 0, 30, 0, 64, 0, 256, 768, 1984, 4095, 8191] 12 12 2 rfl (by kernel_rfl) (fun i r37 N37 => match i with | 0 => (r37 0) = .func (.yield l) ⟨[]⟩ ⟨[]⟩ | 1 => (r37 1) = .pointer (some ⟨bT, 34, none⟩) | 2 => (r37 2) = ks | 3 => (r37 3) = .int .i64 ((kids.length : Int)) | 4 => (r37 4) = .int .i64 ((j : Int)) | 5 => (r37 5) = .int .i64 ((kids.length : Int) + ((j : Int))) | 6 => (r37 6) = .pointer (some ⟨b36, 35, none⟩) | 7 => (r37 7) = .agg ⟨cb35⟩ | 8 => (r37 8) = .pointer (some ⟨b36, 0, none⟩) | 9 => (r37 9) = .agg ⟨ca35⟩ | 10 => (r37 10) = .int .i64 ((binds (cases[j].1) : Int)) | 11 => (r37 11) = .agg ⟨cb35 ++ ([.int .i64 ((binds (cases[j].1) : Int))] : List Value)⟩ | _ => True) ⟨?_, ?_, ?_, ?_, ?_, ?_, ?_, ?_, ?_, ?_, ?_, ?_, trivial⟩ ?_
  ·intro ρ r37 N37 B hB hBa hp hr hr0
   have q0 : ρ 0 = .func (.yield l) ⟨[]⟩ ⟨[]⟩ := hr0 0 (by kernel_rfl)
   obtain ⟨ρ39, rfl⟩ := Ze (uc q0 un)
   clear q0
   refine Za (v := .func (.yield l) ⟨[]⟩ ⟨[]⟩) rfl (Pu.move rfl) ?_
   refine Zb ?_
   exact ⟨.func (.yield l) ⟨[]⟩ ⟨[]⟩, [], rfl, (Sub.emp Sub.refl), rfl⟩
  ·intro ρ r37 N37 B hB hBa hp hr hr0
   have q1 : ρ 1 = .pointer (some ⟨bT, 0, none⟩) := hr0 1 (by kernel_rfl)
   obtain ⟨ρ40, rfl⟩ := Ze (uc q1 un)
   clear q1
   refine Za (v := .pointer (some ⟨bT, 34, none⟩)) rfl (fa27_3 rfl rfl) ?_
   refine Zb ?_
   exact ⟨.pointer (some ⟨bT, 34, none⟩), [], rfl, (Sub.emp Sub.refl), rfl⟩
  ·intro ρ r37 N37 B hB hBa hp hr hr0
   have q35 : ρ 35 = .pointer (some ⟨bT, 34, none⟩) := (hr 1 _ _ (by decide) rfl rfl rfl).trans (hp 1 (by decide) rfl)
   obtain ⟨ρ41, rfl⟩ := Ze (uc q35 un)
   clear q35
   refine Zd rfl (Zh ty24 rfl (At.im hT) (pkT_34 ..) ?_)
   refine Zb ?_
   exact ⟨ks, [], rfl, (Sub.emp Sub.refl), rfl⟩
  ·intro ρ r37 N37 B hB hBa hp hr hr0
   have q36 : ρ 36 = ks := (hr 2 _ _ (by decide) rfl rfl rfl).trans (hp 2 (by decide) rfl)
   obtain ⟨ρ42, rfl⟩ := Ze (uc q36 un)
   clear q36
   refine Za (v := .int .i64 ((kids.length : Int))) rfl (Pu.lenSl Tryz.runUnderlying24 hv38) ?_
   refine Zb ?_
   exact ⟨.int .i64 ((kids.length : Int)), [], rfl, (Sub.emp Sub.refl), rfl⟩
  ·intro ρ r37 N37 B hB hBa hp hr hr0
   have q5 : ρ 5 = .int .i64 ((j : Int)) := hr0 5 (by kernel_rfl)
   obtain ⟨ρ43, rfl⟩ := Ze (uc q5 un)
   clear q5
   refine Za (v := .int .i64 ((j : Int))) rfl (Pu.move rfl) ?_
   refine Zb ?_
   exact ⟨.int .i64 ((j : Int)), [], rfl, (Sub.emp Sub.refl), rfl⟩
  ·intro ρ r37 N37 B hB hBa hp hr hr0
   have q37 : ρ 37 = .int .i64 ((kids.length : Int)) := (hr 3 _ _ (by decide) rfl rfl rfl).trans (hp 3 (by decide) rfl)
   have q38 : ρ 38 = .int .i64 ((j : Int)) := (hr 4 _ _ (by decide) rfl rfl rfl).trans (hp 4 (by decide) rfl)
   obtain ⟨ρ44, rfl⟩ := Ze (uc q37 (uc q38 un))
   clear q37 q38
   refine Za (v := .int .i64 ((kids.length : Int) + ((j : Int)))) rfl (Pu.add64 rfl rfl (by first | omega | (constructor <;> omega))) ?_
   refine Zb ?_
   exact ⟨.int .i64 ((kids.length : Int) + ((j : Int))), [], rfl, (Sub.emp Sub.refl), rfl⟩
  ·intro ρ r37 N37 B hB hBa hp hr hr0
   have q6 : ρ 6 = .pointer (some ⟨b36, 0, none⟩) := hr0 6 (by kernel_rfl)
   obtain ⟨ρ45, rfl⟩ := Ze (uc q6 un)
   clear q6
   refine Za (v := .pointer (some ⟨b36, 35, none⟩)) rfl (fa34_1 rfl rfl) ?_
   refine Zb ?_
   exact ⟨.pointer (some ⟨b36, 35, none⟩), [], rfl, (Sub.emp Sub.refl), rfl⟩
  ·intro ρ r37 N37 B hB hBa hp hr hr0
   have q40 : ρ 40 = .pointer (some ⟨b36, 35, none⟩) := (hr 6 _ _ (by decide) rfl rfl rfl).trans (hp 6 (by decide) rfl)
   obtain ⟨ρ46, rfl⟩ := Ze (uc q40 un)
   clear q40
   refine Zd rfl (Zj Zt rfl (At.bx 12 (Zu ((hB 0 (by decide)).trans rfl))) (sub_r (RP_len hA35) (Zv hB35)) ?_)
   refine Zb ?_
   exact ⟨.agg ⟨cb35⟩, [], rfl, (Sub.emp Sub.refl), rfl⟩
  ·intro ρ r37 N37 B hB hBa hp hr hr0
   have q6 : ρ 6 = .pointer (some ⟨b36, 0, none⟩) := hr0 6 (by kernel_rfl)
   obtain ⟨ρ47, rfl⟩ := Ze (uc q6 un)
   clear q6
   refine Za (v := .pointer (some ⟨b36, 0, none⟩)) rfl (fa34_0 rfl rfl) ?_
   refine Zb ?_
   exact ⟨.pointer (some ⟨b36, 0, none⟩), [], rfl, (Sub.emp Sub.refl), rfl⟩
  ·intro ρ r37 N37 B hB hBa hp hr hr0
   have q42 : ρ 42 = .pointer (some ⟨b36, 0, none⟩) := (hr 8 _ _ (by decide) rfl rfl rfl).trans (hp 8 (by decide) rfl)
   obtain ⟨ρ48, rfl⟩ := Ze (uc q42 un)
   clear q42
   refine Zd rfl (Zj ty30 rfl (At.bx 12 (Zu ((hB 0 (by decide)).trans rfl))) (sub_l (RP_len hA35)) ?_)
   refine Zb ?_
   exact ⟨.agg ⟨ca35⟩, [], rfl, (Sub.emp Sub.refl), rfl⟩
  ·intro ρ r37 N37 B hB hBa hp hr hr0
   have q43 : ρ 43 = .agg ⟨ca35⟩ := (hr 9 _ _ (by decide) rfl rfl rfl).trans (hp 9 (by decide) rfl)
   obtain ⟨ρ49, rfl⟩ := Ze (uc q43 un)
   clear q43
   refine Zk rfl Tryz.call53 rfl (fun hin => binds_ct _ _ _ (RP.mono (Hle.trans hle (Hle.hu _ _)) hA35) (by omega)) rfl ?_
   rintro _ _ ⟨rfl, rfl⟩
   refine Zb ?_
   exact ⟨.int .i64 ((binds (cases[j].1) : Int)), [], rfl, (Sub.emp Sub.refl), rfl⟩
  ·intro ρ r37 N37 B hB hBa hp hr hr0
   have q41 : ρ 41 = .agg ⟨cb35⟩ := (hr 7 _ _ (by decide) rfl rfl rfl).trans (hp 7 (by decide) rfl)
   have q44 : ρ 44 = .int .i64 ((binds (cases[j].1) : Int)) := (hr 10 _ _ (by decide) rfl rfl rfl).trans (hp 10 (by decide) rfl)
   obtain ⟨ρ50, rfl⟩ := Ze (uc q41 (uc q44 un))
   clear q41 q44
   refine Za (v := .agg ⟨cb35 ++ ([.int .i64 ((binds (cases[j].1) : Int))] : List Value)⟩) rfl (Pu.build (pv := [(0, .agg ⟨cb35⟩), (1, .int .i64 ((binds (cases[j].1) : Int)))]) (l := cb35 ++ ([.int .i64 ((binds (cases[j].1) : Int))] : List Value)) rfl (bld105_0_1 (Zv hB35))) ?_
   refine Zb ?_
   exact ⟨.agg ⟨cb35 ++ ([.int .i64 ((binds (cases[j].1) : Int))] : List Value)⟩, [], rfl, (Sub.emp Sub.refl), rfl⟩
  intro ρ r37 N37 hp hr hr0
  have q0 : ρ 0 = .func (.yield l) ⟨[]⟩ ⟨[]⟩ := hr0 0 (by kernel_rfl)
  have q1 : ρ 1 = .pointer (some ⟨bT, 0, none⟩) := hr0 1 (by kernel_rfl)
  have q27 : ρ 27 = cv := hr0 27 (by kernel_rfl)
  have q28 : ρ 28 = .int .i64 ((cases.length : Int)) := hr0 28 (by kernel_rfl)
  have q29 : ρ 29 = .int .i64 ((j : Int)) := hr0 29 (by kernel_rfl)
  have q34 : ρ 34 = .func (.yield l) ⟨[]⟩ ⟨[]⟩ := (hr 0 _ _ (by decide) rfl rfl).trans (hp 0 (by decide))
  have q39 : ρ 39 = .int .i64 ((kids.length : Int) + ((j : Int))) := (hr 5 _ _ (by decide) rfl rfl).trans (hp 5 (by decide))
  have q45 : ρ 45 = .agg ⟨cb35 ++ ([.int .i64 ((binds (cases[j].1) : Int))] : List Value)⟩ := (hr 11 _ _ (by decide) rfl rfl).trans (hp 11 (by decide))
  obtain ⟨ρ51, rfl⟩ := Ze (uc q0 (uc q1 (uc q27 (uc q28 (uc q29 (uc q34 (uc q39 (uc q45 un))))))))
  clear q0 q1 q27 q28 q29 q34 q39 q45
  clear hp hr hr0 
  refine Zw (M' := [(N37 0), (N37 1), (N37 2), (N37 3), (N37 4), (N37 5), (N37 6), (N37 7), (N37 8), (N37 9), (N37 10), (N37 11), [(b36, .cells ⟨ca35 ++ cb35⟩ 34 (0, 0))], yc s0]) Sub.refl ?_
  refine Zw (M' := [[(b36, .cells ⟨ca35 ++ cb35⟩ 34 (0, 0))], yc s0]) (Sd (Sd (Sd (Sd (Sd (Sd (Sd (Sd (Sd (Sd (Sd (Sd (Sk (Sk Sub.nil)))))))))))))) ?_
  show JL _ _ _ [_, _] _ _ _
  refine JL_yield1 1 rfl rfl rfl (fun hin => hy _ _ _ _ _ (Hle.hu _ _) hB35) rfl ?_
  rintro _ _ ⟨s52, rfl, rfl, hs52, hn52⟩
  refine Za (v := .bool (!(!decide (((kids.length : Int) + ((j : Int))) = n)))) rfl (Pu.not rfl) ?_
  refine Zb ?_
  refine Zl (b := !(!decide (((kids.length : Int) + ((j : Int))) = n))) rfl (fun h53 => ?_) (fun h53 => ?_)
  ·replace h53 := nt h53
   replace h53 := nf h53
   replace h53 := dt h53
   refine Zo ?_
   refine ⟨.tuple ⟨[]⟩, [yc s52], Ret.none rfl, (Sk Sub.nil), ?_⟩
   have hpk := part_case' (t := (.mk kind num ref kids cases)) (j := j) h34n
   have hpe : (kids.length : Int) + (j : Int) = n := h53
   change partT _ ((kids.length : Int) + (j : Int)) = _ at hpk
   rw [hpe] at hpk
   exact ⟨s52, rfl, .inl ⟨_, hpk, hs52 h53⟩⟩
  replace h53 := nf h53
  replace h53 := nt h53
  replace h53 := df h53
  refine Zq ?_
  refine Zc ?_
  refine Za (v := .int .i64 (((j + 1 : Nat) : Int))) rfl (Pu.inc rfl rfl (by omega)) ?_
  refine Za (v := .int .i64 (((j + 1 : Nat) : Int))) rfl (Pu.move rfl) ?_
  refine Zb ?_
  refine ⟨_, ?_, (j + 1), rfl, rfl, rfl, rfl, rfl, (Se (congrArg yc (hn52 h53)) Sub.nil), ?_, ?_, rfl⟩
  ·omega
  ·omega
  omega
 replace h34 := df h34
 have h34n : cases.length ≤ j := by omega
 refine J_exit _ rfl ?_
 refine ⟨.tuple ⟨[]⟩, [yc s0], Ret.none rfl, (Sk Sub.nil), ?_⟩
 exact ⟨s0, rfl, .inr ⟨part_none' (t := (.mk kind num ref kids cases)) (by show n < 0 ∨ (kids.length : Int) + (cases.length : Int) ≤ n; omega), rfl⟩⟩
end Go.Proofs.YtdeinimmmjichaaGreat.Hs
/-! Walks, printed by a program of this session's own (gen.py). -/
namespace Go.Proofs.YtdeinimmmjichaaGreat.Hs
open Go Go.Proofs
set_option maxRecDepth 100000
set_option linter.unusedVariables false
set_option linter.unusedSimpArgs false
attribute [local irreducible] JL J CT wlo
theorem atP_ct (t : Tm) (path : List Int) (cs : List Value) (pv : Value) (H : Heap) (ht : RT H cs t) (hp : Hs.rdS RI 1 H pv path) (hpi : ∀ n ∈ path, inI n) : CT Tryz.prog 29 ⟨[.agg ⟨cs⟩, pv]⟩ [] H (fun v N => ∃ cs k, v = .tuple ⟨[.agg ⟨cs⟩, .int .i64 (atE t path).2]⟩ ∧ N = [k] ∧ OT (atE t path).1 cs k) := by
 refine Zr Tryz.func29 rfl rfl ?_
 refine Zg (Zc ?_)
 refine Zd rfl (Zx (l := cs) rfl rfl fun b1 => ?_)
 refine Zd rfl (Zn (l := pkT 0 0 zS (.slice none 0 0) (.slice none 0 0)) Tryz.zeroValue27 rfl fun b2 => ?_)
 refine Za (v := .int .i64 0) rfl (Pu.assign rfl) ?_
 refine Zb ?_
 refine J_scope ?_
 refine Zg ?_
 refine Zg (Zc ?_)
 refine Zd rfl (Zj Zt rfl (At.bx 1 rfl) (Zy (Zv ht)) ?_)
 refine Zd rfl (ZA (vs := [.agg ⟨cs⟩]) [cs] Tryz.runUnderlying24 el27 rfl rfl (by intro e he; simp only [List.mem_cons, List.not_mem_nil, or_false] at he; subst he; exact (Zv ht)) rfl (by decide) fun b3 k3 ho3 hk3 => ?_)
 refine Zk rfl Tryz.call50 rfl (fun hin => right_ct _ _ _ (Own.rd1 ho3 (hin 0 _ rfl) (RT.mono (Hle.hu _ _) ht))) rfl ?_
 rintro _ _ ⟨rfl, rfl⟩
 refine Za (v := .int .i64 (ZD [t])) rfl (Pu.assign rfl) ?_
 refine Zb ?_
 refine Zg (Zc ?_)
 refine Za (v := .int .i64 (ZD [t])) rfl (Pu.move rfl) ?_
 refine Za (v := .bool (!decide (ZD [t] = 0))) rfl (Pu.neq rfl rfl) ?_
 refine Zb ?_
 refine Zl (b := !decide (ZD [t] = 0)) rfl (fun h4 => ?_) (fun h4 => ?_)
 ·replace h4 := nt h4
  replace h4 := df h4
  refine Zg (Zc ?_)
  refine Za (v := .agg ⟨pkT 0 0 zS (.slice none 0 0) (.slice none 0 0)⟩) rfl (Pu.build (pv := []) (l := pkT 0 0 zS (.slice none 0 0) (.slice none 0 0)) rfl (bld27_ )) ?_
  refine Za (v := .int .i64 (ZD [t])) rfl (Pu.move rfl) ?_
  refine Zd rfl (Zi 1 (vs := pkT 0 0 zS (.slice none 0 0) (.slice none 0 0)) (l := pkT 0 0 zS (.slice none 0 0) (.slice none 0 0)) Zt rfl rfl rfl rfl rfl (pkT_ok rfl rfl) (pkT_s ..) ?_)
  refine Za (v := .int .i64 (ZD [t])) rfl (Pu.assign rfl) ?_
  refine Zb ?_
  refine Zo ?_
  refine ⟨.tuple ⟨[.agg ⟨pkT 0 0 zS (.slice none 0 0) (.slice none 0 0)⟩, .int .i64 (ZD [t])]⟩, [[]], Ret.two rfl (RV.cell Zt rfl (At.bx 1 rfl) (pkT_a ..)) (RV.tmp rfl), (Sub.emp Sub.nil), ?_⟩
  have hx2 : atE t path = (zT, ZD [t]) := by rw [atE, if_neg (by assumption)]
  exact ⟨_, _, by rw [hx2], rfl, by rw [hx2]; exact OT_zero⟩
 replace h4 := nf h4
 replace h4 := dt h4
 refine Zq ?_
 refine Zg ?_
 refine J_label ?_
 refine Zg ?_
 refine Zg (Zc ?_)
 refine Za (v := pv) rfl (Pu.move rfl) ?_
 obtain ⟨a5, cap5, hv5⟩ := hp.sl
 have hle5 := hp.le
 refine Za (v := .int .i64 ((path.length : Int))) rfl (Pu.lenSl Tryz.runUnderlying43 hv5) ?_
 refine Za (v := .int .i64 0) rfl (Pu.move rfl) ?_
 refine Zb ?_
 refine Zs ?_
 have hrt : ZD [t] = 0 := by assumption
 refine J_loop (fun k ρ M => ∃ (j : Nat) (x : Tm) (xc : List Value), ρ 2 = .pointer (some ⟨b1, 0, none⟩) ∧ ρ 4 = .pointer (some ⟨b2, 0, none⟩) ∧ ρ 5 = .int .i64 0 ∧ ρ 18 = pv ∧ ρ 19 = .int .i64 ((path.length : Int)) ∧ ρ 20 = .int .i64 ((j : Int)) ∧ Sub [[(b1, .cells ⟨xc⟩ 27 (0, 0))], k3, [(b2, .cells ⟨pkT 0 0 zS (.slice none 0 0) (.slice none 0 0)⟩ 27 (0, 0))]] M ∧ j ≤ path.length ∧ RT H xc x ∧ atT x (path.drop j) = atT t path ∧ sizeT x ≤ sizeT t ∧ (vOK t → vOK x) ∧ (tidy t → tidy x) ∧ k = path.length - j) _ ⟨0, t, cs, rfl, rfl, rfl, rfl, rfl, rfl, (Sub.cons 2 rfl (Sk (Sk Sub.nil))), Nat.zero_le _, ht, rfl, Nat.le_refl _, id, id, rfl⟩ ?_
 rintro _ ρ6 _ ⟨j, x, xc, e7, e8, e9, e10, e11, e12, hm13, hj, hx, hinv, hsz, hvx, htx, rfl⟩
 obtain ⟨ρ14, rfl⟩ := Ze (uc e7 (uc e8 (uc e9 (uc e10 (uc e11 (uc e12 un))))))
 clear e7 e8 e9 e10 e11 e12
 refine J_sub hm13 ?_
 refine Zg (Zc ?_)
 refine Za (v := .bool (decide ((j : Int) < (path.length : Int)))) rfl (Pu.lss rfl rfl) ?_
 refine Zb ?_
 refine Zg ?_
 refine Zl (b := decide ((j : Int) < (path.length : Int))) rfl (fun h15 => ?_) (fun h15 => ?_)
 ·replace h15 := dt h15
  have h15n : j < path.length := by omega
  obtain ⟨xks, xcv, rfl, hxk, hxn, hxks, hxcv⟩ := RT_open hx
  have hpj := hpi _ (List.getElem_mem h15n)
  unfold inI at hpj
  have hxl := hxks.le
  refine Zq ?_
  refine Zg ?_
  refine Zs ?_
  refine Zg (Zc ?_)
  obtain ⟨b16, o16, cap16, row16, T16, fr16, cs16, hv16, hb16, hs16, hE16⟩ := hp.get j (by first | assumption | omega | decide | simp)
  refine Za (v := .pointer (some ⟨b16, o16 + j * 1, none⟩)) rfl (Pu.idx j Tryz.runUnderlying43 ty3 hv16 rfl rfl (by first | assumption | omega | decide | simp)) ?_
  refine Zd rfl (Zh ty3 rfl (At.im hb16) (sub_one ((show cs16 = [Value.int .i64 (path[j])] from hE16) ▸ hs16)) ?_)
  refine Zd rfl (Zn (l := [.int .i64 0]) Tryz.zeroValue3 rfl fun b17 => ?_)
  refine Zd rfl (Zi 0 (vs := [.int .i64 (path[j])]) (l := [.int .i64 (path[j])]) ty3 rfl rfl rfl rfl rfl (Zp rfl Zz) rfl ?_)
  refine Zb ?_
  refine Zg ?_
  refine Zg (Zc ?_)
  refine Zd rfl (Zj Zt rfl (At.bx 1 rfl) (pkT_a ..) ?_)
  refine Zk rfl Tryz.call68 rfl (fun hin => parts_ct _ _ rfl) rfl ?_
  rintro _ _ ⟨bT18, rfl, rfl⟩
  refine Zb ?_
  refine Zs ?_
  refine J_rangeE (id := 1) (L := [[(bT18, .cells ⟨pkT (x.kind) (x.num) (x.ref) xks xcv⟩ 27 (0, 0))], [(b17, .cells ⟨[.int .i64 (path[j])]⟩ 3 (0, 0))], k3, [(b2, .cells ⟨pkT 0 0 zS (.slice none 0 0) (.slice none 0 0)⟩ 27 (0, 0))]]) (fun e : Bool × List Value => [[(b1, .cells ⟨e.2⟩ 27 (0, 0))]]) (fun e => e.1) (false, pkT (x.kind) (x.num) (x.ref) xks xcv) (fun e => (∃ y, partT x (path[j]) = some y ∧ e.1 = true ∧ RT H e.2 y) ∨ (partT x (path[j]) = none ∧ e = (false, pkT (x.kind) (x.num) (x.ref) xks xcv))) rfl rfl Tryz.call100 (flatten_pick (i := 2) rfl) ?_ ?_ rfl ?_
  ·intro l yc hY hin
   have hck := checkT_ok (rightT1 hrt)
   have hks_ := len_sizeTs x.kids
   have hcs_ := len_sizeCs x.cases
   have hxs_ : sizeT x = 1 + sizeTs x.kids + sizeCs x.cases := by cases x; rfl
   refine CT.mono (parts1F_ct x.kind x.num x.ref xks xcv x.kids x.cases H _ (Hle.hu _ _) bT18 hxks hxcv (hin 0 _ rfl _ _ List.mem_cons_self) (fun c hc => by have := sizeCs_mem c hc; have := binds_le c.1; omega) (by omega) (by omega) l yc (path[j]) (false, pkT (x.kind) (x.num) (x.ref) xks xcv) (fun y s => s.1 = true ∧ RT H s.2 y) ?_) (fun v N ⟨s, h1, h2⟩ => ⟨s, h1, by rw [Tm.eta] at h2; rcases h2 with ⟨y, q1, q2⟩ | q; exact .inl ⟨y, q1, q2⟩; exact .inr q⟩)
   intro i mo x2 a h hh ra
   refine YT.mono (hY (false, pkT (x.kind) (x.num) (x.ref) xks xcv) [_, _] h (fun e => (i = (path[j]) → e.1 = true ∧ RT H e.2 x2) ∧ (¬ i = (path[j]) → e = (false, pkT (x.kind) (x.num) (x.ref) xks xcv))) rfl rfl (RoundE.mk ?_)) ?_
   ·show J _ _ _ _ [[(b1, .cells ⟨pkT (x.kind) (x.num) (x.ref) xks xcv⟩ 27 (0, 0))]] _
    refine Zg (Zc ?_)
    refine Za (v := .int .i64 i) rfl (Pu.assign rfl) ?_
    refine Zb ?_
    refine Zc ?_
    refine Zd rfl (Zn (l := (pkT 0 0 zS (.slice none 0 0) (.slice none 0 0)) ++ ([.int .i64 0] : List Value)) Tryz.zeroValue105 rfl fun b19 => ?_)
    refine Zd rfl (Zi 0 (vs := a ++ ([.int .i64 mo] : List Value)) (l := a ++ ([.int .i64 mo] : List Value)) ty105 rfl rfl rfl rfl (len_app (Zv ra) rfl) (okc_app (RT_ok ra) (Zp rfl Zz)) (spl_a (n := 37) rfl (len_app (Zv ra) rfl)) ?_)
    refine Zb ?_
    refine Zs ?_
    refine Zg (Zc ?_)
    refine Za (v := .int .i64 i) rfl (Pu.move rfl) ?_
    refine Zd rfl (Zh ty3 rfl (At.im (hh _ _ (hin 1 _ rfl _ _ List.mem_cons_self))) rfl ?_)
    refine Za (v := .bool (decide (i = path[j]))) rfl (Pu.eql rfl rfl) ?_
    refine Zb ?_
    refine Zl (b := decide (i = path[j])) rfl (fun h20 => ?_) (fun h20 => ?_)
    ·replace h20 := dt h20
     refine Zg (Zc ?_)
     refine Za (v := .pointer (some ⟨b19, 0, none⟩)) rfl (fa105_0 rfl rfl) ?_
     refine Zd rfl (Zj Zt rfl (At.bx 0 rfl) (sub_l (Zv ra)) ?_)
     refine Zd rfl (Zi 1 (vs := a) (l := a) Zt rfl rfl rfl rfl (Zv ra) (RT_ok ra) (spl_a (n := 36) rfl (Zv ra)) ?_)
     refine Zb ?_
     refine J_exit _ rfl ?_
     exact ⟨(true, a), rfl, (Sd (Sk Sub.nil)), fun _ => ⟨rfl, ra⟩, fun q => absurd h20 q⟩
    replace h20 := df h20
    refine Zq ?_
    exact ⟨(false, pkT (x.kind) (x.num) (x.ref) xks xcv), rfl, (Sd (Sk Sub.nil)), fun q => absurd q h20, fun _ => rfl⟩
   rintro v N ⟨e', rfl, rfl, h1, h2⟩; exact ⟨e', by by_cases q : i = (path[j]); simp [q, (h1 q).1]; simp [q, h2 q], rfl, h1, h2⟩
  ·rintro ⟨eb, ec⟩ hef hp
   have hpn : partT x path[j] = none := by rcases hef with ⟨_, _, q, _⟩ | ⟨q, _⟩; exact absurd (q.symm.trans hp) (by decide); exact q
   obtain ⟨rfl, rfl⟩ : eb = false ∧ ec = _ := by rcases hef with ⟨_, _, q, _⟩ | ⟨_, q⟩; exact absurd (q.symm.trans hp) (by decide); exact ⟨congrArg Prod.fst q, congrArg Prod.snd q⟩
   refine Zg (Zc ?_)
   refine Za (v := .agg ⟨pkT 0 0 zS (.slice none 0 0) (.slice none 0 0)⟩) rfl (Pu.build (pv := []) (l := pkT 0 0 zS (.slice none 0 0) (.slice none 0 0)) rfl (bld27_ )) ?_
   refine Zd rfl (Zi 4 (vs := pkT 0 0 zS (.slice none 0 0) (.slice none 0 0)) (l := pkT 0 0 zS (.slice none 0 0) (.slice none 0 0)) Zt rfl rfl rfl rfl rfl (pkT_ok rfl rfl) (pkT_s ..) ?_)
   refine Za (v := .int .i64 1) rfl (Pu.assign rfl) ?_
   refine Zb ?_
   refine Zo ?_
   refine ⟨.tuple ⟨[.agg ⟨pkT 0 0 zS (.slice none 0 0) (.slice none 0 0)⟩, .int .i64 1]⟩, [[]], Ret.two rfl (RV.cell Zt rfl (At.bx 4 rfl) (pkT_a ..)) (RV.tmp rfl), (Sub.emp Sub.nil), ?_⟩
   have hx2 : atE t path = (zT, 1) := by rw [dropc h15n, atT_none hpn] at hinv; rw [atE, if_pos hrt, atR, ← hinv]
   exact ⟨_, _, by rw [hx2], rfl, by rw [hx2]; exact OT_zero⟩
  rintro ⟨eb, ec⟩ hef hp
  obtain ⟨y, hpk, hey⟩ : ∃ y, partT x path[j] = some y ∧ RT H ec y := by rcases hef with ⟨y, q1, _, q2⟩ | ⟨_, q⟩; exact ⟨y, q1, q2⟩; exact absurd ((congrArg Prod.fst q).symm.trans hp) (by simp)
  refine Zc ?_
  refine Za (v := .int .i64 (((j + 1 : Nat) : Int))) rfl (Pu.inc rfl rfl (by omega)) ?_
  refine Za (v := .int .i64 (((j + 1 : Nat) : Int))) rfl (Pu.move rfl) ?_
  refine Zb ?_
  refine ⟨_, ?_, (j + 1), y, ec, rfl, rfl, rfl, rfl, rfl, rfl, (Sk (Sd (Sd (Sk (Sk Sub.nil))))), ?_, ?_, ?_, ?_, ?_, ?_, rfl⟩
  ·omega
  ·omega
  ·exact hey
  ·rw [dropc h15n, atT_some hpk] at hinv; exact hinv
  ·exact Nat.le_trans (part_size hpk).1 hsz
  ·exact fun q => (part_size hpk).2.1 (hvx q)
  exact fun q => (part_size hpk).2.2 (htx q)
 replace h15 := df h15
 have h15n : path.length ≤ j := by omega
 refine J_exit _ rfl ?_
 refine Zg (Zc ?_)
 refine Zd rfl (Zj Zt rfl (At.bx 0 rfl) (Zy (Zv hx)) ?_)
 refine Zk rfl Tryz.call69 rfl (fun hin => ownQ_ct _ _ _ (RT.mono (Hle.hu _ _) hx) (by have := (checkT_ok (rightT1 hrt)).1; omega) (hvx (checkT_ok (rightT1 hrt)).2.1)) rfl ?_
 rintro _ _ ⟨cs21, k21, rfl, rfl, hO21⟩
 refine Zd rfl (Zi 3 (vs := cs21) (l := cs21) Zt rfl rfl rfl rfl hO21.len hO21.ok (spl_a (n := 36) rfl hO21.len) ?_)
 refine Za (v := .int .i64 0) rfl (Pu.assign rfl) ?_
 refine Zb ?_
 refine Zo ?_
 refine ⟨.tuple ⟨[.agg ⟨cs21⟩, .int .i64 0]⟩, [k21], Ret.two rfl (RV.cell Zt rfl (At.bx 3 rfl) (Zy hO21.len)) (RV.tmp rfl), (Sk Sub.nil), ?_⟩
 have hx2 : atE t path = (x, 0) := by rw [dropn h15n] at hinv; rw [atE, if_pos hrt, atR, ← hinv]; rfl
 exact ⟨_, _, by rw [hx2], rfl, by rw [hx2]; have hO := hO21; rw [own_eq (htx (checkT_ok (rightT1 hrt)).2.2.1)] at hO; exact hO⟩
end Go.Proofs.YtdeinimmmjichaaGreat.Hs
/-! Walks, printed by a program of this session's own (gen.py). -/
namespace Go.Proofs.YtdeinimmmjichaaGreat.Hs
open Go Go.Proofs
set_option maxRecDepth 100000
set_option linter.unusedVariables false
set_option linter.unusedSimpArgs false
attribute [local irreducible] JL J CT wlo
theorem equalI_ct (l m : List Int) (v u : Value) (H : Heap) (hl : rdS RI 1 H v l) (hm : rdS RI 1 H u m) : CT Tryz.prog 21 ⟨[v, u]⟩ [] H (fun v N => v = .bool (eqL l m) ∧ N = []) := by
 refine Zr Tryz.func21 rfl rfl ?_
 refine Zg (Zc ?_)
 refine Za (v := .bool false) rfl (Pu.assign rfl) ?_
 refine Zb ?_
 refine Zg ?_
 refine Zg (Zc ?_)
 refine Za (v := v) rfl (Pu.move rfl) ?_
 obtain ⟨a1, cap1, hv1⟩ := hl.sl
 have hle1 := hl.le
 refine Za (v := .int .i64 ((l.length : Int))) rfl (Pu.lenSl Tryz.runUnderlying43 hv1) ?_
 refine Za (v := u) rfl (Pu.move rfl) ?_
 obtain ⟨a2, cap2, hv2⟩ := hm.sl
 have hle2 := hm.le
 refine Za (v := .int .i64 ((m.length : Int))) rfl (Pu.lenSl Tryz.runUnderlying43 hv2) ?_
 refine Za (v := .bool (!decide ((l.length : Int) = (m.length : Int)))) rfl (Pu.neq rfl rfl) ?_
 refine Zb ?_
 refine Zl (b := !decide ((l.length : Int) = (m.length : Int))) rfl (fun h3 => ?_) (fun h3 => ?_)
 ·replace h3 := nt h3
  replace h3 := df h3
  refine Zg (Zc ?_)
  refine Za (v := .bool false) rfl (Pu.assign rfl) ?_
  refine Zb ?_
  refine Zo ?_
  refine ⟨.bool false, [], Ret.one rfl (RV.tmp rfl), Sub.nil, ?_⟩
  exact ⟨by rw [eqL_false (fun e => by subst e; exact absurd rfl h3)], rfl⟩
 replace h3 := nf h3
 replace h3 := dt h3
 refine Zq ?_
 refine Zg ?_
 refine Zg (Zc ?_)
 refine Za (v := v) rfl (Pu.move rfl) ?_
 obtain ⟨a4, cap4, hv4⟩ := hl.sl
 have hle4 := hl.le
 refine Za (v := .int .i64 ((l.length : Int))) rfl (Pu.lenSl Tryz.runUnderlying43 hv4) ?_
 refine Za (v := .int .i64 0) rfl (Pu.move rfl) ?_
 refine Zb ?_
 refine Zs ?_
 refine J_loop (fun k ρ M => ∃ (j : Nat), ρ 0 = v ∧ ρ 1 = u ∧ ρ 4 = .bool false ∧ ρ 12 = .int .i64 ((l.length : Int)) ∧ ρ 13 = .int .i64 ((j : Int)) ∧ Sub [] M ∧ j ≤ l.length ∧ l.take j = m.take j ∧ k = l.length - j) _ ⟨0, rfl, rfl, rfl, rfl, rfl, Sub.nil, Nat.zero_le _, rfl, rfl⟩ ?_
 rintro _ ρ5 _ ⟨j, e6, e7, e8, e9, e10, hm11, hj, hinv, rfl⟩
 obtain ⟨ρ12, rfl⟩ := Ze (uc e6 (uc e7 (uc e8 (uc e9 (uc e10 un)))))
 clear e6 e7 e8 e9 e10
 refine J_sub hm11 ?_
 refine Zg (Zc ?_)
 refine Za (v := .bool (decide ((j : Int) < (l.length : Int)))) rfl (Pu.lss rfl rfl) ?_
 refine Zb ?_
 refine Zg ?_
 refine Zl (b := decide ((j : Int) < (l.length : Int))) rfl (fun h13 => ?_) (fun h13 => ?_)
 ·replace h13 := dt h13
  have h13n : j < l.length := by omega
  have hlenl := hl.le
  have hjm : j < m.length := by omega
  refine Zq ?_
  refine Zg ?_
  refine Zs ?_
  refine Zg (Zc ?_)
  refine Za (v := .int .i64 ((j : Int))) rfl (Pu.move rfl) ?_
  refine Za (v := .int .i64 ((j : Int))) rfl (Pu.assign rfl) ?_
  refine Zb ?_
  refine Zg ?_
  obtain ⟨b15, o15, cap15, row15, T15, fr15, cs15, hv15, hb15, hs15, hE15⟩ := hl.get j (by first | assumption | omega | decide | simp)
  obtain ⟨b16, o16, cap16, row16, T16, fr16, cs16, hv16, hb16, hs16, hE16⟩ := hm.get j (by first | assumption | omega | decide | simp)
  refine J_draw mixed #[0, 0, 3, 7, 0, 0, 48, 112, 255] 8 8 0 rfl (by kernel_rfl) (fun i r14 N14 => match i with | 0 => (r14 0) = v | 1 => (r14 1) = .int .i64 ((j : Int)) | 2 => (r14 2) = .pointer (some ⟨b15, o15 + j * 1, none⟩) | 3 => (r14 3) = .int .i64 (l[j]) | 4 => (r14 4) = u | 5 => (r14 5) = .int .i64 ((j : Int)) | 6 => (r14 6) = .pointer (some ⟨b16, o16 + j * 1, none⟩) | 7 => (r14 7) = .int .i64 (m[j]) | _ => True) ⟨?_, ?_, ?_, ?_, ?_, ?_, ?_, ?_, trivial⟩ ?_
  ·intro ρ r14 N14 B hB hBa hp hr hr0
   have q0 : ρ 0 = v := hr0 0 (by kernel_rfl)
   obtain ⟨ρ17, rfl⟩ := Ze (uc q0 un)
   clear q0
   refine Za (v := v) rfl (Pu.move rfl) ?_
   refine Zb ?_
   exact ⟨v, [], rfl, (Sub.emp Sub.refl), rfl⟩
  ·intro ρ r14 N14 B hB hBa hp hr hr0
   have q5 : ρ 5 = .int .i64 ((j : Int)) := hr0 5 (by kernel_rfl)
   obtain ⟨ρ18, rfl⟩ := Ze (uc q5 un)
   clear q5
   refine Za (v := .int .i64 ((j : Int))) rfl (Pu.move rfl) ?_
   refine Zb ?_
   exact ⟨.int .i64 ((j : Int)), [], rfl, (Sub.emp Sub.refl), rfl⟩
  ·intro ρ r14 N14 B hB hBa hp hr hr0
   have q16 : ρ 16 = v := (hr 0 _ _ (by decide) rfl rfl rfl).trans (hp 0 (by decide) rfl)
   have q17 : ρ 17 = .int .i64 ((j : Int)) := (hr 1 _ _ (by decide) rfl rfl rfl).trans (hp 1 (by decide) rfl)
   obtain ⟨ρ19, rfl⟩ := Ze (uc q16 (uc q17 un))
   clear q16 q17
   refine Za (v := .pointer (some ⟨b15, o15 + j * 1, none⟩)) rfl (Pu.idx j Tryz.runUnderlying43 ty3 hv15 rfl rfl (by first | assumption | omega | decide | simp)) ?_
   refine Zb ?_
   exact ⟨.pointer (some ⟨b15, o15 + j * 1, none⟩), [], rfl, (Sub.emp Sub.refl), rfl⟩
  ·intro ρ r14 N14 B hB hBa hp hr hr0
   have q18 : ρ 18 = .pointer (some ⟨b15, o15 + j * 1, none⟩) := (hr 2 _ _ (by decide) rfl rfl rfl).trans (hp 2 (by decide) rfl)
   obtain ⟨ρ20, rfl⟩ := Ze (uc q18 un)
   clear q18
   refine Zd rfl (Zh ty3 rfl (At.im hb15) (sub_one ((show cs15 = [Value.int .i64 (l[j])] from hE15) ▸ hs15)) ?_)
   refine Zb ?_
   exact ⟨.int .i64 (l[j]), [], rfl, (Sub.emp Sub.refl), rfl⟩
  ·intro ρ r14 N14 B hB hBa hp hr hr0
   have q1 : ρ 1 = u := hr0 1 (by kernel_rfl)
   obtain ⟨ρ21, rfl⟩ := Ze (uc q1 un)
   clear q1
   refine Za (v := u) rfl (Pu.move rfl) ?_
   refine Zb ?_
   exact ⟨u, [], rfl, (Sub.emp Sub.refl), rfl⟩
  ·intro ρ r14 N14 B hB hBa hp hr hr0
   have q5 : ρ 5 = .int .i64 ((j : Int)) := hr0 5 (by kernel_rfl)
   obtain ⟨ρ22, rfl⟩ := Ze (uc q5 un)
   clear q5
   refine Za (v := .int .i64 ((j : Int))) rfl (Pu.move rfl) ?_
   refine Zb ?_
   exact ⟨.int .i64 ((j : Int)), [], rfl, (Sub.emp Sub.refl), rfl⟩
  ·intro ρ r14 N14 B hB hBa hp hr hr0
   have q20 : ρ 20 = u := (hr 4 _ _ (by decide) rfl rfl rfl).trans (hp 4 (by decide) rfl)
   have q21 : ρ 21 = .int .i64 ((j : Int)) := (hr 5 _ _ (by decide) rfl rfl rfl).trans (hp 5 (by decide) rfl)
   obtain ⟨ρ23, rfl⟩ := Ze (uc q20 (uc q21 un))
   clear q20 q21
   refine Za (v := .pointer (some ⟨b16, o16 + j * 1, none⟩)) rfl (Pu.idx j Tryz.runUnderlying43 ty3 hv16 rfl rfl (by first | assumption | omega | decide | simp)) ?_
   refine Zb ?_
   exact ⟨.pointer (some ⟨b16, o16 + j * 1, none⟩), [], rfl, (Sub.emp Sub.refl), rfl⟩
  ·intro ρ r14 N14 B hB hBa hp hr hr0
   have q22 : ρ 22 = .pointer (some ⟨b16, o16 + j * 1, none⟩) := (hr 6 _ _ (by decide) rfl rfl rfl).trans (hp 6 (by decide) rfl)
   obtain ⟨ρ24, rfl⟩ := Ze (uc q22 un)
   clear q22
   refine Zd rfl (Zh ty3 rfl (At.im hb16) (sub_one ((show cs16 = [Value.int .i64 (m[j])] from hE16) ▸ hs16)) ?_)
   refine Zb ?_
   exact ⟨.int .i64 (m[j]), [], rfl, (Sub.emp Sub.refl), rfl⟩
  intro ρ r14 N14 hp hr hr0
  have q0 : ρ 0 = v := hr0 0 (by kernel_rfl)
  have q1 : ρ 1 = u := hr0 1 (by kernel_rfl)
  have q4 : ρ 4 = .bool false := hr0 4 (by kernel_rfl)
  have q12 : ρ 12 = .int .i64 ((l.length : Int)) := hr0 12 (by kernel_rfl)
  have q13 : ρ 13 = .int .i64 ((j : Int)) := hr0 13 (by kernel_rfl)
  have q19 : ρ 19 = .int .i64 (l[j]) := (hr 3 _ _ (by decide) rfl rfl).trans (hp 3 (by decide))
  have q23 : ρ 23 = .int .i64 (m[j]) := (hr 7 _ _ (by decide) rfl rfl).trans (hp 7 (by decide))
  obtain ⟨ρ25, rfl⟩ := Ze (uc q0 (uc q1 (uc q4 (uc q12 (uc q13 (uc q19 (uc q23 un)))))))
  clear q0 q1 q4 q12 q13 q19 q23
  clear hp hr hr0 
  refine Zw (M' := [(N14 0), (N14 1), (N14 2), (N14 3), (N14 4), (N14 5), (N14 6), (N14 7)]) Sub.refl ?_
  refine Zw (M' := []) Sub.nil ?_
  show JL _ _ _ [_] _ _ _
  refine Za (v := .bool (!decide (l[j] = m[j]))) rfl (Pu.neq rfl rfl) ?_
  refine Zb ?_
  refine Zl (b := !decide (l[j] = m[j])) rfl (fun h26 => ?_) (fun h26 => ?_)
  ·replace h26 := nt h26
   replace h26 := df h26
   refine Zg (Zc ?_)
   refine Za (v := .bool false) rfl (Pu.assign rfl) ?_
   refine Zb ?_
   refine Zo ?_
   refine ⟨.bool false, [], Ret.one rfl (RV.tmp rfl), Sub.nil, ?_⟩
   exact ⟨by rw [eqL_false (fun e => by subst e; exact h26 rfl)], rfl⟩
  replace h26 := nf h26
  replace h26 := dt h26
  refine Zq ?_
  refine Zc ?_
  refine Za (v := .int .i64 (((j + 1 : Nat) : Int))) rfl (Pu.inc rfl rfl (by omega)) ?_
  refine Za (v := .int .i64 (((j + 1 : Nat) : Int))) rfl (Pu.move rfl) ?_
  refine Zb ?_
  refine ⟨_, ?_, (j + 1), rfl, rfl, rfl, rfl, rfl, Sub.nil, ?_, ?_, rfl⟩
  ·omega
  ·omega
  rw [List.take_succ_eq_append_getElem h13n, List.take_succ_eq_append_getElem hjm, hinv, h26]
 replace h13 := df h13
 have h13n : l.length ≤ j := by omega
 refine J_exit _ rfl ?_
 refine Zg (Zc ?_)
 refine Za (v := .bool true) rfl (Pu.assign rfl) ?_
 refine Zb ?_
 refine Zo ?_
 refine ⟨.bool true, [], Ret.one rfl (RV.tmp rfl), Sub.nil, ?_⟩
 exact ⟨by rw [eqL_true (by rw [← List.take_of_length_le h13n, hinv, List.take_of_length_le (by omega)])], rfl⟩
theorem equalS_ct (l m : List ByteArray) (v u : Value) (H : Heap) (hl : rdS RS 1 H v l) (hm : rdS RS 1 H u m) : CT Tryz.prog 44 ⟨[v, u]⟩ [] H (fun v N => v = .bool (eqL l m) ∧ N = []) := by
 refine Zr Tryz.func44 rfl rfl ?_
 refine Zg (Zc ?_)
 refine Za (v := .bool false) rfl (Pu.assign rfl) ?_
 refine Zb ?_
 refine Zg ?_
 refine Zg (Zc ?_)
 refine Za (v := v) rfl (Pu.move rfl) ?_
 obtain ⟨a1, cap1, hv1⟩ := hl.sl
 have hle1 := hl.le
 refine Za (v := .int .i64 ((l.length : Int))) rfl (Pu.lenSl Tryz.runUnderlying71 hv1) ?_
 refine Za (v := u) rfl (Pu.move rfl) ?_
 obtain ⟨a2, cap2, hv2⟩ := hm.sl
 have hle2 := hm.le
 refine Za (v := .int .i64 ((m.length : Int))) rfl (Pu.lenSl Tryz.runUnderlying71 hv2) ?_
 refine Za (v := .bool (!decide ((l.length : Int) = (m.length : Int)))) rfl (Pu.neq rfl rfl) ?_
 refine Zb ?_
 refine Zl (b := !decide ((l.length : Int) = (m.length : Int))) rfl (fun h3 => ?_) (fun h3 => ?_)
 ·replace h3 := nt h3
  replace h3 := df h3
  refine Zg (Zc ?_)
  refine Za (v := .bool false) rfl (Pu.assign rfl) ?_
  refine Zb ?_
  refine Zo ?_
  refine ⟨.bool false, [], Ret.one rfl (RV.tmp rfl), Sub.nil, ?_⟩
  exact ⟨by rw [eqL_false (fun e => by subst e; exact absurd rfl h3)], rfl⟩
 replace h3 := nf h3
 replace h3 := dt h3
 refine Zq ?_
 refine Zg ?_
 refine Zg (Zc ?_)
 refine Za (v := v) rfl (Pu.move rfl) ?_
 obtain ⟨a4, cap4, hv4⟩ := hl.sl
 have hle4 := hl.le
 refine Za (v := .int .i64 ((l.length : Int))) rfl (Pu.lenSl Tryz.runUnderlying71 hv4) ?_
 refine Za (v := .int .i64 0) rfl (Pu.move rfl) ?_
 refine Zb ?_
 refine Zs ?_
 refine J_loop (fun k ρ M => ∃ (j : Nat), ρ 0 = v ∧ ρ 1 = u ∧ ρ 4 = .bool false ∧ ρ 12 = .int .i64 ((l.length : Int)) ∧ ρ 13 = .int .i64 ((j : Int)) ∧ Sub [] M ∧ j ≤ l.length ∧ l.take j = m.take j ∧ k = l.length - j) _ ⟨0, rfl, rfl, rfl, rfl, rfl, Sub.nil, Nat.zero_le _, rfl, rfl⟩ ?_
 rintro _ ρ5 _ ⟨j, e6, e7, e8, e9, e10, hm11, hj, hinv, rfl⟩
 obtain ⟨ρ12, rfl⟩ := Ze (uc e6 (uc e7 (uc e8 (uc e9 (uc e10 un)))))
 clear e6 e7 e8 e9 e10
 refine J_sub hm11 ?_
 refine Zg (Zc ?_)
 refine Za (v := .bool (decide ((j : Int) < (l.length : Int)))) rfl (Pu.lss rfl rfl) ?_
 refine Zb ?_
 refine Zg ?_
 refine Zl (b := decide ((j : Int) < (l.length : Int))) rfl (fun h13 => ?_) (fun h13 => ?_)
 ·replace h13 := dt h13
  have h13n : j < l.length := by omega
  have hlenl := hl.le
  have hjm : j < m.length := by omega
  refine Zq ?_
  refine Zg ?_
  refine Zs ?_
  refine Zg (Zc ?_)
  refine Za (v := .int .i64 ((j : Int))) rfl (Pu.move rfl) ?_
  refine Za (v := .int .i64 ((j : Int))) rfl (Pu.assign rfl) ?_
  refine Zb ?_
  refine Zg ?_
  obtain ⟨b15, o15, cap15, row15, T15, fr15, cs15, hv15, hb15, hs15, hE15⟩ := hl.get j (by first | assumption | omega | decide | simp)
  obtain ⟨b16, o16, cap16, row16, T16, fr16, cs16, hv16, hb16, hs16, hE16⟩ := hm.get j (by first | assumption | omega | decide | simp)
  refine J_draw mixed #[0, 0, 3, 7, 0, 0, 48, 112, 255] 8 8 0 rfl (by kernel_rfl) (fun i r14 N14 => match i with | 0 => (r14 0) = v | 1 => (r14 1) = .int .i64 ((j : Int)) | 2 => (r14 2) = .pointer (some ⟨b15, o15 + j * 1, none⟩) | 3 => (r14 3) = .string (l[j]) | 4 => (r14 4) = u | 5 => (r14 5) = .int .i64 ((j : Int)) | 6 => (r14 6) = .pointer (some ⟨b16, o16 + j * 1, none⟩) | 7 => (r14 7) = .string (m[j]) | _ => True) ⟨?_, ?_, ?_, ?_, ?_, ?_, ?_, ?_, trivial⟩ ?_
  ·intro ρ r14 N14 B hB hBa hp hr hr0
   have q0 : ρ 0 = v := hr0 0 (by kernel_rfl)
   obtain ⟨ρ17, rfl⟩ := Ze (uc q0 un)
   clear q0
   refine Za (v := v) rfl (Pu.move rfl) ?_
   refine Zb ?_
   exact ⟨v, [], rfl, (Sub.emp Sub.refl), rfl⟩
  ·intro ρ r14 N14 B hB hBa hp hr hr0
   have q5 : ρ 5 = .int .i64 ((j : Int)) := hr0 5 (by kernel_rfl)
   obtain ⟨ρ18, rfl⟩ := Ze (uc q5 un)
   clear q5
   refine Za (v := .int .i64 ((j : Int))) rfl (Pu.move rfl) ?_
   refine Zb ?_
   exact ⟨.int .i64 ((j : Int)), [], rfl, (Sub.emp Sub.refl), rfl⟩
  ·intro ρ r14 N14 B hB hBa hp hr hr0
   have q16 : ρ 16 = v := (hr 0 _ _ (by decide) rfl rfl rfl).trans (hp 0 (by decide) rfl)
   have q17 : ρ 17 = .int .i64 ((j : Int)) := (hr 1 _ _ (by decide) rfl rfl rfl).trans (hp 1 (by decide) rfl)
   obtain ⟨ρ19, rfl⟩ := Ze (uc q16 (uc q17 un))
   clear q16 q17
   refine Za (v := .pointer (some ⟨b15, o15 + j * 1, none⟩)) rfl (Pu.idx j Tryz.runUnderlying71 ty9 hv15 rfl rfl (by first | assumption | omega | decide | simp)) ?_
   refine Zb ?_
   exact ⟨.pointer (some ⟨b15, o15 + j * 1, none⟩), [], rfl, (Sub.emp Sub.refl), rfl⟩
  ·intro ρ r14 N14 B hB hBa hp hr hr0
   have q18 : ρ 18 = .pointer (some ⟨b15, o15 + j * 1, none⟩) := (hr 2 _ _ (by decide) rfl rfl rfl).trans (hp 2 (by decide) rfl)
   obtain ⟨ρ20, rfl⟩ := Ze (uc q18 un)
   clear q18
   refine Zd rfl (Zh ty9 rfl (At.im hb15) (sub_one ((show cs15 = [Value.string (l[j])] from hE15) ▸ hs15)) ?_)
   refine Zb ?_
   exact ⟨.string (l[j]), [], rfl, (Sub.emp Sub.refl), rfl⟩
  ·intro ρ r14 N14 B hB hBa hp hr hr0
   have q1 : ρ 1 = u := hr0 1 (by kernel_rfl)
   obtain ⟨ρ21, rfl⟩ := Ze (uc q1 un)
   clear q1
   refine Za (v := u) rfl (Pu.move rfl) ?_
   refine Zb ?_
   exact ⟨u, [], rfl, (Sub.emp Sub.refl), rfl⟩
  ·intro ρ r14 N14 B hB hBa hp hr hr0
   have q5 : ρ 5 = .int .i64 ((j : Int)) := hr0 5 (by kernel_rfl)
   obtain ⟨ρ22, rfl⟩ := Ze (uc q5 un)
   clear q5
   refine Za (v := .int .i64 ((j : Int))) rfl (Pu.move rfl) ?_
   refine Zb ?_
   exact ⟨.int .i64 ((j : Int)), [], rfl, (Sub.emp Sub.refl), rfl⟩
  ·intro ρ r14 N14 B hB hBa hp hr hr0
   have q20 : ρ 20 = u := (hr 4 _ _ (by decide) rfl rfl rfl).trans (hp 4 (by decide) rfl)
   have q21 : ρ 21 = .int .i64 ((j : Int)) := (hr 5 _ _ (by decide) rfl rfl rfl).trans (hp 5 (by decide) rfl)
   obtain ⟨ρ23, rfl⟩ := Ze (uc q20 (uc q21 un))
   clear q20 q21
   refine Za (v := .pointer (some ⟨b16, o16 + j * 1, none⟩)) rfl (Pu.idx j Tryz.runUnderlying71 ty9 hv16 rfl rfl (by first | assumption | omega | decide | simp)) ?_
   refine Zb ?_
   exact ⟨.pointer (some ⟨b16, o16 + j * 1, none⟩), [], rfl, (Sub.emp Sub.refl), rfl⟩
  ·intro ρ r14 N14 B hB hBa hp hr hr0
   have q22 : ρ 22 = .pointer (some ⟨b16, o16 + j * 1, none⟩) := (hr 6 _ _ (by decide) rfl rfl rfl).trans (hp 6 (by decide) rfl)
   obtain ⟨ρ24, rfl⟩ := Ze (uc q22 un)
   clear q22
   refine Zd rfl (Zh ty9 rfl (At.im hb16) (sub_one ((show cs16 = [Value.string (m[j])] from hE16) ▸ hs16)) ?_)
   refine Zb ?_
   exact ⟨.string (m[j]), [], rfl, (Sub.emp Sub.refl), rfl⟩
  intro ρ r14 N14 hp hr hr0
  have q0 : ρ 0 = v := hr0 0 (by kernel_rfl)
  have q1 : ρ 1 = u := hr0 1 (by kernel_rfl)
  have q4 : ρ 4 = .bool false := hr0 4 (by kernel_rfl)
  have q12 : ρ 12 = .int .i64 ((l.length : Int)) := hr0 12 (by kernel_rfl)
  have q13 : ρ 13 = .int .i64 ((j : Int)) := hr0 13 (by kernel_rfl)
  have q19 : ρ 19 = .string (l[j]) := (hr 3 _ _ (by decide) rfl rfl).trans (hp 3 (by decide))
  have q23 : ρ 23 = .string (m[j]) := (hr 7 _ _ (by decide) rfl rfl).trans (hp 7 (by decide))
  obtain ⟨ρ25, rfl⟩ := Ze (uc q0 (uc q1 (uc q4 (uc q12 (uc q13 (uc q19 (uc q23 un)))))))
  clear q0 q1 q4 q12 q13 q19 q23
  clear hp hr hr0 
  refine Zw (M' := [(N14 0), (N14 1), (N14 2), (N14 3), (N14 4), (N14 5), (N14 6), (N14 7)]) Sub.refl ?_
  refine Zw (M' := []) Sub.nil ?_
  show JL _ _ _ [_] _ _ _
  refine Za (v := .bool (!decide (l[j] = m[j]))) rfl (Pu.neqS rfl rfl) ?_
  refine Zb ?_
  refine Zl (b := !decide (l[j] = m[j])) rfl (fun h26 => ?_) (fun h26 => ?_)
  ·replace h26 := nt h26
   replace h26 := df h26
   refine Zg (Zc ?_)
   refine Za (v := .bool false) rfl (Pu.assign rfl) ?_
   refine Zb ?_
   refine Zo ?_
   refine ⟨.bool false, [], Ret.one rfl (RV.tmp rfl), Sub.nil, ?_⟩
   exact ⟨by rw [eqL_false (fun e => by subst e; exact h26 rfl)], rfl⟩
  replace h26 := nf h26
  replace h26 := dt h26
  refine Zq ?_
  refine Zc ?_
  refine Za (v := .int .i64 (((j + 1 : Nat) : Int))) rfl (Pu.inc rfl rfl (by omega)) ?_
  refine Za (v := .int .i64 (((j + 1 : Nat) : Int))) rfl (Pu.move rfl) ?_
  refine Zb ?_
  refine ⟨_, ?_, (j + 1), rfl, rfl, rfl, rfl, rfl, Sub.nil, ?_, ?_, rfl⟩
  ·omega
  ·omega
  rw [List.take_succ_eq_append_getElem h13n, List.take_succ_eq_append_getElem hjm, hinv, h26]
 replace h13 := df h13
 have h13n : l.length ≤ j := by omega
 refine J_exit _ rfl ?_
 refine Zg (Zc ?_)
 refine Za (v := .bool true) rfl (Pu.assign rfl) ?_
 refine Zb ?_
 refine Zo ?_
 refine ⟨.bool true, [], Ret.one rfl (RV.tmp rfl), Sub.nil, ?_⟩
 exact ⟨by rw [eqL_true (by rw [← List.take_of_length_le h13n, hinv, List.take_of_length_le (by omega)])], rfl⟩
theorem idxS_ct (l : List ByteArray) (x : ByteArray) (v : Value) (H : Heap) (hl : rdS RS 1 H v l) : CT Tryz.prog 106 ⟨[v, .string x]⟩ [] H (fun v N => v = .int .i64 (fstS x l 0) ∧ N = []) := by
 refine Zr Tryz.func106 rfl rfl ?_
 refine Zg (Zc ?_)
 refine Za (v := .int .i64 0) rfl (Pu.assign rfl) ?_
 refine Zb ?_
 refine Zg ?_
 refine Zg (Zc ?_)
 refine Za (v := v) rfl (Pu.move rfl) ?_
 obtain ⟨a1, cap1, hv1⟩ := hl.sl
 have hle1 := hl.le
 refine Za (v := .int .i64 ((l.length : Int))) rfl (Pu.lenSl Tryz.runUnderlying71 hv1) ?_
 refine Za (v := .int .i64 0) rfl (Pu.move rfl) ?_
 refine Zb ?_
 refine Zs ?_
 refine J_loop (fun k ρ M => ∃ (j : Nat), ρ 0 = v ∧ ρ 1 = .string x ∧ ρ 4 = .int .i64 0 ∧ ρ 7 = .int .i64 ((l.length : Int)) ∧ ρ 8 = .int .i64 ((j : Int)) ∧ Sub [] M ∧ j ≤ l.length ∧ fstS x (l.drop j) j = fstS x l 0 ∧ k = l.length - j) _ ⟨0, rfl, rfl, rfl, rfl, rfl, Sub.nil, Nat.zero_le _, rfl, rfl⟩ ?_
 rintro _ ρ2 _ ⟨j, e3, e4, e5, e6, e7, hm8, hj, hinv, rfl⟩
 obtain ⟨ρ9, rfl⟩ := Ze (uc e3 (uc e4 (uc e5 (uc e6 (uc e7 un)))))
 clear e3 e4 e5 e6 e7
 refine J_sub hm8 ?_
 refine Zg (Zc ?_)
 refine Za (v := .bool (decide ((j : Int) < (l.length : Int)))) rfl (Pu.lss rfl rfl) ?_
 refine Zb ?_
 refine Zg ?_
 refine Zl (b := decide ((j : Int) < (l.length : Int))) rfl (fun h10 => ?_) (fun h10 => ?_)
 ·replace h10 := dt h10
  have h10n : j < l.length := by omega
  have hlenl := hl.le
  refine Zq ?_
  refine Zg ?_
  refine Zs ?_
  refine Zg (Zc ?_)
  refine Za (v := .int .i64 ((j : Int))) rfl (Pu.move rfl) ?_
  refine Za (v := .int .i64 ((j : Int))) rfl (Pu.assign rfl) ?_
  refine Zb ?_
  refine Zg (Zc ?_)
  refine Za (v := .string x) rfl (Pu.move rfl) ?_
  refine Za (v := v) rfl (Pu.move rfl) ?_
  refine Za (v := .int .i64 ((j : Int))) rfl (Pu.move rfl) ?_
  obtain ⟨b11, o11, cap11, row11, T11, fr11, cs11, hv11, hb11, hs11, hE11⟩ := hl.get j (by first | assumption | omega | decide | simp)
  refine Za (v := .pointer (some ⟨b11, o11 + j * 1, none⟩)) rfl (Pu.idx j Tryz.runUnderlying71 ty9 hv11 rfl rfl (by first | assumption | omega | decide | simp)) ?_
  refine Zd rfl (Zh ty9 rfl (At.im hb11) (sub_one ((show cs11 = [Value.string (l[j])] from hE11) ▸ hs11)) ?_)
  refine Za (v := .bool (decide (x = l[j]))) rfl (Pu.eqlS rfl rfl) ?_
  refine Zb ?_
  refine Zl (b := decide (x = l[j])) rfl (fun h12 => ?_) (fun h12 => ?_)
  ·replace h12 := dt h12
   refine Zg (Zc ?_)
   refine Za (v := .int .i64 ((j : Int))) rfl (Pu.move rfl) ?_
   refine Za (v := .int .i64 ((j : Int))) rfl (Pu.assign rfl) ?_
   refine Zb ?_
   refine Zo ?_
   refine ⟨.int .i64 ((j : Int)), [], Ret.one rfl (RV.tmp rfl), Sub.nil, ?_⟩
   exact ⟨by rw [← hinv, dropc h10n, fstS, if_pos h12], rfl⟩
  replace h12 := df h12
  refine Zq ?_
  refine Zc ?_
  refine Za (v := .int .i64 (((j + 1 : Nat) : Int))) rfl (Pu.inc rfl rfl (by omega)) ?_
  refine Za (v := .int .i64 (((j + 1 : Nat) : Int))) rfl (Pu.move rfl) ?_
  refine Zb ?_
  refine ⟨_, ?_, (j + 1), rfl, rfl, rfl, rfl, rfl, Sub.nil, ?_, ?_, rfl⟩
  ·omega
  ·omega
  rw [dropc h10n, fstS, if_neg h12] at hinv; exact hinv
 replace h10 := df h10
 have h10n : l.length ≤ j := by omega
 refine J_exit _ rfl ?_
 refine Zg (Zc ?_)
 refine Za (v := .int .i64 (-1)) rfl (Pu.assign rfl) ?_
 refine Zb ?_
 refine Zo ?_
 refine ⟨.int .i64 (-1), [], Ret.one rfl (RV.tmp rfl), Sub.nil, ?_⟩
 exact ⟨by rw [← hinv, dropn h10n]; rfl, rfl⟩
theorem containsS_ct (l : List ByteArray) (x : ByteArray) (v : Value) (H : Heap) (hl : rdS RS 1 H v l) : CT Tryz.prog 84 ⟨[v, .string x]⟩ [] H (fun v N => v = .bool (l.any (fun y => decide (x = y))) ∧ N = []) := by
 refine Zr Tryz.func84 rfl rfl ?_
 refine Zg (Zc ?_)
 refine Za (v := .bool false) rfl (Pu.assign rfl) ?_
 refine Zb ?_
 refine Zg (Zc ?_)
 refine Za (v := v) rfl (Pu.move rfl) ?_
 refine Za (v := .string x) rfl (Pu.move rfl) ?_
 refine Zk rfl Tryz.call106 rfl (fun hin => idxS_ct _ _ _ _ (RSs.mono (Hle.hu _ _) hl)) rfl ?_
 rintro _ _ ⟨rfl, rfl⟩
 refine Za (v := .bool (decide (0 ≤ fstS x l 0))) rfl (Pu.geq rfl rfl) ?_
 refine Za (v := .bool (decide (0 ≤ fstS x l 0))) rfl (Pu.assign rfl) ?_
 refine Zb ?_
 refine Zo ?_
 refine ⟨.bool (decide (0 ≤ fstS x l 0)), [], Ret.one rfl (RV.tmp rfl), Sub.nil, ?_⟩
 exact ⟨by rw [← fstS_mem x l 0], rfl⟩
theorem number_ct (i : Nat) (H : Heap) (hi : i < 26) : CT Tryz.prog 119 ⟨[.string (ltr i)]⟩ [] H (fun v N => v = .int .i64 (i : Int) ∧ N = []) := by
 refine Zr Tryz.func119 rfl rfl ?_
 refine Zg (Zc ?_)
 refine Za (v := .int .i64 0) rfl (Pu.assign rfl) ?_
 refine Zb ?_
 refine Zg (Zc ?_)
 refine Za (v := .int .i64 (-1)) rfl (Pu.assign rfl) ?_
 refine Zb ?_
 refine Zg ?_
 refine Zg (Zc ?_)
 refine Za (v := .string (ltr i)) rfl (Pu.move rfl) ?_
 refine Zd rfl (Runs_rangeS Tryz.underlying9 rfl fun r1 => ?_)
 refine Zb ?_
 refine Zs ?_
 refine J_rounds 2 ?_
 refine JR_succ ?_
 refine Zg (Zc ?_)
 refine Zd rfl (Runs_nextL (i := 0) rfl rfl hi ?_)
 refine Za (v := .bool true) rfl (Pu.extract rfl rfl) ?_
 refine Zb ?_
 refine Zg ?_
 refine Zl (b := true) rfl (fun _ => ?_) (fun h => absurd h (by simp))
 refine Zq ?_
 refine Zs ?_
 refine Zg (Zc ?_)
 refine Za (v := .int .i32 (97 + (i : Int))) rfl (Pu.extract rfl rfl) ?_
 refine Za (v := .int .i32 (97 + (i : Int))) rfl (Pu.assign rfl) ?_
 refine Zb ?_
 refine Zg ?_
 refine J_cut (fun ρ M => ρ 2 = .int .i64 0 ∧ ρ 3 = .int .i64 (-1) ∧ ρ 5 = .int .i32 (97 + (i : Int)) ∧ ρ 7 = .pointer (some ⟨r1, 0, none⟩) ∧ ρ 20 = .bool (((decide (97 + (i : Int) < 97)) || (decide (122 < 97 + (i : Int)))) && true) ∧ M = [itC r1 (ltr i) 1]) ?_ ?_
 ·refine Zc ?_
  refine Za (v := .int .i32 (97 + (i : Int))) rfl (Pu.move rfl) ?_
  refine Za (v := .bool (decide (97 + (i : Int) < 97))) rfl (Pu.lss rfl rfl) ?_
  refine Za (v := .bool (decide (97 + (i : Int) < 97))) rfl (Pu.move rfl) ?_
  cases h2 : (decide (97 + (i : Int) < 97)) with
  | true =>
   replace h2 := dt h2
   refine Zf rfl ?_
   refine Zf rfl ?_
   refine Za (v := .bool true) rfl (Pu.pickT rfl rfl) ?_
   refine Za (v := .bool true) rfl (Pu.move rfl) ?_
   refine Zf rfl ?_
   refine Zf rfl ?_
   refine Za (v := .bool true) rfl (Pu.pickT rfl rfl) ?_
   refine Zb ?_
   first | exact ⟨rfl, rfl, rfl, rfl, rfl, rfl⟩ | (exfalso; omega)
  | false =>
   replace h2 := df h2
   refine Za (v := .int .i32 (97 + (i : Int))) rfl (Pu.move rfl) ?_
   refine Za (v := .bool (decide (122 < 97 + (i : Int)))) rfl (Pu.gtr rfl rfl) ?_
   refine Za (v := .bool (decide (122 < 97 + (i : Int)))) rfl (Pu.pickF rfl rfl) ?_
   refine Za (v := .bool (decide (122 < 97 + (i : Int)))) rfl (Pu.move rfl) ?_
   cases h3 : (decide (122 < 97 + (i : Int))) with
   | true =>
    replace h3 := dt h3
    refine Zf rfl ?_
    refine Zf rfl ?_
    refine Za (v := .bool true) rfl (Pu.pickT rfl rfl) ?_
    refine Zb ?_
    first | exact ⟨rfl, rfl, rfl, rfl, rfl, rfl⟩ | (exfalso; omega)
   | false =>
    replace h3 := df h3
    refine Za (v := .int .i64 (-1)) rfl (Pu.move rfl) ?_
    refine Za (v := .bool false) rfl (show Pu _ _ _ (.bool (decide ((1073741824 : Int) < -1))) from Pu.gtr rfl rfl) ?_
    refine Za (v := .bool false) rfl (Pu.pickF rfl rfl) ?_
    refine Zb ?_
    first | exact ⟨rfl, rfl, rfl, rfl, rfl, rfl⟩ | (exfalso; omega)
 rintro ρ4 _ ⟨e5, e6, e7, e8, e9, rfl⟩
 obtain ⟨ρ10, rfl⟩ := Ze (uc e5 (uc e6 (uc e7 (uc e8 (uc e9 un)))))
 clear e5 e6 e7 e8 e9
 refine Zl (b := ((decide (97 + (i : Int) < 97)) || (decide (122 < 97 + (i : Int)))) && true) rfl (fun h11 => ?_) (fun h11 => ?_)
 ·obtain ⟨h11a, h11b⟩ := andT h11
  exfalso; simp at h11; omega
 refine Zq ?_
 refine Zc ?_
 refine Za (v := .int .i64 (-1)) rfl (Pu.move rfl) ?_
 refine Za (v := .int .i64 0) rfl (Pu.arith rfl rfl rfl) ?_
 refine Za (v := .int .i64 0) rfl (Pu.arithM rfl rfl rfl) ?_
 refine Za (v := .int .i32 (97 + (i : Int))) rfl (Pu.move rfl) ?_
 refine Za (v := .int .i32 ((i : Int))) rfl (Pu.arithS rfl rfl ((w32 (by omega)).trans (by omega))) ?_
 refine Za (v := .int .i64 ((i : Int))) rfl (Pu.conv Tryz.runUnderlying21 Tryz.runUnderlying3 rfl (w64 (by omega))) ?_
 refine Za (v := .int .i64 (0 + ((i : Int)))) rfl (Pu.add64 rfl rfl (by first | omega | (constructor <;> omega))) ?_
 refine Za (v := .int .i64 (0 + ((i : Int)))) rfl (Pu.assign rfl) ?_
 refine Zb ?_
 refine JR_succ ?_
 refine Zg (Zc ?_)
 refine Zd rfl (Runs_nextE (i := 0) rfl rfl (by rw [ltr_size]; decide) ?_)
 refine Za (v := .bool false) rfl (Pu.extract rfl rfl) ?_
 refine Zb ?_
 refine Zg ?_
 refine Zl (b := false) rfl (fun h => absurd h (by simp)) (fun _ => ?_)
 refine J_exit _ rfl ?_
 refine Zg (Zc ?_)
 refine Za (v := .int .i64 (0 + ((i : Int)))) rfl (Pu.move rfl) ?_
 refine Za (v := .int .i64 (0 + ((i : Int)))) rfl (Pu.assign rfl) ?_
 refine Zb ?_
 refine Zo ?_
 refine ⟨.int .i64 (0 + ((i : Int))), [], Ret.one rfl (RV.tmp rfl), Sub.nil, ?_⟩
 exact ⟨congrArg (Value.int .i64) (by omega), rfl⟩
theorem name_ct (i : Nat) (H : Heap) (hi : i < 26) : CT Tryz.prog 116 ⟨[.int .i64 ((i : Int))]⟩ [] H (fun v N => v = .string (ltr i) ∧ N = []) := by
 refine Zr Tryz.func116 rfl rfl ?_
 refine Zg (Zc ?_)
 refine Za (v := .string (⟨#[]⟩)) rfl (Pu.assign rfl) ?_
 refine Zb ?_
 refine Zg ?_
 refine Zg (Zc ?_)
 refine Za (v := .int .i64 ((i : Int))) rfl (Pu.move rfl) ?_
 refine Za (v := .bool (decide ((i : Int) < 26))) rfl (Pu.lss rfl rfl) ?_
 refine Zb ?_
 refine Zl (b := decide ((i : Int) < 26)) rfl (fun h1 => ?_) (fun h1 => ?_)
 ·replace h1 := dt h1
  have h1n : i < 26 := by omega
  refine Zg (Zc ?_)
  refine Za (v := .int .i64 ((i : Int))) rfl (Pu.move rfl) ?_
  refine Za (v := .int .i64 (97 + ((i : Int)))) rfl (Pu.add64 rfl rfl (by first | omega | (constructor <;> omega))) ?_
  refine Za (v := .int .i32 (97 + ((i : Int)))) rfl (Pu.conv Tryz.runUnderlying3 Tryz.runUnderlying21 rfl (w32 (by omega))) ?_
  refine Za (v := .string (ltr i)) rfl (Pu.convS Tryz.runUnderlying21 Tryz.runUnderlying9 rfl (ltr_enc' i hi)) ?_
  refine Za (v := .string (ltr i)) rfl (Pu.assign rfl) ?_
  refine Zb ?_
  refine Zo ?_
  refine ⟨.string (ltr i), [], Ret.one rfl (RV.tmp rfl), Sub.nil, ?_⟩
  exact ⟨rfl, rfl⟩
 replace h1 := df h1
 have h1n : 26 ≤ i := by omega
 exfalso; omega
theorem mark_ct (i n : Nat) (l : List Bool) (bF : Nat) (H : Heap) (hi : i < 26) (hl : l.length = n) : CT Tryz.prog 114 ⟨[.slice (some ⟨bF, 0, none⟩) n n, .string (ltr i)]⟩ [[(bF, .cells ⟨bls l⟩ 4 (0, 0))]] H (fun v N => v = .tuple ⟨[]⟩ ∧ N = [[(bF, .cells ⟨bls (markL i l)⟩ 4 (0, 0))]]) := by
 refine Zr Tryz.func114 rfl rfl ?_
 refine Zg (Zc ?_)
 refine Za (v := .string (ltr i)) rfl (Pu.move rfl) ?_
 refine Zk rfl Tryz.call119 rfl (fun hin => number_ct i _ hi) rfl ?_
 rintro _ _ ⟨rfl, rfl⟩
 refine Za (v := .int .i64 ((i : Int))) rfl (Pu.assign rfl) ?_
 refine Zb ?_
 refine Zg (Zc ?_)
 refine Za (v := .int .i64 ((i : Int))) rfl (Pu.move rfl) ?_
 refine Za (v := .bool (decide (0 ≤ (i : Int)))) rfl (Pu.geq rfl rfl) ?_
 refine Za (v := .bool (decide (0 ≤ (i : Int)))) rfl (Pu.move rfl) ?_
 cases h1 : (decide (0 ≤ (i : Int))) with
 | true =>
  replace h1 := dt h1
  refine Za (v := .int .i64 ((i : Int))) rfl (Pu.move rfl) ?_
  refine Za (v := .slice (some ⟨bF, 0, none⟩) n n) rfl (Pu.move rfl) ?_
  refine Za (v := .int .i64 ((n : Int))) rfl (Pu.lenSl Tryz.runUnderlying144 rfl) ?_
  refine Za (v := .bool (decide ((i : Int) < (n : Int)))) rfl (Pu.lss rfl rfl) ?_
  refine Za (v := .bool (decide ((i : Int) < (n : Int)))) rfl (Pu.pickT rfl rfl) ?_
  refine Zb ?_
  refine Zl (b := decide ((i : Int) < (n : Int))) rfl (fun h2 => ?_) (fun h2 => ?_)
  ·replace h2 := dt h2
   have h2n : i < n := by omega
   refine Zc ?_
   refine Za (v := .slice (some ⟨bF, 0, none⟩) n n) rfl (Pu.move rfl) ?_
   refine Za (v := .int .i64 ((i : Int))) rfl (Pu.move rfl) ?_
   refine Za (v := .pointer (some ⟨bF, 0 + i * 1, none⟩)) rfl (Pu.idx i Tryz.runUnderlying144 ty4 rfl rfl (by omega) (by omega)) ?_
   refine Zd rfl (Zi 0 (vs := [.bool true]) (l := bls (l.set i true)) ty4 rfl rfl rfl rfl rfl (Zp rfl Zz) (bls_set1 (by have hbl : List.length l = n := hl; omega)) ?_)
   refine Zb ?_
   refine ⟨.tuple ⟨[]⟩, [[(bF, .cells ⟨bls (l.set i true)⟩ 4 (0, 0))]], Ret.none rfl, (Sk Sub.nil), ?_⟩
   exact ⟨rfl, by rw [markL, if_pos (by omega)]⟩
  replace h2 := df h2
  have h2n : n ≤ i := by omega
  refine Zq ?_
  refine ⟨.tuple ⟨[]⟩, [[(bF, .cells ⟨bls l⟩ 4 (0, 0))]], Ret.none rfl, (Sk Sub.nil), ?_⟩
  exact ⟨rfl, by rw [markL, if_neg (by omega)] <;> rfl⟩
 | false =>
  replace h1 := df h1
  refine Zf rfl ?_
  refine Zf rfl ?_
  refine Zf rfl ?_
  refine Zf rfl ?_
  refine Za (v := .bool false) rfl (Pu.pickF rfl rfl) ?_
  refine Zb ?_
  refine Zl (b := false) rfl (fun h => absurd h (by simp)) (fun _ => ?_)
  refine Zq ?_
  refine ⟨.tuple ⟨[]⟩, [[(bF, .cells ⟨bls l⟩ 4 (0, 0))]], Ret.none rfl, (Sk Sub.nil), ?_⟩
  exact ⟨rfl, by rw [markL, if_neg (by omega)] <;> rfl⟩
theorem idxB_ct (x : Bool) (l : List Bool) (bF n : Nat) (H : Heap) (hl : l.length = n) (hn : n ≤ 1000000) (hB : H bF = some (.cells ⟨bls l⟩ 4 (0, 0))) : CT Tryz.prog 115 ⟨[.slice (some ⟨bF, 0, none⟩) n n, .bool x]⟩ [] H (fun v N => v = .int .i64 (fstB x l 0) ∧ N = []) := by
 refine Zr Tryz.func115 rfl rfl ?_
 refine Zg (Zc ?_)
 refine Za (v := .int .i64 0) rfl (Pu.assign rfl) ?_
 refine Zb ?_
 refine Zg ?_
 refine Zg (Zc ?_)
 refine Za (v := .slice (some ⟨bF, 0, none⟩) n n) rfl (Pu.move rfl) ?_
 refine Za (v := .int .i64 ((n : Int))) rfl (Pu.lenSl Tryz.runUnderlying144 rfl) ?_
 refine Za (v := .int .i64 0) rfl (Pu.move rfl) ?_
 refine Zb ?_
 refine Zs ?_
 refine J_loop (fun k ρ M => ∃ (j : Nat), ρ 0 = .slice (some ⟨bF, 0, none⟩) n n ∧ ρ 1 = .bool x ∧ ρ 4 = .int .i64 0 ∧ ρ 7 = .int .i64 ((n : Int)) ∧ ρ 8 = .int .i64 ((j : Int)) ∧ Sub [] M ∧ j ≤ l.length ∧ fstB x (l.drop j) j = fstB x l 0 ∧ k = l.length - j) _ ⟨0, rfl, rfl, rfl, rfl, rfl, Sub.nil, Nat.zero_le _, rfl, rfl⟩ ?_
 rintro _ ρ1 _ ⟨j, e2, e3, e4, e5, e6, hm7, hj, hinv, rfl⟩
 obtain ⟨ρ8, rfl⟩ := Ze (uc e2 (uc e3 (uc e4 (uc e5 (uc e6 un)))))
 clear e2 e3 e4 e5 e6
 refine J_sub hm7 ?_
 refine Zg (Zc ?_)
 refine Za (v := .bool (decide ((j : Int) < (n : Int)))) rfl (Pu.lss rfl rfl) ?_
 refine Zb ?_
 refine Zg ?_
 refine Zl (b := decide ((j : Int) < (n : Int))) rfl (fun h9 => ?_) (fun h9 => ?_)
 ·replace h9 := dt h9
  have h9n : j < n := by omega
  refine Zq ?_
  refine Zg ?_
  refine Zs ?_
  refine Zg (Zc ?_)
  refine Za (v := .int .i64 ((j : Int))) rfl (Pu.move rfl) ?_
  refine Za (v := .int .i64 ((j : Int))) rfl (Pu.assign rfl) ?_
  refine Zb ?_
  refine Zg (Zc ?_)
  refine Za (v := .bool x) rfl (Pu.move rfl) ?_
  refine Za (v := .slice (some ⟨bF, 0, none⟩) n n) rfl (Pu.move rfl) ?_
  refine Za (v := .int .i64 ((j : Int))) rfl (Pu.move rfl) ?_
  refine Za (v := .pointer (some ⟨bF, 0 + j * 1, none⟩)) rfl (Pu.idx j Tryz.runUnderlying144 ty4 rfl rfl (by omega) (by omega)) ?_
  refine Zd rfl (Zh ty4 rfl (At.im hB) (bls_get1 (by omega)) ?_)
  refine Za (v := .bool (x == (l.getD j false))) rfl (Pu.eqlB Tryz.runUnderlying4 rfl rfl) ?_
  refine Zb ?_
  refine Zl (b := x == (l.getD j false)) rfl (fun h10 => ?_) (fun h10 => ?_)
  ·refine Zg (Zc ?_)
   refine Za (v := .int .i64 ((j : Int))) rfl (Pu.move rfl) ?_
   refine Za (v := .int .i64 ((j : Int))) rfl (Pu.assign rfl) ?_
   refine Zb ?_
   refine Zo ?_
   refine ⟨.int .i64 ((j : Int)), [], Ret.one rfl (RV.tmp rfl), Sub.nil, ?_⟩
   exact ⟨by rw [← hinv, dropc (by omega : j < l.length), fstB, if_pos (by simpa [(by omega : j < l.length)] using h10)], rfl⟩
  refine Zq ?_
  refine Zc ?_
  refine Za (v := .int .i64 (((j + 1 : Nat) : Int))) rfl (Pu.inc rfl rfl (by omega)) ?_
  refine Za (v := .int .i64 (((j + 1 : Nat) : Int))) rfl (Pu.move rfl) ?_
  refine Zb ?_
  refine ⟨_, ?_, (j + 1), rfl, rfl, rfl, rfl, rfl, Sub.nil, ?_, ?_, rfl⟩
  ·omega
  ·omega
  rw [dropc (by omega : j < l.length), fstB, if_neg (by simpa [(by omega : j < l.length)] using h10)] at hinv; exact hinv
 replace h9 := df h9
 have h9n : n ≤ j := by omega
 refine J_exit _ rfl ?_
 refine Zg (Zc ?_)
 refine Za (v := .int .i64 (-1)) rfl (Pu.assign rfl) ?_
 refine Zb ?_
 refine Zo ?_
 refine ⟨.int .i64 (-1), [], Ret.one rfl (RV.tmp rfl), Sub.nil, ?_⟩
 exact ⟨by rw [← hinv, dropn (by omega)]; rfl, rfl⟩
end Go.Proofs.YtdeinimmmjichaaGreat.Hs
/-! Walks, printed by a program of this session's own (gen.py). -/
namespace Go.Proofs.YtdeinimmmjichaaGreat.Hs
open Go Go.Proofs
set_option maxRecDepth 100000
set_option linter.unusedVariables false
set_option linter.unusedSimpArgs false
attribute [local irreducible] JL J CT wlo
theorem cloneI_ct (v : Value) (l : List Int) (H : Heap) (hl : Hs.rdS RI 1 H v l) (hz : l.length ≤ 1000) : CT Tryz.prog 26 ⟨[v]⟩ [] H (fun r N => ∃ k, N = [k] ∧ Own 3 1 r (ints l) k) := by
 refine Zr Tryz.func26 rfl rfl ?_
 refine Zg (Zc ?_)
 refine Za (v := .slice none 0 0) rfl (Pu.assign rfl) ?_
 refine Zb ?_
 refine Zg ?_
 refine Zg (Zc ?_)
 refine Za (v := v) rfl (Pu.move rfl) ?_
 obtain ⟨a1, cap1, hv1⟩ := hl.sl
 have hle1 := hl.le
 refine Za (v := .bool (a1.isNone)) rfl (Pu.eqlNil Tryz.runUnderlying43 hv1 rfl) ?_
 refine Zb ?_
 refine Zl (b := a1.isNone) rfl (fun h2 => ?_) (fun h2 => ?_)
 ·refine Zg (Zc ?_)
  refine Za (v := .slice none 0 0) rfl (Pu.assign rfl) ?_
  refine Zb ?_
  refine Zo ?_
  refine ⟨.slice none 0 0, [[]], Ret.one rfl (RV.tmp rfl), (Sub.emp Sub.nil), ?_⟩
  obtain rfl : l = [] := rd_none hl hv1 h2
  exact ⟨_, rfl, Own.nil⟩
 refine Zq ?_
 refine Zg (Zc ?_)
 refine Zd rfl (ZA (vs := []) [] Tryz.runUnderlying43 el3 rfl rfl (by intro e he; cases he) rfl (by decide) fun b3 k3 ho3 hk3 => ?_)
 refine Za (v := v) rfl (Pu.move rfl) ?_
 refine Zd rfl (Runs_append (i := 0) (n := l.length) (es' := ints l) Tryz.runUnderlying43 Tryz.runUnderlying43 (Or.inl rfl) el3 rfl rfl rfl ho3 (fun F w m => ints_src hl w _ m) (ints_len _) (ints_len1 _) (ints_ok _) (by decide) (by simp; omega) fun v4 k4 ho4 => ?_)
 refine Za (v := v4) rfl (Pu.assign rfl) ?_
 refine Zb ?_
 refine Zo ?_
 refine ⟨v4, [k4], Ret.one rfl (RV.tmp rfl), (Sk Sub.nil), ?_⟩
 exact ⟨_, rfl, ho4⟩
end Go.Proofs.YtdeinimmmjichaaGreat.Hs
/-! Walks, printed by a program of this session's own (gen.py). -/
namespace Go.Proofs.YtdeinimmmjichaaGreat.Hs
open Go Go.Proofs
set_option maxRecDepth 100000
set_option linter.unusedVariables false
set_option linter.unusedSimpArgs false
attribute [local irreducible] JL J CT wlo
theorem backward_ct (v : Value) (H : Heap) (hv : v.oneCell' = true) : CT Tryz.prog 120 ⟨[v]⟩ [] H (fun u N => ∃ b, u = .func (.func 121) ⟨[]⟩ ⟨[.pointer (some ⟨b, 0, none⟩)]⟩ ∧ N = [[(b, .cells ⟨[v]⟩ 71 (0, 0))]]) := by
 refine Zr Tryz.func120 rfl rfl ?_
 refine Zg (Zc ?_)
 refine Zd rfl (Zx (l := [v]) rfl (cells_one hv) fun b1 => ?_)
 refine Za (v := .nilFunc) rfl (Pu.assign rfl) ?_
 refine Zb ?_
 refine Zg (Zc ?_)
 refine Za (v := .func (.func 121) ⟨[]⟩ ⟨[.pointer (some ⟨b1, 0, none⟩)]⟩) rfl (Pu.makeFunc rfl rfl) ?_
 refine Za (v := .func (.func 121) ⟨[]⟩ ⟨[.pointer (some ⟨b1, 0, none⟩)]⟩) rfl (Pu.assign rfl) ?_
 refine Zb ?_
 refine Zo ?_
 refine ⟨.func (.func 121) ⟨[]⟩ ⟨[.pointer (some ⟨b1, 0, none⟩)]⟩, [[(b1, .cells ⟨[v]⟩ 71 (0, 0))]], Ret.one rfl (RV.tmp rfl), (Sk Sub.nil), ?_⟩
 exact ⟨_, rfl, rfl⟩
theorem backward1_ct (L : List ByteArray) (v : Value) (H : Heap) (bK : Nat) (hl : rdS RS 1 H v L) (hK : H bK = some (.cells ⟨[v]⟩ 71 (0, 0))) (l : Nat) {σ : Type} (yc : σ → Zm) (Inv : Nat → σ → Prop) (s0 : σ) (h0 : Inv L.length s0) (hy : ∀ (i : Nat) (hi : i < L.length) (s : σ) (h : Heap), Inv (i + 1) s → Hle H h → YT Tryz.prog l ⟨[.int .i64 (i : Int), .string L[i]]⟩ [yc s] h (fun v N => ∃ s2, v = .bool true ∧ N = [yc s2] ∧ Inv i s2)) : CT Tryz.prog 121 ⟨[.func (.yield l) ⟨[]⟩ ⟨[]⟩, .pointer (some ⟨bK, 0, none⟩)]⟩ [yc s0] H (fun _ N => ∃ s, N = [yc s] ∧ Inv 0 s) := by
 refine Zr Tryz.func121 rfl rfl ?_
 refine Zg (Zc ?_)
 refine Zd rfl (Zh ty71 rfl (At.im hK) rfl ?_)
 obtain ⟨a1, cap1, hv1⟩ := hl.sl
 have hle1 := hl.le
 refine Za (v := .int .i64 ((L.length : Int))) rfl (Pu.lenSl Tryz.runUnderlying71 hv1) ?_
 refine Za (v := .int .i64 ((L.length : Int) - 1)) rfl (Pu.sub64 rfl rfl (by first | omega | (constructor <;> omega))) ?_
 refine Za (v := .int .i64 ((L.length : Int) - 1)) rfl (Pu.assign rfl) ?_
 refine Zb ?_
 refine Zs ?_
 refine J_loop (fun k ρ M => ∃ (e : Int) (s : σ), ρ 0 = .func (.yield l) ⟨[]⟩ ⟨[]⟩ ∧ ρ 1 = .pointer (some ⟨bK, 0, none⟩) ∧ ρ 3 = .int .i64 e ∧ Sub [yc s] M ∧ (-1 ≤ e ∧ e < (L.length : Int)) ∧ Inv (e + 1).toNat s ∧ k = (e + 1).toNat) _ ⟨((L.length : Int) - 1), s0, rfl, rfl, rfl, (Sk Sub.nil), ⟨by omega, by omega⟩, (by rw [show ((L.length : Int) - 1 + 1).toNat = L.length from by omega]; exact h0), rfl⟩ ?_
 rintro _ ρ2 _ ⟨e, s, e3, e4, e5, hm6, hb, hI, rfl⟩
 obtain ⟨ρ7, rfl⟩ := Ze (uc e3 (uc e4 (uc e5 un)))
 clear e3 e4 e5
 refine J_sub hm6 ?_
 refine Zg ?_
 refine Zg (Zc ?_)
 refine Za (v := .int .i64 e) rfl (Pu.move rfl) ?_
 refine Za (v := .bool (decide (0 ≤ e))) rfl (Pu.geq rfl rfl) ?_
 refine Zb ?_
 refine Zl (b := decide (0 ≤ e)) rfl (fun h8 => ?_) (fun h8 => ?_)
 ·replace h8 := dt h8
  obtain ⟨j, rfl⟩ := Int.eq_ofNat_of_zero_le h8
  have hjl : j < L.length := by omega
  refine Zq ?_
  refine Zg ?_
  refine Zs ?_
  refine Zg (Zc ?_)
  refine Za (v := .func (.yield l) ⟨[]⟩ ⟨[]⟩) rfl (Pu.move rfl) ?_
  refine Za (v := .int .i64 ((j : Int))) rfl (Pu.move rfl) ?_
  refine Zd rfl (Zh ty71 rfl (At.im hK) rfl ?_)
  refine Za (v := .int .i64 ((j : Int))) rfl (Pu.move rfl) ?_
  obtain ⟨b9, o9, cap9, row9, T9, fr9, cs9, hv9, hb9, hs9, hE9⟩ := hl.get j (by first | assumption | omega | decide | simp)
  refine Za (v := .pointer (some ⟨b9, o9 + j * 1, none⟩)) rfl (Pu.idx j Tryz.runUnderlying71 ty9 hv9 rfl rfl (by first | assumption | omega | decide | simp)) ?_
  refine Zd rfl (Zh ty9 rfl (At.im hb9) (sub_one ((show cs9 = [Value.string (L[j])] from hE9) ▸ hs9)) ?_)
  refine JL_yield1 0 rfl rfl rfl (fun hin => hy j hjl s _ (by simpa using hI) (Hle.hu _ _)) rfl ?_
  rintro _ _ ⟨s5, rfl, rfl, hI5⟩
  refine Za (v := .bool false) rfl (show Pu _ _ _ (.bool (!true)) from Pu.not rfl) ?_
  refine Zb ?_
  refine Zl (b := false) rfl (fun h => absurd h (by simp)) (fun _ => ?_)
  refine Zq ?_
  refine Zc ?_
  refine Za (v := .int .i64 ((j : Int))) rfl (Pu.move rfl) ?_
  refine Za (v := .int .i64 ((j : Int) - 1)) rfl (Pu.sub64 rfl rfl (by first | omega | (constructor <;> omega))) ?_
  refine Za (v := .int .i64 ((j : Int) - 1)) rfl (Pu.assign rfl) ?_
  refine Zb ?_
  refine ⟨_, ?_, ((j : Int) - 1), s5, rfl, rfl, rfl, (Sk Sub.nil), ?_, ?_, rfl⟩
  ·omega
  ·constructor <;> omega
  rw [show ((j : Int) - 1 + 1).toNat = j from by omega]; exact hI5
 replace h8 := df h8
 refine J_exit _ rfl ?_
 refine ⟨.tuple ⟨[]⟩, [yc s], Ret.none rfl, (Sk Sub.nil), ?_⟩
 exact ⟨s, rfl, by rw [show (e + 1).toNat = 0 from by omega] at hI; exact hI⟩
theorem with_ct (l m : List ByteArray) (v u : Value) (H : Heap) (hl : rdS RS 1 H v l) (hm : rdS RS 1 H u m) (hb : l.length + m.length ≤ 1000000) : CT Tryz.prog 117 ⟨[v, u]⟩ [] H (fun w N => ∃ u k, w = u ∧ N = [k] ∧ Own 9 1 u (strs (m.reverse ++ l)) k) := by
 refine Zr Tryz.func117 rfl rfl ?_
 refine Zg (Zc ?_)
 refine Za (v := .slice none 0 0) rfl (Pu.assign rfl) ?_
 refine Zb ?_
 refine Zg (Zc ?_)
 refine Zd rfl (ZA (vs := []) [] Tryz.runUnderlying124 el9 rfl rfl (by intro e he; cases he) rfl (by decide) fun b1 k1 ho1 hk1 => ?_)
 refine Zd rfl (Zn (l := [.slice none 0 0]) Tryz.zeroValue124 rfl fun b2 => ?_)
 refine Zd rfl (Zi 0 (vs := [.slice (some ⟨b1, 0, none⟩) 0 0]) (l := [.slice (some ⟨b1, 0, none⟩) 0 0]) ty124 rfl rfl rfl rfl rfl (Zp rfl Zz) rfl ?_)
 refine Zb ?_
 refine Zg ?_
 refine Zg (Zc ?_)
 refine Za (v := u) rfl (Pu.move rfl) ?_
 refine Zk rfl Tryz.call120 rfl (fun hin => backward_ct _ _ hm.one) rfl ?_
 rintro _ _ ⟨bK3, rfl, rfl⟩
 refine Zb ?_
 refine Zs ?_
 refine J_sub (M' := [[(b2, .cells ⟨[.slice (some ⟨b1, 0, none⟩) 0 0]⟩ 124 (0, 0))], k1, [(bK3, .cells ⟨[u]⟩ 71 (0, 0))]]) (Sub.cons 1 rfl (Sub.cons 1 rfl (Sk Sub.nil))) ?_
 refine J_range (L := [[(bK3, .cells ⟨[u]⟩ 71 (0, 0))]]) (fun s : Value × Zm => [[(b2, .cells ⟨[s.1]⟩ 124 (0, 0))], s.2]) (fun _ => false) (.slice (some ⟨b1, 0, none⟩) 0 0, k1) (fun s => Own 9 1 s.1 (strs ((m.drop 0).reverse)) s.2) rfl rfl Tryz.call121 (List.Perm.of_eq (by simp)) ?_ ?_ ?_
 ·intro l yc hY hin
  refine CT.mono (backward1_ct m u _ bK3 (RSs.mono (Hle.hu _ _) hm) (hin 0 _ rfl _ _ List.mem_cons_self) l yc (fun i s => Own 9 1 s.1 (strs ((m.drop i).reverse)) s.2) (.slice (some ⟨b1, 0, none⟩) 0 0, k1) (by rw [List.drop_length]; exact ho1) ?_) (fun v N hN => hN)
  intro i hi s h hI hh
  refine YT.mono (hY s [_, _] h (fun s => Own 9 1 s.1 (strs ((m.drop i).reverse)) s.2) rfl rfl (RoundOk.mk ?_)) ?_
  ·show J _ _ _ _ [[(b2, .cells ⟨[s.1]⟩ 124 (0, 0))], s.2] _
   refine Zc ?_
   refine Za (v := .string (m[i])) rfl (Pu.assign rfl) ?_
   refine Zb ?_
   refine Zs ?_
   refine Zc ?_
   refine Zd rfl (Zh ty124 rfl (At.bx 0 rfl) rfl ?_)
   refine Za (v := .string (m[i])) rfl (Pu.move rfl) ?_
   refine Zd rfl (ZA (vs := [.string (m[i])]) [[.string (m[i])]] Tryz.runUnderlying124 el9 rfl rfl (by intro e he; simp only [List.mem_cons, List.not_mem_nil, or_false] at he; subst he; exact rfl) rfl (by decide) fun b4 k4 ho4 hk4 => ?_)
   have hlens5 : ∀ e ∈ ([[.string (m[i])]] : List (List Value)), List.length e = 1 := by
    intro e he; simp only [List.mem_cons, List.not_mem_nil, or_false] at he
    rcases he with rfl
    ·exact rfl
   have hoks5 : ∀ e ∈ ([[.string (m[i])]] : List (List Value)), okc e := by
    intro e he; simp only [List.mem_cons, List.not_mem_nil, or_false] at he
    rcases he with rfl
    ·exact (Zp rfl Zz)
   refine Zd rfl (Runs_append (i := 2) (n := 1) (es' := [[.string (m[i])]]) Tryz.runUnderlying124 Tryz.runUnderlying124 (Or.inl rfl) el9 rfl rfl rfl hI (fun F w m => Src.row (((At.k 0 rfl (by rw [hk4]; exact List.mem_cons_self))).heap m) (Zy (flatten_len hlens5))) rfl hlens5 hoks5 (by decide) (by simp only [strs_len, List.length_reverse, List.length_drop, List.length_append]; omega) fun v5 k5 ho5 => ?_)
   refine Zd rfl (Zi 1 (vs := [v5]) (l := [v5]) ty124 rfl rfl rfl (cells_one ho5.one) rfl (Zp ho5.one Zz) rfl ?_)
   refine Zb ?_
   exact ⟨(v5, k5), rfl, (Sd (Sk (Sk Sub.nil))), (by rw [List.drop_eq_getElem_cons hi, List.reverse_cons, strs_snoc]; exact ho5)⟩
  rintro v N ⟨s2, rfl, rfl, h2⟩; exact ⟨s2, rfl, rfl, h2⟩
 ·rintro s hI hp
  have hIF := hI
  rw [List.drop_zero] at hIF
  refine Zg (Zc ?_)
  refine Zd rfl (Zh ty124 rfl (At.bx 0 rfl) rfl ?_)
  refine Za (v := v) rfl (Pu.move rfl) ?_
  refine Zd rfl (Runs_append (i := 1) (n := l.length) (es' := strs l) Tryz.runUnderlying124 Tryz.runUnderlying124 (Or.inl rfl) el9 rfl rfl rfl hIF (fun F w m => strs_src hl w _ m) (strs_len _) (strs_len1 _) (strs_ok _) (by decide) (by simp only [strs_len, List.length_reverse, List.length_drop, List.length_append]; omega) fun v6 k6 ho6 => ?_)
  rw [← strs_app] at ho6
  refine Za (v := v6) rfl (Pu.assign rfl) ?_
  refine Zb ?_
  refine Zo ?_
  refine ⟨v6, [k6], Ret.one rfl (RV.tmp rfl), (Sd (Sk Sub.nil)), ?_⟩
  exact ⟨_, _, rfl, rfl, ho6⟩
 intro s _ hp; cases hp
end Go.Proofs.YtdeinimmmjichaaGreat.Hs
/-! Walks, printed by a program of this session's own (gen.py). -/
namespace Go.Proofs.YtdeinimmmjichaaGreat.Hs
open Go Go.Proofs
set_option maxRecDepth 100000
set_option linter.unusedVariables false
set_option linter.unusedSimpArgs false
attribute [local irreducible] JL J CT wlo
theorem chosen1_ct (v : Value) (H : Heap) (hl : rdS RS 1 H v [ltr 0]) : CT Tryz.prog 107 ⟨[v, .int .i64 1]⟩ [] H (fun v N => ∃ u1 u2 k1 k2, v = .tuple ⟨[u1, u2]⟩ ∧ N = [k1, k2] ∧ Own 9 1 u1 (strs [ltr 1, ltr 0]) k1 ∧ Own 9 1 u2 (strs [ltr 1]) k2) := by
 refine Zr Tryz.func107 rfl rfl ?_
 refine Zg (Zc ?_)
 refine Za (v := .slice none 0 0) rfl (Pu.assign rfl) ?_
 refine Za (v := .slice none 0 0) rfl (Pu.assign rfl) ?_
 refine Zb ?_
 refine Zg (Zc ?_)
 refine Za (v := v) rfl (Pu.move rfl) ?_
 obtain ⟨a1, cap1, hv1⟩ := hl.sl
 have hle1 := hl.le
 refine Za (v := .int .i64 1) rfl (Pu.lenSl Tryz.runUnderlying124 hv1) ?_
 refine Za (v := .int .i64 1) rfl (Pu.move rfl) ?_
 refine Za (v := .int .i64 2) rfl (Pu.arith rfl rfl rfl) ?_
 refine Zd rfl (Runs_make 2 Tryz.runUnderlying144 el4 rfl rfl rfl rfl (by decide) (by decide) fun b2 k2 _ hk2 => ?_)
 obtain rfl : k2 = [(b2, .cells ⟨bls (List.replicate 2 false)⟩ 4 (0, 0))] := hk2
 refine Za (v := .slice (some ⟨b2, 0, none⟩) 2 2) rfl (Pu.assign rfl) ?_
 refine Zb ?_
 refine Zg (Zc ?_)
 refine Za (v := .slice (some ⟨b2, 0, none⟩) 2 2) rfl (Pu.move rfl) ?_
 refine Za (v := .func (.func 114) ⟨[.slice (some ⟨b2, 0, none⟩) 2 2]⟩ ⟨[]⟩) rfl (Pu.makeFunc rfl rfl) ?_
 refine Za (v := .func (.func 114) ⟨[.slice (some ⟨b2, 0, none⟩) 2 2]⟩ ⟨[]⟩) rfl (Pu.assign rfl) ?_
 refine Zb ?_
 refine Zg ?_
 refine Zg (Zc ?_)
 refine Za (v := v) rfl (Pu.move rfl) ?_
 obtain ⟨a3, cap3, hv3⟩ := hl.sl
 have hle3 := hl.le
 refine Za (v := .int .i64 1) rfl (Pu.lenSl Tryz.runUnderlying124 hv3) ?_
 refine Za (v := .int .i64 0) rfl (Pu.move rfl) ?_
 refine Zb ?_
 refine Zs ?_
 refine J_rounds 2 ?_
 refine JR_succ ?_
 refine Zg (Zc ?_)
 refine Za (v := .bool true) rfl (show Pu _ _ _ (.bool (decide ((0 : Int) < 1))) from Pu.lss rfl rfl) ?_
 refine Zb ?_
 refine Zg ?_
 refine Zl (b := true) rfl (fun _ => ?_) (fun h => absurd h (by simp))
 refine Zq ?_
 refine Zg ?_
 refine Zs ?_
 refine Zg (Zc ?_)
 obtain ⟨b4, o4, cap4, row4, T4, fr4, cs4, hv4, hb4, hs4, hE4⟩ := hl.get 0 (by first | assumption | omega | decide | simp)
 refine Za (v := .pointer (some ⟨b4, o4 + 0 * 1, none⟩)) rfl (Pu.idx 0 Tryz.runUnderlying124 ty9 hv4 rfl rfl (by first | assumption | omega | decide | simp)) ?_
 refine Zd rfl (Zh ty9 rfl (At.im hb4) (sub_one ((show cs4 = [Value.string (ltr 0)] from hE4) ▸ hs4)) ?_)
 refine Za (v := .string (ltr 0)) rfl (Pu.assign rfl) ?_
 refine Zb ?_
 refine Zc ?_
 refine Za (v := .func (.func 114) ⟨[.slice (some ⟨b2, 0, none⟩) 2 2]⟩ ⟨[]⟩) rfl (Pu.move rfl) ?_
 refine Za (v := .string (ltr 0)) rfl (Pu.move rfl) ?_
 refine JL_call1 0 rfl Tryz.call114 rfl rfl (fun hin => mark_ct 0 2 _ _ _ (by decide) (List.length_replicate ..)) rfl ?_
 rintro _ _ ⟨rfl, rfl⟩
 refine Zb ?_
 refine Zc ?_
 refine Za (v := .int .i64 1) rfl (Pu.arith rfl rfl rfl) ?_
 refine Za (v := .int .i64 1) rfl (Pu.move rfl) ?_
 refine Zb ?_
 refine JR_succ ?_
 refine Zg (Zc ?_)
 refine Za (v := .bool false) rfl (show Pu _ _ _ (.bool (decide ((1 : Int) < 1))) from Pu.lss rfl rfl) ?_
 refine Zb ?_
 refine Zg ?_
 refine Zl (b := false) rfl (fun h => absurd h (by simp)) (fun _ => ?_)
 refine J_exit _ rfl ?_
 refine Zg (Zc ?_)
 refine Za (v := .slice none 0 0) rfl (Pu.assign rfl) ?_
 refine Zb ?_
 refine Zg ?_
 refine Zg (Zc ?_)
 refine Za (v := .int .i64 1) rfl (Pu.move rfl) ?_
 refine Za (v := .int .i64 0) rfl (Pu.move rfl) ?_
 refine Zb ?_
 refine Zs ?_
 refine J_rounds 2 ?_
 refine JR_succ ?_
 refine Zg (Zc ?_)
 refine Za (v := .bool true) rfl (show Pu _ _ _ (.bool (decide ((0 : Int) < 1))) from Pu.lss rfl rfl) ?_
 refine Zb ?_
 refine Zg ?_
 refine Zl (b := true) rfl (fun _ => ?_) (fun h => absurd h (by simp))
 refine Zq ?_
 refine Zg ?_
 refine Zs ?_
 refine Zg (Zc ?_)
 refine Za (v := .slice (some ⟨b2, 0, none⟩) 2 2) rfl (Pu.move rfl) ?_
 refine Zk rfl Tryz.call115 rfl (fun hin => int_r (r := 1) (idxB_ct false _ _ _ _ ((markL_len ..).trans (List.length_replicate ..)) (by decide) (hin 0 _ rfl _ _ List.mem_cons_self)) (by decide)) rfl ?_
 rintro _ _ ⟨rfl, rfl⟩
 refine Za (v := .int .i64 1) rfl (Pu.assign rfl) ?_
 refine Zb ?_
 refine Zg (Zc ?_)
 refine Za (v := .slice none 0 0) rfl (Pu.move rfl) ?_
 refine Za (v := .int .i64 1) rfl (Pu.move rfl) ?_
 refine Zk rfl Tryz.call116 rfl (fun hin => name_ct 1 _ (by decide)) rfl ?_
 rintro _ _ ⟨rfl, rfl⟩
 refine Zd rfl (ZA (vs := [.string (ltr 1)]) [[.string (ltr 1)]] Tryz.runUnderlying71 el9 rfl rfl (by intro e he; simp only [List.mem_cons, List.not_mem_nil, or_false] at he; subst he; exact rfl) rfl (by decide) fun b5 k5 ho5 hk5 => ?_)
 refine Zw (M' := [[], k5, [(b2, .cells ⟨bls (markL 0 (List.replicate 2 false))⟩ 4 (0, 0))]]) (Sub.emp Sub.refl) ?_
 have hlens6 : ∀ e ∈ ([[.string (ltr 1)]] : List (List Value)), List.length e = 1 := by
  intro e he; simp only [List.mem_cons, List.not_mem_nil, or_false] at he
  rcases he with rfl
  ·exact rfl
 have hoks6 : ∀ e ∈ ([[.string (ltr 1)]] : List (List Value)), okc e := by
  intro e he; simp only [List.mem_cons, List.not_mem_nil, or_false] at he
  rcases he with rfl
  ·exact (Zp rfl Zz)
 refine Zd rfl (Runs_append (i := 0) (n := 1) (es' := [[.string (ltr 1)]]) Tryz.runUnderlying71 Tryz.runUnderlying71 (Or.inl rfl) el9 rfl rfl rfl (show Own _ _ _ (strs []) _ from Own.nil) (fun F w m => Src.row (((At.k 1 rfl (by rw [hk5]; exact List.mem_cons_self))).heap m) (Zy (flatten_len hlens6))) rfl hlens6 hoks6 (by decide) (by simp [strs]) fun v6 k6 ho6 => ?_)
 rw [← strs_snoc] at ho6
 refine Za (v := v6) rfl (Pu.assign rfl) ?_
 refine Zb ?_
 refine Zc ?_
 refine Za (v := .slice (some ⟨b2, 0, none⟩) 2 2) rfl (Pu.move rfl) ?_
 refine Za (v := .int .i64 1) rfl (Pu.move rfl) ?_
 refine Za (v := .pointer (some ⟨b2, 0 + 1 * 1, none⟩)) rfl (Pu.idx 1 Tryz.runUnderlying144 ty4 rfl rfl (by omega) (by omega)) ?_
 refine Zd rfl (Zi 2 (vs := [.bool true]) (l := bls ((markL 0 (List.replicate 2 false)).set 1 true)) ty4 rfl rfl rfl rfl rfl (Zp rfl Zz) (bls_set1 (by have hbl : List.length (markL 0 (List.replicate 2 false)) = 2 := ((markL_len ..).trans (List.length_replicate ..)); omega)) ?_)
 refine Zb ?_
 refine Zc ?_
 refine Za (v := .int .i64 1) rfl (Pu.arith rfl rfl rfl) ?_
 refine Za (v := .int .i64 1) rfl (Pu.move rfl) ?_
 refine Zb ?_
 refine JR_succ ?_
 refine Zg (Zc ?_)
 refine Za (v := .bool false) rfl (show Pu _ _ _ (.bool (decide ((1 : Int) < 1))) from Pu.lss rfl rfl) ?_
 refine Zb ?_
 refine Zg ?_
 refine Zl (b := false) rfl (fun h => absurd h (by simp)) (fun _ => ?_)
 refine J_exit _ rfl ?_
 refine Zg (Zc ?_)
 refine Za (v := v) rfl (Pu.move rfl) ?_
 refine Za (v := v6) rfl (Pu.move rfl) ?_
 refine Zk rfl Tryz.call117 rfl (fun hin => with_ct _ _ _ _ _ (RSs.mono (Hle.hu _ _) hl) (own_strs ho6 (by simp) (hin 0 _ rfl)) (by simp)) rfl ?_
 rintro u7 _ ⟨_, k7, hu7, rfl, ho7⟩; subst hu7
 refine Za (v := v6) rfl (Pu.move rfl) ?_
 refine Za (v := u7) rfl (Pu.assign rfl) ?_
 refine Za (v := v6) rfl (Pu.assign rfl) ?_
 refine Zb ?_
 refine Zo ?_
 refine ⟨.tuple ⟨[u7, v6]⟩, [k7, k6], Ret.two rfl (RV.tmp rfl) (RV.tmp rfl), (Sk (Sk Sub.nil)), ?_⟩
 exact ⟨_, _, _, _, rfl, rfl, ho7, ho6⟩
theorem chosen2_ct (v : Value) (H : Heap) (hl : rdS RS 1 H v [ltr 1, ltr 0]) : CT Tryz.prog 107 ⟨[v, .int .i64 1]⟩ [] H (fun v N => ∃ u1 u2 k1 k2, v = .tuple ⟨[u1, u2]⟩ ∧ N = [k1, k2] ∧ Own 9 1 u1 (strs [ltr 2, ltr 1, ltr 0]) k1 ∧ Own 9 1 u2 (strs [ltr 2]) k2) := by
 refine Zr Tryz.func107 rfl rfl ?_
 refine Zg (Zc ?_)
 refine Za (v := .slice none 0 0) rfl (Pu.assign rfl) ?_
 refine Za (v := .slice none 0 0) rfl (Pu.assign rfl) ?_
 refine Zb ?_
 refine Zg (Zc ?_)
 refine Za (v := v) rfl (Pu.move rfl) ?_
 obtain ⟨a1, cap1, hv1⟩ := hl.sl
 have hle1 := hl.le
 refine Za (v := .int .i64 2) rfl (Pu.lenSl Tryz.runUnderlying124 hv1) ?_
 refine Za (v := .int .i64 1) rfl (Pu.move rfl) ?_
 refine Za (v := .int .i64 3) rfl (Pu.arith rfl rfl rfl) ?_
 refine Zd rfl (Runs_make 3 Tryz.runUnderlying144 el4 rfl rfl rfl rfl (by decide) (by decide) fun b2 k2 _ hk2 => ?_)
 obtain rfl : k2 = [(b2, .cells ⟨bls (List.replicate 3 false)⟩ 4 (0, 0))] := hk2
 refine Za (v := .slice (some ⟨b2, 0, none⟩) 3 3) rfl (Pu.assign rfl) ?_
 refine Zb ?_
 refine Zg (Zc ?_)
 refine Za (v := .slice (some ⟨b2, 0, none⟩) 3 3) rfl (Pu.move rfl) ?_
 refine Za (v := .func (.func 114) ⟨[.slice (some ⟨b2, 0, none⟩) 3 3]⟩ ⟨[]⟩) rfl (Pu.makeFunc rfl rfl) ?_
 refine Za (v := .func (.func 114) ⟨[.slice (some ⟨b2, 0, none⟩) 3 3]⟩ ⟨[]⟩) rfl (Pu.assign rfl) ?_
 refine Zb ?_
 refine Zg ?_
 refine Zg (Zc ?_)
 refine Za (v := v) rfl (Pu.move rfl) ?_
 obtain ⟨a3, cap3, hv3⟩ := hl.sl
 have hle3 := hl.le
 refine Za (v := .int .i64 2) rfl (Pu.lenSl Tryz.runUnderlying124 hv3) ?_
 refine Za (v := .int .i64 0) rfl (Pu.move rfl) ?_
 refine Zb ?_
 refine Zs ?_
 refine J_rounds 3 ?_
 refine JR_succ ?_
 refine Zg (Zc ?_)
 refine Za (v := .bool true) rfl (show Pu _ _ _ (.bool (decide ((0 : Int) < 2))) from Pu.lss rfl rfl) ?_
 refine Zb ?_
 refine Zg ?_
 refine Zl (b := true) rfl (fun _ => ?_) (fun h => absurd h (by simp))
 refine Zq ?_
 refine Zg ?_
 refine Zs ?_
 refine Zg (Zc ?_)
 obtain ⟨b4, o4, cap4, row4, T4, fr4, cs4, hv4, hb4, hs4, hE4⟩ := hl.get 0 (by first | assumption | omega | decide | simp)
 refine Za (v := .pointer (some ⟨b4, o4 + 0 * 1, none⟩)) rfl (Pu.idx 0 Tryz.runUnderlying124 ty9 hv4 rfl rfl (by first | assumption | omega | decide | simp)) ?_
 refine Zd rfl (Zh ty9 rfl (At.im hb4) (sub_one ((show cs4 = [Value.string (ltr 1)] from hE4) ▸ hs4)) ?_)
 refine Za (v := .string (ltr 1)) rfl (Pu.assign rfl) ?_
 refine Zb ?_
 refine Zc ?_
 refine Za (v := .func (.func 114) ⟨[.slice (some ⟨b2, 0, none⟩) 3 3]⟩ ⟨[]⟩) rfl (Pu.move rfl) ?_
 refine Za (v := .string (ltr 1)) rfl (Pu.move rfl) ?_
 refine JL_call1 0 rfl Tryz.call114 rfl rfl (fun hin => mark_ct 1 3 _ _ _ (by decide) (List.length_replicate ..)) rfl ?_
 rintro _ _ ⟨rfl, rfl⟩
 refine Zb ?_
 refine Zc ?_
 refine Za (v := .int .i64 1) rfl (Pu.arith rfl rfl rfl) ?_
 refine Za (v := .int .i64 1) rfl (Pu.move rfl) ?_
 refine Zb ?_
 refine JR_succ ?_
 refine Zg (Zc ?_)
 refine Za (v := .bool true) rfl (show Pu _ _ _ (.bool (decide ((1 : Int) < 2))) from Pu.lss rfl rfl) ?_
 refine Zb ?_
 refine Zg ?_
 refine Zl (b := true) rfl (fun _ => ?_) (fun h => absurd h (by simp))
 refine Zq ?_
 refine Zg ?_
 refine Zs ?_
 refine Zg (Zc ?_)
 obtain ⟨b5, o5, cap5, row5, T5, fr5, cs5, hv5, hb5, hs5, hE5⟩ := hl.get 1 (by first | assumption | omega | decide | simp)
 refine Za (v := .pointer (some ⟨b5, o5 + 1 * 1, none⟩)) rfl (Pu.idx 1 Tryz.runUnderlying124 ty9 hv5 rfl rfl (by first | assumption | omega | decide | simp)) ?_
 refine Zd rfl (Zh ty9 rfl (At.im hb5) (sub_one ((show cs5 = [Value.string (ltr 0)] from hE5) ▸ hs5)) ?_)
 refine Za (v := .string (ltr 0)) rfl (Pu.assign rfl) ?_
 refine Zb ?_
 refine Zc ?_
 refine Za (v := .func (.func 114) ⟨[.slice (some ⟨b2, 0, none⟩) 3 3]⟩ ⟨[]⟩) rfl (Pu.move rfl) ?_
 refine Za (v := .string (ltr 0)) rfl (Pu.move rfl) ?_
 refine JL_call1 0 rfl Tryz.call114 rfl rfl (fun hin => mark_ct 0 3 _ _ _ (by decide) ((markL_len ..).trans (List.length_replicate ..))) rfl ?_
 rintro _ _ ⟨rfl, rfl⟩
 refine Zb ?_
 refine Zc ?_
 refine Za (v := .int .i64 2) rfl (Pu.arith rfl rfl rfl) ?_
 refine Za (v := .int .i64 2) rfl (Pu.move rfl) ?_
 refine Zb ?_
 refine JR_succ ?_
 refine Zg (Zc ?_)
 refine Za (v := .bool false) rfl (show Pu _ _ _ (.bool (decide ((2 : Int) < 2))) from Pu.lss rfl rfl) ?_
 refine Zb ?_
 refine Zg ?_
 refine Zl (b := false) rfl (fun h => absurd h (by simp)) (fun _ => ?_)
 refine J_exit _ rfl ?_
 refine Zg (Zc ?_)
 refine Za (v := .slice none 0 0) rfl (Pu.assign rfl) ?_
 refine Zb ?_
 refine Zg ?_
 refine Zg (Zc ?_)
 refine Za (v := .int .i64 1) rfl (Pu.move rfl) ?_
 refine Za (v := .int .i64 0) rfl (Pu.move rfl) ?_
 refine Zb ?_
 refine Zs ?_
 refine J_rounds 2 ?_
 refine JR_succ ?_
 refine Zg (Zc ?_)
 refine Za (v := .bool true) rfl (show Pu _ _ _ (.bool (decide ((0 : Int) < 1))) from Pu.lss rfl rfl) ?_
 refine Zb ?_
 refine Zg ?_
 refine Zl (b := true) rfl (fun _ => ?_) (fun h => absurd h (by simp))
 refine Zq ?_
 refine Zg ?_
 refine Zs ?_
 refine Zg (Zc ?_)
 refine Za (v := .slice (some ⟨b2, 0, none⟩) 3 3) rfl (Pu.move rfl) ?_
 refine Zk rfl Tryz.call115 rfl (fun hin => int_r (r := 2) (idxB_ct false _ _ _ _ ((markL_len ..).trans ((markL_len ..).trans (List.length_replicate ..))) (by decide) (hin 0 _ rfl _ _ List.mem_cons_self)) (by decide)) rfl ?_
 rintro _ _ ⟨rfl, rfl⟩
 refine Za (v := .int .i64 2) rfl (Pu.assign rfl) ?_
 refine Zb ?_
 refine Zg (Zc ?_)
 refine Za (v := .slice none 0 0) rfl (Pu.move rfl) ?_
 refine Za (v := .int .i64 2) rfl (Pu.move rfl) ?_
 refine Zk rfl Tryz.call116 rfl (fun hin => name_ct 2 _ (by decide)) rfl ?_
 rintro _ _ ⟨rfl, rfl⟩
 refine Zd rfl (ZA (vs := [.string (ltr 2)]) [[.string (ltr 2)]] Tryz.runUnderlying71 el9 rfl rfl (by intro e he; simp only [List.mem_cons, List.not_mem_nil, or_false] at he; subst he; exact rfl) rfl (by decide) fun b6 k6 ho6 hk6 => ?_)
 refine Zw (M' := [[], k6, [(b2, .cells ⟨bls (markL 0 (markL 1 (List.replicate 3 false)))⟩ 4 (0, 0))]]) (Sub.emp Sub.refl) ?_
 have hlens7 : ∀ e ∈ ([[.string (ltr 2)]] : List (List Value)), List.length e = 1 := by
  intro e he; simp only [List.mem_cons, List.not_mem_nil, or_false] at he
  rcases he with rfl
  ·exact rfl
 have hoks7 : ∀ e ∈ ([[.string (ltr 2)]] : List (List Value)), okc e := by
  intro e he; simp only [List.mem_cons, List.not_mem_nil, or_false] at he
  rcases he with rfl
  ·exact (Zp rfl Zz)
 refine Zd rfl (Runs_append (i := 0) (n := 1) (es' := [[.string (ltr 2)]]) Tryz.runUnderlying71 Tryz.runUnderlying71 (Or.inl rfl) el9 rfl rfl rfl (show Own _ _ _ (strs []) _ from Own.nil) (fun F w m => Src.row (((At.k 1 rfl (by rw [hk6]; exact List.mem_cons_self))).heap m) (Zy (flatten_len hlens7))) rfl hlens7 hoks7 (by decide) (by simp [strs]) fun v7 k7 ho7 => ?_)
 rw [← strs_snoc] at ho7
 refine Za (v := v7) rfl (Pu.assign rfl) ?_
 refine Zb ?_
 refine Zc ?_
 refine Za (v := .slice (some ⟨b2, 0, none⟩) 3 3) rfl (Pu.move rfl) ?_
 refine Za (v := .int .i64 2) rfl (Pu.move rfl) ?_
 refine Za (v := .pointer (some ⟨b2, 0 + 2 * 1, none⟩)) rfl (Pu.idx 2 Tryz.runUnderlying144 ty4 rfl rfl (by omega) (by omega)) ?_
 refine Zd rfl (Zi 2 (vs := [.bool true]) (l := bls ((markL 0 (markL 1 (List.replicate 3 false))).set 2 true)) ty4 rfl rfl rfl rfl rfl (Zp rfl Zz) (bls_set1 (by have hbl : List.length (markL 0 (markL 1 (List.replicate 3 false))) = 3 := ((markL_len ..).trans ((markL_len ..).trans (List.length_replicate ..))); omega)) ?_)
 refine Zb ?_
 refine Zc ?_
 refine Za (v := .int .i64 1) rfl (Pu.arith rfl rfl rfl) ?_
 refine Za (v := .int .i64 1) rfl (Pu.move rfl) ?_
 refine Zb ?_
 refine JR_succ ?_
 refine Zg (Zc ?_)
 refine Za (v := .bool false) rfl (show Pu _ _ _ (.bool (decide ((1 : Int) < 1))) from Pu.lss rfl rfl) ?_
 refine Zb ?_
 refine Zg ?_
 refine Zl (b := false) rfl (fun h => absurd h (by simp)) (fun _ => ?_)
 refine J_exit _ rfl ?_
 refine Zg (Zc ?_)
 refine Za (v := v) rfl (Pu.move rfl) ?_
 refine Za (v := v7) rfl (Pu.move rfl) ?_
 refine Zk rfl Tryz.call117 rfl (fun hin => with_ct _ _ _ _ _ (RSs.mono (Hle.hu _ _) hl) (own_strs ho7 (by simp) (hin 0 _ rfl)) (by simp)) rfl ?_
 rintro u8 _ ⟨_, k8, hu8, rfl, ho8⟩; subst hu8
 refine Za (v := v7) rfl (Pu.move rfl) ?_
 refine Za (v := u8) rfl (Pu.assign rfl) ?_
 refine Za (v := v7) rfl (Pu.assign rfl) ?_
 refine Zb ?_
 refine Zo ?_
 refine ⟨.tuple ⟨[u8, v7]⟩, [k8, k7], Ret.two rfl (RV.tmp rfl) (RV.tmp rfl), (Sk (Sk Sub.nil)), ?_⟩
 exact ⟨_, _, _, _, rfl, rfl, ho8, ho7⟩
end Go.Proofs.YtdeinimmmjichaaGreat.Hs
/-! Walks, printed by a program of this session's own (gen.py). -/
namespace Go.Proofs.YtdeinimmmjichaaGreat.Hs
open Go Go.Proofs
set_option maxRecDepth 100000
set_option linter.unusedVariables false
set_option linter.unusedSimpArgs false
attribute [local irreducible] JL J CT wlo
set_option maxHeartbeats 1000000 in
theorem named_va : ∀ (cs : List Value) (v : Value) (H : Heap), RT H cs (Tm.mk 1 1 zS [] []) → rdS RS 1 H v [ltr 2, ltr 1, ltr 0] → CT Tryz.prog 86 ⟨[.agg ⟨cs⟩, v]⟩ [] H (fun v N => ∃ cs k, v = .agg ⟨cs⟩ ∧ N = [k] ∧ NC [] cs k) := by
 intro cs v H ht hl
 obtain ⟨ks, cv, rfl, _, _, hks, hcv⟩ := RT_mk.1 ht
 refine Zr Tryz.func86 rfl rfl ?_
 refine Zg (Zc ?_)
 refine Zd rfl (Zx (l := pkT 1 1 zS ks cv) rfl rfl fun b1 => ?_)
 refine Zd rfl (Zn (l := (pkT 0 0 zS (.slice none 0 0) (.slice none 0 0)) ++ ([.slice none 0 0] : List Value)) Tryz.zeroValue75 rfl fun b2 => ?_)
 refine Zb ?_
 refine Zg (Zc ?_)
 refine Za (v := .pointer (some ⟨b1, 0, none⟩)) rfl (fa27_0 rfl rfl) ?_
 refine Zd rfl (Zh ty3 rfl (At.bx 1 rfl) (pkT_0 ..) ?_)
 refine Za (v := .pointer (some ⟨b1, 1, none⟩)) rfl (fa27_1 rfl rfl) ?_
 refine Zd rfl (Zh ty3 rfl (At.bx 1 rfl) (pkT_1 ..) ?_)
 refine Za (v := .pointer (some ⟨b1, 2, none⟩)) rfl (fa27_2 rfl rfl) ?_
 refine Zd rfl (Zj ty23 rfl (At.bx 1 rfl) (pkT_2 ..) ?_)
 refine Za (v := .agg ⟨(pkT 1 1 zS (.slice none 0 0) (.slice none 0 0)) ++ ([.slice none 0 0] : List Value)⟩) rfl (Pu.build (pv := [(0, .int .i64 1), (1, .int .i64 1), (2, .agg ⟨sC zS⟩)]) (l := (pkT 1 1 zS (.slice none 0 0) (.slice none 0 0)) ++ ([.slice none 0 0] : List Value)) rfl (bld75_0_1_2 _ _ _)) ?_
 refine Zd rfl (Zn (l := (pkT 0 0 zS (.slice none 0 0) (.slice none 0 0)) ++ ([.slice none 0 0] : List Value)) Tryz.zeroValue75 rfl fun b3 => ?_)
 refine Zd rfl (Zi 0 (vs := (pkT 1 1 zS (.slice none 0 0) (.slice none 0 0)) ++ ([.slice none 0 0] : List Value)) (l := (pkT 1 1 zS (.slice none 0 0) (.slice none 0 0)) ++ ([.slice none 0 0] : List Value)) ty75 rfl rfl rfl rfl rfl (okc_app (pkT_ok rfl rfl) (Zp rfl Zz)) (spl_a (n := 37) rfl rfl) ?_)
 refine Zb ?_
 refine Zg ?_
 refine Zg (Zc ?_)
 refine Za (v := .pointer (some ⟨b1, 0, none⟩)) rfl (fa27_0 rfl rfl) ?_
 refine Zd rfl (Zh ty3 rfl (At.bx 2 rfl) (pkT_0 ..) ?_)
 refine Za (v := .bool true) rfl (show Pu _ _ _ (.bool (decide ((1 : Int) = 1))) from Pu.eql rfl rfl) ?_
 refine Zb ?_
 refine Zl (b := true) rfl (fun _ => ?_) (fun h => absurd h (by simp))
 obtain ⟨b5, o5, cap5, row5, T5, fr5, cs5, hv5, hb5, hs5, hE5⟩ := hl.get 1 (by first | assumption | omega | decide | simp)
 refine J_draw mixed #[0, 0, 2, 7, 15, 31, 0, 64, 255, 511] 8 7 0 rfl (by kernel_rfl) (fun i r4 N4 => match i with | 0 => (r4 0) = v | 1 => (r4 1) = .pointer (some ⟨b1, 1, none⟩) | 2 => (r4 2) = .int .i64 1 | 3 => (r4 3) = .pointer (some ⟨b5, o5 + 1 * 1, none⟩) | 4 => (r4 4) = .string (ltr 1) | 5 => (r4 5) = .slice (some ⟨(sblk (r4 5)), 0, none⟩) 1 1 ∧ (N4 5) = [(sblk (r4 5), .cells ⟨List.flatten [[.string (ltr 1)]]⟩ 9 (0, 0))] ∧ Own 9 1 (.slice (some ⟨(sblk (r4 5)), 0, none⟩) 1 1) [[.string (ltr 1)]] (N4 5) | 6 => (r4 6) = .pointer (some ⟨b3, 1, none⟩) | 7 => (N4 7) = [(b3, .cells ⟨(pkT 1 0 zS (.slice none 0 0) (.slice none 0 0)) ++ ([.slice none 0 0] : List Value)⟩ 75 (0, 0))] | _ => True) ⟨?_, ?_, ?_, ?_, ?_, ?_, ?_, ?_, trivial⟩ ?_
 ·intro ρ r4 N4 B hB hBa hp hr hr0
  have q1 : ρ 1 = v := hr0 1 (by kernel_rfl)
  obtain ⟨ρ6, rfl⟩ := Ze (uc q1 un)
  clear q1
  refine Za (v := v) rfl (Pu.move rfl) ?_
  refine Zb ?_
  exact ⟨v, [], rfl, (Sub.emp Sub.refl), rfl⟩
 ·intro ρ r4 N4 B hB hBa hp hr hr0
  have q2 : ρ 2 = .pointer (some ⟨b1, 0, none⟩) := hr0 2 (by kernel_rfl)
  obtain ⟨ρ7, rfl⟩ := Ze (uc q2 un)
  clear q2
  refine Za (v := .pointer (some ⟨b1, 1, none⟩)) rfl (fa27_1 rfl rfl) ?_
  refine Zb ?_
  exact ⟨.pointer (some ⟨b1, 1, none⟩), [], rfl, (Sub.emp Sub.refl), rfl⟩
 ·intro ρ r4 N4 B hB hBa hp hr hr0
  have q25 : ρ 25 = .pointer (some ⟨b1, 1, none⟩) := (hr 1 _ _ (by decide) rfl rfl rfl).trans (hp 1 (by decide) rfl)
  obtain ⟨ρ8, rfl⟩ := Ze (uc q25 un)
  clear q25
  refine Zd rfl (Zh ty3 rfl (At.bx 10 (Zu ((hB 2 (by decide)).trans rfl))) (pkT_1 ..) ?_)
  refine Zb ?_
  exact ⟨.int .i64 1, [], rfl, (Sub.emp Sub.refl), rfl⟩
 ·intro ρ r4 N4 B hB hBa hp hr hr0
  have q24 : ρ 24 = v := (hr 0 _ _ (by decide) rfl rfl rfl).trans (hp 0 (by decide) rfl)
  have q26 : ρ 26 = .int .i64 1 := (hr 2 _ _ (by decide) rfl rfl rfl).trans (hp 2 (by decide) rfl)
  obtain ⟨ρ9, rfl⟩ := Ze (uc q24 (uc q26 un))
  clear q24 q26
  refine Za (v := .pointer (some ⟨b5, o5 + 1 * 1, none⟩)) rfl (Pu.idx 1 Tryz.runUnderlying124 ty9 hv5 rfl rfl (by first | assumption | omega | decide | simp)) ?_
  refine Zb ?_
  exact ⟨.pointer (some ⟨b5, o5 + 1 * 1, none⟩), [], rfl, (Sub.emp Sub.refl), rfl⟩
 ·intro ρ r4 N4 B hB hBa hp hr hr0
  have q27 : ρ 27 = .pointer (some ⟨b5, o5 + 1 * 1, none⟩) := (hr 3 _ _ (by decide) rfl rfl rfl).trans (hp 3 (by decide) rfl)
  obtain ⟨ρ10, rfl⟩ := Ze (uc q27 un)
  clear q27
  refine Zd rfl (Zh ty9 rfl (At.im hb5) (sub_one ((show cs5 = [Value.string (ltr 1)] from hE5) ▸ hs5)) ?_)
  refine Zb ?_
  exact ⟨.string (ltr 1), [], rfl, (Sub.emp Sub.refl), rfl⟩
 ·intro ρ r4 N4 B hB hBa hp hr hr0
  have q28 : ρ 28 = .string (ltr 1) := (hr 4 _ _ (by decide) rfl rfl rfl).trans (hp 4 (by decide) rfl)
  obtain ⟨ρ11, rfl⟩ := Ze (uc q28 un)
  clear q28
  refine Zd rfl (ZA (vs := [.string (ltr 1)]) [[.string (ltr 1)]] Tryz.runUnderlying71 el9 rfl rfl (by intro e he; simp only [List.mem_cons, List.not_mem_nil, or_false] at he; subst he; exact rfl) rfl (by decide) fun b12 k12 ho12 hk12 => ?_)
  refine Zb ?_
  exact ⟨.slice (some ⟨b12, 0, none⟩) 1 1, k12, rfl, Sub.refl, ⟨rfl, hk12, ho12⟩⟩
 ·intro ρ r4 N4 B hB hBa hp hr hr0
  have q5 : ρ 5 = .pointer (some ⟨b3, 0, none⟩) := hr0 5 (by kernel_rfl)
  obtain ⟨ρ13, rfl⟩ := Ze (uc q5 un)
  clear q5
  refine Za (v := .pointer (some ⟨b3, 1, none⟩)) rfl (fa75_1 rfl rfl) ?_
  refine Zb ?_
  exact ⟨.pointer (some ⟨b3, 1, none⟩), [], rfl, (Sub.emp Sub.refl), rfl⟩
 ·intro ρ r4 N4 B hB hBa hp hr hr0
  have q30 : ρ 30 = .pointer (some ⟨b3, 1, none⟩) := (hr 6 _ _ (by decide) rfl rfl rfl).trans (hp 6 (by decide) rfl)
  obtain ⟨ρ14, rfl⟩ := Ze (uc q30 un)
  clear q30
  obtain rfl := hBa rfl
  refine Zd rfl (Zi 8 (vs := [.int .i64 0]) (l := (pkT 1 0 zS (.slice none 0 0) (.slice none 0 0)) ++ ([.slice none 0 0] : List Value)) ty3 rfl rfl rfl rfl rfl (Zp rfl Zz) (spl_l (pkT_s1 ..)) ?_)
  refine Zb ?_
  exact ⟨undef, [(b3, .cells ⟨(pkT 1 0 zS (.slice none 0 0) (.slice none 0 0)) ++ ([.slice none 0 0] : List Value)⟩ 75 (0, 0))], rfl, (Sub_setB (k := 8) (a := 7) (p := 0)), rfl⟩
 intro ρ r4 N4 hp hr hr0
 have p5 : (r4 5) = .slice (some ⟨(sblk (r4 5)), 0, none⟩) 1 1 ∧ (N4 5) = [(sblk (r4 5), .cells ⟨List.flatten [[.string (ltr 1)]]⟩ 9 (0, 0))] ∧ Own 9 1 (.slice (some ⟨(sblk (r4 5)), 0, none⟩) 1 1) [[.string (ltr 1)]] (N4 5) := hp 5 (by decide)
 have p7 : (N4 7) = [(b3, .cells ⟨(pkT 1 0 zS (.slice none 0 0) (.slice none 0 0)) ++ ([.slice none 0 0] : List Value)⟩ 75 (0, 0))] := hp 7 (by decide)
 have q1 : ρ 1 = v := hr0 1 (by kernel_rfl)
 have q2 : ρ 2 = .pointer (some ⟨b1, 0, none⟩) := hr0 2 (by kernel_rfl)
 have q4 : ρ 4 = .pointer (some ⟨b2, 0, none⟩) := hr0 4 (by kernel_rfl)
 have q5 : ρ 5 = .pointer (some ⟨b3, 0, none⟩) := hr0 5 (by kernel_rfl)
 have q29 : ρ 29 = .slice (some ⟨(sblk (r4 5)), 0, none⟩) 1 1 := (hr 5 _ _ (by decide) rfl rfl).trans p5.1
 obtain ⟨ρ15, rfl⟩ := Ze (uc q1 (uc q2 (uc q4 (uc q5 (uc q29 un)))))
 clear q1 q2 q4 q5 q29
 have p4_5 := p5; have p4_7 := p7
 clear hp hr hr0 p5 p7
 refine Zw (M' := [(N4 0), (N4 1), (N4 2), (N4 3), (N4 4), (N4 5), (N4 6), [], (N4 7), [(b2, .cells ⟨(pkT 0 0 zS (.slice none 0 0) (.slice none 0 0)) ++ ([.slice none 0 0] : List Value)⟩ 75 (0, 0))], [(b1, .cells ⟨pkT 1 1 zS ks cv⟩ 27 (0, 0))]]) Sub.refl ?_
 refine Zw (M' := [(N4 5), [(b3, .cells ⟨(pkT 1 0 zS (.slice none 0 0) (.slice none 0 0)) ++ ([.slice none 0 0] : List Value)⟩ 75 (0, 0))], [(b2, .cells ⟨(pkT 0 0 zS (.slice none 0 0) (.slice none 0 0)) ++ ([.slice none 0 0] : List Value)⟩ 75 (0, 0))], [(b1, .cells ⟨pkT 1 1 zS ks cv⟩ 27 (0, 0))]]) (Sd (Sd (Sd (Sd (Sd (Sk (Sd (Sd (Se p4_7 (Sk (Sk Sub.nil))))))))))) ?_
 show JL _ _ _ [_, _] _ _ _
 refine Za (v := .pointer (some ⟨b3, 34, none⟩)) rfl (fa75_3 rfl rfl) ?_
 refine Zd rfl (Zi 1 (vs := [.slice (some ⟨(sblk (r4 5)), 0, none⟩) 1 1]) (l := (pkT 1 0 zS (.slice (some ⟨(sblk (r4 5)), 0, none⟩) 1 1) (.slice none 0 0)) ++ ([.slice none 0 0] : List Value)) ty71 rfl rfl rfl rfl rfl (Zp rfl Zz) (spl_l (pkT_s34 ..)) ?_)
 refine Zb ?_
 refine Zg ?_
 refine Zg (Zc ?_)
 refine Za (v := .pointer (some ⟨b1, 34, none⟩)) rfl (fa27_3 rfl rfl) ?_
 refine Zd rfl (Zh ty24 rfl (At.bx 3 rfl) (pkT_34 ..) ?_)
 obtain ⟨a16, cap16, hv16⟩ := hks.sl
 have hle16 := hks.le
 refine Za (v := .int .i64 0) rfl (Pu.lenSl Tryz.runUnderlying24 hv16) ?_
 refine Za (v := .int .i64 0) rfl (Pu.move rfl) ?_
 refine Zb ?_
 refine Zs ?_
 refine J_rounds 1 ?_
 refine JR_succ ?_
 refine Zg (Zc ?_)
 refine Za (v := .bool false) rfl (show Pu _ _ _ (.bool (decide ((0 : Int) < 0))) from Pu.lss rfl rfl) ?_
 refine Zb ?_
 refine Zg ?_
 refine Zl (b := false) rfl (fun h => absurd h (by simp)) (fun _ => ?_)
 refine J_exit _ rfl ?_
 refine Zg ?_
 refine Zg (Zc ?_)
 refine Za (v := .pointer (some ⟨b1, 35, none⟩)) rfl (fa27_4 rfl rfl) ?_
 refine Zd rfl (Zh ty25 rfl (At.bx 3 rfl) (pkT_35 ..) ?_)
 obtain ⟨a17, cap17, hv17⟩ := hcv.sl
 have hle17 := hcv.le
 refine Za (v := .int .i64 0) rfl (Pu.lenSl Tryz.runUnderlying25 hv17) ?_
 refine Za (v := .int .i64 0) rfl (Pu.move rfl) ?_
 refine Zb ?_
 refine Zs ?_
 refine J_rounds 1 ?_
 refine JR_succ ?_
 refine Zg (Zc ?_)
 refine Za (v := .bool false) rfl (show Pu _ _ _ (.bool (decide ((0 : Int) < 0))) from Pu.lss rfl rfl) ?_
 refine Zb ?_
 refine Zg ?_
 refine Zl (b := false) rfl (fun h => absurd h (by simp)) (fun _ => ?_)
 refine J_exit _ rfl ?_
 refine Zg (Zc ?_)
 refine Zd rfl (Zj ty75 rfl (At.bx 1 rfl) (Zy rfl) ?_)
 refine Zd rfl (Zi 2 (vs := (pkT 1 0 zS (.slice (some ⟨(sblk (r4 5)), 0, none⟩) 1 1) (.slice none 0 0)) ++ ([.slice none 0 0] : List Value)) (l := (pkT 1 0 zS (.slice (some ⟨(sblk (r4 5)), 0, none⟩) 1 1) (.slice none 0 0)) ++ ([.slice none 0 0] : List Value)) ty75 rfl rfl rfl rfl rfl (okc_app (pkT_ok rfl rfl) (Zp rfl Zz)) (spl_a (n := 37) rfl rfl) ?_)
 refine Zb ?_
 refine Zo ?_
 refine ⟨.agg ⟨(pkT 1 0 zS (.slice (some ⟨(sblk (r4 5)), 0, none⟩) 1 1) (.slice none 0 0)) ++ ([.slice none 0 0] : List Value)⟩, [[]], Ret.one rfl (RV.cell ty75 rfl (At.bx 2 rfl) (Zy rfl)), (Sub.emp Sub.nil), ?_⟩
 exact ⟨_, _, rfl, rfl, rfl, (okc_app (pkT_ok rfl rfl) (Zp rfl Zz))⟩
set_option maxHeartbeats 1000000 in
theorem named1_ct : ∀ (cs : List Value) (v : Value) (H : Heap), RT H cs (Tm.mk 3 0 zS [Tm.mk 1 1 zS [] []] []) → rdS RS 1 H v [ltr 1, ltr 0] → CT Tryz.prog 86 ⟨[.agg ⟨cs⟩, v]⟩ [] H (fun v N => ∃ cs k, v = .agg ⟨cs⟩ ∧ N = [k] ∧ NC [[ltr 2]] cs k) := by
 intro cs v H ht hl
 obtain ⟨ks, cv, rfl, _, _, hks, hcv⟩ := RT_mk.1 ht
 refine Zr Tryz.func86 rfl rfl ?_
 refine Zg (Zc ?_)
 refine Zd rfl (Zx (l := pkT 3 0 zS ks cv) rfl rfl fun b1 => ?_)
 refine Zd rfl (Zn (l := (pkT 0 0 zS (.slice none 0 0) (.slice none 0 0)) ++ ([.slice none 0 0] : List Value)) Tryz.zeroValue75 rfl fun b2 => ?_)
 refine Zb ?_
 refine Zg (Zc ?_)
 refine Za (v := .pointer (some ⟨b1, 0, none⟩)) rfl (fa27_0 rfl rfl) ?_
 refine Zd rfl (Zh ty3 rfl (At.bx 1 rfl) (pkT_0 ..) ?_)
 refine Za (v := .pointer (some ⟨b1, 1, none⟩)) rfl (fa27_1 rfl rfl) ?_
 refine Zd rfl (Zh ty3 rfl (At.bx 1 rfl) (pkT_1 ..) ?_)
 refine Za (v := .pointer (some ⟨b1, 2, none⟩)) rfl (fa27_2 rfl rfl) ?_
 refine Zd rfl (Zj ty23 rfl (At.bx 1 rfl) (pkT_2 ..) ?_)
 refine Za (v := .agg ⟨(pkT 3 0 zS (.slice none 0 0) (.slice none 0 0)) ++ ([.slice none 0 0] : List Value)⟩) rfl (Pu.build (pv := [(0, .int .i64 3), (1, .int .i64 0), (2, .agg ⟨sC zS⟩)]) (l := (pkT 3 0 zS (.slice none 0 0) (.slice none 0 0)) ++ ([.slice none 0 0] : List Value)) rfl (bld75_0_1_2 _ _ _)) ?_
 refine Zd rfl (Zn (l := (pkT 0 0 zS (.slice none 0 0) (.slice none 0 0)) ++ ([.slice none 0 0] : List Value)) Tryz.zeroValue75 rfl fun b3 => ?_)
 refine Zd rfl (Zi 0 (vs := (pkT 3 0 zS (.slice none 0 0) (.slice none 0 0)) ++ ([.slice none 0 0] : List Value)) (l := (pkT 3 0 zS (.slice none 0 0) (.slice none 0 0)) ++ ([.slice none 0 0] : List Value)) ty75 rfl rfl rfl rfl rfl (okc_app (pkT_ok rfl rfl) (Zp rfl Zz)) (spl_a (n := 37) rfl rfl) ?_)
 refine Zb ?_
 refine Zg ?_
 refine Zg (Zc ?_)
 refine Za (v := .pointer (some ⟨b1, 0, none⟩)) rfl (fa27_0 rfl rfl) ?_
 refine Zd rfl (Zh ty3 rfl (At.bx 2 rfl) (pkT_0 ..) ?_)
 refine Za (v := .bool false) rfl (show Pu _ _ _ (.bool (decide ((3 : Int) = 1))) from Pu.eql rfl rfl) ?_
 refine Zb ?_
 refine Zl (b := false) rfl (fun h => absurd h (by simp)) (fun _ => ?_)
 refine Zq ?_
 refine Zg ?_
 refine Zg (Zc ?_)
 refine Za (v := .pointer (some ⟨b1, 34, none⟩)) rfl (fa27_3 rfl rfl) ?_
 refine Zd rfl (Zh ty24 rfl (At.bx 2 rfl) (pkT_34 ..) ?_)
 obtain ⟨a4, cap4, hv4⟩ := hks.sl
 have hle4 := hks.le
 refine Za (v := .int .i64 1) rfl (Pu.lenSl Tryz.runUnderlying24 hv4) ?_
 refine Za (v := .int .i64 0) rfl (Pu.move rfl) ?_
 refine Zb ?_
 refine Zs ?_
 refine J_rounds 2 ?_
 refine JR_succ ?_
 refine Zg (Zc ?_)
 refine Za (v := .bool true) rfl (show Pu _ _ _ (.bool (decide ((0 : Int) < 1))) from Pu.lss rfl rfl) ?_
 refine Zb ?_
 refine Zg ?_
 refine Zl (b := true) rfl (fun _ => ?_) (fun h => absurd h (by simp))
 refine Zq ?_
 refine Zg ?_
 refine Zs ?_
 refine Zg (Zc ?_)
 refine Za (v := .int .i64 0) rfl (Pu.move rfl) ?_
 obtain ⟨b5, o5, cap5, row5, T5, fr5, cs5, hv5, hb5, hs5, hE5⟩ := hks.get 0 (by first | assumption | omega | decide | simp)
 refine Za (v := .pointer (some ⟨b5, o5 + 0 * 36, none⟩)) rfl (Pu.idx 0 Tryz.runUnderlying24 Zt hv5 rfl rfl (by first | assumption | omega | decide | simp)) ?_
 refine Zd rfl (Zj Zt rfl (At.im hb5) hs5 ?_)
 refine Zd rfl (Zn (l := pkT 0 0 zS (.slice none 0 0) (.slice none 0 0)) Tryz.zeroValue27 rfl fun b6 => ?_)
 refine Za (v := .int .i64 0) rfl (Pu.assign rfl) ?_
 refine Zd rfl (Zi 0 (vs := cs5) (l := cs5) Zt rfl rfl rfl rfl (Zv hE5) (RT_ok hE5) (spl_a (n := 36) rfl (Zv hE5)) ?_)
 refine Zb ?_
 refine Zg (Zc ?_)
 refine Za (v := v) rfl (Pu.move rfl) ?_
 refine Za (v := .pointer (some ⟨b1, 0, none⟩)) rfl (fa27_0 rfl rfl) ?_
 refine Zd rfl (Zh ty3 rfl (At.bx 3 rfl) (pkT_0 ..) ?_)
 refine Za (v := .int .i64 0) rfl (Pu.move rfl) ?_
 refine Zk rfl Tryz.call101 rfl (fun hin => int_r (r := 1) (more_ct _ _ _) (by decide)) rfl ?_
 rintro _ _ ⟨rfl, rfl⟩
 refine Zk rfl Tryz.call107 rfl (fun hin => chosen2_ct _ _ (RSs.mono (Hle.hu _ _) hl)) rfl ?_
 rintro _ _ ⟨ua7, ub7, ka7, kb7, rfl, rfl, hoa7, hob7⟩
 refine Za (v := .tuple ⟨[ua7, ub7]⟩) rfl (Pu.move rfl) ?_
 refine Za (v := ua7) rfl (Pu.extract rfl rfl) ?_
 refine Za (v := ub7) rfl (Pu.extract rfl rfl) ?_
 refine Za (v := ua7) rfl (Pu.assign rfl) ?_
 refine Za (v := ub7) rfl (Pu.assign rfl) ?_
 refine Zb ?_
 refine Zg (Zc ?_)
 refine Za (v := .pointer (some ⟨b3, 34, none⟩)) rfl (fa75_3 rfl rfl) ?_
 refine Zd rfl (Zh ty71 rfl (At.bx 3 rfl) (get_l (pkT_34 ..)) ?_)
 refine Za (v := ub7) rfl (Pu.move rfl) ?_
 refine Zw (M' := [[], ka7, kb7, [(b6, .cells ⟨cs5⟩ 27 (0, 0))], [(b3, .cells ⟨(pkT 3 0 zS (.slice none 0 0) (.slice none 0 0)) ++ ([.slice none 0 0] : List Value)⟩ 75 (0, 0))], [(b2, .cells ⟨(pkT 0 0 zS (.slice none 0 0) (.slice none 0 0)) ++ ([.slice none 0 0] : List Value)⟩ 75 (0, 0))], [(b1, .cells ⟨pkT 3 0 zS ks cv⟩ 27 (0, 0))]]) (Sub.emp Sub.refl) ?_
 refine Zd rfl (Runs_append (i := 0) (n := ([ltr 2]).length) (es' := strs ([ltr 2])) Tryz.runUnderlying71 Tryz.runUnderlying71 (Or.inl rfl) el9 rfl rfl rfl (show Own _ _ _ (strs []) _ from Own.nil) (own_src (i := 2) hob7 rfl) (strs_len _) (strs_len1 _) (strs_ok _) (by decide) (by simp [strs]) fun v8 k8 ho8 => ?_)
 rw [← strs_app] at ho8
 refine Za (v := .pointer (some ⟨b3, 34, none⟩)) rfl (fa75_3 rfl rfl) ?_
 refine Zd rfl (Zi 4 (vs := [v8]) (l := (pkT 3 0 zS v8 (.slice none 0 0)) ++ ([.slice none 0 0] : List Value)) ty71 rfl rfl rfl (cells_one ho8.one) rfl (Zp ho8.one Zz) (spl_l (pkT_s34 ..)) ?_)
 refine Zb ?_
 refine J_draw mixed #[0, 1, 0, 0, 12, 28, 63, 127, 255] 6 6 7 rfl (by kernel_rfl) (fun i r9 N9 => match i with | 0 => (r9 0) = .pointer (some ⟨b3, 35, none⟩) | 1 => (r9 1) = .slice none 0 0 | 2 => (r9 2) = .agg ⟨cs5⟩ | 3 => (r9 3) = ua7 | 4 => (r9 4) = .agg ⟨(cel (r9 4))⟩ ∧ NC ([]) (cel (r9 4)) (N9 4) | 5 => (r9 5) = .slice (some ⟨(sblk (r9 5)), 0, none⟩) 1 1 ∧ (N9 5) = [(sblk (r9 5), .cells ⟨List.flatten [(cel (r9 4))]⟩ 75 (0, 0))] ∧ Own 75 37 (.slice (some ⟨(sblk (r9 5)), 0, none⟩) 1 1) [(cel (r9 4))] (N9 5) | _ => True) ⟨?_, ?_, ?_, ?_, ?_, ?_, trivial⟩ ?_
 ·intro ρ r9 N9 B hB hBa hp hr hr0
  have q5 : ρ 5 = .pointer (some ⟨b3, 0, none⟩) := hr0 5 (by kernel_rfl)
  obtain ⟨ρ10, rfl⟩ := Ze (uc q5 un)
  clear q5
  refine Za (v := .pointer (some ⟨b3, 35, none⟩)) rfl (fa75_4 rfl rfl) ?_
  refine Zb ?_
  exact ⟨.pointer (some ⟨b3, 35, none⟩), [], rfl, (Sub.emp Sub.refl), rfl⟩
 ·intro ρ r9 N9 B hB hBa hp hr hr0
  have q54 : ρ 54 = .pointer (some ⟨b3, 35, none⟩) := (hr 0 _ _ (by decide) rfl rfl rfl).trans (hp 0 (by decide) rfl)
  obtain ⟨ρ11, rfl⟩ := Ze (uc q54 un)
  clear q54
  refine Zd rfl (Zh ty72 rfl (At.bx 10 (Zu ((hB 4 (by decide)).trans rfl))) (get_l (pkT_35 ..)) ?_)
  refine Zb ?_
  exact ⟨.slice none 0 0, [], rfl, (Sub.emp Sub.refl), rfl⟩
 ·intro ρ r9 N9 B hB hBa hp hr hr0
  have q7 : ρ 7 = .pointer (some ⟨b6, 0, none⟩) := hr0 7 (by kernel_rfl)
  obtain ⟨ρ12, rfl⟩ := Ze (uc q7 un)
  clear q7
  refine Zd rfl (Zj Zt rfl (At.bx 9 (Zu ((hB 3 (by decide)).trans rfl))) (Zy (Zv hE5)) ?_)
  refine Zb ?_
  exact ⟨.agg ⟨cs5⟩, [], rfl, (Sub.emp Sub.refl), rfl⟩
 ·intro ρ r9 N9 B hB hBa hp hr hr0
  have q8 : ρ 8 = ua7 := hr0 8 (by kernel_rfl)
  obtain ⟨ρ13, rfl⟩ := Ze (uc q8 un)
  clear q8
  refine Za (v := ua7) rfl (Pu.move rfl) ?_
  refine Zb ?_
  exact ⟨ua7, [], rfl, (Sub.emp Sub.refl), rfl⟩
 ·intro ρ r9 N9 B hB hBa hp hr hr0
  have q56 : ρ 56 = .agg ⟨cs5⟩ := (hr 2 _ _ (by decide) rfl rfl rfl).trans (hp 2 (by decide) rfl)
  have q57 : ρ 57 = ua7 := (hr 3 _ _ (by decide) rfl rfl rfl).trans (hp 3 (by decide) rfl)
  obtain ⟨ρ14, rfl⟩ := Ze (uc q56 (uc q57 un))
  clear q56 q57
  refine Zk rfl Tryz.call86 rfl (fun hin => named_va _ _ _ (RT.mono (Hle.hu _ _) hE5) (own_strs hoa7 (by simp) (hin 7 _ (Zu ((hB 1 (by decide)).trans rfl))))) rfl ?_
  rintro _ _ ⟨cs15, k15, rfl, rfl, hO15⟩
  refine Zb ?_
  exact ⟨.agg ⟨cs15⟩, k15, rfl, Sub.refl, ⟨rfl, hO15⟩⟩
 ·intro ρ r9 N9 B hB hBa hp hr hr0
  have p4 : (r9 4) = .agg ⟨(cel (r9 4))⟩ ∧ NC ([]) (cel (r9 4)) (N9 4) := hp 4 (by decide) rfl
  have q58 : ρ 58 = .agg ⟨(cel (r9 4))⟩ := (hr 4 _ _ (by decide) rfl rfl rfl).trans p4.1
  obtain ⟨ρ16, rfl⟩ := Ze (uc q58 un)
  clear q58
  refine Zd rfl (ZA (vs := [.agg ⟨(cel (r9 4))⟩]) [(cel (r9 4))] Tryz.runUnderlying72 el75 rfl rfl (by intro e he; simp only [List.mem_cons, List.not_mem_nil, or_false] at he; subst he; exact p4.2.len) rfl (by decide) fun b17 k17 ho17 hk17 => ?_)
  refine Zb ?_
  exact ⟨.slice (some ⟨b17, 0, none⟩) 1 1, k17, rfl, Sub.refl, ⟨rfl, hk17, ho17⟩⟩
 intro ρ r9 N9 hp hr hr0
 have p4 : (r9 4) = .agg ⟨(cel (r9 4))⟩ ∧ NC ([]) (cel (r9 4)) (N9 4) := hp 4 (by decide)
 have p5 : (r9 5) = .slice (some ⟨(sblk (r9 5)), 0, none⟩) 1 1 ∧ (N9 5) = [(sblk (r9 5), .cells ⟨List.flatten [(cel (r9 4))]⟩ 75 (0, 0))] ∧ Own 75 37 (.slice (some ⟨(sblk (r9 5)), 0, none⟩) 1 1) [(cel (r9 4))] (N9 5) := hp 5 (by decide)
 have q1 : ρ 1 = v := hr0 1 (by kernel_rfl)
 have q2 : ρ 2 = .pointer (some ⟨b1, 0, none⟩) := hr0 2 (by kernel_rfl)
 have q4 : ρ 4 = .pointer (some ⟨b2, 0, none⟩) := hr0 4 (by kernel_rfl)
 have q5 : ρ 5 = .pointer (some ⟨b3, 0, none⟩) := hr0 5 (by kernel_rfl)
 have q33 : ρ 33 = ks := hr0 33 (by kernel_rfl)
 have q34 : ρ 34 = .int .i64 1 := hr0 34 (by kernel_rfl)
 have q35 : ρ 35 = .int .i64 0 := hr0 35 (by kernel_rfl)
 have q55 : ρ 55 = .slice none 0 0 := (hr 1 _ _ (by decide) rfl rfl).trans (hp 1 (by decide))
 have q59 : ρ 59 = .slice (some ⟨(sblk (r9 5)), 0, none⟩) 1 1 := (hr 5 _ _ (by decide) rfl rfl).trans p5.1
 obtain ⟨ρ18, rfl⟩ := Ze (uc q1 (uc q2 (uc q4 (uc q5 (uc q33 (uc q34 (uc q35 (uc q55 (uc q59 un)))))))))
 clear q1 q2 q4 q5 q33 q34 q35 q55 q59
 have p9_4 := p4; have p9_5 := p5
 clear hp hr hr0 p4 p5
 refine Zw (M' := [(N9 0), (N9 1), (N9 2), (N9 3), (N9 4), (N9 5), k8, ka7, kb7, [(b6, .cells ⟨cs5⟩ 27 (0, 0))], [(b3, .cells ⟨(pkT 3 0 zS v8 (.slice none 0 0)) ++ ([.slice none 0 0] : List Value)⟩ 75 (0, 0))], [(b2, .cells ⟨(pkT 0 0 zS (.slice none 0 0) (.slice none 0 0)) ++ ([.slice none 0 0] : List Value)⟩ 75 (0, 0))], [(b1, .cells ⟨pkT 3 0 zS ks cv⟩ 27 (0, 0))]]) Sub.refl ?_
 refine Zw (M' := [(N9 4), (N9 5), k8, ka7, kb7, [(b6, .cells ⟨cs5⟩ 27 (0, 0))], [(b3, .cells ⟨(pkT 3 0 zS v8 (.slice none 0 0)) ++ ([.slice none 0 0] : List Value)⟩ 75 (0, 0))], [(b2, .cells ⟨(pkT 0 0 zS (.slice none 0 0) (.slice none 0 0)) ++ ([.slice none 0 0] : List Value)⟩ 75 (0, 0))], [(b1, .cells ⟨pkT 3 0 zS ks cv⟩ 27 (0, 0))]]) (Sd (Sd (Sd (Sd (Sk (Sk (Sk (Sk (Sk (Sk (Sk (Sk (Sk Sub.nil))))))))))))) ?_
 show JL _ _ _ [_, _, _] _ _ _
 refine Zw (M' := [[], (N9 4), (N9 5), k8, ka7, kb7, [(b6, .cells ⟨cs5⟩ 27 (0, 0))], [(b3, .cells ⟨(pkT 3 0 zS v8 (.slice none 0 0)) ++ ([.slice none 0 0] : List Value)⟩ 75 (0, 0))], [(b2, .cells ⟨(pkT 0 0 zS (.slice none 0 0) (.slice none 0 0)) ++ ([.slice none 0 0] : List Value)⟩ 75 (0, 0))], [(b1, .cells ⟨pkT 3 0 zS ks cv⟩ 27 (0, 0))]]) (Sub.emp Sub.refl) ?_
 have hlens19 : ∀ e ∈ ([(cel (r9 4))] : List (List Value)), List.length e = 37 := by
  intro e he; simp only [List.mem_cons, List.not_mem_nil, or_false] at he
  rcases he with rfl
  ·exact p9_4.2.len
 have hoks19 : ∀ e ∈ ([(cel (r9 4))] : List (List Value)), okc e := by
  intro e he; simp only [List.mem_cons, List.not_mem_nil, or_false] at he
  rcases he with rfl
  ·exact p9_4.2.ok
 refine Zd rfl (Runs_append (i := 0) (n := 1) (es' := [(cel (r9 4))]) Tryz.runUnderlying72 Tryz.runUnderlying72 (Or.inl rfl) el75 rfl rfl rfl Own.nil (fun F w m => Src.row (((At.k 2 rfl (by rw [p9_5.2.1]; exact List.mem_cons_self))).heap m) (Zy (flatten_len hlens19))) rfl hlens19 hoks19 (by decide) (by simp [strs]) fun v19 k19 ho19 => ?_)
 refine Za (v := .pointer (some ⟨b3, 35, none⟩)) rfl (fa75_4 rfl rfl) ?_
 refine Zd rfl (Zi 7 (vs := [v19]) (l := (pkT 3 0 zS v8 v19) ++ ([.slice none 0 0] : List Value)) ty72 rfl rfl rfl (cells_one ho19.one) rfl (Zp ho19.one Zz) (spl_l (pkT_s35 ..)) ?_)
 refine Zb ?_
 refine Zc ?_
 refine Za (v := .int .i64 1) rfl (Pu.arith rfl rfl rfl) ?_
 refine Za (v := .int .i64 1) rfl (Pu.move rfl) ?_
 refine Zb ?_
 refine JR_succ ?_
 refine Zg (Zc ?_)
 refine Za (v := .bool false) rfl (show Pu _ _ _ (.bool (decide ((1 : Int) < 1))) from Pu.lss rfl rfl) ?_
 refine Zb ?_
 refine Zg ?_
 refine Zl (b := false) rfl (fun h => absurd h (by simp)) (fun _ => ?_)
 refine J_exit _ rfl ?_
 refine Zg ?_
 refine Zg (Zc ?_)
 refine Za (v := .pointer (some ⟨b1, 35, none⟩)) rfl (fa27_4 rfl rfl) ?_
 refine Zd rfl (Zh ty25 rfl (At.bx 9 rfl) (pkT_35 ..) ?_)
 obtain ⟨a20, cap20, hv20⟩ := hcv.sl
 have hle20 := hcv.le
 refine Za (v := .int .i64 0) rfl (Pu.lenSl Tryz.runUnderlying25 hv20) ?_
 refine Za (v := .int .i64 0) rfl (Pu.move rfl) ?_
 refine Zb ?_
 refine Zs ?_
 refine J_rounds 1 ?_
 refine JR_succ ?_
 refine Zg (Zc ?_)
 refine Za (v := .bool false) rfl (show Pu _ _ _ (.bool (decide ((0 : Int) < 0))) from Pu.lss rfl rfl) ?_
 refine Zb ?_
 refine Zg ?_
 refine Zl (b := false) rfl (fun h => absurd h (by simp)) (fun _ => ?_)
 refine J_exit _ rfl ?_
 refine Zg (Zc ?_)
 refine Zd rfl (Zj ty75 rfl (At.bx 7 rfl) (Zy rfl) ?_)
 refine Zd rfl (Zi 8 (vs := (pkT 3 0 zS v8 v19) ++ ([.slice none 0 0] : List Value)) (l := (pkT 3 0 zS v8 v19) ++ ([.slice none 0 0] : List Value)) ty75 rfl rfl rfl rfl rfl (okc_app (pkT_ok ho8.one ho19.one) (Zp rfl Zz)) (spl_a (n := 37) rfl rfl) ?_)
 refine Zb ?_
 refine Zo ?_
 refine ⟨.agg ⟨(pkT 3 0 zS v8 v19) ++ ([.slice none 0 0] : List Value)⟩, [k8 ++ (k19 ++ ((N9 4)))], Ret.one rfl (RV.cell ty75 rfl (At.bx 8 rfl) (Zy rfl)), (Sub.join3 (Sub.cons 3 rfl (Sk (Sk Sub.nil)))), ?_⟩
 exact ⟨_, _, rfl, rfl, ⟨_, _, _, _, _, _, _, _, _, _, rfl, rfl, ho8, ho19, p9_4.2, rfl⟩⟩
set_option maxHeartbeats 1000000 in
theorem named0_ct : ∀ (cs : List Value) (v : Value) (H : Heap), RT H cs (Tm.mk 3 0 zS [(Tm.mk 3 0 zS [Tm.mk 1 1 zS [] []] [])] []) → rdS RS 1 H v [ltr 0] → CT Tryz.prog 86 ⟨[.agg ⟨cs⟩, v]⟩ [] H (fun v N => ∃ cs k, v = .agg ⟨cs⟩ ∧ N = [k] ∧ NC [[ltr 1], [ltr 2]] cs k) := by
 intro cs v H ht hl
 obtain ⟨ks, cv, rfl, _, _, hks, hcv⟩ := RT_mk.1 ht
 refine Zr Tryz.func86 rfl rfl ?_
 refine Zg (Zc ?_)
 refine Zd rfl (Zx (l := pkT 3 0 zS ks cv) rfl rfl fun b1 => ?_)
 refine Zd rfl (Zn (l := (pkT 0 0 zS (.slice none 0 0) (.slice none 0 0)) ++ ([.slice none 0 0] : List Value)) Tryz.zeroValue75 rfl fun b2 => ?_)
 refine Zb ?_
 refine Zg (Zc ?_)
 refine Za (v := .pointer (some ⟨b1, 0, none⟩)) rfl (fa27_0 rfl rfl) ?_
 refine Zd rfl (Zh ty3 rfl (At.bx 1 rfl) (pkT_0 ..) ?_)
 refine Za (v := .pointer (some ⟨b1, 1, none⟩)) rfl (fa27_1 rfl rfl) ?_
 refine Zd rfl (Zh ty3 rfl (At.bx 1 rfl) (pkT_1 ..) ?_)
 refine Za (v := .pointer (some ⟨b1, 2, none⟩)) rfl (fa27_2 rfl rfl) ?_
 refine Zd rfl (Zj ty23 rfl (At.bx 1 rfl) (pkT_2 ..) ?_)
 refine Za (v := .agg ⟨(pkT 3 0 zS (.slice none 0 0) (.slice none 0 0)) ++ ([.slice none 0 0] : List Value)⟩) rfl (Pu.build (pv := [(0, .int .i64 3), (1, .int .i64 0), (2, .agg ⟨sC zS⟩)]) (l := (pkT 3 0 zS (.slice none 0 0) (.slice none 0 0)) ++ ([.slice none 0 0] : List Value)) rfl (bld75_0_1_2 _ _ _)) ?_
 refine Zd rfl (Zn (l := (pkT 0 0 zS (.slice none 0 0) (.slice none 0 0)) ++ ([.slice none 0 0] : List Value)) Tryz.zeroValue75 rfl fun b3 => ?_)
 refine Zd rfl (Zi 0 (vs := (pkT 3 0 zS (.slice none 0 0) (.slice none 0 0)) ++ ([.slice none 0 0] : List Value)) (l := (pkT 3 0 zS (.slice none 0 0) (.slice none 0 0)) ++ ([.slice none 0 0] : List Value)) ty75 rfl rfl rfl rfl rfl (okc_app (pkT_ok rfl rfl) (Zp rfl Zz)) (spl_a (n := 37) rfl rfl) ?_)
 refine Zb ?_
 refine Zg ?_
 refine Zg (Zc ?_)
 refine Za (v := .pointer (some ⟨b1, 0, none⟩)) rfl (fa27_0 rfl rfl) ?_
 refine Zd rfl (Zh ty3 rfl (At.bx 2 rfl) (pkT_0 ..) ?_)
 refine Za (v := .bool false) rfl (show Pu _ _ _ (.bool (decide ((3 : Int) = 1))) from Pu.eql rfl rfl) ?_
 refine Zb ?_
 refine Zl (b := false) rfl (fun h => absurd h (by simp)) (fun _ => ?_)
 refine Zq ?_
 refine Zg ?_
 refine Zg (Zc ?_)
 refine Za (v := .pointer (some ⟨b1, 34, none⟩)) rfl (fa27_3 rfl rfl) ?_
 refine Zd rfl (Zh ty24 rfl (At.bx 2 rfl) (pkT_34 ..) ?_)
 obtain ⟨a4, cap4, hv4⟩ := hks.sl
 have hle4 := hks.le
 refine Za (v := .int .i64 1) rfl (Pu.lenSl Tryz.runUnderlying24 hv4) ?_
 refine Za (v := .int .i64 0) rfl (Pu.move rfl) ?_
 refine Zb ?_
 refine Zs ?_
 refine J_rounds 2 ?_
 refine JR_succ ?_
 refine Zg (Zc ?_)
 refine Za (v := .bool true) rfl (show Pu _ _ _ (.bool (decide ((0 : Int) < 1))) from Pu.lss rfl rfl) ?_
 refine Zb ?_
 refine Zg ?_
 refine Zl (b := true) rfl (fun _ => ?_) (fun h => absurd h (by simp))
 refine Zq ?_
 refine Zg ?_
 refine Zs ?_
 refine Zg (Zc ?_)
 refine Za (v := .int .i64 0) rfl (Pu.move rfl) ?_
 obtain ⟨b5, o5, cap5, row5, T5, fr5, cs5, hv5, hb5, hs5, hE5⟩ := hks.get 0 (by first | assumption | omega | decide | simp)
 refine Za (v := .pointer (some ⟨b5, o5 + 0 * 36, none⟩)) rfl (Pu.idx 0 Tryz.runUnderlying24 Zt hv5 rfl rfl (by first | assumption | omega | decide | simp)) ?_
 refine Zd rfl (Zj Zt rfl (At.im hb5) hs5 ?_)
 refine Zd rfl (Zn (l := pkT 0 0 zS (.slice none 0 0) (.slice none 0 0)) Tryz.zeroValue27 rfl fun b6 => ?_)
 refine Za (v := .int .i64 0) rfl (Pu.assign rfl) ?_
 refine Zd rfl (Zi 0 (vs := cs5) (l := cs5) Zt rfl rfl rfl rfl (Zv hE5) (RT_ok hE5) (spl_a (n := 36) rfl (Zv hE5)) ?_)
 refine Zb ?_
 refine Zg (Zc ?_)
 refine Za (v := v) rfl (Pu.move rfl) ?_
 refine Za (v := .pointer (some ⟨b1, 0, none⟩)) rfl (fa27_0 rfl rfl) ?_
 refine Zd rfl (Zh ty3 rfl (At.bx 3 rfl) (pkT_0 ..) ?_)
 refine Za (v := .int .i64 0) rfl (Pu.move rfl) ?_
 refine Zk rfl Tryz.call101 rfl (fun hin => int_r (r := 1) (more_ct _ _ _) (by decide)) rfl ?_
 rintro _ _ ⟨rfl, rfl⟩
 refine Zk rfl Tryz.call107 rfl (fun hin => chosen1_ct _ _ (RSs.mono (Hle.hu _ _) hl)) rfl ?_
 rintro _ _ ⟨ua7, ub7, ka7, kb7, rfl, rfl, hoa7, hob7⟩
 refine Za (v := .tuple ⟨[ua7, ub7]⟩) rfl (Pu.move rfl) ?_
 refine Za (v := ua7) rfl (Pu.extract rfl rfl) ?_
 refine Za (v := ub7) rfl (Pu.extract rfl rfl) ?_
 refine Za (v := ua7) rfl (Pu.assign rfl) ?_
 refine Za (v := ub7) rfl (Pu.assign rfl) ?_
 refine Zb ?_
 refine Zg (Zc ?_)
 refine Za (v := .pointer (some ⟨b3, 34, none⟩)) rfl (fa75_3 rfl rfl) ?_
 refine Zd rfl (Zh ty71 rfl (At.bx 3 rfl) (get_l (pkT_34 ..)) ?_)
 refine Za (v := ub7) rfl (Pu.move rfl) ?_
 refine Zw (M' := [[], ka7, kb7, [(b6, .cells ⟨cs5⟩ 27 (0, 0))], [(b3, .cells ⟨(pkT 3 0 zS (.slice none 0 0) (.slice none 0 0)) ++ ([.slice none 0 0] : List Value)⟩ 75 (0, 0))], [(b2, .cells ⟨(pkT 0 0 zS (.slice none 0 0) (.slice none 0 0)) ++ ([.slice none 0 0] : List Value)⟩ 75 (0, 0))], [(b1, .cells ⟨pkT 3 0 zS ks cv⟩ 27 (0, 0))]]) (Sub.emp Sub.refl) ?_
 refine Zd rfl (Runs_append (i := 0) (n := ([ltr 1]).length) (es' := strs ([ltr 1])) Tryz.runUnderlying71 Tryz.runUnderlying71 (Or.inl rfl) el9 rfl rfl rfl (show Own _ _ _ (strs []) _ from Own.nil) (own_src (i := 2) hob7 rfl) (strs_len _) (strs_len1 _) (strs_ok _) (by decide) (by simp [strs]) fun v8 k8 ho8 => ?_)
 rw [← strs_app] at ho8
 refine Za (v := .pointer (some ⟨b3, 34, none⟩)) rfl (fa75_3 rfl rfl) ?_
 refine Zd rfl (Zi 4 (vs := [v8]) (l := (pkT 3 0 zS v8 (.slice none 0 0)) ++ ([.slice none 0 0] : List Value)) ty71 rfl rfl rfl (cells_one ho8.one) rfl (Zp ho8.one Zz) (spl_l (pkT_s34 ..)) ?_)
 refine Zb ?_
 refine J_draw mixed #[0, 1, 0, 0, 12, 28, 63, 127, 255] 6 6 7 rfl (by kernel_rfl) (fun i r9 N9 => match i with | 0 => (r9 0) = .pointer (some ⟨b3, 35, none⟩) | 1 => (r9 1) = .slice none 0 0 | 2 => (r9 2) = .agg ⟨cs5⟩ | 3 => (r9 3) = ua7 | 4 => (r9 4) = .agg ⟨(cel (r9 4))⟩ ∧ NC ([[ltr 2]]) (cel (r9 4)) (N9 4) | 5 => (r9 5) = .slice (some ⟨(sblk (r9 5)), 0, none⟩) 1 1 ∧ (N9 5) = [(sblk (r9 5), .cells ⟨List.flatten [(cel (r9 4))]⟩ 75 (0, 0))] ∧ Own 75 37 (.slice (some ⟨(sblk (r9 5)), 0, none⟩) 1 1) [(cel (r9 4))] (N9 5) | _ => True) ⟨?_, ?_, ?_, ?_, ?_, ?_, trivial⟩ ?_
 ·intro ρ r9 N9 B hB hBa hp hr hr0
  have q5 : ρ 5 = .pointer (some ⟨b3, 0, none⟩) := hr0 5 (by kernel_rfl)
  obtain ⟨ρ10, rfl⟩ := Ze (uc q5 un)
  clear q5
  refine Za (v := .pointer (some ⟨b3, 35, none⟩)) rfl (fa75_4 rfl rfl) ?_
  refine Zb ?_
  exact ⟨.pointer (some ⟨b3, 35, none⟩), [], rfl, (Sub.emp Sub.refl), rfl⟩
 ·intro ρ r9 N9 B hB hBa hp hr hr0
  have q54 : ρ 54 = .pointer (some ⟨b3, 35, none⟩) := (hr 0 _ _ (by decide) rfl rfl rfl).trans (hp 0 (by decide) rfl)
  obtain ⟨ρ11, rfl⟩ := Ze (uc q54 un)
  clear q54
  refine Zd rfl (Zh ty72 rfl (At.bx 10 (Zu ((hB 4 (by decide)).trans rfl))) (get_l (pkT_35 ..)) ?_)
  refine Zb ?_
  exact ⟨.slice none 0 0, [], rfl, (Sub.emp Sub.refl), rfl⟩
 ·intro ρ r9 N9 B hB hBa hp hr hr0
  have q7 : ρ 7 = .pointer (some ⟨b6, 0, none⟩) := hr0 7 (by kernel_rfl)
  obtain ⟨ρ12, rfl⟩ := Ze (uc q7 un)
  clear q7
  refine Zd rfl (Zj Zt rfl (At.bx 9 (Zu ((hB 3 (by decide)).trans rfl))) (Zy (Zv hE5)) ?_)
  refine Zb ?_
  exact ⟨.agg ⟨cs5⟩, [], rfl, (Sub.emp Sub.refl), rfl⟩
 ·intro ρ r9 N9 B hB hBa hp hr hr0
  have q8 : ρ 8 = ua7 := hr0 8 (by kernel_rfl)
  obtain ⟨ρ13, rfl⟩ := Ze (uc q8 un)
  clear q8
  refine Za (v := ua7) rfl (Pu.move rfl) ?_
  refine Zb ?_
  exact ⟨ua7, [], rfl, (Sub.emp Sub.refl), rfl⟩
 ·intro ρ r9 N9 B hB hBa hp hr hr0
  have q56 : ρ 56 = .agg ⟨cs5⟩ := (hr 2 _ _ (by decide) rfl rfl rfl).trans (hp 2 (by decide) rfl)
  have q57 : ρ 57 = ua7 := (hr 3 _ _ (by decide) rfl rfl rfl).trans (hp 3 (by decide) rfl)
  obtain ⟨ρ14, rfl⟩ := Ze (uc q56 (uc q57 un))
  clear q56 q57
  refine Zk rfl Tryz.call86 rfl (fun hin => named1_ct _ _ _ (RT.mono (Hle.hu _ _) hE5) (own_strs hoa7 (by simp) (hin 7 _ (Zu ((hB 1 (by decide)).trans rfl))))) rfl ?_
  rintro _ _ ⟨cs15, k15, rfl, rfl, hO15⟩
  refine Zb ?_
  exact ⟨.agg ⟨cs15⟩, k15, rfl, Sub.refl, ⟨rfl, hO15⟩⟩
 ·intro ρ r9 N9 B hB hBa hp hr hr0
  have p4 : (r9 4) = .agg ⟨(cel (r9 4))⟩ ∧ NC ([[ltr 2]]) (cel (r9 4)) (N9 4) := hp 4 (by decide) rfl
  have q58 : ρ 58 = .agg ⟨(cel (r9 4))⟩ := (hr 4 _ _ (by decide) rfl rfl rfl).trans p4.1
  obtain ⟨ρ16, rfl⟩ := Ze (uc q58 un)
  clear q58
  refine Zd rfl (ZA (vs := [.agg ⟨(cel (r9 4))⟩]) [(cel (r9 4))] Tryz.runUnderlying72 el75 rfl rfl (by intro e he; simp only [List.mem_cons, List.not_mem_nil, or_false] at he; subst he; exact p4.2.len) rfl (by decide) fun b17 k17 ho17 hk17 => ?_)
  refine Zb ?_
  exact ⟨.slice (some ⟨b17, 0, none⟩) 1 1, k17, rfl, Sub.refl, ⟨rfl, hk17, ho17⟩⟩
 intro ρ r9 N9 hp hr hr0
 have p4 : (r9 4) = .agg ⟨(cel (r9 4))⟩ ∧ NC ([[ltr 2]]) (cel (r9 4)) (N9 4) := hp 4 (by decide)
 have p5 : (r9 5) = .slice (some ⟨(sblk (r9 5)), 0, none⟩) 1 1 ∧ (N9 5) = [(sblk (r9 5), .cells ⟨List.flatten [(cel (r9 4))]⟩ 75 (0, 0))] ∧ Own 75 37 (.slice (some ⟨(sblk (r9 5)), 0, none⟩) 1 1) [(cel (r9 4))] (N9 5) := hp 5 (by decide)
 have q1 : ρ 1 = v := hr0 1 (by kernel_rfl)
 have q2 : ρ 2 = .pointer (some ⟨b1, 0, none⟩) := hr0 2 (by kernel_rfl)
 have q4 : ρ 4 = .pointer (some ⟨b2, 0, none⟩) := hr0 4 (by kernel_rfl)
 have q5 : ρ 5 = .pointer (some ⟨b3, 0, none⟩) := hr0 5 (by kernel_rfl)
 have q33 : ρ 33 = ks := hr0 33 (by kernel_rfl)
 have q34 : ρ 34 = .int .i64 1 := hr0 34 (by kernel_rfl)
 have q35 : ρ 35 = .int .i64 0 := hr0 35 (by kernel_rfl)
 have q55 : ρ 55 = .slice none 0 0 := (hr 1 _ _ (by decide) rfl rfl).trans (hp 1 (by decide))
 have q59 : ρ 59 = .slice (some ⟨(sblk (r9 5)), 0, none⟩) 1 1 := (hr 5 _ _ (by decide) rfl rfl).trans p5.1
 obtain ⟨ρ18, rfl⟩ := Ze (uc q1 (uc q2 (uc q4 (uc q5 (uc q33 (uc q34 (uc q35 (uc q55 (uc q59 un)))))))))
 clear q1 q2 q4 q5 q33 q34 q35 q55 q59
 have p9_4 := p4; have p9_5 := p5
 clear hp hr hr0 p4 p5
 refine Zw (M' := [(N9 0), (N9 1), (N9 2), (N9 3), (N9 4), (N9 5), k8, ka7, kb7, [(b6, .cells ⟨cs5⟩ 27 (0, 0))], [(b3, .cells ⟨(pkT 3 0 zS v8 (.slice none 0 0)) ++ ([.slice none 0 0] : List Value)⟩ 75 (0, 0))], [(b2, .cells ⟨(pkT 0 0 zS (.slice none 0 0) (.slice none 0 0)) ++ ([.slice none 0 0] : List Value)⟩ 75 (0, 0))], [(b1, .cells ⟨pkT 3 0 zS ks cv⟩ 27 (0, 0))]]) Sub.refl ?_
 refine Zw (M' := [(N9 4), (N9 5), k8, ka7, kb7, [(b6, .cells ⟨cs5⟩ 27 (0, 0))], [(b3, .cells ⟨(pkT 3 0 zS v8 (.slice none 0 0)) ++ ([.slice none 0 0] : List Value)⟩ 75 (0, 0))], [(b2, .cells ⟨(pkT 0 0 zS (.slice none 0 0) (.slice none 0 0)) ++ ([.slice none 0 0] : List Value)⟩ 75 (0, 0))], [(b1, .cells ⟨pkT 3 0 zS ks cv⟩ 27 (0, 0))]]) (Sd (Sd (Sd (Sd (Sk (Sk (Sk (Sk (Sk (Sk (Sk (Sk (Sk Sub.nil))))))))))))) ?_
 show JL _ _ _ [_, _, _] _ _ _
 refine Zw (M' := [[], (N9 4), (N9 5), k8, ka7, kb7, [(b6, .cells ⟨cs5⟩ 27 (0, 0))], [(b3, .cells ⟨(pkT 3 0 zS v8 (.slice none 0 0)) ++ ([.slice none 0 0] : List Value)⟩ 75 (0, 0))], [(b2, .cells ⟨(pkT 0 0 zS (.slice none 0 0) (.slice none 0 0)) ++ ([.slice none 0 0] : List Value)⟩ 75 (0, 0))], [(b1, .cells ⟨pkT 3 0 zS ks cv⟩ 27 (0, 0))]]) (Sub.emp Sub.refl) ?_
 have hlens19 : ∀ e ∈ ([(cel (r9 4))] : List (List Value)), List.length e = 37 := by
  intro e he; simp only [List.mem_cons, List.not_mem_nil, or_false] at he
  rcases he with rfl
  ·exact p9_4.2.len
 have hoks19 : ∀ e ∈ ([(cel (r9 4))] : List (List Value)), okc e := by
  intro e he; simp only [List.mem_cons, List.not_mem_nil, or_false] at he
  rcases he with rfl
  ·exact p9_4.2.ok
 refine Zd rfl (Runs_append (i := 0) (n := 1) (es' := [(cel (r9 4))]) Tryz.runUnderlying72 Tryz.runUnderlying72 (Or.inl rfl) el75 rfl rfl rfl Own.nil (fun F w m => Src.row (((At.k 2 rfl (by rw [p9_5.2.1]; exact List.mem_cons_self))).heap m) (Zy (flatten_len hlens19))) rfl hlens19 hoks19 (by decide) (by simp [strs]) fun v19 k19 ho19 => ?_)
 refine Za (v := .pointer (some ⟨b3, 35, none⟩)) rfl (fa75_4 rfl rfl) ?_
 refine Zd rfl (Zi 7 (vs := [v19]) (l := (pkT 3 0 zS v8 v19) ++ ([.slice none 0 0] : List Value)) ty72 rfl rfl rfl (cells_one ho19.one) rfl (Zp ho19.one Zz) (spl_l (pkT_s35 ..)) ?_)
 refine Zb ?_
 refine Zc ?_
 refine Za (v := .int .i64 1) rfl (Pu.arith rfl rfl rfl) ?_
 refine Za (v := .int .i64 1) rfl (Pu.move rfl) ?_
 refine Zb ?_
 refine JR_succ ?_
 refine Zg (Zc ?_)
 refine Za (v := .bool false) rfl (show Pu _ _ _ (.bool (decide ((1 : Int) < 1))) from Pu.lss rfl rfl) ?_
 refine Zb ?_
 refine Zg ?_
 refine Zl (b := false) rfl (fun h => absurd h (by simp)) (fun _ => ?_)
 refine J_exit _ rfl ?_
 refine Zg ?_
 refine Zg (Zc ?_)
 refine Za (v := .pointer (some ⟨b1, 35, none⟩)) rfl (fa27_4 rfl rfl) ?_
 refine Zd rfl (Zh ty25 rfl (At.bx 9 rfl) (pkT_35 ..) ?_)
 obtain ⟨a20, cap20, hv20⟩ := hcv.sl
 have hle20 := hcv.le
 refine Za (v := .int .i64 0) rfl (Pu.lenSl Tryz.runUnderlying25 hv20) ?_
 refine Za (v := .int .i64 0) rfl (Pu.move rfl) ?_
 refine Zb ?_
 refine Zs ?_
 refine J_rounds 1 ?_
 refine JR_succ ?_
 refine Zg (Zc ?_)
 refine Za (v := .bool false) rfl (show Pu _ _ _ (.bool (decide ((0 : Int) < 0))) from Pu.lss rfl rfl) ?_
 refine Zb ?_
 refine Zg ?_
 refine Zl (b := false) rfl (fun h => absurd h (by simp)) (fun _ => ?_)
 refine J_exit _ rfl ?_
 refine Zg (Zc ?_)
 refine Zd rfl (Zj ty75 rfl (At.bx 7 rfl) (Zy rfl) ?_)
 refine Zd rfl (Zi 8 (vs := (pkT 3 0 zS v8 v19) ++ ([.slice none 0 0] : List Value)) (l := (pkT 3 0 zS v8 v19) ++ ([.slice none 0 0] : List Value)) ty75 rfl rfl rfl rfl rfl (okc_app (pkT_ok ho8.one ho19.one) (Zp rfl Zz)) (spl_a (n := 37) rfl rfl) ?_)
 refine Zb ?_
 refine Zo ?_
 refine ⟨.agg ⟨(pkT 3 0 zS v8 v19) ++ ([.slice none 0 0] : List Value)⟩, [k8 ++ (k19 ++ ((N9 4)))], Ret.one rfl (RV.cell ty75 rfl (At.bx 8 rfl) (Zy rfl)), (Sub.join3 (Sub.cons 3 rfl (Sk (Sk Sub.nil)))), ?_⟩
 exact ⟨_, _, rfl, rfl, ⟨_, _, _, _, _, _, _, _, _, _, rfl, rfl, ho8, ho19, p9_4.2, rfl⟩⟩
end Go.Proofs.YtdeinimmmjichaaGreat.Hs
/-! Walks, printed by a program of this session's own (gen.py). -/
namespace Go.Proofs.YtdeinimmmjichaaGreat.Hs
open Go Go.Proofs
set_option maxRecDepth 100000
set_option linter.unusedVariables false
set_option linter.unusedSimpArgs false
attribute [local irreducible] JL J CT wlo
theorem nameE_ct (cs : List Value) (v : Value) (H : Heap) (ht : RT H cs eLL) (hl : rdS RS 1 H v [ltr 0]) : CT Tryz.prog 43 ⟨[.agg ⟨cs⟩, v]⟩ [] H (fun v N => ∃ cs k, v = .tuple ⟨[.agg ⟨cs⟩, .int .i64 0]⟩ ∧ N = [k] ∧ NC [[ltr 1], [ltr 2]] cs k) := by
 refine Zr Tryz.func43 rfl rfl ?_
 refine Zg (Zc ?_)
 refine Zd rfl (Zx (l := cs) rfl rfl fun b1 => ?_)
 refine Zd rfl (Zx (l := [v]) rfl (cells_one hl.one) fun b2 => ?_)
 refine Zd rfl (Zn (l := (pkT 0 0 zS (.slice none 0 0) (.slice none 0 0)) ++ ([.slice none 0 0] : List Value)) Tryz.zeroValue75 rfl fun b3 => ?_)
 refine Za (v := .int .i64 0) rfl (Pu.assign rfl) ?_
 refine Zb ?_
 refine Zg ?_
 refine Zg (Zc ?_)
 refine Zd rfl (Zj Zt rfl (At.bx 2 rfl) (Zy (Zv ht)) ?_)
 refine Zd rfl (ZA (vs := [.agg ⟨cs⟩]) [cs] Tryz.runUnderlying24 el27 rfl rfl (by intro e he; simp only [List.mem_cons, List.not_mem_nil, or_false] at he; subst he; exact (Zv ht)) rfl (by decide) fun b4 k4 ho4 hk4 => ?_)
 refine Zk rfl Tryz.call50 rfl (fun hin => int_r (r := 0) (right_ct [eLL] _ _ (Own.rd1 ho4 (hin 0 _ rfl) (RT.mono (Hle.hu _ _) ht))) right_ll) rfl ?_
 rintro _ _ ⟨rfl, rfl⟩
 refine Za (v := .int .i64 0) rfl (Pu.assign rfl) ?_
 refine Zb ?_
 refine Zg (Zc ?_)
 refine Za (v := .int .i64 0) rfl (Pu.move rfl) ?_
 refine Za (v := .bool false) rfl (show Pu _ _ _ (.bool (!decide ((0 : Int) = 0))) from Pu.neq rfl rfl) ?_
 refine Zb ?_
 refine Zl (b := false) rfl (fun h => absurd h (by simp)) (fun _ => ?_)
 refine Zq ?_
 refine Zg ?_
 refine Zg (Zc ?_)
 refine Zd rfl (Zh ty71 rfl (At.bx 2 rfl) rfl ?_)
 refine Zk rfl Tryz.call84 rfl (fun hin => bool_r (r := false) (containsS_ct _ _ _ _ (RSs.mono (Hle.hu _ _) hl)) (by decide)) rfl ?_
 rintro _ _ ⟨rfl, rfl⟩
 refine Zb ?_
 refine Zl (b := false) rfl (fun h => absurd h (by simp)) (fun _ => ?_)
 refine Zq ?_
 refine Zg ?_
 refine Zg (Zc ?_)
 refine Zd rfl (Zh ty71 rfl (At.bx 2 rfl) rfl ?_)
 obtain ⟨a5, cap5, hv5⟩ := hl.sl
 have hle5 := hl.le
 refine Za (v := .int .i64 1) rfl (Pu.lenSl Tryz.runUnderlying71 hv5) ?_
 refine Za (v := .int .i64 0) rfl (Pu.move rfl) ?_
 refine Zb ?_
 refine Zs ?_
 refine J_rounds 2 ?_
 refine JR_succ ?_
 refine Zg (Zc ?_)
 refine Za (v := .bool true) rfl (show Pu _ _ _ (.bool (decide ((0 : Int) < 1))) from Pu.lss rfl rfl) ?_
 refine Zb ?_
 refine Zg ?_
 refine Zl (b := true) rfl (fun _ => ?_) (fun h => absurd h (by simp))
 refine Zq ?_
 refine Zg ?_
 refine Zs ?_
 refine Zg (Zc ?_)
 refine Za (v := .int .i64 0) rfl (Pu.move rfl) ?_
 obtain ⟨b6, o6, cap6, row6, T6, fr6, cs6, hv6, hb6, hs6, hE6⟩ := hl.get 0 (by first | assumption | omega | decide | simp)
 refine Za (v := .pointer (some ⟨b6, o6 + 0 * 1, none⟩)) rfl (Pu.idx 0 Tryz.runUnderlying71 ty9 hv6 rfl rfl (by first | assumption | omega | decide | simp)) ?_
 refine Zd rfl (Zh ty9 rfl (At.im hb6) (sub_one ((show cs6 = [Value.string (ltr 0)] from hE6) ▸ hs6)) ?_)
 refine Za (v := .int .i64 0) rfl (Pu.assign rfl) ?_
 refine Za (v := .string (ltr 0)) rfl (Pu.assign rfl) ?_
 refine Zb ?_
 refine Zg (Zc ?_)
 refine Zd rfl (Zh ty71 rfl (At.bx 2 rfl) rfl ?_)
 refine Za (v := .int .i64 0) rfl (Pu.move rfl) ?_
 obtain ⟨a7, cap7, hv7⟩ := hl.sl
 have hle7 := hl.le
 refine Zd rfl (Runs_slice0 Tryz.runUnderlying71 Tryz.sizeOf9 hv7 rfl fun sa8 sc8 => ?_)
 refine Za (v := .string (ltr 0)) rfl (Pu.move rfl) ?_
 refine Zk rfl Tryz.call84 rfl (fun hin => bool_r (r := false) (containsS_ct _ _ _ _ (RSs.mono (Hle.hu _ _) (rdS.none : Hs.rdS RS 1 H (.slice sa8 0 sc8) []))) (by decide)) rfl ?_
 rintro _ _ ⟨rfl, rfl⟩
 refine Zb ?_
 refine Zl (b := false) rfl (fun h => absurd h (by simp)) (fun _ => ?_)
 refine Zq ?_
 refine Zc ?_
 refine Za (v := .int .i64 1) rfl (Pu.arith rfl rfl rfl) ?_
 refine Za (v := .int .i64 1) rfl (Pu.move rfl) ?_
 refine Zb ?_
 refine JR_succ ?_
 refine Zg (Zc ?_)
 refine Za (v := .bool false) rfl (show Pu _ _ _ (.bool (decide ((1 : Int) < 1))) from Pu.lss rfl rfl) ?_
 refine Zb ?_
 refine Zg ?_
 refine Zl (b := false) rfl (fun h => absurd h (by simp)) (fun _ => ?_)
 refine J_exit _ rfl ?_
 refine Zg (Zc ?_)
 refine Zd rfl (Zj Zt rfl (At.bx 3 rfl) (Zy (Zv ht)) ?_)
 refine Zk rfl Tryz.call17 rfl (fun hin => freeE_ct eLL _ _ (RT.mono (Hle.hu _ _) ht)) rfl ?_
 rintro _ _ ⟨u9, e9, k9, rfl, rfl, ho9, he9⟩
 rw [free_ll] at ho9 he9
 replace ho9 : Own 3 1 u9 (ints ([])) k9 := ho9
 obtain rfl : e9 = 0 := he9
 refine Za (v := .tuple ⟨[u9, .int .i64 0]⟩) rfl (Pu.move rfl) ?_
 refine Za (v := u9) rfl (Pu.extract rfl rfl) ?_
 refine Za (v := .int .i64 0) rfl (Pu.extract rfl rfl) ?_
 refine Za (v := u9) rfl (Pu.assign rfl) ?_
 refine Za (v := .int .i64 0) rfl (Pu.assign rfl) ?_
 refine Zb ?_
 refine Zg ?_
 refine Zg (Zc ?_)
 refine Za (v := u9) rfl (Pu.move rfl) ?_
 refine Za (v := .func (.func 85) ⟨[]⟩ ⟨[.pointer (some ⟨b2, 0, none⟩)]⟩) rfl (Pu.makeFunc rfl rfl) ?_
 refine Zk rfl Tryz.call82 rfl (fun hin => bool_r (r := true) (every_ct 85 [] [.pointer (some ⟨b2, 0, none⟩)] Tryz.call85 (fun _ => true) [] _ _ (own_ints ho9 (by simp) (hin 0 _ rfl)) (fun x hx => by cases hx)) rfl) rfl ?_
 rintro _ _ ⟨rfl, rfl⟩
 refine Za (v := .bool false) rfl (show Pu _ _ _ (.bool (!true)) from Pu.not rfl) ?_
 refine Zb ?_
 refine Zl (b := false) rfl (fun h => absurd h (by simp)) (fun _ => ?_)
 refine Zq ?_
 refine Zg (Zc ?_)
 refine Zd rfl (Zj Zt rfl (At.bx 4 rfl) (Zy (Zv ht)) ?_)
 refine Zd rfl (Zh ty71 rfl (At.bx 3 rfl) rfl ?_)
 refine Zk rfl Tryz.call86 rfl (fun hin => named0_ct _ _ _ (RT.mono (Hle.hu _ _) ht) (RSs.mono (Hle.hu _ _) hl)) rfl ?_
 rintro _ _ ⟨cs10, k10, rfl, rfl, hO10⟩
 refine Zd rfl (Zi 3 (vs := cs10) (l := cs10) ty75 rfl rfl rfl rfl hO10.len hO10.ok (spl_a (n := 37) rfl hO10.len) ?_)
 refine Za (v := .int .i64 0) rfl (Pu.assign rfl) ?_
 refine Zb ?_
 refine Zo ?_
 refine ⟨.tuple ⟨[.agg ⟨cs10⟩, .int .i64 0]⟩, [k10], Ret.two rfl (RV.cell ty75 rfl (At.bx 3 rfl) (Zy hO10.len)) (RV.tmp rfl), (Sk Sub.nil), ?_⟩
 exact ⟨_, _, rfl, rfl, hO10⟩
theorem nu_ct (n : Int) (H : Heap) (hb : inI n) : CT Tryz.prog 6 ⟨[.int .i64 n]⟩ [] H (fun v N => ∃ cs k, v = .agg ⟨cs⟩ ∧ N = [k] ∧ OT (.mk 2 n zS [] []) cs k) := by
 refine Zr Tryz.func6 rfl rfl ?_
 refine Zg (Zc ?_)
 refine Zd rfl (Zn (l := pkT 0 0 zS (.slice none 0 0) (.slice none 0 0)) Tryz.zeroValue27 rfl fun b1 => ?_)
 refine Zb ?_
 refine Zg (Zc ?_)
 refine Za (v := .int .i64 n) rfl (Pu.move rfl) ?_
 refine Za (v := .agg ⟨pkT 2 n zS (.slice none 0 0) (.slice none 0 0)⟩) rfl (Pu.build (pv := [(0, .int .i64 2), (1, .int .i64 n)]) (l := pkT 2 n zS (.slice none 0 0) (.slice none 0 0)) rfl (bld27_0_1 _ _)) ?_
 refine Zd rfl (Zi 0 (vs := pkT 2 n zS (.slice none 0 0) (.slice none 0 0)) (l := pkT 2 n zS (.slice none 0 0) (.slice none 0 0)) Zt rfl rfl rfl rfl rfl (pkT_ok rfl rfl) (pkT_s ..) ?_)
 refine Zb ?_
 refine Zo ?_
 refine ⟨.agg ⟨pkT 2 n zS (.slice none 0 0) (.slice none 0 0)⟩, [[]], Ret.one rfl (RV.cell Zt rfl (At.bx 0 rfl) (pkT_a ..)), (Sub.emp Sub.nil), ?_⟩
 exact ⟨_, _, rfl, rfl, OT_leaf (by unfold inI; omega) hb⟩
theorem va_ct (n : Int) (H : Heap) (hb : inI n) : CT Tryz.prog 40 ⟨[.int .i64 n]⟩ [] H (fun v N => ∃ cs k, v = .agg ⟨cs⟩ ∧ N = [k] ∧ OT (.mk 1 n zS [] []) cs k) := by
 refine Zr Tryz.func40 rfl rfl ?_
 refine Zg (Zc ?_)
 refine Zd rfl (Zn (l := pkT 0 0 zS (.slice none 0 0) (.slice none 0 0)) Tryz.zeroValue27 rfl fun b1 => ?_)
 refine Zb ?_
 refine Zg (Zc ?_)
 refine Za (v := .int .i64 n) rfl (Pu.move rfl) ?_
 refine Za (v := .agg ⟨pkT 1 n zS (.slice none 0 0) (.slice none 0 0)⟩) rfl (Pu.build (pv := [(0, .int .i64 1), (1, .int .i64 n)]) (l := pkT 1 n zS (.slice none 0 0) (.slice none 0 0)) rfl (bld27_0_1 _ _)) ?_
 refine Zd rfl (Zi 0 (vs := pkT 1 n zS (.slice none 0 0) (.slice none 0 0)) (l := pkT 1 n zS (.slice none 0 0) (.slice none 0 0)) Zt rfl rfl rfl rfl rfl (pkT_ok rfl rfl) (pkT_s ..) ?_)
 refine Zb ?_
 refine Zo ?_
 refine ⟨.agg ⟨pkT 1 n zS (.slice none 0 0) (.slice none 0 0)⟩, [[]], Ret.one rfl (RV.cell Zt rfl (At.bx 0 rfl) (pkT_a ..)), (Sub.emp Sub.nil), ?_⟩
 exact ⟨_, _, rfl, rfl, OT_leaf (by unfold inI; omega) hb⟩
theorem la_ct (H : Heap) (a : List Value) (hla : a.length = 36) (hka : okc a) : CT Tryz.prog 38 ⟨[.agg ⟨a⟩]⟩ [] H (fun v N => ∃ cs k, v = .agg ⟨cs⟩ ∧ N = [k] ∧ cs.length = 36 ∧ okc cs ∧ ∀ ta h, Has k h → RT h a ta → RT h cs (.mk 3 0 zS [ta] [])) := by
 refine Zr Tryz.func38 rfl rfl ?_
 refine Zg (Zc ?_)
 refine Zd rfl (Zx (l := a) rfl rfl fun b1 => ?_)
 refine Zd rfl (Zn (l := pkT 0 0 zS (.slice none 0 0) (.slice none 0 0)) Tryz.zeroValue27 rfl fun b2 => ?_)
 refine Zb ?_
 refine Zg (Zc ?_)
 refine Zd rfl (Zj Zt rfl (At.bx 1 rfl) (Zy hla) ?_)
 refine Zd rfl (ZA (vs := [.agg ⟨a⟩]) [a] Tryz.runUnderlying24 el27 rfl rfl (by intro e he; simp only [List.mem_cons, List.not_mem_nil, or_false] at he; subst he; exact hla) rfl (by decide) fun b3 k3 ho3 hk3 => ?_)
 refine Za (v := .agg ⟨pkT 3 0 zS (.slice (some ⟨b3, 0, none⟩) 1 1) (.slice none 0 0)⟩) rfl (Pu.build (pv := [(0, .int .i64 3), (3, .slice (some ⟨b3, 0, none⟩) 1 1)]) (l := pkT 3 0 zS (.slice (some ⟨b3, 0, none⟩) 1 1) (.slice none 0 0)) rfl (bld27_0_3 _ _ _ _)) ?_
 refine Zd rfl (Zi 1 (vs := pkT 3 0 zS (.slice (some ⟨b3, 0, none⟩) 1 1) (.slice none 0 0)) (l := pkT 3 0 zS (.slice (some ⟨b3, 0, none⟩) 1 1) (.slice none 0 0)) Zt rfl rfl rfl rfl rfl (pkT_ok rfl rfl) (pkT_s ..) ?_)
 refine Zb ?_
 refine Zo ?_
 refine ⟨.agg ⟨pkT 3 0 zS (.slice (some ⟨b3, 0, none⟩) 1 1) (.slice none 0 0)⟩, [k3], Ret.one rfl (RV.cell Zt rfl (At.bx 1 rfl) (pkT_a ..)), (Sk Sub.nil), ?_⟩
 exact ⟨_, _, rfl, rfl, rfl, pkT_ok rfl rfl, fun ta h hh hta => RT_mk.2 ⟨_, _, rfl, (by unfold inI; omega), (by unfold inI; omega), Own.rd1 ho3 hh hta, Hs.rdS.nil⟩⟩
theorem ap_ct (H : Heap) (a : List Value) (hla : a.length = 36) (hka : okc a) (b : List Value) (hlb : b.length = 36) (hkb : okc b) : CT Tryz.prog 39 ⟨[.agg ⟨a⟩, .agg ⟨b⟩]⟩ [] H (fun v N => ∃ cs k, v = .agg ⟨cs⟩ ∧ N = [k] ∧ cs.length = 36 ∧ okc cs ∧ ∀ ta tb h, Has k h → RT h a ta → RT h b tb → RT h cs (.mk 4 0 zS [ta, tb] [])) := by
 refine Zr Tryz.func39 rfl rfl ?_
 refine Zg (Zc ?_)
 refine Zd rfl (Zx (l := a) rfl rfl fun b1 => ?_)
 refine Zd rfl (Zx (l := b) rfl rfl fun b2 => ?_)
 refine Zd rfl (Zn (l := pkT 0 0 zS (.slice none 0 0) (.slice none 0 0)) Tryz.zeroValue27 rfl fun b3 => ?_)
 refine Zb ?_
 refine Zg (Zc ?_)
 refine Zd rfl (Zj Zt rfl (At.bx 2 rfl) (Zy hla) ?_)
 refine Zd rfl (Zj Zt rfl (At.bx 1 rfl) (Zy hlb) ?_)
 refine Zd rfl (ZA (vs := [.agg ⟨a⟩, .agg ⟨b⟩]) [a, b] Tryz.runUnderlying24 el27 rfl rfl (by intro e he; simp only [List.mem_cons, List.not_mem_nil, or_false] at he; rcases he with rfl | rfl <;> first | exact hla | exact hlb) rfl (by decide) fun b4 k4 ho4 hk4 => ?_)
 refine Za (v := .agg ⟨pkT 4 0 zS (.slice (some ⟨b4, 0, none⟩) 2 2) (.slice none 0 0)⟩) rfl (Pu.build (pv := [(0, .int .i64 4), (3, .slice (some ⟨b4, 0, none⟩) 2 2)]) (l := pkT 4 0 zS (.slice (some ⟨b4, 0, none⟩) 2 2) (.slice none 0 0)) rfl (bld27_0_3 _ _ _ _)) ?_
 refine Zd rfl (Zi 1 (vs := pkT 4 0 zS (.slice (some ⟨b4, 0, none⟩) 2 2) (.slice none 0 0)) (l := pkT 4 0 zS (.slice (some ⟨b4, 0, none⟩) 2 2) (.slice none 0 0)) Zt rfl rfl rfl rfl rfl (pkT_ok rfl rfl) (pkT_s ..) ?_)
 refine Zb ?_
 refine Zo ?_
 refine ⟨.agg ⟨pkT 4 0 zS (.slice (some ⟨b4, 0, none⟩) 2 2) (.slice none 0 0)⟩, [k4], Ret.one rfl (RV.cell Zt rfl (At.bx 1 rfl) (pkT_a ..)), (Sk Sub.nil), ?_⟩
 exact ⟨_, _, rfl, rfl, rfl, pkT_ok rfl rfl, fun ta tb h hh hta htb => RT_mk.2 ⟨_, _, rfl, (by unfold inI; omega), (by unfold inI; omega), Own.rd2 ho4 hh hta htb, Hs.rdS.nil⟩⟩
theorem ha_ct (r : Sm) (a : Option Addr) (n c : Nat) (H : Heap) : CT Tryz.prog 45 ⟨[.agg ⟨sC r⟩, .slice a n c]⟩ [] H (fun v N => v = .agg ⟨pkT 12 0 r (.slice a n c) (.slice none 0 0)⟩ ∧ N = []) := by
 refine Zr Tryz.func45 rfl rfl ?_
 refine Zg (Zc ?_)
 refine Zd rfl (Zx (l := sC r) rfl rfl fun b1 => ?_)
 refine Zd rfl (Zn (l := pkT 0 0 zS (.slice none 0 0) (.slice none 0 0)) Tryz.zeroValue27 rfl fun b2 => ?_)
 refine Zb ?_
 refine Zg (Zc ?_)
 refine Zd rfl (Zj ty23 rfl (At.bx 1 rfl) (Zy rfl) ?_)
 refine Za (v := .slice a n c) rfl (Pu.move rfl) ?_
 refine Za (v := .agg ⟨pkT 12 0 r (.slice a n c) (.slice none 0 0)⟩) rfl (Pu.build (pv := [(0, .int .i64 12), (2, .agg ⟨sC r⟩), (3, .slice a n c)]) (l := pkT 12 0 r (.slice a n c) (.slice none 0 0)) rfl (bld27_0_2_3 _ _ _ _ _)) ?_
 refine Zd rfl (Zi 0 (vs := pkT 12 0 r (.slice a n c) (.slice none 0 0)) (l := pkT 12 0 r (.slice a n c) (.slice none 0 0)) Zt rfl rfl rfl rfl rfl (pkT_ok rfl rfl) (pkT_s ..) ?_)
 refine Zb ?_
 refine Zo ?_
 refine ⟨.agg ⟨pkT 12 0 r (.slice a n c) (.slice none 0 0)⟩, [], Ret.one rfl (RV.cell Zt rfl (At.bx 0 rfl) (pkT_a ..)), Sub.nil, ?_⟩
 exact ⟨rfl, rfl⟩
end Go.Proofs.YtdeinimmmjichaaGreat.Hs
/-! Walks, printed by a program of this session's own (gen.py). -/
namespace Go.Proofs.YtdeinimmmjichaaGreat.Hs
open Go Go.Proofs
set_option maxRecDepth 100000
set_option linter.unusedVariables false
set_option linter.unusedSimpArgs false
attribute [local irreducible] JL J CT wlo
set_option maxHeartbeats 8000000 in
theorem awake_ct (H : Heap) : CT Tryz.prog 9 ⟨[]⟩ [] H (fun v N => v = .bool true ∧ N = []) := by
 refine Zr Tryz.func9 rfl rfl ?_
 refine Zg (Zc ?_)
 refine Za (v := .bool false) rfl (Pu.assign rfl) ?_
 refine Zb ?_
 refine Zg ?_
 refine Zl (b := false) rfl (fun h => absurd h (by simp)) (fun _ => ?_)
 refine Zq ?_
 refine Zg (Zc ?_)
 refine Zk rfl Tryz.call40 rfl (fun hin => va_ct _ _ (by unfold inI; omega)) rfl ?_
 rintro _ _ ⟨cs1, k1, rfl, rfl, hO1⟩
 refine Zk rfl Tryz.call40 rfl (fun hin => va_ct _ _ (by unfold inI; omega)) rfl ?_
 rintro _ _ ⟨cs2, k2, rfl, rfl, hO2⟩
 refine Zk rfl Tryz.call39 rfl (fun hin => ap_ct _ _ hO1.len hO1.ok _ hO2.len hO2.ok) rfl ?_
 rintro _ _ ⟨cs3, k3, rfl, rfl, hC3⟩
 replace hC3 : (cs3.length = 36 ∧ okc cs3 ∧ ∀ h, Has k3 h → RT h cs1 (eVa 0) → RT h cs2 (eVa 1) → RT h cs3 (eAp (eVa 0) (eVa 1))) := ⟨hC3.1, hC3.2.1, hC3.2.2 (eVa 0) (eVa 1)⟩
 refine Zk rfl Tryz.call38 rfl (fun hin => la_ct _ _ hC3.1 hC3.2.1) rfl ?_
 rintro _ _ ⟨cs4, k4, rfl, rfl, hC4⟩
 replace hC4 : (cs4.length = 36 ∧ okc cs4 ∧ ∀ h, Has k4 h → RT h cs3 (eAp (eVa 0) (eVa 1)) → RT h cs4 (eLa (eAp (eVa 0) (eVa 1)))) := ⟨hC4.1, hC4.2.1, hC4.2.2 (eAp (eVa 0) (eVa 1))⟩
 refine Zd rfl (Zn (l := pkT 0 0 zS (.slice none 0 0) (.slice none 0 0)) Tryz.zeroValue27 rfl fun b5 => ?_)
 refine Zd rfl (Zi 0 (vs := cs4) (l := cs4) Zt rfl rfl rfl rfl hC4.1 hC4.2.1 (spl_a (n := 36) rfl hC4.1) ?_)
 refine Zb ?_
 refine Zg (Zc ?_)
 refine Zd rfl (Zj Zt rfl (At.bx 0 rfl) (Zy hC4.1) ?_)
 refine Zk rfl Tryz.call17 rfl (fun hin => freeE_ct eLam _ _ (hC4.2.2 _ (hin 1 _ rfl) (hC3.2.2 _ (hin 2 _ rfl) (hO1.rd (hin 4 _ rfl)) (hO2.rd (hin 3 _ rfl))))) rfl ?_
 rintro _ _ ⟨u6, e6, k6, rfl, rfl, ho6, he6⟩
 rw [free_lam] at ho6 he6
 replace ho6 : Own 3 1 u6 (ints ([0])) k6 := ho6
 obtain rfl : e6 = 0 := he6
 refine Za (v := .tuple ⟨[u6, .int .i64 0]⟩) rfl (Pu.move rfl) ?_
 refine Za (v := u6) rfl (Pu.extract rfl rfl) ?_
 refine Za (v := .int .i64 0) rfl (Pu.extract rfl rfl) ?_
 refine Za (v := u6) rfl (Pu.assign rfl) ?_
 refine Za (v := .int .i64 0) rfl (Pu.assign rfl) ?_
 refine Zb ?_
 refine Zg ?_
 refine J_drawC mixed #[0, 0, 3, 7, 15, 15, 0, 95, 255] 8 7 6 rfl (by kernel_rfl) rfl rfl (by kernel_rfl) (by kernel_rfl) (fun i r7 N7 => match i with | 0 => (r7 0) = .agg ⟨cs4⟩ | 1 => (r7 1) = .agg ⟨(cel (r7 1))⟩ ∧ OT (eNu 5) (cel (r7 1)) (N7 1) | 2 => (r7 2) = .tuple ⟨[.agg ⟨(ZC (r7 2))⟩, .int .i64 0]⟩ ∧ OT (eLa (eAp (eVa 0) (eNu 5))) (ZC (r7 2)) (N7 2) | 3 => (r7 3) = .tuple ⟨[.agg ⟨(ZC (r7 2))⟩, .int .i64 0]⟩ | 4 => (r7 4) = .agg ⟨(ZC (r7 2))⟩ | 5 => (r7 5) = .int .i64 0 | 6 => (r7 6) = .pointer (some ⟨(pblk (r7 6)), 0, none⟩) ∧ ∃ X : List Value, X.length = 36 ∧ (N7 6) = [((pblk (r7 6)), .cells ⟨X⟩ 27 (0, 0))] | 7 => (N7 6) = [((pblk (r7 6)), .cells ⟨(ZC (r7 2))⟩ 27 (0, 0))] | _ => True) ⟨?_, ?_, ?_, ?_, ?_, ?_, ?_, ?_, trivial⟩ ?_
 ·intro ρ r7 N7 hp hr hr0
  have q1 : ρ 1 = .pointer (some ⟨b5, 0, none⟩) := hr0 1 (by kernel_rfl)
  obtain ⟨ρ8, rfl⟩ := Ze (uc q1 un)
  clear q1
  refine Zd rfl (Zj Zt rfl (At.bx 9 (Zu (j := 1) rfl)) (Zy hC4.1) ?_)
  refine Zb ?_
  exact ⟨.agg ⟨cs4⟩, [], rfl, (Sub.emp Sub.refl), rfl, fun h => absurd h (by decide)⟩
 ·intro ρ r7 N7 hp hr hr0
  refine Zk rfl Tryz.call6 rfl (fun hin => nu_ct _ _ (by unfold inI; omega)) rfl ?_
  rintro _ _ ⟨cs9, k9, rfl, rfl, hO9⟩
  refine Zb ?_
  exact ⟨.agg ⟨cs9⟩, k9, rfl, Sub.refl, ⟨rfl, hO9⟩, fun h => absurd h (by decide)⟩
 ·intro ρ r7 N7 hp hr hr0
  have p1 : (r7 1) = .agg ⟨(cel (r7 1))⟩ ∧ OT (eNu 5) (cel (r7 1)) (N7 1) := hp 1 (by decide) rfl
  have q24 : ρ 24 = .agg ⟨cs4⟩ := (hr 0 _ _ (by decide) rfl rfl rfl).trans (hp 0 (by decide) rfl)
  have q25 : ρ 25 = .agg ⟨(cel (r7 1))⟩ := (hr 1 _ _ (by decide) rfl rfl rfl).trans p1.1
  obtain ⟨ρ10, rfl⟩ := Ze (uc q24 (uc q25 un))
  clear q24 q25
  refine Zk rfl Tryz.call41 rfl (fun hin => ble_at (substP_ct eLam 0 (eNu 5) _ _ _ (hC4.2.2 _ (hin 10 _ (Zu (j := 2) rfl)) (hC3.2.2 _ (hin 11 _ (Zu (j := 3) rfl)) (hO1.rd (hin 13 _ (Zu (j := 5) rfl))) (hO2.rd (hin 12 _ (Zu (j := 4) rfl))))) (p1.2.rd (hin 1 _ (made_new rfl rfl)))) five_lam) rfl ?_
  rintro _ _ ⟨cs11, k11, rfl, rfl, hO11⟩
  refine Zb ?_
  exact ⟨.tuple ⟨[.agg ⟨cs11⟩, .int .i64 0]⟩, k11, rfl, Sub.refl, ⟨rfl, hO11⟩, fun h => absurd h (by decide)⟩
 ·intro ρ r7 N7 hp hr hr0
  have q26 : ρ 26 = .tuple ⟨[.agg ⟨(ZC (r7 2))⟩, .int .i64 0]⟩ := (hr 2 _ _ (by decide) rfl rfl rfl).trans (hp 2 (by decide) rfl).1
  obtain ⟨ρ12, rfl⟩ := Ze (uc q26 un)
  clear q26
  refine Za (v := .tuple ⟨[.agg ⟨(ZC (r7 2))⟩, .int .i64 0]⟩) rfl (Pu.move rfl) ?_
  refine Zb ?_
  exact ⟨.tuple ⟨[.agg ⟨(ZC (r7 2))⟩, .int .i64 0]⟩, [], rfl, (Sub.emp Sub.refl), rfl, fun h => absurd h (by decide)⟩
 ·intro ρ r7 N7 hp hr hr0
  have q23 : ρ 23 = .tuple ⟨[.agg ⟨(ZC (r7 2))⟩, .int .i64 0]⟩ := (hr 3 _ _ (by decide) rfl rfl rfl).trans (hp 3 (by decide) rfl)
  obtain ⟨ρ13, rfl⟩ := Ze (uc q23 un)
  clear q23
  refine Za (v := .agg ⟨(ZC (r7 2))⟩) rfl (Pu.extract rfl rfl) ?_
  refine Zb ?_
  exact ⟨.agg ⟨(ZC (r7 2))⟩, [], rfl, (Sub.emp Sub.refl), rfl, fun h => absurd h (by decide)⟩
 ·intro ρ r7 N7 hp hr hr0
  have q23 : ρ 23 = .tuple ⟨[.agg ⟨(ZC (r7 2))⟩, .int .i64 0]⟩ := (hr 3 _ _ (by decide) rfl rfl rfl).trans (hp 3 (by decide) rfl)
  obtain ⟨ρ14, rfl⟩ := Ze (uc q23 un)
  clear q23
  refine Za (v := .int .i64 0) rfl (Pu.extract rfl rfl) ?_
  refine Zb ?_
  exact ⟨.int .i64 0, [], rfl, (Sub.emp Sub.refl), rfl, fun h => absurd h (by decide)⟩
 ·intro ρ r7 N7 hp hr hr0
  refine Zd rfl (Zn (l := pkT 0 0 zS (.slice none 0 0) (.slice none 0 0)) Tryz.zeroValue27 rfl fun b15 => ?_)
  refine Zb ?_
  exact ⟨.pointer (some ⟨b15, 0, none⟩), [(b15, .cells ⟨pkT 0 0 zS (.slice none 0 0) (.slice none 0 0)⟩ 27 (0, 0))], rfl, Sub.refl, ⟨rfl, _, rfl, rfl⟩, fun h => absurd h (by decide)⟩
 ·intro ρ r7 N7 hp hr hr0
  have p2 : (r7 2) = .tuple ⟨[.agg ⟨(ZC (r7 2))⟩, .int .i64 0]⟩ ∧ OT (eLa (eAp (eVa 0) (eNu 5))) (ZC (r7 2)) (N7 2) := hp 2 (by decide) rfl
  have p6 : (r7 6) = .pointer (some ⟨(pblk (r7 6)), 0, none⟩) ∧ ∃ X : List Value, X.length = 36 ∧ (N7 6) = [((pblk (r7 6)), .cells ⟨X⟩ 27 (0, 0))] := hp 6 (by decide) rfl
  have q4 : ρ 4 = .pointer (some ⟨(pblk (r7 6)), 0, none⟩) := (hr 6 _ _ (by decide) rfl rfl rfl).trans p6.1
  have q27 : ρ 27 = .agg ⟨(ZC (r7 2))⟩ := (hr 4 _ _ (by decide) rfl rfl rfl).trans (hp 4 (by decide) rfl)
  obtain ⟨ρ16, rfl⟩ := Ze (uc q4 (uc q27 un))
  clear q4 q27
  obtain ⟨hrC, X, hX, hNC⟩ := p6
  refine Zd rfl (Zi 6 (vs := (ZC (r7 2))) (l := (ZC (r7 2))) Zt rfl ((made_new rfl rfl).trans (congrArg some hNC)) rfl rfl p2.2.len p2.2.ok (spl_a (n := 36) hX p2.2.len) ?_)
  refine Zb ?_
  exact ⟨undef, [((pblk (r7 6)), .cells ⟨(ZC (r7 2))⟩ 27 (0, 0))], rfl, Sub.refl, rfl, fun _ => ⟨hrC, _, p2.2.len, rfl⟩⟩
 intro ρ r7 N7 hNa hp hr hr0
 have p1 : (r7 1) = .agg ⟨(cel (r7 1))⟩ ∧ OT (eNu 5) (cel (r7 1)) (N7 1) := hp 1 (by decide)
 have p2 : (r7 2) = .tuple ⟨[.agg ⟨(ZC (r7 2))⟩, .int .i64 0]⟩ ∧ OT (eLa (eAp (eVa 0) (eNu 5))) (ZC (r7 2)) (N7 2) := hp 2 (by decide)
 have p6 : (r7 6) = .pointer (some ⟨(pblk (r7 6)), 0, none⟩) ∧ ∃ X : List Value, X.length = 36 ∧ (N7 6) = [((pblk (r7 6)), .cells ⟨X⟩ 27 (0, 0))] := hp 6 (by decide)
 have p7 : (N7 6) = [((pblk (r7 6)), .cells ⟨(ZC (r7 2))⟩ 27 (0, 0))] := hp 7 (by decide)
 have q0 : ρ 0 = .bool false := hr0 0 (by kernel_rfl)
 have q1 : ρ 1 = .pointer (some ⟨b5, 0, none⟩) := hr0 1 (by kernel_rfl)
 have q2 : ρ 2 = u6 := hr0 2 (by kernel_rfl)
 have q3 : ρ 3 = .int .i64 0 := hr0 3 (by kernel_rfl)
 have q4 : ρ 4 = .pointer (some ⟨(pblk (r7 6)), 0, none⟩) := (hr 6 _ _ (by decide) rfl rfl).trans p6.1
 have q28 : ρ 28 = .int .i64 0 := (hr 5 _ _ (by decide) rfl rfl).trans (hp 5 (by decide))
 obtain ⟨ρ17, rfl⟩ := Ze (uc q0 (uc q1 (uc q2 (uc q3 (uc q4 (uc q28 un))))))
 clear q0 q1 q2 q3 q4 q28
 have p7_1 := p1; have p7_2 := p2; have p7_6 := p6; have p7_7 := p7
 clear hp hr hr0 p1 p2 p6 p7
 refine Zw (M' := [(N7 0), (N7 1), (N7 2), (N7 3), (N7 4), (N7 5), (N7 6), (N7 7), k6, [(b5, .cells ⟨cs4⟩ 27 (0, 0))], k4, k3, k2, k1]) Sub.refl ?_
 refine Zw (M' := [(N7 1), (N7 2), [((pblk (r7 6)), .cells ⟨(ZC (r7 2))⟩ 27 (0, 0))], k6, [(b5, .cells ⟨cs4⟩ 27 (0, 0))], k4, k3, k2, k1]) (Sd (Sk (Sk (Sd (Sd (Sd (Se p7_7 (Sd (Sk (Sk (Sk (Sk (Sk (Sk Sub.nil)))))))))))))) ?_
 show JL _ _ _ [_] _ _ _
 refine Za (v := .int .i64 0) rfl (Pu.assign rfl) ?_
 refine Zb ?_
 refine Zg ?_
 refine J_drawC mixed #[0, 0, 3, 7, 15, 15, 0, 95, 255] 8 7 6 rfl (by kernel_rfl) rfl rfl (by kernel_rfl) (by kernel_rfl) (fun i r18 N18 => match i with | 0 => (r18 0) = .agg ⟨cs4⟩ | 1 => (r18 1) = .agg ⟨(cel (r18 1))⟩ ∧ OT (eVa 3) (cel (r18 1)) (N18 1) | 2 => (r18 2) = .tuple ⟨[.agg ⟨(ZC (r18 2))⟩, .int .i64 0]⟩ ∧ OT (eLa (eAp (eVa 0) (eVa 4))) (ZC (r18 2)) (N18 2) | 3 => (r18 3) = .tuple ⟨[.agg ⟨(ZC (r18 2))⟩, .int .i64 0]⟩ | 4 => (r18 4) = .agg ⟨(ZC (r18 2))⟩ | 5 => (r18 5) = .int .i64 0 | 6 => (r18 6) = .pointer (some ⟨(pblk (r18 6)), 0, none⟩) ∧ ∃ X : List Value, X.length = 36 ∧ (N18 6) = [((pblk (r18 6)), .cells ⟨X⟩ 27 (0, 0))] | 7 => (N18 6) = [((pblk (r18 6)), .cells ⟨(ZC (r18 2))⟩ 27 (0, 0))] | _ => True) ⟨?_, ?_, ?_, ?_, ?_, ?_, ?_, ?_, trivial⟩ ?_
 ·intro ρ r18 N18 hp hr hr0
  have q1 : ρ 1 = .pointer (some ⟨b5, 0, none⟩) := hr0 1 (by kernel_rfl)
  obtain ⟨ρ19, rfl⟩ := Ze (uc q1 un)
  clear q1
  refine Zd rfl (Zj Zt rfl (At.bx 12 (Zu (j := 4) rfl)) (Zy hC4.1) ?_)
  refine Zb ?_
  exact ⟨.agg ⟨cs4⟩, [], rfl, (Sub.emp Sub.refl), rfl, fun h => absurd h (by decide)⟩
 ·intro ρ r18 N18 hp hr hr0
  refine Zk rfl Tryz.call40 rfl (fun hin => va_ct _ _ (by unfold inI; omega)) rfl ?_
  rintro _ _ ⟨cs20, k20, rfl, rfl, hO20⟩
  refine Zb ?_
  exact ⟨.agg ⟨cs20⟩, k20, rfl, Sub.refl, ⟨rfl, hO20⟩, fun h => absurd h (by decide)⟩
 ·intro ρ r18 N18 hp hr hr0
  have p1 : (r18 1) = .agg ⟨(cel (r18 1))⟩ ∧ OT (eVa 3) (cel (r18 1)) (N18 1) := hp 1 (by decide) rfl
  have q30 : ρ 30 = .agg ⟨cs4⟩ := (hr 0 _ _ (by decide) rfl rfl rfl).trans (hp 0 (by decide) rfl)
  have q31 : ρ 31 = .agg ⟨(cel (r18 1))⟩ := (hr 1 _ _ (by decide) rfl rfl rfl).trans p1.1
  obtain ⟨ρ21, rfl⟩ := Ze (uc q30 (uc q31 un))
  clear q30 q31
  refine Zk rfl Tryz.call41 rfl (fun hin => ble_at (substP_ct eLam 0 (eVa 3) _ _ _ (hC4.2.2 _ (hin 13 _ (Zu (j := 5) rfl)) (hC3.2.2 _ (hin 14 _ (Zu (j := 6) rfl)) (hO1.rd (hin 16 _ (Zu (j := 8) rfl))) (hO2.rd (hin 15 _ (Zu (j := 7) rfl))))) (p1.2.rd (hin 1 _ (made_new rfl rfl)))) three_lam) rfl ?_
  rintro _ _ ⟨cs22, k22, rfl, rfl, hO22⟩
  refine Zb ?_
  exact ⟨.tuple ⟨[.agg ⟨cs22⟩, .int .i64 0]⟩, k22, rfl, Sub.refl, ⟨rfl, hO22⟩, fun h => absurd h (by decide)⟩
 ·intro ρ r18 N18 hp hr hr0
  have q32 : ρ 32 = .tuple ⟨[.agg ⟨(ZC (r18 2))⟩, .int .i64 0]⟩ := (hr 2 _ _ (by decide) rfl rfl rfl).trans (hp 2 (by decide) rfl).1
  obtain ⟨ρ23, rfl⟩ := Ze (uc q32 un)
  clear q32
  refine Za (v := .tuple ⟨[.agg ⟨(ZC (r18 2))⟩, .int .i64 0]⟩) rfl (Pu.move rfl) ?_
  refine Zb ?_
  exact ⟨.tuple ⟨[.agg ⟨(ZC (r18 2))⟩, .int .i64 0]⟩, [], rfl, (Sub.emp Sub.refl), rfl, fun h => absurd h (by decide)⟩
 ·intro ρ r18 N18 hp hr hr0
  have q29 : ρ 29 = .tuple ⟨[.agg ⟨(ZC (r18 2))⟩, .int .i64 0]⟩ := (hr 3 _ _ (by decide) rfl rfl rfl).trans (hp 3 (by decide) rfl)
  obtain ⟨ρ24, rfl⟩ := Ze (uc q29 un)
  clear q29
  refine Za (v := .agg ⟨(ZC (r18 2))⟩) rfl (Pu.extract rfl rfl) ?_
  refine Zb ?_
  exact ⟨.agg ⟨(ZC (r18 2))⟩, [], rfl, (Sub.emp Sub.refl), rfl, fun h => absurd h (by decide)⟩
 ·intro ρ r18 N18 hp hr hr0
  have q29 : ρ 29 = .tuple ⟨[.agg ⟨(ZC (r18 2))⟩, .int .i64 0]⟩ := (hr 3 _ _ (by decide) rfl rfl rfl).trans (hp 3 (by decide) rfl)
  obtain ⟨ρ25, rfl⟩ := Ze (uc q29 un)
  clear q29
  refine Za (v := .int .i64 0) rfl (Pu.extract rfl rfl) ?_
  refine Zb ?_
  exact ⟨.int .i64 0, [], rfl, (Sub.emp Sub.refl), rfl, fun h => absurd h (by decide)⟩
 ·intro ρ r18 N18 hp hr hr0
  refine Zd rfl (Zn (l := pkT 0 0 zS (.slice none 0 0) (.slice none 0 0)) Tryz.zeroValue27 rfl fun b26 => ?_)
  refine Zb ?_
  exact ⟨.pointer (some ⟨b26, 0, none⟩), [(b26, .cells ⟨pkT 0 0 zS (.slice none 0 0) (.slice none 0 0)⟩ 27 (0, 0))], rfl, Sub.refl, ⟨rfl, _, rfl, rfl⟩, fun h => absurd h (by decide)⟩
 ·intro ρ r18 N18 hp hr hr0
  have p2 : (r18 2) = .tuple ⟨[.agg ⟨(ZC (r18 2))⟩, .int .i64 0]⟩ ∧ OT (eLa (eAp (eVa 0) (eVa 4))) (ZC (r18 2)) (N18 2) := hp 2 (by decide) rfl
  have p6 : (r18 6) = .pointer (some ⟨(pblk (r18 6)), 0, none⟩) ∧ ∃ X : List Value, X.length = 36 ∧ (N18 6) = [((pblk (r18 6)), .cells ⟨X⟩ 27 (0, 0))] := hp 6 (by decide) rfl
  have q6 : ρ 6 = .pointer (some ⟨(pblk (r18 6)), 0, none⟩) := (hr 6 _ _ (by decide) rfl rfl rfl).trans p6.1
  have q33 : ρ 33 = .agg ⟨(ZC (r18 2))⟩ := (hr 4 _ _ (by decide) rfl rfl rfl).trans (hp 4 (by decide) rfl)
  obtain ⟨ρ27, rfl⟩ := Ze (uc q6 (uc q33 un))
  clear q6 q33
  obtain ⟨hrC, X, hX, hNC⟩ := p6
  refine Zd rfl (Zi 6 (vs := (ZC (r18 2))) (l := (ZC (r18 2))) Zt rfl ((made_new rfl rfl).trans (congrArg some hNC)) rfl rfl p2.2.len p2.2.ok (spl_a (n := 36) hX p2.2.len) ?_)
  refine Zb ?_
  exact ⟨undef, [((pblk (r18 6)), .cells ⟨(ZC (r18 2))⟩ 27 (0, 0))], rfl, Sub.refl, rfl, fun _ => ⟨hrC, _, p2.2.len, rfl⟩⟩
 intro ρ r18 N18 hNa hp hr hr0
 have p1 : (r18 1) = .agg ⟨(cel (r18 1))⟩ ∧ OT (eVa 3) (cel (r18 1)) (N18 1) := hp 1 (by decide)
 have p2 : (r18 2) = .tuple ⟨[.agg ⟨(ZC (r18 2))⟩, .int .i64 0]⟩ ∧ OT (eLa (eAp (eVa 0) (eVa 4))) (ZC (r18 2)) (N18 2) := hp 2 (by decide)
 have p6 : (r18 6) = .pointer (some ⟨(pblk (r18 6)), 0, none⟩) ∧ ∃ X : List Value, X.length = 36 ∧ (N18 6) = [((pblk (r18 6)), .cells ⟨X⟩ 27 (0, 0))] := hp 6 (by decide)
 have p7 : (N18 6) = [((pblk (r18 6)), .cells ⟨(ZC (r18 2))⟩ 27 (0, 0))] := hp 7 (by decide)
 have q0 : ρ 0 = .bool false := hr0 0 (by kernel_rfl)
 have q1 : ρ 1 = .pointer (some ⟨b5, 0, none⟩) := hr0 1 (by kernel_rfl)
 have q2 : ρ 2 = u6 := hr0 2 (by kernel_rfl)
 have q3 : ρ 3 = .int .i64 0 := hr0 3 (by kernel_rfl)
 have q4 : ρ 4 = .pointer (some ⟨(pblk (r7 6)), 0, none⟩) := hr0 4 (by kernel_rfl)
 have q5 : ρ 5 = .int .i64 0 := hr0 5 (by kernel_rfl)
 have q6 : ρ 6 = .pointer (some ⟨(pblk (r18 6)), 0, none⟩) := (hr 6 _ _ (by decide) rfl rfl).trans p6.1
 have q34 : ρ 34 = .int .i64 0 := (hr 5 _ _ (by decide) rfl rfl).trans (hp 5 (by decide))
 obtain ⟨ρ28, rfl⟩ := Ze (uc q0 (uc q1 (uc q2 (uc q3 (uc q4 (uc q5 (uc q6 (uc q34 un))))))))
 clear q0 q1 q2 q3 q4 q5 q6 q34
 have p18_1 := p1; have p18_2 := p2; have p18_6 := p6; have p18_7 := p7
 clear hp hr hr0 p1 p2 p6 p7
 refine Zw (M' := [(N18 0), (N18 1), (N18 2), (N18 3), (N18 4), (N18 5), (N18 6), (N18 7), (N7 1), (N7 2), [((pblk (r7 6)), .cells ⟨(ZC (r7 2))⟩ 27 (0, 0))], k6, [(b5, .cells ⟨cs4⟩ 27 (0, 0))], k4, k3, k2, k1]) Sub.refl ?_
 refine Zw (M' := [(N18 1), (N18 2), [((pblk (r18 6)), .cells ⟨(ZC (r18 2))⟩ 27 (0, 0))], (N7 1), (N7 2), [((pblk (r7 6)), .cells ⟨(ZC (r7 2))⟩ 27 (0, 0))], k6, [(b5, .cells ⟨cs4⟩ 27 (0, 0))], k4, k3, k2, k1]) (Sd (Sk (Sk (Sd (Sd (Sd (Se p18_7 (Sd (Sk (Sk (Sk (Sk (Sk (Sk (Sk (Sk (Sk Sub.nil))))))))))))))))) ?_
 show JL _ _ _ [_] _ _ _
 refine Za (v := .int .i64 0) rfl (Pu.assign rfl) ?_
 refine Zb ?_
 refine Zg (Zc ?_)
 refine Zd rfl (Zj Zt rfl (At.bx 7 rfl) (Zy hC4.1) ?_)
 refine Zk rfl Tryz.call42 rfl (fun hin => ble_at (shiftP_ct eLam 2 0 _ _ (hC4.2.2 _ (hin 8 _ rfl) (hC3.2.2 _ (hin 9 _ rfl) (hO1.rd (hin 11 _ rfl)) (hO2.rd (hin 10 _ rfl))))) up_lam) rfl ?_
 rintro _ _ ⟨cs29, k29, rfl, rfl, hO29⟩
 refine Za (v := .tuple ⟨[.agg ⟨cs29⟩, .int .i64 0]⟩) rfl (Pu.move rfl) ?_
 refine Za (v := .agg ⟨cs29⟩) rfl (Pu.extract rfl rfl) ?_
 refine Za (v := .int .i64 0) rfl (Pu.extract rfl rfl) ?_
 refine Zd rfl (Zn (l := pkT 0 0 zS (.slice none 0 0) (.slice none 0 0)) Tryz.zeroValue27 rfl fun b30 => ?_)
 refine Zd rfl (Zi 0 (vs := cs29) (l := cs29) Zt rfl rfl rfl rfl hO29.len hO29.ok (spl_a (n := 36) rfl hO29.len) ?_)
 refine Za (v := .int .i64 0) rfl (Pu.assign rfl) ?_
 refine Zb ?_
 refine Zg (Zc ?_)
 refine Zk rfl Tryz.call40 rfl (fun hin => va_ct _ _ (by unfold inI; omega)) rfl ?_
 rintro _ _ ⟨cs31, k31, rfl, rfl, hO31⟩
 refine Zk rfl Tryz.call42 rfl (fun hin => ble_at (shiftP_ct (eVa 0) (-1) 0 _ _ (hO31.rd (hin 0 _ rfl))) down_va) rfl ?_
 rintro _ _ ⟨cs32, k32, rfl, rfl, hO32⟩
 refine Za (v := .tuple ⟨[.agg ⟨cs32⟩, .int .i64 1]⟩) rfl (Pu.move rfl) ?_
 refine Za (v := .agg ⟨cs32⟩) rfl (Pu.extract rfl rfl) ?_
 refine Za (v := .int .i64 1) rfl (Pu.extract rfl rfl) ?_
 refine Zd rfl (Zn (l := pkT 0 0 zS (.slice none 0 0) (.slice none 0 0)) Tryz.zeroValue27 rfl fun b33 => ?_)
 refine Zd rfl (Zi 0 (vs := cs32) (l := cs32) Zt rfl rfl rfl rfl hO32.len hO32.ok (spl_a (n := 36) rfl hO32.len) ?_)
 refine Za (v := .int .i64 1) rfl (Pu.assign rfl) ?_
 refine Zb ?_
 refine Zg (Zc ?_)
 refine Zk rfl Tryz.call40 rfl (fun hin => va_ct _ _ (by unfold inI; omega)) rfl ?_
 rintro _ _ ⟨cs34, k34, rfl, rfl, hO34⟩
 refine Zk rfl Tryz.call38 rfl (fun hin => la_ct _ _ hO34.len hO34.ok) rfl ?_
 rintro _ _ ⟨cs35, k35, rfl, rfl, hC35⟩
 replace hC35 : (cs35.length = 36 ∧ okc cs35 ∧ ∀ h, Has k35 h → RT h cs34 (eVa 1) → RT h cs35 (eLa (eVa 1))) := ⟨hC35.1, hC35.2.1, hC35.2.2 (eVa 1)⟩
 refine Zk rfl Tryz.call38 rfl (fun hin => la_ct _ _ hC35.1 hC35.2.1) rfl ?_
 rintro _ _ ⟨cs36, k36, rfl, rfl, hC36⟩
 replace hC36 : (cs36.length = 36 ∧ okc cs36 ∧ ∀ h, Has k36 h → RT h cs35 (eLa (eVa 1)) → RT h cs36 (eLa (eLa (eVa 1)))) := ⟨hC36.1, hC36.2.1, hC36.2.2 (eLa (eVa 1))⟩
 refine Zd rfl (ZA (vs := [.string (ltr 0)]) [[.string (ltr 0)]] Tryz.runUnderlying71 el9 rfl rfl (by intro e he; simp only [List.mem_cons, List.not_mem_nil, or_false] at he; subst he; exact rfl) rfl (by decide) fun b37 k37 ho37 hk37 => ?_)
 refine Zk rfl Tryz.call43 rfl (fun hin => nameE_ct _ _ _ (hC36.2.2 _ (hin 1 _ rfl) (hC35.2.2 _ (hin 2 _ rfl) (hO34.rd (hin 3 _ rfl)))) (own_strs (l := [ltr 0]) ho37 (by simp) (hin 0 _ rfl))) rfl ?_
 rintro _ _ ⟨_, _, rfl, rfl, nk38, nn38, nr38, ns38, nks38, ncv38, ne38, nk138, nk238, nk338, rfl, hone38, hon38, hok38, ⟨mk38, mn38, mr38, ms38, mks38, mcv38, me38, mk138, mk238, mk338, rfl, hmone38, hom38, hmk38, _, rfl⟩, rfl⟩
 refine Zw (M' := [nk138, nk238, mk138, mk238, mk338, k37, k36, k35, k34, [(b33, .cells ⟨cs32⟩ 27 (0, 0))], k32, k31, [(b30, .cells ⟨cs29⟩ 27 (0, 0))], k29, (N18 1), (N18 2), [((pblk (r18 6)), .cells ⟨(ZC (r18 2))⟩ 27 (0, 0))], (N7 1), (N7 2), [((pblk (r7 6)), .cells ⟨(ZC (r7 2))⟩ 27 (0, 0))], k6, [(b5, .cells ⟨cs4⟩ 27 (0, 0))], k4, k3, k2, k1]) (Sub.flat Sub.refl (by simp)) ?_
 refine Za (v := .tuple ⟨[.agg ⟨(pkT nk38 nn38 nr38 ns38 nks38) ++ ([ncv38] : List Value)⟩, .int .i64 0]⟩) rfl (Pu.move rfl) ?_
 refine Za (v := .agg ⟨(pkT nk38 nn38 nr38 ns38 nks38) ++ ([ncv38] : List Value)⟩) rfl (Pu.extract rfl rfl) ?_
 refine Za (v := .int .i64 0) rfl (Pu.extract rfl rfl) ?_
 refine Zd rfl (Zn (l := (pkT 0 0 zS (.slice none 0 0) (.slice none 0 0)) ++ ([.slice none 0 0] : List Value)) Tryz.zeroValue75 rfl fun b39 => ?_)
 refine Zd rfl (Zi 0 (vs := (pkT nk38 nn38 nr38 ns38 nks38) ++ ([ncv38] : List Value)) (l := (pkT nk38 nn38 nr38 ns38 nks38) ++ ([ncv38] : List Value)) ty75 rfl rfl rfl rfl rfl (okc_app (pkT_ok hon38.one hok38.one) (Zp hone38 Zz)) (spl_a (n := 37) rfl rfl) ?_)
 refine Za (v := .int .i64 0) rfl (Pu.assign rfl) ?_
 refine Zb ?_
 refine Zg ?_
 obtain ⟨b42, cap42, row42, hv42, hm42, hs42⟩ := hok38.at' (j := 0) rfl
 refine J_draw mixed #[0, 1, 3, 7, 15, 31, 63, 127, 255, 511, 1023, 2047, 4095, 8191, 16383, 32767, 65535, 131071, 262143, 524287, 1048575, 2097151, 4194303, 8388607, 8388607, 33554431, 67108863, 134217727, 268435455, 268435455, 805306367, 1879048191, 4026531839, 8589934591, 17179869183, 34359738367, 68719476735, 68719476735, 206158430207, 481036337151, 1030792151039, 2199023255551, 4398046511103, 8796093022207, 17592186044415, 17592186044415, 52776558133247, 123145302310911, 263882790666239, 562949953421311, 1125899906842623, 2251799813685247, 4503599627370495, 9007199254740991, 4503599627370495, 36028797018963967, 72057594037927935, 144115188075855871, 288230376151711743, 576460752303423487, 1152921504606846975, 2305843009213693951, 4611686018427387903, 9223372036854775807, 18446744073709551615, 36893488147419103231, 73786976294838206463, 147573952589676412927, 295147905179352825855, 18446744073709551615, 1180591620717411303423, 2361183241434822606847, 4722366482869645213695, 9444732965739290427391, 9444732965739290427391, 28334198897217871282175, 66113130760175032991743, 151115727451828646838271, 302231454903657293676543, 604462909807314587353087, 1208925819614629174706175, 2417851639229258349412351, 4835703278458516698824703, 4835703278458516698824703, 14507109835375550096474111, 38685626227668133590597631, 77371252455336267181195263, 154742504910672534362390527, 309485009821345068724781055, 618970019642690137449562111] 85 85 27 rfl (by kernel_rfl) (fun i r40 N40 => match i with | 0 => (r40 0) = .int .i64 0 | 1 => (r40 1) = .bool true | 2 => (r40 2) = .bool true | 3 => (r40 3) = .int .i64 0 | 4 => (r40 4) = .bool true | 5 => (r40 5) = .bool true | 6 => (r40 6) = .bool true | 7 => (r40 7) = .int .i64 0 | 8 => (r40 8) = .bool true | 9 => (r40 9) = .bool true | 10 => (r40 10) = .bool true | 11 => (r40 11) = .int .i64 0 | 12 => (r40 12) = .bool true | 13 => (r40 13) = .bool true | 14 => (r40 14) = .bool true | 15 => (r40 15) = .int .i64 1 | 16 => (r40 16) = .bool true | 17 => (r40 17) = .bool true | 18 => (r40 18) = .bool true | 19 => (r40 19) = .int .i64 0 | 20 => (r40 20) = .bool true | 21 => (r40 21) = .bool true | 22 => (r40 22) = .bool true | 23 => (r40 23) = u6 | 24 => (r40 24) = .slice (some ⟨(sblk (r40 24)), 0, none⟩) 1 1 ∧ (N40 24) = [(sblk (r40 24), .cells ⟨List.flatten [[.int .i64 0]]⟩ 3 (0, 0))] ∧ Own 3 1 (.slice (some ⟨(sblk (r40 24)), 0, none⟩) 1 1) [[.int .i64 0]] (N40 24) | 25 => (r40 25) = .bool true | 26 => (r40 26) = .bool true | 27 => (r40 27) = .bool true | 28 => (r40 28) = .agg ⟨(ZC (r7 2))⟩ | 29 => (r40 29) = .agg ⟨(cel (r40 29))⟩ ∧ OT (eVa 0) (cel (r40 29)) (N40 29) | 30 => (r40 30) = .agg ⟨(cel (r40 30))⟩ ∧ OT (eNu 5) (cel (r40 30)) (N40 30) | 31 => (r40 31) = .agg ⟨(cel (r40 31))⟩ ∧ (((cel (r40 31))).length = 36 ∧ okc ((cel (r40 31))) ∧ ∀ h, Has ((N40 31)) h → RT h ((cel (r40 29))) (eVa 0) → RT h ((cel (r40 30))) (eNu 5) → RT h ((cel (r40 31))) (eAp (eVa 0) (eNu 5))) | 32 => (r40 32) = .agg ⟨(cel (r40 32))⟩ ∧ (((cel (r40 32))).length = 36 ∧ okc ((cel (r40 32))) ∧ ∀ h, Has ((N40 32)) h → RT h ((cel (r40 31))) (eAp (eVa 0) (eNu 5)) → RT h ((cel (r40 32))) (eLa (eAp (eVa 0) (eNu 5)))) | 33 => (r40 33) = .bool true | 34 => (r40 34) = .bool true | 35 => (r40 35) = .bool true | 36 => (r40 36) = .agg ⟨(ZC (r18 2))⟩ | 37 => (r40 37) = .agg ⟨(cel (r40 37))⟩ ∧ OT (eVa 0) (cel (r40 37)) (N40 37) | 38 => (r40 38) = .agg ⟨(cel (r40 38))⟩ ∧ OT (eVa 4) (cel (r40 38)) (N40 38) | 39 => (r40 39) = .agg ⟨(cel (r40 39))⟩ ∧ (((cel (r40 39))).length = 36 ∧ okc ((cel (r40 39))) ∧ ∀ h, Has ((N40 39)) h → RT h ((cel (r40 37))) (eVa 0) → RT h ((cel (r40 38))) (eVa 4) → RT h ((cel (r40 39))) (eAp (eVa 0) (eVa 4))) | 40 => (r40 40) = .agg ⟨(cel (r40 40))⟩ ∧ (((cel (r40 40))).length = 36 ∧ okc ((cel (r40 40))) ∧ ∀ h, Has ((N40 40)) h → RT h ((cel (r40 39))) (eAp (eVa 0) (eVa 4)) → RT h ((cel (r40 40))) (eLa (eAp (eVa 0) (eVa 4)))) | 41 => (r40 41) = .bool true | 42 => (r40 42) = .bool true | 43 => (r40 43) = .bool true | 44 => (r40 44) = .agg ⟨cs29⟩ | 45 => (r40 45) = .agg ⟨(cel (r40 45))⟩ ∧ OT (eVa 0) (cel (r40 45)) (N40 45) | 46 => (r40 46) = .agg ⟨(cel (r40 46))⟩ ∧ OT (eVa 3) (cel (r40 46)) (N40 46) | 47 => (r40 47) = .agg ⟨(cel (r40 47))⟩ ∧ (((cel (r40 47))).length = 36 ∧ okc ((cel (r40 47))) ∧ ∀ h, Has ((N40 47)) h → RT h ((cel (r40 45))) (eVa 0) → RT h ((cel (r40 46))) (eVa 3) → RT h ((cel (r40 47))) (eAp (eVa 0) (eVa 3))) | 48 => (r40 48) = .agg ⟨(cel (r40 48))⟩ ∧ (((cel (r40 48))).length = 36 ∧ okc ((cel (r40 48))) ∧ ∀ h, Has ((N40 48)) h → RT h ((cel (r40 47))) (eAp (eVa 0) (eVa 3)) → RT h ((cel (r40 48))) (eLa (eAp (eVa 0) (eVa 3)))) | 49 => (r40 49) = .bool true | 50 => (r40 50) = .bool true | 51 => (r40 51) = .bool true | 52 => (r40 52) = .pointer (some ⟨b39, 34, none⟩) | 53 => (r40 53) = ns38 | 54 => (r40 54) = .slice (some ⟨(sblk (r40 54)), 0, none⟩) 1 1 ∧ (N40 54) = [(sblk (r40 54), .cells ⟨List.flatten [[.string (ltr 1)]]⟩ 9 (0, 0))] ∧ Own 9 1 (.slice (some ⟨(sblk (r40 54)), 0, none⟩) 1 1) [[.string (ltr 1)]] (N40 54) | 55 => (r40 55) = .bool true | 56 => (r40 56) = .bool true | 57 => (r40 57) = .bool true | 58 => (r40 58) = .pointer (some ⟨b39, 35, none⟩) | 59 => (r40 59) = nks38 | 60 => (r40 60) = .int .i64 1 | 61 => (r40 61) = .bool true | 62 => (r40 62) = .bool true | 63 => (r40 63) = .bool true | 64 => (r40 64) = .pointer (some ⟨b39, 35, none⟩) | 65 => (r40 65) = nks38 | 66 => (r40 66) = .pointer (some ⟨b42, 0 + 0 * 37, none⟩) | 67 => (r40 67) = .pointer (some ⟨b42, 0 + 0 * 37 + 34, none⟩) | 68 => (r40 68) = ms38 | 69 => (r40 69) = .slice (some ⟨(sblk (r40 69)), 0, none⟩) 1 1 ∧ (N40 69) = [(sblk (r40 69), .cells ⟨List.flatten [[.string (ltr 2)]]⟩ 9 (0, 0))] ∧ Own 9 1 (.slice (some ⟨(sblk (r40 69)), 0, none⟩) 1 1) [[.string (ltr 2)]] (N40 69) | 70 => (r40 70) = .bool true | 71 => (r40 71) = .bool true | 72 => (r40 72) = .bool true | 73 => (r40 73) = .agg ⟨sC zS⟩ | 74 => (r40 74) = .agg ⟨(cel (r40 74))⟩ ∧ OT (eNu 1) (cel (r40 74)) (N40 74) | 75 => (r40 75) = .agg ⟨(cel (r40 75))⟩ ∧ OT (eVa 0) (cel (r40 75)) (N40 75) | 76 => (r40 76) = .slice (some ⟨(sblk (r40 76)), 0, none⟩) 2 2 ∧ (N40 76) = [(sblk (r40 76), .cells ⟨List.flatten [(cel (r40 74)), (cel (r40 75))]⟩ 27 (0, 0))] ∧ Own 27 36 (.slice (some ⟨(sblk (r40 76)), 0, none⟩) 2 2) [(cel (r40 74)), (cel (r40 75))] (N40 76) | 77 => (r40 77) = .agg ⟨pkT 12 0 zS (.slice (some ⟨(sblk (r40 76)), 0, none⟩) 2 2) (.slice none 0 0)⟩ | 78 => (r40 78) = .int .i64 0 | 79 => (r40 79) = .bool true | 80 => (r40 80) = .bool true | 81 => (r40 81) = .bool true | 82 => (r40 82) = .agg ⟨sC zS⟩ | 83 => (r40 83) = .agg ⟨(cel (r40 83))⟩ ∧ OT (eNu 1) (cel (r40 83)) (N40 83) | 84 => (r40 84) = .slice (some ⟨(sblk (r40 84)), 0, none⟩) 1 1 ∧ (N40 84) = [(sblk (r40 84), .cells ⟨List.flatten [(cel (r40 83))]⟩ 27 (0, 0))] ∧ Own 27 36 (.slice (some ⟨(sblk (r40 84)), 0, none⟩) 1 1) [(cel (r40 83))] (N40 84) | _ => True) ⟨?_, ?_, ?_, ?_, ?_, ?_, ?_, ?_, ?_, ?_, ?_, ?_, ?_, ?_, ?_, ?_, ?_, ?_, ?_, ?_, ?_, ?_, ?_, ?_, ?_, ?_, ?_, ?_, ?_, ?_, ?_, ?_, ?_, ?_, ?_, ?_, ?_, ?_, ?_, ?_, ?_, ?_, ?_, ?_, ?_, ?_, ?_, ?_, ?_, ?_, ?_, ?_, ?_, ?_, ?_, ?_, ?_, ?_, ?_, ?_, ?_, ?_, ?_, ?_, ?_, ?_, ?_, ?_, ?_, ?_, ?_, ?_, ?_, ?_, ?_, ?_, ?_, ?_, ?_, ?_, ?_, ?_, ?_, ?_, ?_, trivial⟩ ?_
 ·intro ρ r40 N40 B hB hBa hp hr hr0
  have q3 : ρ 3 = .int .i64 0 := hr0 3 (by kernel_rfl)
  obtain ⟨ρ43, rfl⟩ := Ze (uc q3 un)
  clear q3
  refine Za (v := .int .i64 0) rfl (Pu.move rfl) ?_
  refine Zb ?_
  exact ⟨.int .i64 0, [], rfl, (Sub.emp Sub.refl), rfl⟩
 ·intro ρ r40 N40 B hB hBa hp hr hr0
  have q53 : ρ 53 = .int .i64 0 := (hr 0 _ _ (by decide) rfl rfl rfl).trans (hp 0 (by decide) rfl)
  obtain ⟨ρ44, rfl⟩ := Ze (uc q53 un)
  clear q53
  refine Za (v := .bool true) rfl (show Pu _ _ _ (.bool (decide ((0 : Int) = 0))) from Pu.eql rfl rfl) ?_
  refine Zb ?_
  exact ⟨.bool true, [], rfl, (Sub.emp Sub.refl), rfl⟩
 ·intro ρ r40 N40 B hB hBa hp hr hr0
  have q54 : ρ 54 = .bool true := (hr 1 _ _ (by decide) rfl rfl rfl).trans (hp 1 (by decide) rfl)
  obtain ⟨ρ45, rfl⟩ := Ze (uc q54 un)
  clear q54
  refine Za (v := .bool true) rfl (Pu.move rfl) ?_
  refine Zb ?_
  exact ⟨.bool true, [], rfl, (Sub.emp Sub.refl), rfl⟩
 ·intro ρ r40 N40 B hB hBa hp hr hr0
  have q5 : ρ 5 = .int .i64 0 := hr0 5 (by kernel_rfl)
  have q55 : ρ 55 = .bool true := (hr 2 _ _ (by decide) rfl rfl rfl).trans (hp 2 (by decide) rfl)
  obtain ⟨ρ46, rfl⟩ := Ze (uc q5 (uc q55 un))
  clear q5 q55
  refine Za (v := .int .i64 0) rfl (Pu.move rfl) ?_
  refine Zb ?_
  exact ⟨.int .i64 0, [], rfl, (Sub.emp Sub.refl), rfl⟩
 ·intro ρ r40 N40 B hB hBa hp hr hr0
  have q55 : ρ 55 = .bool true := (hr 2 _ _ (by decide) rfl rfl rfl).trans (hp 2 (by decide) rfl)
  have q56 : ρ 56 = .int .i64 0 := (hr 3 _ _ (by decide) rfl rfl rfl).trans (hp 3 (by decide) rfl)
  obtain ⟨ρ47, rfl⟩ := Ze (uc q55 (uc q56 un))
  clear q55 q56
  refine Za (v := .bool true) rfl (show Pu _ _ _ (.bool (decide ((0 : Int) = 0))) from Pu.eql rfl rfl) ?_
  refine Zb ?_
  exact ⟨.bool true, [], rfl, (Sub.emp Sub.refl), rfl⟩
 ·intro ρ r40 N40 B hB hBa hp hr hr0
  have q55 : ρ 55 = .bool true := (hr 2 _ _ (by decide) rfl rfl rfl).trans (hp 2 (by decide) rfl)
  have q57 : ρ 57 = .bool true := (hr 4 _ _ (by decide) rfl rfl rfl).trans (hp 4 (by decide) rfl)
  obtain ⟨ρ48, rfl⟩ := Ze (uc q55 (uc q57 un))
  clear q55 q57
  refine Za (v := .bool true) rfl (Pu.pickT rfl rfl) ?_
  refine Zb ?_
  exact ⟨.bool true, [], rfl, (Sub.emp Sub.refl), rfl⟩
 ·intro ρ r40 N40 B hB hBa hp hr hr0
  have q58 : ρ 58 = .bool true := (hr 5 _ _ (by decide) rfl rfl rfl).trans (hp 5 (by decide) rfl)
  obtain ⟨ρ49, rfl⟩ := Ze (uc q58 un)
  clear q58
  refine Za (v := .bool true) rfl (Pu.move rfl) ?_
  refine Zb ?_
  exact ⟨.bool true, [], rfl, (Sub.emp Sub.refl), rfl⟩
 ·intro ρ r40 N40 B hB hBa hp hr hr0
  have q7 : ρ 7 = .int .i64 0 := hr0 7 (by kernel_rfl)
  have q59 : ρ 59 = .bool true := (hr 6 _ _ (by decide) rfl rfl rfl).trans (hp 6 (by decide) rfl)
  obtain ⟨ρ50, rfl⟩ := Ze (uc q7 (uc q59 un))
  clear q7 q59
  refine Za (v := .int .i64 0) rfl (Pu.move rfl) ?_
  refine Zb ?_
  exact ⟨.int .i64 0, [], rfl, (Sub.emp Sub.refl), rfl⟩
 ·intro ρ r40 N40 B hB hBa hp hr hr0
  have q59 : ρ 59 = .bool true := (hr 6 _ _ (by decide) rfl rfl rfl).trans (hp 6 (by decide) rfl)
  have q60 : ρ 60 = .int .i64 0 := (hr 7 _ _ (by decide) rfl rfl rfl).trans (hp 7 (by decide) rfl)
  obtain ⟨ρ51, rfl⟩ := Ze (uc q59 (uc q60 un))
  clear q59 q60
  refine Za (v := .bool true) rfl (show Pu _ _ _ (.bool (decide ((0 : Int) = 0))) from Pu.eql rfl rfl) ?_
  refine Zb ?_
  exact ⟨.bool true, [], rfl, (Sub.emp Sub.refl), rfl⟩
 ·intro ρ r40 N40 B hB hBa hp hr hr0
  have q59 : ρ 59 = .bool true := (hr 6 _ _ (by decide) rfl rfl rfl).trans (hp 6 (by decide) rfl)
  have q61 : ρ 61 = .bool true := (hr 8 _ _ (by decide) rfl rfl rfl).trans (hp 8 (by decide) rfl)
  obtain ⟨ρ52, rfl⟩ := Ze (uc q59 (uc q61 un))
  clear q59 q61
  refine Za (v := .bool true) rfl (Pu.pickT rfl rfl) ?_
  refine Zb ?_
  exact ⟨.bool true, [], rfl, (Sub.emp Sub.refl), rfl⟩
 ·intro ρ r40 N40 B hB hBa hp hr hr0
  have q62 : ρ 62 = .bool true := (hr 9 _ _ (by decide) rfl rfl rfl).trans (hp 9 (by decide) rfl)
  obtain ⟨ρ53, rfl⟩ := Ze (uc q62 un)
  clear q62
  refine Za (v := .bool true) rfl (Pu.move rfl) ?_
  refine Zb ?_
  exact ⟨.bool true, [], rfl, (Sub.emp Sub.refl), rfl⟩
 ·intro ρ r40 N40 B hB hBa hp hr hr0
  have q9 : ρ 9 = .int .i64 0 := hr0 9 (by kernel_rfl)
  have q63 : ρ 63 = .bool true := (hr 10 _ _ (by decide) rfl rfl rfl).trans (hp 10 (by decide) rfl)
  obtain ⟨ρ54, rfl⟩ := Ze (uc q9 (uc q63 un))
  clear q9 q63
  refine Za (v := .int .i64 0) rfl (Pu.move rfl) ?_
  refine Zb ?_
  exact ⟨.int .i64 0, [], rfl, (Sub.emp Sub.refl), rfl⟩
 ·intro ρ r40 N40 B hB hBa hp hr hr0
  have q63 : ρ 63 = .bool true := (hr 10 _ _ (by decide) rfl rfl rfl).trans (hp 10 (by decide) rfl)
  have q64 : ρ 64 = .int .i64 0 := (hr 11 _ _ (by decide) rfl rfl rfl).trans (hp 11 (by decide) rfl)
  obtain ⟨ρ55, rfl⟩ := Ze (uc q63 (uc q64 un))
  clear q63 q64
  refine Za (v := .bool true) rfl (show Pu _ _ _ (.bool (decide ((0 : Int) = 0))) from Pu.eql rfl rfl) ?_
  refine Zb ?_
  exact ⟨.bool true, [], rfl, (Sub.emp Sub.refl), rfl⟩
 ·intro ρ r40 N40 B hB hBa hp hr hr0
  have q63 : ρ 63 = .bool true := (hr 10 _ _ (by decide) rfl rfl rfl).trans (hp 10 (by decide) rfl)
  have q65 : ρ 65 = .bool true := (hr 12 _ _ (by decide) rfl rfl rfl).trans (hp 12 (by decide) rfl)
  obtain ⟨ρ56, rfl⟩ := Ze (uc q63 (uc q65 un))
  clear q63 q65
  refine Za (v := .bool true) rfl (Pu.pickT rfl rfl) ?_
  refine Zb ?_
  exact ⟨.bool true, [], rfl, (Sub.emp Sub.refl), rfl⟩
 ·intro ρ r40 N40 B hB hBa hp hr hr0
  have q66 : ρ 66 = .bool true := (hr 13 _ _ (by decide) rfl rfl rfl).trans (hp 13 (by decide) rfl)
  obtain ⟨ρ57, rfl⟩ := Ze (uc q66 un)
  clear q66
  refine Za (v := .bool true) rfl (Pu.move rfl) ?_
  refine Zb ?_
  exact ⟨.bool true, [], rfl, (Sub.emp Sub.refl), rfl⟩
 ·intro ρ r40 N40 B hB hBa hp hr hr0
  have q11 : ρ 11 = .int .i64 1 := hr0 11 (by kernel_rfl)
  have q67 : ρ 67 = .bool true := (hr 14 _ _ (by decide) rfl rfl rfl).trans (hp 14 (by decide) rfl)
  obtain ⟨ρ58, rfl⟩ := Ze (uc q11 (uc q67 un))
  clear q11 q67
  refine Za (v := .int .i64 1) rfl (Pu.move rfl) ?_
  refine Zb ?_
  exact ⟨.int .i64 1, [], rfl, (Sub.emp Sub.refl), rfl⟩
 ·intro ρ r40 N40 B hB hBa hp hr hr0
  have q67 : ρ 67 = .bool true := (hr 14 _ _ (by decide) rfl rfl rfl).trans (hp 14 (by decide) rfl)
  have q68 : ρ 68 = .int .i64 1 := (hr 15 _ _ (by decide) rfl rfl rfl).trans (hp 15 (by decide) rfl)
  obtain ⟨ρ59, rfl⟩ := Ze (uc q67 (uc q68 un))
  clear q67 q68
  refine Za (v := .bool true) rfl (show Pu _ _ _ (.bool (decide ((1 : Int) = 1))) from Pu.eql rfl rfl) ?_
  refine Zb ?_
  exact ⟨.bool true, [], rfl, (Sub.emp Sub.refl), rfl⟩
 ·intro ρ r40 N40 B hB hBa hp hr hr0
  have q67 : ρ 67 = .bool true := (hr 14 _ _ (by decide) rfl rfl rfl).trans (hp 14 (by decide) rfl)
  have q69 : ρ 69 = .bool true := (hr 16 _ _ (by decide) rfl rfl rfl).trans (hp 16 (by decide) rfl)
  obtain ⟨ρ60, rfl⟩ := Ze (uc q67 (uc q69 un))
  clear q67 q69
  refine Za (v := .bool true) rfl (Pu.pickT rfl rfl) ?_
  refine Zb ?_
  exact ⟨.bool true, [], rfl, (Sub.emp Sub.refl), rfl⟩
 ·intro ρ r40 N40 B hB hBa hp hr hr0
  have q70 : ρ 70 = .bool true := (hr 17 _ _ (by decide) rfl rfl rfl).trans (hp 17 (by decide) rfl)
  obtain ⟨ρ61, rfl⟩ := Ze (uc q70 un)
  clear q70
  refine Za (v := .bool true) rfl (Pu.move rfl) ?_
  refine Zb ?_
  exact ⟨.bool true, [], rfl, (Sub.emp Sub.refl), rfl⟩
 ·intro ρ r40 N40 B hB hBa hp hr hr0
  have q13 : ρ 13 = .int .i64 0 := hr0 13 (by kernel_rfl)
  have q71 : ρ 71 = .bool true := (hr 18 _ _ (by decide) rfl rfl rfl).trans (hp 18 (by decide) rfl)
  obtain ⟨ρ62, rfl⟩ := Ze (uc q13 (uc q71 un))
  clear q13 q71
  refine Za (v := .int .i64 0) rfl (Pu.move rfl) ?_
  refine Zb ?_
  exact ⟨.int .i64 0, [], rfl, (Sub.emp Sub.refl), rfl⟩
 ·intro ρ r40 N40 B hB hBa hp hr hr0
  have q71 : ρ 71 = .bool true := (hr 18 _ _ (by decide) rfl rfl rfl).trans (hp 18 (by decide) rfl)
  have q72 : ρ 72 = .int .i64 0 := (hr 19 _ _ (by decide) rfl rfl rfl).trans (hp 19 (by decide) rfl)
  obtain ⟨ρ63, rfl⟩ := Ze (uc q71 (uc q72 un))
  clear q71 q72
  refine Za (v := .bool true) rfl (show Pu _ _ _ (.bool (decide ((0 : Int) = 0))) from Pu.eql rfl rfl) ?_
  refine Zb ?_
  exact ⟨.bool true, [], rfl, (Sub.emp Sub.refl), rfl⟩
 ·intro ρ r40 N40 B hB hBa hp hr hr0
  have q71 : ρ 71 = .bool true := (hr 18 _ _ (by decide) rfl rfl rfl).trans (hp 18 (by decide) rfl)
  have q73 : ρ 73 = .bool true := (hr 20 _ _ (by decide) rfl rfl rfl).trans (hp 20 (by decide) rfl)
  obtain ⟨ρ64, rfl⟩ := Ze (uc q71 (uc q73 un))
  clear q71 q73
  refine Za (v := .bool true) rfl (Pu.pickT rfl rfl) ?_
  refine Zb ?_
  exact ⟨.bool true, [], rfl, (Sub.emp Sub.refl), rfl⟩
 ·intro ρ r40 N40 B hB hBa hp hr hr0
  have q74 : ρ 74 = .bool true := (hr 21 _ _ (by decide) rfl rfl rfl).trans (hp 21 (by decide) rfl)
  obtain ⟨ρ65, rfl⟩ := Ze (uc q74 un)
  clear q74
  refine Za (v := .bool true) rfl (Pu.move rfl) ?_
  refine Zb ?_
  exact ⟨.bool true, [], rfl, (Sub.emp Sub.refl), rfl⟩
 ·intro ρ r40 N40 B hB hBa hp hr hr0
  have q2 : ρ 2 = u6 := hr0 2 (by kernel_rfl)
  have q75 : ρ 75 = .bool true := (hr 22 _ _ (by decide) rfl rfl rfl).trans (hp 22 (by decide) rfl)
  obtain ⟨ρ66, rfl⟩ := Ze (uc q2 (uc q75 un))
  clear q2 q75
  refine Za (v := u6) rfl (Pu.move rfl) ?_
  refine Zb ?_
  exact ⟨u6, [], rfl, (Sub.emp Sub.refl), rfl⟩
 ·intro ρ r40 N40 B hB hBa hp hr hr0
  have q75 : ρ 75 = .bool true := (hr 22 _ _ (by decide) rfl rfl rfl).trans (hp 22 (by decide) rfl)
  obtain ⟨ρ67, rfl⟩ := Ze (uc q75 un)
  clear q75
  refine Zd rfl (ZA (vs := [.int .i64 0]) [[.int .i64 0]] Tryz.runUnderlying43 el3 rfl rfl (by intro e he; simp only [List.mem_cons, List.not_mem_nil, or_false] at he; subst he; exact rfl) rfl (by decide) fun b68 k68 ho68 hk68 => ?_)
  refine Zb ?_
  exact ⟨.slice (some ⟨b68, 0, none⟩) 1 1, k68, rfl, Sub.refl, ⟨rfl, hk68, ho68⟩⟩
 ·intro ρ r40 N40 B hB hBa hp hr hr0
  have p24 : (r40 24) = .slice (some ⟨(sblk (r40 24)), 0, none⟩) 1 1 ∧ (N40 24) = [(sblk (r40 24), .cells ⟨List.flatten [[.int .i64 0]]⟩ 3 (0, 0))] ∧ Own 3 1 (.slice (some ⟨(sblk (r40 24)), 0, none⟩) 1 1) [[.int .i64 0]] (N40 24) := hp 24 (by decide) rfl
  have q75 : ρ 75 = .bool true := (hr 22 _ _ (by decide) rfl rfl rfl).trans (hp 22 (by decide) rfl)
  have q76 : ρ 76 = u6 := (hr 23 _ _ (by decide) rfl rfl rfl).trans (hp 23 (by decide) rfl)
  have q77 : ρ 77 = .slice (some ⟨(sblk (r40 24)), 0, none⟩) 1 1 := (hr 24 _ _ (by decide) rfl rfl rfl).trans p24.1
  obtain ⟨ρ69, rfl⟩ := Ze (uc q75 (uc q76 (uc q77 un)))
  clear q75 q76 q77
  refine Zk rfl Tryz.call21 rfl (fun hin => bool_r (r := true) (equalI_ct _ _ _ _ _ (own_ints ho6 (by simp) (hin 106 _ (Zu ((hB 21 (by decide)).trans rfl)))) (own_ints (l := [0]) p24.2.2 (by simp) (hin 24 _ (made_new rfl rfl)))) (eqL_true rfl)) rfl ?_
  rintro _ _ ⟨rfl, rfl⟩
  refine Zb ?_
  exact ⟨.bool true, [], rfl, (Sub.emp Sub.refl), rfl⟩
 ·intro ρ r40 N40 B hB hBa hp hr hr0
  have q75 : ρ 75 = .bool true := (hr 22 _ _ (by decide) rfl rfl rfl).trans (hp 22 (by decide) rfl)
  have q78 : ρ 78 = .bool true := (hr 25 _ _ (by decide) rfl rfl rfl).trans (hp 25 (by decide) rfl)
  obtain ⟨ρ70, rfl⟩ := Ze (uc q75 (uc q78 un))
  clear q75 q78
  refine Za (v := .bool true) rfl (Pu.pickT rfl rfl) ?_
  refine Zb ?_
  exact ⟨.bool true, [], rfl, (Sub.emp Sub.refl), rfl⟩
 ·intro ρ r40 N40 B hB hBa hp hr hr0
  have q79 : ρ 79 = .bool true := (hr 26 _ _ (by decide) rfl rfl rfl).trans (hp 26 (by decide) rfl)
  obtain ⟨ρ71, rfl⟩ := Ze (uc q79 un)
  clear q79
  refine Za (v := .bool true) rfl (Pu.move rfl) ?_
  refine Zb ?_
  exact ⟨.bool true, [], rfl, (Sub.emp Sub.refl), rfl⟩
 ·intro ρ r40 N40 B hB hBa hp hr hr0
  have q4 : ρ 4 = .pointer (some ⟨(pblk (r7 6)), 0, none⟩) := hr0 4 (by kernel_rfl)
  have q80 : ρ 80 = .bool true := (hr 27 _ _ (by decide) rfl rfl rfl).trans (hp 27 (by decide) rfl)
  obtain ⟨ρ72, rfl⟩ := Ze (uc q4 (uc q80 un))
  clear q4 q80
  refine Zd rfl (Zj Zt rfl (At.bx 105 (Zu ((hB 20 (by decide)).trans rfl))) (Zy p7_2.2.len) ?_)
  refine Zb ?_
  exact ⟨.agg ⟨(ZC (r7 2))⟩, [], rfl, (Sub.emp Sub.refl), rfl⟩
 ·intro ρ r40 N40 B hB hBa hp hr hr0
  have q80 : ρ 80 = .bool true := (hr 27 _ _ (by decide) rfl rfl rfl).trans (hp 27 (by decide) rfl)
  obtain ⟨ρ73, rfl⟩ := Ze (uc q80 un)
  clear q80
  refine Zk rfl Tryz.call40 rfl (fun hin => va_ct _ _ (by unfold inI; omega)) rfl ?_
  rintro _ _ ⟨cs74, k74, rfl, rfl, hO74⟩
  refine Zb ?_
  exact ⟨.agg ⟨cs74⟩, k74, rfl, Sub.refl, ⟨rfl, hO74⟩⟩
 ·intro ρ r40 N40 B hB hBa hp hr hr0
  have q80 : ρ 80 = .bool true := (hr 27 _ _ (by decide) rfl rfl rfl).trans (hp 27 (by decide) rfl)
  obtain ⟨ρ75, rfl⟩ := Ze (uc q80 un)
  clear q80
  refine Zk rfl Tryz.call6 rfl (fun hin => nu_ct _ _ (by unfold inI; omega)) rfl ?_
  rintro _ _ ⟨cs76, k76, rfl, rfl, hO76⟩
  refine Zb ?_
  exact ⟨.agg ⟨cs76⟩, k76, rfl, Sub.refl, ⟨rfl, hO76⟩⟩
 ·intro ρ r40 N40 B hB hBa hp hr hr0
  have p29 : (r40 29) = .agg ⟨(cel (r40 29))⟩ ∧ OT (eVa 0) (cel (r40 29)) (N40 29) := hp 29 (by decide) rfl
  have p30 : (r40 30) = .agg ⟨(cel (r40 30))⟩ ∧ OT (eNu 5) (cel (r40 30)) (N40 30) := hp 30 (by decide) rfl
  have q80 : ρ 80 = .bool true := (hr 27 _ _ (by decide) rfl rfl rfl).trans (hp 27 (by decide) rfl)
  have q82 : ρ 82 = .agg ⟨(cel (r40 29))⟩ := (hr 29 _ _ (by decide) rfl rfl rfl).trans p29.1
  have q83 : ρ 83 = .agg ⟨(cel (r40 30))⟩ := (hr 30 _ _ (by decide) rfl rfl rfl).trans p30.1
  obtain ⟨ρ77, rfl⟩ := Ze (uc q80 (uc q82 (uc q83 un)))
  clear q80 q82 q83
  refine Zk rfl Tryz.call39 rfl (fun hin => ap_ct _ _ p29.2.len p29.2.ok _ p30.2.len p30.2.ok) rfl ?_
  rintro _ _ ⟨cs78, k78, rfl, rfl, hC78⟩
  replace hC78 : (cs78.length = 36 ∧ okc cs78 ∧ ∀ h, Has k78 h → RT h ((cel (r40 29))) (eVa 0) → RT h ((cel (r40 30))) (eNu 5) → RT h cs78 (eAp (eVa 0) (eNu 5))) := ⟨hC78.1, hC78.2.1, hC78.2.2 (eVa 0) (eNu 5)⟩
  refine Zb ?_
  exact ⟨.agg ⟨cs78⟩, k78, rfl, Sub.refl, ⟨rfl, hC78⟩⟩
 ·intro ρ r40 N40 B hB hBa hp hr hr0
  have p31 : (r40 31) = .agg ⟨(cel (r40 31))⟩ ∧ (((cel (r40 31))).length = 36 ∧ okc ((cel (r40 31))) ∧ ∀ h, Has ((N40 31)) h → RT h ((cel (r40 29))) (eVa 0) → RT h ((cel (r40 30))) (eNu 5) → RT h ((cel (r40 31))) (eAp (eVa 0) (eNu 5))) := hp 31 (by decide) rfl
  have q80 : ρ 80 = .bool true := (hr 27 _ _ (by decide) rfl rfl rfl).trans (hp 27 (by decide) rfl)
  have q84 : ρ 84 = .agg ⟨(cel (r40 31))⟩ := (hr 31 _ _ (by decide) rfl rfl rfl).trans p31.1
  obtain ⟨ρ79, rfl⟩ := Ze (uc q80 (uc q84 un))
  clear q80 q84
  refine Zk rfl Tryz.call38 rfl (fun hin => la_ct _ _ p31.2.1 p31.2.2.1) rfl ?_
  rintro _ _ ⟨cs80, k80, rfl, rfl, hC80⟩
  replace hC80 : (cs80.length = 36 ∧ okc cs80 ∧ ∀ h, Has k80 h → RT h ((cel (r40 31))) (eAp (eVa 0) (eNu 5)) → RT h cs80 (eLa (eAp (eVa 0) (eNu 5)))) := ⟨hC80.1, hC80.2.1, hC80.2.2 (eAp (eVa 0) (eNu 5))⟩
  refine Zb ?_
  exact ⟨.agg ⟨cs80⟩, k80, rfl, Sub.refl, ⟨rfl, hC80⟩⟩
 ·intro ρ r40 N40 B hB hBa hp hr hr0
  have p29 : (r40 29) = .agg ⟨(cel (r40 29))⟩ ∧ OT (eVa 0) (cel (r40 29)) (N40 29) := hp 29 (by decide) rfl
  have p30 : (r40 30) = .agg ⟨(cel (r40 30))⟩ ∧ OT (eNu 5) (cel (r40 30)) (N40 30) := hp 30 (by decide) rfl
  have p31 : (r40 31) = .agg ⟨(cel (r40 31))⟩ ∧ (((cel (r40 31))).length = 36 ∧ okc ((cel (r40 31))) ∧ ∀ h, Has ((N40 31)) h → RT h ((cel (r40 29))) (eVa 0) → RT h ((cel (r40 30))) (eNu 5) → RT h ((cel (r40 31))) (eAp (eVa 0) (eNu 5))) := hp 31 (by decide) rfl
  have p32 : (r40 32) = .agg ⟨(cel (r40 32))⟩ ∧ (((cel (r40 32))).length = 36 ∧ okc ((cel (r40 32))) ∧ ∀ h, Has ((N40 32)) h → RT h ((cel (r40 31))) (eAp (eVa 0) (eNu 5)) → RT h ((cel (r40 32))) (eLa (eAp (eVa 0) (eNu 5)))) := hp 32 (by decide) rfl
  have q80 : ρ 80 = .bool true := (hr 27 _ _ (by decide) rfl rfl rfl).trans (hp 27 (by decide) rfl)
  have q81 : ρ 81 = .agg ⟨(ZC (r7 2))⟩ := (hr 28 _ _ (by decide) rfl rfl rfl).trans (hp 28 (by decide) rfl)
  have q85 : ρ 85 = .agg ⟨(cel (r40 32))⟩ := (hr 32 _ _ (by decide) rfl rfl rfl).trans p32.1
  obtain ⟨ρ81, rfl⟩ := Ze (uc q80 (uc q81 (uc q85 un)))
  clear q80 q81 q85
  refine Zk rfl Tryz.call24 rfl (fun hin => bool_r (r := true) (sameTerm_ct _ _ _ _ _ (p7_2.2.rd (hin 104 _ (Zu ((hB 19 (by decide)).trans rfl)))) (p32.2.2.2 _ (hin 32 _ (made_new rfl rfl)) (p31.2.2.2 _ (hin 31 _ (made_new rfl rfl)) (p29.2.rd (hin 29 _ (made_new rfl rfl))) (p30.2.rd (hin 30 _ (made_new rfl rfl)))))) (decide_eq_true rfl)) rfl ?_
  rintro _ _ ⟨rfl, rfl⟩
  refine Zb ?_
  exact ⟨.bool true, [], rfl, (Sub.emp Sub.refl), rfl⟩
 ·intro ρ r40 N40 B hB hBa hp hr hr0
  have q80 : ρ 80 = .bool true := (hr 27 _ _ (by decide) rfl rfl rfl).trans (hp 27 (by decide) rfl)
  have q86 : ρ 86 = .bool true := (hr 33 _ _ (by decide) rfl rfl rfl).trans (hp 33 (by decide) rfl)
  obtain ⟨ρ82, rfl⟩ := Ze (uc q80 (uc q86 un))
  clear q80 q86
  refine Za (v := .bool true) rfl (Pu.pickT rfl rfl) ?_
  refine Zb ?_
  exact ⟨.bool true, [], rfl, (Sub.emp Sub.refl), rfl⟩
 ·intro ρ r40 N40 B hB hBa hp hr hr0
  have q87 : ρ 87 = .bool true := (hr 34 _ _ (by decide) rfl rfl rfl).trans (hp 34 (by decide) rfl)
  obtain ⟨ρ83, rfl⟩ := Ze (uc q87 un)
  clear q87
  refine Za (v := .bool true) rfl (Pu.move rfl) ?_
  refine Zb ?_
  exact ⟨.bool true, [], rfl, (Sub.emp Sub.refl), rfl⟩
 ·intro ρ r40 N40 B hB hBa hp hr hr0
  have q6 : ρ 6 = .pointer (some ⟨(pblk (r18 6)), 0, none⟩) := hr0 6 (by kernel_rfl)
  have q88 : ρ 88 = .bool true := (hr 35 _ _ (by decide) rfl rfl rfl).trans (hp 35 (by decide) rfl)
  obtain ⟨ρ84, rfl⟩ := Ze (uc q6 (uc q88 un))
  clear q6 q88
  refine Zd rfl (Zj Zt rfl (At.bx 102 (Zu ((hB 17 (by decide)).trans rfl))) (Zy p18_2.2.len) ?_)
  refine Zb ?_
  exact ⟨.agg ⟨(ZC (r18 2))⟩, [], rfl, (Sub.emp Sub.refl), rfl⟩
 ·intro ρ r40 N40 B hB hBa hp hr hr0
  have q88 : ρ 88 = .bool true := (hr 35 _ _ (by decide) rfl rfl rfl).trans (hp 35 (by decide) rfl)
  obtain ⟨ρ85, rfl⟩ := Ze (uc q88 un)
  clear q88
  refine Zk rfl Tryz.call40 rfl (fun hin => va_ct _ _ (by unfold inI; omega)) rfl ?_
  rintro _ _ ⟨cs86, k86, rfl, rfl, hO86⟩
  refine Zb ?_
  exact ⟨.agg ⟨cs86⟩, k86, rfl, Sub.refl, ⟨rfl, hO86⟩⟩
 ·intro ρ r40 N40 B hB hBa hp hr hr0
  have q88 : ρ 88 = .bool true := (hr 35 _ _ (by decide) rfl rfl rfl).trans (hp 35 (by decide) rfl)
  obtain ⟨ρ87, rfl⟩ := Ze (uc q88 un)
  clear q88
  refine Zk rfl Tryz.call40 rfl (fun hin => va_ct _ _ (by unfold inI; omega)) rfl ?_
  rintro _ _ ⟨cs88, k88, rfl, rfl, hO88⟩
  refine Zb ?_
  exact ⟨.agg ⟨cs88⟩, k88, rfl, Sub.refl, ⟨rfl, hO88⟩⟩
 ·intro ρ r40 N40 B hB hBa hp hr hr0
  have p37 : (r40 37) = .agg ⟨(cel (r40 37))⟩ ∧ OT (eVa 0) (cel (r40 37)) (N40 37) := hp 37 (by decide) rfl
  have p38 : (r40 38) = .agg ⟨(cel (r40 38))⟩ ∧ OT (eVa 4) (cel (r40 38)) (N40 38) := hp 38 (by decide) rfl
  have q88 : ρ 88 = .bool true := (hr 35 _ _ (by decide) rfl rfl rfl).trans (hp 35 (by decide) rfl)
  have q90 : ρ 90 = .agg ⟨(cel (r40 37))⟩ := (hr 37 _ _ (by decide) rfl rfl rfl).trans p37.1
  have q91 : ρ 91 = .agg ⟨(cel (r40 38))⟩ := (hr 38 _ _ (by decide) rfl rfl rfl).trans p38.1
  obtain ⟨ρ89, rfl⟩ := Ze (uc q88 (uc q90 (uc q91 un)))
  clear q88 q90 q91
  refine Zk rfl Tryz.call39 rfl (fun hin => ap_ct _ _ p37.2.len p37.2.ok _ p38.2.len p38.2.ok) rfl ?_
  rintro _ _ ⟨cs90, k90, rfl, rfl, hC90⟩
  replace hC90 : (cs90.length = 36 ∧ okc cs90 ∧ ∀ h, Has k90 h → RT h ((cel (r40 37))) (eVa 0) → RT h ((cel (r40 38))) (eVa 4) → RT h cs90 (eAp (eVa 0) (eVa 4))) := ⟨hC90.1, hC90.2.1, hC90.2.2 (eVa 0) (eVa 4)⟩
  refine Zb ?_
  exact ⟨.agg ⟨cs90⟩, k90, rfl, Sub.refl, ⟨rfl, hC90⟩⟩
 ·intro ρ r40 N40 B hB hBa hp hr hr0
  have p39 : (r40 39) = .agg ⟨(cel (r40 39))⟩ ∧ (((cel (r40 39))).length = 36 ∧ okc ((cel (r40 39))) ∧ ∀ h, Has ((N40 39)) h → RT h ((cel (r40 37))) (eVa 0) → RT h ((cel (r40 38))) (eVa 4) → RT h ((cel (r40 39))) (eAp (eVa 0) (eVa 4))) := hp 39 (by decide) rfl
  have q88 : ρ 88 = .bool true := (hr 35 _ _ (by decide) rfl rfl rfl).trans (hp 35 (by decide) rfl)
  have q92 : ρ 92 = .agg ⟨(cel (r40 39))⟩ := (hr 39 _ _ (by decide) rfl rfl rfl).trans p39.1
  obtain ⟨ρ91, rfl⟩ := Ze (uc q88 (uc q92 un))
  clear q88 q92
  refine Zk rfl Tryz.call38 rfl (fun hin => la_ct _ _ p39.2.1 p39.2.2.1) rfl ?_
  rintro _ _ ⟨cs92, k92, rfl, rfl, hC92⟩
  replace hC92 : (cs92.length = 36 ∧ okc cs92 ∧ ∀ h, Has k92 h → RT h ((cel (r40 39))) (eAp (eVa 0) (eVa 4)) → RT h cs92 (eLa (eAp (eVa 0) (eVa 4)))) := ⟨hC92.1, hC92.2.1, hC92.2.2 (eAp (eVa 0) (eVa 4))⟩
  refine Zb ?_
  exact ⟨.agg ⟨cs92⟩, k92, rfl, Sub.refl, ⟨rfl, hC92⟩⟩
 ·intro ρ r40 N40 B hB hBa hp hr hr0
  have p37 : (r40 37) = .agg ⟨(cel (r40 37))⟩ ∧ OT (eVa 0) (cel (r40 37)) (N40 37) := hp 37 (by decide) rfl
  have p38 : (r40 38) = .agg ⟨(cel (r40 38))⟩ ∧ OT (eVa 4) (cel (r40 38)) (N40 38) := hp 38 (by decide) rfl
  have p39 : (r40 39) = .agg ⟨(cel (r40 39))⟩ ∧ (((cel (r40 39))).length = 36 ∧ okc ((cel (r40 39))) ∧ ∀ h, Has ((N40 39)) h → RT h ((cel (r40 37))) (eVa 0) → RT h ((cel (r40 38))) (eVa 4) → RT h ((cel (r40 39))) (eAp (eVa 0) (eVa 4))) := hp 39 (by decide) rfl
  have p40 : (r40 40) = .agg ⟨(cel (r40 40))⟩ ∧ (((cel (r40 40))).length = 36 ∧ okc ((cel (r40 40))) ∧ ∀ h, Has ((N40 40)) h → RT h ((cel (r40 39))) (eAp (eVa 0) (eVa 4)) → RT h ((cel (r40 40))) (eLa (eAp (eVa 0) (eVa 4)))) := hp 40 (by decide) rfl
  have q88 : ρ 88 = .bool true := (hr 35 _ _ (by decide) rfl rfl rfl).trans (hp 35 (by decide) rfl)
  have q89 : ρ 89 = .agg ⟨(ZC (r18 2))⟩ := (hr 36 _ _ (by decide) rfl rfl rfl).trans (hp 36 (by decide) rfl)
  have q93 : ρ 93 = .agg ⟨(cel (r40 40))⟩ := (hr 40 _ _ (by decide) rfl rfl rfl).trans p40.1
  obtain ⟨ρ93, rfl⟩ := Ze (uc q88 (uc q89 (uc q93 un)))
  clear q88 q89 q93
  refine Zk rfl Tryz.call24 rfl (fun hin => bool_r (r := true) (sameTerm_ct _ _ _ _ _ (p18_2.2.rd (hin 101 _ (Zu ((hB 16 (by decide)).trans rfl)))) (p40.2.2.2 _ (hin 40 _ (made_new rfl rfl)) (p39.2.2.2 _ (hin 39 _ (made_new rfl rfl)) (p37.2.rd (hin 37 _ (made_new rfl rfl))) (p38.2.rd (hin 38 _ (made_new rfl rfl)))))) (decide_eq_true rfl)) rfl ?_
  rintro _ _ ⟨rfl, rfl⟩
  refine Zb ?_
  exact ⟨.bool true, [], rfl, (Sub.emp Sub.refl), rfl⟩
 ·intro ρ r40 N40 B hB hBa hp hr hr0
  have q88 : ρ 88 = .bool true := (hr 35 _ _ (by decide) rfl rfl rfl).trans (hp 35 (by decide) rfl)
  have q94 : ρ 94 = .bool true := (hr 41 _ _ (by decide) rfl rfl rfl).trans (hp 41 (by decide) rfl)
  obtain ⟨ρ94, rfl⟩ := Ze (uc q88 (uc q94 un))
  clear q88 q94
  refine Za (v := .bool true) rfl (Pu.pickT rfl rfl) ?_
  refine Zb ?_
  exact ⟨.bool true, [], rfl, (Sub.emp Sub.refl), rfl⟩
 ·intro ρ r40 N40 B hB hBa hp hr hr0
  have q95 : ρ 95 = .bool true := (hr 42 _ _ (by decide) rfl rfl rfl).trans (hp 42 (by decide) rfl)
  obtain ⟨ρ95, rfl⟩ := Ze (uc q95 un)
  clear q95
  refine Za (v := .bool true) rfl (Pu.move rfl) ?_
  refine Zb ?_
  exact ⟨.bool true, [], rfl, (Sub.emp Sub.refl), rfl⟩
 ·intro ρ r40 N40 B hB hBa hp hr hr0
  have q8 : ρ 8 = .pointer (some ⟨b30, 0, none⟩) := hr0 8 (by kernel_rfl)
  have q96 : ρ 96 = .bool true := (hr 43 _ _ (by decide) rfl rfl rfl).trans (hp 43 (by decide) rfl)
  obtain ⟨ρ96, rfl⟩ := Ze (uc q8 (uc q96 un))
  clear q8 q96
  refine Zd rfl (Zj Zt rfl (At.bx 98 (Zu ((hB 13 (by decide)).trans rfl))) (Zy hO29.len) ?_)
  refine Zb ?_
  exact ⟨.agg ⟨cs29⟩, [], rfl, (Sub.emp Sub.refl), rfl⟩
 ·intro ρ r40 N40 B hB hBa hp hr hr0
  have q96 : ρ 96 = .bool true := (hr 43 _ _ (by decide) rfl rfl rfl).trans (hp 43 (by decide) rfl)
  obtain ⟨ρ97, rfl⟩ := Ze (uc q96 un)
  clear q96
  refine Zk rfl Tryz.call40 rfl (fun hin => va_ct _ _ (by unfold inI; omega)) rfl ?_
  rintro _ _ ⟨cs98, k98, rfl, rfl, hO98⟩
  refine Zb ?_
  exact ⟨.agg ⟨cs98⟩, k98, rfl, Sub.refl, ⟨rfl, hO98⟩⟩
 ·intro ρ r40 N40 B hB hBa hp hr hr0
  have q96 : ρ 96 = .bool true := (hr 43 _ _ (by decide) rfl rfl rfl).trans (hp 43 (by decide) rfl)
  obtain ⟨ρ99, rfl⟩ := Ze (uc q96 un)
  clear q96
  refine Zk rfl Tryz.call40 rfl (fun hin => va_ct _ _ (by unfold inI; omega)) rfl ?_
  rintro _ _ ⟨cs100, k100, rfl, rfl, hO100⟩
  refine Zb ?_
  exact ⟨.agg ⟨cs100⟩, k100, rfl, Sub.refl, ⟨rfl, hO100⟩⟩
 ·intro ρ r40 N40 B hB hBa hp hr hr0
  have p45 : (r40 45) = .agg ⟨(cel (r40 45))⟩ ∧ OT (eVa 0) (cel (r40 45)) (N40 45) := hp 45 (by decide) rfl
  have p46 : (r40 46) = .agg ⟨(cel (r40 46))⟩ ∧ OT (eVa 3) (cel (r40 46)) (N40 46) := hp 46 (by decide) rfl
  have q96 : ρ 96 = .bool true := (hr 43 _ _ (by decide) rfl rfl rfl).trans (hp 43 (by decide) rfl)
  have q98 : ρ 98 = .agg ⟨(cel (r40 45))⟩ := (hr 45 _ _ (by decide) rfl rfl rfl).trans p45.1
  have q99 : ρ 99 = .agg ⟨(cel (r40 46))⟩ := (hr 46 _ _ (by decide) rfl rfl rfl).trans p46.1
  obtain ⟨ρ101, rfl⟩ := Ze (uc q96 (uc q98 (uc q99 un)))
  clear q96 q98 q99
  refine Zk rfl Tryz.call39 rfl (fun hin => ap_ct _ _ p45.2.len p45.2.ok _ p46.2.len p46.2.ok) rfl ?_
  rintro _ _ ⟨cs102, k102, rfl, rfl, hC102⟩
  replace hC102 : (cs102.length = 36 ∧ okc cs102 ∧ ∀ h, Has k102 h → RT h ((cel (r40 45))) (eVa 0) → RT h ((cel (r40 46))) (eVa 3) → RT h cs102 (eAp (eVa 0) (eVa 3))) := ⟨hC102.1, hC102.2.1, hC102.2.2 (eVa 0) (eVa 3)⟩
  refine Zb ?_
  exact ⟨.agg ⟨cs102⟩, k102, rfl, Sub.refl, ⟨rfl, hC102⟩⟩
 ·intro ρ r40 N40 B hB hBa hp hr hr0
  have p47 : (r40 47) = .agg ⟨(cel (r40 47))⟩ ∧ (((cel (r40 47))).length = 36 ∧ okc ((cel (r40 47))) ∧ ∀ h, Has ((N40 47)) h → RT h ((cel (r40 45))) (eVa 0) → RT h ((cel (r40 46))) (eVa 3) → RT h ((cel (r40 47))) (eAp (eVa 0) (eVa 3))) := hp 47 (by decide) rfl
  have q96 : ρ 96 = .bool true := (hr 43 _ _ (by decide) rfl rfl rfl).trans (hp 43 (by decide) rfl)
  have q100 : ρ 100 = .agg ⟨(cel (r40 47))⟩ := (hr 47 _ _ (by decide) rfl rfl rfl).trans p47.1
  obtain ⟨ρ103, rfl⟩ := Ze (uc q96 (uc q100 un))
  clear q96 q100
  refine Zk rfl Tryz.call38 rfl (fun hin => la_ct _ _ p47.2.1 p47.2.2.1) rfl ?_
  rintro _ _ ⟨cs104, k104, rfl, rfl, hC104⟩
  replace hC104 : (cs104.length = 36 ∧ okc cs104 ∧ ∀ h, Has k104 h → RT h ((cel (r40 47))) (eAp (eVa 0) (eVa 3)) → RT h cs104 (eLa (eAp (eVa 0) (eVa 3)))) := ⟨hC104.1, hC104.2.1, hC104.2.2 (eAp (eVa 0) (eVa 3))⟩
  refine Zb ?_
  exact ⟨.agg ⟨cs104⟩, k104, rfl, Sub.refl, ⟨rfl, hC104⟩⟩
 ·intro ρ r40 N40 B hB hBa hp hr hr0
  have p45 : (r40 45) = .agg ⟨(cel (r40 45))⟩ ∧ OT (eVa 0) (cel (r40 45)) (N40 45) := hp 45 (by decide) rfl
  have p46 : (r40 46) = .agg ⟨(cel (r40 46))⟩ ∧ OT (eVa 3) (cel (r40 46)) (N40 46) := hp 46 (by decide) rfl
  have p47 : (r40 47) = .agg ⟨(cel (r40 47))⟩ ∧ (((cel (r40 47))).length = 36 ∧ okc ((cel (r40 47))) ∧ ∀ h, Has ((N40 47)) h → RT h ((cel (r40 45))) (eVa 0) → RT h ((cel (r40 46))) (eVa 3) → RT h ((cel (r40 47))) (eAp (eVa 0) (eVa 3))) := hp 47 (by decide) rfl
  have p48 : (r40 48) = .agg ⟨(cel (r40 48))⟩ ∧ (((cel (r40 48))).length = 36 ∧ okc ((cel (r40 48))) ∧ ∀ h, Has ((N40 48)) h → RT h ((cel (r40 47))) (eAp (eVa 0) (eVa 3)) → RT h ((cel (r40 48))) (eLa (eAp (eVa 0) (eVa 3)))) := hp 48 (by decide) rfl
  have q96 : ρ 96 = .bool true := (hr 43 _ _ (by decide) rfl rfl rfl).trans (hp 43 (by decide) rfl)
  have q97 : ρ 97 = .agg ⟨cs29⟩ := (hr 44 _ _ (by decide) rfl rfl rfl).trans (hp 44 (by decide) rfl)
  have q101 : ρ 101 = .agg ⟨(cel (r40 48))⟩ := (hr 48 _ _ (by decide) rfl rfl rfl).trans p48.1
  obtain ⟨ρ105, rfl⟩ := Ze (uc q96 (uc q97 (uc q101 un)))
  clear q96 q97 q101
  refine Zk rfl Tryz.call24 rfl (fun hin => bool_r (r := true) (sameTerm_ct _ _ _ _ _ (hO29.rd (hin 99 _ (Zu ((hB 14 (by decide)).trans rfl)))) (p48.2.2.2 _ (hin 48 _ (made_new rfl rfl)) (p47.2.2.2 _ (hin 47 _ (made_new rfl rfl)) (p45.2.rd (hin 45 _ (made_new rfl rfl))) (p46.2.rd (hin 46 _ (made_new rfl rfl)))))) (decide_eq_true rfl)) rfl ?_
  rintro _ _ ⟨rfl, rfl⟩
  refine Zb ?_
  exact ⟨.bool true, [], rfl, (Sub.emp Sub.refl), rfl⟩
 ·intro ρ r40 N40 B hB hBa hp hr hr0
  have q96 : ρ 96 = .bool true := (hr 43 _ _ (by decide) rfl rfl rfl).trans (hp 43 (by decide) rfl)
  have q102 : ρ 102 = .bool true := (hr 49 _ _ (by decide) rfl rfl rfl).trans (hp 49 (by decide) rfl)
  obtain ⟨ρ106, rfl⟩ := Ze (uc q96 (uc q102 un))
  clear q96 q102
  refine Za (v := .bool true) rfl (Pu.pickT rfl rfl) ?_
  refine Zb ?_
  exact ⟨.bool true, [], rfl, (Sub.emp Sub.refl), rfl⟩
 ·intro ρ r40 N40 B hB hBa hp hr hr0
  have q103 : ρ 103 = .bool true := (hr 50 _ _ (by decide) rfl rfl rfl).trans (hp 50 (by decide) rfl)
  obtain ⟨ρ107, rfl⟩ := Ze (uc q103 un)
  clear q103
  refine Za (v := .bool true) rfl (Pu.move rfl) ?_
  refine Zb ?_
  exact ⟨.bool true, [], rfl, (Sub.emp Sub.refl), rfl⟩
 ·intro ρ r40 N40 B hB hBa hp hr hr0
  have q12 : ρ 12 = .pointer (some ⟨b39, 0, none⟩) := hr0 12 (by kernel_rfl)
  have q104 : ρ 104 = .bool true := (hr 51 _ _ (by decide) rfl rfl rfl).trans (hp 51 (by decide) rfl)
  obtain ⟨ρ108, rfl⟩ := Ze (uc q12 (uc q104 un))
  clear q12 q104
  refine Za (v := .pointer (some ⟨b39, 34, none⟩)) rfl (fa75_3 rfl rfl) ?_
  refine Zb ?_
  exact ⟨.pointer (some ⟨b39, 34, none⟩), [], rfl, (Sub.emp Sub.refl), rfl⟩
 ·intro ρ r40 N40 B hB hBa hp hr hr0
  have q104 : ρ 104 = .bool true := (hr 51 _ _ (by decide) rfl rfl rfl).trans (hp 51 (by decide) rfl)
  have q105 : ρ 105 = .pointer (some ⟨b39, 34, none⟩) := (hr 52 _ _ (by decide) rfl rfl rfl).trans (hp 52 (by decide) rfl)
  obtain ⟨ρ109, rfl⟩ := Ze (uc q104 (uc q105 un))
  clear q104 q105
  refine Zd rfl (Zh ty71 rfl (At.bx 85 (Zu ((hB 0 (by decide)).trans rfl))) (get_l (pkT_34 ..)) ?_)
  refine Zb ?_
  exact ⟨ns38, [], rfl, (Sub.emp Sub.refl), rfl⟩
 ·intro ρ r40 N40 B hB hBa hp hr hr0
  have q104 : ρ 104 = .bool true := (hr 51 _ _ (by decide) rfl rfl rfl).trans (hp 51 (by decide) rfl)
  obtain ⟨ρ110, rfl⟩ := Ze (uc q104 un)
  clear q104
  refine Zd rfl (ZA (vs := [.string (ltr 1)]) [[.string (ltr 1)]] Tryz.runUnderlying71 el9 rfl rfl (by intro e he; simp only [List.mem_cons, List.not_mem_nil, or_false] at he; subst he; exact rfl) rfl (by decide) fun b111 k111 ho111 hk111 => ?_)
  refine Zb ?_
  exact ⟨.slice (some ⟨b111, 0, none⟩) 1 1, k111, rfl, Sub.refl, ⟨rfl, hk111, ho111⟩⟩
 ·intro ρ r40 N40 B hB hBa hp hr hr0
  have p54 : (r40 54) = .slice (some ⟨(sblk (r40 54)), 0, none⟩) 1 1 ∧ (N40 54) = [(sblk (r40 54), .cells ⟨List.flatten [[.string (ltr 1)]]⟩ 9 (0, 0))] ∧ Own 9 1 (.slice (some ⟨(sblk (r40 54)), 0, none⟩) 1 1) [[.string (ltr 1)]] (N40 54) := hp 54 (by decide) rfl
  have q104 : ρ 104 = .bool true := (hr 51 _ _ (by decide) rfl rfl rfl).trans (hp 51 (by decide) rfl)
  have q106 : ρ 106 = ns38 := (hr 53 _ _ (by decide) rfl rfl rfl).trans (hp 53 (by decide) rfl)
  have q107 : ρ 107 = .slice (some ⟨(sblk (r40 54)), 0, none⟩) 1 1 := (hr 54 _ _ (by decide) rfl rfl rfl).trans p54.1
  obtain ⟨ρ112, rfl⟩ := Ze (uc q104 (uc q106 (uc q107 un)))
  clear q104 q106 q107
  refine Zk rfl Tryz.call44 rfl (fun hin => bool_r (r := true) (equalS_ct _ _ _ _ _ (own_strs hon38 (by simp) (hin 86 _ (Zu ((hB 1 (by decide)).trans rfl)))) (own_strs (l := [ltr 1]) p54.2.2 (by simp) (hin 54 _ (made_new rfl rfl)))) (eqL_true rfl)) rfl ?_
  rintro _ _ ⟨rfl, rfl⟩
  refine Zb ?_
  exact ⟨.bool true, [], rfl, (Sub.emp Sub.refl), rfl⟩
 ·intro ρ r40 N40 B hB hBa hp hr hr0
  have q104 : ρ 104 = .bool true := (hr 51 _ _ (by decide) rfl rfl rfl).trans (hp 51 (by decide) rfl)
  have q108 : ρ 108 = .bool true := (hr 55 _ _ (by decide) rfl rfl rfl).trans (hp 55 (by decide) rfl)
  obtain ⟨ρ113, rfl⟩ := Ze (uc q104 (uc q108 un))
  clear q104 q108
  refine Za (v := .bool true) rfl (Pu.pickT rfl rfl) ?_
  refine Zb ?_
  exact ⟨.bool true, [], rfl, (Sub.emp Sub.refl), rfl⟩
 ·intro ρ r40 N40 B hB hBa hp hr hr0
  have q109 : ρ 109 = .bool true := (hr 56 _ _ (by decide) rfl rfl rfl).trans (hp 56 (by decide) rfl)
  obtain ⟨ρ114, rfl⟩ := Ze (uc q109 un)
  clear q109
  refine Za (v := .bool true) rfl (Pu.move rfl) ?_
  refine Zb ?_
  exact ⟨.bool true, [], rfl, (Sub.emp Sub.refl), rfl⟩
 ·intro ρ r40 N40 B hB hBa hp hr hr0
  have q12 : ρ 12 = .pointer (some ⟨b39, 0, none⟩) := hr0 12 (by kernel_rfl)
  have q110 : ρ 110 = .bool true := (hr 57 _ _ (by decide) rfl rfl rfl).trans (hp 57 (by decide) rfl)
  obtain ⟨ρ115, rfl⟩ := Ze (uc q12 (uc q110 un))
  clear q12 q110
  refine Za (v := .pointer (some ⟨b39, 35, none⟩)) rfl (fa75_4 rfl rfl) ?_
  refine Zb ?_
  exact ⟨.pointer (some ⟨b39, 35, none⟩), [], rfl, (Sub.emp Sub.refl), rfl⟩
 ·intro ρ r40 N40 B hB hBa hp hr hr0
  have q110 : ρ 110 = .bool true := (hr 57 _ _ (by decide) rfl rfl rfl).trans (hp 57 (by decide) rfl)
  have q111 : ρ 111 = .pointer (some ⟨b39, 35, none⟩) := (hr 58 _ _ (by decide) rfl rfl rfl).trans (hp 58 (by decide) rfl)
  obtain ⟨ρ116, rfl⟩ := Ze (uc q110 (uc q111 un))
  clear q110 q111
  refine Zd rfl (Zh ty72 rfl (At.bx 85 (Zu ((hB 0 (by decide)).trans rfl))) (get_l (pkT_35 ..)) ?_)
  refine Zb ?_
  exact ⟨nks38, [], rfl, (Sub.emp Sub.refl), rfl⟩
 ·intro ρ r40 N40 B hB hBa hp hr hr0
  have q110 : ρ 110 = .bool true := (hr 57 _ _ (by decide) rfl rfl rfl).trans (hp 57 (by decide) rfl)
  have q112 : ρ 112 = nks38 := (hr 59 _ _ (by decide) rfl rfl rfl).trans (hp 59 (by decide) rfl)
  obtain ⟨ρ117, rfl⟩ := Ze (uc q110 (uc q112 un))
  clear q110 q112
  obtain ⟨a118, cap118, hv118⟩ := hok38.sl
  rw [(rfl : List.length [_] = 1)] at hv118
  refine Za (v := .int .i64 1) rfl (Pu.lenSl Tryz.runUnderlying72 hv118) ?_
  refine Zb ?_
  exact ⟨.int .i64 1, [], rfl, (Sub.emp Sub.refl), rfl⟩
 ·intro ρ r40 N40 B hB hBa hp hr hr0
  have q110 : ρ 110 = .bool true := (hr 57 _ _ (by decide) rfl rfl rfl).trans (hp 57 (by decide) rfl)
  have q113 : ρ 113 = .int .i64 1 := (hr 60 _ _ (by decide) rfl rfl rfl).trans (hp 60 (by decide) rfl)
  obtain ⟨ρ119, rfl⟩ := Ze (uc q110 (uc q113 un))
  clear q110 q113
  refine Za (v := .bool true) rfl (show Pu _ _ _ (.bool (decide ((1 : Int) = 1))) from Pu.eql rfl rfl) ?_
  refine Zb ?_
  exact ⟨.bool true, [], rfl, (Sub.emp Sub.refl), rfl⟩
 ·intro ρ r40 N40 B hB hBa hp hr hr0
  have q110 : ρ 110 = .bool true := (hr 57 _ _ (by decide) rfl rfl rfl).trans (hp 57 (by decide) rfl)
  have q114 : ρ 114 = .bool true := (hr 61 _ _ (by decide) rfl rfl rfl).trans (hp 61 (by decide) rfl)
  obtain ⟨ρ120, rfl⟩ := Ze (uc q110 (uc q114 un))
  clear q110 q114
  refine Za (v := .bool true) rfl (Pu.pickT rfl rfl) ?_
  refine Zb ?_
  exact ⟨.bool true, [], rfl, (Sub.emp Sub.refl), rfl⟩
 ·intro ρ r40 N40 B hB hBa hp hr hr0
  have q115 : ρ 115 = .bool true := (hr 62 _ _ (by decide) rfl rfl rfl).trans (hp 62 (by decide) rfl)
  obtain ⟨ρ121, rfl⟩ := Ze (uc q115 un)
  clear q115
  refine Za (v := .bool true) rfl (Pu.move rfl) ?_
  refine Zb ?_
  exact ⟨.bool true, [], rfl, (Sub.emp Sub.refl), rfl⟩
 ·intro ρ r40 N40 B hB hBa hp hr hr0
  have q12 : ρ 12 = .pointer (some ⟨b39, 0, none⟩) := hr0 12 (by kernel_rfl)
  have q116 : ρ 116 = .bool true := (hr 63 _ _ (by decide) rfl rfl rfl).trans (hp 63 (by decide) rfl)
  obtain ⟨ρ122, rfl⟩ := Ze (uc q12 (uc q116 un))
  clear q12 q116
  refine Za (v := .pointer (some ⟨b39, 35, none⟩)) rfl (fa75_4 rfl rfl) ?_
  refine Zb ?_
  exact ⟨.pointer (some ⟨b39, 35, none⟩), [], rfl, (Sub.emp Sub.refl), rfl⟩
 ·intro ρ r40 N40 B hB hBa hp hr hr0
  have q116 : ρ 116 = .bool true := (hr 63 _ _ (by decide) rfl rfl rfl).trans (hp 63 (by decide) rfl)
  have q117 : ρ 117 = .pointer (some ⟨b39, 35, none⟩) := (hr 64 _ _ (by decide) rfl rfl rfl).trans (hp 64 (by decide) rfl)
  obtain ⟨ρ123, rfl⟩ := Ze (uc q116 (uc q117 un))
  clear q116 q117
  refine Zd rfl (Zh ty72 rfl (At.bx 85 (Zu ((hB 0 (by decide)).trans rfl))) (get_l (pkT_35 ..)) ?_)
  refine Zb ?_
  exact ⟨nks38, [], rfl, (Sub.emp Sub.refl), rfl⟩
 ·intro ρ r40 N40 B hB hBa hp hr hr0
  have q116 : ρ 116 = .bool true := (hr 63 _ _ (by decide) rfl rfl rfl).trans (hp 63 (by decide) rfl)
  have q118 : ρ 118 = nks38 := (hr 65 _ _ (by decide) rfl rfl rfl).trans (hp 65 (by decide) rfl)
  obtain ⟨ρ124, rfl⟩ := Ze (uc q116 (uc q118 un))
  clear q116 q118
  refine Za (v := .pointer (some ⟨b42, 0 + 0 * 37, none⟩)) rfl (Pu.idx 0 Tryz.runUnderlying72 ty75 hv42 rfl rfl (by simp)) ?_
  refine Zb ?_
  exact ⟨.pointer (some ⟨b42, 0 + 0 * 37, none⟩), [], rfl, (Sub.emp Sub.refl), rfl⟩
 ·intro ρ r40 N40 B hB hBa hp hr hr0
  have q116 : ρ 116 = .bool true := (hr 63 _ _ (by decide) rfl rfl rfl).trans (hp 63 (by decide) rfl)
  have q119 : ρ 119 = .pointer (some ⟨b42, 0 + 0 * 37, none⟩) := (hr 66 _ _ (by decide) rfl rfl rfl).trans (hp 66 (by decide) rfl)
  obtain ⟨ρ125, rfl⟩ := Ze (uc q116 (uc q119 un))
  clear q116 q119
  refine Za (v := .pointer (some ⟨b42, 0 + 0 * 37 + 34, none⟩)) rfl (fa75_3 rfl rfl) ?_
  refine Zb ?_
  exact ⟨.pointer (some ⟨b42, 0 + 0 * 37 + 34, none⟩), [], rfl, (Sub.emp Sub.refl), rfl⟩
 ·intro ρ r40 N40 B hB hBa hp hr hr0
  have q116 : ρ 116 = .bool true := (hr 63 _ _ (by decide) rfl rfl rfl).trans (hp 63 (by decide) rfl)
  have q120 : ρ 120 = .pointer (some ⟨b42, 0 + 0 * 37 + 34, none⟩) := (hr 67 _ _ (by decide) rfl rfl rfl).trans (hp 67 (by decide) rfl)
  obtain ⟨ρ126, rfl⟩ := Ze (uc q116 (uc q120 un))
  clear q116 q120
  refine Zd rfl (Zh ty71 rfl (At.k 87 (Zu ((hB 2 (by decide)).trans rfl)) hm42) (sub_get hs42 (get_l (pkT_34 ..))) ?_)
  refine Zb ?_
  exact ⟨ms38, [], rfl, (Sub.emp Sub.refl), rfl⟩
 ·intro ρ r40 N40 B hB hBa hp hr hr0
  have q116 : ρ 116 = .bool true := (hr 63 _ _ (by decide) rfl rfl rfl).trans (hp 63 (by decide) rfl)
  obtain ⟨ρ127, rfl⟩ := Ze (uc q116 un)
  clear q116
  refine Zd rfl (ZA (vs := [.string (ltr 2)]) [[.string (ltr 2)]] Tryz.runUnderlying71 el9 rfl rfl (by intro e he; simp only [List.mem_cons, List.not_mem_nil, or_false] at he; subst he; exact rfl) rfl (by decide) fun b128 k128 ho128 hk128 => ?_)
  refine Zb ?_
  exact ⟨.slice (some ⟨b128, 0, none⟩) 1 1, k128, rfl, Sub.refl, ⟨rfl, hk128, ho128⟩⟩
 ·intro ρ r40 N40 B hB hBa hp hr hr0
  have p69 : (r40 69) = .slice (some ⟨(sblk (r40 69)), 0, none⟩) 1 1 ∧ (N40 69) = [(sblk (r40 69), .cells ⟨List.flatten [[.string (ltr 2)]]⟩ 9 (0, 0))] ∧ Own 9 1 (.slice (some ⟨(sblk (r40 69)), 0, none⟩) 1 1) [[.string (ltr 2)]] (N40 69) := hp 69 (by decide) rfl
  have q116 : ρ 116 = .bool true := (hr 63 _ _ (by decide) rfl rfl rfl).trans (hp 63 (by decide) rfl)
  have q121 : ρ 121 = ms38 := (hr 68 _ _ (by decide) rfl rfl rfl).trans (hp 68 (by decide) rfl)
  have q122 : ρ 122 = .slice (some ⟨(sblk (r40 69)), 0, none⟩) 1 1 := (hr 69 _ _ (by decide) rfl rfl rfl).trans p69.1
  obtain ⟨ρ129, rfl⟩ := Ze (uc q116 (uc q121 (uc q122 un)))
  clear q116 q121 q122
  refine Zk rfl Tryz.call44 rfl (fun hin => bool_r (r := true) (equalS_ct _ _ _ _ _ (own_strs hom38 (by simp) (hin 88 _ (Zu ((hB 3 (by decide)).trans rfl)))) (own_strs (l := [ltr 2]) p69.2.2 (by simp) (hin 69 _ (made_new rfl rfl)))) (eqL_true rfl)) rfl ?_
  rintro _ _ ⟨rfl, rfl⟩
  refine Zb ?_
  exact ⟨.bool true, [], rfl, (Sub.emp Sub.refl), rfl⟩
 ·intro ρ r40 N40 B hB hBa hp hr hr0
  have q116 : ρ 116 = .bool true := (hr 63 _ _ (by decide) rfl rfl rfl).trans (hp 63 (by decide) rfl)
  have q123 : ρ 123 = .bool true := (hr 70 _ _ (by decide) rfl rfl rfl).trans (hp 70 (by decide) rfl)
  obtain ⟨ρ130, rfl⟩ := Ze (uc q116 (uc q123 un))
  clear q116 q123
  refine Za (v := .bool true) rfl (Pu.pickT rfl rfl) ?_
  refine Zb ?_
  exact ⟨.bool true, [], rfl, (Sub.emp Sub.refl), rfl⟩
 ·intro ρ r40 N40 B hB hBa hp hr hr0
  have q124 : ρ 124 = .bool true := (hr 71 _ _ (by decide) rfl rfl rfl).trans (hp 71 (by decide) rfl)
  obtain ⟨ρ131, rfl⟩ := Ze (uc q124 un)
  clear q124
  refine Za (v := .bool true) rfl (Pu.move rfl) ?_
  refine Zb ?_
  exact ⟨.bool true, [], rfl, (Sub.emp Sub.refl), rfl⟩
 ·intro ρ r40 N40 B hB hBa hp hr hr0
  have q125 : ρ 125 = .bool true := (hr 72 _ _ (by decide) rfl rfl rfl).trans (hp 72 (by decide) rfl)
  obtain ⟨ρ132, rfl⟩ := Ze (uc q125 un)
  clear q125
  refine Za (v := .agg ⟨sC zS⟩) rfl (Pu.build (pv := []) (l := sC zS) rfl bld23_) ?_
  refine Zb ?_
  exact ⟨.agg ⟨sC zS⟩, [], rfl, (Sub.emp Sub.refl), rfl⟩
 ·intro ρ r40 N40 B hB hBa hp hr hr0
  have q125 : ρ 125 = .bool true := (hr 72 _ _ (by decide) rfl rfl rfl).trans (hp 72 (by decide) rfl)
  obtain ⟨ρ133, rfl⟩ := Ze (uc q125 un)
  clear q125
  refine Zk rfl Tryz.call6 rfl (fun hin => nu_ct _ _ (by unfold inI; omega)) rfl ?_
  rintro _ _ ⟨cs134, k134, rfl, rfl, hO134⟩
  refine Zb ?_
  exact ⟨.agg ⟨cs134⟩, k134, rfl, Sub.refl, ⟨rfl, hO134⟩⟩
 ·intro ρ r40 N40 B hB hBa hp hr hr0
  have q125 : ρ 125 = .bool true := (hr 72 _ _ (by decide) rfl rfl rfl).trans (hp 72 (by decide) rfl)
  obtain ⟨ρ135, rfl⟩ := Ze (uc q125 un)
  clear q125
  refine Zk rfl Tryz.call40 rfl (fun hin => va_ct _ _ (by unfold inI; omega)) rfl ?_
  rintro _ _ ⟨cs136, k136, rfl, rfl, hO136⟩
  refine Zb ?_
  exact ⟨.agg ⟨cs136⟩, k136, rfl, Sub.refl, ⟨rfl, hO136⟩⟩
 ·intro ρ r40 N40 B hB hBa hp hr hr0
  have p74 : (r40 74) = .agg ⟨(cel (r40 74))⟩ ∧ OT (eNu 1) (cel (r40 74)) (N40 74) := hp 74 (by decide) rfl
  have p75 : (r40 75) = .agg ⟨(cel (r40 75))⟩ ∧ OT (eVa 0) (cel (r40 75)) (N40 75) := hp 75 (by decide) rfl
  have q125 : ρ 125 = .bool true := (hr 72 _ _ (by decide) rfl rfl rfl).trans (hp 72 (by decide) rfl)
  have q127 : ρ 127 = .agg ⟨(cel (r40 74))⟩ := (hr 74 _ _ (by decide) rfl rfl rfl).trans p74.1
  have q128 : ρ 128 = .agg ⟨(cel (r40 75))⟩ := (hr 75 _ _ (by decide) rfl rfl rfl).trans p75.1
  obtain ⟨ρ137, rfl⟩ := Ze (uc q125 (uc q127 (uc q128 un)))
  clear q125 q127 q128
  refine Zd rfl (ZA (vs := [.agg ⟨(cel (r40 74))⟩, .agg ⟨(cel (r40 75))⟩]) [(cel (r40 74)), (cel (r40 75))] Tryz.runUnderlying24 el27 rfl rfl (by intro e he; simp only [List.mem_cons, List.not_mem_nil, or_false] at he; rcases he with rfl | rfl <;> first | exact p74.2.len | exact p75.2.len) rfl (by decide) fun b138 k138 ho138 hk138 => ?_)
  refine Zb ?_
  exact ⟨.slice (some ⟨b138, 0, none⟩) 2 2, k138, rfl, Sub.refl, ⟨rfl, hk138, ho138⟩⟩
 ·intro ρ r40 N40 B hB hBa hp hr hr0
  have q125 : ρ 125 = .bool true := (hr 72 _ _ (by decide) rfl rfl rfl).trans (hp 72 (by decide) rfl)
  have q126 : ρ 126 = .agg ⟨sC zS⟩ := (hr 73 _ _ (by decide) rfl rfl rfl).trans (hp 73 (by decide) rfl)
  have q129 : ρ 129 = .slice (some ⟨(sblk (r40 76)), 0, none⟩) 2 2 := (hr 76 _ _ (by decide) rfl rfl rfl).trans (hp 76 (by decide) rfl).1
  obtain ⟨ρ139, rfl⟩ := Ze (uc q125 (uc q126 (uc q129 un)))
  clear q125 q126 q129
  refine Zk rfl Tryz.call45 rfl (fun hin => ha_ct _ _ _ _ _) rfl ?_
  rintro _ _ ⟨rfl, rfl⟩
  refine Zb ?_
  exact ⟨.agg ⟨pkT 12 0 zS (.slice (some ⟨(sblk (r40 76)), 0, none⟩) 2 2) (.slice none 0 0)⟩, [], rfl, (Sub.emp Sub.refl), rfl⟩
 ·intro ρ r40 N40 B hB hBa hp hr hr0
  have p74 : (r40 74) = .agg ⟨(cel (r40 74))⟩ ∧ OT (eNu 1) (cel (r40 74)) (N40 74) := hp 74 (by decide) rfl
  have p75 : (r40 75) = .agg ⟨(cel (r40 75))⟩ ∧ OT (eVa 0) (cel (r40 75)) (N40 75) := hp 75 (by decide) rfl
  have p76 : (r40 76) = .slice (some ⟨(sblk (r40 76)), 0, none⟩) 2 2 ∧ (N40 76) = [(sblk (r40 76), .cells ⟨List.flatten [(cel (r40 74)), (cel (r40 75))]⟩ 27 (0, 0))] ∧ Own 27 36 (.slice (some ⟨(sblk (r40 76)), 0, none⟩) 2 2) [(cel (r40 74)), (cel (r40 75))] (N40 76) := hp 76 (by decide) rfl
  have q125 : ρ 125 = .bool true := (hr 72 _ _ (by decide) rfl rfl rfl).trans (hp 72 (by decide) rfl)
  have q130 : ρ 130 = .agg ⟨pkT 12 0 zS (.slice (some ⟨(sblk (r40 76)), 0, none⟩) 2 2) (.slice none 0 0)⟩ := (hr 77 _ _ (by decide) rfl rfl rfl).trans (hp 77 (by decide) rfl)
  obtain ⟨ρ140, rfl⟩ := Ze (uc q125 (uc q130 un))
  clear q125 q130
  refine Zk rfl Tryz.call19 rfl (fun hin => int_r (r := 0) (check_ct (.mk 12 0 zS [eNu 1, eVa 0] []) 0 0 _ _ (RT_mk.2 ⟨_, _, rfl, (by unfold inI; omega), (by unfold inI; omega), (Own.rd2 p76.2.2 (hin 76 _ (made_new rfl rfl)) (p74.2.rd (hin 74 _ (made_new rfl rfl))) (p75.2.rd (hin 75 _ (made_new rfl rfl)))), Hs.rdS.nil⟩)) check_h2) rfl ?_
  rintro _ _ ⟨rfl, rfl⟩
  refine Zb ?_
  exact ⟨.int .i64 0, [], rfl, (Sub.emp Sub.refl), rfl⟩
 ·intro ρ r40 N40 B hB hBa hp hr hr0
  have q125 : ρ 125 = .bool true := (hr 72 _ _ (by decide) rfl rfl rfl).trans (hp 72 (by decide) rfl)
  have q131 : ρ 131 = .int .i64 0 := (hr 78 _ _ (by decide) rfl rfl rfl).trans (hp 78 (by decide) rfl)
  obtain ⟨ρ141, rfl⟩ := Ze (uc q125 (uc q131 un))
  clear q125 q131
  refine Za (v := .bool true) rfl (show Pu _ _ _ (.bool (decide ((0 : Int) = 0))) from Pu.eql rfl rfl) ?_
  refine Zb ?_
  exact ⟨.bool true, [], rfl, (Sub.emp Sub.refl), rfl⟩
 ·intro ρ r40 N40 B hB hBa hp hr hr0
  have q125 : ρ 125 = .bool true := (hr 72 _ _ (by decide) rfl rfl rfl).trans (hp 72 (by decide) rfl)
  have q132 : ρ 132 = .bool true := (hr 79 _ _ (by decide) rfl rfl rfl).trans (hp 79 (by decide) rfl)
  obtain ⟨ρ142, rfl⟩ := Ze (uc q125 (uc q132 un))
  clear q125 q132
  refine Za (v := .bool true) rfl (Pu.pickT rfl rfl) ?_
  refine Zb ?_
  exact ⟨.bool true, [], rfl, (Sub.emp Sub.refl), rfl⟩
 ·intro ρ r40 N40 B hB hBa hp hr hr0
  have q133 : ρ 133 = .bool true := (hr 80 _ _ (by decide) rfl rfl rfl).trans (hp 80 (by decide) rfl)
  obtain ⟨ρ143, rfl⟩ := Ze (uc q133 un)
  clear q133
  refine Za (v := .bool true) rfl (Pu.move rfl) ?_
  refine Zb ?_
  exact ⟨.bool true, [], rfl, (Sub.emp Sub.refl), rfl⟩
 ·intro ρ r40 N40 B hB hBa hp hr hr0
  have q134 : ρ 134 = .bool true := (hr 81 _ _ (by decide) rfl rfl rfl).trans (hp 81 (by decide) rfl)
  obtain ⟨ρ144, rfl⟩ := Ze (uc q134 un)
  clear q134
  refine Za (v := .agg ⟨sC zS⟩) rfl (Pu.build (pv := []) (l := sC zS) rfl bld23_) ?_
  refine Zb ?_
  exact ⟨.agg ⟨sC zS⟩, [], rfl, (Sub.emp Sub.refl), rfl⟩
 ·intro ρ r40 N40 B hB hBa hp hr hr0
  have q134 : ρ 134 = .bool true := (hr 81 _ _ (by decide) rfl rfl rfl).trans (hp 81 (by decide) rfl)
  obtain ⟨ρ145, rfl⟩ := Ze (uc q134 un)
  clear q134
  refine Zk rfl Tryz.call6 rfl (fun hin => nu_ct _ _ (by unfold inI; omega)) rfl ?_
  rintro _ _ ⟨cs146, k146, rfl, rfl, hO146⟩
  refine Zb ?_
  exact ⟨.agg ⟨cs146⟩, k146, rfl, Sub.refl, ⟨rfl, hO146⟩⟩
 ·intro ρ r40 N40 B hB hBa hp hr hr0
  have p83 : (r40 83) = .agg ⟨(cel (r40 83))⟩ ∧ OT (eNu 1) (cel (r40 83)) (N40 83) := hp 83 (by decide) rfl
  have q134 : ρ 134 = .bool true := (hr 81 _ _ (by decide) rfl rfl rfl).trans (hp 81 (by decide) rfl)
  have q136 : ρ 136 = .agg ⟨(cel (r40 83))⟩ := (hr 83 _ _ (by decide) rfl rfl rfl).trans p83.1
  obtain ⟨ρ147, rfl⟩ := Ze (uc q134 (uc q136 un))
  clear q134 q136
  refine Zd rfl (ZA (vs := [.agg ⟨(cel (r40 83))⟩]) [(cel (r40 83))] Tryz.runUnderlying24 el27 rfl rfl (by intro e he; simp only [List.mem_cons, List.not_mem_nil, or_false] at he; subst he; exact p83.2.len) rfl (by decide) fun b148 k148 ho148 hk148 => ?_)
  refine Zb ?_
  exact ⟨.slice (some ⟨b148, 0, none⟩) 1 1, k148, rfl, Sub.refl, ⟨rfl, hk148, ho148⟩⟩
 intro ρ r40 N40 hp hr hr0
 have p24 : (r40 24) = .slice (some ⟨(sblk (r40 24)), 0, none⟩) 1 1 ∧ (N40 24) = [(sblk (r40 24), .cells ⟨List.flatten [[.int .i64 0]]⟩ 3 (0, 0))] ∧ Own 3 1 (.slice (some ⟨(sblk (r40 24)), 0, none⟩) 1 1) [[.int .i64 0]] (N40 24) := hp 24 (by decide)
 have p29 : (r40 29) = .agg ⟨(cel (r40 29))⟩ ∧ OT (eVa 0) (cel (r40 29)) (N40 29) := hp 29 (by decide)
 have p30 : (r40 30) = .agg ⟨(cel (r40 30))⟩ ∧ OT (eNu 5) (cel (r40 30)) (N40 30) := hp 30 (by decide)
 have p31 : (r40 31) = .agg ⟨(cel (r40 31))⟩ ∧ (((cel (r40 31))).length = 36 ∧ okc ((cel (r40 31))) ∧ ∀ h, Has ((N40 31)) h → RT h ((cel (r40 29))) (eVa 0) → RT h ((cel (r40 30))) (eNu 5) → RT h ((cel (r40 31))) (eAp (eVa 0) (eNu 5))) := hp 31 (by decide)
 have p32 : (r40 32) = .agg ⟨(cel (r40 32))⟩ ∧ (((cel (r40 32))).length = 36 ∧ okc ((cel (r40 32))) ∧ ∀ h, Has ((N40 32)) h → RT h ((cel (r40 31))) (eAp (eVa 0) (eNu 5)) → RT h ((cel (r40 32))) (eLa (eAp (eVa 0) (eNu 5)))) := hp 32 (by decide)
 have p37 : (r40 37) = .agg ⟨(cel (r40 37))⟩ ∧ OT (eVa 0) (cel (r40 37)) (N40 37) := hp 37 (by decide)
 have p38 : (r40 38) = .agg ⟨(cel (r40 38))⟩ ∧ OT (eVa 4) (cel (r40 38)) (N40 38) := hp 38 (by decide)
 have p39 : (r40 39) = .agg ⟨(cel (r40 39))⟩ ∧ (((cel (r40 39))).length = 36 ∧ okc ((cel (r40 39))) ∧ ∀ h, Has ((N40 39)) h → RT h ((cel (r40 37))) (eVa 0) → RT h ((cel (r40 38))) (eVa 4) → RT h ((cel (r40 39))) (eAp (eVa 0) (eVa 4))) := hp 39 (by decide)
 have p40 : (r40 40) = .agg ⟨(cel (r40 40))⟩ ∧ (((cel (r40 40))).length = 36 ∧ okc ((cel (r40 40))) ∧ ∀ h, Has ((N40 40)) h → RT h ((cel (r40 39))) (eAp (eVa 0) (eVa 4)) → RT h ((cel (r40 40))) (eLa (eAp (eVa 0) (eVa 4)))) := hp 40 (by decide)
 have p45 : (r40 45) = .agg ⟨(cel (r40 45))⟩ ∧ OT (eVa 0) (cel (r40 45)) (N40 45) := hp 45 (by decide)
 have p46 : (r40 46) = .agg ⟨(cel (r40 46))⟩ ∧ OT (eVa 3) (cel (r40 46)) (N40 46) := hp 46 (by decide)
 have p47 : (r40 47) = .agg ⟨(cel (r40 47))⟩ ∧ (((cel (r40 47))).length = 36 ∧ okc ((cel (r40 47))) ∧ ∀ h, Has ((N40 47)) h → RT h ((cel (r40 45))) (eVa 0) → RT h ((cel (r40 46))) (eVa 3) → RT h ((cel (r40 47))) (eAp (eVa 0) (eVa 3))) := hp 47 (by decide)
 have p48 : (r40 48) = .agg ⟨(cel (r40 48))⟩ ∧ (((cel (r40 48))).length = 36 ∧ okc ((cel (r40 48))) ∧ ∀ h, Has ((N40 48)) h → RT h ((cel (r40 47))) (eAp (eVa 0) (eVa 3)) → RT h ((cel (r40 48))) (eLa (eAp (eVa 0) (eVa 3)))) := hp 48 (by decide)
 have p54 : (r40 54) = .slice (some ⟨(sblk (r40 54)), 0, none⟩) 1 1 ∧ (N40 54) = [(sblk (r40 54), .cells ⟨List.flatten [[.string (ltr 1)]]⟩ 9 (0, 0))] ∧ Own 9 1 (.slice (some ⟨(sblk (r40 54)), 0, none⟩) 1 1) [[.string (ltr 1)]] (N40 54) := hp 54 (by decide)
 have p69 : (r40 69) = .slice (some ⟨(sblk (r40 69)), 0, none⟩) 1 1 ∧ (N40 69) = [(sblk (r40 69), .cells ⟨List.flatten [[.string (ltr 2)]]⟩ 9 (0, 0))] ∧ Own 9 1 (.slice (some ⟨(sblk (r40 69)), 0, none⟩) 1 1) [[.string (ltr 2)]] (N40 69) := hp 69 (by decide)
 have p74 : (r40 74) = .agg ⟨(cel (r40 74))⟩ ∧ OT (eNu 1) (cel (r40 74)) (N40 74) := hp 74 (by decide)
 have p75 : (r40 75) = .agg ⟨(cel (r40 75))⟩ ∧ OT (eVa 0) (cel (r40 75)) (N40 75) := hp 75 (by decide)
 have p76 : (r40 76) = .slice (some ⟨(sblk (r40 76)), 0, none⟩) 2 2 ∧ (N40 76) = [(sblk (r40 76), .cells ⟨List.flatten [(cel (r40 74)), (cel (r40 75))]⟩ 27 (0, 0))] ∧ Own 27 36 (.slice (some ⟨(sblk (r40 76)), 0, none⟩) 2 2) [(cel (r40 74)), (cel (r40 75))] (N40 76) := hp 76 (by decide)
 have p83 : (r40 83) = .agg ⟨(cel (r40 83))⟩ ∧ OT (eNu 1) (cel (r40 83)) (N40 83) := hp 83 (by decide)
 have p84 : (r40 84) = .slice (some ⟨(sblk (r40 84)), 0, none⟩) 1 1 ∧ (N40 84) = [(sblk (r40 84), .cells ⟨List.flatten [(cel (r40 83))]⟩ 27 (0, 0))] ∧ Own 27 36 (.slice (some ⟨(sblk (r40 84)), 0, none⟩) 1 1) [(cel (r40 83))] (N40 84) := hp 84 (by decide)
 have q0 : ρ 0 = .bool false := hr0 0 (by kernel_rfl)
 have q134 : ρ 134 = .bool true := (hr 81 _ _ (by decide) rfl rfl).trans (hp 81 (by decide))
 have q135 : ρ 135 = .agg ⟨sC zS⟩ := (hr 82 _ _ (by decide) rfl rfl).trans (hp 82 (by decide))
 have q137 : ρ 137 = .slice (some ⟨(sblk (r40 84)), 0, none⟩) 1 1 := (hr 84 _ _ (by decide) rfl rfl).trans p84.1
 obtain ⟨ρ149, rfl⟩ := Ze (uc q0 (uc q134 (uc q135 (uc q137 un))))
 clear q0 q134 q135 q137
 have p40_24 := p24; have p40_29 := p29; have p40_30 := p30; have p40_31 := p31; have p40_32 := p32; have p40_37 := p37; have p40_38 := p38; have p40_39 := p39; have p40_40 := p40; have p40_45 := p45; have p40_46 := p46; have p40_47 := p47; have p40_48 := p48; have p40_54 := p54; have p40_69 := p69; have p40_74 := p74; have p40_75 := p75; have p40_76 := p76; have p40_83 := p83; have p40_84 := p84
 clear hp hr hr0 p24 p29 p30 p31 p32 p37 p38 p39 p40 p45 p46 p47 p48 p54 p69 p74 p75 p76 p83 p84
 refine Zw (M' := [(N40 0), (N40 1), (N40 2), (N40 3), (N40 4), (N40 5), (N40 6), (N40 7), (N40 8), (N40 9), (N40 10), (N40 11), (N40 12), (N40 13), (N40 14), (N40 15), (N40 16), (N40 17), (N40 18), (N40 19), (N40 20), (N40 21), (N40 22), (N40 23), (N40 24), (N40 25), (N40 26), (N40 27), (N40 28), (N40 29), (N40 30), (N40 31), (N40 32), (N40 33), (N40 34), (N40 35), (N40 36), (N40 37), (N40 38), (N40 39), (N40 40), (N40 41), (N40 42), (N40 43), (N40 44), (N40 45), (N40 46), (N40 47), (N40 48), (N40 49), (N40 50), (N40 51), (N40 52), (N40 53), (N40 54), (N40 55), (N40 56), (N40 57), (N40 58), (N40 59), (N40 60), (N40 61), (N40 62), (N40 63), (N40 64), (N40 65), (N40 66), (N40 67), (N40 68), (N40 69), (N40 70), (N40 71), (N40 72), (N40 73), (N40 74), (N40 75), (N40 76), (N40 77), (N40 78), (N40 79), (N40 80), (N40 81), (N40 82), (N40 83), (N40 84), [(b39, .cells ⟨(pkT nk38 nn38 nr38 ns38 nks38) ++ ([ncv38] : List Value)⟩ 75 (0, 0))], nk138, nk238, mk138, mk238, mk338, k37, k36, k35, k34, [(b33, .cells ⟨cs32⟩ 27 (0, 0))], k32, k31, [(b30, .cells ⟨cs29⟩ 27 (0, 0))], k29, (N18 1), (N18 2), [((pblk (r18 6)), .cells ⟨(ZC (r18 2))⟩ 27 (0, 0))], (N7 1), (N7 2), [((pblk (r7 6)), .cells ⟨(ZC (r7 2))⟩ 27 (0, 0))], k6, [(b5, .cells ⟨cs4⟩ 27 (0, 0))], k4, k3, k2, k1]) Sub.refl ?_
 refine Zw (M' := [(N40 83), (N40 84)]) (Sd (Sd (Sd (Sd (Sd (Sd (Sd (Sd (Sd (Sd (Sd (Sd (Sd (Sd (Sd (Sd (Sd (Sd (Sd (Sd (Sd (Sd (Sd (Sd (Sd (Sd (Sd (Sd (Sd (Sd (Sd (Sd (Sd (Sd (Sd (Sd (Sd (Sd (Sd (Sd (Sd (Sd (Sd (Sd (Sd (Sd (Sd (Sd (Sd (Sd (Sd (Sd (Sd (Sd (Sd (Sd (Sd (Sd (Sd (Sd (Sd (Sd (Sd (Sd (Sd (Sd (Sd (Sd (Sd (Sd (Sd (Sd (Sd (Sd (Sd (Sd (Sd (Sd (Sd (Sd (Sd (Sd (Sd (Sk (Sk Sub.nil))))))))))))))))))))))))))))))))))))))))))))))))))))))))))))))))))))))))))))))))))))) ?_
 show JL _ _ _ [_, _, _, _, _] _ _ _
 refine Zk rfl Tryz.call45 rfl (fun hin => ha_ct _ _ _ _ _) rfl ?_
 rintro _ _ ⟨rfl, rfl⟩
 refine Zk rfl Tryz.call19 rfl (fun hin => int_r (r := 2) (check_ct (.mk 12 0 zS [eNu 1] []) 0 0 _ _ (RT_mk.2 ⟨_, _, rfl, (by unfold inI; omega), (by unfold inI; omega), (Own.rd1 p40_84.2.2 (hin 1 _ rfl) (p40_83.2.rd (hin 0 _ rfl))), Hs.rdS.nil⟩)) check_h1) rfl ?_
 rintro _ _ ⟨rfl, rfl⟩
 refine Za (v := .bool true) rfl (show Pu _ _ _ (.bool (decide ((2 : Int) = 2))) from Pu.eql rfl rfl) ?_
 refine Za (v := .bool true) rfl (Pu.pickT rfl rfl) ?_
 refine Za (v := .bool true) rfl (Pu.assign rfl) ?_
 refine Zb ?_
 refine Zo ?_
 refine ⟨.bool true, [], Ret.one rfl (RV.tmp rfl), Sub.nil, ?_⟩
 exact ⟨rfl, rfl⟩
end Go.Proofs.YtdeinimmmjichaaGreat.Hs
