import Derived.Test.YtkjafeejpmcnkaaGreatDecodesi
/-! Walks, printed by a program of this session's own (gen.py). -/
namespace Go.Proofs.YtkjafeejpmcnkaaGreat.Hs
open Go Go.Proofs
set_option maxRecDepth 100000
set_option linter.unusedVariables false
set_option linter.unusedSimpArgs false
attribute [local irreducible] JL J CT wlo DT
theorem all_ct : ∀ (t : Tm) (d m b : Int) (cs : List Value) (H : Heap) (bD : Nat), RT H cs t → H bD = some (.cells ⟨[iv d]⟩ 3 (0, 0)) → 0 ≤ b → b + 2 * sizeT t ≤ 1000000 → CT Tryz.prog 79 ⟨[.agg ⟨[iv m, .func (.func 78) ⟨[]⟩ ⟨[pp bD 0]⟩]⟩, .agg ⟨cs⟩, iv b]⟩ [] H (fun v N => v = iv (Xa d m b t) ∧ N = []) := by
 intro t
 induction t using Tm.ind with
 | h kind num ref kids cases ih ih' =>
 intro d m b cs H bD ht hD hb0 hb
 obtain ⟨ks, cv, rfl, hk, hn, hks, hcv⟩ := RT_mk.1 ht
 rw [sizeT] at hb
 have hn1 : -9223372036854775808 ≤ num := hn.1
 have hn2 : num ≤ 9223372036854775807 := hn.2
 have ihx : ∀ x mo, (fun x mo => ((∃ (j : Nat) (hj : j < kids.length), x = kids[j]) ∨ ∃ (j : Nat) (hj : j < cases.length), x = cases[j].2) ∧ 0 ≤ mo ∧ mo + 2 * (sizeT x : Int) ≤ 2 * ((1 + ZC kids + ZJ cases : Nat) : Int)) x mo → ∀ (d m b : Int) (cs : List Value) (H : Heap) (bD : Nat), RT H cs x → H bD = some (.cells ⟨[iv d]⟩ 3 (0, 0)) → 0 ≤ b → b + 2 * sizeT x ≤ 1000000 → CT Tryz.prog 79 ⟨[.agg ⟨[iv m, .func (.func 78) ⟨[]⟩ ⟨[pp bD 0]⟩]⟩, .agg ⟨cs⟩, iv b]⟩ [] H (fun v N => v = iv (Xa d m b x) ∧ N = []) := by
  rintro x mo ⟨⟨j, hj, rfl⟩ | ⟨j, hj, rfl⟩, _, _⟩
  ·exact ih _ (List.getElem_mem hj)
  ·exact ih' _ (List.getElem_mem hj)
 refine Zm Tryz.func79 rfl rfl <| Zc <| Za <| JLr (Zp (l := [iv m, .func (.func 78) ⟨[]⟩ ⟨[pp bD 0]⟩]) rfl rfl fun b1 => JLr (Zp (l := pkT kind num ref ks cv) rfl rfl fun b2 => JLr (Zp (l := [iv b]) rfl rfl fun b3 => JLr (Zk (l := [iv 0]) Tryz.zeroValue31 rfl fun b4 => Zb <| Zc <| Zc <| Za <| JLr (Zl ty128 rfl (At.bx 3 rfl) rfl <| JLr (Zl Zt rfl (At.bx 2 rfl) (Yr ..) ?_))))))
 refine JLr (Ze ty3 rfl (At.bx 1 rfl) rfl <| Jc Tryz.call115 rfl (fun hin => chkTerm_ct _ _ _ _ _ _ _ _ _ _ _ bD (RTs.mono (Hle.hu _ _) hks) (RCs.mono (Hle.hu _ _) hcv) (Hle.hu _ _ _ _ hD) hb0 (by omega) hn1 hn2) rfl ?_)
 rintro _ _ ⟨rfl, rfl⟩
 refine JLA rfl <| Zb <| Zc <| Za <| JLM rfl <| JLn (Pu.neq rfl rfl) <| Zb <| Zg rfl (fun h5 => ?_) (fun h5 => ?_)
 ·replace h5 := nt h5
  replace h5 := df h5
  refine Zc <| Za <| JLM rfl <| JLr (Zd 0 (vs := [iv (Yx d m b kind num ref kids.length cases.length)]) (l := [iv (Yx d m b kind num ref kids.length cases.length)]) ty31 rfl rfl rfl rfl rfl (Zf rfl Zn) rfl <| Zb <| Zj <| ⟨iv (Yx d m b kind num ref kids.length cases.length), [], Ret.one rfl (RV.cell1 ty31 rfl (At.bx 0 rfl) rfl), Sub.nil, ?_⟩)
  exact ⟨by rw [Xa, if_neg h5], rfl⟩
 replace h5 := nf h5
 replace h5 := dt h5
 refine Zh <| Zc <| Zc <| Za <| JLq (pp b2 35) (Z0 rfl rfl) <| JLr (Ze Y2 rfl (At.bx 2 rfl) (ZZ ..) ?_)
 obtain ⟨a6, cap6, hv6⟩ := hcv.sl
 have hle6 := hcv.le
 refine JLn (Pu.lenSl Tryz.runUnderlying28 hv6) <| JLM rfl <| Zb <| Zo ?_
 have hh0 : Yx d m b kind num ref kids.length cases.length = 0 := h5
 refine ZN (fun k ρ M => ∃ (j : Nat), ρ 3 = pp b1 0 ∧ ρ 4 = pp b2 0 ∧ ρ 5 = pp b3 0 ∧ ρ 6 = pp b4 0 ∧ ρ 22 = cv ∧ ρ 23 = iv ((cases.length : Int)) ∧ ρ 24 = iv ((j : Int)) ∧ Sub [(BX b4 [iv 0] 31), (BX b3 [iv b] 3), (BX b2 (pkT kind num ref ks cv) 30), (BX b1 [iv m, .func (.func 78) ⟨[]⟩ ⟨[pp bD 0]⟩] 128)] M ∧ j ≤ cases.length ∧ pErrsC (cases.drop j) = pErrsC cases ∧ k = cases.length - j) _ ⟨0, rfl, rfl, rfl, rfl, rfl, rfl, rfl, (Sk (Sk (Sk (Sk Sub.nil)))), Nat.zero_le _, rfl, rfl⟩ ?_
 rintro _ ρ7 _ ⟨j, e8, e9, e10, e11, e12, e13, e14, hm15, hj, hinv, rfl⟩
 obtain ⟨ρ16, rfl⟩ := Zs (uc e8 (uc e9 (uc e10 (uc e11 (uc e12 (uc e13 (uc e14 un)))))))
 clear e8 e9 e10 e11 e12 e13 e14
 refine ZX hm15 ?_
 have hlen := hcv.le
 refine Zc <| Za <| JLn (Pu.lss rfl rfl) <| Zb <| Zc <| Zg rfl (fun h17 => ?_) (fun h17 => ?_)
 ·replace h17 := dt h17
  have h17n : j < cases.length := by omega
  refine Zh <| Zc <| Zo <| Zc <| Za ?_
  obtain ⟨b18, o18, cap18, row18, T18, fr18, cs18, hv18, hb18, hs18, hE18⟩ := hcv.get j (by first | assumption | omega | decide | simp)
  obtain ⟨ca18, cb18, rfl, hA18, hB18⟩ := hE18
  refine JLq (pp b18 (o18 + j * 71)) (Pu.idx j Tryz.runUnderlying28 Xk hv18 rfl rfl (by first | assumption | omega | decide | simp)) <| JLr (Zl Xk rfl (At.im hb18) hs18 <| JLr (Zk (l := (pkP 0 0 zS nS) ++ (pkT 0 0 zS nS nS)) Tryz.zeroValue86 rfl fun b19 => JLr (Zd 0 (vs := ca18 ++ cb18) (l := ca18 ++ cb18) Xk rfl rfl rfl rfl (Yg (ZT hA18) (Zw hB18)) (Yk (RP_ok hA18) (RT_ok hB18)) (ZI (n := 71) rfl (Yg (ZT hA18) (Zw hB18))) <| Zb <| Zc <| Za <| JLq (pp b19 0) (fa86_0 rfl rfl) <| JLr (Zl Z7 rfl (At.bx 0 rfl) (sub_l (ZT hA18)) <| Jc Tryz.call116 rfl (fun hin => patternsError_ct _ _ _ (RP.mono (Hle.hu _ _) hA18)) rfl ?_))))
  rintro _ _ ⟨rfl, rfl⟩
  refine JLA rfl <| Zb <| Zc <| Za <| JLM rfl <| JLn (Pu.neq rfl rfl) <| Zb <| Zg rfl (fun h20 => ?_) (fun h20 => ?_)
  ·replace h20 := nt h20
   replace h20 := df h20
   refine Zc <| Za <| JLM rfl <| JLr (Zd 1 (vs := [iv (pErrs (cases[j].1))]) (l := [iv (pErrs (cases[j].1))]) ty31 rfl rfl rfl rfl rfl (Zf rfl Zn) rfl <| Zb <| Zj <| ⟨iv (pErrs (cases[j].1)), [], Ret.one rfl (RV.cell1 ty31 rfl (At.bx 1 rfl) rfl), Sub.nil, ?_⟩)
   exact ⟨by rw [Xa, if_pos hh0, ← hinv, ZW h17n, pErrsC, if_neg h20, if_neg h20], rfl⟩
  replace h20 := nf h20
  replace h20 := dt h20
  refine Zh <| Za <| JLn (Pu.inc rfl rfl (by omega)) <| JLM rfl <| Zb <| ⟨_, ?_, (j + 1), rfl, rfl, rfl, rfl, rfl, rfl, rfl, (Sd (Sk (Sk (Sk (Sk Sub.nil))))), ?_, ?_, rfl⟩
  ·omega
  ·omega
  rw [ZW h17n, pErrsC, if_pos h20] at hinv; exact hinv
 replace h17 := df h17
 have h17n : cases.length ≤ j := by omega
 refine Zz _ rfl <| Zc <| Zc <| Za <| JLr (Zl Zt rfl (At.bx 2 rfl) (Yr ..) <| Jc Tryz.call117 rfl (fun hin => parts_ct _ _ rfl) rfl ?_)
 rintro _ _ ⟨bT21, rfl, rfl⟩
 refine Zb <| Zo ?_
 have h1 : pErrsC cases = 0 := by rw [← hinv, YZ h17n]; rfl
 refine J_range (L := [(BX bT21 (pkT kind num ref ks cv) 30), (BX b3 [iv b] 3), (BX b2 (pkT kind num ref ks cv) 30), (BX b1 [iv m, .func (.func 78) ⟨[]⟩ ⟨[pp bD 0]⟩] 128)]) (fun e : Int => [(BX b4 [iv e] 31)]) (fun e => !decide (e = 0)) 0 (fun e => e = yP (fun x mo _ => (decide (Xa d m (b + mo) x = 0), Xa d m (b + mo) x)) kind kids cases 0) rfl rfl Tryz.call139 (flatten_pick (i := 1) rfl) ?_ ?_ ?_
 ·intro l yc hY hin
  refine CT.mono (parts1_ct kind num ref ks cv kids cases _ bT21 (RTs.mono (Hle.hu _ _) hks) (RCs.mono (Hle.hu _ _) hcv) (hin 0 _ rfl _ _ List.mem_cons_self) (fun c hc => by have := sizeCs_mem c hc; have := binds_le c.1; omega) (by have := len_sizeTs kids; omega) (by have := len_sizeCs cases; omega) l yc (fun e => e = 0) (fun x mo _ => (decide (Xa d m (b + mo) x = 0), Xa d m (b + mo) x)) 0 rfl (fun x mo => ((∃ (j : Nat) (hj : j < kids.length), x = kids[j]) ∨ ∃ (j : Nat) (hj : j < cases.length), x = cases[j].2) ∧ 0 ≤ mo ∧ mo + 2 * (sizeT x : Int) ≤ 2 * ((1 + ZC kids + ZJ cases : Nat) : Int)) ?_ ?_ (fun x mo s _ h => of_decide_eq_true h) ?_) (fun v N hN => ⟨_, hN, rfl⟩)
  ·intro j hj; have hs1 := sizeTs_mem _ (List.getElem_mem hj); have hm1 := more_le kind j; exact ⟨.inl ⟨j, hj, rfl⟩, by omega, by omega⟩
  ·intro j hj; have hs1 := sizeCs_mem _ (List.getElem_mem hj); have hm1 := binds_le (cases[j]).1; have hp1 := sizeT_pos (cases[j]).2; exact ⟨.inr ⟨j, hj, rfl⟩, by omega, by omega⟩
  intro x mo hit e i a h he hh ra
  subst he
  have hb0x : 0 ≤ b + mo := by have := hit.2.1; omega
  have hb1x : b + mo + 2 * (sizeT x : Int) ≤ 1000000 := by have := hit.2.2; omega
  have hp1 := sizeT_pos x
  refine YT.mono (hY 0 [_, _] h (fun e' => e' = Xa d m (b + mo) x) rfl rfl (RoundOk.mk ?_)) ?_
  ·show J _ _ _ _ [(BX b4 [iv 0] 31)] _
   refine Za <| JLr (Zk (l := (pkT 0 0 zS nS nS) ++ ([iv 0] : List Value)) Tryz.zeroValue175 rfl fun b22 => JLr (Zd 0 (vs := a ++ ([iv mo] : List Value)) (l := a ++ ([iv mo] : List Value)) ty175 rfl rfl rfl rfl (Yg (Zw ra) rfl) (Yk (RT_ok ra) (Zf rfl Zn)) (ZI (n := 37) rfl (Yg (Zw ra) rfl)) <| Zb <| Zo <| Zc <| Za <| JLr (Zl ty128 rfl (At.im (hh _ _ (hin 3 _ rfl _ _ List.mem_cons_self))) rfl <| JLq (pp b22 0) (fa175_0 rfl rfl) <| JLr (Zl Zt rfl (At.bx 0 rfl) (sub_l (Zw ra)) <| JLr (Ze ty3 rfl (At.im (hh _ _ (hin 1 _ rfl _ _ List.mem_cons_self))) rfl <| JLq (pp b22 36) (fa175_1 rfl rfl) <| JLr (Ze ty3 rfl (At.bx 0 rfl) (get_r (n := 36) (i := 0) (Zw ra) rfl) ?_))))))
   refine JLn (Pu.add64 rfl rfl (by first | omega | (constructor <;> omega))) <| Jc Tryz.call79 rfl (fun hin => ihx x mo hit d m _ _ _ bD (RT.mono (Hle.hu _ _) ra) (Hle.hu _ _ _ _ (hh _ _ (Hle.hu _ _ _ _ hD))) hb0x hb1x) rfl ?_
   rintro _ _ ⟨rfl, rfl⟩
   refine JLA rfl <| Zb <| Zc <| Za <| JLM rfl <| JLn (Pu.neq rfl rfl) <| Zb <| Zg rfl (fun h23 => ?_) (fun h23 => ?_)
   ·replace h23 := nt h23
    replace h23 := df h23
    refine Zc <| Za <| JLM rfl <| JLr (Zd 1 (vs := [iv (Xa d m (b + mo) x)]) (l := [iv (Xa d m (b + mo) x)]) ty31 rfl rfl rfl rfl rfl (Zf rfl Zn) rfl <| Zb <| Zj ?_)
    exact ⟨Xa d m (b + mo) x, by simp [h23], (Sd (Sk Sub.nil)), rfl⟩
   replace h23 := nf h23
   replace h23 := dt h23
   refine Zh ?_
   exact ⟨0, rfl, (Sd (Sk Sub.nil)), h23.symm⟩
  rintro v N ⟨e', rfl, rfl, rfl⟩; exact ⟨by simp, rfl⟩
 ·rintro ef hef hp
  refine Zc <| Za <| JLr (Zd 0 (vs := [iv 0]) (l := [iv 0]) ty31 rfl rfl rfl rfl rfl (Zf rfl Zn) rfl <| Zb <| Zj <| ⟨iv 0, [], Ret.one rfl (RV.cell1 ty31 rfl (At.bx 0 rfl) rfl), Sub.nil, ?_⟩)
  rw [yP_err] at hef
  have hp0 : ef = 0 := by simpa using hp
  exact ⟨by rw [Xa, if_pos hh0, if_pos h1, ← hef, hp0], rfl⟩
 rintro ef hef hp
 refine ⟨iv ef, [], Ret.one rfl (RV.cell1 ty31 rfl (At.bx 0 rfl) rfl), Sub.nil, ?_⟩
 rw [yP_err] at hef
 have hp0 : ¬ ef = 0 := by simpa using hp
 exact ⟨by rw [Xa, if_pos hh0, if_pos h1, ← hef], rfl⟩
end Go.Proofs.YtkjafeejpmcnkaaGreat.Hs
/-! Walks, printed by a program of this session's own (gen.py). -/
namespace Go.Proofs.YtkjafeejpmcnkaaGreat.Hs
open Go Go.Proofs
set_option maxRecDepth 100000
set_option linter.unusedVariables false
set_option linter.unusedSimpArgs false
attribute [local irreducible] JL J CT wlo DT
theorem check_ct (t : Tm) (d m : Int) (cs : List Value) (H : Heap) (ht : RT H cs t) : CT Tryz.prog 34 ⟨[.agg ⟨cs⟩, iv d, iv m]⟩ [] H (fun v N => v = iv (Xg d m t) ∧ N = []) := by
 refine Zm Tryz.func34 rfl rfl <| Zc <| Za <| JLr (Zp (l := cs) rfl rfl fun b1 => JLr (Zp (l := [iv d]) rfl rfl fun b2 => JLA rfl <| Zb <| Zc <| Zc <| Za <| JLq (.agg ⟨[iv 0]⟩) (Pu.build (pv := []) (l := [iv 0]) rfl bld102_) <| JLr (Zp (l := [iv 0]) rfl rfl fun b3 => JLr (Zl Zt rfl (At.bx 2 rfl) (Zu (Zw ht)) ?_))))
 refine Zv 0 rfl Tryz.call77 rfl rfl (fun hin => longT_ct _ _ _ _ _ _ (RT.mono (Hle.hu _ _) ht) (by omega) (by omega) (by omega) (by omega)) rfl ?_
 rintro _ _ ⟨rfl, rfl⟩
 refine Zb <| Zg rfl (fun h5 => ?_) (fun h5 => ?_)
 ·refine Zc <| Za <| JLA rfl <| Zb <| Zj <| ⟨iv 11, [], Ret.one rfl (RV.tmp rfl), Sub.nil, ?_⟩
  exact ⟨by rw [Xg, if_pos (by simp [h5])], rfl⟩
 refine Zh <| Zc <| Za <| JLM rfl <| JLq (.func (.func 78) ⟨[]⟩ ⟨[pp b2 0]⟩) (Pu.makeFunc rfl rfl) <| JLq (.agg ⟨[iv m, .func (.func 78) ⟨[]⟩ ⟨[pp b2 0]⟩]⟩) (Pu.build (pv := [(0, iv m), (1, .func (.func 78) ⟨[]⟩ ⟨[pp b2 0]⟩)]) (l := [iv m, .func (.func 78) ⟨[]⟩ ⟨[pp b2 0]⟩]) rfl (bld128_0_1 _ _ _ _)) <| JLr (Zk (l := [iv 0, .nilFunc]) Tryz.zeroValue128 rfl fun b6 => JLr (Zd 0 (vs := [iv m, .func (.func 78) ⟨[]⟩ ⟨[pp b2 0]⟩]) (l := [iv m, .func (.func 78) ⟨[]⟩ ⟨[pp b2 0]⟩]) ty128 rfl rfl rfl rfl rfl (Zf rfl (Zf rfl Zn)) rfl <| Zb <| Zc <| Za <| JLr (Zl ty128 rfl (At.bx 0 rfl) rfl <| JLr (Zl Zt rfl (At.bx 3 rfl) (Zu (Zw ht)) ?_))))
 refine Jc Tryz.call79 rfl (fun hin => all_ct _ _ _ _ _ _ _ (RT.mono (Hle.hu _ _) ht) (hin 2 _ rfl _ _ List.mem_cons_self) (by decide) (by have e1 := cnT_size t 1 0 h5; have e2 := cnT_le stL_le t 1 0 h5; omega)) rfl ?_
 rintro _ _ ⟨rfl, rfl⟩
 refine JLA rfl <| Zb <| Zj <| ⟨iv (Xa d m 0 t), [], Ret.one rfl (RV.tmp rfl), Sub.nil, ?_⟩
 exact ⟨by rw [Xg, if_neg (by simp [h5])], rfl⟩
theorem right_ct (l : List Tm) (v : Value) (H : Heap) (hl : rdS RT 36 H v l) : CT Tryz.prog 55 ⟨[v]⟩ [] H (fun v N => v = iv (ZV l) ∧ N = []) := by
 refine Zm Tryz.func55 rfl rfl <| Zc <| Za <| JLA rfl <| Zb <| Zc <| Zc <| Za <| JLm v ?_
 obtain ⟨a1, cap1, hv1⟩ := hl.sl
 have hle1 := hl.le
 refine JLn (Pu.lenSl Tryz.runUnderlying27 hv1) <| JLM rfl <| Zb <| Zo <| ZN (fun k ρ M => ∃ (j : Nat), ρ 2 = iv 0 ∧ ρ 6 = v ∧ ρ 7 = iv ((l.length : Int)) ∧ ρ 8 = iv ((j : Int)) ∧ Sub [] M ∧ j ≤ l.length ∧ ZV (l.drop j) = ZV l ∧ k = l.length - j) _ ⟨0, rfl, rfl, rfl, rfl, Sub.nil, Nat.zero_le _, rfl, rfl⟩ ?_
 rintro _ ρ2 _ ⟨j, e3, e4, e5, e6, hm7, hj, hinv, rfl⟩
 obtain ⟨ρ8, rfl⟩ := Zs (uc e3 (uc e4 (uc e5 (uc e6 un))))
 clear e3 e4 e5 e6
 refine ZX hm7 <| Zc <| Za <| JLn (Pu.lss rfl rfl) <| Zb <| Zc <| Zg rfl (fun h9 => ?_) (fun h9 => ?_)
 ·replace h9 := dt h9
  have h9n : j < l.length := by omega
  have hlenl := hl.le
  refine Zh <| Zc <| Zo <| Zc <| Za ?_
  obtain ⟨b10, o10, cap10, row10, T10, fr10, cs10, hv10, hb10, hs10, hE10⟩ := hl.get j (by first | assumption | omega | decide | simp)
  refine JLq (pp b10 (o10 + j * 36)) (Pu.idx j Tryz.runUnderlying27 Zt hv10 rfl rfl (by first | assumption | omega | decide | simp)) <| JLr (Zl Zt rfl (At.im hb10) hs10 <| JLr (Zk (l := pkT 0 0 zS nS nS) Tryz.zeroValue30 rfl fun b11 => JLr (Zd 0 (vs := cs10) (l := cs10) Zt rfl rfl rfl rfl (Zw hE10) (RT_ok hE10) (ZI (n := 36) rfl (Zw hE10)) <| Zb <| Zc <| Za <| JLr (Zl Zt rfl (At.bx 0 rfl) (Zu (Zw hE10)) <| Jc Tryz.call34 rfl (fun hin => check_ct _ _ _ _ _ (RT.mono (Hle.hu _ _) hE10)) rfl ?_))))
  rintro _ _ ⟨rfl, rfl⟩
  refine JLA rfl <| Zb <| Zc <| Za <| JLM rfl <| JLn (Pu.neq rfl rfl) <| Zb <| Zg rfl (fun h12 => ?_) (fun h12 => ?_)
  ·replace h12 := nt h12
   replace h12 := df h12
   refine Zc <| Za <| JLM rfl <| JLA rfl <| Zb <| Zj <| ⟨iv (Xg 60 8 (l[j])), [], Ret.one rfl (RV.tmp rfl), Sub.nil, ?_⟩
   exact ⟨by rw [← hinv, ZW h9n, ZV, if_neg h12], rfl⟩
  replace h12 := nf h12
  replace h12 := dt h12
  refine Zh <| Za <| JLn (Pu.inc rfl rfl (by omega)) <| JLM rfl <| Zb <| ⟨_, ?_, (j + 1), rfl, rfl, rfl, rfl, Sub.nil, ?_, ?_, rfl⟩
  ·omega
  ·omega
  rw [ZW h9n, ZV, if_pos h12] at hinv; exact hinv
 replace h9 := df h9
 have h9n : l.length ≤ j := by omega
 refine Zz _ rfl <| Zc <| Za <| JLA rfl <| Zb <| Zj <| ⟨iv 0, [], Ret.one rfl (RV.tmp rfl), Sub.nil, ?_⟩
 exact ⟨by rw [← hinv, YZ h9n]; rfl, rfl⟩
end Go.Proofs.YtkjafeejpmcnkaaGreat.Hs
/-! Walks, printed by a program of this session's own (gen.py). -/
namespace Go.Proofs.YtkjafeejpmcnkaaGreat.Hs
open Go Go.Proofs
set_option maxRecDepth 100000
set_option linter.unusedVariables false
set_option linter.unusedSimpArgs false
attribute [local irreducible] JL J CT wlo DT
theorem wholeT_ct (s : ByteArray) (H : Heap) (bR a : Nat) (e c : Int) (cs : List Value) (hc4 : cs.length = 4) (hck : okc cs) : CT Tryz.prog 82 ⟨[pp bR 0, .agg ⟨cs⟩, .bool true]⟩ [(BX bR [.string s, iv ((a : Int)), iv e, iv c] 137)] H (fun r N => ∃ a' e' c', r = (if a < s.size then .tuple ⟨[.agg ⟨[iv 0, iv 0, .string ⟨#[]⟩, nS]⟩, iv (a : Int), iv 4]⟩ else .tuple ⟨[.agg ⟨cs⟩, iv 0, iv 0]⟩) ∧ N = [(BX bR [.string s, iv (a'), iv (e'), iv (c')] 137)]) := by
 refine Zm Tryz.func82 rfl rfl <| Zc <| Za <| JLr (Zp (l := cs) rfl rfl fun b1 => JLr (Zk (l := [iv 0, iv 0, .string (⟨#[]⟩), nS]) Tryz.zeroValue39 rfl fun b2 => JLA rfl <| JLA rfl <| Zb <| Zc <| Zc <| Zy mixed #[0, 1, 3, 7, 15, 31, 63, 3, 131, 387, 899, 1923, 3971, 8191, 16383] 13 [some 9, some 10, some 11, some 12, some 13, some 14, some 15, some 16, some 17, some 18, some 19, some 20, some 21] [] [] rfl (by kernel_rfl) rfl (by kernel_rfl) <| DM (fun _ => rfl) <| DM (fun _ => rfl) ?_))
 refine DM (fun _ => rfl) <| Dq (pp bR 0) (fun _ => Pu.nilCheck rfl) <| Dq (pp bR 0) (fun _ => ZE rfl rfl) <| Dq (pp bR 1) (fun _ => Z6 rfl rfl) <| Dl1 ty3 (At.bx 2 rfl) rfl <| DM (fun _ => rfl) <| Dq (pp bR 0) (fun _ => Pu.nilCheck rfl) <| Dq (pp bR 0) (fun _ => ZE rfl rfl) <| Dq (pp bR 0) (fun _ => fa135_0 rfl rfl) <| Dl1 ty9 (At.bx 2 rfl) rfl <| Dn (fun _ => Pu.lenS Tryz.runUnderlying9 rfl) <| ZH (M' := [(BX b2 [iv 0, iv 0, .string (⟨#[]⟩), nS] 39), (BX b1 cs 39), (BX bR [.string s, iv ((a : Int)), iv e, iv c] 137)]) rfl ?_
 show JL _ _ _ [_, _] _ _ _
 refine JLn (Pu.lss rfl rfl) <| JLq (.bool (decide ((a : Int) < (s.size : Int)))) (Pu.pickT rfl rfl) <| Zb <| Zg rfl (fun h3 => ?_) (fun h3 => ?_)
 ·replace h3 := dt h3
  have h3n : a < s.size := by omega
  refine Zy mixed #[0, 1, 3, 0, 8, 24, 56, 120, 255, 511] 8 [some 24, some 25, some 26, some 27, some 28, some 29, some 30, some 31] [] [] rfl (by kernel_rfl) rfl (by kernel_rfl) <| DM (fun _ => rfl) <| Dq (pp bR 0) (fun _ => Pu.nilCheck rfl) <| Dq (pp bR 0) (fun _ => ZE rfl rfl) <| DM (fun _ => rfl) <| Dq (pp bR 0) (fun _ => Pu.nilCheck rfl) <| Dq (pp bR 0) (fun _ => ZE rfl rfl) <| Dq (pp bR 1) (fun _ => Z6 rfl rfl) <| Dl1 ty3 (At.bx 2 rfl) rfl <| ZH (M' := [(BX b2 [iv 0, iv 0, .string (⟨#[]⟩), nS] 39), (BX b1 cs 39), (BX bR [.string s, iv ((a : Int)), iv e, iv c] 137)]) rfl ?_
  show JL _ _ _ [_, _] _ _ _
  refine Zv 2 rfl Tryz.call120 rfl rfl (fun hin => YX s _ _ _ _ _ _ _) rfl ?_
  rintro _ _ ⟨rfl, rfl⟩
  refine JLA rfl <| Zb <| Zc <| Zc <| Za <| JLM rfl <| JLq (.bool true) (show Pu _ _ _ (.bool (!false)) from Pu.not rfl) <| Zb <| Zg (b := true) rfl (fun _ => ?_) (fun h => absurd h (by simp))
  refine Zc <| Zy mixed #[0, 0, 2, 6, 14, 30, 0, 64, 192, 448, 960, 1, 2111, 8191] 13 [some 35, some 36, some 37, some 38, some 39, some 40, some 41, some 42, some 43, some 44, some 45, none, some 7] [(11, 14)] [(11, fun _ _ vw qw => vw = undef ∧ qw = [(BX b2 [iv 0, iv 0, .string (⟨#[]⟩), nS] 39)])] rfl (by kernel_rfl) rfl (by kernel_rfl) <| Dq (.agg ⟨[iv 0, iv 0, .string (⟨#[]⟩), nS]⟩) (fun _ => Pu.build (pv := []) (l := [iv 0, iv 0, .string (⟨#[]⟩), nS]) rfl Y0) <| DM (fun _ => rfl) <| Dq (pp bR 0) (fun _ => Pu.nilCheck rfl) <| Dq (pp bR 0) (fun _ => ZE rfl rfl) <| Dq (pp bR 1) (fun _ => Z6 rfl rfl) <| Dl1 ty3 (At.bx 0 rfl) rfl <| DM (fun _ => rfl) <| Dq (pp bR 0) (fun _ => Pu.nilCheck rfl) <| Dq (pp bR 0) (fun _ => ZE rfl rfl) <| Dq (pp bR 2) (fun _ => fa135_2 rfl rfl) <| Dl1 ty31 (At.bx 0 rfl) rfl ?_
  refine Dr rfl (fun _ => Zd 1 (vs := [iv 0, iv 0, .string (⟨#[]⟩), nS]) (l := [iv 0, iv 0, .string (⟨#[]⟩), nS]) ZK rfl rfl rfl rfl rfl (Zf rfl (Zf rfl (Zf rfl (Zf rfl Zn)))) rfl ⟨[_], keptE (i := 1) rfl rfl, rfl, rfl⟩) ?_; rintro _ _ ⟨rfl, rfl⟩
  refine Dq (iv ((a : Int))) (fun _ => Pu.assign rfl) <| ZH (M' := [(BX b2 [iv 0, iv 0, .string (⟨#[]⟩), nS] 39), (BX bR [.string s, iv ((a : Int)), iv 4, iv c] 137), (BX b1 cs 39)]) rfl ?_
  show JL _ _ _ [_] _ _ _
  refine JLA rfl <| Zb <| Zj <| ⟨.tuple ⟨[.agg ⟨[iv 0, iv 0, .string (⟨#[]⟩), nS]⟩, iv ((a : Int)), iv 4]⟩, [(BX bR [.string s, iv ((a : Int)), iv 4, iv c] 137)], Ret.three rfl (RV.cell ZK rfl (At.bx 0 rfl) rfl) (RV.tmp rfl) (RV.tmp rfl), (Sd (Sk Sub.nil)), ?_⟩
  exact ⟨_, _, _, by rw [if_pos (by omega)], rfl⟩
 replace h3 := df h3
 have h3n : s.size ≤ a := by omega
 refine Zh <| Zc <| Zc <| Za <| JLM rfl <| JLq (.bool false) (show Pu _ _ _ (.bool (!true)) from Pu.not rfl) <| Zb <| Zg (b := false) rfl (fun h => absurd h (by simp)) (fun _ => Zh <| Zc <| Za <| JLr (Zl ZK rfl (At.bx 1 rfl) (Zu hc4) <| JLr (Zd 0 (vs := cs) (l := cs) ZK rfl rfl rfl rfl hc4 hck (ZI (n := 4) rfl hc4) ?_)))
 refine JLA rfl <| JLA rfl <| Zb <| Zj <| ⟨.tuple ⟨[.agg ⟨cs⟩, iv 0, iv 0]⟩, [(BX bR [.string s, iv ((a : Int)), iv e, iv c] 137)], Ret.three rfl (RV.cell ZK rfl (At.bx 0 rfl) (Zu hc4)) (RV.tmp rfl) (RV.tmp rfl), (Sd (Sd (Sk Sub.nil))), ?_⟩
 exact ⟨_, _, _, by rw [if_neg (by omega)], rfl⟩
theorem wholeF_ct (s : ByteArray) (H : Heap) (bR : Nat) (a e c : Int) (cs : List Value) (hc4 : cs.length = 4) (hck : okc cs) : CT Tryz.prog 82 ⟨[pp bR 0, .agg ⟨cs⟩, .bool false]⟩ [(BX bR [.string s, iv a, iv e, iv c] 137)] H (fun r N => ∃ a' e' c', r = .tuple ⟨[.agg ⟨[iv 0, iv 0, .string ⟨#[]⟩, nS]⟩, iv a, iv e]⟩ ∧ N = [(BX bR [.string s, iv (a'), iv (e'), iv (c')] 137)]) := by
 refine Zm Tryz.func82 rfl rfl <| Zc <| Za <| JLr (Zp (l := cs) rfl rfl fun b1 => JLr (Zk (l := [iv 0, iv 0, .string (⟨#[]⟩), nS]) Tryz.zeroValue39 rfl fun b2 => JLA rfl <| JLA rfl <| Zb <| Zc <| Zc <| Zy mixed #[0, 1, 3, 7, 15, 31, 63, 3, 131, 387, 899, 1923, 3971, 8191, 16383] 13 [some 9, some 10, some 11, some 12, some 13, some 14, some 15, some 16, some 17, some 18, some 19, some 20, some 21] [] [] rfl (by kernel_rfl) rfl (by kernel_rfl) <| DM (fun _ => rfl) <| DM (fun _ => rfl) ?_))
 refine Yb rfl (fun _ => rfl) <| Yb rfl (fun _ => rfl) <| Yb rfl (fun _ => rfl) <| Yb rfl (fun _ => rfl) <| Yb rfl (fun _ => rfl) <| Yb rfl (fun _ => rfl) <| Yb rfl (fun _ => rfl) <| Yb rfl (fun _ => rfl) <| Yb rfl (fun _ => rfl) <| Yb rfl (fun _ => rfl) <| Yb rfl (fun _ => rfl) <| ZH (M' := [(BX b2 [iv 0, iv 0, .string (⟨#[]⟩), nS] 39), (BX b1 cs 39), (BX bR [.string s, iv a, iv e, iv c] 137)]) rfl ?_
 show JL _ _ _ [_, _] _ _ _
 refine ZB rfl <| JLq (.bool false) (Pu.pickF rfl rfl) <| Zb <| Zg (b := false) rfl (fun h => absurd h (by simp)) (fun _ => Zh <| Zc <| Zc <| Za <| JLM rfl <| JLq (.bool true) (show Pu _ _ _ (.bool (!false)) from Pu.not rfl) <| Zb <| Zg (b := true) rfl (fun _ => ?_) (fun h => absurd h (by simp)))
 refine Zc <| Zy mixed #[0, 0, 2, 6, 14, 30, 0, 64, 192, 448, 960, 1, 2111, 8191] 13 [some 35, some 36, some 37, some 38, some 39, some 40, some 41, some 42, some 43, some 44, some 45, none, some 7] [(11, 13)] [(11, fun _ _ vw qw => vw = undef ∧ qw = [(BX b2 [iv 0, iv 0, .string (⟨#[]⟩), nS] 39)])] rfl (by kernel_rfl) rfl (by kernel_rfl) <| Dq (.agg ⟨[iv 0, iv 0, .string (⟨#[]⟩), nS]⟩) (fun _ => Pu.build (pv := []) (l := [iv 0, iv 0, .string (⟨#[]⟩), nS]) rfl Y0) <| DM (fun _ => rfl) <| Dq (pp bR 0) (fun _ => Pu.nilCheck rfl) <| Dq (pp bR 0) (fun _ => ZE rfl rfl) <| Dq (pp bR 1) (fun _ => Z6 rfl rfl) <| Dl1 ty3 (At.bx 1 rfl) rfl <| DM (fun _ => rfl) <| Dq (pp bR 0) (fun _ => Pu.nilCheck rfl) <| Dq (pp bR 0) (fun _ => ZE rfl rfl) <| Dq (pp bR 2) (fun _ => fa135_2 rfl rfl) <| Dl1 ty31 (At.bx 1 rfl) rfl ?_
 refine Dr rfl (fun _ => Zd 0 (vs := [iv 0, iv 0, .string (⟨#[]⟩), nS]) (l := [iv 0, iv 0, .string (⟨#[]⟩), nS]) ZK rfl rfl rfl rfl rfl (Zf rfl (Zf rfl (Zf rfl (Zf rfl Zn)))) rfl ⟨[_], keptE (i := 0) rfl rfl, rfl, rfl⟩) ?_; rintro _ _ ⟨rfl, rfl⟩
 refine Dq (iv a) (fun _ => Pu.assign rfl) <| ZH (M' := [(BX b2 [iv 0, iv 0, .string (⟨#[]⟩), nS] 39), (BX b1 cs 39), (BX bR [.string s, iv a, iv e, iv c] 137)]) rfl ?_
 show JL _ _ _ [_] _ _ _
 refine JLA rfl <| Zb <| Zj <| ⟨.tuple ⟨[.agg ⟨[iv 0, iv 0, .string (⟨#[]⟩), nS]⟩, iv a, iv e]⟩, [(BX bR [.string s, iv a, iv e, iv c] 137)], Ret.three rfl (RV.cell ZK rfl (At.bx 0 rfl) rfl) (RV.tmp rfl) (RV.tmp rfl), (Sd (Sd (Sk Sub.nil))), ?_⟩
 exact ⟨_, _, _, rfl, rfl⟩
end Go.Proofs.YtkjafeejpmcnkaaGreat.Hs
/-! What was read as a whole. -/
namespace Go.Proofs.YtkjafeejpmcnkaaGreat.Hs
open Go Go.Proofs
set_option maxRecDepth 100000
attribute [local irreducible] JL J CT wlo
theorem bstr_sB {l : List Int} (h : ∀ x ∈ l, 0 ≤ x ∧ x ≤ 255) : l = sB (bstr l) := by
  unfold sB bstr
  rw [List.map_map]
  apply List.ext_getElem
  · rw [List.length_map]
  · intro i h1 h2
    rw [List.getElem_map]
    have := h _ (List.getElem_mem h1)
    simp only [Function.comp]
    rw [UInt8.toNat_ofNat']
    omega
theorem iw_nat {l : List Int} {f a c : Nat} {x : It} {ok : Bool} {a' e c' : Int} (hq : iwQ (ZF l f a c) x ok a' e c') : ∃ b : Nat, a' = (b : Int) := by
  cases hd : ZF l f a c with
  | err k i => rw [hd] at hq; exact ⟨i, hq.2.1⟩
  | ok y b => obtain ⟨y, k⟩ := y; rw [hd] at hq; exact ⟨b, hq.2.2.1⟩
theorem whole_ct (s : ByteArray) (l : List Int) (hls : l = sB s) (H : Heap) (bR : Nat) (a e c : Int) (x : It) (cs : List Value) (k : Zi) (ok : Bool) (hO : OIt x cs k) (hl : ¬ (65536 : Int) < (l.length : Int)) (hq : iwQ (ZF l 250 0 0) x ok a e c) :
    CT Tryz.prog 82 ⟨[.pointer (some ⟨bR, 0, none⟩), .agg ⟨cs⟩, .bool ok]⟩ [[(bR, .cells ⟨[.string s, .int .i64 a, .int .i64 e, .int .i64 c]⟩ 137 (0, 0))]] H
      (fun r N => ∃ cs' k', r = .tuple ⟨[.agg ⟨cs'⟩, .int .i64 (ZA l).2.1, .int .i64 (ZA l).2.2]⟩ ∧ N = [k'] ∧ cs'.length = 4 ∧ okc cs' ∧ ((cs' = cs ∧ (ZA l).1 = x) ∨ (cs' = pkI 0 0 ⟨#[]⟩ (.slice none 0 0) ∧ (ZA l).1 = zI))) := by
  have h2 := decW hl hq
  have hsz : l.length = s.size := by rw [hls, sB_len]
  obtain ⟨b, rfl⟩ := iw_nat hq
  cases ok with
  | true =>
    refine CT.mono (wholeT_ct s H bR b e c cs hO.len hO.ok) ?_
    rintro r N ⟨a', e', c', rfl, rfl⟩
    have h3 := h2.1 rfl
    by_cases hb : b < s.size
    · rw [if_pos (by omega)] at h3
      exact ⟨_, _, by rw [h3, if_pos hb], rfl, rfl, pkI_ok rfl, .inr ⟨rfl, by rw [h3]⟩⟩
    · rw [if_neg (by omega)] at h3
      exact ⟨_, _, by rw [h3, if_neg hb], rfl, hO.len, hO.ok, .inl ⟨rfl, by rw [h3]⟩⟩
  | false =>
    refine CT.mono (wholeF_ct s H bR b e c cs hO.len hO.ok) ?_
    rintro r N ⟨a', e', c', rfl, rfl⟩
    have h3 := h2.2 rfl
    exact ⟨_, _, by rw [h3], rfl, rfl, pkI_ok rfl, .inr ⟨rfl, by rw [h3]⟩⟩
end Go.Proofs.YtkjafeejpmcnkaaGreat.Hs
/-! Walks, printed by a program of this session's own (gen.py). -/
namespace Go.Proofs.YtkjafeejpmcnkaaGreat.Hs
open Go Go.Proofs
set_option maxRecDepth 100000
set_option linter.unusedVariables false
set_option linter.unusedSimpArgs false
attribute [local irreducible] JL J CT wlo DT
theorem ptsW_ct (H : Heap) : CT Tryz.prog 122 ⟨[]⟩ [] H (fun r N => r = .agg ⟨[.int .u8 0, .func (.func 140) ⟨[]⟩ ⟨[]⟩, .int .u8 64, .func (.func 142) ⟨[]⟩ ⟨[]⟩, .int .u8 128, .func (.func 143) ⟨[]⟩ ⟨[]⟩]⟩ ∧ N = []) := by
 refine Zm Tryz.func122 rfl rfl <| Zc <| Za <| JLr (Zk (l := [.int .u8 0, .nilFunc, .int .u8 0, .nilFunc, .int .u8 0, .nilFunc]) Tryz.zeroValue183 rfl fun b1 => Zb <| Zc <| Za <| JLq (.agg ⟨[.int .u8 0, .func (.func 140) ⟨[]⟩ ⟨[]⟩]⟩) (Pu.build (pv := [(0, .int .u8 0), (1, .func (.func 140) ⟨[]⟩ ⟨[]⟩)]) (l := [.int .u8 0, .func (.func 140) ⟨[]⟩ ⟨[]⟩]) rfl (bld182_0_1 _ _ _ _)) <| JLq (.agg ⟨[.int .u8 64, .func (.func 142) ⟨[]⟩ ⟨[]⟩]⟩) (Pu.build (pv := [(0, .int .u8 64), (1, .func (.func 142) ⟨[]⟩ ⟨[]⟩)]) (l := [.int .u8 64, .func (.func 142) ⟨[]⟩ ⟨[]⟩]) rfl (bld182_0_1 _ _ _ _)) <| JLq (.agg ⟨[.int .u8 128, .func (.func 143) ⟨[]⟩ ⟨[]⟩]⟩) (Pu.build (pv := [(0, .int .u8 128), (1, .func (.func 143) ⟨[]⟩ ⟨[]⟩)]) (l := [.int .u8 128, .func (.func 143) ⟨[]⟩ ⟨[]⟩]) rfl (bld182_0_1 _ _ _ _)) <| JLq (.agg ⟨[.int .u8 0, .func (.func 140) ⟨[]⟩ ⟨[]⟩, .int .u8 64, .func (.func 142) ⟨[]⟩ ⟨[]⟩, .int .u8 128, .func (.func 143) ⟨[]⟩ ⟨[]⟩]⟩) (Pu.build (pv := [(0, .agg ⟨[.int .u8 0, .func (.func 140) ⟨[]⟩ ⟨[]⟩]⟩), (1, .agg ⟨[.int .u8 64, .func (.func 142) ⟨[]⟩ ⟨[]⟩]⟩), (2, .agg ⟨[.int .u8 128, .func (.func 143) ⟨[]⟩ ⟨[]⟩]⟩)]) (l := [.int .u8 0, .func (.func 140) ⟨[]⟩ ⟨[]⟩, .int .u8 64, .func (.func 142) ⟨[]⟩ ⟨[]⟩, .int .u8 128, .func (.func 143) ⟨[]⟩ ⟨[]⟩]) rfl (bldPts _ _ _)) <| JLr (Zd 0 (vs := [.int .u8 0, .func (.func 140) ⟨[]⟩ ⟨[]⟩, .int .u8 64, .func (.func 142) ⟨[]⟩ ⟨[]⟩, .int .u8 128, .func (.func 143) ⟨[]⟩ ⟨[]⟩]) (l := [.int .u8 0, .func (.func 140) ⟨[]⟩ ⟨[]⟩, .int .u8 64, .func (.func 142) ⟨[]⟩ ⟨[]⟩, .int .u8 128, .func (.func 143) ⟨[]⟩ ⟨[]⟩]) ty183 rfl rfl rfl rfl rfl (Zf rfl (Zf rfl (Zf rfl (Zf rfl (Zf rfl (Zf rfl Zn)))))) rfl <| Zb ?_))
 refine Zj <| ⟨.agg ⟨[.int .u8 0, .func (.func 140) ⟨[]⟩ ⟨[]⟩, .int .u8 64, .func (.func 142) ⟨[]⟩ ⟨[]⟩, .int .u8 128, .func (.func 143) ⟨[]⟩ ⟨[]⟩]⟩, [], Ret.one rfl (RV.cell ty183 rfl (At.bx 0 rfl) rfl), Sub.nil, ?_⟩
 exact ⟨rfl, rfl⟩
end Go.Proofs.YtkjafeejpmcnkaaGreat.Hs
/-! Walks, printed by a program of this session's own (gen.py). -/
namespace Go.Proofs.YtkjafeejpmcnkaaGreat.Hs
open Go Go.Proofs
set_option maxRecDepth 100000
set_option linter.unusedVariables false
set_option linter.unusedSimpArgs false
attribute [local irreducible] JL J CT wlo DT
theorem YY (l : List Int) (v : Value) (H : Heap) (hv : Hs.rdS RB 1 H v l) (bR : Nat) (a c w e : Int) (e2 i : Int) : CT Tryz.prog 81 ⟨[pp bR 0, iv e2, iv i]⟩ [(BX bR [v, iv a, iv c, iv w, iv e] 131)] H (fun r N => r = .tuple ⟨[]⟩ ∧ N = [(BX bR [v, iv a, iv c, iv i, iv e2] 131)]) := by
 refine Zm Tryz.func81 rfl rfl <| Za <| JLM rfl <| JLM rfl <| JLM rfl <| JLM rfl <| JLq (pp bR 0) (Pu.nilCheck rfl) <| JLq (pp bR 4) (YI rfl rfl) <| JLr (Zd 0 (vs := [iv e2]) (l := [v, iv a, iv c, iv w, iv e2]) ty31 rfl rfl rfl rfl rfl (Zf rfl Zn) rfl <| JLq (pp bR 0) (Pu.nilCheck rfl) <| JLq (pp bR 3) (fa131_3 rfl rfl) <| JLr (Zd 0 (vs := [iv i]) (l := [v, iv a, iv c, iv i, iv e2]) ty3 rfl rfl rfl rfl rfl (Zf rfl Zn) rfl <| Zb ?_))
 refine ⟨.tuple ⟨[]⟩, [(BX bR [v, iv a, iv c, iv i, iv e2] 131)], Ret.none rfl, (Sk Sub.nil), ?_⟩
 exact ⟨rfl, rfl⟩
set_option maxHeartbeats 1000000 in
theorem numR_ct (l : List Int) (v : Value) (H : Heap) (hv : Hs.rdS RB 1 H v l) (hby8 : ∀ x ∈ l, 0 ≤ x ∧ x ≤ 255) (bR a : Nat) (ha : a ≤ l.length) (hl : l.length ≤ 1000000) (most c w : Int) : CT Tryz.prog 118 ⟨[pp bR 0, iv most]⟩ [(BX bR [v, iv ((a : Int)), iv c, iv w, iv 0] 131)] H (fun r N => ∃ x a' w' e', r = iv x ∧ N = [(BX bR [v, iv (a'), iv c, iv (w'), iv (e')] 131)] ∧ numQ (YK l most a) x a' w' e' w ∧ 0 ≤ a' ∧ a' ≤ (l.length : Int) ∧ inI x) := by
 refine Zm Tryz.func118 rfl rfl <| Zc <| Za <| JLA rfl <| Zb <| Zc <| Za <| JLM rfl <| JLq (pp bR 0) (Pu.nilCheck rfl) <| JLq (pp bR 1) (Yt rfl rfl) <| JLr (Ze ty3 rfl (At.bx 0 rfl) rfl <| JLA rfl <| Zb ?_)
 refine Zc <| Za <| JLA rfl <| JLA rfl <| Zb <| Zc <| Zc <| Za <| JLA rfl <| Zb <| Zo <| ZN (fun k ρ M => ∃ (j b : Nat) (n u : Int), ρ 0 = pp bR 0 ∧ ρ 1 = iv most ∧ ρ 4 = iv 0 ∧ ρ 5 = iv ((a : Int)) ∧ ρ 6 = iv n ∧ ρ 7 = iv u ∧ ρ 8 = iv ((j : Int)) ∧ Sub [(BX bR [v, iv ((b : Int)), iv c, iv w, iv 0] 131)] M ∧ j ≤ 6 ∧ Xj l most a (6 - j) j n u b = YK l most a ∧ b ≤ l.length ∧ ((j = 0 ∧ u = 1) ∨ (j = 1 ∧ u = 128) ∨ (j = 2 ∧ u = 16384) ∨ (j = 3 ∧ u = 2097152) ∨ (j = 4 ∧ u = 268435456) ∨ (j = 5 ∧ u = 34359738368) ∨ (j = 6 ∧ u = 4398046511104)) ∧ 0 ≤ n ∧ n < u ∧ k = 6 - j) _ ⟨0, a, 0, 1, rfl, rfl, rfl, rfl, rfl, rfl, rfl, (Sk Sub.nil), (by omega), rfl, ha, (.inl ⟨rfl, rfl⟩), (Int.le_refl _), (by decide), rfl⟩ ?_
 rintro _ ρ1 _ ⟨j, b, n, u, e2, e3, e4, e5, e6, e7, e8, hm9, hj, hinv, hb, hku, hn0, hnu, rfl⟩
 obtain ⟨ρ10, rfl⟩ := Zs (uc e2 (uc e3 (uc e4 (uc e5 (uc e6 (uc e7 (uc e8 un)))))))
 clear e2 e3 e4 e5 e6 e7 e8
 refine ZX hm9 <| Zc <| Zc <| Za <| JLM rfl <| JLn (Pu.lss rfl rfl) <| Zb <| Zg rfl (fun h11 => ?_) (fun h11 => ?_)
 ·replace h11 := dt h11
  have h11n : j < 6 := by omega
  obtain ⟨f, hf⟩ : ∃ f0, 6 - j = f0 + 1 := ⟨5 - j, by omega⟩
  rw [hf] at hinv
  refine Zh <| Zc <| Zo <| Zc <| Zc <| Zy mixed #[0, 1, 3, 7, 0, 16, 48, 112, 240, 511] 9 [some 18, some 19, some 20, some 21, some 22, some 23, some 24, some 25, some 26] [] [] rfl (by kernel_rfl) rfl (by kernel_rfl) <| DM (fun _ => rfl) <| Dq (pp bR 0) (fun _ => Pu.nilCheck rfl) <| Dq (pp bR 1) (fun _ => Yt rfl rfl) <| Dl1 ty3 (At.bx 0 rfl) rfl <| DM (fun _ => rfl) <| Dq (pp bR 0) (fun _ => Pu.nilCheck rfl) <| Dq (pp bR 0) (fun _ => fa131_0 rfl rfl) ?_
  refine Dl1 ty22 (At.bx 0 rfl) rfl ?_
  obtain ⟨a13, cap13, hv13⟩ := hv.sl
  have hle13 := hv.le
  refine Dn (fun _ => Pu.lenSl Tryz.runUnderlying22 hv13) <| ZH (M' := [(BX bR [v, iv ((b : Int)), iv c, iv w, iv 0] 131)]) rfl ?_
  show JL _ _ _ [_] _ _ _
  refine JLn (Pu.eql rfl rfl) <| Zb <| Zg rfl (fun h14 => ?_) (fun h14 => ?_)
  ·replace h14 := dt h14
   refine Zc <| Za <| JLM rfl <| JLM rfl <| JLq (pp bR 0) (Pu.nilCheck rfl) <| JLq (pp bR 1) (Yt rfl rfl) <| JLr (Ze ty3 rfl (At.bx 0 rfl) rfl <| Zv 0 rfl Tryz.call81 rfl rfl (fun hin => YY l _ _ (RBs.mono (Hle.hu _ _) hv) _ _ _ _ _ _ _) rfl ?_)
   rintro _ _ ⟨rfl, rfl⟩
   refine Zb <| Zc <| Za <| JLA rfl <| Zb <| Zj <| ⟨iv 0, [(BX bR [v, iv ((b : Int)), iv c, iv ((b : Int)), iv 4] 131)], Ret.one rfl (RV.tmp rfl), (Sk Sub.nil), ?_⟩
   first | rw [Xn (by omega)] at hinv | rw [Y3 hbl (by omega) (by omega)] at hinv | rw [YH hbl (by omega) (fun q => by have z := hpick; simp [q.1] at z; omega) (by omega)] at hinv | (rw [show 6 - j = 0 from by omega, Xj] at hinv)
   exact ⟨_, _, _, _, rfl, rfl, by rw [← hinv]; exact ⟨rfl, rfl⟩, by omega, by omega, by unfold inI; rcases hku with h | h | h | h | h | h | h <;> omega⟩
  replace h14 := df h14
  refine Zh <| Zc ?_
  have hbl : b < l.length := by omega
  have hx8 := hby8 _ (List.getElem_mem hbl)
  have hmu := mul_in (x := l[b]) (u := u) (by omega)
  refine Zy mixed #[0, 1, 3, 7, 0, 16, 48, 112, 255, 511, 1023, 2047] 8 [some 34, some 35, some 36, some 37, some 38, some 39, some 40, some 41] [] [] rfl (by kernel_rfl) rfl (by kernel_rfl) <| DM (fun _ => rfl) <| Dq (pp bR 0) (fun _ => Pu.nilCheck rfl) <| Dq (pp bR 0) (fun _ => fa131_0 rfl rfl) <| Dl1 ty22 (At.bx 0 rfl) rfl <| DM (fun _ => rfl) <| Dq (pp bR 0) (fun _ => Pu.nilCheck rfl) <| Dq (pp bR 1) (fun _ => Yt rfl rfl) <| Dl1 ty3 (At.bx 0 rfl) rfl <| ZH (M' := [(BX bR [v, iv ((b : Int)), iv c, iv w, iv 0] 131)]) rfl ?_
  show JL _ _ _ [_, _, _, _] _ _ _
  obtain ⟨b15, o15, cap15, row15, T15, fr15, cs15, hv15, hb15, hs15, hE15⟩ := hv.get b (by first | assumption | omega | decide | simp)
  refine JLq (pp b15 (o15 + b * 1)) (Pu.idx b Tryz.runUnderlying22 ty5 hv15 rfl rfl (by first | assumption | omega | decide | simp)) <| JLr (Ze ty5 rfl (At.im hb15) (Yw ((show cs15 = [Value.int .u8 (l[b])] from hE15) ▸ hs15)) <| JLq (iv (l[b])) (Pu.conv Tryz.runUnderlying5 Tryz.runUnderlying3 rfl (w64 (by omega))) <| JLA rfl <| Zb <| Zc <| Za <| JLM rfl <| JLq (pp bR 0) (Pu.nilCheck rfl) <| JLq (pp bR 1) (Yt rfl rfl) <| JLr (Ze ty3 rfl (At.bx 0 rfl) rfl <| JLn (Pu.inc rfl rfl (by omega)) <| JLq (pp bR 0) (Pu.nilCheck rfl) ?_))
  refine JLq (pp bR 1) (Yt rfl rfl) <| JLr (Zd 0 (vs := [iv (((b + 1 : Nat) : Int))]) (l := [v, iv (((b + 1 : Nat) : Int)), iv c, iv w, iv 0]) ty3 rfl rfl rfl rfl rfl (Zf rfl Zn) rfl <| Zb <| Zc <| Za <| JLM rfl <| JLM rfl <| JLq (iv (l[b] % 128)) (Pu.rem rfl rfl (by decide) (Int.tmod_eq_emod_of_nonneg hx8.1)) <| JLM rfl <| JLq (iv (l[b] % 128 * u)) (Pu.arithM rfl rfl (w64 (by rcases hku with h | h | h | h | h | h | h <;> omega))) <| JLn (Pu.add64 rfl rfl (by first | omega | (constructor <;> omega))) <| JLA rfl <| Zb ?_)
  refine Zc <| Za <| JLM rfl <| JLq (iv (u * 128)) (Pu.arithM rfl rfl (w64 (by rcases hku with h | h | h | h | h | h | h <;> omega))) <| JLA rfl <| Zb <| Zc <| Zc <| Za <| JLM rfl <| JLn (Pu.geq rfl rfl) <| Zb <| Zg rfl (fun h16 => ?_) (fun h16 => ?_)
  ·replace h16 := dt h16
   refine Zz _ rfl <| Za <| JLM rfl <| JLn (Pu.inc rfl rfl (by omega)) <| JLA rfl <| Zb <| ⟨_, ?_, (j + 1), (b + 1), (n + (l[b] % 128 * u)), (u * 128), rfl, rfl, rfl, rfl, rfl, rfl, rfl, (Sk Sub.nil), ?_, ?_, ?_, ?_, ?_, ?_, rfl⟩
   ·omega
   ·omega
   ·rw [numD_more hbl h16] at hinv; rw [show 6 - (j + 1) = f from by omega]; exact hinv
   ·omega
   ·rcases hku with h | h | h | h | h | h | h <;> omega
   ·omega
   rcases hku with h | h | h | h | h | h | h <;> omega
  replace h16 := df h16
  refine Zh <| Zc <| Zc <| Za <| JLM rfl <| JLn (Pu.eql rfl rfl) <| JLM rfl <| Zr 2 [65, 66] [(66, cond (decide (l[b] = 0)) (.bool (decide (0 < (j : Int)))) undef)] ?_ fun f18 => ?_
  ·cases h17 : (decide (l[b] = 0)) with
   | true =>
    replace h17 := dt h17
    refine JLM rfl <| JLn (Pu.gtr rfl rfl) ?_
    exact Zb ⟨⟨rfl, trivial⟩, rfl⟩
   | false =>
    exact Zx rfl ⟨rfl, trivial⟩
  refine JLn (Pu.pickAnd rfl rfl rfl) <| Zb <| Zg rfl (fun h19 => ?_) (fun h19 => ?_)
  ·obtain ⟨h19a, h19b⟩ := Ym h19
   replace h19a := dt h19a
   replace h19b := dt h19b
   refine Za <| JLM rfl <| JLM rfl <| Zv 0 rfl Tryz.call81 rfl rfl (fun hin => YY l _ _ (RBs.mono (Hle.hu _ _) hv) _ _ _ _ _ _ _) rfl ?_
   rintro _ _ ⟨rfl, rfl⟩
   refine Zb <| Zc <| Za <| JLM rfl <| JLA rfl <| Zb <| Zj <| ⟨iv (n + (l[b] % 128 * u)), [(BX bR [v, iv (((b + 1 : Nat) : Int)), iv c, iv ((a : Int)), iv 4] 131)], Ret.one rfl (RV.tmp rfl), (Sk Sub.nil), ?_⟩
   first | rw [Xn (by omega)] at hinv | rw [Y3 hbl (by omega) (by omega)] at hinv | rw [YH hbl (by omega) (fun q => by have z := hpick; simp [q.1] at z; omega) (by omega)] at hinv | (rw [show 6 - j = 0 from by omega, Xj] at hinv)
   exact ⟨_, _, _, _, rfl, rfl, by rw [← hinv]; exact ⟨rfl, rfl⟩, by omega, by omega, by unfold inI; rcases hku with h | h | h | h | h | h | h <;> omega⟩
  refine Zc <| Za <| JLM rfl <| JLM rfl <| JLn (Pu.gtr rfl rfl) <| Zb <| Zg rfl (fun h20 => ?_) (fun h20 => ?_)
  ·replace h20 := dt h20
   refine Za <| JLM rfl <| JLM rfl <| Zv 0 rfl Tryz.call81 rfl rfl (fun hin => YY l _ _ (RBs.mono (Hle.hu _ _) hv) _ _ _ _ _ _ _) rfl ?_
   rintro _ _ ⟨rfl, rfl⟩
   refine Zb <| Zc <| Za <| JLM rfl <| JLA rfl <| Zb <| Zj <| ⟨iv (n + (l[b] % 128 * u)), [(BX bR [v, iv (((b + 1 : Nat) : Int)), iv c, iv ((a : Int)), iv 3] 131)], Ret.one rfl (RV.tmp rfl), (Sk Sub.nil), ?_⟩
   first | rw [Xn (by omega)] at hinv | rw [Y3 hbl (by omega) (by omega)] at hinv | rw [YH hbl (by omega) (fun q => by have z := h19; simp [q.1] at z; omega) (by omega)] at hinv | (rw [show 6 - j = 0 from by omega, Xj] at hinv)
   exact ⟨_, _, _, _, rfl, rfl, by rw [← hinv]; exact ⟨rfl, rfl⟩, by omega, by omega, by unfold inI; rcases hku with h | h | h | h | h | h | h <;> omega⟩
  replace h20 := df h20
  refine Zh <| Zc <| Za <| JLM rfl <| JLA rfl <| Zb <| Zj <| ⟨iv (n + (l[b] % 128 * u)), [(BX bR [v, iv (((b + 1 : Nat) : Int)), iv c, iv w, iv 0] 131)], Ret.one rfl (RV.tmp rfl), (Sk Sub.nil), ?_⟩
  rw [numD_done hbl (by omega) (fun q => by have z := h19; simp [q.1] at z; omega) (by omega)] at hinv
  exact ⟨_, _, _, _, rfl, rfl, by rw [← hinv]; exact ⟨rfl, rfl, rfl, rfl⟩, by omega, by omega, by unfold inI; rcases hku with h | h | h | h | h | h | h <;> omega⟩
 replace h11 := df h11
 have h11n : 6 ≤ j := by omega
 refine Zz _ rfl <| Zc <| Za <| JLM rfl <| JLM rfl <| Zv 0 rfl Tryz.call81 rfl rfl (fun hin => YY l _ _ (RBs.mono (Hle.hu _ _) hv) _ _ _ _ _ _ _) rfl ?_
 rintro _ _ ⟨rfl, rfl⟩
 refine Zb <| Zc <| Za <| JLA rfl <| Zb <| Zj <| ⟨iv 0, [(BX bR [v, iv ((b : Int)), iv c, iv ((a : Int)), iv 3] 131)], Ret.one rfl (RV.tmp rfl), (Sk Sub.nil), ?_⟩
 first | rw [Xn (by omega)] at hinv | rw [Y3 hbl (by omega) (by omega)] at hinv | rw [YH hbl (by omega) (fun q => by have z := h19; simp [q.1] at z; omega) (by omega)] at hinv | (rw [show 6 - j = 0 from by omega, Xj] at hinv)
 exact ⟨_, _, _, _, rfl, rfl, by rw [← hinv]; exact ⟨rfl, rfl⟩, by omega, by omega, by unfold inI; rcases hku with h | h | h | h | h | h | h <;> omega⟩
theorem someR_ct (l : List Int) (v : Value) (H : Heap) (hv : Hs.rdS RB 1 H v l) (hby8 : ∀ x ∈ l, 0 ≤ x ∧ x ≤ 255) (bR a : Nat) (ha : a ≤ l.length) (hl : l.length ≤ 1000000) (most c w : Int) : CT Tryz.prog 119 ⟨[pp bR 0, iv most]⟩ [(BX bR [v, iv ((a : Int)), iv c, iv w, iv 0] 131)] H (fun r N => ∃ x a' w' e', r = iv x ∧ N = [(BX bR [v, iv (a'), iv c, iv (w'), iv (e')] 131)] ∧ numQ (Yz l most a) x a' w' e' w ∧ 0 ≤ a' ∧ a' ≤ (l.length : Int) ∧ inI x) := by
 refine Zm Tryz.func119 rfl rfl <| Zc <| Za <| JLA rfl <| Zb <| Zc <| Za <| JLM rfl <| JLq (pp bR 0) (Pu.nilCheck rfl) <| JLq (pp bR 1) (Yt rfl rfl) <| JLr (Ze ty3 rfl (At.bx 0 rfl) rfl <| JLA rfl <| Zb ?_)
 refine Zc <| Za <| JLM rfl <| JLM rfl <| Zv 0 rfl Tryz.call118 rfl rfl (fun hin => numR_ct l _ _ (RBs.mono (Hle.hu _ _) hv) hby8 _ a (by omega) (by omega) _ _ _) rfl ?_
 rintro _ _ ⟨x1, a1, w1, e1, rfl, rfl, hq1, hlo1, hhi1, hI1⟩
 refine JLA rfl <| Zb <| Zc <| Zc <| Za <| JLM rfl <| JLq (pp bR 0) (Pu.nilCheck rfl) <| JLq (pp bR 4) (YI rfl rfl) <| JLr (Ze ty31 rfl (At.bx 0 rfl) rfl <| JLn (Pu.eql rfl rfl) <| JLM rfl <| Zr 2 [20, 21] [(21, cond (decide (e1 = 0)) (.bool (decide (x1 = 0))) undef)] ?_ fun f3 => ?_)
 ·cases h2 : (decide (e1 = 0)) with
  | true =>
   replace h2 := dt h2
   refine JLM rfl <| JLn (Pu.eql rfl rfl) ?_
   exact Zb ⟨⟨rfl, trivial⟩, rfl⟩
  | false =>
   exact Zx rfl ⟨rfl, trivial⟩
 refine JLn (Pu.pickAnd rfl rfl rfl) <| Zb <| Zg rfl (fun h4 => ?_) (fun h4 => ?_)
 ·obtain ⟨h4a, h4b⟩ := Ym h4
  replace h4a := dt h4a
  replace h4b := dt h4b
  refine Za <| JLM rfl <| JLM rfl <| Zv 0 rfl Tryz.call81 rfl rfl (fun hin => YY l _ _ (RBs.mono (Hle.hu _ _) hv) _ _ _ _ _ _ _) rfl ?_
  rintro _ _ ⟨rfl, rfl⟩
  refine Zb <| Zc <| Za <| JLM rfl <| JLA rfl <| Zb <| Zj <| ⟨iv x1, [(BX bR [v, iv a1, iv c, iv ((a : Int)), iv 4] 131)], Ret.one rfl (RV.tmp rfl), (Sk Sub.nil), ?_⟩
  exact ⟨_, _, _, _, rfl, rfl, some_zero hq1 (by have z := h4; simp_all) (by have z := h4; simp_all) _, hlo1, hhi1, hI1⟩
 refine Zh <| Zc <| Za <| JLM rfl <| JLA rfl <| Zb <| Zj <| ⟨iv x1, [(BX bR [v, iv a1, iv c, iv w1, iv e1] 131)], Ret.one rfl (RV.tmp rfl), (Sk Sub.nil), ?_⟩
 exact ⟨_, _, _, _, rfl, rfl, some_else hq1 (by have z := h4; rintro ⟨z1, z2⟩; simp [z1, z2] at z), hlo1, hhi1, hI1⟩
end Go.Proofs.YtkjafeejpmcnkaaGreat.Hs
/-! Walks, printed by a program of this session's own (gen.py). -/
namespace Go.Proofs.YtkjafeejpmcnkaaGreat.Hs
open Go Go.Proofs
set_option maxRecDepth 100000
set_option linter.unusedVariables false
set_option linter.unusedSimpArgs false
attribute [local irreducible] JL J CT wlo DT
theorem stay_ct (n b : Int) (H : Heap) (hb : inI (n + b)) : CT Tryz.prog 69 ⟨[iv n, iv b]⟩ [] H (fun v N => ∃ cs k, v = .agg ⟨cs⟩ ∧ N = [k] ∧ OT (.mk 1 (n + b) zS [] []) cs k) := by
 have hb1 : -9223372036854775808 ≤ n + b := hb.1
 have hb2 : n + b ≤ 9223372036854775807 := hb.2
 refine Zm Tryz.func69 rfl rfl <| Zc <| Za <| JLr (Zk (l := pkT 0 0 zS nS nS) Tryz.zeroValue30 rfl fun b1 => Zb <| Zc <| Za <| JLM rfl <| JLM rfl <| JLn (Pu.add64 rfl rfl (by first | omega | (constructor <;> omega))) <| JLq (.agg ⟨pkT 1 (n + b) zS nS nS⟩) (Pu.build (pv := [(0, iv 1), (1, iv (n + b))]) (l := pkT 1 (n + b) zS nS nS) rfl (bld30_0_1 _ _)) <| JLr (Zd 0 (vs := pkT 1 (n + b) zS nS nS) (l := pkT 1 (n + b) zS nS nS) Zt rfl rfl rfl rfl rfl (ZS rfl rfl) (YF ..) <| Zb ?_))
 refine Zj <| ⟨.agg ⟨pkT 1 (n + b) zS nS nS⟩, [[]], Ret.one rfl (RV.cell Zt rfl (At.bx 0 rfl) (Yr ..)), (Sub.emp Sub.nil), ?_⟩
 exact ⟨_, _, rfl, rfl, OT_leaf (by unfold inI; omega) hb⟩
theorem same_ct (s : Sm) (H : Heap) : CT Tryz.prog 70 ⟨[.agg ⟨sC s⟩]⟩ [] H (fun v N => v = .agg ⟨sC s⟩ ∧ N = []) := by
 refine Zm Tryz.func70 rfl rfl <| Zc <| Za <| JLr (Zp (l := sC s) rfl rfl fun b1 => JLr (Zk (l := sC zS) Tryz.zeroValue26 rfl fun b2 => Zb <| Zc <| Za <| JLr (Zl YR rfl (At.bx 1 rfl) (Zu rfl) <| JLr (Zd 0 (vs := sC s) (l := sC s) YR rfl rfl rfl rfl rfl (sC_ok _) (ZI rfl rfl) <| Zb <| Zj <| ⟨.agg ⟨sC s⟩, [], Ret.one rfl (RV.cell YR rfl (At.bx 0 rfl) (Zu rfl)), Sub.nil, ?_⟩))))
 exact ⟨rfl, rfl⟩
theorem mapPattern_ct : ∀ (gr : Nat) (frs crs : List Value) (hcallr : ∀ args w, (callFunc gr args).run Tryz.prog w = .ok (.enter gr args) w) (rf : Sm → Sm) (fv : Value) (hfv : fv.oneCell' = true) (p : Pt) (cs : List Value) (H : Heap), RP H cs p → (∀ s h, Hle H h → CT Tryz.prog gr ⟨frs ++ [.agg ⟨sC s⟩] ++ crs⟩ [] h (fun v N => v = .agg ⟨sC (rf s)⟩ ∧ N = [])) → sizeP p ≤ 1000000 → CT Tryz.prog 106 ⟨[.agg ⟨[fv, .func (.func gr) ⟨frs⟩ ⟨crs⟩]⟩, .agg ⟨cs⟩]⟩ [] H (fun v N => ∃ cs k, v = .agg ⟨cs⟩ ∧ N = [k] ∧ OP (mapP rf p) cs k) := by
 intro gr frs crs hcallr rf fv hfv p
 induction p using Pt.ind with
 | h kind num ref kids ih =>
 intro cs H hp hgr hz
 rw [sizeP] at hz
 have hlk := len_sizePs kids
 obtain ⟨ks, rfl, hk, hn, hks⟩ := RP_mk.1 hp
 refine Zm Tryz.func106 rfl rfl <| Zc <| Za <| JLr (Zp (l := [fv, .func (.func gr) ⟨frs⟩ ⟨crs⟩]) rfl rfl fun b1 => JLr (Zp (l := pkP kind num ref ks) rfl rfl fun b2 => JLr (Zk (l := pkP 0 0 zS nS) Tryz.zeroValue81 rfl fun b3 => Zb <| Zc <| Zy mixed #[0, 1, 0, 4, 0, 16, 0, 64, 240, 511, 0, 2047] 11 [some 8, some 9, some 10, some 11, some 12, some 13, some 14, some 15, some 16, some 17, some 5] [] [(8, fun _ _ vw qw => vw = .agg ⟨sC (rf ref)⟩ ∧ qw = []), (10, newP 81 (pkP 0 0 zS nS))] rfl (by kernel_rfl) rfl (by kernel_rfl) <| Dq (pp b2 0) (fun _ => Yp rfl rfl) <| Dl1 ty3 (At.bx 1 rfl) (Y6 ..) <| Dq (pp b2 1) (fun _ => fa81_1 rfl rfl) <| Dl1 ty3 (At.bx 1 rfl) (pkP_1 ..) ?_)))
 refine Dq (pp b1 1) (fun _ => fa118_1 rfl rfl) <| Dl1 ty116 (At.bx 2 rfl) rfl <| Dq (pp b2 2) (fun _ => fa81_2 rfl rfl) <| Dl YR (At.bx 1 rfl) (pkP_2 ..) <| Dc rfl hcallr (fun _ => rfl) (fun hin => hgr _ _ (Hle.hu _ _)) ?_
 rintro _ _ ⟨rfl, rfl⟩
 refine Dq (.agg ⟨pkP kind num (rf ref) nS⟩) (fun _ => Pu.build (pv := [(0, iv kind), (1, iv num), (2, .agg ⟨sC (rf ref)⟩)]) (l := pkP kind num (rf ref) nS) rfl (bld81_0_1_2 _ _ _)) <| Da Tryz.zeroValue81 rfl fun b5 => ZH (M' := [(BX b5 (pkP 0 0 zS nS) 81), (BX b3 (pkP 0 0 zS nS) 81), (BX b2 (pkP kind num ref ks) 81), (BX b1 [fv, .func (.func gr) ⟨frs⟩ ⟨crs⟩] 118)]) rfl ?_
 show JL _ _ _ [_] _ _ _
 refine JLr (Zd 0 (vs := pkP kind num (rf ref) nS) (l := pkP kind num (rf ref) nS) Z7 rfl rfl rfl rfl rfl (pkP_ok rfl) (pkP_s ..) <| Zb <| Zc <| Zc <| Za <| JLq (pp b2 34) (Yi rfl rfl) <| JLr (Ze ty79 rfl (At.bx 2 rfl) (Yo ..) ?_))
 obtain ⟨a6, cap6, hv6⟩ := hks.sl
 have hle6 := hks.le
 refine JLn (Pu.lenSl Tryz.runUnderlying79 hv6) <| JLM rfl <| Zb <| Zo <| ZN (fun k ρ M => ∃ (j : Nat) (v : Value) (es : List (List Value)) (k1 k2 : Zi), ρ 2 = pp b1 0 ∧ ρ 4 = pp b3 0 ∧ ρ 5 = pp b5 0 ∧ ρ 19 = ks ∧ ρ 20 = iv ((kids.length : Int)) ∧ ρ 21 = iv ((j : Int)) ∧ Sub [(BX b5 (pkP kind num (rf ref) v) 81), k1, k2, (BX b3 (pkP 0 0 zS nS) 81), (BX b1 [fv, .func (.func gr) ⟨frs⟩ ⟨crs⟩] 118)] M ∧ j ≤ kids.length ∧ Own 81 35 v es k1 ∧ OPs (mapPs rf (kids.take j)) es k2 ∧ k = kids.length - j) _ ⟨0, _, [], [], [], rfl, rfl, rfl, rfl, rfl, rfl, (Sk (Sub.emp (Sub.emp (Sk (Sd (Sk Sub.nil)))))), Nat.zero_le _, Own.nil, OPs.nil, rfl⟩ ?_
 rintro _ ρ7 _ ⟨j, v, es, k1, k2, e8, e9, e10, e11, e12, e13, hm14, hj, ho, hop, rfl⟩
 obtain ⟨ρ15, rfl⟩ := Zs (uc e8 (uc e9 (uc e10 (uc e11 (uc e12 (uc e13 un))))))
 clear e8 e9 e10 e11 e12 e13
 refine ZX hm14 ?_
 have hlen := hks.le
 refine Zc <| Za <| JLn (Pu.lss rfl rfl) <| Zb <| Zc <| Zg rfl (fun h16 => ?_) (fun h16 => ?_)
 ·replace h16 := dt h16
  have h16n : j < kids.length := by omega
  have hel := OPs_len hop
  rw [mapPs_len, List.length_take] at hel
  have hs1 := sizePs_mem _ (List.getElem_mem h16n)
  refine Zh <| Zc <| Zo <| Zc <| Za ?_
  obtain ⟨b17, o17, cap17, row17, T17, fr17, cs17, hv17, hb17, hs17, hE17⟩ := hks.get j (by first | assumption | omega | decide | simp)
  refine JLq (pp b17 (o17 + j * 35)) (Pu.idx j Tryz.runUnderlying79 Z7 hv17 rfl rfl (by first | assumption | omega | decide | simp)) <| JLr (Zl Z7 rfl (At.im hb17) hs17 <| JLr (Zk (l := pkP 0 0 zS nS) Tryz.zeroValue81 rfl fun b18 => JLr (Zd 0 (vs := cs17) (l := cs17) Z7 rfl rfl rfl rfl (ZT hE17) (RP_ok hE17) (ZI (n := 35) rfl (ZT hE17)) <| Zb <| Zy mixed #[0, 1, 0, 0, 12, 28, 63, 127, 255] 6 [some 25, some 26, some 27, some 28, some 29, some 30] [] [(4, fun _ _ vw qw => ∃ cs k, vw = .agg ⟨cs⟩ ∧ qw = [k] ∧ OP (mapP rf (kids[j])) cs k), (5, fun r _ vw qw => ∃ b k, vw = .slice (some ⟨b, 0, none⟩) 1 1 ∧ qw = [k] ∧ Own 81 35 (.slice (some ⟨b, 0, none⟩) 1 1) [(cel (r 4))] k ∧ k = (BX b (List.flatten [(cel (r 4))]) 81))] rfl (by kernel_rfl) rfl (by kernel_rfl) <| Dq (pp b5 34) (fun _ => Yi rfl rfl) <| Dl1 ty79 (At.bx 1 rfl) (Yo ..) <| Dl ty118 (At.bx 5 rfl) rfl <| Dl Z7 (At.bx 0 rfl) (Zu (ZT hE17)) ?_)))
  refine Dc rfl Tryz.call106 (fun _ => rfl) (fun hin => ih _ (List.getElem_mem h16n) _ _ (RP.mono (Hle.hu _ _) hE17) (fun s h hh => hgr s h (Hle.trans (Hle.hu _ _) hh)) (by omega)) ?_
  rintro _ _ ⟨cs21, k21, rfl, rfl, hO21⟩
  refine Dr rfl (fun _ => Zq (vs := [.agg ⟨cs21⟩]) [cs21] Tryz.runUnderlying79 el81 rfl rfl (by intro e he; simp only [List.mem_cons, List.not_mem_nil, or_false] at he; subst he; exact hO21.len) rfl (by decide) fun b k h1 h2 => ⟨[k], by rw [Yc rfl]; exact Sub.refl, b, k, rfl, rfl, h1, h2⟩) (fun _ _ ⟨b22, k22, e1, e2, ho22, hk22⟩ => ?_); subst e1 e2
  refine ZH (M' := [k22, k21, (BX b18 cs17 81), (BX b5 (pkP kind num (rf ref) v) 81), k1, k2, (BX b3 (pkP 0 0 zS nS) 81), (BX b1 [fv, .func (.func gr) ⟨frs⟩ ⟨crs⟩] 118)]) rfl ?_
  show JL _ _ _ [_, _, _] _ _ _
  have hlens23 : ∀ e ∈ ([cs21] : List (List Value)), List.length e = 35 := by
   intro e he; simp only [List.mem_cons, List.not_mem_nil, or_false] at he
   rcases he with rfl
   ·exact hO21.len
  have hoks23 : ∀ e ∈ ([cs21] : List (List Value)), okc e := by
   intro e he; simp only [List.mem_cons, List.not_mem_nil, or_false] at he
   rcases he with rfl
   ·exact hO21.ok
  refine JLr (ZM (i := 4) (n := 1) (es' := [cs21]) Tryz.runUnderlying79 Tryz.runUnderlying79 (Or.inl rfl) el81 rfl rfl rfl ho (fun F w m => Src.row (((At.k 0 rfl (by rw [hk22]; exact List.mem_cons_self))).heap m) (Zu (ZD hlens23))) rfl hlens23 hoks23 (by decide) (by omega) fun v23 k23 ho23 => JLq (pp b5 34) (Yi rfl rfl) <| JLr (Zd 3 (vs := [v23]) (l := pkP kind num (rf ref) v23) ty79 rfl rfl rfl (Z2 ho23.one) rfl (Zf ho23.one Zn) (pkP_s34 ..) <| Zb <| Za <| JLn (Pu.inc rfl rfl (by omega)) <| JLM rfl <| Zb <| ⟨_, ?_, (j + 1), v23, (es ++ [cs21]), k23, (k2 ++ k21), rfl, rfl, rfl, rfl, rfl, rfl, (Sd (Sub.cons 2 rfl (Sub.cons 2 rfl (Sub.join (Sub.cons 2 rfl (Sk (Sd (Sk (Sk Sub.nil))))))))), ?_, ?_, ?_, rfl⟩))
  ·omega
  ·omega
  ·assumption
  rw [mapPs_take rf kids j h16n]; exact OPs.snoc hO21 hop
 replace h16 := df h16
 have h16n : kids.length ≤ j := by omega
 refine Zz _ rfl <| Zc <| Za <| JLr (Zl Z7 rfl (At.bx 0 rfl) (pkP_a ..) <| JLr (Zd 3 (vs := pkP kind num (rf ref) v) (l := pkP kind num (rf ref) v) Z7 rfl rfl rfl rfl rfl (pkP_ok ho.one) (pkP_s ..) <| Zb <| Zj <| ⟨.agg ⟨pkP kind num (rf ref) v⟩, [k1 ++ k2], Ret.one rfl (RV.cell Z7 rfl (At.bx 3 rfl) (pkP_a ..)), (Sub.join (Sd (Sk (Sk Sub.nil)))), ?_⟩))
 rw [List.take_of_length_le h16n] at hop
 exact ⟨_, _, rfl, rfl, by rw [mapP]; exact OP_mk.2 ⟨v, es, k1, k2, rfl, hk, hn, ho, hop, rfl, by rw [mapPs_len]; exact hks.le⟩⟩
end Go.Proofs.YtkjafeejpmcnkaaGreat.Hs
/-! Walks, printed by a program of this session's own (gen.py). -/
namespace Go.Proofs.YtkjafeejpmcnkaaGreat.Hs
open Go Go.Proofs
set_option maxRecDepth 100000
set_option linter.unusedVariables false
set_option linter.unusedSimpArgs false
attribute [local irreducible] JL J CT wlo DT
end Go.Proofs.YtkjafeejpmcnkaaGreat.Hs
/-! Walks, printed by a program of this session's own (gen.py). -/
namespace Go.Proofs.YtkjafeejpmcnkaaGreat.Hs
open Go Go.Proofs
set_option maxRecDepth 100000
set_option linter.unusedVariables false
set_option linter.unusedSimpArgs false
attribute [local irreducible] JL J CT wlo DT
set_option maxHeartbeats 1000000 in
theorem mapTerm_ct : ∀ (gr : Nat) (frs crs : List Value) (hcallr : ∀ args w, (callFunc gr args).run Tryz.prog w = .ok (.enter gr args) w) (rf : Sm → Sm) (gv : Nat) (fvs cvs : List Value) (hcallv : ∀ args w, (callFunc gv args).run Tryz.prog w = .ok (.enter gv args) w) (σ : Type) (Sc : σ → Zi) (Inv : σ → Prop) (vf : Int → Int → σ → Tm × σ) (hI : ∀ n b s, Inv s → Inv (vf n b s).2) (t : Tm) (b : Int) (s : σ) (cs : List Value) (H : Heap), RT H cs t → sizeT t ≤ 1000000 → vOK t → 0 ≤ b → b + 2 * sizeT t ≤ 2000000 → Inv s → (∀ s h, Hle H h → CT Tryz.prog gr ⟨frs ++ [.agg ⟨sC s⟩] ++ crs⟩ [] h (fun v N => v = .agg ⟨sC (rf s)⟩ ∧ N = [])) → (∀ (n b : Int) (s : σ) (h : Heap), Hle H h → Inv s → 0 ≤ n → n ≤ 2000000 → 0 ≤ b → b ≤ 2000000 → CT Tryz.prog gv ⟨fvs ++ [iv n, iv b] ++ cvs⟩ [Sc s] h (fun v N => ∃ cs k, v = .agg ⟨cs⟩ ∧ N = [k, Sc (vf n b s).2] ∧ OT (vf n b s).1 cs k)) → CT Tryz.prog 71 ⟨[.agg ⟨[.func (.func gv) ⟨fvs⟩ ⟨cvs⟩, .func (.func gr) ⟨frs⟩ ⟨crs⟩]⟩, .agg ⟨cs⟩, iv b]⟩ [Sc s] H (fun v N => ∃ cs k, v = .agg ⟨cs⟩ ∧ N = [k, Sc (Y4 rf vf b t s).2] ∧ OT (Y4 rf vf b t s).1 cs k) := by
 intro gr frs crs hcallr rf gv fvs cvs hcallv σ Sc Inv vf hI t
 induction t using Tm.ind with
 | h kind num ref kids cases ih ih' =>
 intro b s cs H ht hz hv hb0 hb hs hgr hgv
 rw [sizeT] at hz hb
 rw [vOK] at hv
 have hv1 : ¬ kind = 1 ∨ (0 ≤ num ∧ num ≤ 2000000) := by by_cases h : kind = 1; exact .inr (hv.1 h); exact .inl h
 have hlk := len_sizeTs kids
 have hlc := len_sizeCs cases
 obtain ⟨ks, cv, rfl, hk, hn, hks, hcv⟩ := RT_mk.1 ht
 have hn1 : -9223372036854775808 ≤ num := hn.1
 have hn2 : num ≤ 9223372036854775807 := hn.2
 refine Zm Tryz.func71 rfl rfl <| Zc <| Za <| JLr (Zp (l := [.func (.func gv) ⟨fvs⟩ ⟨cvs⟩, .func (.func gr) ⟨frs⟩ ⟨crs⟩]) rfl rfl fun b1 => JLr (Zp (l := pkT kind num ref ks cv) rfl rfl fun b2 => JLr (Zk (l := pkT 0 0 zS nS nS) Tryz.zeroValue30 rfl fun b3 => Zb <| Zc <| Zc <| Za <| JLq (pp b2 0) (ZL rfl rfl) <| JLr (Ze ty3 rfl (At.bx 1 rfl) (ZY ..) <| JLn (Pu.eql rfl rfl) ?_))))
 refine JLM rfl <| Zr 4 [16, 17, 18, 19] [(19, cond (decide (kind = 1)) (.bool (decide (b ≤ num))) undef)] ?_ fun f5 => ?_
 ·cases h4 : (decide (kind = 1)) with
  | true =>
   replace h4 := dt h4
   refine JLq (pp b2 1) (Z8 rfl rfl) <| JLr (Ze ty3 rfl (At.bx 1 rfl) (Ys ..) <| JLM rfl <| JLn (Pu.geq rfl rfl) ?_)
   exact Zb ⟨⟨rfl, trivial⟩, rfl⟩
  | false =>
   exact Zx rfl ⟨rfl, trivial⟩
 refine JLn (Pu.pickAnd rfl rfl rfl) <| Zb <| Zg rfl (fun h6 => ?_) (fun h6 => ?_)
 ·obtain ⟨h6a, h6b⟩ := Ym h6
  replace h6a := dt h6a
  replace h6b := dt h6b
  refine Zc <| Za <| JLq (pp b1 0) (fa118_0 rfl rfl) <| JLr (Ze ty115 rfl (At.bx 2 rfl) rfl <| JLq (pp b2 1) (Z8 rfl rfl) <| JLr (Ze ty3 rfl (At.bx 1 rfl) (Ys ..) <| JLM rfl <| JLn (Pu.sub64 rfl rfl (by first | omega | (constructor <;> omega))) <| JLM rfl <| Zv 3 rfl hcallv rfl rfl (fun hin => hgv _ _ _ _ (Hle.hu _ _) hs (by omega) (by omega) (by omega) (by omega)) rfl ?_))
  rintro _ _ ⟨cs7, k7, rfl, rfl, hO7⟩
  refine JLr (Zd 2 (vs := cs7) (l := cs7) Zt rfl rfl rfl rfl hO7.len hO7.ok (ZI (n := 36) rfl hO7.len) <| Zb <| Zj <| ⟨.agg ⟨cs7⟩, [k7, Sc ((vf (num - b) b s).2)], Ret.one rfl (RV.cell Zt rfl (At.bx 2 rfl) (Zu hO7.len)), (Sk (Sk Sub.nil)), ?_⟩)
  have hx : kind = 1 ∧ b ≤ num := ⟨h6a, h6b⟩
  exact ⟨_, _, rfl, by rw [Y4, if_pos hx], by rw [Y4, if_pos hx]; exact hO7⟩
 refine Zh <| Zc <| Zy mixed #[0, 1, 0, 4, 0, 16, 0, 64, 240, 511, 0, 2047] 11 [some 29, some 30, some 31, some 32, some 33, some 34, some 35, some 36, some 37, some 38, some 7] [] [(8, fun _ _ vw qw => vw = .agg ⟨sC (rf ref)⟩ ∧ qw = []), (10, newP 30 (pkT 0 0 zS nS nS))] rfl (by kernel_rfl) rfl (by kernel_rfl) <| Dq (pp b2 0) (fun _ => ZL rfl rfl) <| Dl1 ty3 (At.bx 1 rfl) (ZY ..) <| Dq (pp b2 1) (fun _ => Z8 rfl rfl) <| Dl1 ty3 (At.bx 1 rfl) (Ys ..) <| Dq (pp b1 1) (fun _ => fa118_1 rfl rfl) <| Dl1 ty116 (At.bx 2 rfl) rfl <| Dq (pp b2 2) (fun _ => fa30_2 rfl rfl) <| Dl YR (At.bx 1 rfl) (pkT_2 ..) <| Dc rfl hcallr (fun _ => rfl) (fun hin => hgr _ _ (Hle.hu _ _)) ?_
 rintro _ _ ⟨rfl, rfl⟩
 refine Dq (.agg ⟨pkT kind num (rf ref) nS nS⟩) (fun _ => Pu.build (pv := [(0, iv kind), (1, iv num), (2, .agg ⟨sC (rf ref)⟩)]) (l := pkT kind num (rf ref) nS nS) rfl (bld30_0_1_2 _ _ _)) <| Da Tryz.zeroValue30 rfl fun b9 => ZH (M' := [(BX b9 (pkT 0 0 zS nS nS) 30), (BX b3 (pkT 0 0 zS nS nS) 30), (BX b2 (pkT kind num ref ks cv) 30), (BX b1 [.func (.func gv) ⟨fvs⟩ ⟨cvs⟩, .func (.func gr) ⟨frs⟩ ⟨crs⟩] 118), Sc s]) rfl ?_
 show JL _ _ _ [_] _ _ _
 refine JLr (Zd 0 (vs := pkT kind num (rf ref) nS nS) (l := pkT kind num (rf ref) nS nS) Zt rfl rfl rfl rfl rfl (ZS rfl rfl) (YF ..) <| Zb <| Zc <| Za <| JLq (pp b2 34) (Ye rfl rfl) <| JLr (Ze ty27 rfl (At.bx 2 rfl) (Ya ..) ?_))
 obtain ⟨a10, cap10, hv10⟩ := hks.sl
 have hle10 := hks.le
 refine JLn (Pu.lenSl Tryz.runUnderlying27 hv10) <| JLr (Runs_makeO (kids.length) Tryz.runUnderlying27 el30 rfl rfl rfl rfl (by omega) (by omega) fun v11 k11 ho11 => JLq (pp b9 34) (Ye rfl rfl) <| JLr (Zd 1 (vs := [v11]) (l := pkT kind num (rf ref) v11 nS) ty27 rfl rfl rfl (Z2 ho11.one) rfl (Zf ho11.one Zn) (pkT_s34 ..) <| Zb <| Zc <| Za <| JLq (pp b9 34) (Ye rfl rfl) <| JLr (Ze ty27 rfl (At.bx 1 rfl) (Ya ..) <| JLq (pp b2 34) (Ye rfl rfl) <| JLr (Ze ty27 rfl (At.bx 3 rfl) (Ya ..) ?_))))
 obtain ⟨es12, he12, hH12, hl12, hok12, hsr12⟩ := kids_src (P := Tryz.prog) hks
 refine JLr (Runs_copy (i := 0) (n := kids.length) (m := kids.length) (es' := es12) Tryz.runUnderlying27 el30 rfl rfl rfl ho11 (fun F w m => hsr12 w _ m) he12 (by simp) hl12 hok12 rfl fun kc12 hc12 => Zb <| Zc <| Zc <| Za <| JLq (pp b9 34) (Ye rfl rfl) <| JLr (Ze ty27 rfl (At.bx 1 rfl) (Ya ..) ?_))
 obtain ⟨a13, cap13, hv13⟩ := hc12.sl
 rw [he12] at hv13
 refine JLn (Pu.lenSl Tryz.runUnderlying27 hv13) <| JLM rfl <| Zb <| Zo ?_
 have hneg : ¬ (kind = 1 ∧ b ≤ num) := by intro hh; simp [hh.1, hh.2] at h6
 refine ZN (fun k ρ M => ∃ (j : Nat) (es : List (List Value)) (k1 k2 : Zi) (s1 : σ), ρ 2 = iv b ∧ ρ 3 = pp b1 0 ∧ ρ 4 = pp b2 0 ∧ ρ 6 = pp b3 0 ∧ ρ 7 = pp b9 0 ∧ ρ 50 = v11 ∧ ρ 51 = iv ((kids.length : Int)) ∧ ρ 52 = iv ((j : Int)) ∧ Sub [(BX b9 (pkT kind num (rf ref) v11 nS) 30), k1, k2, Sc s1, (BX b3 (pkT 0 0 zS nS nS) 30), (BX b2 (pkT kind num ref ks cv) 30), (BX b1 [.func (.func gv) ⟨fvs⟩ ⟨cvs⟩, .func (.func gr) ⟨frs⟩ ⟨crs⟩] 118)] M ∧ j ≤ kids.length ∧ Own 30 36 v11 es k1 ∧ Half H kids (YV rf vf b kind 0 (kids.take j) s).1 j es k2 ∧ Inv s1 ∧ (YV rf vf b kind 0 (kids.take j) s).2 = s1 ∧ k = kids.length - j) _ ⟨0, es12, kc12, [], s, rfl, rfl, rfl, rfl, rfl, rfl, rfl, rfl, (Sub.cons 1 rfl (Sk (Sub.emp (Sub.cons 3 rfl (Sk (Sk (Sk Sub.nil))))))), Nat.zero_le _, hc12, hH12, hs, rfl, rfl⟩ ?_
 rintro _ ρ14 _ ⟨j, es, k1, k2, s1, e15, e16, e17, e18, e19, e20, e21, e22, hm23, hj, ho, hH, hs1, hsq, rfl⟩
 obtain ⟨ρ24, rfl⟩ := Zs (uc e15 (uc e16 (uc e17 (uc e18 (uc e19 (uc e20 (uc e21 (uc e22 un))))))))
 clear e15 e16 e17 e18 e19 e20 e21 e22
 refine ZX hm23 <| Zc <| Za <| JLn (Pu.lss rfl rfl) <| Zb <| Zc <| Zg rfl (fun h25 => ?_) (fun h25 => ?_)
 ·replace h25 := dt h25
  have h25n : j < kids.length := by omega
  have hz1 := sizeTs_mem _ (List.getElem_mem h25n)
  have hm1 := more_le kind j
  refine Zh <| Zc <| Zo <| Zc <| Za <| JLM rfl ?_
  obtain ⟨b26, cap26, row26, e26, hv26, hm26, hs26, hE26⟩ := hH.at ho h25n
  refine JLq (pp b26 (0 + j * 36)) (Pu.idx j Tryz.runUnderlying27 Zt hv26 rfl rfl (by rw [hH.1]; exact h25n)) <| JLr (Zl Zt rfl (At.k 1 rfl hm26) hs26 <| JLr (Zk (l := pkT 0 0 zS nS nS) Tryz.zeroValue30 rfl fun b27 => JLA rfl <| JLr (Zd 0 (vs := e26) (l := e26) Zt rfl rfl rfl rfl (Zw hE26) (RT_ok hE26) (ZI (n := 36) rfl (Zw hE26)) <| Zb <| Zy mixed #[0, 1, 0, 0, 0, 0, 0, 64, 0, 448, 992, 2040, 4095, 8191] 12 [some 57, some 58, some 59, some 60, some 61, some 62, some 63, some 64, some 65, some 66, some 67, some 68] [(11, 16)] [(9, fun _ _ vw qw => vw = iv (Z4 kind ((j : Int))) ∧ qw = []), (11, fun _ _ vw qw => ∃ cs k, vw = .agg ⟨cs⟩ ∧ qw = [k, Sc ((Y4 rf vf (b + (Z4 kind ((j : Int)))) (kids[j]) s1).2)] ∧ OT ((Y4 rf vf (b + (Z4 kind ((j : Int)))) (kids[j]) s1).1) cs k)] rfl (by kernel_rfl) rfl (by kernel_rfl) <| Dq (pp b9 34) (fun _ => Ye rfl rfl) <| Dl1 ty27 (At.bx 1 rfl) (Ya ..) <| DM (fun _ => rfl) <| Dl ty118 (At.bx 7 rfl) rfl <| Dl Zt (At.bx 0 rfl) (Zu (Zw hE26)) <| DM (fun _ => rfl) ?_)))
  refine Dq (pp b2 0) (fun _ => ZL rfl rfl) <| Dl1 ty3 (At.bx 6 rfl) (ZY ..) <| DM (fun _ => rfl) <| Dc rfl Tryz.call105 (fun _ => rfl) (fun hin => more_ct _ _ _) ?_
  rintro _ _ ⟨rfl, rfl⟩
  refine Dn (fun _ => Pu.add64 rfl rfl (by first | omega | (constructor <;> omega))) ?_
  refine Y1 4 rfl rfl (fun _ => rfl) Tryz.call71 (fun _ => rfl) rfl (fun hin => ih _ (List.getElem_mem h25n) _ _ _ _ (RT.mono (Hle.hu _ _) hE26) (by omega) (vOKs_mem hv.2.1 _ (List.getElem_mem h25n)) (by omega) (by omega) hs1 (fun s h hh => hgr s h (Hle.trans (Hle.hu _ _) hh)) (fun n b s h hh => hgv n b s h (Hle.trans (Hle.hu _ _) hh))) (fun _ => rfl) ?_
  rintro _ _ ⟨cs29, k29, rfl, rfl, hO29⟩
  refine ZH (M' := [k29, Sc ((Y4 rf vf (b + (Z4 kind ((j : Int)))) (kids[j]) s1).2), (BX b27 e26 30), (BX b9 (pkT kind num (rf ref) v11 nS) 30), k1, k2, (BX b3 (pkT 0 0 zS nS nS) 30), (BX b2 (pkT kind num ref ks cv) 30), (BX b1 [.func (.func gv) ⟨fvs⟩ ⟨cvs⟩, .func (.func gr) ⟨frs⟩ ⟨crs⟩] 118)]) rfl ?_
  show JL _ _ _ [_, _] _ _ _
  obtain ⟨b30, cap30, row30, e30, hv30, hm30, hs30, hE30⟩ := hH.at ho h25n
  refine JLq (pp b30 (0 + j * 36)) (Pu.idx j Tryz.runUnderlying27 Zt hv30 rfl rfl (by rw [hH.1]; exact h25n)) <| JLr (Xe (i := 4) (j := j) (b := b30) Zt rfl ho ⟨_, _, hv30⟩ rfl (by rw [hH.1]; exact h25n) rfl rfl hO29.len hO29.ok fun k31 ho31 => Zb <| Za <| JLn (Pu.inc rfl rfl (by omega)) <| JLM rfl <| Zb <| ⟨_, ?_, (j + 1), (es.set j cs29), k31, (k2 ++ k29), ((Y4 rf vf (b + (Z4 kind ((j : Int)))) (kids[j]) s1).2), rfl, rfl, rfl, rfl, rfl, rfl, rfl, rfl, (Sub.cons 3 rfl (Sub.cons 3 rfl (Sub.join (Sub.cons 3 rfl (Sk (Sk (Sd (Sk (Sk (Sk Sub.nil)))))))))), ?_, ?_, ?_, ?_, ?_, rfl⟩)
  ·omega
  ·omega
  ·exact ho31
  ·rw [mapTs_take0 rf vf b kind kids j s h25n, hsq]; exact hH.step h25n hO29
  ·exact mapT_inv hI _ _ _ hs1
  rw [mapTs_take0 rf vf b kind kids j s h25n, hsq]
 replace h25 := df h25
 have h25n : kids.length ≤ j := by omega
 refine Zz _ rfl <| Zc <| Zc <| Za <| JLq (pp b2 35) (Z0 rfl rfl) <| JLr (Ze Y2 rfl (At.bx 5 rfl) (ZZ ..) ?_)
 obtain ⟨a32, cap32, hv32⟩ := hcv.sl
 have hle32 := hcv.le
 refine JLn (Pu.lenSl Tryz.runUnderlying28 hv32) <| JLM rfl <| Zb <| Zo ?_
 have hjk := h25n
 rw [List.take_of_length_le hjk] at hsq hH
 refine ZN (fun k ρ M => ∃ (j : Nat) (w : Value) (es2 : List (List Value)) (k3 k4 : Zi) (s2 : σ), ρ 2 = iv b ∧ ρ 3 = pp b1 0 ∧ ρ 6 = pp b3 0 ∧ ρ 7 = pp b9 0 ∧ ρ 72 = cv ∧ ρ 73 = iv ((cases.length : Int)) ∧ ρ 74 = iv ((j : Int)) ∧ Sub [(BX b9 (pkT kind num (rf ref) v11 w) 30), k3, k4, Sc s2, k1, k2, (BX b3 (pkT 0 0 zS nS nS) 30), (BX b2 (pkT kind num ref ks cv) 30), (BX b1 [.func (.func gv) ⟨fvs⟩ ⟨cvs⟩, .func (.func gr) ⟨frs⟩ ⟨crs⟩] 118)] M ∧ j ≤ cases.length ∧ Own 86 71 w es2 k3 ∧ OCs (mapCs rf vf b (cases.take j) s1).1 es2 k4 ∧ Inv s2 ∧ (mapCs rf vf b (cases.take j) s1).2 = s2 ∧ k = cases.length - j) _ ⟨0, nS, [], [], [], s1, rfl, rfl, rfl, rfl, rfl, rfl, rfl, (Sk (Sub.emp (Sub.emp (Sub.cons 2 rfl (Sk (Sk (Sk (Sk (Sk Sub.nil))))))))), Nat.zero_le _, Own.nil, OCs.nil, hs1, rfl, rfl⟩ ?_
 rintro _ ρ33 _ ⟨j, w, es2, k3, k4, s2, e34, e35, e36, e37, e38, e39, e40, hm41, hj, how, hopw, hs2, hsq2, rfl⟩
 obtain ⟨ρ42, rfl⟩ := Zs (uc e34 (uc e35 (uc e36 (uc e37 (uc e38 (uc e39 (uc e40 un)))))))
 clear e34 e35 e36 e37 e38 e39 e40
 refine ZX hm41 <| Zc <| Za <| JLn (Pu.lss rfl rfl) <| Zb <| Zc <| Zg rfl (fun h43 => ?_) (fun h43 => ?_)
 ·replace h43 := dt h43
  have h43n : j < cases.length := by omega
  have helw := OCs_len hopw
  rw [mapCs_len, List.length_take] at helw
  have hz1 := sizeCs_mem _ (List.getElem_mem h43n)
  have hm1 := binds_le (cases[j]).1
  refine Zh <| Zc <| Zo <| Zc <| Za ?_
  obtain ⟨b44, o44, cap44, row44, T44, fr44, cs44, hv44, hb44, hs44, hE44⟩ := hcv.get j (by first | assumption | omega | decide | simp)
  obtain ⟨ca44, cb44, rfl, hA44, hB44⟩ := hE44
  refine JLq (pp b44 (o44 + j * 71)) (Pu.idx j Tryz.runUnderlying28 Xk hv44 rfl rfl (by first | assumption | omega | decide | simp)) <| JLr (Zl Xk rfl (At.im hb44) hs44 <| JLr (Zk (l := (pkP 0 0 zS nS) ++ (pkT 0 0 zS nS nS)) Tryz.zeroValue86 rfl fun b45 => JLr (Zd 0 (vs := ca44 ++ cb44) (l := ca44 ++ cb44) Xk rfl rfl rfl rfl (Yg (ZT hA44) (Zw hB44)) (Yk (RP_ok hA44) (RT_ok hB44)) (ZI (n := 71) rfl (Yg (ZT hA44) (Zw hB44))) <| Zb <| Zy mixed #[0, 1, 0, 0, 8, 28, 0, 0, 128, 0, 0, 1024, 3132, 7740, 16380, 32764, 65532, 131071, 262143, 524287] 17 [some 78, some 79, some 80, some 81, some 82, some 83, some 84, some 85, some 86, some 87, some 88, some 89, some 90, some 91, some 92, some 93, some 94] [(14, 21)] [(5, fun _ _ vw qw => ∃ cs k, vw = .agg ⟨cs⟩ ∧ qw = [k] ∧ OP (mapP rf (cases[j].1)) cs k), (12, fun _ _ vw qw => vw = iv ((binds (cases[j].1) : Int)) ∧ qw = []), (14, fun _ _ vw qw => ∃ cs k, vw = .agg ⟨cs⟩ ∧ qw = [k, Sc ((Y4 rf vf (b + ((binds (cases[j].1) : Int))) (cases[j].2) s2).2)] ∧ OT ((Y4 rf vf (b + ((binds (cases[j].1) : Int))) (cases[j].2) s2).1) cs k), (16, fun r _ vw qw => ∃ b k, vw = .slice (some ⟨b, 0, none⟩) 1 1 ∧ qw = [k] ∧ Own 86 71 (.slice (some ⟨b, 0, none⟩) 1 1) [((cel (r 5))) ++ ((cel (r 14)))] k ∧ k = (BX b (List.flatten [((cel (r 5))) ++ ((cel (r 14)))]) 86))] rfl (by kernel_rfl) rfl (by kernel_rfl) <| Dq (pp b9 35) (fun _ => Z0 rfl rfl) <| Dl1 Y2 (At.bx 1 rfl) (ZZ ..) <| Dl ty118 (At.bx 9 rfl) rfl <| Dq (pp b45 0) (fun _ => fa86_0 rfl rfl) <| Dl Z7 (At.bx 0 rfl) (sub_l (ZT hA44)) ?_)))
  refine Dc rfl Tryz.call106 (fun _ => rfl) (fun hin => mapPattern_ct gr frs crs hcallr rf _ rfl _ _ _ (RP.mono (Hle.hu _ _) hA44) (fun s h hh => hgr s h (Hle.trans (Hle.hu _ _) hh)) (by omega)) ?_
  rintro _ _ ⟨cs49, k49, rfl, rfl, hO49⟩
  refine Dl ty118 (At.bx 9 rfl) rfl <| Dq (pp b45 35) (fun _ => fa86_1 rfl rfl) <| Dl Zt (At.bx 0 rfl) (sub_r (ZT hA44) (Zw hB44)) <| DM (fun _ => rfl) <| Dq (pp b45 0) (fun _ => fa86_0 rfl rfl) <| Dl Z7 (At.bx 0 rfl) (sub_l (ZT hA44)) ?_
  refine Dc rfl Tryz.call107 (fun _ => rfl) (fun hin => binds_ct _ _ _ (RP.mono (Hle.hu _ _) hA44) (by omega)) ?_
  rintro _ _ ⟨rfl, rfl⟩
  refine Dn (fun _ => Pu.add64 rfl rfl (by first | omega | (constructor <;> omega))) ?_
  refine Y1 5 rfl rfl (fun _ => rfl) Tryz.call71 (fun _ => rfl) rfl (fun hin => ih' _ (List.getElem_mem h43n) _ _ _ _ (RT.mono (Hle.hu _ _) hB44) (by omega) (vOKc_mem hv.2.2 _ (List.getElem_mem h43n)) (by omega) (by omega) hs2 (fun s h hh => hgr s h (Hle.trans (Hle.hu _ _) hh)) (fun n b s h hh => hgv n b s h (Hle.trans (Hle.hu _ _) hh))) (fun _ => rfl) ?_
  rintro _ _ ⟨cs50, k50, rfl, rfl, hO50⟩
  refine Dq (.agg ⟨cs49 ++ cs50⟩) (fun _ => Pu.build (pv := [(0, .agg ⟨cs49⟩), (1, .agg ⟨cs50⟩)]) (l := cs49 ++ cs50) rfl (bld86_0_1 hO49.len hO50.len)) <| Dr rfl (fun _ => Zq (vs := [.agg ⟨cs49 ++ cs50⟩]) [cs49 ++ cs50] Tryz.runUnderlying28 el86 rfl rfl (by intro e he; simp only [List.mem_cons, List.not_mem_nil, or_false] at he; subst he; exact (Yg hO49.len hO50.len)) rfl (by decide) fun b k h1 h2 => ⟨[k], by rw [Yc rfl]; exact Sub.refl, b, k, rfl, rfl, h1, h2⟩) (fun _ _ ⟨b51, k51, e1, e2, ho51, hk51⟩ => ?_); subst e1 e2
  refine ZH (M' := [k51, k50, Sc ((Y4 rf vf (b + ((binds (cases[j].1) : Int))) (cases[j].2) s2).2), k49, (BX b45 (ca44 ++ cb44) 86), (BX b9 (pkT kind num (rf ref) v11 w) 30), k3, k4, k1, k2, (BX b3 (pkT 0 0 zS nS nS) 30), (BX b2 (pkT kind num ref ks cv) 30), (BX b1 [.func (.func gv) ⟨fvs⟩ ⟨cvs⟩, .func (.func gr) ⟨frs⟩ ⟨crs⟩] 118)]) rfl ?_
  show JL _ _ _ [_, _, _] _ _ _
  have hlens52 : ∀ e ∈ ([cs49 ++ cs50] : List (List Value)), List.length e = 71 := by
   intro e he; simp only [List.mem_cons, List.not_mem_nil, or_false] at he
   rcases he with rfl
   ·exact (Yg hO49.len hO50.len)
  have hoks52 : ∀ e ∈ ([cs49 ++ cs50] : List (List Value)), okc e := by
   intro e he; simp only [List.mem_cons, List.not_mem_nil, or_false] at he
   rcases he with rfl
   ·exact (Yk hO49.ok hO50.ok)
  refine JLr (ZM (i := 6) (n := 1) (es' := [cs49 ++ cs50]) Tryz.runUnderlying28 Tryz.runUnderlying28 (Or.inl rfl) el86 rfl rfl rfl how (fun F w m => Src.row (((At.k 0 rfl (by rw [hk51]; exact List.mem_cons_self))).heap m) (Zu (ZD hlens52))) rfl hlens52 hoks52 (by decide) (by omega) fun v52 k52 ho52 => JLq (pp b9 35) (Z0 rfl rfl) <| JLr (Zd 5 (vs := [v52]) (l := pkT kind num (rf ref) v11 v52) Y2 rfl rfl rfl (Z2 ho52.one) rfl (Zf ho52.one Zn) (pkT_s35 ..) <| Zb <| Za <| JLn (Pu.inc rfl rfl (by omega)) <| JLM rfl <| Zb <| ⟨_, ?_, (j + 1), v52, (es2 ++ [cs49 ++ cs50]), k52, (k4 ++ (k49 ++ k50)), ((Y4 rf vf (b + ((binds (cases[j].1) : Int))) (cases[j].2) s2).2), rfl, rfl, rfl, rfl, rfl, rfl, rfl, (Sd (Sub.cons 4 rfl (Sub.cons 4 rfl (Sub.join3 (Sub.cons 4 rfl (Sub.cons 2 rfl (Sk (Sk (Sd (Sk (Sk (Sk (Sk (Sk Sub.nil)))))))))))))), ?_, ?_, ?_, ?_, ?_, rfl⟩))
  ·omega
  ·omega
  ·exact ho52
  ·rw [mapCs_take rf vf b cases j s1 h43n, hsq2]; exact OCs.snoc hO49 hO50 hopw
  ·exact mapT_inv hI _ _ _ hs2
  rw [mapCs_take rf vf b cases j s1 h43n, hsq2]
 replace h43 := df h43
 have h43n : cases.length ≤ j := by omega
 refine Zz _ rfl <| Zc <| Za <| JLr (Zl Zt rfl (At.bx 0 rfl) (Yr ..) <| JLr (Zd 6 (vs := pkT kind num (rf ref) v11 w) (l := pkT kind num (rf ref) v11 w) Zt rfl rfl rfl rfl rfl (ZS ho.one how.one) (YF ..) <| Zb <| Zj <| ⟨.agg ⟨pkT kind num (rf ref) v11 w⟩, [k1 ++ (k2 ++ (k3 ++ k4)), Sc s2], Ret.one rfl (RV.cell Zt rfl (At.bx 6 rfl) (Yr ..)), (Sub.join4 (Sd (Sub.cons 3 rfl (Sub.cons 3 rfl (Sk (Sk (Sk Sub.nil))))))), ?_⟩))
 rw [List.take_of_length_le h43n] at hopw hsq2
 exact ⟨_, _, rfl, by rw [Y4, if_neg hneg, hsq, hsq2], by rw [Y4, if_neg hneg, hsq]; exact OT_mk.2 ⟨_, w, es, es2, k1, k2, k3, k4, rfl, hk, hn, ho, hH.done hjk, how, hopw, rfl, by rw [mapTs_len]; exact hks.le, by rw [mapCs_len]; exact hcv.le⟩⟩
end Go.Proofs.YtkjafeejpmcnkaaGreat.Hs
/-! Walks, printed by a program of this session's own (gen.py). -/
namespace Go.Proofs.YtkjafeejpmcnkaaGreat.Hs
open Go Go.Proofs
set_option maxRecDepth 100000
set_option linter.unusedVariables false
set_option linter.unusedSimpArgs false
attribute [local irreducible] JL J CT wlo DT
theorem idxI_ct (g : Nat) (fs cv : List Value) (hcall : ∀ args w, (callFunc g args).run Tryz.prog w = .ok (.enter g args) w) (pr : Int → Bool) (l : List Int) (v : Value) (H : Heap) (hl : rdS RI 1 H v l) (hg : ∀ x ∈ l, ∀ h, Hle H h → CT Tryz.prog g ⟨fs ++ [iv x] ++ cv⟩ [] h (fun v N => v = .bool (pr x) ∧ N = [])) : CT Tryz.prog 130 ⟨[v, .func (.func g) ⟨fs⟩ ⟨cv⟩]⟩ [] H (fun v N => v = iv (fstI pr l 0) ∧ N = []) := by
 refine Zm Tryz.func130 rfl rfl <| Zc <| Za <| JLA rfl <| Zb <| Zc <| Zc <| Za <| JLm v ?_
 obtain ⟨a1, cap1, hv1⟩ := hl.sl
 have hle1 := hl.le
 refine JLn (Pu.lenSl Tryz.runUnderlying59 hv1) <| JLM rfl <| Zb <| Zo <| ZN (fun k ρ M => ∃ (j : Nat), ρ 0 = v ∧ ρ 1 = .func (.func g) ⟨fs⟩ ⟨cv⟩ ∧ ρ 4 = iv 0 ∧ ρ 7 = iv ((l.length : Int)) ∧ ρ 8 = iv ((j : Int)) ∧ Sub [] M ∧ j ≤ l.length ∧ fstI pr (l.drop j) j = fstI pr l 0 ∧ k = l.length - j) _ ⟨0, rfl, rfl, rfl, rfl, rfl, Sub.nil, Nat.zero_le _, rfl, rfl⟩ ?_
 rintro _ ρ2 _ ⟨j, e3, e4, e5, e6, e7, hm8, hj, hinv, rfl⟩
 obtain ⟨ρ9, rfl⟩ := Zs (uc e3 (uc e4 (uc e5 (uc e6 (uc e7 un)))))
 clear e3 e4 e5 e6 e7
 refine ZX hm8 <| Zc <| Za <| JLn (Pu.lss rfl rfl) <| Zb <| Zc <| Zg rfl (fun h10 => ?_) (fun h10 => ?_)
 ·replace h10 := dt h10
  have h10n : j < l.length := by omega
  have hlenl := hl.le
  refine Zh <| Zc <| Zo <| Zc <| Za <| JLM rfl <| JLA rfl <| Zb <| Zc <| Za <| JLM rfl <| JLm v <| JLM rfl ?_
  obtain ⟨b11, o11, cap11, row11, T11, fr11, cs11, hv11, hb11, hs11, hE11⟩ := hl.get j (by first | assumption | omega | decide | simp)
  refine JLq (pp b11 (o11 + j * 1)) (Pu.idx j Tryz.runUnderlying59 ty3 hv11 rfl rfl (by first | assumption | omega | decide | simp)) <| JLr (Ze ty3 rfl (At.im hb11) (Yw ((show cs11 = [Value.int .i64 (l[j])] from hE11) ▸ hs11)) <| Jc hcall rfl (fun hin => hg _ (List.getElem_mem h10n) _ (Hle.hu _ _)) rfl ?_)
  rintro _ _ ⟨rfl, rfl⟩
  refine Zb <| Zg rfl (fun h12 => ?_) (fun h12 => ?_)
  ·refine Zc <| Za <| JLM rfl <| JLA rfl <| Zb <| Zj <| ⟨iv ((j : Int)), [], Ret.one rfl (RV.tmp rfl), Sub.nil, ?_⟩
   exact ⟨by rw [← hinv, ZW h10n, fstI, if_pos h12], rfl⟩
  refine Zh <| Za <| JLn (Pu.inc rfl rfl (by omega)) <| JLM rfl <| Zb <| ⟨_, ?_, (j + 1), rfl, rfl, rfl, rfl, rfl, Sub.nil, ?_, ?_, rfl⟩
  ·omega
  ·omega
  rw [ZW h10n, fstI, if_neg (by simp [h12])] at hinv; exact hinv
 replace h10 := df h10
 have h10n : l.length ≤ j := by omega
 refine Zz _ rfl <| Zc <| Za <| JLA rfl <| Zb <| Zj <| ⟨iv (-1), [], Ret.one rfl (RV.tmp rfl), Sub.nil, ?_⟩
 exact ⟨by rw [← hinv, YZ h10n]; rfl, rfl⟩
theorem containsI_ct (g : Nat) (fs cv : List Value) (hcall : ∀ args w, (callFunc g args).run Tryz.prog w = .ok (.enter g args) w) (pr : Int → Bool) (l : List Int) (v : Value) (H : Heap) (hl : rdS RI 1 H v l) (hg : ∀ x ∈ l, ∀ h, Hle H h → CT Tryz.prog g ⟨fs ++ [iv x] ++ cv⟩ [] h (fun v N => v = .bool (pr x) ∧ N = [])) : CT Tryz.prog 108 ⟨[v, .func (.func g) ⟨fs⟩ ⟨cv⟩]⟩ [] H (fun v N => v = .bool (l.any pr) ∧ N = []) := by
 refine Zm Tryz.func108 rfl rfl <| Zc <| Za <| JLA rfl <| Zb <| Zc <| Za <| JLm v <| JLM rfl <| Jc Tryz.call130 rfl (fun hin => idxI_ct g fs cv hcall pr _ _ _ (RIs.mono (Hle.hu _ _) hl) (fun x hx h hh => hg x hx h (Hle.trans (Hle.hu _ _) hh))) rfl ?_
 rintro _ _ ⟨rfl, rfl⟩
 refine JLn (Pu.geq rfl rfl) <| JLA rfl <| Zb <| Zj <| ⟨.bool (decide (0 ≤ fstI pr l 0)), [], Ret.one rfl (RV.tmp rfl), Sub.nil, ?_⟩
 exact ⟨by rw [← fstI_any pr l 0], rfl⟩
theorem every1_ct (g : Nat) (fs cv : List Value) (hcall : ∀ args w, (callFunc g args).run Tryz.prog w = .ok (.enter g args) w) (pr : Int → Bool) (x : Int) (H : Heap) (bP : Nat) (hP : H bP = some (.cells ⟨[.func (.func g) ⟨fs⟩ ⟨cv⟩]⟩ 91 (0, 0))) (hg : ∀ h, Hle H h → CT Tryz.prog g ⟨fs ++ [iv x] ++ cv⟩ [] h (fun v N => v = .bool (pr x) ∧ N = [])) : CT Tryz.prog 109 ⟨[iv x, pp bP 0]⟩ [] H (fun v N => v = .bool (!pr x) ∧ N = []) := by
 refine Zm Tryz.func109 rfl rfl <| Zc <| Za <| JLA rfl <| Zb <| Zc <| Za <| JLr (Ze ty91 rfl (At.im hP) rfl <| JLM rfl <| Jc hcall rfl (fun hin => hg _ (Hle.hu _ _)) rfl ?_)
 rintro _ _ ⟨rfl, rfl⟩
 refine JLn (Pu.not rfl) <| JLA rfl <| Zb <| Zj <| ⟨.bool (!(pr x)), [], Ret.one rfl (RV.tmp rfl), Sub.nil, ?_⟩
 exact ⟨rfl, rfl⟩
theorem every_ct (g : Nat) (fs cv : List Value) (hcall : ∀ args w, (callFunc g args).run Tryz.prog w = .ok (.enter g args) w) (pr : Int → Bool) (l : List Int) (v : Value) (H : Heap) (hl : rdS RI 1 H v l) (hg : ∀ x ∈ l, ∀ h, Hle H h → CT Tryz.prog g ⟨fs ++ [iv x] ++ cv⟩ [] h (fun v N => v = .bool (pr x) ∧ N = [])) : CT Tryz.prog 72 ⟨[v, .func (.func g) ⟨fs⟩ ⟨cv⟩]⟩ [] H (fun v N => v = .bool (l.all pr) ∧ N = []) := by
 refine Zm Tryz.func72 rfl rfl <| Zc <| Za <| JLr (Zp (l := [.func (.func g) ⟨fs⟩ ⟨cv⟩]) rfl rfl fun b1 => JLA rfl <| Zb <| Zc <| Za <| JLm v <| JLq (.func (.func 109) ⟨[]⟩ ⟨[pp b1 0]⟩) (Pu.makeFunc rfl rfl) <| Jc Tryz.call108 rfl (fun hin => containsI_ct 109 [] [pp b1 0] Tryz.call109 (fun x => !pr x) _ _ _ (RIs.mono (Hle.hu _ _) hl) (fun x hx h hh => every1_ct g fs cv hcall pr x h b1 (hh _ _ (hin 0 _ rfl _ _ List.mem_cons_self)) (fun h2 hh2 => hg x hx h2 (Hle.trans (Hle.trans (Hle.hu _ _) hh) hh2)))) rfl ?_)
 rintro _ _ ⟨rfl, rfl⟩
 refine JLn (Pu.not rfl) <| JLA rfl <| Zb <| Zj <| ⟨.bool (!(l.any (fun x => !pr x))), [], Ret.one rfl (RV.tmp rfl), Sub.nil, ?_⟩
 exact ⟨by simp [List.not_any_eq_all_not], rfl⟩
theorem shiftO_ct (n dy fr : Int) (H : Heap) (bF bD : Nat) (hF : H bF = some (.cells ⟨[iv fr]⟩ 3 (0, 0))) (hD : H bD = some (.cells ⟨[iv dy]⟩ 3 (0, 0))) (hn0 : 0 ≤ n) (hn1 : n ≤ 60) (hd0 : -60 ≤ dy) (hd1 : dy ≤ 60) : CT Tryz.prog 73 ⟨[iv n, pp bF 0, pp bD 0]⟩ [] H (fun v N => v = .bool (mvOk dy fr n) ∧ N = []) := by
 refine Zm Tryz.func73 rfl rfl <| Zc <| Za <| JLA rfl <| Zb <| Zc <| Za <| JLM rfl <| JLr (Ze ty3 rfl (At.im hF) rfl <| JLn (Pu.lss rfl rfl) <| JLM rfl ?_)
 cases h1 : (decide (n < fr)) with
 | true =>
  replace h1 := dt h1
  iterate 6 refine ZB rfl ?_
  refine JLq (.bool true) (Pu.pickT rfl rfl) <| JLA rfl <| Zb <| Zj <| ⟨.bool true, [], Ret.one rfl (RV.tmp rfl), Sub.nil, ?_⟩
  exact ⟨by simp only [mvOk]; simp_all <;> omega, rfl⟩
 | false =>
  replace h1 := df h1
  refine JLM rfl <| JLr (Ze ty3 rfl (At.im hD) rfl <| JLn (Pu.add64 rfl rfl (by first | omega | (constructor <;> omega))) <| JLr (Ze ty3 rfl (At.im hF) rfl <| Jc Tryz.call65 rfl (fun hin => YG _ _ _ _) rfl ?_))
  rintro _ _ ⟨rfl, rfl⟩
  refine JLn (Pu.not rfl) <| JLq (.bool (!(decide (n + dy < fr ∨ 59 < n + dy)))) (Pu.pickF rfl rfl) <| JLA rfl <| Zb <| Zj <| ⟨.bool (!(decide (n + dy < fr ∨ 59 < n + dy))), [], Ret.one rfl (RV.tmp rfl), Sub.nil, ?_⟩
  exact ⟨by simp only [mvOk]; simp_all <;> omega, rfl⟩
theorem freeV_ct (n b : Int) (s : List Int) (r : Nat) (H : Heap) (bM : Nat) (hM : H bM = some (.cells ⟨[.map (some r)]⟩ 161 (0, 0))) (hn0 : 0 ≤ n) (hn1 : n ≤ 2000000) (hb0 : 0 ≤ b) (hb1 : b ≤ 2000000) : CT Tryz.prog 103 ⟨[iv n, iv b, pp bM 0]⟩ [metC r s] H (fun v N => ∃ cs k, v = .agg ⟨cs⟩ ∧ N = [k, metC r (metV n b s).2] ∧ OT (metV n b s).1 cs k) := by
 refine Zm Tryz.func103 rfl rfl <| Zc <| Za <| JLr (Zk (l := pkT 0 0 zS nS nS) Tryz.zeroValue30 rfl fun b1 => Zb <| Zc <| Za <| JLr (Ze ty161 rfl (At.im hM) rfl <| JLM rfl <| JLr (Runs_mapUpdate (i := 1) Tryz.underlying161 Tryz.underlying3 rfl rfl rfl rfl <| Zb <| Zc <| Za ?_)))
 refine JLM rfl <| JLM rfl <| Jc Tryz.call69 rfl (fun hin => stay_ct _ _ _ (by unfold inI; omega)) rfl ?_
 rintro _ _ ⟨cs2, k2, rfl, rfl, hO2⟩
 refine JLr (Zd 1 (vs := cs2) (l := cs2) Zt rfl rfl rfl rfl hO2.len hO2.ok (ZI (n := 36) rfl hO2.len) <| Zb <| Zj <| ⟨.agg ⟨cs2⟩, [k2, metC r (addK s n)], Ret.one rfl (RV.cell Zt rfl (At.bx 1 rfl) (Zu hO2.len)), (Sk (Sd (Sk Sub.nil))), ?_⟩)
 exact ⟨_, _, rfl, rfl, hO2⟩
theorem freeP_ct (t : Tm) (cs : List Value) (H : Heap) (ht : RT H cs t) (hz : sizeT t ≤ 900000) (hv : vOK t) : CT Tryz.prog 64 ⟨[.agg ⟨cs⟩]⟩ [] H (fun v N => ∃ u k, v = u ∧ N = [k] ∧ Own 3 1 u (ints (freeP t)) k) := by
 refine Zm Tryz.func64 rfl rfl <| Zc <| Za <| JLr (Zp (l := cs) rfl rfl fun b1 => JLA rfl <| Zb <| Zc <| Za <| JLr (Runs_makeMap fun r2 => JLr (Zk (l := [.map none]) Tryz.zeroValue161 rfl fun b3 => JLr (Zd 0 (vs := [.map (some r2)]) (l := [.map (some r2)]) ty161 rfl rfl rfl rfl rfl (Zf rfl Zn) rfl <| Zb <| Zc ?_))))
 refine Za <| JLq (.func (.func 103) ⟨[]⟩ ⟨[pp b3 0]⟩) (Pu.makeFunc rfl rfl) <| JLq (.agg ⟨[.func (.func 103) ⟨[]⟩ ⟨[pp b3 0]⟩, .func (.func 70) ⟨[]⟩ ⟨[]⟩]⟩) (Pu.build (pv := [(0, .func (.func 103) ⟨[]⟩ ⟨[pp b3 0]⟩), (1, .func (.func 70) ⟨[]⟩ ⟨[]⟩)]) (l := [.func (.func 103) ⟨[]⟩ ⟨[pp b3 0]⟩, .func (.func 70) ⟨[]⟩ ⟨[]⟩]) rfl (bld118_0_1 _ _ _ _ _ _)) <| JLr (Zl Zt rfl (At.bx 2 rfl) (Zu (Zw ht)) <| Zv 1 rfl Tryz.call71 rfl rfl (fun hin => mapTerm_ct 70 [] [] Tryz.call70 (fun s => s) 103 [] [pp b3 0] Tryz.call103 (List Int) (metC r2) (fun _ => True) metV (fun _ _ _ _ => trivial) _ _ _ _ _ (RT.mono (Hle.hu _ _) ht) (by omega) hv (by decide) (by omega) trivial (fun s h hh => same_ct s h) (fun n b s h hh _ h1 h2 h3 h4 => freeV_ct n b s r2 h b3 (hh _ _ (hin 0 _ rfl _ _ List.mem_cons_self)) h1 h2 h3 h4)) rfl ?_)
 rintro _ _ ⟨cs4, k4, rfl, rfl, hO4⟩
 refine Zb <| Zc <| Za <| JLA rfl <| Zb <| Zc <| Zc <| Za <| JLM rfl <| Zb <| Zo <| ZN (fun k ρ M => ∃ (j : Nat) (v : Value) (k1 : Zi), ρ 2 = nS ∧ ρ 3 = pp b3 0 ∧ ρ 4 = v ∧ ρ 11 = iv ((j : Int)) ∧ Sub [k1, metC r2 (metT t), (BX b3 [.map (some r2)] 161)] M ∧ j ≤ 60 ∧ Own 3 1 v (ints (upTo (metF (metT t)) j)) k1 ∧ k = 60 - j) _ ⟨0, nS, [], rfl, rfl, rfl, rfl, (Sub.emp (Sd (Sk (Sk Sub.nil)))), Nat.zero_le _, Own.nil, rfl⟩ ?_
 rintro _ ρ5 _ ⟨j, v, k1, e6, e7, e8, e9, hm10, hj, ho, rfl⟩
 obtain ⟨ρ11, rfl⟩ := Zs (uc e6 (uc e7 (uc e8 (uc e9 un))))
 clear e6 e7 e8 e9
 refine ZX hm10 <| Zc <| Za <| JLn (Pu.lss rfl rfl) <| Zb <| Zc <| Zg rfl (fun h12 => ?_) (fun h12 => ?_)
 ·replace h12 := dt h12
  have h12n : j < 60 := by omega
  have hul := upTo_len (metF (metT t)) j
  have hil := ints_len (upTo (metF (metT t)) j)
  have hge := metF_get (metT t) j h12n
  refine Zh <| Zc <| Zo <| Zc <| Za <| JLM rfl <| JLA rfl <| Zb <| Zc <| Za <| JLr (Ze ty161 rfl (At.bx 2 rfl) rfl <| JLM rfl <| JLr (Runs_lookup (i := 1) Tryz.underlying161 Tryz.underlying3 Tryz.zeroValue4 rfl rfl rfl ?_))
  refine Zb <| Zg rfl (fun h13 => ?_) (fun h13 => ?_)
  ·replace h13 := dt h13
   refine Za <| JLm v <| JLM rfl <| JLr (Zq (vs := [iv ((j : Int))]) [[iv ((j : Int))]] Tryz.runUnderlying59 el3 rfl rfl (by intro e he; simp only [List.mem_cons, List.not_mem_nil, or_false] at he; subst he; exact rfl) rfl (by decide) fun b14 k14 ho14 hk14 => ?_)
   have hlens15 : ∀ e ∈ ([[iv ((j : Int))]] : List (List Value)), List.length e = 1 := by
    intro e he; simp only [List.mem_cons, List.not_mem_nil, or_false] at he
    rcases he with rfl
    ·exact rfl
   have hoks15 : ∀ e ∈ ([[iv ((j : Int))]] : List (List Value)), okc e := by
    intro e he; simp only [List.mem_cons, List.not_mem_nil, or_false] at he
    rcases he with rfl
    ·exact (Zf rfl Zn)
   refine JLr (ZM (i := 1) (n := 1) (es' := [[iv ((j : Int))]]) Tryz.runUnderlying59 Tryz.runUnderlying59 (Or.inl rfl) el3 rfl rfl rfl ho (fun F w m => Src.row (((At.k 0 rfl (by rw [hk14]; exact List.mem_cons_self))).heap m) (Zu (ZD hlens15))) rfl hlens15 hoks15 (by decide) (by omega) fun v15 k15 ho15 => JLa v15 <| Zb <| Za <| JLn (Pu.inc rfl rfl (by omega)) <| JLM rfl <| Zb <| ⟨_, ?_, (j + 1), v15, k15, rfl, rfl, rfl, rfl, (Sd (Sk (Sk (Sk Sub.nil)))), ?_, ?_, rfl⟩)
   ·omega
   ·omega
   rw [upTo_succ, hge, if_pos (by simp [h13]), ints_snoc]; exact ho15
  replace h13 := df h13
  refine Zh <| Za <| JLn (Pu.inc rfl rfl (by omega)) <| JLM rfl <| Zb <| ⟨_, ?_, (j + 1), v, k1, rfl, rfl, rfl, rfl, (Sk (Sk (Sk Sub.nil))), ?_, ?_, rfl⟩
  ·omega
  ·omega
  rw [upTo_succ, hge, if_neg (by simp [h13])]; exact ho
 replace h12 := df h12
 have h12n : 60 ≤ j := by omega
 refine Zz _ rfl <| Zc <| Za <| JLm v <| JLa v <| Zb <| Zj <| ⟨v, [k1], Ret.one rfl (RV.tmp rfl), (Sk Sub.nil), ?_⟩
 obtain rfl : j = 60 := by omega
 exact ⟨v, k1, rfl, rfl, ho⟩
end Go.Proofs.YtkjafeejpmcnkaaGreat.Hs
/-! The mapper without a state. -/
namespace Go.Proofs.YtkjafeejpmcnkaaGreat.Hs
open Go Go.Proofs
set_option maxRecDepth 100000

theorem CT.nils {P : Program} {f : FuncId} {a : Array Value} {H : Heap} {t : Tm} (h : CT P f a [] H (fun v N => ∃ cs k, v = .agg ⟨cs⟩ ∧ N = [k] ∧ OT t cs k)) :
    CT P f a [[]] H (fun v N => ∃ cs k, v = .agg ⟨cs⟩ ∧ N = [k, []] ∧ OT t cs k) := fun F w m => by
  refine (h F w (by simpa using m)).mono ?_
  rintro e w' ⟨v, N, h1, h2, cs, k, h3, h4, h5⟩
  subst h4
  exact ⟨v, [k, []], h1, by simpa using h2, cs, k, h3, rfl, h5⟩
theorem CT.unnils {P : Program} {f : FuncId} {a : Array Value} {H : Heap} {t : Tm} (h : CT P f a [[]] H (fun v N => ∃ cs k, v = .agg ⟨cs⟩ ∧ N = [k, []] ∧ OT t cs k)) :
    CT P f a [] H (fun v N => ∃ cs k, v = .agg ⟨cs⟩ ∧ N = [k] ∧ OT t cs k) := fun F w m => by
  refine (h F w (by simpa using m)).mono ?_
  rintro e w' ⟨v, N, h1, h2, cs, k, h3, h4, h5⟩
  subst h4
  exact ⟨v, [k], h1, by simpa using h2, cs, k, h3, rfl, h5⟩

theorem mapTermP_ct (gr : Nat) (frs crs : List Value) (hcallr : ∀ args w, (callFunc gr args).run Tryz.prog w = .ok (.enter gr args) w) (rf : Sm → Sm) (gv : Nat) (fvs cvs : List Value) (hcallv : ∀ args w, (callFunc gv args).run Tryz.prog w = .ok (.enter gv args) w)
    (vf : Int → Int → Tm) (t : Tm) (b : Int) (cs : List Value) (H : Heap) (ht : RT H cs t) (hz : sizeT t ≤ 1000000) (hv : vOK t) (hb0 : 0 ≤ b) (hb : b + 2 * sizeT t ≤ 2000000)
    (hgr : ∀ s h, Hle H h → CT Tryz.prog gr ⟨frs ++ [.agg ⟨sC s⟩] ++ crs⟩ [] h (fun v N => v = .agg ⟨sC (rf s)⟩ ∧ N = []))
    (hgv : ∀ (n b : Int) (h : Heap), Hle H h → 0 ≤ n → n ≤ 2000000 → 0 ≤ b → b ≤ 2000000 → CT Tryz.prog gv ⟨fvs ++ [.int .i64 n, .int .i64 b] ++ cvs⟩ [] h (fun v N => ∃ cs k, v = .agg ⟨cs⟩ ∧ N = [k] ∧ OT (vf n b) cs k)) :
    CT Tryz.prog 71 ⟨[.agg ⟨[.func (.func gv) ⟨fvs⟩ ⟨cvs⟩, .func (.func gr) ⟨frs⟩ ⟨crs⟩]⟩, .agg ⟨cs⟩, .int .i64 b]⟩ [] H (fun v N => ∃ cs k, v = .agg ⟨cs⟩ ∧ N = [k] ∧ OT (mapQ rf vf b t) cs k) :=
  CT.unnils (mapTerm_ct gr frs crs hcallr rf gv fvs cvs hcallv Unit (fun _ => []) (fun _ => True) (fun n b s => (vf n b, s)) (fun _ _ _ _ => trivial) t b () cs H ht hz hv hb0 hb trivial hgr
    (fun n b _ h hh _ h1 h2 h3 h4 => CT.nils (hgv n b h hh h1 h2 h3 h4)))
end Go.Proofs.YtkjafeejpmcnkaaGreat.Hs
/-! Walks, printed by a program of this session's own (gen.py). -/
namespace Go.Proofs.YtkjafeejpmcnkaaGreat.Hs
open Go Go.Proofs
set_option maxRecDepth 100000
set_option linter.unusedVariables false
set_option linter.unusedSimpArgs false
attribute [local irreducible] JL J CT wlo DT
theorem shiftedV_ct (n b dy fr : Int) (H : Heap) (bF bD : Nat) (hF : H bF = some (.cells ⟨[iv fr]⟩ 3 (0, 0))) (hD : H bD = some (.cells ⟨[iv dy]⟩ 3 (0, 0))) (hn0 : 0 ≤ n) (hn1 : n ≤ 2000000) (hb0 : 0 ≤ b) (hb1 : b ≤ 2000000) (hd0 : -2000000 ≤ dy) (hd1 : dy ≤ 2000000) : CT Tryz.prog 104 ⟨[iv n, iv b, pp bF 0, pp bD 0]⟩ [] H (fun v N => ∃ cs k, v = .agg ⟨cs⟩ ∧ N = [k] ∧ OT (shv dy fr n b) cs k) := by
 refine Zm Tryz.func104 rfl rfl <| Zc <| Za <| JLr (Zk (l := pkT 0 0 zS nS nS) Tryz.zeroValue30 rfl fun b1 => Zb <| Zc <| Zc <| Za <| JLM rfl <| JLr (Ze ty3 rfl (At.im hF) rfl <| JLn (Pu.geq rfl rfl) <| Zb <| Zg rfl (fun h2 => ?_) (fun h2 => ?_)))
 ·replace h2 := dt h2
  refine Za <| JLM rfl <| JLr (Ze ty3 rfl (At.im hD) rfl <| JLn (Pu.add64 rfl rfl (by first | omega | (constructor <;> omega))) <| JLA rfl <| Zb <| Zc <| Za <| JLM rfl <| JLM rfl <| Jc Tryz.call69 rfl (fun hin => stay_ct _ _ _ (by unfold inI; omega)) rfl ?_)
  rintro _ _ ⟨cs3, k3, rfl, rfl, hO3⟩
  refine JLr (Zd 1 (vs := cs3) (l := cs3) Zt rfl rfl rfl rfl hO3.len hO3.ok (ZI (n := 36) rfl hO3.len) <| Zb <| Zj <| ⟨.agg ⟨cs3⟩, [k3], Ret.one rfl (RV.cell Zt rfl (At.bx 1 rfl) (Zu hO3.len)), (Sk Sub.nil), ?_⟩)
  have hx : shv dy fr n b = .mk 1 (n + dy + b) zS [] [] := by first | rfl | (simp only [shv]; (repeat' split) <;> first | rfl | (exfalso; omega))
  exact ⟨_, _, rfl, rfl, by rw [hx]; exact hO3⟩
 replace h2 := df h2
 refine Zh <| Zc <| Za <| JLM rfl <| JLM rfl <| Jc Tryz.call69 rfl (fun hin => stay_ct _ _ _ (by unfold inI; omega)) rfl ?_
 rintro _ _ ⟨cs4, k4, rfl, rfl, hO4⟩
 refine JLr (Zd 1 (vs := cs4) (l := cs4) Zt rfl rfl rfl rfl hO4.len hO4.ok (ZI (n := 36) rfl hO4.len) <| Zb <| Zj <| ⟨.agg ⟨cs4⟩, [k4], Ret.one rfl (RV.cell Zt rfl (At.bx 1 rfl) (Zu hO4.len)), (Sk Sub.nil), ?_⟩)
 have hx : shv dy fr n b = .mk 1 (n + b) zS [] [] := by first | rfl | (simp only [shv]; (repeat' split) <;> first | rfl | (exfalso; omega))
 exact ⟨_, _, rfl, rfl, by rw [hx]; exact hO4⟩
theorem shifted_ct (t : Tm) (dy fr : Int) (cs : List Value) (H : Heap) (ht : RT H cs t) (hz : sizeT t ≤ 900000) (hv : vOK t) (hd0 : -2000000 ≤ dy) (hd1 : dy ≤ 2000000) : CT Tryz.prog 68 ⟨[.agg ⟨cs⟩, iv dy, iv fr]⟩ [] H (fun v N => ∃ cs k, v = .agg ⟨cs⟩ ∧ N = [k] ∧ OT (shT dy fr t) cs k) := by
 refine Zm Tryz.func68 rfl rfl <| Zc <| Za <| JLr (Zp (l := cs) rfl rfl fun b1 => JLr (Zp (l := [iv dy]) rfl rfl fun b2 => JLr (Zp (l := [iv fr]) rfl rfl fun b3 => JLr (Zk (l := pkT 0 0 zS nS nS) Tryz.zeroValue30 rfl fun b4 => Zb <| Zc <| Za <| JLq (.func (.func 104) ⟨[]⟩ ⟨[pp b3 0, pp b2 0]⟩) (Pu.makeFunc rfl rfl) <| JLq (.agg ⟨[.func (.func 104) ⟨[]⟩ ⟨[pp b3 0, pp b2 0]⟩, .func (.func 70) ⟨[]⟩ ⟨[]⟩]⟩) (Pu.build (pv := [(0, .func (.func 104) ⟨[]⟩ ⟨[pp b3 0, pp b2 0]⟩), (1, .func (.func 70) ⟨[]⟩ ⟨[]⟩)]) (l := [.func (.func 104) ⟨[]⟩ ⟨[pp b3 0, pp b2 0]⟩, .func (.func 70) ⟨[]⟩ ⟨[]⟩]) rfl (bld118_0_1 _ _ _ _ _ _)) <| JLr (Zl Zt rfl (At.bx 3 rfl) (Zu (Zw ht)) ?_)))))
 refine Jc Tryz.call71 rfl (fun hin => mapTermP_ct 70 [] [] Tryz.call70 (fun s => s) 104 [] [pp b3 0, pp b2 0] Tryz.call104 (shv dy fr) _ _ _ _ (RT.mono (Hle.hu _ _) ht) (by omega) hv (by decide) (by omega) (fun s h hh => same_ct s h) (fun n b h hh h1 h2 h3 h4 => shiftedV_ct n b dy fr h b3 b2 (hh _ _ (hin 1 _ rfl _ _ List.mem_cons_self)) (hh _ _ (hin 2 _ rfl _ _ List.mem_cons_self)) h1 h2 h3 h4 hd0 hd1)) rfl ?_
 rintro _ _ ⟨cs5, k5, rfl, rfl, hO5⟩
 refine JLr (Zd 1 (vs := cs5) (l := cs5) Zt rfl rfl rfl rfl hO5.len hO5.ok (ZI (n := 36) rfl hO5.len) <| Zb <| Zj <| ⟨.agg ⟨cs5⟩, [k5], Ret.one rfl (RV.cell Zt rfl (At.bx 1 rfl) (Zu hO5.len)), (Sk Sub.nil), ?_⟩)
 have hx : shT dy fr t = mapQ (fun s => s) (shv dy fr) 0 t := by first | rfl | (simp only [shT]; (repeat' split) <;> first | rfl | (exfalso; omega))
 exact ⟨_, _, rfl, rfl, by rw [hx]; exact hO5⟩
theorem substV_ct (n b m : Int) (u : Tm) (us : List Value) (H : Heap) (bN bU : Nat) (hN : H bN = some (.cells ⟨[iv m]⟩ 3 (0, 0))) (hU : H bU = some (.cells ⟨us⟩ 30 (0, 0))) (hu1 : RT H us u) (hzu : sizeT u ≤ 900000) (hvu : vOK u) (hn0 : 0 ≤ n) (hn1 : n ≤ 2000000) (hb0 : 0 ≤ b) (hb1 : b ≤ 2000000) : CT Tryz.prog 67 ⟨[iv n, iv b, pp bN 0, pp bU 0]⟩ [] H (fun v N => ∃ cs k, v = .agg ⟨cs⟩ ∧ N = [k] ∧ OT (sbv m u n b) cs k) := by
 refine Zm Tryz.func67 rfl rfl <| Zc <| Za <| JLr (Zk (l := pkT 0 0 zS nS nS) Tryz.zeroValue30 rfl fun b1 => Zb <| Zc <| Zo <| Zc <| Za <| JLM rfl <| JLr (Ze ty3 rfl (At.im hN) rfl <| JLn (Pu.eql rfl rfl) <| JLA rfl ?_))
 refine Zb <| Zg rfl (fun h2 => ?_) (fun h2 => ?_)
 ·replace h2 := dt h2
  refine Zc <| Za <| JLr (Zl Zt rfl (At.im hU) (Zu (Zw hu1)) <| JLM rfl <| Jc Tryz.call68 rfl (fun hin => shifted_ct _ _ _ _ _ (RT.mono (Hle.hu _ _) hu1) hzu hvu (by omega) (by omega)) rfl ?_)
  rintro _ _ ⟨cs3, k3, rfl, rfl, hO3⟩
  refine JLr (Zd 1 (vs := cs3) (l := cs3) Zt rfl rfl rfl rfl hO3.len hO3.ok (ZI (n := 36) rfl hO3.len) <| Zb <| Zj <| ⟨.agg ⟨cs3⟩, [k3], Ret.one rfl (RV.cell Zt rfl (At.bx 1 rfl) (Zu hO3.len)), (Sk Sub.nil), ?_⟩)
  have hx : sbv m u n b = shT b 0 u := by first | rfl | (simp only [sbv]; (repeat' split) <;> first | rfl | (exfalso; omega))
  exact ⟨_, _, rfl, rfl, by rw [hx]; exact hO3⟩
 replace h2 := df h2
 refine Zc <| Za <| JLM rfl <| JLr (Ze ty3 rfl (At.im hN) rfl <| JLn (Pu.gtr rfl rfl) <| JLA rfl <| Zb <| Zg rfl (fun h4 => ?_) (fun h4 => ?_))
 ·replace h4 := dt h4
  refine Za <| JLM rfl <| JLn (Pu.sub64 rfl rfl (by first | omega | (constructor <;> omega))) <| JLA rfl <| Zb <| Zc <| Za <| JLM rfl <| JLM rfl <| Jc Tryz.call69 rfl (fun hin => stay_ct _ _ _ (by unfold inI; omega)) rfl ?_
  rintro _ _ ⟨cs5, k5, rfl, rfl, hO5⟩
  refine JLr (Zd 1 (vs := cs5) (l := cs5) Zt rfl rfl rfl rfl hO5.len hO5.ok (ZI (n := 36) rfl hO5.len) <| Zb <| Zj <| ⟨.agg ⟨cs5⟩, [k5], Ret.one rfl (RV.cell Zt rfl (At.bx 1 rfl) (Zu hO5.len)), (Sk Sub.nil), ?_⟩)
  have hx : sbv m u n b = .mk 1 (n - 1 + b) zS [] [] := by first | rfl | (simp only [sbv]; (repeat' split) <;> first | rfl | (exfalso; omega))
  exact ⟨_, _, rfl, rfl, by rw [hx]; exact hO5⟩
 replace h4 := df h4
 refine Zh <| Zc <| Za <| JLM rfl <| JLM rfl <| Jc Tryz.call69 rfl (fun hin => stay_ct _ _ _ (by unfold inI; omega)) rfl ?_
 rintro _ _ ⟨cs6, k6, rfl, rfl, hO6⟩
 refine JLr (Zd 1 (vs := cs6) (l := cs6) Zt rfl rfl rfl rfl hO6.len hO6.ok (ZI (n := 36) rfl hO6.len) <| Zb <| Zj <| ⟨.agg ⟨cs6⟩, [k6], Ret.one rfl (RV.cell Zt rfl (At.bx 1 rfl) (Zu hO6.len)), (Sk Sub.nil), ?_⟩)
 have hx : sbv m u n b = .mk 1 (n + b) zS [] [] := by first | rfl | (simp only [sbv]; (repeat' split) <;> first | rfl | (exfalso; omega))
 exact ⟨_, _, rfl, rfl, by rw [hx]; exact hO6⟩
theorem short_ct (t : Tm) (cs : List Value) (H : Heap) (ht : RT H cs t) : CT Tryz.prog 66 ⟨[.agg ⟨cs⟩]⟩ [] H (fun v N => v = .tuple ⟨[.agg ⟨if Xh t = true then pkT 0 0 zS nS nS else cs⟩, iv (if Xh t = true then 11 else 0)]⟩ ∧ N = []) := by
 refine Zm Tryz.func66 rfl rfl <| Zc <| Za <| JLr (Zp (l := cs) rfl rfl fun b1 => JLr (Zk (l := pkT 0 0 zS nS nS) Tryz.zeroValue30 rfl fun b2 => JLA rfl <| Zb <| Zc <| Zc <| Za <| JLq (.agg ⟨[iv 0]⟩) (Pu.build (pv := []) (l := [iv 0]) rfl bld102_) <| JLr (Zp (l := [iv 0]) rfl rfl fun b3 => JLr (Zl Zt rfl (At.bx 2 rfl) (Zu (Zw ht)) ?_))))
 refine Zv 0 rfl Tryz.call77 rfl rfl (fun hin => longT_ct _ _ _ _ _ _ (RT.mono (Hle.hu _ _) ht) (by omega) (by omega) (by omega) (by omega)) rfl ?_
 rintro _ _ ⟨rfl, rfl⟩
 refine Zb <| Zg rfl (fun h5 => ?_) (fun h5 => ?_)
 ·refine Zc <| Za <| JLq (.agg ⟨pkT 0 0 zS nS nS⟩) (Pu.build (pv := []) (l := pkT 0 0 zS nS nS) rfl (bld30_ )) <| JLr (Zd 1 (vs := pkT 0 0 zS nS nS) (l := pkT 0 0 zS nS nS) Zt rfl rfl rfl rfl rfl (ZS rfl rfl) (YF ..) <| JLA rfl <| Zb <| Zj <| ⟨.tuple ⟨[.agg ⟨pkT 0 0 zS nS nS⟩, iv 11]⟩, [], Ret.two rfl (RV.cell Zt rfl (At.bx 1 rfl) (Yr ..)) (RV.tmp rfl), Sub.nil, ?_⟩)
  rw [long_eq] at h5
  exact ⟨by simp [h5], rfl⟩
 refine Zh <| Zc <| Za <| JLr (Zl Zt rfl (At.bx 2 rfl) (Zu (Zw ht)) <| JLr (Zd 1 (vs := cs) (l := cs) Zt rfl rfl rfl rfl (Zw ht) (RT_ok ht) (ZI (n := 36) rfl (Zw ht)) <| JLA rfl <| Zb <| Zj <| ⟨.tuple ⟨[.agg ⟨cs⟩, iv 0]⟩, [], Ret.two rfl (RV.cell Zt rfl (At.bx 1 rfl) (Zu (Zw ht))) (RV.tmp rfl), Sub.nil, ?_⟩))
 rw [long_eq] at h5
 exact ⟨by simp [h5], rfl⟩
end Go.Proofs.YtkjafeejpmcnkaaGreat.Hs
/-! Walks, printed by a program of this session's own (gen.py). -/
namespace Go.Proofs.YtkjafeejpmcnkaaGreat.Hs
open Go Go.Proofs
set_option maxRecDepth 100000
set_option linter.unusedVariables false
set_option linter.unusedSimpArgs false
attribute [local irreducible] JL J CT wlo DT
theorem shiftP_ct (t : Tm) (dy fr : Int) (cs : List Value) (H : Heap) (ht : RT H cs t) : CT Tryz.prog 30 ⟨[.agg ⟨cs⟩, iv dy, iv fr]⟩ [] H (fun v N => ∃ cs k, v = .tuple ⟨[.agg ⟨cs⟩, iv (shiftP t dy fr).2]⟩ ∧ N = [k] ∧ OT (shiftP t dy fr).1 cs k) := by
 refine Zm Tryz.func30 rfl rfl <| Zc <| Za <| JLr (Zp (l := cs) rfl rfl fun b1 => JLr (Zp (l := [iv dy]) rfl rfl fun b2 => JLr (Zp (l := [iv fr]) rfl rfl fun b3 => JLr (Zk (l := pkT 0 0 zS nS nS) Tryz.zeroValue30 rfl fun b4 => JLA rfl <| Zb <| Zc <| Zc <| Za <| JLr (Zl Zt rfl (At.bx 3 rfl) (Zu (Zw ht)) ?_)))))
 refine JLr (Zq (vs := [.agg ⟨cs⟩]) [cs] Tryz.runUnderlying27 el30 rfl rfl (by intro e he; simp only [List.mem_cons, List.not_mem_nil, or_false] at he; subst he; exact (Zw ht)) rfl (by decide) fun b5 k5 ho5 hk5 => Jc Tryz.call55 rfl (fun hin => right_ct _ _ _ (Own.rd1 ho5 (hin 0 _ rfl) (RT.mono (Hle.hu _ _) ht))) rfl ?_)
 rintro _ _ ⟨rfl, rfl⟩
 refine JLA rfl <| Zb <| Zc <| Za <| JLM rfl <| JLn (Pu.neq rfl rfl) <| Zb <| Zg rfl (fun h6 => ?_) (fun h6 => ?_)
 ·replace h6 := nt h6
  replace h6 := df h6
  refine Zc <| Za <| JLq (.agg ⟨pkT 0 0 zS nS nS⟩) (Pu.build (pv := []) (l := pkT 0 0 zS nS nS) rfl (bld30_ )) <| JLM rfl <| JLr (Zd 1 (vs := pkT 0 0 zS nS nS) (l := pkT 0 0 zS nS nS) Zt rfl rfl rfl rfl rfl (ZS rfl rfl) (YF ..) <| JLA rfl <| Zb <| Zj <| ⟨.tuple ⟨[.agg ⟨pkT 0 0 zS nS nS⟩, iv (ZV [t])]⟩, [[]], Ret.two rfl (RV.cell Zt rfl (At.bx 1 rfl) (Yr ..)) (RV.tmp rfl), (Sub.emp Sub.nil), ?_⟩)
  have hx : shiftP t dy fr = (zT, ZV [t]) := by simp only [shiftP]; (repeat' split) <;> first | rfl | (exfalso; simp_all; done) | (exfalso; simp_all; omega)
  exact ⟨_, _, by rw [hx], rfl, by rw [hx]; exact Y5⟩
 replace h6 := nf h6
 replace h6 := dt h6
 refine Zh <| Zc <| Zc <| Za <| JLr (Ze ty3 rfl (At.bx 3 rfl) rfl <| Jc Tryz.call65 rfl (fun hin => YG _ _ _ _) rfl ?_)
 rintro _ _ ⟨rfl, rfl⟩
 refine JLM rfl <| Zr 2 [19, 20] [(20, cond (decide (dy < -60 ∨ 60 < dy)) undef (.bool (decide (fr < 0 ∨ 60 < fr))))] ?_ fun f8 => ?_
 ·cases h7 : (decide (dy < -60 ∨ 60 < dy)) with
  | false =>
   replace h7 := df h7
   refine JLr (Ze ty3 rfl (At.bx 2 rfl) rfl <| Jc Tryz.call65 rfl (fun hin => YG _ _ _ _) rfl ?_)
   rintro _ _ ⟨rfl, rfl⟩
   exact Zb ⟨⟨rfl, trivial⟩, rfl⟩
  | true =>
   exact Zx rfl ⟨rfl, trivial⟩
 refine JLn (Pu.pickOr rfl rfl rfl) <| Zb <| Zg rfl (fun h9 => ?_) (fun h9 => ?_)
 ·refine Zc <| Za <| JLq (.agg ⟨pkT 0 0 zS nS nS⟩) (Pu.build (pv := []) (l := pkT 0 0 zS nS nS) rfl (bld30_ )) <| JLr (Zd 1 (vs := pkT 0 0 zS nS nS) (l := pkT 0 0 zS nS nS) Zt rfl rfl rfl rfl rfl (ZS rfl rfl) (YF ..) <| JLA rfl <| Zb <| Zj <| ⟨.tuple ⟨[.agg ⟨pkT 0 0 zS nS nS⟩, iv 3]⟩, [[]], Ret.two rfl (RV.cell Zt rfl (At.bx 1 rfl) (Yr ..)) (RV.tmp rfl), (Sub.emp Sub.nil), ?_⟩)
  have hx : shiftP t dy fr = (zT, 3) := by simp only [shiftP]; (repeat' split) <;> first | rfl | (exfalso; simp_all; done) | (exfalso; simp_all; omega)
  exact ⟨_, _, by rw [hx], rfl, by rw [hx]; exact Y5⟩
 obtain ⟨h9a, h9b⟩ := orF h9
 replace h9a := df h9a
 replace h9b := df h9b
 refine Zh <| Zc <| Zc <| Za <| JLr (Zl Zt rfl (At.bx 4 rfl) (Zu (Zw ht)) <| Jc Tryz.call64 rfl (fun hin => freeP_ct _ _ _ (RT.mono (Hle.hu _ _) ht) (by have := (YA (rightT1 ‹ZV [t] = 0›)).1; omega) (YA (rightT1 ‹ZV [t] = 0›)).2.1) rfl ?_)
 rintro u10 _ ⟨_, k10, hu10, rfl, ho10⟩; subst hu10
 refine JLq (.func (.func 73) ⟨[]⟩ ⟨[pp b3 0, pp b2 0]⟩) (Pu.makeFunc rfl rfl) <| Jc Tryz.call72 rfl (fun hin => every_ct 73 [] [pp b3 0, pp b2 0] Tryz.call73 (mvOk dy fr) _ _ _ (own_ints ho10 (by have := freeP_len t; omega) (hin 0 _ rfl)) (fun x hx h hh => shiftO_ct x dy fr h b3 b2 (hh _ _ (hin 3 _ rfl _ _ List.mem_cons_self)) (hh _ _ (hin 4 _ rfl _ _ List.mem_cons_self)) (freeP_bound t x hx).1 (by have := (freeP_bound t x hx).2; omega) (by omega) (by omega))) rfl ?_
 rintro _ _ ⟨rfl, rfl⟩
 refine JLn (Pu.not rfl) <| Zb <| Zg rfl (fun h11 => ?_) (fun h11 => ?_)
 ·replace h11 := nt h11
  refine Zc <| Za <| JLq (.agg ⟨pkT 0 0 zS nS nS⟩) (Pu.build (pv := []) (l := pkT 0 0 zS nS nS) rfl (bld30_ )) <| JLr (Zd 2 (vs := pkT 0 0 zS nS nS) (l := pkT 0 0 zS nS nS) Zt rfl rfl rfl rfl rfl (ZS rfl rfl) (YF ..) <| JLA rfl <| Zb <| Zj <| ⟨.tuple ⟨[.agg ⟨pkT 0 0 zS nS nS⟩, iv 1]⟩, [[]], Ret.two rfl (RV.cell Zt rfl (At.bx 2 rfl) (Yr ..)) (RV.tmp rfl), (Sub.emp Sub.nil), ?_⟩)
  have hx : shiftP t dy fr = (zT, 1) := by simp only [shiftP]; (repeat' split) <;> first | rfl | (exfalso; simp_all; done) | (exfalso; simp_all; omega)
  exact ⟨_, _, by rw [hx], rfl, by rw [hx]; exact Y5⟩
 replace h11 := nf h11
 refine Zh <| Zc <| Za <| JLr (Zl Zt rfl (At.bx 5 rfl) (Zu (Zw ht)) <| JLr (Ze ty3 rfl (At.bx 4 rfl) rfl <| JLr (Ze ty3 rfl (At.bx 3 rfl) rfl <| Jc Tryz.call68 rfl (fun hin => shifted_ct _ _ _ _ _ (RT.mono (Hle.hu _ _) ht) (by have := (YA (rightT1 ‹ZV [t] = 0›)).1; omega) (YA (rightT1 ‹ZV [t] = 0›)).2.1 (by omega) (by omega)) rfl ?_)))
 rintro _ _ ⟨cs12, k12, rfl, rfl, hO12⟩
 refine JLr (Zd 3 (vs := cs12) (l := cs12) Zt rfl rfl rfl rfl hO12.len hO12.ok (ZI (n := 36) rfl hO12.len) <| JLA rfl <| Zb <| Zj <| ⟨.tuple ⟨[.agg ⟨cs12⟩, iv 0]⟩, [k12], Ret.two rfl (RV.cell Zt rfl (At.bx 3 rfl) (Zu hO12.len)) (RV.tmp rfl), (Sk Sub.nil), ?_⟩)
 have hx : shiftP t dy fr = (shT dy fr t, 0) := by simp only [shiftP]; (repeat' split) <;> first | rfl | (exfalso; simp_all; done) | (exfalso; simp_all; omega)
 exact ⟨_, _, by rw [hx], rfl, by rw [hx]; exact hO12⟩
theorem freeE_ct (t : Tm) (cs : List Value) (H : Heap) (ht : RT H cs t) : CT Tryz.prog 27 ⟨[.agg ⟨cs⟩]⟩ [] H (fun v N => ∃ u e k, v = .tuple ⟨[u, iv e]⟩ ∧ N = [k] ∧ Own 3 1 u (ints (freeE t).1) k ∧ e = (freeE t).2) := by
 refine Zm Tryz.func27 rfl rfl <| Zc <| Za <| JLr (Zp (l := cs) rfl rfl fun b1 => JLA rfl <| JLA rfl <| Zb <| Zc <| Zc <| Za <| JLr (Zl Zt rfl (At.bx 0 rfl) (Zu (Zw ht)) <| JLr (Zq (vs := [.agg ⟨cs⟩]) [cs] Tryz.runUnderlying27 el30 rfl rfl (by intro e he; simp only [List.mem_cons, List.not_mem_nil, or_false] at he; subst he; exact (Zw ht)) rfl (by decide) fun b2 k2 ho2 hk2 => Jc Tryz.call55 rfl (fun hin => right_ct _ _ _ (Own.rd1 ho2 (hin 0 _ rfl) (RT.mono (Hle.hu _ _) ht))) rfl ?_)))
 rintro _ _ ⟨rfl, rfl⟩
 refine JLA rfl <| Zb <| Zc <| Za <| JLM rfl <| JLn (Pu.neq rfl rfl) <| Zb <| Zg rfl (fun h3 => ?_) (fun h3 => ?_)
 ·replace h3 := nt h3
  replace h3 := df h3
  refine Zc <| Za <| JLM rfl <| JLA rfl <| JLA rfl <| Zb <| Zj <| ⟨.tuple ⟨[nS, iv (ZV [t])]⟩, [[]], Ret.two rfl (RV.tmp rfl) (RV.tmp rfl), (Sub.emp Sub.nil), ?_⟩
  have hx : freeE t = ([], ZV [t]) := by rw [freeE, if_neg (by assumption)]
  exact ⟨_, _, _, rfl, rfl, by rw [hx]; exact Own.nil, by rw [hx]⟩
 replace h3 := nf h3
 replace h3 := dt h3
 refine Zh <| Zc <| Za <| JLr (Zl Zt rfl (At.bx 1 rfl) (Zu (Zw ht)) <| Jc Tryz.call64 rfl (fun hin => freeP_ct _ _ _ (RT.mono (Hle.hu _ _) ht) (by have := (YA (rightT1 ‹ZV [t] = 0›)).1; omega) (YA (rightT1 ‹ZV [t] = 0›)).2.1) rfl ?_)
 rintro u4 _ ⟨_, k4, hu4, rfl, ho4⟩; subst hu4
 refine JLa u4 <| JLA rfl <| Zb <| Zj <| ⟨.tuple ⟨[u4, iv 0]⟩, [k4], Ret.two rfl (RV.tmp rfl) (RV.tmp rfl), (Sk Sub.nil), ?_⟩
 have hx : freeE t = (freeP t, 0) := by rw [freeE, if_pos (by assumption)]
 exact ⟨_, _, _, rfl, rfl, by rw [hx]; exact ho4, by rw [hx]⟩
theorem substP_ct (t : Tm) (m : Int) (u : Tm) (cs us : List Value) (H : Heap) (ht : RT H cs t) (hu1 : RT H us u) : CT Tryz.prog 28 ⟨[.agg ⟨cs⟩, iv m, .agg ⟨us⟩]⟩ [] H (fun v N => ∃ cs k, v = .tuple ⟨[.agg ⟨cs⟩, iv (substP t m u).2]⟩ ∧ N = [k] ∧ OT (substP t m u).1 cs k) := by
 refine Zm Tryz.func28 rfl rfl <| Zc <| Za <| JLr (Zp (l := cs) rfl rfl fun b1 => JLr (Zp (l := [iv m]) rfl rfl fun b2 => JLr (Zp (l := us) rfl rfl fun b3 => JLr (Zk (l := pkT 0 0 zS nS nS) Tryz.zeroValue30 rfl fun b4 => JLA rfl <| Zb <| Zc <| Zc <| Za <| JLr (Zl Zt rfl (At.bx 3 rfl) (Zu (Zw ht)) ?_)))))
 refine JLr (Zl Zt rfl (At.bx 1 rfl) (Zu (Zw hu1)) <| JLr (Zq (vs := [.agg ⟨cs⟩, .agg ⟨us⟩]) [cs, us] Tryz.runUnderlying27 el30 rfl rfl (by intro e he; simp only [List.mem_cons, List.not_mem_nil, or_false] at he; rcases he with rfl | rfl <;> first | exact (Zw ht) | exact (Zw hu1)) rfl (by decide) fun b5 k5 ho5 hk5 => Jc Tryz.call55 rfl (fun hin => right_ct _ _ _ (Own.rd2 ho5 (hin 0 _ rfl) (RT.mono (Hle.hu _ _) ht) (RT.mono (Hle.hu _ _) hu1))) rfl ?_))
 rintro _ _ ⟨rfl, rfl⟩
 refine JLA rfl <| Zb <| Zc <| Za <| JLM rfl <| JLn (Pu.neq rfl rfl) <| Zb <| Zg rfl (fun h6 => ?_) (fun h6 => ?_)
 ·replace h6 := nt h6
  replace h6 := df h6
  refine Zc <| Za <| JLq (.agg ⟨pkT 0 0 zS nS nS⟩) (Pu.build (pv := []) (l := pkT 0 0 zS nS nS) rfl (bld30_ )) <| JLM rfl <| JLr (Zd 1 (vs := pkT 0 0 zS nS nS) (l := pkT 0 0 zS nS nS) Zt rfl rfl rfl rfl rfl (ZS rfl rfl) (YF ..) <| JLA rfl <| Zb <| Zj <| ⟨.tuple ⟨[.agg ⟨pkT 0 0 zS nS nS⟩, iv (ZV [t, u])]⟩, [[]], Ret.two rfl (RV.cell Zt rfl (At.bx 1 rfl) (Yr ..)) (RV.tmp rfl), (Sub.emp Sub.nil), ?_⟩)
  have hx : substP t m u = (zT, ZV [t, u]) := by simp only [substP]; (repeat' split) <;> first | rfl | (exfalso; simp_all; done) | (exfalso; simp_all; omega)
  exact ⟨_, _, by rw [hx], rfl, by rw [hx]; exact Y5⟩
 replace h6 := nf h6
 replace h6 := dt h6
 refine Zh <| Zc <| Zc <| Za <| JLr (Ze ty3 rfl (At.bx 3 rfl) rfl <| Jc Tryz.call65 rfl (fun hin => YG _ _ _ _) rfl ?_)
 rintro _ _ ⟨rfl, rfl⟩
 refine Zb <| Zg rfl (fun h7 => ?_) (fun h7 => ?_)
 ·replace h7 := dt h7
  refine Zc <| Za <| JLq (.agg ⟨pkT 0 0 zS nS nS⟩) (Pu.build (pv := []) (l := pkT 0 0 zS nS nS) rfl (bld30_ )) <| JLr (Zd 1 (vs := pkT 0 0 zS nS nS) (l := pkT 0 0 zS nS nS) Zt rfl rfl rfl rfl rfl (ZS rfl rfl) (YF ..) <| JLA rfl <| Zb <| Zj <| ⟨.tuple ⟨[.agg ⟨pkT 0 0 zS nS nS⟩, iv 3]⟩, [[]], Ret.two rfl (RV.cell Zt rfl (At.bx 1 rfl) (Yr ..)) (RV.tmp rfl), (Sub.emp Sub.nil), ?_⟩)
  have hx : substP t m u = (zT, 3) := by simp only [substP]; (repeat' split) <;> first | rfl | (exfalso; simp_all; done) | (exfalso; simp_all; omega)
  exact ⟨_, _, by rw [hx], rfl, by rw [hx]; exact Y5⟩
 replace h7 := df h7
 refine Zh <| Zc <| Za <| JLq (.func (.func 67) ⟨[]⟩ ⟨[pp b2 0, pp b3 0]⟩) (Pu.makeFunc rfl rfl) <| JLq (.agg ⟨[.func (.func 67) ⟨[]⟩ ⟨[pp b2 0, pp b3 0]⟩, .func (.func 70) ⟨[]⟩ ⟨[]⟩]⟩) (Pu.build (pv := [(0, .func (.func 67) ⟨[]⟩ ⟨[pp b2 0, pp b3 0]⟩), (1, .func (.func 70) ⟨[]⟩ ⟨[]⟩)]) (l := [.func (.func 67) ⟨[]⟩ ⟨[pp b2 0, pp b3 0]⟩, .func (.func 70) ⟨[]⟩ ⟨[]⟩]) rfl (bld118_0_1 _ _ _ _ _ _)) <| JLr (Zl Zt rfl (At.bx 4 rfl) (Zu (Zw ht)) <| Jc Tryz.call71 rfl (fun hin => mapTermP_ct 70 [] [] Tryz.call70 (fun s => s) 67 [] [pp b2 0, pp b3 0] Tryz.call67 (sbv m u) _ _ _ _ (RT.mono (Hle.hu _ _) ht) (by have := (YA (rightT2 ‹ZV [t, u] = 0›).1).1; omega) (YA (rightT2 ‹ZV [t, u] = 0›).1).2.1 (by decide) (by have := (YA (rightT2 ‹ZV [t, u] = 0›).1).1; omega) (fun s h hh => same_ct s h) (fun n b h hh h1 h2 h3 h4 => substV_ct n b m u _ h b2 b3 (hh _ _ (hin 3 _ rfl _ _ List.mem_cons_self)) (hh _ _ (hin 2 _ rfl _ _ List.mem_cons_self)) (RT.mono (Hle.trans (Hle.hu _ _) hh) hu1) (by have := (YA (rightT2 ‹ZV [t, u] = 0›).2).1; omega) (YA (rightT2 ‹ZV [t, u] = 0›).2).2.1 h1 h2 h3 h4)) rfl ?_)
 rintro _ _ ⟨cs8, k8, rfl, rfl, hO8⟩
 refine Jc Tryz.call66 rfl (fun hin => short_ct _ _ _ (hO8.rd (hin 0 _ rfl))) rfl ?_
 rintro _ _ ⟨rfl, rfl⟩
 refine JLn (Pu.extract rfl rfl) <| JLn (Pu.extract rfl rfl) <| JLr (Zd 2 (vs := (if Xh (mapQ (fun s => s) (sbv m u) 0 t) = true then pkT 0 0 zS nS nS else cs8)) (l := (if Xh (mapQ (fun s => s) (sbv m u) 0 t) = true then pkT 0 0 zS nS nS else cs8)) Zt rfl rfl rfl rfl (len_ite (n := 36) rfl hO8.len) (okc_ite (ZS rfl rfl) hO8.ok) (ZI (n := 36) rfl (len_ite (n := 36) rfl hO8.len)) <| JLA rfl <| Zb <| Zj ?_)
 by_cases hL : Xh (mapQ (fun s => s) (sbv m u) 0 t) = true
 ·refine ⟨.tuple ⟨[.agg ⟨(if Xh (mapQ (fun s => s) (sbv m u) 0 t) = true then pkT 0 0 zS nS nS else cs8)⟩, iv ((if Xh (mapQ (fun s => s) (sbv m u) 0 t) = true then 11 else 0))]⟩, [[]], Ret.two rfl (RV.cell Zt rfl (At.bx 2 rfl) (Zu (len_ite (n := 36) rfl hO8.len))) (RV.tmp rfl), (Sub.emp Sub.nil), ?_⟩
  have hx : substP t m u = (zT, 11) := by rw [substP, if_pos (by assumption), if_neg (by omega), if_pos (show Xh (sbT m u t) = true from hL)]
  exact ⟨_, _, by rw [if_pos hL, if_pos hL, hx], rfl, by rw [hx]; exact Y5⟩
 refine ⟨.tuple ⟨[.agg ⟨(if Xh (mapQ (fun s => s) (sbv m u) 0 t) = true then pkT 0 0 zS nS nS else cs8)⟩, iv ((if Xh (mapQ (fun s => s) (sbv m u) 0 t) = true then 11 else 0))]⟩, [k8], Ret.two rfl (RV.cell Zt rfl (At.bx 2 rfl) (Zu (len_ite (n := 36) rfl hO8.len))) (RV.tmp rfl), (Sk Sub.nil), ?_⟩
 have hx : substP t m u = (mapQ (fun s => s) (sbv m u) 0 t, 0) := by rw [substP, if_pos (by assumption), if_neg (by omega), if_neg (show ¬ Xh (sbT m u t) = true from hL)]; rfl
 exact ⟨_, _, by rw [if_neg hL, if_neg hL, hx], rfl, by rw [hx]; exact hO8⟩
end Go.Proofs.YtkjafeejpmcnkaaGreat.Hs
/-! Walks, printed by a program of this session's own (gen.py). -/
namespace Go.Proofs.YtkjafeejpmcnkaaGreat.Hs
open Go Go.Proofs
set_option maxRecDepth 100000
set_option linter.unusedVariables false
set_option linter.unusedSimpArgs false
attribute [local irreducible] JL J CT wlo DT
theorem spoil_ct : ∀ (t : Tm) (cs : List Value) (k : Zi) (H : Heap), OT t cs k → CT Tryz.prog 38 ⟨[.agg ⟨cs⟩]⟩ [k] H (fun v N => v = .tuple ⟨[]⟩ ∧ N = []) := by
 intro t
 induction t using Tm.ind with
 | h kind num ref kids cases ih ih' =>
 intro cs k H hO
 obtain ⟨ks, cv, es, es', k1, k2, k3, k4, rfl, hk, hn, ho1, ho2, ho3, ho4, rfl, hlK, hlC⟩ := OT_mk.1 hO
 refine Zm Tryz.func38 rfl rfl <| ZX (M' := [k1, k2, k3, k4]) (Sub.flat Sub.refl (by simp)) <| Zc <| Za <| JLr (Zp (l := pkT kind num ref ks cv) rfl rfl fun b1 => Zb <| Zc <| Zc <| Za <| JLq (pp b1 34) (Ye rfl rfl) <| JLr (Ze ty27 rfl (At.bx 0 rfl) (Ya ..) ?_))
 obtain ⟨a2, cap2, hv2⟩ := ho1.sl
 rw [(OTs_len ho2)] at hv2
 refine JLn (Pu.lenSl Tryz.runUnderlying27 hv2) <| JLM rfl <| Zb <| Zo <| ZN (fun k ρ M => ∃ (j : Nat) (es5 : List (List Value)) (k5 c0 : Zi), ρ 1 = pp b1 0 ∧ ρ 7 = iv ((kids.length : Int)) ∧ ρ 8 = iv ((j : Int)) ∧ Sub [(BX b1 (pkT kind num ref ks cv) 30), k5, c0, k3, k4] M ∧ j ≤ kids.length ∧ Own 30 36 ks es5 k5 ∧ es5.length = kids.length ∧ OTs (kids.drop j) (es5.drop j) c0 ∧ k = kids.length - j) _ ⟨0, es, k1, k2, rfl, rfl, rfl, (Sk (Sk (Sk (Sk (Sk Sub.nil))))), Nat.zero_le _, ho1, OTs_len ho2, by simpa using ho2, rfl⟩ ?_
 rintro _ ρ3 _ ⟨j, es5, k5, c0, e4, e5, e6, hm7, hj, ho5, hl5, hr5, rfl⟩
 obtain ⟨ρ8, rfl⟩ := Zs (uc e4 (uc e5 (uc e6 un)))
 clear e4 e5 e6
 refine ZX hm7 <| Zc <| Za <| JLn (Pu.lss rfl rfl) <| Zb <| Zc <| Zg rfl (fun h9 => ?_) (fun h9 => ?_)
 ·replace h9 := dt h9
  have h9n : j < kids.length := by omega
  obtain ⟨e5, kc5, c5, hE, hO5, rfl, hR5⟩ := OTs.take hr5 h9n
  refine ZX (M' := [(BX b1 (pkT kind num ref ks cv) 30), k5, kc5, c5, k3, k4]) (Sub.flat Sub.refl (by simp)) <| Zh <| Zc <| Zo <| Zc <| Za <| JLM rfl <| JLA rfl <| Zb <| Zc <| Za <| JLq (pp b1 34) (Ye rfl rfl) <| JLr (Ze ty27 rfl (At.bx 0 rfl) (Ya ..) ?_)
  refine JLM rfl ?_
  obtain ⟨b10, cap10, row10, hv10, hm10, hs10⟩ := ho5.at' hE
  refine JLq (pp b10 (0 + j * 36)) (Pu.idx j Tryz.runUnderlying27 Zt hv10 rfl rfl (by rw [hl5]; exact h9n)) <| JLr (Zl Zt rfl (At.k 1 rfl hm10) hs10 <| Zv 2 rfl Tryz.call38 rfl rfl (fun hin => ih _ (List.getElem_mem h9n) _ _ _ hO5) rfl ?_)
  rintro _ _ ⟨rfl, rfl⟩
  refine Zb <| Za <| JLq (pp b1 34) (Ye rfl rfl) <| JLr (Ze ty27 rfl (At.bx 0 rfl) (Ya ..) <| JLM rfl <| JLq (.agg ⟨pkT 98 0 zS nS nS⟩) (Pu.build (pv := [(0, iv 98)]) (l := pkT 98 0 zS nS nS) rfl (bld30_0 _)) ?_)
  obtain ⟨b11, cap11, row11, hv11, hm11, hs11⟩ := ho5.at' hE
  refine JLq (pp b11 (0 + j * 36)) (Pu.idx j Tryz.runUnderlying27 Zt hv11 rfl rfl (by rw [hl5]; exact h9n)) <| JLr (Xe (i := 1) (j := j) (b := b11) Zt rfl ho5 ⟨_, _, hv11⟩ rfl (by rw [hl5]; exact h9n) rfl rfl rfl (ZS rfl rfl) fun k12 ho12 => Zb <| Za <| JLn (Pu.inc rfl rfl (by omega)) <| JLM rfl <| Zb <| ⟨_, ?_, (j + 1), (es5.set j (pkT 98 0 zS nS nS)), k12, c5, rfl, rfl, rfl, (Sk (Sk (Sk (Sk (Sk Sub.nil))))), ?_, ?_, ?_, ?_, rfl⟩)
  ·omega
  ·omega
  ·exact ho12
  ·rw [List.length_set]; exact hl5
  exact hR5 _
 replace h9 := df h9
 have h9n : kids.length ≤ j := by omega
 refine Zz _ rfl <| Zc <| Za <| JLq (pp b1 35) (Z0 rfl rfl) <| JLr (Ze Y2 rfl (At.bx 0 rfl) (ZZ ..) ?_)
 obtain ⟨a13, cap13, hv13⟩ := ho3.sl
 rw [(OCs_len ho4)] at hv13
 refine JLn (Pu.lenSl Tryz.runUnderlying28 hv13) <| JLM rfl <| Zb <| Zo <| ZN (fun k ρ M => ∃ (j : Nat) (es7 : List (List Value)) (k7 c1 : Zi), ρ 1 = pp b1 0 ∧ ρ 25 = iv ((cases.length : Int)) ∧ ρ 26 = iv ((j : Int)) ∧ Sub [(BX b1 (pkT kind num ref ks cv) 30), k7, c1] M ∧ j ≤ cases.length ∧ Own 86 71 cv es7 k7 ∧ es7.length = cases.length ∧ OCs (cases.drop j) (es7.drop j) c1 ∧ k = cases.length - j) _ ⟨0, es', k3, k4, rfl, rfl, rfl, (Sk (Sd (Sd (Sk (Sk Sub.nil))))), Nat.zero_le _, ho3, OCs_len ho4, by simpa using ho4, rfl⟩ ?_
 rintro _ ρ14 _ ⟨j, es7, k7, c1, e15, e16, e17, hm18, hj, ho7, hl7, hr6, rfl⟩
 obtain ⟨ρ19, rfl⟩ := Zs (uc e15 (uc e16 (uc e17 un)))
 clear e15 e16 e17
 refine ZX hm18 <| Zc <| Za <| JLn (Pu.lss rfl rfl) <| Zb <| Zc <| Zg rfl (fun h20 => ?_) (fun h20 => ?_)
 ·replace h20 := dt h20
  have h20n : j < cases.length := by omega
  obtain ⟨kk6, n6, r6, ks6, e6, esp6, q6, kp6, kq6, kc6, c6, hE, hOp, hq6, hq66, hO6, rfl, hR6⟩ := OCs.take hr6 h20n
  refine ZX (M' := [(BX b1 (pkT kind num ref ks cv) 30), k7, kp6, kq6, kc6, c6]) (Sub.flat Sub.refl (by simp)) <| Zh <| Zc <| Zo <| Zc <| Za <| JLM rfl <| JLA rfl <| Zb <| Zc <| Za <| JLq (pp b1 35) (Z0 rfl rfl) <| JLr (Ze Y2 rfl (At.bx 0 rfl) (ZZ ..) ?_)
  refine JLM rfl ?_
  obtain ⟨b21, cap21, row21, hv21, hm21, hs21⟩ := ho7.at' hE
  refine JLq (pp b21 (0 + j * 71)) (Pu.idx j Tryz.runUnderlying28 Xk hv21 rfl rfl (by rw [hl7]; exact h20n)) <| JLq (pp b21 (0 + j * 71 + 35)) (fa86_1 rfl rfl) <| JLr (Zl Zt rfl (At.k 1 rfl hm21) (sub_sub hs21 (sub_r rfl hO6.len)) <| Zv 4 rfl Tryz.call38 rfl rfl (fun hin => ih' _ (List.getElem_mem h20n) _ _ _ hO6) rfl ?_)
  rintro _ _ ⟨rfl, rfl⟩
  refine Zb <| Zc <| Zc <| Za <| JLq (pp b1 35) (Z0 rfl rfl) <| JLr (Ze Y2 rfl (At.bx 0 rfl) (ZZ ..) <| JLM rfl ?_)
  obtain ⟨b22, cap22, row22, hv22, hm22, hs22⟩ := ho7.at' hE
  refine JLq (pp b22 (0 + j * 71)) (Pu.idx j Tryz.runUnderlying28 Xk hv22 rfl rfl (by rw [hl7]; exact h20n)) <| JLq (pp b22 (0 + j * 71)) (fa86_0 rfl rfl) <| JLq (pp b22 (0 + j * 71 + 34)) (Yi rfl rfl) <| JLr (Ze ty79 rfl (At.k 1 rfl hm22) (sub_get hs22 (get_l (Yo ..))) ?_)
  obtain ⟨a23, cap23, hv23⟩ := hOp.sl
  rw [hq6] at hv23
  refine JLn (Pu.lenSl Tryz.runUnderlying79 hv23) <| JLM rfl <| Zb <| Zo <| ZN (fun k ρ M => ∃ (i : Nat) (es8 : List (List Value)) (k8 : Zi), ρ 1 = pp b1 0 ∧ ρ 3 = iv ((j : Int)) ∧ ρ 25 = iv ((cases.length : Int)) ∧ ρ 26 = iv ((j : Int)) ∧ ρ 43 = iv ((q6 : Int)) ∧ ρ 44 = iv ((i : Int)) ∧ Sub [k8, (BX b1 (pkT kind num ref ks cv) 30), k7, kq6, c6] M ∧ i ≤ q6 ∧ Own 81 35 ks6 es8 k8 ∧ es8.length = q6 ∧ k = q6 - i) _ ⟨0, esp6, kp6, rfl, rfl, rfl, rfl, rfl, rfl, (Sub.cons 2 rfl (Sk (Sk (Sk (Sk Sub.nil))))), Nat.zero_le _, hOp, hq6, rfl⟩ ?_
  rintro _ ρ24 _ ⟨i, es8, k8, e25, e26, e27, e28, e29, e30, hm31, hi, ho8, hl8, rfl⟩
  obtain ⟨ρ32, rfl⟩ := Zs (uc e25 (uc e26 (uc e27 (uc e28 (uc e29 (uc e30 un))))))
  clear e25 e26 e27 e28 e29 e30
  refine ZX hm31 <| Zc <| Za <| JLn (Pu.lss rfl rfl) <| Zb <| Zc <| Zg rfl (fun h33 => ?_) (fun h33 => ?_)
  ·replace h33 := dt h33
   have h33n : i < q6 := by omega
   refine Zh <| Zc <| Zo <| Zc <| Za <| JLM rfl <| JLA rfl <| Zb <| Za <| JLq (pp b1 35) (Z0 rfl rfl) <| JLr (Ze Y2 rfl (At.bx 1 rfl) (ZZ ..) <| JLM rfl ?_)
   obtain ⟨b34, cap34, row34, hv34, hm34, hs34⟩ := ho7.at' hE
   refine JLq (pp b34 (0 + j * 71)) (Pu.idx j Tryz.runUnderlying28 Xk hv34 rfl rfl (by rw [hl7]; exact h20n)) <| JLq (pp b34 (0 + j * 71)) (fa86_0 rfl rfl) <| JLq (pp b34 (0 + j * 71 + 34)) (Yi rfl rfl) <| JLr (Ze ty79 rfl (At.k 2 rfl hm34) (sub_get hs34 (get_l (Yo ..))) <| JLM rfl <| JLq (.agg ⟨pkP 98 0 zS nS⟩) (Pu.build (pv := [(0, iv 98)]) (l := pkP 98 0 zS nS) rfl (bld81_0 _)) ?_)
   obtain ⟨b35, cap35, row35, hv35, hm35, hs35⟩ := ho8.at (j := i) (by rw [hl8]; exact h33n)
   refine JLq (pp b35 (0 + i * 35)) (Pu.idx i Tryz.runUnderlying79 Z7 hv35 rfl rfl (by rw [hl8]; exact h33n)) <| JLr (Xe (i := 0) (j := i) (b := b35) Z7 rfl ho8 ⟨_, _, hv35⟩ rfl (by rw [hl8]; exact h33n) rfl rfl rfl (pkP_ok rfl) fun k36 ho36 => Zb <| Za <| JLn (Pu.inc rfl rfl (by omega)) <| JLM rfl <| Zb <| ⟨_, ?_, (i + 1), (es8.set i (pkP 98 0 zS nS)), k36, rfl, rfl, rfl, rfl, rfl, rfl, (Sk (Sk (Sk (Sk (Sk Sub.nil))))), ?_, ?_, ?_, rfl⟩)
   ·omega
   ·omega
   ·exact ho36
   rw [List.length_set]; exact hl8
  replace h33 := df h33
  have h33n : q6 ≤ i := by omega
  refine Zz _ rfl <| Za <| JLq (pp b1 35) (Z0 rfl rfl) <| JLr (Ze Y2 rfl (At.bx 1 rfl) (ZZ ..) <| JLM rfl <| JLq (.agg ⟨(pkP 0 0 zS nS) ++ (pkT 0 0 zS nS nS)⟩) (Pu.build (pv := []) (l := (pkP 0 0 zS nS) ++ (pkT 0 0 zS nS nS)) rfl bld86_) ?_)
  obtain ⟨b37, cap37, row37, hv37, hm37, hs37⟩ := ho7.at' hE
  refine JLq (pp b37 (0 + j * 71)) (Pu.idx j Tryz.runUnderlying28 Xk hv37 rfl rfl (by rw [hl7]; exact h20n)) <| JLr (Xe (i := 2) (j := j) (b := b37) Xk rfl ho7 ⟨_, _, hv37⟩ rfl (by rw [hl7]; exact h20n) rfl rfl rfl (Yk (pkP_ok rfl) (ZS rfl rfl)) fun k38 ho38 => Zb <| Za <| JLn (Pu.inc rfl rfl (by omega)) <| JLM rfl <| Zb <| ⟨_, ?_, (j + 1), (es7.set j ((pkP 0 0 zS nS) ++ (pkT 0 0 zS nS nS))), k38, c6, rfl, rfl, rfl, (Sd (Sk (Sk (Sd (Sk Sub.nil))))), ?_, ?_, ?_, ?_, rfl⟩)
  ·omega
  ·omega
  ·exact ho38
  ·rw [List.length_set]; exact hl7
  exact hR6 _
 replace h20 := df h20
 have h20n : cases.length ≤ j := by omega
 refine Zz _ rfl <| ⟨.tuple ⟨[]⟩, [], Ret.none rfl, Sub.nil, ?_⟩
 exact ⟨rfl, rfl⟩
end Go.Proofs.YtkjafeejpmcnkaaGreat.Hs
/-! Walks, printed by a program of this session's own (gen.py). -/
namespace Go.Proofs.YtkjafeejpmcnkaaGreat.Hs
open Go Go.Proofs
set_option maxRecDepth 100000
set_option linter.unusedVariables false
set_option linter.unusedSimpArgs false
attribute [local irreducible] JL J CT wlo DT
end Go.Proofs.YtkjafeejpmcnkaaGreat.Hs
/-! How a term is read from an item by the reference; both answers are the same. -/
namespace Go.Proofs.YtkjafeejpmcnkaaGreat.Hs
open Go Go.Proofs
mutual
def szI : It → Nat
  | .mk _ _ _ kids => 1 + Z3 kids
def Z3 : List It → Nat
  | [] => 0
  | x :: l => szI x + Z3 l
end
theorem szI_pos (x : It) : 1 ≤ szI x := by cases x; rw [szI]; omega
theorem szIs_drop {l : List It} {j : Nat} (h : j < l.length) : Z3 (l.drop j) = szI l[j] + Z3 (l.drop (j + 1)) := by rw [ZW h, Z3]
theorem szIs_mem {l : List It} : ∀ {x : It}, x ∈ l → szI x ≤ Z3 l := by
  induction l with
  | nil => intro x hx; cases hx
  | cons y l ih =>
    intro x hx
    rw [Z3]
    rcases List.mem_cons.1 hx with rfl | hx
    · omega
    · have := ih hx; omega
theorem Xb (l : List It) : l.length ≤ Z3 l := by
  induction l with
  | nil => simp
  | cons x l ih => rw [Z3, List.length_cons]; have := szI_pos x; omega
/-- what was begun is counted -/
theorem ptG_cnt (x : It) : ∀ (d : Int) (σ : Int × Bool), σ.1 + 1 ≤ (ptG x d σ).2.1 ∧ (ptG x d σ).2.1 ≤ σ.1 + szI x := by
  induction x using It.ind with
  | h k m t kids ih =>
    intro d σ
    rw [ptG, szI]
    split
    · simp only; omega
    · have hK : ∀ (l : List It) (σ : Int × Bool), (∀ x ∈ l, ∀ (d : Int) (σ : Int × Bool), σ.1 + 1 ≤ (ptG x d σ).2.1 ∧ (ptG x d σ).2.1 ≤ σ.1 + szI x) → σ.1 ≤ (ptGs l (d + 1) σ).2.1 ∧ (ptGs l (d + 1) σ).2.1 ≤ σ.1 + Z3 l := by
        intro l
        induction l with
        | nil => intro σ _; rw [ptGs, Z3]; simp
        | cons x l ihl =>
          intro σ hl
          rw [ptGs, Z3]
          have h1 := hl x (by simp) (d + 1) σ
          have h2 := ihl (ptG x (d + 1) σ).2 (fun y hy => hl y (by simp [hy]))
          simp only at h2 ⊢
          omega
      have := hK kids (σ.1 + 1, Yq (decide (k = 33)) t) ih
      simp only at this ⊢
      omega
theorem tmG_cnt (x : It) : (∀ (d : Int) (σ : Int × Bool), σ.1 + 1 ≤ (tmG x d σ).2.1 ∧ (tmG x d σ).2.1 ≤ σ.1 + szI x) ∧ (∀ y ∈ x.kids, ∀ (d : Int) (σ : Int × Bool), σ.1 + 1 ≤ (tmG y d σ).2.1 ∧ (tmG y d σ).2.1 ≤ σ.1 + szI y) := by
  induction x using It.ind with
  | h k m t kids ih =>
    refine ⟨?_, fun y hy => (ih y hy).1⟩
    intro d σ
    rw [tmG, szI]
    split
    · simp only; omega
    · have hK : ∀ (l : List It) (ks : List Tm) (cs : List (Pt × Tm)) (σ : Int × Bool), (∀ x ∈ l, (∀ (d : Int) (σ : Int × Bool), σ.1 + 1 ≤ (tmG x d σ).2.1 ∧ (tmG x d σ).2.1 ≤ σ.1 + szI x) ∧ (∀ y ∈ x.kids, ∀ (d : Int) (σ : Int × Bool), σ.1 + 1 ≤ (tmG y d σ).2.1 ∧ (tmG y d σ).2.1 ≤ σ.1 + szI y)) → σ.1 ≤ (YD l (d + 1) ks cs σ).2.1 ∧ (YD l (d + 1) ks cs σ).2.1 ≤ σ.1 + Z3 l := by
        intro l
        induction l with
        | nil => intro ks cs σ _; rw [YD, Z3]; simp
        | cons x l ihl =>
          intro ks cs σ hl
          rw [Z3]
          have h1 := hl x (by simp)
          have hl' := fun y hy => hl y (List.mem_cons_of_mem x hy)
          by_cases hc : ∃ t a b, x = .mk 20 0 t [a, b]
          · obtain ⟨t, a, b, rfl⟩ := hc
            rw [tmGs_case]
            rw [szI, Z3, Z3, Z3]
            split
            · have := ihl ks cs (σ.1, true) hl'
              simp only at this ⊢
              omega
            · have h2 := ptG_cnt a (d + 1) σ
              have h3 := h1.2 b (by simp [It.kids]) (d + 1) (ptG a (d + 1) σ).2
              have := ihl ks (cs ++ [((ptG a (d + 1) σ).1, (tmG b (d + 1) (ptG a (d + 1) σ).2).1)]) (tmG b (d + 1) (ptG a (d + 1) σ).2).2 hl'
              omega
          · rw [tmGs_kid (fun t a b e => hc ⟨t, a, b, e⟩)]
            split
            · have h2 := h1.1 (d + 1) (σ.1, σ.2 || decide (0 < cs.length))
              have := ihl (ks ++ [(tmG x (d + 1) (σ.1, σ.2 || decide (0 < cs.length))).1]) cs (tmG x (d + 1) (σ.1, σ.2 || decide (0 < cs.length))).2 hl'
              simp only at h2 this ⊢
              omega
            · have := ihl ks cs (σ.1, true) hl'
              simp only at this ⊢
              have := szI_pos x
              omega
      have := hK kids [] [] (σ.1 + 1, Yq (ZG k) t) ih
      simp only at this ⊢
      omega
/-! steps of the program's rounds -/
theorem it_case {y : It} (h1 : y.kind = 20) (h2 : y.num = 0) (h3 : y.text = ⟨#[]⟩) (h4 : y.kids.length = 2) : y = .mk 20 0 ⟨#[]⟩ [y.kids[0], y.kids[1]] := by
  cases y with
  | mk k n t kids =>
    simp only [It.kind, It.num, It.text, It.kids] at h1 h2 h3 h4 ⊢
    subst h1 h2 h3
    congr 1
    apply List.ext_getElem
    · simp [h4]
    · intro i hi1 hi2
      have : i = 0 ∨ i = 1 := by simp at hi2; omega
      rcases this with rfl | rfl <;> rfl
theorem tmGs_c {y : It} (h1 : y.kind = 20) (h2 : y.num = 0) (h3 : y.text = ⟨#[]⟩) (h4 : y.kids.length = 2) (l : List It) (d : Int) (ks : List Tm) (cs : List (Pt × Tm)) (σ : Int × Bool) : YD (y :: l) d ks cs σ = YD l d ks (cs ++ [((ptG y.kids[0] d σ).1, (tmG y.kids[1] d (ptG y.kids[0] d σ).2).1)]) (tmG y.kids[1] d (ptG y.kids[0] d σ).2).2 := by
  obtain ⟨a, ha⟩ : ∃ a, a = y.kids[0] := ⟨_, rfl⟩
  obtain ⟨b, hb⟩ : ∃ b, b = y.kids[1] := ⟨_, rfl⟩
  have e := it_case h1 h2 h3 h4
  rw [← ha, ← hb] at e ⊢
  rw [e, tmGs_case, if_neg (fun z => z rfl)]
theorem tmGs_k {y : It} (h1 : ¬ y.kind = 20) (l : List It) (d : Int) (ks : List Tm) (cs : List (Pt × Tm)) (σ : Int × Bool) : YD (y :: l) d ks cs σ = YD l d (ks ++ [(tmG y d (σ.1, σ.2 || decide (0 < cs.length))).1]) cs (tmG y d (σ.1, σ.2 || decide (0 < cs.length))).2 := by
  rw [tmGs_kid (fun t a b e => h1 (by rw [e]; rfl)), if_pos h1]
theorem tmGs_w {y : It} (h1 : y.kind = 20) (h2 : ¬ (y.num = 0 ∧ y.text = ⟨#[]⟩ ∧ y.kids.length = 2)) (l : List It) (d : Int) (ks : List Tm) (cs : List (Pt × Tm)) (σ : Int × Bool) : YD (y :: l) d ks cs σ = YD l d ks cs (σ.1, true) := by
  by_cases hc : ∃ t a b, y = .mk 20 0 t [a, b]
  · obtain ⟨t, a, b, rfl⟩ := hc
    have ht : ¬ t = ⟨#[]⟩ := fun z => h2 ⟨rfl, z, rfl⟩
    rw [tmGs_case, if_pos ht]
  · rw [tmGs_kid (fun t a b e => hc ⟨t, a, b, e⟩), if_neg (fun z => z h1)]
theorem ptGs_cons {kids : List It} {j : Nat} (hj : j < kids.length) (d : Int) (σ : Int × Bool) : ptGs (kids.drop j) d σ = ((ptG kids[j] d σ).1 :: (ptGs (kids.drop (j + 1)) d (ptG kids[j] d σ).2).1, (ptGs (kids.drop (j + 1)) d (ptG kids[j] d σ).2).2) := by rw [ZW hj, ptGs]
theorem refW_eq (has : Bool) (t : ByteArray) : ((has && !decide ((t.size : Int) = 32)) || (!has && !decide (t = ⟨#[]⟩))) = Yq has t := by
  unfold Yq
  have : decide ((t.size : Int) = 32) = decide (t.size = 32) := by
    apply decide_eq_decide.2; omega
  rw [this]
  simp
theorem refV_w {has : Bool} {t : ByteArray} (h : Yq has t = true) : Yl has t = zS := by unfold Yl; rw [if_pos h]
theorem refV_ok {has : Bool} {t : ByteArray} (h : Yq has t = false) : t.size ≤ 32 ∧ spl (sC zS) 0 ((sB t).map (fun n => Value.int .u8 n)) = some (sC (Yl has t)) := by
  cases has with
  | true =>
    have h1 : t.size = 32 := by simpa [Yq] using h
    refine ⟨by omega, ?_⟩
    have e : Yl true t = smS t := by unfold Yl; rw [h]; rfl
    rw [e, ← sC_str h1]
    have hl : ((sB t).map (fun n => Value.int .u8 n)).length = 32 := by rw [List.length_map, sB_len]; exact h1
    rw [spl_mk (by rw [hl, sC_len]; omega), hl]
    rw [List.take_zero, List.nil_append, List.drop_of_length_le (by rw [sC_len]; omega), List.append_nil]
  | false =>
    have h1 : t = ⟨#[]⟩ := by simpa [Yq] using h
    subst h1
    refine ⟨by decide, ?_⟩
    have e : Yl false ⟨#[]⟩ = zS := by unfold Yl; rw [h]; rfl
    rw [e]
    have e2 : (sB ⟨#[]⟩).map (fun n => Value.int .u8 n) = [] := rfl
    rw [e2, spl_mk (by simp)]
    simp
/-! ### the reference -/
def YQ (t : ByteArray) : Sm × Bool := if t.size = 32 then (smS t, true) else (zS, false)
mutual
def rpP : It → Pt × Bool
  | .mk k m t kids =>
    (.mk (Yn k) m (if Yn k = 3 then (YQ t).1 else zS) (rpPs kids (if Yn k = 3 then (YQ t).2 else decide (t = ⟨#[]⟩))).1, (rpPs kids (if Yn k = 3 then (YQ t).2 else decide (t = ⟨#[]⟩))).2)
def rpPs : List It → Bool → List Pt × Bool
  | [], b => ([], b)
  | x :: l, b => if b = true then ((rpP x).1 :: (rpPs l (rpP x).2).1, (rpPs l (rpP x).2).2) else ([], false)
end
mutual
def rtT : It → Tm × Bool
  | .mk k m t kids =>
    (.mk k m (if ZG k = true then (YQ t).1 else zS) (YP (decide (k = 9)) false kids [] [] (if ZG k = true then (YQ t).2 else decide (t = ⟨#[]⟩))).1.1 (YP (decide (k = 9)) false kids [] [] (if ZG k = true then (YQ t).2 else decide (t = ⟨#[]⟩))).1.2,
      (YP (decide (k = 9)) false kids [] [] (if ZG k = true then (YQ t).2 else decide (t = ⟨#[]⟩))).2)
/-- nine: a match; late: not the first one -/
def YP (nine : Bool) : Bool → List It → List Tm → List (Pt × Tm) → Bool → (List Tm × List (Pt × Tm)) × Bool
  | _, [], ks, cs, b => ((ks, cs), b)
  | late, .mk 20 0 t [x, y] :: l, ks, cs, b =>
    if b = true then
      if (nine && late) = true then
        if t = ⟨#[]⟩ then YP nine true l ks (cs ++ [((rpP x).1, (rtT y).1)]) ((rpP x).2 && (rtT y).2) else ((ks, cs), false)
      else YP nine true l (ks ++ [(rtT (.mk 20 0 t [x, y])).1]) cs (rtT (.mk 20 0 t [x, y])).2
    else ((ks, cs), false)
  | late, x :: l, ks, cs, b =>
    if b = true then
      if (nine && late) = true then ((ks, cs), false)
      else YP nine true l (ks ++ [(rtT x).1]) cs (rtT x).2
    else ((ks, cs), false)
end
theorem rtTs_no {nine late : Bool} {l : List It} {ks : List Tm} {cs : List (Pt × Tm)} : YP nine late l ks cs false = ((ks, cs), false) := by
  cases l with
  | nil => rw [YP]
  | cons x l =>
    by_cases hc : ∃ t a b, x = .mk 20 0 t [a, b]
    · obtain ⟨t, a, b, rfl⟩ := hc; rw [YP, if_neg (by decide)]
    · rw [YP, if_neg (by decide)]; exact fun t a b e => hc ⟨t, a, b, e⟩
theorem rtTs_kid {nine late : Bool} (hn : (nine && late) = false) (x : It) (l : List It) (ks : List Tm) (cs : List (Pt × Tm)) : YP nine late (x :: l) ks cs true = YP nine true l (ks ++ [(rtT x).1]) cs (rtT x).2 := by
  by_cases hc : ∃ t a b, x = .mk 20 0 t [a, b]
  · obtain ⟨t, a, b, rfl⟩ := hc; rw [YP, if_pos rfl, hn, if_neg (by decide)]
  · rw [YP, if_pos rfl, hn, if_neg (by decide)]; exact fun t a b e => hc ⟨t, a, b, e⟩
theorem rtTs_case {nine late : Bool} (hn : (nine && late) = true) {x : It} (h1 : x.kind = 20) (h2 : x.num = 0) (h3 : x.text = ⟨#[]⟩) (h4 : x.kids.length = 2) (l : List It) (ks : List Tm) (cs : List (Pt × Tm)) : YP nine late (x :: l) ks cs true = YP nine true l ks (cs ++ [((rpP x.kids[0]).1, (rtT x.kids[1]).1)]) ((rpP x.kids[0]).2 && (rtT x.kids[1]).2) := by
  obtain ⟨a, ha⟩ : ∃ a, a = x.kids[0] := ⟨_, rfl⟩
  obtain ⟨b, hb⟩ : ∃ b, b = x.kids[1] := ⟨_, rfl⟩
  have e := it_case h1 h2 h3 h4
  rw [← ha, ← hb] at e ⊢
  rw [e, YP, if_pos rfl, if_pos hn, if_pos rfl]
theorem rtTs_bad {nine late : Bool} (hn : (nine && late) = true) {x : It} (h : ¬ (x.kind = 20 ∧ x.num = 0 ∧ x.text = ⟨#[]⟩ ∧ x.kids.length = 2)) (l : List It) (ks : List Tm) (cs : List (Pt × Tm)) : YP nine late (x :: l) ks cs true = ((ks, cs), false) := by
  by_cases hc : ∃ t a b, x = .mk 20 0 t [a, b]
  · obtain ⟨t, a, b, rfl⟩ := hc
    have ht : ¬ t = ⟨#[]⟩ := fun z => h ⟨rfl, rfl, z, rfl⟩
    rw [YP, if_pos rfl, if_pos hn, if_neg ht]
  · rw [YP, if_pos rfl, if_pos hn]; exact fun t a b e => hc ⟨t, a, b, e⟩
theorem dig_tx {t : ByteArray} (h : (YQ t).2 = true) : txS (YQ t).1 = t := by
  unfold YQ at h ⊢
  split at h
  · rename_i hs; rw [if_pos hs]; exact tx_sm hs
  · cases h
theorem rpPs_no {l : List It} : (rpPs l false).2 = false := by cases l <;> rw [rpPs]; rw [if_neg (by decide)]
theorem rp_is (x : It) : (rpP x).2 = true → okI x → itP (rpP x).1 = x := by
  induction x using It.ind with
  | h k m t kids ih =>
    intro h hk
    rw [okI] at hk
    rw [rpP] at h ⊢
    have hw : (if Yn k = 3 then (YQ t).2 else decide (t = ⟨#[]⟩)) = true := by
      cases e : (if Yn k = 3 then (YQ t).2 else decide (t = ⟨#[]⟩)) with
      | true => rfl
      | false => rw [e] at h; simp only at h; rw [rpPs_no] at h; cases h
    rw [hw] at h ⊢
    have hK : ∀ (l : List It), (∀ x ∈ l, (rpP x).2 = true → okI x → itP (rpP x).1 = x) → okIs l → (rpPs l true).2 = true → itPs (rpPs l true).1 = l := by
      intro l
      induction l with
      | nil => intro _ _ _; rw [rpPs, itPs]
      | cons x l ihl =>
        intro hl ho h
        rw [okIs] at ho
        rw [rpPs, if_pos rfl] at h ⊢
        have h1 : (rpP x).2 = true := by
          cases e : (rpP x).2 with
          | true => rfl
          | false => rw [e] at h; simp only at h; rw [rpPs_no] at h; cases h
        rw [h1] at h ⊢
        rw [itPs, hl x (by simp) h1 ho.1, ihl (fun y hy => hl y (by simp [hy])) ho.2 h]
    rw [itP, hK kids ih hk.2 h, wr30_in hk.1]
    have e : (30 : Int) + (k - 30) = k := by omega
    rw [e]
    rw [wr30_in hk.1] at hw
    by_cases h3 : k - 30 = 3
    · rw [if_pos h3] at hw; simp only [if_pos h3]; rw [dig_tx hw]
    · rw [if_neg h3] at hw; simp only [if_neg h3]; rw [of_decide_eq_true hw]
def rtOK (x : It) : Prop := (rtT x).2 = true → okI x → itT (rtT x).1 = x
theorem rtTs_is {nine : Bool} (l : List It) : ∀ (late : Bool) (ks : List Tm) (cs : List (Pt × Tm)) (b : Bool), (∀ x ∈ l, rtOK x) → (∀ x ∈ l, ∀ y ∈ x.kids, rtOK y) → okIs l → (YP nine late l ks cs b).2 = true → (late = false → ks = []) → ((nine && late) = false → cs = []) →
    Xf (YP nine late l ks cs b).1.1 ++ Y9 (YP nine late l ks cs b).1.2 = Xf ks ++ Y9 cs ++ l := by
  induction l with
  | nil => intro late ks cs b _ _ _ _ _ _; rw [YP, List.append_nil]
  | cons y l ihl =>
    intro late ks cs b h1 h2 ho h hlk hcs
    rw [okIs] at ho
    have h1' : ∀ x ∈ l, rtOK x := fun x hx => h1 x (by simp [hx])
    have h2' : ∀ x ∈ l, ∀ y ∈ x.kids, rtOK y := fun x hx => h2 x (by simp [hx])
    cases b with
    | false => rw [rtTs_no] at h; cases h
    | true =>
      cases hn : (nine && late) with
      | false =>
        rw [rtTs_kid hn] at h ⊢
        have hy : (rtT y).2 = true := by
          cases e : (rtT y).2 with
          | true => rfl
          | false => rw [e, rtTs_no] at h; cases h
        have hc := hcs hn
        subst hc
        have ey := h1 y (by simp) hy ho.1
        rw [ihl _ _ _ _ h1' h2' ho.2 h (by simp) (fun _ => rfl), itTs_app, Xf, Xf, ey, Y9]
        simp
      | true =>
        by_cases hg : y.kind = 20 ∧ y.num = 0 ∧ y.text = ⟨#[]⟩ ∧ y.kids.length = 2
        · obtain ⟨g1, g2, g3, g4⟩ := hg
          rw [rtTs_case hn g1 g2 g3 g4] at h ⊢
          have hb : ((rpP y.kids[0]).2 && (rtT y.kids[1]).2) = true := by
            cases e : ((rpP y.kids[0]).2 && (rtT y.kids[1]).2) with
            | true => rfl
            | false => rw [e, rtTs_no] at h; cases h
          rw [Bool.and_eq_true] at hb
          have ey := it_case g1 g2 g3 g4
          have hoy := ho.1
          have hok : okIs y.kids := by cases y; rw [okI] at hoy; exact hoy.2
          have ea := rp_is _ hb.1 (okIs_mem hok _ (List.getElem_mem (by omega)))
          have eb := h2 y (by simp) y.kids[1] (List.getElem_mem (by omega)) hb.2 (okIs_mem hok _ (List.getElem_mem (by omega)))
          have e3 : It.mk 20 0 ⟨#[]⟩ [y.kids[0], y.kids[1]] = y := ey.symm
          rw [ihl _ _ _ _ h1' h2' ho.2 h (fun z => by cases z) (fun z => by
            have : nine = true := by cases nine with
              | true => rfl
              | false => cases hn
            rw [this] at z; cases z), itCs_app, Y9, Y9, ea, eb, e3]
          simp
        · rw [rtTs_bad hn hg] at h; cases h
theorem rt_all (x : It) : rtOK x ∧ ∀ y ∈ x.kids, rtOK y := by
  induction x using It.ind with
  | h k m t kids ih =>
    refine ⟨?_, fun y hy => (ih y hy).1⟩
    intro h hk
    rw [okI] at hk
    rw [rtT] at h ⊢
    have hw : (if ZG k = true then (YQ t).2 else decide (t = ⟨#[]⟩)) = true := by
      cases e : (if ZG k = true then (YQ t).2 else decide (t = ⟨#[]⟩)) with
      | true => rfl
      | false => rw [e] at h; simp only at h; rw [rtTs_no] at h; cases h
    rw [hw] at h ⊢
    simp only at h ⊢
    rw [itT, rtTs_is kids _ _ _ _ (fun y hy => (ih y hy).1) (fun y hy => (ih y hy).2) hk.2 h (fun _ => rfl) (fun _ => rfl), Xf, Y9]
    by_cases h3 : ZG k = true
    · rw [if_pos h3] at hw; simp only [if_pos h3]; rw [dig_tx hw]; rfl
    · rw [if_neg h3] at hw; simp only [if_neg h3]; rw [of_decide_eq_true hw]; rfl
/-- what is read well is the term of which this is the item -/
theorem rt_is (x : It) (h : (rtT x).2 = true) (hk : okI x) : itT (rtT x).1 = x := (rt_all x).1 h hk
end Go.Proofs.YtkjafeejpmcnkaaGreat.Hs
/-! Right terms are read from their items by the reference too; both answers are the same. -/
namespace Go.Proofs.YtkjafeejpmcnkaaGreat.Hs
open Go Go.Proofs
/-! how many items, how deep, as far as a number -/
mutual
def exI : Int → It → Int × Int
  | m, .mk _ _ _ kids => ((exIs m kids 1 0).1, (exIs m kids 1 0).2 + 1)
def exIs : Int → List It → Int → Int → Int × Int
  | _, [], n, d => (n, d)
  | m, x :: l, n, d => if n ≤ m then exIs m l (n + (exI (m - 1) x).1) (max d (exI (m - 1) x).2) else (n, d)
end
mutual
def dpI : It → Int
  | .mk _ _ _ kids => 1 + dpIs kids
def dpIs : List It → Int
  | [] => 0
  | x :: l => max (dpI x) (dpIs l)
end
theorem dpIs_nn (l : List It) : 0 ≤ dpIs l := by
  induction l with
  | nil => rw [dpIs]; omega
  | cons x l ih => rw [dpIs]; omega
theorem exI_le (x : It) : ∀ m : Int, 1 ≤ (exI m x).1 ∧ (exI m x).1 ≤ szI x ∧ 1 ≤ (exI m x).2 ∧ (exI m x).2 ≤ dpI x := by
  induction x using It.ind with
  | h k n t kids ih =>
    intro m
    rw [exI, szI, dpI]
    have hK : ∀ (l : List It) (n d : Int), (∀ x ∈ l, ∀ m : Int, 1 ≤ (exI m x).1 ∧ (exI m x).1 ≤ szI x ∧ 1 ≤ (exI m x).2 ∧ (exI m x).2 ≤ dpI x) → n ≤ (exIs m l n d).1 ∧ (exIs m l n d).1 ≤ n + Z3 l ∧ d ≤ (exIs m l n d).2 ∧ (exIs m l n d).2 ≤ max d (dpIs l) := by
      intro l
      induction l with
      | nil => intro n d _; rw [exIs, Z3, dpIs]; simp only; omega
      | cons x l ihl =>
        intro n d hl
        rw [exIs, Z3, dpIs]
        have h1 := hl x (by simp) (m - 1)
        split
        · have := ihl (n + (exI (m - 1) x).1) (max d (exI (m - 1) x).2) (fun y hy => hl y (by simp [hy]))
          omega
        · simp only; omega
    have := hK kids 1 0 ih
    have h2 := dpIs_nn kids
    simp only
    omega
theorem szP_it (p : Pt) : (szI (itP p) : Int) = sizeP p ∧ dpI (itP p) = depP p := by
  induction p using Pt.ind with
  | h k n r kids ih =>
    rw [itP, szI, dpI, sizeP, depP]
    have hK : ∀ l : List Pt, (∀ x ∈ l, (szI (itP x) : Int) = sizeP x ∧ dpI (itP x) = depP x) → (Z3 (itPs l) : Int) = ZR l ∧ dpIs (itPs l) = Xt l := by
      intro l
      induction l with
      | nil => intro _; rw [itPs, Z3, dpIs, ZR, Xt]; simp
      | cons x l ihl =>
        intro hl
        have h1 := hl x (by simp)
        have h2 := ihl (fun y hy => hl y (by simp [hy]))
        rw [itPs, Z3, dpIs, ZR, Xt]
        omega
    have := hK kids ih
    omega
theorem szIs_app (a b : List It) : Z3 (a ++ b) = Z3 a + Z3 b := by
  induction a with
  | nil => rw [Z3]; simp
  | cons x a ih => rw [List.cons_append, Z3, Z3, ih]; omega
theorem dpIs_app (a b : List It) : dpIs (a ++ b) = max (dpIs a) (dpIs b) := by
  induction a with
  | nil => rw [dpIs]; have := dpIs_nn b; simp only [List.nil_append]; omega
  | cons x a ih => rw [List.cons_append, dpIs, dpIs, ih]; omega
theorem szT_it (t : Tm) : (szI (itT t) : Int) ≤ 2 * sizeT t ∧ dpI (itT t) ≤ 2 * depT t := by
  induction t using Tm.ind with
  | h k n r kids cases ih ih' =>
    rw [itT, szI, dpI, sizeT, depT, szIs_app, dpIs_app]
    have hK : ∀ l : List Tm, (∀ x ∈ l, (szI (itT x) : Int) ≤ 2 * sizeT x ∧ dpI (itT x) ≤ 2 * depT x) → (Z3 (Xf l) : Int) ≤ 2 * ZC l ∧ dpIs (Xf l) ≤ 2 * depTs l := by
      intro l
      induction l with
      | nil => intro _; rw [Xf, Z3, dpIs, ZC, depTs]; simp
      | cons x l ihl =>
        intro hl
        have h1 := hl x (by simp)
        have h2 := ihl (fun y hy => hl y (by simp [hy]))
        rw [Xf, Z3, dpIs, ZC, depTs]
        omega
    have hC : ∀ l : List (Pt × Tm), (∀ c ∈ l, (szI (itT c.2) : Int) ≤ 2 * sizeT c.2 ∧ dpI (itT c.2) ≤ 2 * depT c.2) → (Z3 (Y9 l) : Int) ≤ 2 * ZJ l ∧ dpIs (Y9 l) ≤ 2 * depCs l + 1 := by
      intro l
      induction l with
      | nil => intro _; rw [Y9, Z3, dpIs, ZJ, depCs]; simp
      | cons c l ihl =>
        intro hl
        obtain ⟨p, x⟩ := c
        have h1 := hl (p, x) (by simp)
        have h2 := ihl (fun y hy => hl y (by simp [hy]))
        have h3 := szP_it p
        have h4 := depP_ge p
        have h5 := sizeP_pos p
        simp only at h1
        rw [Y9, Z3, dpIs, ZJ, depCs, szI, dpI, Z3, Z3, Z3, dpIs, dpIs, dpIs]
        omega
    have h1 := hK kids ih
    have h2 := hC cases ih'
    have h3 := depTs_nn kids
    omega
/-! what is right is read -/
theorem dig_of (r : Sm) : YQ (txS r) = (r, true) := by unfold YQ; rw [if_pos (txS_size r), sm_tx]
theorem rp_back (p : Pt) : ∀ d : Int, fitP p d → rpP (itP p) = (p, true) := by
  induction p using Pt.ind with
  | h k m r kids ih =>
    intro d h
    rw [fitP] at h
    obtain ⟨h1, h2, h3, h4⟩ := h
    have hK : ∀ (l : List Pt) (d : Int), (∀ x ∈ l, ∀ d : Int, fitP x d → rpP (itP x) = (x, true)) → fitPs l d → rpPs (itPs l) true = (l, true) := by
      intro l
      induction l with
      | nil => intro d _ _; rw [itPs, rpPs]
      | cons x l ihl =>
        intro d hl hf
        rw [fitPs] at hf
        rw [itPs, rpPs, if_pos rfl, hl x (by simp) d hf.1]
        simp only
        rw [ihl d (fun y hy => hl y (by simp [hy])) hf.2]
    rw [itP, rpP, show Yn (30 + k) = k from (wr30_in (by omega)).trans (by omega)]
    by_cases hk : k = 3
    · simp only [if_pos hk, dig_of]
      rw [hK kids (d + 1) ih h4]
    · simp only [if_neg hk]
      rw [show decide True = true from by simp, hK kids (d + 1) ih h4, h3 hk]
mutual
/-- how a right term is made up -/
def wfT : Tm → Prop
  | .mk k _ _ kids cases => (¬ k = 9 → cases = []) ∧ (k = 9 → kids.length = 1) ∧ wfTs kids ∧ wfCs cases
def wfTs : List Tm → Prop
  | [] => True
  | t :: l => wfT t ∧ wfTs l
def wfCs : List (Pt × Tm) → Prop
  | [] => True
  | (_, t) :: l => wfT t ∧ wfCs l
end
theorem tm_sh {D M : Int} (t : Tm) : ∀ b : Int, Y8 D M b t = 0 → wfT t := by
  induction t using Tm.ind with
  | h k n r kids cases ih ih' =>
    intro b h
    obtain ⟨h1, h2, h3, h4⟩ := nErr_iff.1 h
    have hK : ∀ (l : List Tm) (i : Nat), (∀ x ∈ l, ∀ b : Int, Y8 D M b x = 0 → wfT x) → nErrK D M b k i l = 0 → wfTs l := by
      intro l
      induction l with
      | nil => intro i _ _; rw [wfTs]; trivial
      | cons x l ihl =>
        intro i hl h
        rw [nErrK] at h
        split at h
        · rename_i hx
          rw [wfTs]
          exact ⟨hl x (by simp) _ hx, ihl (i + 1) (fun y hy => hl y (by simp [hy])) h⟩
        · rename_i hx; exact absurd h hx
    have hC : ∀ (l : List (Pt × Tm)), (∀ c ∈ l, ∀ b : Int, Y8 D M b c.2 = 0 → wfT c.2) → nErrC D M b l = 0 → wfCs l := by
      intro l
      induction l with
      | nil => intro _ _; rw [wfCs]; trivial
      | cons c l ihl =>
        intro hl h
        obtain ⟨p, x⟩ := c
        rw [nErrC] at h
        split at h
        · rename_i hx
          rw [wfCs]
          exact ⟨hl (p, x) (by simp) _ hx, ihl (fun y hy => hl y (by simp [hy])) h⟩
        · rename_i hx; exact absurd h hx
    rw [wfT]
    unfold Xd at h1
    split at h1
    · cases h1
    · split at h1
      · cases h1
      · split at h1
        · cases h1
        · rename_i q1 q2 q3
          refine ⟨fun z => ?_, fun z => ?_, hK kids 0 ih h3, hC cases ih' h4⟩
          · have : ¬ 0 < (cases.length : Int) := fun w => q2 (.inr ⟨z, w⟩)
            exact List.eq_nil_of_length_eq_zero (by omega)
          · subst z
            have : loK 9 = 1 ∧ hiK 9 = 1 := by decide
            omega
theorem rt_back (t : Tm) : ∀ d : Int, fitT t d → wfT t → rtT (itT t) = (t, true) := by
  induction t using Tm.ind with
  | h k m r kids cases ih ih' =>
    intro d h hs
    rw [fitT] at h
    rw [wfT] at hs
    obtain ⟨h1, h2, h3, h4, h5⟩ := h
    obtain ⟨s1, s2, s3, s4⟩ := hs
    have hC : ∀ (l : List (Pt × Tm)) (d : Int) (ks : List Tm) (cs : List (Pt × Tm)), (∀ c ∈ l, ∀ d : Int, fitT c.2 d → wfT c.2 → rtT (itT c.2) = (c.2, true)) → fitCs l d → wfCs l → YP true true (Y9 l) ks cs true = ((ks, cs ++ l), true) := by
      intro l
      induction l with
      | nil => intro d ks cs _ _ _; rw [Y9, YP]; simp
      | cons c l ihl =>
        intro d ks cs hl hf hs
        obtain ⟨p, x⟩ := c
        rw [fitCs] at hf
        rw [wfCs] at hs
        have e1 := rp_back p d hf.1.1
        have e2 := hl (p, x) (by simp) d hf.1.2 hs.1
        simp only at e2
        rw [Y9, rtTs_case rfl rfl rfl rfl rfl]
        have e3 : (It.mk 20 0 ⟨#[]⟩ [itP p, itT x]).kids[0]'(by simp [It.kids]) = itP p := rfl
        have e4 : (It.mk 20 0 ⟨#[]⟩ [itP p, itT x]).kids[1]'(by simp [It.kids]) = itT x := rfl
        rw [e3, e4, e1, e2]
        simp only [Bool.and_self]
        rw [ihl d ks _ (fun y hy => hl y (by simp [hy])) hf.2 hs.2]
        simp
    have hK : ∀ (l : List Tm) (late : Bool) (d : Int) (ks : List Tm), (∀ x ∈ l, ∀ d : Int, fitT x d → wfT x → rtT (itT x) = (x, true)) → fitTs l d → wfTs l → YP false late (Xf l) ks [] true = ((ks ++ l, []), true) := by
      intro l
      induction l with
      | nil => intro late d ks _ _ _; rw [Xf, YP]; simp
      | cons x l ihl =>
        intro late d ks hl hf hs
        rw [fitTs] at hf
        rw [wfTs] at hs
        rw [Xf, rtTs_kid rfl, hl x (by simp) d hf.1 hs.1]
        simp only
        rw [ihl true d _ (fun y hy => hl y (by simp [hy])) hf.2 hs.2]
        simp
    have key : YP (decide (k = 9)) false (Xf kids ++ Y9 cases) [] [] true = ((kids, cases), true) := by
      by_cases hk : k = 9
      · rw [show decide (k = 9) = true from by simp [hk]]
        have hl := s2 hk
        obtain ⟨x, rfl⟩ := List.length_eq_one_iff.1 hl
        rw [fitTs] at h4
        rw [wfTs] at s3
        rw [Xf, Xf, List.cons_append, List.nil_append, rtTs_kid rfl, ih x (by simp) _ h4.1 s3.1]
        simp only
        rw [hC cases (d + 1) _ _ ih' h5 s4]
        simp
      · rw [show decide (k = 9) = false from by simp [hk]]
        have hc := s1 hk
        subst hc
        rw [Y9, List.append_nil, hK kids false (d + 1) [] ih h4 s3]
        simp
    rw [itT, rtT]
    by_cases hr : ZG k = true
    · simp only [if_pos hr, dig_of]
      rw [key]
    · simp only [if_neg hr]
      rw [show decide True = true from by simp, key, h3 (by simpa using hr)]
/-- what FromItem of the reference answers -/
noncomputable def fromR (x : It) : Tm × Int :=
  if 1000 < (exI 2000 x).1 ∨ 200 < (exI 2000 x).2 then (zT, 4)
  else if ¬ (rtT x).2 = true ∨ ¬ YB 60 8 (rtT x).1 = 0 then (zT, 4) else ((rtT x).1, 0)
theorem fromR_right {t : Tm} (h : YB 60 8 t = 0) : fromR (itT t) = (t, 0) := by
  obtain ⟨h1, h2⟩ := checkR_iff.1 h
  have h3 : ¬ (300 < sizeT t ∨ 60 < depT t) := fun z => by rw [(longB_eq t).2 z] at h1; cases h1
  have hb := rt_back t 1 (tm_fit t 1 0 h2 (by omega)) (tm_sh t 0 h2)
  have h4 := exI_le (itT t) 2000
  have h5 := szT_it t
  unfold fromR
  rw [if_neg (by omega), hb, if_neg]
  rintro (z | z)
  · exact z rfl
  · exact z h
theorem fromR_is {x : It} (hk : okI x) (h : (fromR x).2 = 0) : itT (fromR x).1 = x ∧ YB 60 8 (fromR x).1 = 0 := by
  unfold fromR at h ⊢
  split at h
  · cases h
  · rename_i hh
    rw [if_neg hh]
    split at h
    · cases h
    · rename_i hh2
      rw [if_neg hh2]
      have h1 : (rtT x).2 = true := Classical.byContradiction fun z => hh2 (.inl z)
      exact ⟨rt_is x h1 hk, Classical.byContradiction fun z => hh2 (.inr z)⟩
theorem from_eq {x : It} (hk : okI x) : fromR x = fromP x := by
  by_cases h : (fromP x).2 = 0
  · obtain ⟨h1, h2⟩ := from_is hk h
    have h3 := fromR_right h2
    have h4 := from_right h2
    rw [h1] at h3 h4
    rw [h3]
    exact h4.symm ▸ rfl
  · by_cases h' : (fromR x).2 = 0
    · obtain ⟨h1, h2⟩ := fromR_is hk h'
      have h4 := from_right h2
      rw [h1] at h4
      rw [h4] at h
      exact absurd rfl h
    · have e1 : fromP x = (zT, 4) := by
        unfold fromP at h ⊢
        split at h
        · rename_i q; rw [if_pos q]
        · exact absurd rfl h
      have e2 : fromR x = (zT, 4) := by
        unfold fromR at h' ⊢
        split at h'
        · rename_i q; rw [if_pos q]
        · rename_i q
          rw [if_neg q]
          split at h'
          · rename_i q2; rw [if_pos q2]
          · exact absurd rfl h'
      rw [e1, e2]
end Go.Proofs.YtkjafeejpmcnkaaGreat.Hs
