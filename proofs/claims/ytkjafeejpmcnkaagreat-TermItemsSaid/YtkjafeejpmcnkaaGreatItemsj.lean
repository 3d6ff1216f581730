import Derived.Test.YtkjafeejpmcnkaaGreatItemsi
/-! Walks, printed by a program of this session's own (gen.py). -/
namespace Go.Proofs.YtkjafeejpmcnkaaGreat.Hs
open Go Go.Proofs
set_option maxRecDepth 100000
set_option linter.unusedVariables false
set_option linter.unusedSimpArgs false
attribute [local irreducible] JL J CT wlo DT
theorem idxI_ct (g : Nat) (fs cv : List Value) (hcall : ∀ args w, (callFunc g args).run Tryz.prog w = .ok (.enter g args) w) (pr : Int → Bool) (l : List Int) (v : Value) (H : Heap) (hl : rdS RI 1 H v l) (hg : ∀ x ∈ l, ∀ h, Hle H h → CT Tryz.prog g ⟨fs ++ [iv x] ++ cv⟩ [] h (fun v N => v = .bool (pr x) ∧ N = [])) : CT Tryz.prog 130 ⟨[v, .func (.func g) ⟨fs⟩ ⟨cv⟩]⟩ [] H (fun v N => v = iv (fstI pr l 0) ∧ N = []) := by
 refine Zm Tryz.func130 rfl rfl <| Zc <| Za <| JLA rfl <| Zb <| Zc <| Zc <| Za <| JLm v ?_
 obtain ⟨a1, cap1, hv1⟩ := hl.sl
 have hle1 := hl.le
 refine JLn (Pu.lenSl Tryz.runUnderlying59 hv1) <| JLM rfl <| Zb <| Zn <| ZB (fun k ρ M => ∃ (j : Nat), ρ 0 = v ∧ ρ 1 = .func (.func g) ⟨fs⟩ ⟨cv⟩ ∧ ρ 4 = iv 0 ∧ ρ 7 = iv ((l.length : Int)) ∧ ρ 8 = iv ((j : Int)) ∧ Sub [] M ∧ j ≤ l.length ∧ fstI pr (l.drop j) j = fstI pr l 0 ∧ k = l.length - j) _ ⟨0, rfl, rfl, rfl, rfl, rfl, Sub.nil, Nat.zero_le _, rfl, rfl⟩ ?_
 rintro _ ρ2 _ ⟨j, e3, e4, e5, e6, e7, hm8, hj, hinv, rfl⟩
 obtain ⟨ρ9, rfl⟩ := Zr (uc e3 (uc e4 (uc e5 (uc e6 (uc e7 un)))))
 clear e3 e4 e5 e6 e7
 refine ZG hm8 <| Zc <| Za <| JLn (Pu.lss rfl rfl) <| Zb <| Zc <| Zg rfl (fun h10 => ?_) (fun h10 => ?_)
 ·replace h10 := dt h10
  have h10n : j < l.length := by omega
  have hlenl := hl.le
  refine Zj <| Zc <| Zn <| Zc <| Za <| JLM rfl <| JLA rfl <| Zb <| Zc <| Za <| JLM rfl <| JLm v <| JLM rfl ?_
  obtain ⟨b11, o11, cap11, row11, T11, fr11, cs11, hv11, hb11, hs11, hE11⟩ := hl.get j (by first | assumption | omega | decide | simp)
  refine JLq (pp b11 (o11 + j * 1)) (Pu.idx j Tryz.runUnderlying59 ty3 hv11 rfl rfl (by first | assumption | omega | decide | simp)) <| JLr (Zd ty3 rfl (At.im hb11) (YX ((show cs11 = [Value.int .i64 (l[j])] from hE11) ▸ hs11)) <| Jc hcall rfl (fun hin => hg _ (List.getElem_mem h10n) _ (Hle.hu _ _)) rfl ?_)
  rintro _ _ ⟨rfl, rfl⟩
  refine Zb <| Zg rfl (fun h12 => ?_) (fun h12 => ?_)
  ·refine Zc <| Za <| JLM rfl <| JLA rfl <| Zb <| Zl <| ⟨iv ((j : Int)), [], Ret.one rfl (RV.tmp rfl), Sub.nil, ?_⟩
   exact ⟨by rw [← hinv, ZW h10n, fstI, if_pos h12], rfl⟩
  refine Zj <| Za <| JLn (Pu.inc rfl rfl (by omega)) <| JLM rfl <| Zb <| ⟨_, ?_, (j + 1), rfl, rfl, rfl, rfl, rfl, Sub.nil, ?_, ?_, rfl⟩
  ·omega
  ·omega
  rw [ZW h10n, fstI, if_neg (by simp [h12])] at hinv; exact hinv
 replace h10 := df h10
 have h10n : l.length ≤ j := by omega
 refine Zz _ rfl <| Zc <| Za <| JLA rfl <| Zb <| Zl <| ⟨iv (-1), [], Ret.one rfl (RV.tmp rfl), Sub.nil, ?_⟩
 exact ⟨by rw [← hinv, YL h10n]; rfl, rfl⟩
theorem containsI_ct (g : Nat) (fs cv : List Value) (hcall : ∀ args w, (callFunc g args).run Tryz.prog w = .ok (.enter g args) w) (pr : Int → Bool) (l : List Int) (v : Value) (H : Heap) (hl : rdS RI 1 H v l) (hg : ∀ x ∈ l, ∀ h, Hle H h → CT Tryz.prog g ⟨fs ++ [iv x] ++ cv⟩ [] h (fun v N => v = .bool (pr x) ∧ N = [])) : CT Tryz.prog 108 ⟨[v, .func (.func g) ⟨fs⟩ ⟨cv⟩]⟩ [] H (fun v N => v = .bool (l.any pr) ∧ N = []) := by
 refine Zm Tryz.func108 rfl rfl <| Zc <| Za <| JLA rfl <| Zb <| Zc <| Za <| JLm v <| JLM rfl <| Jc Tryz.call130 rfl (fun hin => idxI_ct g fs cv hcall pr _ _ _ (RIs.mono (Hle.hu _ _) hl) (fun x hx h hh => hg x hx h (Hle.trans (Hle.hu _ _) hh))) rfl ?_
 rintro _ _ ⟨rfl, rfl⟩
 refine JLn (Pu.geq rfl rfl) <| JLA rfl <| Zb <| Zl <| ⟨.bool (decide (0 ≤ fstI pr l 0)), [], Ret.one rfl (RV.tmp rfl), Sub.nil, ?_⟩
 exact ⟨by rw [← fstI_any pr l 0], rfl⟩
theorem every1_ct (g : Nat) (fs cv : List Value) (hcall : ∀ args w, (callFunc g args).run Tryz.prog w = .ok (.enter g args) w) (pr : Int → Bool) (x : Int) (H : Heap) (bP : Nat) (hP : H bP = some (.cells ⟨[.func (.func g) ⟨fs⟩ ⟨cv⟩]⟩ 91 (0, 0))) (hg : ∀ h, Hle H h → CT Tryz.prog g ⟨fs ++ [iv x] ++ cv⟩ [] h (fun v N => v = .bool (pr x) ∧ N = [])) : CT Tryz.prog 109 ⟨[iv x, pp bP 0]⟩ [] H (fun v N => v = .bool (!pr x) ∧ N = []) := by
 refine Zm Tryz.func109 rfl rfl <| Zc <| Za <| JLA rfl <| Zb <| Zc <| Za <| JLr (Zd ty91 rfl (At.im hP) rfl <| JLM rfl <| Jc hcall rfl (fun hin => hg _ (Hle.hu _ _)) rfl ?_)
 rintro _ _ ⟨rfl, rfl⟩
 refine JLn (Pu.not rfl) <| JLA rfl <| Zb <| Zl <| ⟨.bool (!(pr x)), [], Ret.one rfl (RV.tmp rfl), Sub.nil, ?_⟩
 exact ⟨rfl, rfl⟩
theorem every_ct (g : Nat) (fs cv : List Value) (hcall : ∀ args w, (callFunc g args).run Tryz.prog w = .ok (.enter g args) w) (pr : Int → Bool) (l : List Int) (v : Value) (H : Heap) (hl : rdS RI 1 H v l) (hg : ∀ x ∈ l, ∀ h, Hle H h → CT Tryz.prog g ⟨fs ++ [iv x] ++ cv⟩ [] h (fun v N => v = .bool (pr x) ∧ N = [])) : CT Tryz.prog 72 ⟨[v, .func (.func g) ⟨fs⟩ ⟨cv⟩]⟩ [] H (fun v N => v = .bool (l.all pr) ∧ N = []) := by
 refine Zm Tryz.func72 rfl rfl <| Zc <| Za <| JLr (Zq (l := [.func (.func g) ⟨fs⟩ ⟨cv⟩]) rfl rfl fun b1 => JLA rfl <| Zb <| Zc <| Za <| JLm v <| JLq (.func (.func 109) ⟨[]⟩ ⟨[pp b1 0]⟩) (Pu.makeFunc rfl rfl) <| Jc Tryz.call108 rfl (fun hin => containsI_ct 109 [] [pp b1 0] Tryz.call109 (fun x => !pr x) _ _ _ (RIs.mono (Hle.hu _ _) hl) (fun x hx h hh => every1_ct g fs cv hcall pr x h b1 (hh _ _ (hin 0 _ rfl _ _ List.mem_cons_self)) (fun h2 hh2 => hg x hx h2 (Hle.trans (Hle.trans (Hle.hu _ _) hh) hh2)))) rfl ?_)
 rintro _ _ ⟨rfl, rfl⟩
 refine JLn (Pu.not rfl) <| JLA rfl <| Zb <| Zl <| ⟨.bool (!(l.any (fun x => !pr x))), [], Ret.one rfl (RV.tmp rfl), Sub.nil, ?_⟩
 exact ⟨by simp [List.not_any_eq_all_not], rfl⟩
theorem shiftO_ct (n dy fr : Int) (H : Heap) (bF bD : Nat) (hF : H bF = some (.cells ⟨[iv fr]⟩ 3 (0, 0))) (hD : H bD = some (.cells ⟨[iv dy]⟩ 3 (0, 0))) (hn0 : 0 ≤ n) (hn1 : n ≤ 60) (hd0 : -60 ≤ dy) (hd1 : dy ≤ 60) : CT Tryz.prog 73 ⟨[iv n, pp bF 0, pp bD 0]⟩ [] H (fun v N => v = .bool (mvOk dy fr n) ∧ N = []) := by
 refine Zm Tryz.func73 rfl rfl <| Zc <| Za <| JLA rfl <| Zb <| Zc <| Za <| JLM rfl <| JLr (Zd ty3 rfl (At.im hF) rfl <| JLn (Pu.lss rfl rfl) <| JLM rfl ?_)
 cases h1 : (decide (n < fr)) with
 | true =>
  replace h1 := dt h1
  iterate 6 refine ZD rfl ?_
  refine JLq (.bool true) (Pu.pickT rfl rfl) <| JLA rfl <| Zb <| Zl <| ⟨.bool true, [], Ret.one rfl (RV.tmp rfl), Sub.nil, ?_⟩
  exact ⟨by simp only [mvOk]; simp_all <;> omega, rfl⟩
 | false =>
  replace h1 := df h1
  refine JLM rfl <| JLr (Zd ty3 rfl (At.im hD) rfl <| JLn (Pu.add64 rfl rfl (by first | omega | (constructor <;> omega))) <| JLr (Zd ty3 rfl (At.im hF) rfl <| Jc Tryz.call65 rfl (fun hin => YO _ _ _ _) rfl ?_))
  rintro _ _ ⟨rfl, rfl⟩
  refine JLn (Pu.not rfl) <| JLq (.bool (!(decide (n + dy < fr ∨ 59 < n + dy)))) (Pu.pickF rfl rfl) <| JLA rfl <| Zb <| Zl <| ⟨.bool (!(decide (n + dy < fr ∨ 59 < n + dy))), [], Ret.one rfl (RV.tmp rfl), Sub.nil, ?_⟩
  exact ⟨by simp only [mvOk]; simp_all <;> omega, rfl⟩
theorem freeV_ct (n b : Int) (s : List Int) (r : Nat) (H : Heap) (bM : Nat) (hM : H bM = some (.cells ⟨[.map (some r)]⟩ 161 (0, 0))) (hn0 : 0 ≤ n) (hn1 : n ≤ 2000000) (hb0 : 0 ≤ b) (hb1 : b ≤ 2000000) : CT Tryz.prog 103 ⟨[iv n, iv b, pp bM 0]⟩ [metC r s] H (fun v N => ∃ cs k, v = .agg ⟨cs⟩ ∧ N = [k, metC r (metV n b s).2] ∧ OT (metV n b s).1 cs k) := by
 refine Zm Tryz.func103 rfl rfl <| Zc <| Za <| JLr (Zk (l := pkT 0 0 zS nS nS) Tryz.zeroValue30 rfl fun b1 => Zb <| Zc <| Za <| JLr (Zd ty161 rfl (At.im hM) rfl <| JLM rfl <| JLr (Runs_mapUpdate (i := 1) Tryz.underlying161 Tryz.underlying3 rfl rfl rfl rfl <| Zb <| Zc <| Za ?_)))
 refine JLM rfl <| JLM rfl <| Jc Tryz.call69 rfl (fun hin => stay_ct _ _ _ (by unfold inI; omega)) rfl ?_
 rintro _ _ ⟨cs2, k2, rfl, rfl, hO2⟩
 refine JLr (Ze 1 (vs := cs2) (l := cs2) Zt rfl rfl rfl rfl hO2.len hO2.ok (ZK (n := 36) rfl hO2.len) <| Zb <| Zl <| ⟨.agg ⟨cs2⟩, [k2, metC r (addK s n)], Ret.one rfl (RV.cell Zt rfl (At.bx 1 rfl) (Zs hO2.len)), (Sk (Sd (Sk Sub.nil))), ?_⟩)
 exact ⟨_, _, rfl, rfl, hO2⟩
theorem freeP_ct (t : Tm) (cs : List Value) (H : Heap) (ht : RT H cs t) (hz : sizeT t ≤ 900000) (hv : vOK t) : CT Tryz.prog 64 ⟨[.agg ⟨cs⟩]⟩ [] H (fun v N => ∃ u k, v = u ∧ N = [k] ∧ Own 3 1 u (ints (freeP t)) k) := by
 refine Zm Tryz.func64 rfl rfl <| Zc <| Za <| JLr (Zq (l := cs) rfl rfl fun b1 => JLA rfl <| Zb <| Zc <| Za <| JLr (Runs_makeMap fun r2 => JLr (Zk (l := [.map none]) Tryz.zeroValue161 rfl fun b3 => JLr (Ze 0 (vs := [.map (some r2)]) (l := [.map (some r2)]) ty161 rfl rfl rfl rfl rfl (Zf rfl Zo) rfl <| Zb <| Zc ?_))))
 refine Za <| JLq (.func (.func 103) ⟨[]⟩ ⟨[pp b3 0]⟩) (Pu.makeFunc rfl rfl) <| JLq (.agg ⟨[.func (.func 103) ⟨[]⟩ ⟨[pp b3 0]⟩, .func (.func 70) ⟨[]⟩ ⟨[]⟩]⟩) (Pu.build (pv := [(0, .func (.func 103) ⟨[]⟩ ⟨[pp b3 0]⟩), (1, .func (.func 70) ⟨[]⟩ ⟨[]⟩)]) (l := [.func (.func 103) ⟨[]⟩ ⟨[pp b3 0]⟩, .func (.func 70) ⟨[]⟩ ⟨[]⟩]) rfl (bld118_0_1 _ _ _ _ _ _)) <| JLr (Zh Zt rfl (At.bx 2 rfl) (Zs (Zu ht)) <| ZA 1 rfl Tryz.call71 rfl rfl (fun hin => mapTerm_ct 70 [] [] Tryz.call70 (fun s => s) 103 [] [pp b3 0] Tryz.call103 (List Int) (metC r2) (fun _ => True) metV (fun _ _ _ _ => trivial) _ _ _ _ _ (RT.mono (Hle.hu _ _) ht) (by omega) hv (by decide) (by omega) trivial (fun s h hh => same_ct s h) (fun n b s h hh _ h1 h2 h3 h4 => freeV_ct n b s r2 h b3 (hh _ _ (hin 0 _ rfl _ _ List.mem_cons_self)) h1 h2 h3 h4)) rfl ?_)
 rintro _ _ ⟨cs4, k4, rfl, rfl, hO4⟩
 refine Zb <| Zc <| Za <| JLA rfl <| Zb <| Zc <| Zc <| Za <| JLM rfl <| Zb <| Zn <| ZB (fun k ρ M => ∃ (j : Nat) (v : Value) (k1 : Zi), ρ 2 = nS ∧ ρ 3 = pp b3 0 ∧ ρ 4 = v ∧ ρ 11 = iv ((j : Int)) ∧ Sub [k1, metC r2 (metT t), (BX b3 [.map (some r2)] 161)] M ∧ j ≤ 60 ∧ Own 3 1 v (ints (upTo (metF (metT t)) j)) k1 ∧ k = 60 - j) _ ⟨0, nS, [], rfl, rfl, rfl, rfl, (Sub.emp (Sd (Sk (Sk Sub.nil)))), Nat.zero_le _, Own.nil, rfl⟩ ?_
 rintro _ ρ5 _ ⟨j, v, k1, e6, e7, e8, e9, hm10, hj, ho, rfl⟩
 obtain ⟨ρ11, rfl⟩ := Zr (uc e6 (uc e7 (uc e8 (uc e9 un))))
 clear e6 e7 e8 e9
 refine ZG hm10 <| Zc <| Za <| JLn (Pu.lss rfl rfl) <| Zb <| Zc <| Zg rfl (fun h12 => ?_) (fun h12 => ?_)
 ·replace h12 := dt h12
  have h12n : j < 60 := by omega
  have hul := upTo_len (metF (metT t)) j
  have hil := ints_len (upTo (metF (metT t)) j)
  have hge := metF_get (metT t) j h12n
  refine Zj <| Zc <| Zn <| Zc <| Za <| JLM rfl <| JLA rfl <| Zb <| Zc <| Za <| JLr (Zd ty161 rfl (At.bx 2 rfl) rfl <| JLM rfl <| JLr (Runs_lookup (i := 1) Tryz.underlying161 Tryz.underlying3 Tryz.zeroValue4 rfl rfl rfl ?_))
  refine Zb <| Zg rfl (fun h13 => ?_) (fun h13 => ?_)
  ·replace h13 := dt h13
   refine Za <| JLm v <| JLM rfl <| JLr (Zp (vs := [iv ((j : Int))]) [[iv ((j : Int))]] Tryz.runUnderlying59 el3 rfl rfl (by intro e he; simp only [List.mem_cons, List.not_mem_nil, or_false] at he; subst he; exact rfl) rfl (by decide) fun b14 k14 ho14 hk14 => ?_)
   have hlens15 : ∀ e ∈ ([[iv ((j : Int))]] : List (List Value)), List.length e = 1 := by
    intro e he; simp only [List.mem_cons, List.not_mem_nil, or_false] at he
    rcases he with rfl
    ·exact rfl
   have hoks15 : ∀ e ∈ ([[iv ((j : Int))]] : List (List Value)), okc e := by
    intro e he; simp only [List.mem_cons, List.not_mem_nil, or_false] at he
    rcases he with rfl
    ·exact (Zf rfl Zo)
   refine JLr (Zx (i := 1) (n := 1) (es' := [[iv ((j : Int))]]) Tryz.runUnderlying59 Tryz.runUnderlying59 (Or.inl rfl) el3 rfl rfl rfl ho (fun F w m => Src.row (((At.k 0 rfl (by rw [hk14]; exact List.mem_cons_self))).heap m) (Zs (Zw hlens15))) rfl hlens15 hoks15 (by decide) (by omega) fun v15 k15 ho15 => JLa v15 <| Zb <| Za <| JLn (Pu.inc rfl rfl (by omega)) <| JLM rfl <| Zb <| ⟨_, ?_, (j + 1), v15, k15, rfl, rfl, rfl, rfl, (Sd (Sk (Sk (Sk Sub.nil)))), ?_, ?_, rfl⟩)
   ·omega
   ·omega
   rw [upTo_succ, hge, if_pos (by simp [h13]), ints_snoc]; exact ho15
  replace h13 := df h13
  refine Zj <| Za <| JLn (Pu.inc rfl rfl (by omega)) <| JLM rfl <| Zb <| ⟨_, ?_, (j + 1), v, k1, rfl, rfl, rfl, rfl, (Sk (Sk (Sk Sub.nil))), ?_, ?_, rfl⟩
  ·omega
  ·omega
  rw [upTo_succ, hge, if_neg (by simp [h13])]; exact ho
 replace h12 := df h12
 have h12n : 60 ≤ j := by omega
 refine Zz _ rfl <| Zc <| Za <| JLm v <| JLa v <| Zb <| Zl <| ⟨v, [k1], Ret.one rfl (RV.tmp rfl), (Sk Sub.nil), ?_⟩
 obtain rfl : j = 60 := by omega
 exact ⟨v, k1, rfl, rfl, ho⟩
end Go.Proofs.YtkjafeejpmcnkaaGreat.Hs
/-! The mapper without a state. -/
namespace Go.Proofs.YtkjafeejpmcnkaaGreat.Hs
open Go Go.Proofs
set_option maxRecDepth 100000

theorem CT.nils {P : Program} {f : FuncId} {a : Array Value} {H : Heap} {t : Tm} (h : CT P f a [] H (fun v N => ∃ cs k, v = .agg ⟨cs⟩ ∧ N = [k] ∧ OT t cs k)) :
    CT P f a [[]] H (fun v N => ∃ cs k, v = .agg ⟨cs⟩ ∧ N = [k, []] ∧ OT t cs k) := fun F w m => by
  refine (h F w (by simpa using m)).mono ?_
  rintro e w' ⟨v, N, h1, h2, cs, k, h3, h4, h5⟩
  subst h4
  exact ⟨v, [k, []], h1, by simpa using h2, cs, k, h3, rfl, h5⟩
theorem CT.unnils {P : Program} {f : FuncId} {a : Array Value} {H : Heap} {t : Tm} (h : CT P f a [[]] H (fun v N => ∃ cs k, v = .agg ⟨cs⟩ ∧ N = [k, []] ∧ OT t cs k)) :
    CT P f a [] H (fun v N => ∃ cs k, v = .agg ⟨cs⟩ ∧ N = [k] ∧ OT t cs k) := fun F w m => by
  refine (h F w (by simpa using m)).mono ?_
  rintro e w' ⟨v, N, h1, h2, cs, k, h3, h4, h5⟩
  subst h4
  exact ⟨v, [k], h1, by simpa using h2, cs, k, h3, rfl, h5⟩

theorem mapTermP_ct (gr : Nat) (frs crs : List Value) (hcallr : ∀ args w, (callFunc gr args).run Tryz.prog w = .ok (.enter gr args) w) (rf : Sm → Sm) (gv : Nat) (fvs cvs : List Value) (hcallv : ∀ args w, (callFunc gv args).run Tryz.prog w = .ok (.enter gv args) w)
    (vf : Int → Int → Tm) (t : Tm) (b : Int) (cs : List Value) (H : Heap) (ht : RT H cs t) (hz : sizeT t ≤ 1000000) (hv : vOK t) (hb0 : 0 ≤ b) (hb : b + 2 * sizeT t ≤ 2000000)
    (hgr : ∀ s h, Hle H h → CT Tryz.prog gr ⟨frs ++ [.agg ⟨sC s⟩] ++ crs⟩ [] h (fun v N => v = .agg ⟨sC (rf s)⟩ ∧ N = []))
    (hgv : ∀ (n b : Int) (h : Heap), Hle H h → 0 ≤ n → n ≤ 2000000 → 0 ≤ b → b ≤ 2000000 → CT Tryz.prog gv ⟨fvs ++ [.int .i64 n, .int .i64 b] ++ cvs⟩ [] h (fun v N => ∃ cs k, v = .agg ⟨cs⟩ ∧ N = [k] ∧ OT (vf n b) cs k)) :
    CT Tryz.prog 71 ⟨[.agg ⟨[.func (.func gv) ⟨fvs⟩ ⟨cvs⟩, .func (.func gr) ⟨frs⟩ ⟨crs⟩]⟩, .agg ⟨cs⟩, .int .i64 b]⟩ [] H (fun v N => ∃ cs k, v = .agg ⟨cs⟩ ∧ N = [k] ∧ OT (mapQ rf vf b t) cs k) :=
  CT.unnils (mapTerm_ct gr frs crs hcallr rf gv fvs cvs hcallv Unit (fun _ => []) (fun _ => True) (fun n b s => (vf n b, s)) (fun _ _ _ _ => trivial) t b () cs H ht hz hv hb0 hb trivial hgr
    (fun n b _ h hh _ h1 h2 h3 h4 => CT.nils (hgv n b h hh h1 h2 h3 h4)))
end Go.Proofs.YtkjafeejpmcnkaaGreat.Hs
/-! Walks, printed by a program of this session's own (gen.py). -/
namespace Go.Proofs.YtkjafeejpmcnkaaGreat.Hs
open Go Go.Proofs
set_option maxRecDepth 100000
set_option linter.unusedVariables false
set_option linter.unusedSimpArgs false
attribute [local irreducible] JL J CT wlo DT
theorem shiftedV_ct (n b dy fr : Int) (H : Heap) (bF bD : Nat) (hF : H bF = some (.cells ⟨[iv fr]⟩ 3 (0, 0))) (hD : H bD = some (.cells ⟨[iv dy]⟩ 3 (0, 0))) (hn0 : 0 ≤ n) (hn1 : n ≤ 2000000) (hb0 : 0 ≤ b) (hb1 : b ≤ 2000000) (hd0 : -2000000 ≤ dy) (hd1 : dy ≤ 2000000) : CT Tryz.prog 104 ⟨[iv n, iv b, pp bF 0, pp bD 0]⟩ [] H (fun v N => ∃ cs k, v = .agg ⟨cs⟩ ∧ N = [k] ∧ OT (shv dy fr n b) cs k) := by
 refine Zm Tryz.func104 rfl rfl <| Zc <| Za <| JLr (Zk (l := pkT 0 0 zS nS nS) Tryz.zeroValue30 rfl fun b1 => Zb <| Zc <| Zc <| Za <| JLM rfl <| JLr (Zd ty3 rfl (At.im hF) rfl <| JLn (Pu.geq rfl rfl) <| Zb <| Zg rfl (fun h2 => ?_) (fun h2 => ?_)))
 ·replace h2 := dt h2
  refine Za <| JLM rfl <| JLr (Zd ty3 rfl (At.im hD) rfl <| JLn (Pu.add64 rfl rfl (by first | omega | (constructor <;> omega))) <| JLA rfl <| Zb <| Zc <| Za <| JLM rfl <| JLM rfl <| Jc Tryz.call69 rfl (fun hin => stay_ct _ _ _ (by unfold inI; omega)) rfl ?_)
  rintro _ _ ⟨cs3, k3, rfl, rfl, hO3⟩
  refine JLr (Ze 1 (vs := cs3) (l := cs3) Zt rfl rfl rfl rfl hO3.len hO3.ok (ZK (n := 36) rfl hO3.len) <| Zb <| Zl <| ⟨.agg ⟨cs3⟩, [k3], Ret.one rfl (RV.cell Zt rfl (At.bx 1 rfl) (Zs hO3.len)), (Sk Sub.nil), ?_⟩)
  have hx : shv dy fr n b = .mk 1 (n + dy + b) zS [] [] := by first | rfl | (simp only [shv]; (repeat' split) <;> first | rfl | (exfalso; omega))
  exact ⟨_, _, rfl, rfl, by rw [hx]; exact hO3⟩
 replace h2 := df h2
 refine Zj <| Zc <| Za <| JLM rfl <| JLM rfl <| Jc Tryz.call69 rfl (fun hin => stay_ct _ _ _ (by unfold inI; omega)) rfl ?_
 rintro _ _ ⟨cs4, k4, rfl, rfl, hO4⟩
 refine JLr (Ze 1 (vs := cs4) (l := cs4) Zt rfl rfl rfl rfl hO4.len hO4.ok (ZK (n := 36) rfl hO4.len) <| Zb <| Zl <| ⟨.agg ⟨cs4⟩, [k4], Ret.one rfl (RV.cell Zt rfl (At.bx 1 rfl) (Zs hO4.len)), (Sk Sub.nil), ?_⟩)
 have hx : shv dy fr n b = .mk 1 (n + b) zS [] [] := by first | rfl | (simp only [shv]; (repeat' split) <;> first | rfl | (exfalso; omega))
 exact ⟨_, _, rfl, rfl, by rw [hx]; exact hO4⟩
theorem shifted_ct (t : Tm) (dy fr : Int) (cs : List Value) (H : Heap) (ht : RT H cs t) (hz : sizeT t ≤ 900000) (hv : vOK t) (hd0 : -2000000 ≤ dy) (hd1 : dy ≤ 2000000) : CT Tryz.prog 68 ⟨[.agg ⟨cs⟩, iv dy, iv fr]⟩ [] H (fun v N => ∃ cs k, v = .agg ⟨cs⟩ ∧ N = [k] ∧ OT (shT dy fr t) cs k) := by
 refine Zm Tryz.func68 rfl rfl <| Zc <| Za <| JLr (Zq (l := cs) rfl rfl fun b1 => JLr (Zq (l := [iv dy]) rfl rfl fun b2 => JLr (Zq (l := [iv fr]) rfl rfl fun b3 => JLr (Zk (l := pkT 0 0 zS nS nS) Tryz.zeroValue30 rfl fun b4 => Zb <| Zc <| Za <| JLq (.func (.func 104) ⟨[]⟩ ⟨[pp b3 0, pp b2 0]⟩) (Pu.makeFunc rfl rfl) <| JLq (.agg ⟨[.func (.func 104) ⟨[]⟩ ⟨[pp b3 0, pp b2 0]⟩, .func (.func 70) ⟨[]⟩ ⟨[]⟩]⟩) (Pu.build (pv := [(0, .func (.func 104) ⟨[]⟩ ⟨[pp b3 0, pp b2 0]⟩), (1, .func (.func 70) ⟨[]⟩ ⟨[]⟩)]) (l := [.func (.func 104) ⟨[]⟩ ⟨[pp b3 0, pp b2 0]⟩, .func (.func 70) ⟨[]⟩ ⟨[]⟩]) rfl (bld118_0_1 _ _ _ _ _ _)) <| JLr (Zh Zt rfl (At.bx 3 rfl) (Zs (Zu ht)) ?_)))))
 refine Jc Tryz.call71 rfl (fun hin => mapTermP_ct 70 [] [] Tryz.call70 (fun s => s) 104 [] [pp b3 0, pp b2 0] Tryz.call104 (shv dy fr) _ _ _ _ (RT.mono (Hle.hu _ _) ht) (by omega) hv (by decide) (by omega) (fun s h hh => same_ct s h) (fun n b h hh h1 h2 h3 h4 => shiftedV_ct n b dy fr h b3 b2 (hh _ _ (hin 1 _ rfl _ _ List.mem_cons_self)) (hh _ _ (hin 2 _ rfl _ _ List.mem_cons_self)) h1 h2 h3 h4 hd0 hd1)) rfl ?_
 rintro _ _ ⟨cs5, k5, rfl, rfl, hO5⟩
 refine JLr (Ze 1 (vs := cs5) (l := cs5) Zt rfl rfl rfl rfl hO5.len hO5.ok (ZK (n := 36) rfl hO5.len) <| Zb <| Zl <| ⟨.agg ⟨cs5⟩, [k5], Ret.one rfl (RV.cell Zt rfl (At.bx 1 rfl) (Zs hO5.len)), (Sk Sub.nil), ?_⟩)
 have hx : shT dy fr t = mapQ (fun s => s) (shv dy fr) 0 t := by first | rfl | (simp only [shT]; (repeat' split) <;> first | rfl | (exfalso; omega))
 exact ⟨_, _, rfl, rfl, by rw [hx]; exact hO5⟩
theorem substV_ct (n b m : Int) (u : Tm) (us : List Value) (H : Heap) (bN bU : Nat) (hN : H bN = some (.cells ⟨[iv m]⟩ 3 (0, 0))) (hU : H bU = some (.cells ⟨us⟩ 30 (0, 0))) (hu1 : RT H us u) (hzu : sizeT u ≤ 900000) (hvu : vOK u) (hn0 : 0 ≤ n) (hn1 : n ≤ 2000000) (hb0 : 0 ≤ b) (hb1 : b ≤ 2000000) : CT Tryz.prog 67 ⟨[iv n, iv b, pp bN 0, pp bU 0]⟩ [] H (fun v N => ∃ cs k, v = .agg ⟨cs⟩ ∧ N = [k] ∧ OT (sbv m u n b) cs k) := by
 refine Zm Tryz.func67 rfl rfl <| Zc <| Za <| JLr (Zk (l := pkT 0 0 zS nS nS) Tryz.zeroValue30 rfl fun b1 => Zb <| Zc <| Zn <| Zc <| Za <| JLM rfl <| JLr (Zd ty3 rfl (At.im hN) rfl <| JLn (Pu.eql rfl rfl) <| JLA rfl ?_))
 refine Zb <| Zg rfl (fun h2 => ?_) (fun h2 => ?_)
 ·replace h2 := dt h2
  refine Zc <| Za <| JLr (Zh Zt rfl (At.im hU) (Zs (Zu hu1)) <| JLM rfl <| Jc Tryz.call68 rfl (fun hin => shifted_ct _ _ _ _ _ (RT.mono (Hle.hu _ _) hu1) hzu hvu (by omega) (by omega)) rfl ?_)
  rintro _ _ ⟨cs3, k3, rfl, rfl, hO3⟩
  refine JLr (Ze 1 (vs := cs3) (l := cs3) Zt rfl rfl rfl rfl hO3.len hO3.ok (ZK (n := 36) rfl hO3.len) <| Zb <| Zl <| ⟨.agg ⟨cs3⟩, [k3], Ret.one rfl (RV.cell Zt rfl (At.bx 1 rfl) (Zs hO3.len)), (Sk Sub.nil), ?_⟩)
  have hx : sbv m u n b = shT b 0 u := by first | rfl | (simp only [sbv]; (repeat' split) <;> first | rfl | (exfalso; omega))
  exact ⟨_, _, rfl, rfl, by rw [hx]; exact hO3⟩
 replace h2 := df h2
 refine Zc <| Za <| JLM rfl <| JLr (Zd ty3 rfl (At.im hN) rfl <| JLn (Pu.gtr rfl rfl) <| JLA rfl <| Zb <| Zg rfl (fun h4 => ?_) (fun h4 => ?_))
 ·replace h4 := dt h4
  refine Za <| JLM rfl <| JLn (Pu.sub64 rfl rfl (by first | omega | (constructor <;> omega))) <| JLA rfl <| Zb <| Zc <| Za <| JLM rfl <| JLM rfl <| Jc Tryz.call69 rfl (fun hin => stay_ct _ _ _ (by unfold inI; omega)) rfl ?_
  rintro _ _ ⟨cs5, k5, rfl, rfl, hO5⟩
  refine JLr (Ze 1 (vs := cs5) (l := cs5) Zt rfl rfl rfl rfl hO5.len hO5.ok (ZK (n := 36) rfl hO5.len) <| Zb <| Zl <| ⟨.agg ⟨cs5⟩, [k5], Ret.one rfl (RV.cell Zt rfl (At.bx 1 rfl) (Zs hO5.len)), (Sk Sub.nil), ?_⟩)
  have hx : sbv m u n b = .mk 1 (n - 1 + b) zS [] [] := by first | rfl | (simp only [sbv]; (repeat' split) <;> first | rfl | (exfalso; omega))
  exact ⟨_, _, rfl, rfl, by rw [hx]; exact hO5⟩
 replace h4 := df h4
 refine Zj <| Zc <| Za <| JLM rfl <| JLM rfl <| Jc Tryz.call69 rfl (fun hin => stay_ct _ _ _ (by unfold inI; omega)) rfl ?_
 rintro _ _ ⟨cs6, k6, rfl, rfl, hO6⟩
 refine JLr (Ze 1 (vs := cs6) (l := cs6) Zt rfl rfl rfl rfl hO6.len hO6.ok (ZK (n := 36) rfl hO6.len) <| Zb <| Zl <| ⟨.agg ⟨cs6⟩, [k6], Ret.one rfl (RV.cell Zt rfl (At.bx 1 rfl) (Zs hO6.len)), (Sk Sub.nil), ?_⟩)
 have hx : sbv m u n b = .mk 1 (n + b) zS [] [] := by first | rfl | (simp only [sbv]; (repeat' split) <;> first | rfl | (exfalso; omega))
 exact ⟨_, _, rfl, rfl, by rw [hx]; exact hO6⟩
theorem short_ct (t : Tm) (cs : List Value) (H : Heap) (ht : RT H cs t) : CT Tryz.prog 66 ⟨[.agg ⟨cs⟩]⟩ [] H (fun v N => v = .tuple ⟨[.agg ⟨if Xt t = true then pkT 0 0 zS nS nS else cs⟩, iv (if Xt t = true then 11 else 0)]⟩ ∧ N = []) := by
 refine Zm Tryz.func66 rfl rfl <| Zc <| Za <| JLr (Zq (l := cs) rfl rfl fun b1 => JLr (Zk (l := pkT 0 0 zS nS nS) Tryz.zeroValue30 rfl fun b2 => JLA rfl <| Zb <| Zc <| Zc <| Za <| JLq (.agg ⟨[iv 0]⟩) (Pu.build (pv := []) (l := [iv 0]) rfl bld102_) <| JLr (Zq (l := [iv 0]) rfl rfl fun b3 => JLr (Zh Zt rfl (At.bx 2 rfl) (Zs (Zu ht)) ?_))))
 refine ZA 0 rfl Tryz.call77 rfl rfl (fun hin => longT_ct _ _ _ _ _ _ (RT.mono (Hle.hu _ _) ht) (by omega) (by omega) (by omega) (by omega)) rfl ?_
 rintro _ _ ⟨rfl, rfl⟩
 refine Zb <| Zg rfl (fun h5 => ?_) (fun h5 => ?_)
 ·refine Zc <| Za <| JLq (.agg ⟨pkT 0 0 zS nS nS⟩) (Pu.build (pv := []) (l := pkT 0 0 zS nS nS) rfl (bld30_ )) <| JLr (Ze 1 (vs := pkT 0 0 zS nS nS) (l := pkT 0 0 zS nS nS) Zt rfl rfl rfl rfl rfl (ZS rfl rfl) (YU ..) <| JLA rfl <| Zb <| Zl <| ⟨.tuple ⟨[.agg ⟨pkT 0 0 zS nS nS⟩, iv 11]⟩, [], Ret.two rfl (RV.cell Zt rfl (At.bx 1 rfl) (Yz ..)) (RV.tmp rfl), Sub.nil, ?_⟩)
  rw [long_eq] at h5
  exact ⟨by simp [h5], rfl⟩
 refine Zj <| Zc <| Za <| JLr (Zh Zt rfl (At.bx 2 rfl) (Zs (Zu ht)) <| JLr (Ze 1 (vs := cs) (l := cs) Zt rfl rfl rfl rfl (Zu ht) (XG ht) (ZK (n := 36) rfl (Zu ht)) <| JLA rfl <| Zb <| Zl <| ⟨.tuple ⟨[.agg ⟨cs⟩, iv 0]⟩, [], Ret.two rfl (RV.cell Zt rfl (At.bx 1 rfl) (Zs (Zu ht))) (RV.tmp rfl), Sub.nil, ?_⟩))
 rw [long_eq] at h5
 exact ⟨by simp [h5], rfl⟩
end Go.Proofs.YtkjafeejpmcnkaaGreat.Hs
/-! Walks, printed by a program of this session's own (gen.py). -/
namespace Go.Proofs.YtkjafeejpmcnkaaGreat.Hs
open Go Go.Proofs
set_option maxRecDepth 100000
set_option linter.unusedVariables false
set_option linter.unusedSimpArgs false
attribute [local irreducible] JL J CT wlo DT
theorem shiftP_ct (t : Tm) (dy fr : Int) (cs : List Value) (H : Heap) (ht : RT H cs t) : CT Tryz.prog 30 ⟨[.agg ⟨cs⟩, iv dy, iv fr]⟩ [] H (fun v N => ∃ cs k, v = .tuple ⟨[.agg ⟨cs⟩, iv (shiftP t dy fr).2]⟩ ∧ N = [k] ∧ OT (shiftP t dy fr).1 cs k) := by
 refine Zm Tryz.func30 rfl rfl <| Zc <| Za <| JLr (Zq (l := cs) rfl rfl fun b1 => JLr (Zq (l := [iv dy]) rfl rfl fun b2 => JLr (Zq (l := [iv fr]) rfl rfl fun b3 => JLr (Zk (l := pkT 0 0 zS nS nS) Tryz.zeroValue30 rfl fun b4 => JLA rfl <| Zb <| Zc <| Zc <| Za <| JLr (Zh Zt rfl (At.bx 3 rfl) (Zs (Zu ht)) ?_)))))
 refine JLr (Zp (vs := [.agg ⟨cs⟩]) [cs] Tryz.runUnderlying27 el30 rfl rfl (by intro e he; simp only [List.mem_cons, List.not_mem_nil, or_false] at he; subst he; exact (Zu ht)) rfl (by decide) fun b5 k5 ho5 hk5 => Jc Tryz.call55 rfl (fun hin => right_ct _ _ _ (Own.rd1 ho5 (hin 0 _ rfl) (RT.mono (Hle.hu _ _) ht))) rfl ?_)
 rintro _ _ ⟨rfl, rfl⟩
 refine JLA rfl <| Zb <| Zc <| Za <| JLM rfl <| JLn (Pu.neq rfl rfl) <| Zb <| Zg rfl (fun h6 => ?_) (fun h6 => ?_)
 ·replace h6 := nt h6
  replace h6 := df h6
  refine Zc <| Za <| JLq (.agg ⟨pkT 0 0 zS nS nS⟩) (Pu.build (pv := []) (l := pkT 0 0 zS nS nS) rfl (bld30_ )) <| JLM rfl <| JLr (Ze 1 (vs := pkT 0 0 zS nS nS) (l := pkT 0 0 zS nS nS) Zt rfl rfl rfl rfl rfl (ZS rfl rfl) (YU ..) <| JLA rfl <| Zb <| Zl <| ⟨.tuple ⟨[.agg ⟨pkT 0 0 zS nS nS⟩, iv (ZO [t])]⟩, [[]], Ret.two rfl (RV.cell Zt rfl (At.bx 1 rfl) (Yz ..)) (RV.tmp rfl), (Sub.emp Sub.nil), ?_⟩)
  have hx : shiftP t dy fr = (zT, ZO [t]) := by simp only [shiftP]; (repeat' split) <;> first | rfl | (exfalso; simp_all; done) | (exfalso; simp_all; omega)
  exact ⟨_, _, by rw [hx], rfl, by rw [hx]; exact XI⟩
 replace h6 := nf h6
 replace h6 := dt h6
 refine Zj <| Zc <| Zc <| Za <| JLr (Zd ty3 rfl (At.bx 3 rfl) rfl <| Jc Tryz.call65 rfl (fun hin => YO _ _ _ _) rfl ?_)
 rintro _ _ ⟨rfl, rfl⟩
 refine JLM rfl <| Zv 2 [19, 20] [(20, cond (decide (dy < -60 ∨ 60 < dy)) undef (.bool (decide (fr < 0 ∨ 60 < fr))))] ?_ fun f8 => ?_
 ·cases h7 : (decide (dy < -60 ∨ 60 < dy)) with
  | false =>
   replace h7 := df h7
   refine JLr (Zd ty3 rfl (At.bx 2 rfl) rfl <| Jc Tryz.call65 rfl (fun hin => YO _ _ _ _) rfl ?_)
   rintro _ _ ⟨rfl, rfl⟩
   exact Zb ⟨⟨rfl, trivial⟩, rfl⟩
  | true =>
   exact Zy rfl ⟨rfl, trivial⟩
 refine JLn (Pu.pickOr rfl rfl rfl) <| Zb <| Zg rfl (fun h9 => ?_) (fun h9 => ?_)
 ·refine Zc <| Za <| JLq (.agg ⟨pkT 0 0 zS nS nS⟩) (Pu.build (pv := []) (l := pkT 0 0 zS nS nS) rfl (bld30_ )) <| JLr (Ze 1 (vs := pkT 0 0 zS nS nS) (l := pkT 0 0 zS nS nS) Zt rfl rfl rfl rfl rfl (ZS rfl rfl) (YU ..) <| JLA rfl <| Zb <| Zl <| ⟨.tuple ⟨[.agg ⟨pkT 0 0 zS nS nS⟩, iv 3]⟩, [[]], Ret.two rfl (RV.cell Zt rfl (At.bx 1 rfl) (Yz ..)) (RV.tmp rfl), (Sub.emp Sub.nil), ?_⟩)
  have hx : shiftP t dy fr = (zT, 3) := by simp only [shiftP]; (repeat' split) <;> first | rfl | (exfalso; simp_all; done) | (exfalso; simp_all; omega)
  exact ⟨_, _, by rw [hx], rfl, by rw [hx]; exact XI⟩
 obtain ⟨h9a, h9b⟩ := orF h9
 replace h9a := df h9a
 replace h9b := df h9b
 refine Zj <| Zc <| Zc <| Za <| JLr (Zh Zt rfl (At.bx 4 rfl) (Zs (Zu ht)) <| Jc Tryz.call64 rfl (fun hin => freeP_ct _ _ _ (RT.mono (Hle.hu _ _) ht) (by have := (Yv (rightT1 ‹ZO [t] = 0›)).1; omega) (Yv (rightT1 ‹ZO [t] = 0›)).2.1) rfl ?_)
 rintro u10 _ ⟨_, k10, hu10, rfl, ho10⟩; subst hu10
 refine JLq (.func (.func 73) ⟨[]⟩ ⟨[pp b3 0, pp b2 0]⟩) (Pu.makeFunc rfl rfl) <| Jc Tryz.call72 rfl (fun hin => every_ct 73 [] [pp b3 0, pp b2 0] Tryz.call73 (mvOk dy fr) _ _ _ (own_ints ho10 (by have := freeP_len t; omega) (hin 0 _ rfl)) (fun x hx h hh => shiftO_ct x dy fr h b3 b2 (hh _ _ (hin 3 _ rfl _ _ List.mem_cons_self)) (hh _ _ (hin 4 _ rfl _ _ List.mem_cons_self)) (freeP_bound t x hx).1 (by have := (freeP_bound t x hx).2; omega) (by omega) (by omega))) rfl ?_
 rintro _ _ ⟨rfl, rfl⟩
 refine JLn (Pu.not rfl) <| Zb <| Zg rfl (fun h11 => ?_) (fun h11 => ?_)
 ·replace h11 := nt h11
  refine Zc <| Za <| JLq (.agg ⟨pkT 0 0 zS nS nS⟩) (Pu.build (pv := []) (l := pkT 0 0 zS nS nS) rfl (bld30_ )) <| JLr (Ze 2 (vs := pkT 0 0 zS nS nS) (l := pkT 0 0 zS nS nS) Zt rfl rfl rfl rfl rfl (ZS rfl rfl) (YU ..) <| JLA rfl <| Zb <| Zl <| ⟨.tuple ⟨[.agg ⟨pkT 0 0 zS nS nS⟩, iv 1]⟩, [[]], Ret.two rfl (RV.cell Zt rfl (At.bx 2 rfl) (Yz ..)) (RV.tmp rfl), (Sub.emp Sub.nil), ?_⟩)
  have hx : shiftP t dy fr = (zT, 1) := by simp only [shiftP]; (repeat' split) <;> first | rfl | (exfalso; simp_all; done) | (exfalso; simp_all; omega)
  exact ⟨_, _, by rw [hx], rfl, by rw [hx]; exact XI⟩
 replace h11 := nf h11
 refine Zj <| Zc <| Za <| JLr (Zh Zt rfl (At.bx 5 rfl) (Zs (Zu ht)) <| JLr (Zd ty3 rfl (At.bx 4 rfl) rfl <| JLr (Zd ty3 rfl (At.bx 3 rfl) rfl <| Jc Tryz.call68 rfl (fun hin => shifted_ct _ _ _ _ _ (RT.mono (Hle.hu _ _) ht) (by have := (Yv (rightT1 ‹ZO [t] = 0›)).1; omega) (Yv (rightT1 ‹ZO [t] = 0›)).2.1 (by omega) (by omega)) rfl ?_)))
 rintro _ _ ⟨cs12, k12, rfl, rfl, hO12⟩
 refine JLr (Ze 3 (vs := cs12) (l := cs12) Zt rfl rfl rfl rfl hO12.len hO12.ok (ZK (n := 36) rfl hO12.len) <| JLA rfl <| Zb <| Zl <| ⟨.tuple ⟨[.agg ⟨cs12⟩, iv 0]⟩, [k12], Ret.two rfl (RV.cell Zt rfl (At.bx 3 rfl) (Zs hO12.len)) (RV.tmp rfl), (Sk Sub.nil), ?_⟩)
 have hx : shiftP t dy fr = (shT dy fr t, 0) := by simp only [shiftP]; (repeat' split) <;> first | rfl | (exfalso; simp_all; done) | (exfalso; simp_all; omega)
 exact ⟨_, _, by rw [hx], rfl, by rw [hx]; exact hO12⟩
theorem freeE_ct (t : Tm) (cs : List Value) (H : Heap) (ht : RT H cs t) : CT Tryz.prog 27 ⟨[.agg ⟨cs⟩]⟩ [] H (fun v N => ∃ u e k, v = .tuple ⟨[u, iv e]⟩ ∧ N = [k] ∧ Own 3 1 u (ints (freeE t).1) k ∧ e = (freeE t).2) := by
 refine Zm Tryz.func27 rfl rfl <| Zc <| Za <| JLr (Zq (l := cs) rfl rfl fun b1 => JLA rfl <| JLA rfl <| Zb <| Zc <| Zc <| Za <| JLr (Zh Zt rfl (At.bx 0 rfl) (Zs (Zu ht)) <| JLr (Zp (vs := [.agg ⟨cs⟩]) [cs] Tryz.runUnderlying27 el30 rfl rfl (by intro e he; simp only [List.mem_cons, List.not_mem_nil, or_false] at he; subst he; exact (Zu ht)) rfl (by decide) fun b2 k2 ho2 hk2 => Jc Tryz.call55 rfl (fun hin => right_ct _ _ _ (Own.rd1 ho2 (hin 0 _ rfl) (RT.mono (Hle.hu _ _) ht))) rfl ?_)))
 rintro _ _ ⟨rfl, rfl⟩
 refine JLA rfl <| Zb <| Zc <| Za <| JLM rfl <| JLn (Pu.neq rfl rfl) <| Zb <| Zg rfl (fun h3 => ?_) (fun h3 => ?_)
 ·replace h3 := nt h3
  replace h3 := df h3
  refine Zc <| Za <| JLM rfl <| JLA rfl <| JLA rfl <| Zb <| Zl <| ⟨.tuple ⟨[nS, iv (ZO [t])]⟩, [[]], Ret.two rfl (RV.tmp rfl) (RV.tmp rfl), (Sub.emp Sub.nil), ?_⟩
  have hx : freeE t = ([], ZO [t]) := by rw [freeE, if_neg (by assumption)]
  exact ⟨_, _, _, rfl, rfl, by rw [hx]; exact Own.nil, by rw [hx]⟩
 replace h3 := nf h3
 replace h3 := dt h3
 refine Zj <| Zc <| Za <| JLr (Zh Zt rfl (At.bx 1 rfl) (Zs (Zu ht)) <| Jc Tryz.call64 rfl (fun hin => freeP_ct _ _ _ (RT.mono (Hle.hu _ _) ht) (by have := (Yv (rightT1 ‹ZO [t] = 0›)).1; omega) (Yv (rightT1 ‹ZO [t] = 0›)).2.1) rfl ?_)
 rintro u4 _ ⟨_, k4, hu4, rfl, ho4⟩; subst hu4
 refine JLa u4 <| JLA rfl <| Zb <| Zl <| ⟨.tuple ⟨[u4, iv 0]⟩, [k4], Ret.two rfl (RV.tmp rfl) (RV.tmp rfl), (Sk Sub.nil), ?_⟩
 have hx : freeE t = (freeP t, 0) := by rw [freeE, if_pos (by assumption)]
 exact ⟨_, _, _, rfl, rfl, by rw [hx]; exact ho4, by rw [hx]⟩
theorem substP_ct (t : Tm) (m : Int) (u : Tm) (cs us : List Value) (H : Heap) (ht : RT H cs t) (hu1 : RT H us u) : CT Tryz.prog 28 ⟨[.agg ⟨cs⟩, iv m, .agg ⟨us⟩]⟩ [] H (fun v N => ∃ cs k, v = .tuple ⟨[.agg ⟨cs⟩, iv (substP t m u).2]⟩ ∧ N = [k] ∧ OT (substP t m u).1 cs k) := by
 refine Zm Tryz.func28 rfl rfl <| Zc <| Za <| JLr (Zq (l := cs) rfl rfl fun b1 => JLr (Zq (l := [iv m]) rfl rfl fun b2 => JLr (Zq (l := us) rfl rfl fun b3 => JLr (Zk (l := pkT 0 0 zS nS nS) Tryz.zeroValue30 rfl fun b4 => JLA rfl <| Zb <| Zc <| Zc <| Za <| JLr (Zh Zt rfl (At.bx 3 rfl) (Zs (Zu ht)) ?_)))))
 refine JLr (Zh Zt rfl (At.bx 1 rfl) (Zs (Zu hu1)) <| JLr (Zp (vs := [.agg ⟨cs⟩, .agg ⟨us⟩]) [cs, us] Tryz.runUnderlying27 el30 rfl rfl (by intro e he; simp only [List.mem_cons, List.not_mem_nil, or_false] at he; rcases he with rfl | rfl <;> first | exact (Zu ht) | exact (Zu hu1)) rfl (by decide) fun b5 k5 ho5 hk5 => Jc Tryz.call55 rfl (fun hin => right_ct _ _ _ (Own.rd2 ho5 (hin 0 _ rfl) (RT.mono (Hle.hu _ _) ht) (RT.mono (Hle.hu _ _) hu1))) rfl ?_))
 rintro _ _ ⟨rfl, rfl⟩
 refine JLA rfl <| Zb <| Zc <| Za <| JLM rfl <| JLn (Pu.neq rfl rfl) <| Zb <| Zg rfl (fun h6 => ?_) (fun h6 => ?_)
 ·replace h6 := nt h6
  replace h6 := df h6
  refine Zc <| Za <| JLq (.agg ⟨pkT 0 0 zS nS nS⟩) (Pu.build (pv := []) (l := pkT 0 0 zS nS nS) rfl (bld30_ )) <| JLM rfl <| JLr (Ze 1 (vs := pkT 0 0 zS nS nS) (l := pkT 0 0 zS nS nS) Zt rfl rfl rfl rfl rfl (ZS rfl rfl) (YU ..) <| JLA rfl <| Zb <| Zl <| ⟨.tuple ⟨[.agg ⟨pkT 0 0 zS nS nS⟩, iv (ZO [t, u])]⟩, [[]], Ret.two rfl (RV.cell Zt rfl (At.bx 1 rfl) (Yz ..)) (RV.tmp rfl), (Sub.emp Sub.nil), ?_⟩)
  have hx : substP t m u = (zT, ZO [t, u]) := by simp only [substP]; (repeat' split) <;> first | rfl | (exfalso; simp_all; done) | (exfalso; simp_all; omega)
  exact ⟨_, _, by rw [hx], rfl, by rw [hx]; exact XI⟩
 replace h6 := nf h6
 replace h6 := dt h6
 refine Zj <| Zc <| Zc <| Za <| JLr (Zd ty3 rfl (At.bx 3 rfl) rfl <| Jc Tryz.call65 rfl (fun hin => YO _ _ _ _) rfl ?_)
 rintro _ _ ⟨rfl, rfl⟩
 refine Zb <| Zg rfl (fun h7 => ?_) (fun h7 => ?_)
 ·replace h7 := dt h7
  refine Zc <| Za <| JLq (.agg ⟨pkT 0 0 zS nS nS⟩) (Pu.build (pv := []) (l := pkT 0 0 zS nS nS) rfl (bld30_ )) <| JLr (Ze 1 (vs := pkT 0 0 zS nS nS) (l := pkT 0 0 zS nS nS) Zt rfl rfl rfl rfl rfl (ZS rfl rfl) (YU ..) <| JLA rfl <| Zb <| Zl <| ⟨.tuple ⟨[.agg ⟨pkT 0 0 zS nS nS⟩, iv 3]⟩, [[]], Ret.two rfl (RV.cell Zt rfl (At.bx 1 rfl) (Yz ..)) (RV.tmp rfl), (Sub.emp Sub.nil), ?_⟩)
  have hx : substP t m u = (zT, 3) := by simp only [substP]; (repeat' split) <;> first | rfl | (exfalso; simp_all; done) | (exfalso; simp_all; omega)
  exact ⟨_, _, by rw [hx], rfl, by rw [hx]; exact XI⟩
 replace h7 := df h7
 refine Zj <| Zc <| Za <| JLq (.func (.func 67) ⟨[]⟩ ⟨[pp b2 0, pp b3 0]⟩) (Pu.makeFunc rfl rfl) <| JLq (.agg ⟨[.func (.func 67) ⟨[]⟩ ⟨[pp b2 0, pp b3 0]⟩, .func (.func 70) ⟨[]⟩ ⟨[]⟩]⟩) (Pu.build (pv := [(0, .func (.func 67) ⟨[]⟩ ⟨[pp b2 0, pp b3 0]⟩), (1, .func (.func 70) ⟨[]⟩ ⟨[]⟩)]) (l := [.func (.func 67) ⟨[]⟩ ⟨[pp b2 0, pp b3 0]⟩, .func (.func 70) ⟨[]⟩ ⟨[]⟩]) rfl (bld118_0_1 _ _ _ _ _ _)) <| JLr (Zh Zt rfl (At.bx 4 rfl) (Zs (Zu ht)) <| Jc Tryz.call71 rfl (fun hin => mapTermP_ct 70 [] [] Tryz.call70 (fun s => s) 67 [] [pp b2 0, pp b3 0] Tryz.call67 (sbv m u) _ _ _ _ (RT.mono (Hle.hu _ _) ht) (by have := (Yv (rightT2 ‹ZO [t, u] = 0›).1).1; omega) (Yv (rightT2 ‹ZO [t, u] = 0›).1).2.1 (by decide) (by have := (Yv (rightT2 ‹ZO [t, u] = 0›).1).1; omega) (fun s h hh => same_ct s h) (fun n b h hh h1 h2 h3 h4 => substV_ct n b m u _ h b2 b3 (hh _ _ (hin 3 _ rfl _ _ List.mem_cons_self)) (hh _ _ (hin 2 _ rfl _ _ List.mem_cons_self)) (RT.mono (Hle.trans (Hle.hu _ _) hh) hu1) (by have := (Yv (rightT2 ‹ZO [t, u] = 0›).2).1; omega) (Yv (rightT2 ‹ZO [t, u] = 0›).2).2.1 h1 h2 h3 h4)) rfl ?_)
 rintro _ _ ⟨cs8, k8, rfl, rfl, hO8⟩
 refine Jc Tryz.call66 rfl (fun hin => short_ct _ _ _ (hO8.rd (hin 0 _ rfl))) rfl ?_
 rintro _ _ ⟨rfl, rfl⟩
 refine JLn (Pu.extract rfl rfl) <| JLn (Pu.extract rfl rfl) <| JLr (Ze 2 (vs := (if Xt (mapQ (fun s => s) (sbv m u) 0 t) = true then pkT 0 0 zS nS nS else cs8)) (l := (if Xt (mapQ (fun s => s) (sbv m u) 0 t) = true then pkT 0 0 zS nS nS else cs8)) Zt rfl rfl rfl rfl (len_ite (n := 36) rfl hO8.len) (okc_ite (ZS rfl rfl) hO8.ok) (ZK (n := 36) rfl (len_ite (n := 36) rfl hO8.len)) <| JLA rfl <| Zb <| Zl ?_)
 by_cases hL : Xt (mapQ (fun s => s) (sbv m u) 0 t) = true
 ·refine ⟨.tuple ⟨[.agg ⟨(if Xt (mapQ (fun s => s) (sbv m u) 0 t) = true then pkT 0 0 zS nS nS else cs8)⟩, iv ((if Xt (mapQ (fun s => s) (sbv m u) 0 t) = true then 11 else 0))]⟩, [[]], Ret.two rfl (RV.cell Zt rfl (At.bx 2 rfl) (Zs (len_ite (n := 36) rfl hO8.len))) (RV.tmp rfl), (Sub.emp Sub.nil), ?_⟩
  have hx : substP t m u = (zT, 11) := by rw [substP, if_pos (by assumption), if_neg (by omega), if_pos (show Xt (sbT m u t) = true from hL)]
  exact ⟨_, _, by rw [if_pos hL, if_pos hL, hx], rfl, by rw [hx]; exact XI⟩
 refine ⟨.tuple ⟨[.agg ⟨(if Xt (mapQ (fun s => s) (sbv m u) 0 t) = true then pkT 0 0 zS nS nS else cs8)⟩, iv ((if Xt (mapQ (fun s => s) (sbv m u) 0 t) = true then 11 else 0))]⟩, [k8], Ret.two rfl (RV.cell Zt rfl (At.bx 2 rfl) (Zs (len_ite (n := 36) rfl hO8.len))) (RV.tmp rfl), (Sk Sub.nil), ?_⟩
 have hx : substP t m u = (mapQ (fun s => s) (sbv m u) 0 t, 0) := by rw [substP, if_pos (by assumption), if_neg (by omega), if_neg (show ¬ Xt (sbT m u t) = true from hL)]; rfl
 exact ⟨_, _, by rw [if_neg hL, if_neg hL, hx], rfl, by rw [hx]; exact hO8⟩
end Go.Proofs.YtkjafeejpmcnkaaGreat.Hs
/-! Walks, printed by a program of this session's own (gen.py). -/
namespace Go.Proofs.YtkjafeejpmcnkaaGreat.Hs
open Go Go.Proofs
set_option maxRecDepth 100000
set_option linter.unusedVariables false
set_option linter.unusedSimpArgs false
attribute [local irreducible] JL J CT wlo DT
theorem spoil_ct : ∀ (t : Tm) (cs : List Value) (k : Zi) (H : Heap), OT t cs k → CT Tryz.prog 38 ⟨[.agg ⟨cs⟩]⟩ [k] H (fun v N => v = .tuple ⟨[]⟩ ∧ N = []) := by
 intro t
 induction t using Tm.ind with
 | h kind num ref kids cases ih ih' =>
 intro cs k H hO
 obtain ⟨ks, cv, es, es', k1, k2, k3, k4, rfl, hk, hn, ho1, ho2, ho3, ho4, rfl, hlK, hlC⟩ := OT_mk.1 hO
 refine Zm Tryz.func38 rfl rfl <| ZG (M' := [k1, k2, k3, k4]) (Sub.flat Sub.refl (by simp)) <| Zc <| Za <| JLr (Zq (l := pkT kind num ref ks cv) rfl rfl fun b1 => Zb <| Zc <| Zc <| Za <| JLq (pp b1 34) (Z3 rfl rfl) <| JLr (Zd Y0 rfl (At.bx 0 rfl) (Z4 ..) ?_))
 obtain ⟨a2, cap2, hv2⟩ := ho1.sl
 rw [(OTs_len ho2)] at hv2
 refine JLn (Pu.lenSl Tryz.runUnderlying27 hv2) <| JLM rfl <| Zb <| Zn <| ZB (fun k ρ M => ∃ (j : Nat) (es5 : List (List Value)) (k5 c0 : Zi), ρ 1 = pp b1 0 ∧ ρ 7 = iv ((kids.length : Int)) ∧ ρ 8 = iv ((j : Int)) ∧ Sub [(BX b1 (pkT kind num ref ks cv) 30), k5, c0, k3, k4] M ∧ j ≤ kids.length ∧ Own 30 36 ks es5 k5 ∧ es5.length = kids.length ∧ OTs (kids.drop j) (es5.drop j) c0 ∧ k = kids.length - j) _ ⟨0, es, k1, k2, rfl, rfl, rfl, (Sk (Sk (Sk (Sk (Sk Sub.nil))))), Nat.zero_le _, ho1, OTs_len ho2, by simpa using ho2, rfl⟩ ?_
 rintro _ ρ3 _ ⟨j, es5, k5, c0, e4, e5, e6, hm7, hj, ho5, hl5, hr5, rfl⟩
 obtain ⟨ρ8, rfl⟩ := Zr (uc e4 (uc e5 (uc e6 un)))
 clear e4 e5 e6
 refine ZG hm7 <| Zc <| Za <| JLn (Pu.lss rfl rfl) <| Zb <| Zc <| Zg rfl (fun h9 => ?_) (fun h9 => ?_)
 ·replace h9 := dt h9
  have h9n : j < kids.length := by omega
  obtain ⟨e5, kc5, c5, hE, hO5, rfl, hR5⟩ := OTs.take hr5 h9n
  refine ZG (M' := [(BX b1 (pkT kind num ref ks cv) 30), k5, kc5, c5, k3, k4]) (Sub.flat Sub.refl (by simp)) <| Zj <| Zc <| Zn <| Zc <| Za <| JLM rfl <| JLA rfl <| Zb <| Zc <| Za <| JLq (pp b1 34) (Z3 rfl rfl) <| JLr (Zd Y0 rfl (At.bx 0 rfl) (Z4 ..) ?_)
  refine JLM rfl ?_
  obtain ⟨b10, cap10, row10, hv10, hm10, hs10⟩ := ho5.at' hE
  refine JLq (pp b10 (0 + j * 36)) (Pu.idx j Tryz.runUnderlying27 Zt hv10 rfl rfl (by rw [hl5]; exact h9n)) <| JLr (Zh Zt rfl (At.k 1 rfl hm10) hs10 <| ZA 2 rfl Tryz.call38 rfl rfl (fun hin => ih _ (List.getElem_mem h9n) _ _ _ hO5) rfl ?_)
  rintro _ _ ⟨rfl, rfl⟩
  refine Zb <| Za <| JLq (pp b1 34) (Z3 rfl rfl) <| JLr (Zd Y0 rfl (At.bx 0 rfl) (Z4 ..) <| JLM rfl <| JLq (.agg ⟨pkT 98 0 zS nS nS⟩) (Pu.build (pv := [(0, iv 98)]) (l := pkT 98 0 zS nS nS) rfl (bld30_0 _)) ?_)
  obtain ⟨b11, cap11, row11, hv11, hm11, hs11⟩ := ho5.at' hE
  refine JLq (pp b11 (0 + j * 36)) (Pu.idx j Tryz.runUnderlying27 Zt hv11 rfl rfl (by rw [hl5]; exact h9n)) <| JLr (Xo (i := 1) (j := j) (b := b11) Zt rfl ho5 ⟨_, _, hv11⟩ rfl (by rw [hl5]; exact h9n) rfl rfl rfl (ZS rfl rfl) fun k12 ho12 => Zb <| Za <| JLn (Pu.inc rfl rfl (by omega)) <| JLM rfl <| Zb <| ⟨_, ?_, (j + 1), (es5.set j (pkT 98 0 zS nS nS)), k12, c5, rfl, rfl, rfl, (Sk (Sk (Sk (Sk (Sk Sub.nil))))), ?_, ?_, ?_, ?_, rfl⟩)
  ·omega
  ·omega
  ·exact ho12
  ·rw [List.length_set]; exact hl5
  exact hR5 _
 replace h9 := df h9
 have h9n : kids.length ≤ j := by omega
 refine Zz _ rfl <| Zc <| Za <| JLq (pp b1 35) (ZR rfl rfl) <| JLr (Zd YA rfl (At.bx 0 rfl) (ZT ..) ?_)
 obtain ⟨a13, cap13, hv13⟩ := ho3.sl
 rw [(OCs_len ho4)] at hv13
 refine JLn (Pu.lenSl Tryz.runUnderlying28 hv13) <| JLM rfl <| Zb <| Zn <| ZB (fun k ρ M => ∃ (j : Nat) (es7 : List (List Value)) (k7 c1 : Zi), ρ 1 = pp b1 0 ∧ ρ 25 = iv ((cases.length : Int)) ∧ ρ 26 = iv ((j : Int)) ∧ Sub [(BX b1 (pkT kind num ref ks cv) 30), k7, c1] M ∧ j ≤ cases.length ∧ Own 86 71 cv es7 k7 ∧ es7.length = cases.length ∧ OCs (cases.drop j) (es7.drop j) c1 ∧ k = cases.length - j) _ ⟨0, es', k3, k4, rfl, rfl, rfl, (Sk (Sd (Sd (Sk (Sk Sub.nil))))), Nat.zero_le _, ho3, OCs_len ho4, by simpa using ho4, rfl⟩ ?_
 rintro _ ρ14 _ ⟨j, es7, k7, c1, e15, e16, e17, hm18, hj, ho7, hl7, hr6, rfl⟩
 obtain ⟨ρ19, rfl⟩ := Zr (uc e15 (uc e16 (uc e17 un)))
 clear e15 e16 e17
 refine ZG hm18 <| Zc <| Za <| JLn (Pu.lss rfl rfl) <| Zb <| Zc <| Zg rfl (fun h20 => ?_) (fun h20 => ?_)
 ·replace h20 := dt h20
  have h20n : j < cases.length := by omega
  obtain ⟨kk6, n6, r6, ks6, e6, esp6, q6, kp6, kq6, kc6, c6, hE, hOp, hq6, hq66, hO6, rfl, hR6⟩ := OCs.take hr6 h20n
  refine ZG (M' := [(BX b1 (pkT kind num ref ks cv) 30), k7, kp6, kq6, kc6, c6]) (Sub.flat Sub.refl (by simp)) <| Zj <| Zc <| Zn <| Zc <| Za <| JLM rfl <| JLA rfl <| Zb <| Zc <| Za <| JLq (pp b1 35) (ZR rfl rfl) <| JLr (Zd YA rfl (At.bx 0 rfl) (ZT ..) ?_)
  refine JLM rfl ?_
  obtain ⟨b21, cap21, row21, hv21, hm21, hs21⟩ := ho7.at' hE
  refine JLq (pp b21 (0 + j * 71)) (Pu.idx j Tryz.runUnderlying28 YV hv21 rfl rfl (by rw [hl7]; exact h20n)) <| JLq (pp b21 (0 + j * 71 + 35)) (fa86_1 rfl rfl) <| JLr (Zh Zt rfl (At.k 1 rfl hm21) (sub_sub hs21 (sub_r rfl hO6.len)) <| ZA 4 rfl Tryz.call38 rfl rfl (fun hin => ih' _ (List.getElem_mem h20n) _ _ _ hO6) rfl ?_)
  rintro _ _ ⟨rfl, rfl⟩
  refine Zb <| Zc <| Zc <| Za <| JLq (pp b1 35) (ZR rfl rfl) <| JLr (Zd YA rfl (At.bx 0 rfl) (ZT ..) <| JLM rfl ?_)
  obtain ⟨b22, cap22, row22, hv22, hm22, hs22⟩ := ho7.at' hE
  refine JLq (pp b22 (0 + j * 71)) (Pu.idx j Tryz.runUnderlying28 YV hv22 rfl rfl (by rw [hl7]; exact h20n)) <| JLq (pp b22 (0 + j * 71)) (Xi rfl rfl) <| JLq (pp b22 (0 + j * 71 + 34)) (Z5 rfl rfl) <| JLr (Zd Xa rfl (At.k 1 rfl hm22) (sub_get hs22 (get_l (Yf ..))) ?_)
  obtain ⟨a23, cap23, hv23⟩ := hOp.sl
  rw [hq6] at hv23
  refine JLn (Pu.lenSl Tryz.runUnderlying79 hv23) <| JLM rfl <| Zb <| Zn <| ZB (fun k ρ M => ∃ (i : Nat) (es8 : List (List Value)) (k8 : Zi), ρ 1 = pp b1 0 ∧ ρ 3 = iv ((j : Int)) ∧ ρ 25 = iv ((cases.length : Int)) ∧ ρ 26 = iv ((j : Int)) ∧ ρ 43 = iv ((q6 : Int)) ∧ ρ 44 = iv ((i : Int)) ∧ Sub [k8, (BX b1 (pkT kind num ref ks cv) 30), k7, kq6, c6] M ∧ i ≤ q6 ∧ Own 81 35 ks6 es8 k8 ∧ es8.length = q6 ∧ k = q6 - i) _ ⟨0, esp6, kp6, rfl, rfl, rfl, rfl, rfl, rfl, (Sub.cons 2 rfl (Sk (Sk (Sk (Sk Sub.nil))))), Nat.zero_le _, hOp, hq6, rfl⟩ ?_
  rintro _ ρ24 _ ⟨i, es8, k8, e25, e26, e27, e28, e29, e30, hm31, hi, ho8, hl8, rfl⟩
  obtain ⟨ρ32, rfl⟩ := Zr (uc e25 (uc e26 (uc e27 (uc e28 (uc e29 (uc e30 un))))))
  clear e25 e26 e27 e28 e29 e30
  refine ZG hm31 <| Zc <| Za <| JLn (Pu.lss rfl rfl) <| Zb <| Zc <| Zg rfl (fun h33 => ?_) (fun h33 => ?_)
  ·replace h33 := dt h33
   have h33n : i < q6 := by omega
   refine Zj <| Zc <| Zn <| Zc <| Za <| JLM rfl <| JLA rfl <| Zb <| Za <| JLq (pp b1 35) (ZR rfl rfl) <| JLr (Zd YA rfl (At.bx 1 rfl) (ZT ..) <| JLM rfl ?_)
   obtain ⟨b34, cap34, row34, hv34, hm34, hs34⟩ := ho7.at' hE
   refine JLq (pp b34 (0 + j * 71)) (Pu.idx j Tryz.runUnderlying28 YV hv34 rfl rfl (by rw [hl7]; exact h20n)) <| JLq (pp b34 (0 + j * 71)) (Xi rfl rfl) <| JLq (pp b34 (0 + j * 71 + 34)) (Z5 rfl rfl) <| JLr (Zd Xa rfl (At.k 2 rfl hm34) (sub_get hs34 (get_l (Yf ..))) <| JLM rfl <| JLq (.agg ⟨pkP 98 0 zS nS⟩) (Pu.build (pv := [(0, iv 98)]) (l := pkP 98 0 zS nS) rfl (bld81_0 _)) ?_)
   obtain ⟨b35, cap35, row35, hv35, hm35, hs35⟩ := ho8.at (j := i) (by rw [hl8]; exact h33n)
   refine JLq (pp b35 (0 + i * 35)) (Pu.idx i Tryz.runUnderlying79 Z1 hv35 rfl rfl (by rw [hl8]; exact h33n)) <| JLr (Xo (i := 0) (j := i) (b := b35) Z1 rfl ho8 ⟨_, _, hv35⟩ rfl (by rw [hl8]; exact h33n) rfl rfl rfl (pkP_ok rfl) fun k36 ho36 => Zb <| Za <| JLn (Pu.inc rfl rfl (by omega)) <| JLM rfl <| Zb <| ⟨_, ?_, (i + 1), (es8.set i (pkP 98 0 zS nS)), k36, rfl, rfl, rfl, rfl, rfl, rfl, (Sk (Sk (Sk (Sk (Sk Sub.nil))))), ?_, ?_, ?_, rfl⟩)
   ·omega
   ·omega
   ·exact ho36
   rw [List.length_set]; exact hl8
  replace h33 := df h33
  have h33n : q6 ≤ i := by omega
  refine Zz _ rfl <| Za <| JLq (pp b1 35) (ZR rfl rfl) <| JLr (Zd YA rfl (At.bx 1 rfl) (ZT ..) <| JLM rfl <| JLq (.agg ⟨(pkP 0 0 zS nS) ++ (pkT 0 0 zS nS nS)⟩) (Pu.build (pv := []) (l := (pkP 0 0 zS nS) ++ (pkT 0 0 zS nS nS)) rfl bld86_) ?_)
  obtain ⟨b37, cap37, row37, hv37, hm37, hs37⟩ := ho7.at' hE
  refine JLq (pp b37 (0 + j * 71)) (Pu.idx j Tryz.runUnderlying28 YV hv37 rfl rfl (by rw [hl7]; exact h20n)) <| JLr (Xo (i := 2) (j := j) (b := b37) YV rfl ho7 ⟨_, _, hv37⟩ rfl (by rw [hl7]; exact h20n) rfl rfl rfl (Yg (pkP_ok rfl) (ZS rfl rfl)) fun k38 ho38 => Zb <| Za <| JLn (Pu.inc rfl rfl (by omega)) <| JLM rfl <| Zb <| ⟨_, ?_, (j + 1), (es7.set j ((pkP 0 0 zS nS) ++ (pkT 0 0 zS nS nS))), k38, c6, rfl, rfl, rfl, (Sd (Sk (Sk (Sd (Sk Sub.nil))))), ?_, ?_, ?_, ?_, rfl⟩)
  ·omega
  ·omega
  ·exact ho38
  ·rw [List.length_set]; exact hl7
  exact hR6 _
 replace h20 := df h20
 have h20n : cases.length ≤ j := by omega
 refine Zz _ rfl <| ⟨.tuple ⟨[]⟩, [], Ret.none rfl, Sub.nil, ?_⟩
 exact ⟨rfl, rfl⟩
end Go.Proofs.YtkjafeejpmcnkaaGreat.Hs
/-! Walks, printed by a program of this session's own (gen.py). -/
namespace Go.Proofs.YtkjafeejpmcnkaaGreat.Hs
open Go Go.Proofs
set_option maxRecDepth 100000
set_option linter.unusedVariables false
set_option linter.unusedSimpArgs false
attribute [local irreducible] JL J CT wlo DT
theorem ownTerm_ct : ∀ (t : Tm) (cs : List Value) (H : Heap), RT H cs t → sizeT t ≤ 1000000 → CT Tryz.prog 13 ⟨[.agg ⟨cs⟩]⟩ [] H (fun v N => ∃ cs k, v = .agg ⟨cs⟩ ∧ N = [k] ∧ OT t cs k) := by
 intro t
 induction t using Tm.ind with
 | h kind num ref kids cases ih ih' =>
 intro cs H ht hz
 rw [sizeT] at hz
 have hlk := len_sizeTs kids
 have hlc := len_sizeCs cases
 obtain ⟨ks, cv, rfl, hk, hn, hks, hcv⟩ := RT_mk.1 ht
 refine Zm Tryz.func13 rfl rfl <| Zc <| Za <| JLr (Zq (l := pkT kind num ref ks cv) rfl rfl fun b1 => JLr (Zk (l := pkT 0 0 zS nS nS) Tryz.zeroValue30 rfl fun b2 => Zb <| Zc <| ZJ mixed #[0, 1, 0, 4, 3, 31] 5 [some 9, some 10, some 11, some 12, some 3] [] [] rfl (by kernel_rfl) rfl (by kernel_rfl) <| Dq (pp b1 34) (fun _ => Z3 rfl rfl) <| Dl1 Y0 (At.bx 1 rfl) (Z4 ..) <| Dq (pp b1 35) (fun _ => ZR rfl rfl) <| Dl1 YA (At.bx 1 rfl) (ZT ..) <| Dq ks (fun _ => Pu.assign rfl) ?_))
 refine ZV (M' := [(BX b2 (pkT 0 0 zS nS nS) 30), (BX b1 (pkT kind num ref ks cv) 30)]) rfl ?_
 show JL _ _ _ [_] _ _ _
 refine JLa cv <| Zb <| Zc <| Za <| JLq (pp b1 34) (Z3 rfl rfl) <| JLr (Ze 1 (vs := [nS]) (l := pkT kind num ref nS cv) Y0 rfl rfl rfl rfl rfl (Zf rfl Zo) (pkT_s34 ..) <| JLq (pp b1 35) (ZR rfl rfl) <| JLr (Ze 1 (vs := [nS]) (l := pkT kind num ref nS nS) YA rfl rfl rfl rfl rfl (Zf rfl Zo) (pkT_s35 ..) <| Zb <| Zc <| Zc <| Za <| JLm ks ?_))
 obtain ⟨a3, cap3, hv3⟩ := hks.sl
 have hle3 := hks.le
 refine JLn (Pu.lenSl Tryz.runUnderlying27 hv3) <| JLM rfl <| Zb <| Zn <| ZB (fun k ρ M => ∃ (j : Nat) (v : Value) (es : List (List Value)) (k1 k2 : Zi), ρ 1 = pp b1 0 ∧ ρ 2 = pp b2 0 ∧ ρ 4 = cv ∧ ρ 15 = ks ∧ ρ 16 = iv ((kids.length : Int)) ∧ ρ 17 = iv ((j : Int)) ∧ Sub [(BX b1 (pkT kind num ref v nS) 30), k1, k2, (BX b2 (pkT 0 0 zS nS nS) 30)] M ∧ j ≤ kids.length ∧ Own 30 36 v es k1 ∧ OTs ((kids.take j)) es k2 ∧ k = kids.length - j) _ ⟨0, nS, [], [], [], rfl, rfl, rfl, rfl, rfl, rfl, (Sub.cons 1 rfl (Sub.emp (Sub.emp (Sk Sub.nil)))), Nat.zero_le _, Own.nil, OTs.nil, rfl⟩ ?_
 rintro _ ρ4 _ ⟨j, v, es, k1, k2, e5, e6, e7, e8, e9, e10, hm11, hj, hov, hopv, rfl⟩
 obtain ⟨ρ12, rfl⟩ := Zr (uc e5 (uc e6 (uc e7 (uc e8 (uc e9 (uc e10 un))))))
 clear e5 e6 e7 e8 e9 e10
 refine ZG hm11 ?_
 have hlen := hks.le
 refine Zc <| Za <| JLn (Pu.lss rfl rfl) <| Zb <| Zc <| Zg rfl (fun h13 => ?_) (fun h13 => ?_)
 ·replace h13 := dt h13
  have h13n : j < kids.length := by omega
  have helv := OTs_len hopv
  rw [List.length_take] at helv
  have hs1 := Y4 _ (List.getElem_mem h13n)
  refine Zj <| Zc <| Zn <| Zc <| Za ?_
  obtain ⟨b14, o14, cap14, row14, T14, fr14, cs14, hv14, hb14, hs14, hE14⟩ := hks.get j (by first | assumption | omega | decide | simp)
  refine JLq (pp b14 (o14 + j * 36)) (Pu.idx j Tryz.runUnderlying27 Zt hv14 rfl rfl (by first | assumption | omega | decide | simp)) <| JLr (Zh Zt rfl (At.im hb14) hs14 <| JLr (Zk (l := pkT 0 0 zS nS nS) Tryz.zeroValue30 rfl fun b15 => JLr (Ze 0 (vs := cs14) (l := cs14) Zt rfl rfl rfl rfl (Zu hE14) (XG hE14) (ZK (n := 36) rfl (Zu hE14)) <| Zb <| ZJ mixed #[0, 1, 0, 4, 12, 31, 63, 127] 5 [some 21, some 22, some 23, some 24, some 25] [] [(3, fun _ _ vw qw => ∃ cs k, vw = .agg ⟨cs⟩ ∧ qw = [k] ∧ OT (kids[j]) cs k), (4, fun r _ vw qw => ∃ b k, vw = .slice (some ⟨b, 0, none⟩) 1 1 ∧ qw = [k] ∧ Own 30 36 (.slice (some ⟨b, 0, none⟩) 1 1) [(cel (r 3))] k ∧ k = (BX b (List.flatten [(cel (r 3))]) 30))] rfl (by kernel_rfl) rfl (by kernel_rfl) <| Dq (pp b1 34) (fun _ => Z3 rfl rfl) <| Dl1 Y0 (At.bx 1 rfl) (Z4 ..) <| Dl Zt (At.bx 0 rfl) (Zs (Zu hE14)) ?_)))
  refine Dc rfl Tryz.call13 (fun _ => rfl) (fun hin => ih _ (List.getElem_mem h13n) _ _ (RT.mono (Hle.hu _ _) hE14) (by omega)) ?_
  rintro _ _ ⟨cs18, k18, rfl, rfl, hO18⟩
  refine Dr rfl (fun _ => Zp (vs := [.agg ⟨cs18⟩]) [cs18] Tryz.runUnderlying27 el30 rfl rfl (by intro e he; simp only [List.mem_cons, List.not_mem_nil, or_false] at he; subst he; exact hO18.len) rfl (by decide) fun b k h1 h2 => ⟨[k], by rw [ZN rfl]; exact Sub.refl, b, k, rfl, rfl, h1, h2⟩) (fun _ _ ⟨b19, k19, e1, e2, ho19, hk19⟩ => ?_); subst e1 e2
  refine ZV (M' := [k19, k18, (BX b15 cs14 30), (BX b1 (pkT kind num ref v nS) 30), k1, k2, (BX b2 (pkT 0 0 zS nS nS) 30)]) rfl ?_
  show JL _ _ _ [_, _, _] _ _ _
  have hlens20 : ∀ e ∈ ([cs18] : List (List Value)), List.length e = 36 := by
   intro e he; simp only [List.mem_cons, List.not_mem_nil, or_false] at he
   rcases he with rfl
   ·exact hO18.len
  have hoks20 : ∀ e ∈ ([cs18] : List (List Value)), okc e := by
   intro e he; simp only [List.mem_cons, List.not_mem_nil, or_false] at he
   rcases he with rfl
   ·exact hO18.ok
  refine JLr (Zx (i := 4) (n := 1) (es' := [cs18]) Tryz.runUnderlying27 Tryz.runUnderlying27 (Or.inl rfl) el30 rfl rfl rfl hov (fun F w m => Src.row (((At.k 0 rfl (by rw [hk19]; exact List.mem_cons_self))).heap m) (Zs (Zw hlens20))) rfl hlens20 hoks20 (by decide) (by omega) fun v20 k20 ho20 => JLq (pp b1 34) (Z3 rfl rfl) <| JLr (Ze 3 (vs := [v20]) (l := pkT kind num ref v20 nS) Y0 rfl rfl rfl (ZH ho20.one) rfl (Zf ho20.one Zo) (pkT_s34 ..) <| Zb <| Za <| JLn (Pu.inc rfl rfl (by omega)) <| JLM rfl <| Zb <| ⟨_, ?_, (j + 1), v20, (es ++ [cs18]), k20, (k2 ++ k18), rfl, rfl, rfl, rfl, rfl, rfl, (Sd (Sub.cons 2 rfl (Sub.cons 2 rfl (Sub.join (Sub.cons 2 rfl (Sk (Sd (Sk Sub.nil)))))))), ?_, ?_, ?_, rfl⟩))
  ·omega
  ·omega
  ·assumption
  rw [List.take_succ_eq_append_getElem h13n]; exact OTs.snoc hO18 hopv
 replace h13 := df h13
 have h13n : kids.length ≤ j := by omega
 refine Zz _ rfl <| Zc <| Zc <| Za <| JLm cv ?_
 obtain ⟨a21, cap21, hv21⟩ := hcv.sl
 have hle21 := hcv.le
 refine JLn (Pu.lenSl Tryz.runUnderlying28 hv21) <| JLM rfl <| Zb <| Zn ?_
 rw [List.take_of_length_le h13n] at hopv
 refine ZB (fun k ρ M => ∃ (j : Nat) (w : Value) (es2 : List (List Value)) (k3 k4 : Zi), ρ 1 = pp b1 0 ∧ ρ 2 = pp b2 0 ∧ ρ 29 = cv ∧ ρ 30 = iv ((cases.length : Int)) ∧ ρ 31 = iv ((j : Int)) ∧ Sub [(BX b1 (pkT kind num ref v w) 30), k3, k4, k1, k2, (BX b2 (pkT 0 0 zS nS nS) 30)] M ∧ j ≤ cases.length ∧ Own 86 71 w es2 k3 ∧ OCs ((cases.take j)) es2 k4 ∧ k = cases.length - j) _ ⟨0, nS, [], [], [], rfl, rfl, rfl, rfl, rfl, (Sk (Sub.emp (Sub.emp (Sk (Sk (Sk Sub.nil)))))), Nat.zero_le _, Own.nil, OCs.nil, rfl⟩ ?_
 rintro _ ρ22 _ ⟨j, w, es2, k3, k4, e23, e24, e25, e26, e27, hm28, hj, how, hopw, rfl⟩
 obtain ⟨ρ29, rfl⟩ := Zr (uc e23 (uc e24 (uc e25 (uc e26 (uc e27 un)))))
 clear e23 e24 e25 e26 e27
 refine ZG hm28 ?_
 have hlen := hcv.le
 refine Zc <| Za <| JLn (Pu.lss rfl rfl) <| Zb <| Zc <| Zg rfl (fun h30 => ?_) (fun h30 => ?_)
 ·replace h30 := dt h30
  have h30n : j < cases.length := by omega
  have helw := OCs_len hopw
  rw [List.length_take] at helw
  have hs1 := YN _ (List.getElem_mem h30n)
  refine Zj <| Zc <| Zn <| Zc <| Za ?_
  obtain ⟨b31, o31, cap31, row31, T31, fr31, cs31, hv31, hb31, hs31, hE31⟩ := hcv.get j (by first | assumption | omega | decide | simp)
  obtain ⟨ca31, cb31, rfl, hA31, hB31⟩ := hE31
  refine JLq (pp b31 (o31 + j * 71)) (Pu.idx j Tryz.runUnderlying28 YV hv31 rfl rfl (by first | assumption | omega | decide | simp)) <| JLr (Zh YV rfl (At.im hb31) hs31 <| JLr (Zk (l := (pkP 0 0 zS nS) ++ (pkT 0 0 zS nS nS)) Tryz.zeroValue86 rfl fun b32 => JLr (Ze 0 (vs := ca31 ++ cb31) (l := ca31 ++ cb31) YV rfl rfl rfl rfl (Z6 (ZC hA31) (Zu hB31)) (Yg (RP_ok hA31) (XG hB31)) (ZK (n := 71) rfl (Z6 (ZC hA31) (Zu hB31))) <| Zb <| ZJ mixed #[0, 1, 0, 4, 12, 0, 32, 124, 252, 508, 1023, 2047, 4095] 10 [some 35, some 36, some 37, some 38, some 39, some 40, some 41, some 42, some 43, some 44] [] [(4, fun _ _ vw qw => ∃ cs k, vw = .agg ⟨cs⟩ ∧ qw = [k] ∧ OP (cases[j].1) cs k), (7, fun _ _ vw qw => ∃ cs k, vw = .agg ⟨cs⟩ ∧ qw = [k] ∧ OT (cases[j].2) cs k), (9, fun r _ vw qw => ∃ b k, vw = .slice (some ⟨b, 0, none⟩) 1 1 ∧ qw = [k] ∧ Own 86 71 (.slice (some ⟨b, 0, none⟩) 1 1) [((cel (r 4))) ++ ((cel (r 7)))] k ∧ k = (BX b (List.flatten [((cel (r 4))) ++ ((cel (r 7)))]) 86))] rfl (by kernel_rfl) rfl (by kernel_rfl) <| Dq (pp b1 35) (fun _ => ZR rfl rfl) <| Dl1 YA (At.bx 1 rfl) (ZT ..) <| Dq (pp b32 0) (fun _ => Xi rfl rfl) <| Dl Z1 (At.bx 0 rfl) (sub_l (ZC hA31)) ?_)))
  refine Dc rfl Tryz.call47 (fun _ => rfl) (fun hin => ownPattern_ct _ _ _ (RP.mono (Hle.hu _ _) hA31) (by omega)) ?_
  rintro _ _ ⟨cs36, k36, rfl, rfl, hO36⟩
  refine Dq (pp b32 35) (fun _ => fa86_1 rfl rfl) <| Dl Zt (At.bx 0 rfl) (sub_r (ZC hA31) (Zu hB31)) ?_
  refine Dc rfl Tryz.call13 (fun _ => rfl) (fun hin => ih' _ (List.getElem_mem h30n) _ _ (RT.mono (Hle.hu _ _) hB31) (by omega)) ?_
  rintro _ _ ⟨cs37, k37, rfl, rfl, hO37⟩
  refine Dq (.agg ⟨cs36 ++ cs37⟩) (fun _ => Pu.build (pv := [(0, .agg ⟨cs36⟩), (1, .agg ⟨cs37⟩)]) (l := cs36 ++ cs37) rfl (bld86_0_1 hO36.len hO37.len)) <| Dr rfl (fun _ => Zp (vs := [.agg ⟨cs36 ++ cs37⟩]) [cs36 ++ cs37] Tryz.runUnderlying28 el86 rfl rfl (by intro e he; simp only [List.mem_cons, List.not_mem_nil, or_false] at he; subst he; exact (Z6 hO36.len hO37.len)) rfl (by decide) fun b k h1 h2 => ⟨[k], by rw [ZN rfl]; exact Sub.refl, b, k, rfl, rfl, h1, h2⟩) (fun _ _ ⟨b38, k38, e1, e2, ho38, hk38⟩ => ?_); subst e1 e2
  refine ZV (M' := [k38, k37, k36, (BX b32 (ca31 ++ cb31) 86), (BX b1 (pkT kind num ref v w) 30), k3, k4, k1, k2, (BX b2 (pkT 0 0 zS nS nS) 30)]) rfl ?_
  show JL _ _ _ [_, _, _] _ _ _
  have hlens39 : ∀ e ∈ ([cs36 ++ cs37] : List (List Value)), List.length e = 71 := by
   intro e he; simp only [List.mem_cons, List.not_mem_nil, or_false] at he
   rcases he with rfl
   ·exact (Z6 hO36.len hO37.len)
  have hoks39 : ∀ e ∈ ([cs36 ++ cs37] : List (List Value)), okc e := by
   intro e he; simp only [List.mem_cons, List.not_mem_nil, or_false] at he
   rcases he with rfl
   ·exact (Yg hO36.ok hO37.ok)
  refine JLr (Zx (i := 5) (n := 1) (es' := [cs36 ++ cs37]) Tryz.runUnderlying28 Tryz.runUnderlying28 (Or.inl rfl) el86 rfl rfl rfl how (fun F w m => Src.row (((At.k 0 rfl (by rw [hk38]; exact List.mem_cons_self))).heap m) (Zs (Zw hlens39))) rfl hlens39 hoks39 (by decide) (by omega) fun v39 k39 ho39 => JLq (pp b1 35) (ZR rfl rfl) <| JLr (Ze 4 (vs := [v39]) (l := pkT kind num ref v v39) YA rfl rfl rfl (ZH ho39.one) rfl (Zf ho39.one Zo) (pkT_s35 ..) <| Zb <| Za <| JLn (Pu.inc rfl rfl (by omega)) <| JLM rfl <| Zb <| ⟨_, ?_, (j + 1), v39, (es2 ++ [cs36 ++ cs37]), k39, (k4 ++ (k36 ++ k37)), rfl, rfl, rfl, rfl, rfl, (Sd (Sub.cons 3 rfl (Sub.cons 3 rfl (Sub.join3 (Sub.cons 3 rfl (Sub.cons 1 rfl (Sk (Sd (Sk (Sk (Sk Sub.nil))))))))))), ?_, ?_, ?_, rfl⟩))
  ·omega
  ·omega
  ·assumption
  rw [List.take_succ_eq_append_getElem h30n]; exact OCs.snoc hO36 hO37 hopw
 replace h30 := df h30
 have h30n : cases.length ≤ j := by omega
 refine Zz _ rfl <| Zc <| Za <| JLr (Zh Zt rfl (At.bx 0 rfl) (Yz ..) <| JLr (Ze 5 (vs := pkT kind num ref v w) (l := pkT kind num ref v w) Zt rfl rfl rfl rfl rfl (ZS hov.one how.one) (YU ..) <| Zb <| Zl <| ⟨.agg ⟨pkT kind num ref v w⟩, [k1 ++ (k2 ++ (k3 ++ k4))], Ret.one rfl (RV.cell Zt rfl (At.bx 5 rfl) (Yz ..)), (Sub.join4 (Sd (Sub.cons 2 rfl (Sub.cons 2 rfl (Sk (Sk Sub.nil)))))), ?_⟩))
 rw [List.take_of_length_le h30n] at hopw
 exact ⟨_, _, rfl, rfl, OT_mk.2 ⟨v, w, es, es2, k1, k2, k3, k4, rfl, hk, hn, hov, hopv, how, hopw, rfl, hks.le, hcv.le⟩⟩
end Go.Proofs.YtkjafeejpmcnkaaGreat.Hs
/-! How a term is read from an item by the reference; both answers are the same. -/
namespace Go.Proofs.YtkjafeejpmcnkaaGreat.Hs
open Go Go.Proofs
mutual
def szI : It → Nat
  | .mk _ _ _ kids => 1 + Z2 kids
def Z2 : List It → Nat
  | [] => 0
  | x :: l => szI x + Z2 l
end
theorem szI_pos (x : It) : 1 ≤ szI x := by cases x; rw [szI]; omega
theorem szIs_drop {l : List It} {j : Nat} (h : j < l.length) : Z2 (l.drop j) = szI l[j] + Z2 (l.drop (j + 1)) := by rw [ZW h, Z2]
theorem Xl {l : List It} : ∀ {x : It}, x ∈ l → szI x ≤ Z2 l := by
  induction l with
  | nil => intro x hx; cases hx
  | cons y l ih =>
    intro x hx
    rw [Z2]
    rcases List.mem_cons.1 hx with rfl | hx
    · omega
    · have := ih hx; omega
theorem Y2 (l : List It) : l.length ≤ Z2 l := by
  induction l with
  | nil => simp
  | cons x l ih => rw [Z2, List.length_cons]; have := szI_pos x; omega
/-- what was begun is counted -/
theorem ptG_cnt (x : It) : ∀ (d : Int) (σ : Int × Bool), σ.1 + 1 ≤ (ptG x d σ).2.1 ∧ (ptG x d σ).2.1 ≤ σ.1 + szI x := by
  induction x using It.ind with
  | h k m t kids ih =>
    intro d σ
    rw [ptG, szI]
    split
    · simp only; omega
    · have hK : ∀ (l : List It) (σ : Int × Bool), (∀ x ∈ l, ∀ (d : Int) (σ : Int × Bool), σ.1 + 1 ≤ (ptG x d σ).2.1 ∧ (ptG x d σ).2.1 ≤ σ.1 + szI x) → σ.1 ≤ (Xp l (d + 1) σ).2.1 ∧ (Xp l (d + 1) σ).2.1 ≤ σ.1 + Z2 l := by
        intro l
        induction l with
        | nil => intro σ _; rw [Xp, Z2]; simp
        | cons x l ihl =>
          intro σ hl
          rw [Xp, Z2]
          have h1 := hl x (by simp) (d + 1) σ
          have h2 := ihl (ptG x (d + 1) σ).2 (fun y hy => hl y (by simp [hy]))
          simp only at h2 ⊢
          omega
      have := hK kids (σ.1 + 1, Yy (decide (k = 33)) t) ih
      simp only at this ⊢
      omega
theorem tmG_cnt (x : It) : (∀ (d : Int) (σ : Int × Bool), σ.1 + 1 ≤ (tmG x d σ).2.1 ∧ (tmG x d σ).2.1 ≤ σ.1 + szI x) ∧ (∀ y ∈ x.kids, ∀ (d : Int) (σ : Int × Bool), σ.1 + 1 ≤ (tmG y d σ).2.1 ∧ (tmG y d σ).2.1 ≤ σ.1 + szI y) := by
  induction x using It.ind with
  | h k m t kids ih =>
    refine ⟨?_, fun y hy => (ih y hy).1⟩
    intro d σ
    rw [tmG, szI]
    split
    · simp only; omega
    · have hK : ∀ (l : List It) (ks : List Tm) (cs : List (Pt × Tm)) (σ : Int × Bool), (∀ x ∈ l, (∀ (d : Int) (σ : Int × Bool), σ.1 + 1 ≤ (tmG x d σ).2.1 ∧ (tmG x d σ).2.1 ≤ σ.1 + szI x) ∧ (∀ y ∈ x.kids, ∀ (d : Int) (σ : Int × Bool), σ.1 + 1 ≤ (tmG y d σ).2.1 ∧ (tmG y d σ).2.1 ≤ σ.1 + szI y)) → σ.1 ≤ (Yx l (d + 1) ks cs σ).2.1 ∧ (Yx l (d + 1) ks cs σ).2.1 ≤ σ.1 + Z2 l := by
        intro l
        induction l with
        | nil => intro ks cs σ _; rw [Yx, Z2]; simp
        | cons x l ihl =>
          intro ks cs σ hl
          rw [Z2]
          have h1 := hl x (by simp)
          have hl' := fun y hy => hl y (List.mem_cons_of_mem x hy)
          by_cases hc : ∃ t a b, x = .mk 20 0 t [a, b]
          · obtain ⟨t, a, b, rfl⟩ := hc
            rw [tmGs_case]
            rw [szI, Z2, Z2, Z2]
            split
            · have := ihl ks cs (σ.1, true) hl'
              simp only at this ⊢
              omega
            · have h2 := ptG_cnt a (d + 1) σ
              have h3 := h1.2 b (by simp [It.kids]) (d + 1) (ptG a (d + 1) σ).2
              have := ihl ks (cs ++ [((ptG a (d + 1) σ).1, (tmG b (d + 1) (ptG a (d + 1) σ).2).1)]) (tmG b (d + 1) (ptG a (d + 1) σ).2).2 hl'
              omega
          · rw [tmGs_kid (fun t a b e => hc ⟨t, a, b, e⟩)]
            split
            · have h2 := h1.1 (d + 1) (σ.1, σ.2 || decide (0 < cs.length))
              have := ihl (ks ++ [(tmG x (d + 1) (σ.1, σ.2 || decide (0 < cs.length))).1]) cs (tmG x (d + 1) (σ.1, σ.2 || decide (0 < cs.length))).2 hl'
              simp only at h2 this ⊢
              omega
            · have := ihl ks cs (σ.1, true) hl'
              simp only at this ⊢
              have := szI_pos x
              omega
      have := hK kids [] [] (σ.1 + 1, Yy (ZF k) t) ih
      simp only at this ⊢
      omega
/-! steps of the program's rounds -/
theorem it_case {y : It} (h1 : y.kind = 20) (h2 : y.num = 0) (h3 : y.text = ⟨#[]⟩) (h4 : y.kids.length = 2) : y = .mk 20 0 ⟨#[]⟩ [y.kids[0], y.kids[1]] := by
  cases y with
  | mk k n t kids =>
    simp only [It.kind, It.num, It.text, It.kids] at h1 h2 h3 h4 ⊢
    subst h1 h2 h3
    congr 1
    apply List.ext_getElem
    · simp [h4]
    · intro i hi1 hi2
      have : i = 0 ∨ i = 1 := by simp at hi2; omega
      rcases this with rfl | rfl <;> rfl
theorem tmGs_c {y : It} (h1 : y.kind = 20) (h2 : y.num = 0) (h3 : y.text = ⟨#[]⟩) (h4 : y.kids.length = 2) (l : List It) (d : Int) (ks : List Tm) (cs : List (Pt × Tm)) (σ : Int × Bool) : Yx (y :: l) d ks cs σ = Yx l d ks (cs ++ [((ptG y.kids[0] d σ).1, (tmG y.kids[1] d (ptG y.kids[0] d σ).2).1)]) (tmG y.kids[1] d (ptG y.kids[0] d σ).2).2 := by
  obtain ⟨a, ha⟩ : ∃ a, a = y.kids[0] := ⟨_, rfl⟩
  obtain ⟨b, hb⟩ : ∃ b, b = y.kids[1] := ⟨_, rfl⟩
  have e := it_case h1 h2 h3 h4
  rw [← ha, ← hb] at e ⊢
  rw [e, tmGs_case, if_neg (fun z => z rfl)]
theorem tmGs_k {y : It} (h1 : ¬ y.kind = 20) (l : List It) (d : Int) (ks : List Tm) (cs : List (Pt × Tm)) (σ : Int × Bool) : Yx (y :: l) d ks cs σ = Yx l d (ks ++ [(tmG y d (σ.1, σ.2 || decide (0 < cs.length))).1]) cs (tmG y d (σ.1, σ.2 || decide (0 < cs.length))).2 := by
  rw [tmGs_kid (fun t a b e => h1 (by rw [e]; rfl)), if_pos h1]
theorem tmGs_w {y : It} (h1 : y.kind = 20) (h2 : ¬ (y.num = 0 ∧ y.text = ⟨#[]⟩ ∧ y.kids.length = 2)) (l : List It) (d : Int) (ks : List Tm) (cs : List (Pt × Tm)) (σ : Int × Bool) : Yx (y :: l) d ks cs σ = Yx l d ks cs (σ.1, true) := by
  by_cases hc : ∃ t a b, y = .mk 20 0 t [a, b]
  · obtain ⟨t, a, b, rfl⟩ := hc
    have ht : ¬ t = ⟨#[]⟩ := fun z => h2 ⟨rfl, z, rfl⟩
    rw [tmGs_case, if_pos ht]
  · rw [tmGs_kid (fun t a b e => hc ⟨t, a, b, e⟩), if_neg (fun z => z h1)]
theorem ptGs_cons {kids : List It} {j : Nat} (hj : j < kids.length) (d : Int) (σ : Int × Bool) : Xp (kids.drop j) d σ = ((ptG kids[j] d σ).1 :: (Xp (kids.drop (j + 1)) d (ptG kids[j] d σ).2).1, (Xp (kids.drop (j + 1)) d (ptG kids[j] d σ).2).2) := by rw [ZW hj, Xp]
theorem refW_eq (has : Bool) (t : ByteArray) : ((has && !decide ((t.size : Int) = 32)) || (!has && !decide (t = ⟨#[]⟩))) = Yy has t := by
  unfold Yy
  have : decide ((t.size : Int) = 32) = decide (t.size = 32) := by
    apply decide_eq_decide.2; omega
  rw [this]
  simp
theorem refV_w {has : Bool} {t : ByteArray} (h : Yy has t = true) : Ys has t = zS := by unfold Ys; rw [if_pos h]
theorem refV_ok {has : Bool} {t : ByteArray} (h : Yy has t = false) : t.size ≤ 32 ∧ spl (sC zS) 0 ((sB t).map (fun n => Value.int .u8 n)) = some (sC (Ys has t)) := by
  cases has with
  | true =>
    have h1 : t.size = 32 := by simpa [Yy] using h
    refine ⟨by omega, ?_⟩
    have e : Ys true t = smS t := by unfold Ys; rw [h]; rfl
    rw [e, ← sC_str h1]
    have hl : ((sB t).map (fun n => Value.int .u8 n)).length = 32 := by rw [List.length_map, Y5]; exact h1
    rw [spl_mk (by rw [hl, sC_len]; omega), hl]
    rw [List.take_zero, List.nil_append, List.drop_of_length_le (by rw [sC_len]; omega), List.append_nil]
  | false =>
    have h1 : t = ⟨#[]⟩ := by simpa [Yy] using h
    subst h1
    refine ⟨by decide, ?_⟩
    have e : Ys false ⟨#[]⟩ = zS := by unfold Ys; rw [h]; rfl
    rw [e]
    have e2 : (sB ⟨#[]⟩).map (fun n => Value.int .u8 n) = [] := rfl
    rw [e2, spl_mk (by simp)]
    simp
/-! ### the reference -/
def Y1 (t : ByteArray) : Sm × Bool := if t.size = 32 then (smS t, true) else (zS, false)
mutual
def rpP : It → Pt × Bool
  | .mk k m t kids =>
    (.mk (Yr k) m (if Yr k = 3 then (Y1 t).1 else zS) (Xu kids (if Yr k = 3 then (Y1 t).2 else decide (t = ⟨#[]⟩))).1, (Xu kids (if Yr k = 3 then (Y1 t).2 else decide (t = ⟨#[]⟩))).2)
def Xu : List It → Bool → List Pt × Bool
  | [], b => ([], b)
  | x :: l, b => if b = true then ((rpP x).1 :: (Xu l (rpP x).2).1, (Xu l (rpP x).2).2) else ([], false)
end
mutual
def rtT : It → Tm × Bool
  | .mk k m t kids =>
    (.mk k m (if ZF k = true then (Y1 t).1 else zS) (YI (decide (k = 9)) false kids [] [] (if ZF k = true then (Y1 t).2 else decide (t = ⟨#[]⟩))).1.1 (YI (decide (k = 9)) false kids [] [] (if ZF k = true then (Y1 t).2 else decide (t = ⟨#[]⟩))).1.2,
      (YI (decide (k = 9)) false kids [] [] (if ZF k = true then (Y1 t).2 else decide (t = ⟨#[]⟩))).2)
/-- nine: a match; late: not the first one -/
def YI (nine : Bool) : Bool → List It → List Tm → List (Pt × Tm) → Bool → (List Tm × List (Pt × Tm)) × Bool
  | _, [], ks, cs, b => ((ks, cs), b)
  | late, .mk 20 0 t [x, y] :: l, ks, cs, b =>
    if b = true then
      if (nine && late) = true then
        if t = ⟨#[]⟩ then YI nine true l ks (cs ++ [((rpP x).1, (rtT y).1)]) ((rpP x).2 && (rtT y).2) else ((ks, cs), false)
      else YI nine true l (ks ++ [(rtT (.mk 20 0 t [x, y])).1]) cs (rtT (.mk 20 0 t [x, y])).2
    else ((ks, cs), false)
  | late, x :: l, ks, cs, b =>
    if b = true then
      if (nine && late) = true then ((ks, cs), false)
      else YI nine true l (ks ++ [(rtT x).1]) cs (rtT x).2
    else ((ks, cs), false)
end
theorem rtTs_no {nine late : Bool} {l : List It} {ks : List Tm} {cs : List (Pt × Tm)} : YI nine late l ks cs false = ((ks, cs), false) := by
  cases l with
  | nil => rw [YI]
  | cons x l =>
    by_cases hc : ∃ t a b, x = .mk 20 0 t [a, b]
    · obtain ⟨t, a, b, rfl⟩ := hc; rw [YI, if_neg (by decide)]
    · rw [YI, if_neg (by decide)]; exact fun t a b e => hc ⟨t, a, b, e⟩
theorem rtTs_kid {nine late : Bool} (hn : (nine && late) = false) (x : It) (l : List It) (ks : List Tm) (cs : List (Pt × Tm)) : YI nine late (x :: l) ks cs true = YI nine true l (ks ++ [(rtT x).1]) cs (rtT x).2 := by
  by_cases hc : ∃ t a b, x = .mk 20 0 t [a, b]
  · obtain ⟨t, a, b, rfl⟩ := hc; rw [YI, if_pos rfl, hn, if_neg (by decide)]
  · rw [YI, if_pos rfl, hn, if_neg (by decide)]; exact fun t a b e => hc ⟨t, a, b, e⟩
theorem rtTs_case {nine late : Bool} (hn : (nine && late) = true) {x : It} (h1 : x.kind = 20) (h2 : x.num = 0) (h3 : x.text = ⟨#[]⟩) (h4 : x.kids.length = 2) (l : List It) (ks : List Tm) (cs : List (Pt × Tm)) : YI nine late (x :: l) ks cs true = YI nine true l ks (cs ++ [((rpP x.kids[0]).1, (rtT x.kids[1]).1)]) ((rpP x.kids[0]).2 && (rtT x.kids[1]).2) := by
  obtain ⟨a, ha⟩ : ∃ a, a = x.kids[0] := ⟨_, rfl⟩
  obtain ⟨b, hb⟩ : ∃ b, b = x.kids[1] := ⟨_, rfl⟩
  have e := it_case h1 h2 h3 h4
  rw [← ha, ← hb] at e ⊢
  rw [e, YI, if_pos rfl, if_pos hn, if_pos rfl]
theorem rtTs_bad {nine late : Bool} (hn : (nine && late) = true) {x : It} (h : ¬ (x.kind = 20 ∧ x.num = 0 ∧ x.text = ⟨#[]⟩ ∧ x.kids.length = 2)) (l : List It) (ks : List Tm) (cs : List (Pt × Tm)) : YI nine late (x :: l) ks cs true = ((ks, cs), false) := by
  by_cases hc : ∃ t a b, x = .mk 20 0 t [a, b]
  · obtain ⟨t, a, b, rfl⟩ := hc
    have ht : ¬ t = ⟨#[]⟩ := fun z => h ⟨rfl, rfl, z, rfl⟩
    rw [YI, if_pos rfl, if_pos hn, if_neg ht]
  · rw [YI, if_pos rfl, if_pos hn]; exact fun t a b e => hc ⟨t, a, b, e⟩
theorem dig_tx {t : ByteArray} (h : (Y1 t).2 = true) : txS (Y1 t).1 = t := by
  unfold Y1 at h ⊢
  split at h
  · rename_i hs; rw [if_pos hs]; exact tx_sm hs
  · cases h
theorem rpPs_no {l : List It} : (Xu l false).2 = false := by cases l <;> rw [Xu]; rw [if_neg (by decide)]
theorem rp_is (x : It) : (rpP x).2 = true → okI x → itP (rpP x).1 = x := by
  induction x using It.ind with
  | h k m t kids ih =>
    intro h hk
    rw [okI] at hk
    rw [rpP] at h ⊢
    have hw : (if Yr k = 3 then (Y1 t).2 else decide (t = ⟨#[]⟩)) = true := by
      cases e : (if Yr k = 3 then (Y1 t).2 else decide (t = ⟨#[]⟩)) with
      | true => rfl
      | false => rw [e] at h; simp only at h; rw [rpPs_no] at h; cases h
    rw [hw] at h ⊢
    have hK : ∀ (l : List It), (∀ x ∈ l, (rpP x).2 = true → okI x → itP (rpP x).1 = x) → Xh l → (Xu l true).2 = true → YW (Xu l true).1 = l := by
      intro l
      induction l with
      | nil => intro _ _ _; rw [Xu, YW]
      | cons x l ihl =>
        intro hl ho h
        rw [Xh] at ho
        rw [Xu, if_pos rfl] at h ⊢
        have h1 : (rpP x).2 = true := by
          cases e : (rpP x).2 with
          | true => rfl
          | false => rw [e] at h; simp only at h; rw [rpPs_no] at h; cases h
        rw [h1] at h ⊢
        rw [YW, hl x (by simp) h1 ho.1, ihl (fun y hy => hl y (by simp [hy])) ho.2 h]
    rw [itP, hK kids ih hk.2 h, wr30_in hk.1]
    have e : (30 : Int) + (k - 30) = k := by omega
    rw [e]
    rw [wr30_in hk.1] at hw
    by_cases h3 : k - 30 = 3
    · rw [if_pos h3] at hw; simp only [if_pos h3]; rw [dig_tx hw]
    · rw [if_neg h3] at hw; simp only [if_neg h3]; rw [of_decide_eq_true hw]
def rtOK (x : It) : Prop := (rtT x).2 = true → okI x → itT (rtT x).1 = x
theorem rtTs_is {nine : Bool} (l : List It) : ∀ (late : Bool) (ks : List Tm) (cs : List (Pt × Tm)) (b : Bool), (∀ x ∈ l, rtOK x) → (∀ x ∈ l, ∀ y ∈ x.kids, rtOK y) → Xh l → (YI nine late l ks cs b).2 = true → (late = false → ks = []) → ((nine && late) = false → cs = []) →
    Ym (YI nine late l ks cs b).1.1 ++ Yp (YI nine late l ks cs b).1.2 = Ym ks ++ Yp cs ++ l := by
  induction l with
  | nil => intro late ks cs b _ _ _ _ _ _; rw [YI, List.append_nil]
  | cons y l ihl =>
    intro late ks cs b h1 h2 ho h hlk hcs
    rw [Xh] at ho
    have h1' : ∀ x ∈ l, rtOK x := fun x hx => h1 x (by simp [hx])
    have h2' : ∀ x ∈ l, ∀ y ∈ x.kids, rtOK y := fun x hx => h2 x (by simp [hx])
    cases b with
    | false => rw [rtTs_no] at h; cases h
    | true =>
      cases hn : (nine && late) with
      | false =>
        rw [rtTs_kid hn] at h ⊢
        have hy : (rtT y).2 = true := by
          cases e : (rtT y).2 with
          | true => rfl
          | false => rw [e, rtTs_no] at h; cases h
        have hc := hcs hn
        subst hc
        have ey := h1 y (by simp) hy ho.1
        rw [ihl _ _ _ _ h1' h2' ho.2 h (by simp) (fun _ => rfl), itTs_app, Ym, Ym, ey, Yp]
        simp
      | true =>
        by_cases hg : y.kind = 20 ∧ y.num = 0 ∧ y.text = ⟨#[]⟩ ∧ y.kids.length = 2
        · obtain ⟨g1, g2, g3, g4⟩ := hg
          rw [rtTs_case hn g1 g2 g3 g4] at h ⊢
          have hb : ((rpP y.kids[0]).2 && (rtT y.kids[1]).2) = true := by
            cases e : ((rpP y.kids[0]).2 && (rtT y.kids[1]).2) with
            | true => rfl
            | false => rw [e, rtTs_no] at h; cases h
          rw [Bool.and_eq_true] at hb
          have ey := it_case g1 g2 g3 g4
          have hoy := ho.1
          have hok : Xh y.kids := by cases y; rw [okI] at hoy; exact hoy.2
          have ea := rp_is _ hb.1 (okIs_mem hok _ (List.getElem_mem (by omega)))
          have eb := h2 y (by simp) y.kids[1] (List.getElem_mem (by omega)) hb.2 (okIs_mem hok _ (List.getElem_mem (by omega)))
          have e3 : It.mk 20 0 ⟨#[]⟩ [y.kids[0], y.kids[1]] = y := ey.symm
          rw [ihl _ _ _ _ h1' h2' ho.2 h (fun z => by cases z) (fun z => by
            have : nine = true := by cases nine with
              | true => rfl
              | false => cases hn
            rw [this] at z; cases z), itCs_app, Yp, Yp, ea, eb, e3]
          simp
        · rw [rtTs_bad hn hg] at h; cases h
theorem rt_all (x : It) : rtOK x ∧ ∀ y ∈ x.kids, rtOK y := by
  induction x using It.ind with
  | h k m t kids ih =>
    refine ⟨?_, fun y hy => (ih y hy).1⟩
    intro h hk
    rw [okI] at hk
    rw [rtT] at h ⊢
    have hw : (if ZF k = true then (Y1 t).2 else decide (t = ⟨#[]⟩)) = true := by
      cases e : (if ZF k = true then (Y1 t).2 else decide (t = ⟨#[]⟩)) with
      | true => rfl
      | false => rw [e] at h; simp only at h; rw [rtTs_no] at h; cases h
    rw [hw] at h ⊢
    simp only at h ⊢
    rw [itT, rtTs_is kids _ _ _ _ (fun y hy => (ih y hy).1) (fun y hy => (ih y hy).2) hk.2 h (fun _ => rfl) (fun _ => rfl), Ym, Yp]
    by_cases h3 : ZF k = true
    · rw [if_pos h3] at hw; simp only [if_pos h3]; rw [dig_tx hw]; rfl
    · rw [if_neg h3] at hw; simp only [if_neg h3]; rw [of_decide_eq_true hw]; rfl
/-- what is read well is the term of which this is the item -/
theorem rt_is (x : It) (h : (rtT x).2 = true) (hk : okI x) : itT (rtT x).1 = x := (rt_all x).1 h hk
end Go.Proofs.YtkjafeejpmcnkaaGreat.Hs
/-! Right terms are read from their items by the reference too; both answers are the same. -/
namespace Go.Proofs.YtkjafeejpmcnkaaGreat.Hs
open Go Go.Proofs
/-! how many items, how deep, as far as a number -/
mutual
def exI : Int → It → Int × Int
  | m, .mk _ _ _ kids => ((exIs m kids 1 0).1, (exIs m kids 1 0).2 + 1)
def exIs : Int → List It → Int → Int → Int × Int
  | _, [], n, d => (n, d)
  | m, x :: l, n, d => if n ≤ m then exIs m l (n + (exI (m - 1) x).1) (max d (exI (m - 1) x).2) else (n, d)
end
mutual
def dpI : It → Int
  | .mk _ _ _ kids => 1 + dpIs kids
def dpIs : List It → Int
  | [] => 0
  | x :: l => max (dpI x) (dpIs l)
end
theorem dpIs_nn (l : List It) : 0 ≤ dpIs l := by
  induction l with
  | nil => rw [dpIs]; omega
  | cons x l ih => rw [dpIs]; omega
theorem exI_le (x : It) : ∀ m : Int, 1 ≤ (exI m x).1 ∧ (exI m x).1 ≤ szI x ∧ 1 ≤ (exI m x).2 ∧ (exI m x).2 ≤ dpI x := by
  induction x using It.ind with
  | h k n t kids ih =>
    intro m
    rw [exI, szI, dpI]
    have hK : ∀ (l : List It) (n d : Int), (∀ x ∈ l, ∀ m : Int, 1 ≤ (exI m x).1 ∧ (exI m x).1 ≤ szI x ∧ 1 ≤ (exI m x).2 ∧ (exI m x).2 ≤ dpI x) → n ≤ (exIs m l n d).1 ∧ (exIs m l n d).1 ≤ n + Z2 l ∧ d ≤ (exIs m l n d).2 ∧ (exIs m l n d).2 ≤ max d (dpIs l) := by
      intro l
      induction l with
      | nil => intro n d _; rw [exIs, Z2, dpIs]; simp only; omega
      | cons x l ihl =>
        intro n d hl
        rw [exIs, Z2, dpIs]
        have h1 := hl x (by simp) (m - 1)
        split
        · have := ihl (n + (exI (m - 1) x).1) (max d (exI (m - 1) x).2) (fun y hy => hl y (by simp [hy]))
          omega
        · simp only; omega
    have := hK kids 1 0 ih
    have h2 := dpIs_nn kids
    simp only
    omega
theorem szP_it (p : Pt) : (szI (itP p) : Int) = sizeP p ∧ dpI (itP p) = depP p := by
  induction p using Pt.ind with
  | h k n r kids ih =>
    rw [itP, szI, dpI, sizeP, depP]
    have hK : ∀ l : List Pt, (∀ x ∈ l, (szI (itP x) : Int) = sizeP x ∧ dpI (itP x) = depP x) → (Z2 (YW l) : Int) = ZQ l ∧ dpIs (YW l) = XF l := by
      intro l
      induction l with
      | nil => intro _; rw [YW, Z2, dpIs, ZQ, XF]; simp
      | cons x l ihl =>
        intro hl
        have h1 := hl x (by simp)
        have h2 := ihl (fun y hy => hl y (by simp [hy]))
        rw [YW, Z2, dpIs, ZQ, XF]
        omega
    have := hK kids ih
    omega
theorem szIs_app (a b : List It) : Z2 (a ++ b) = Z2 a + Z2 b := by
  induction a with
  | nil => rw [Z2]; simp
  | cons x a ih => rw [List.cons_append, Z2, Z2, ih]; omega
theorem dpIs_app (a b : List It) : dpIs (a ++ b) = max (dpIs a) (dpIs b) := by
  induction a with
  | nil => rw [dpIs]; have := dpIs_nn b; simp only [List.nil_append]; omega
  | cons x a ih => rw [List.cons_append, dpIs, dpIs, ih]; omega
theorem szT_it (t : Tm) : (szI (itT t) : Int) ≤ 2 * sizeT t ∧ dpI (itT t) ≤ 2 * depT t := by
  induction t using Tm.ind with
  | h k n r kids cases ih ih' =>
    rw [itT, szI, dpI, sizeT, depT, szIs_app, dpIs_app]
    have hK : ∀ l : List Tm, (∀ x ∈ l, (szI (itT x) : Int) ≤ 2 * sizeT x ∧ dpI (itT x) ≤ 2 * depT x) → (Z2 (Ym l) : Int) ≤ 2 * ZE l ∧ dpIs (Ym l) ≤ 2 * depTs l := by
      intro l
      induction l with
      | nil => intro _; rw [Ym, Z2, dpIs, ZE, depTs]; simp
      | cons x l ihl =>
        intro hl
        have h1 := hl x (by simp)
        have h2 := ihl (fun y hy => hl y (by simp [hy]))
        rw [Ym, Z2, dpIs, ZE, depTs]
        omega
    have hC : ∀ l : List (Pt × Tm), (∀ c ∈ l, (szI (itT c.2) : Int) ≤ 2 * sizeT c.2 ∧ dpI (itT c.2) ≤ 2 * depT c.2) → (Z2 (Yp l) : Int) ≤ 2 * ZL l ∧ dpIs (Yp l) ≤ 2 * depCs l + 1 := by
      intro l
      induction l with
      | nil => intro _; rw [Yp, Z2, dpIs, ZL, depCs]; simp
      | cons c l ihl =>
        intro hl
        obtain ⟨p, x⟩ := c
        have h1 := hl (p, x) (by simp)
        have h2 := ihl (fun y hy => hl y (by simp [hy]))
        have h3 := szP_it p
        have h4 := depP_ge p
        have h5 := sizeP_pos p
        simp only at h1
        rw [Yp, Z2, dpIs, ZL, depCs, szI, dpI, Z2, Z2, Z2, dpIs, dpIs, dpIs]
        omega
    have h1 := hK kids ih
    have h2 := hC cases ih'
    have h3 := depTs_nn kids
    omega
/-! what is right is read -/
theorem dig_of (r : Sm) : Y1 (txS r) = (r, true) := by unfold Y1; rw [if_pos (txS_size r), sm_tx]
theorem rp_back (p : Pt) : ∀ d : Int, fitP p d → rpP (itP p) = (p, true) := by
  induction p using Pt.ind with
  | h k m r kids ih =>
    intro d h
    rw [fitP] at h
    obtain ⟨h1, h2, h3, h4⟩ := h
    have hK : ∀ (l : List Pt) (d : Int), (∀ x ∈ l, ∀ d : Int, fitP x d → rpP (itP x) = (x, true)) → fitPs l d → Xu (YW l) true = (l, true) := by
      intro l
      induction l with
      | nil => intro d _ _; rw [YW, Xu]
      | cons x l ihl =>
        intro d hl hf
        rw [fitPs] at hf
        rw [YW, Xu, if_pos rfl, hl x (by simp) d hf.1]
        simp only
        rw [ihl d (fun y hy => hl y (by simp [hy])) hf.2]
    rw [itP, rpP, show Yr (30 + k) = k from (wr30_in (by omega)).trans (by omega)]
    by_cases hk : k = 3
    · simp only [if_pos hk, dig_of]
      rw [hK kids (d + 1) ih h4]
    · simp only [if_neg hk]
      rw [show decide True = true from by simp, hK kids (d + 1) ih h4, h3 hk]
mutual
/-- how a right term is made up -/
def wfT : Tm → Prop
  | .mk k _ _ kids cases => (¬ k = 9 → cases = []) ∧ (k = 9 → kids.length = 1) ∧ wfTs kids ∧ wfCs cases
def wfTs : List Tm → Prop
  | [] => True
  | t :: l => wfT t ∧ wfTs l
def wfCs : List (Pt × Tm) → Prop
  | [] => True
  | (_, t) :: l => wfT t ∧ wfCs l
end
theorem tm_sh {D M : Int} (t : Tm) : ∀ b : Int, YP D M b t = 0 → wfT t := by
  induction t using Tm.ind with
  | h k n r kids cases ih ih' =>
    intro b h
    obtain ⟨h1, h2, h3, h4⟩ := nErr_iff.1 h
    have hK : ∀ (l : List Tm) (i : Nat), (∀ x ∈ l, ∀ b : Int, YP D M b x = 0 → wfT x) → Xf D M b k i l = 0 → wfTs l := by
      intro l
      induction l with
      | nil => intro i _ _; rw [wfTs]; trivial
      | cons x l ihl =>
        intro i hl h
        rw [Xf] at h
        split at h
        · rename_i hx
          rw [wfTs]
          exact ⟨hl x (by simp) _ hx, ihl (i + 1) (fun y hy => hl y (by simp [hy])) h⟩
        · rename_i hx; exact absurd h hx
    have hC : ∀ (l : List (Pt × Tm)), (∀ c ∈ l, ∀ b : Int, YP D M b c.2 = 0 → wfT c.2) → Xs D M b l = 0 → wfCs l := by
      intro l
      induction l with
      | nil => intro _ _; rw [wfCs]; trivial
      | cons c l ihl =>
        intro hl h
        obtain ⟨p, x⟩ := c
        rw [Xs] at h
        split at h
        · rename_i hx
          rw [wfCs]
          exact ⟨hl (p, x) (by simp) _ hx, ihl (fun y hy => hl y (by simp [hy])) h⟩
        · rename_i hx; exact absurd h hx
    rw [wfT]
    unfold Y7 at h1
    split at h1
    · cases h1
    · split at h1
      · cases h1
      · split at h1
        · cases h1
        · rename_i q1 q2 q3
          refine ⟨fun z => ?_, fun z => ?_, hK kids 0 ih h3, hC cases ih' h4⟩
          · have : ¬ 0 < (cases.length : Int) := fun w => q2 (.inr ⟨z, w⟩)
            exact List.eq_nil_of_length_eq_zero (by omega)
          · subst z
            have : loK 9 = 1 ∧ hiK 9 = 1 := by decide
            omega
theorem rt_back (t : Tm) : ∀ d : Int, fitT t d → wfT t → rtT (itT t) = (t, true) := by
  induction t using Tm.ind with
  | h k m r kids cases ih ih' =>
    intro d h hs
    rw [fitT] at h
    rw [wfT] at hs
    obtain ⟨h1, h2, h3, h4, h5⟩ := h
    obtain ⟨s1, s2, s3, s4⟩ := hs
    have hC : ∀ (l : List (Pt × Tm)) (d : Int) (ks : List Tm) (cs : List (Pt × Tm)), (∀ c ∈ l, ∀ d : Int, fitT c.2 d → wfT c.2 → rtT (itT c.2) = (c.2, true)) → fitCs l d → wfCs l → YI true true (Yp l) ks cs true = ((ks, cs ++ l), true) := by
      intro l
      induction l with
      | nil => intro d ks cs _ _ _; rw [Yp, YI]; simp
      | cons c l ihl =>
        intro d ks cs hl hf hs
        obtain ⟨p, x⟩ := c
        rw [fitCs] at hf
        rw [wfCs] at hs
        have e1 := rp_back p d hf.1.1
        have e2 := hl (p, x) (by simp) d hf.1.2 hs.1
        simp only at e2
        rw [Yp, rtTs_case rfl rfl rfl rfl rfl]
        have e3 : (It.mk 20 0 ⟨#[]⟩ [itP p, itT x]).kids[0]'(by simp [It.kids]) = itP p := rfl
        have e4 : (It.mk 20 0 ⟨#[]⟩ [itP p, itT x]).kids[1]'(by simp [It.kids]) = itT x := rfl
        rw [e3, e4, e1, e2]
        simp only [Bool.and_self]
        rw [ihl d ks _ (fun y hy => hl y (by simp [hy])) hf.2 hs.2]
        simp
    have hK : ∀ (l : List Tm) (late : Bool) (d : Int) (ks : List Tm), (∀ x ∈ l, ∀ d : Int, fitT x d → wfT x → rtT (itT x) = (x, true)) → fitTs l d → wfTs l → YI false late (Ym l) ks [] true = ((ks ++ l, []), true) := by
      intro l
      induction l with
      | nil => intro late d ks _ _ _; rw [Ym, YI]; simp
      | cons x l ihl =>
        intro late d ks hl hf hs
        rw [fitTs] at hf
        rw [wfTs] at hs
        rw [Ym, rtTs_kid rfl, hl x (by simp) d hf.1 hs.1]
        simp only
        rw [ihl true d _ (fun y hy => hl y (by simp [hy])) hf.2 hs.2]
        simp
    have key : YI (decide (k = 9)) false (Ym kids ++ Yp cases) [] [] true = ((kids, cases), true) := by
      by_cases hk : k = 9
      · rw [show decide (k = 9) = true from by simp [hk]]
        have hl := s2 hk
        obtain ⟨x, rfl⟩ := List.length_eq_one_iff.1 hl
        rw [fitTs] at h4
        rw [wfTs] at s3
        rw [Ym, Ym, List.cons_append, List.nil_append, rtTs_kid rfl, ih x (by simp) _ h4.1 s3.1]
        simp only
        rw [hC cases (d + 1) _ _ ih' h5 s4]
        simp
      · rw [show decide (k = 9) = false from by simp [hk]]
        have hc := s1 hk
        subst hc
        rw [Yp, List.append_nil, hK kids false (d + 1) [] ih h4 s3]
        simp
    rw [itT, rtT]
    by_cases hr : ZF k = true
    · simp only [if_pos hr, dig_of]
      rw [key]
    · simp only [if_neg hr]
      rw [show decide True = true from by simp, key, h3 (by simpa using hr)]
/-- what FromItem of the reference answers -/
noncomputable def fromR (x : It) : Tm × Int :=
  if 1000 < (exI 2000 x).1 ∨ 200 < (exI 2000 x).2 then (zT, 4)
  else if ¬ (rtT x).2 = true ∨ ¬ ZX 60 8 (rtT x).1 = 0 then (zT, 4) else ((rtT x).1, 0)
theorem fromR_right {t : Tm} (h : ZX 60 8 t = 0) : fromR (itT t) = (t, 0) := by
  obtain ⟨h1, h2⟩ := checkR_iff.1 h
  have h3 : ¬ (300 < sizeT t ∨ 60 < depT t) := fun z => by rw [(longB_eq t).2 z] at h1; cases h1
  have hb := rt_back t 1 (tm_fit t 1 0 h2 (by omega)) (tm_sh t 0 h2)
  have h4 := exI_le (itT t) 2000
  have h5 := szT_it t
  unfold fromR
  rw [if_neg (by omega), hb, if_neg]
  rintro (z | z)
  · exact z rfl
  · exact z h
theorem fromR_is {x : It} (hk : okI x) (h : (fromR x).2 = 0) : itT (fromR x).1 = x ∧ ZX 60 8 (fromR x).1 = 0 := by
  unfold fromR at h ⊢
  split at h
  · cases h
  · rename_i hh
    rw [if_neg hh]
    split at h
    · cases h
    · rename_i hh2
      rw [if_neg hh2]
      have h1 : (rtT x).2 = true := Classical.byContradiction fun z => hh2 (.inl z)
      exact ⟨rt_is x h1 hk, Classical.byContradiction fun z => hh2 (.inr z)⟩
theorem from_eq {x : It} (hk : okI x) : fromR x = fromP x := by
  by_cases h : (fromP x).2 = 0
  · obtain ⟨h1, h2⟩ := from_is hk h
    have h3 := fromR_right h2
    have h4 := from_right h2
    rw [h1] at h3 h4
    rw [h3]
    exact h4.symm ▸ rfl
  · by_cases h' : (fromR x).2 = 0
    · obtain ⟨h1, h2⟩ := fromR_is hk h'
      have h4 := from_right h2
      rw [h1] at h4
      rw [h4] at h
      exact absurd rfl h
    · have e1 : fromP x = (zT, 4) := by
        unfold fromP at h ⊢
        split at h
        · rename_i q; rw [if_pos q]
        · exact absurd rfl h
      have e2 : fromR x = (zT, 4) := by
        unfold fromR at h' ⊢
        split at h'
        · rename_i q; rw [if_pos q]
        · rename_i q
          rw [if_neg q]
          split at h'
          · rename_i q2; rw [if_pos q2]
          · exact absurd rfl h'
      rw [e1, e2]
end Go.Proofs.YtkjafeejpmcnkaaGreat.Hs
