import Derived.Test.YtfdeibbpfgolcaaGreatReplj
/-! Walks, printed by a program of this session's own (gen.py). -/
namespace Go.Proofs.YtfdeibbpfgolcaaGreat.Hs
open Go Go.Proofs
set_option maxRecDepth 100000
set_option linter.unusedVariables false
set_option linter.unusedSimpArgs false
attribute [local irreducible] JL J CT wlo DT
theorem equalI_ct (l m : List Int) (v u : Value) (H : Heap) (hl : rdS RI 1 H v l) (hm : rdS RI 1 H u m) : CT Tryz.prog 40 ⟨[v, u]⟩ [] H (fun v N => v = .bool (eqL l m) ∧ N = []) := by
 refine Zk Tryz.func40 rfl rfl <| Zc <| Za <| JLA rfl <| Zb <| Zc <| Zc <| Za <| JLm v ?_
 obtain ⟨a1, cap1, hv1⟩ := hl.sl
 have hle1 := hl.le
 refine JLn (Pu.lenSl Tryz.runUnderlying51 hv1) <| JLm u ?_
 obtain ⟨a2, cap2, hv2⟩ := hm.sl
 have hle2 := hm.le
 refine JLn (Pu.lenSl Tryz.runUnderlying51 hv2) <| JLn (Pu.neq rfl rfl) <| Zb <| Zg rfl (fun h3 => ?_) (fun h3 => ?_)
 ·replace h3 := nt h3
  replace h3 := df h3
  refine Zc <| Za <| JLA rfl <| Zb <| Zl <| ⟨.bool false, [], Ret.one rfl (RV.tmp rfl), Sub.nil, ?_⟩
  exact ⟨by rw [eqL_false (fun e => by subst e; exact absurd rfl h3)], rfl⟩
 replace h3 := nf h3
 replace h3 := dt h3
 refine Zm <| Zc <| Zc <| Za <| JLm v ?_
 obtain ⟨a4, cap4, hv4⟩ := hl.sl
 have hle4 := hl.le
 refine JLn (Pu.lenSl Tryz.runUnderlying51 hv4) <| JLM rfl <| Zb <| Zo <| ZT (fun k ρ M => ∃ (j : Nat), ρ 0 = v ∧ ρ 1 = u ∧ ρ 4 = .bool false ∧ ρ 12 = iv ((l.length : Int)) ∧ ρ 13 = iv ((j : Int)) ∧ Sub [] M ∧ j ≤ l.length ∧ l.take j = m.take j ∧ k = l.length - j) _ ⟨0, rfl, rfl, rfl, rfl, rfl, Sub.nil, Nat.zero_le _, rfl, rfl⟩ ?_
 rintro _ ρ5 _ ⟨j, e6, e7, e8, e9, e10, hm11, hj, hinv, rfl⟩
 obtain ⟨ρ12, rfl⟩ := Zn (uc e6 (uc e7 (uc e8 (uc e9 (uc e10 un)))))
 clear e6 e7 e8 e9 e10
 refine ZS hm11 <| Zc <| Za <| JLn (Pu.lss rfl rfl) <| Zb <| Zc <| Zg rfl (fun h13 => ?_) (fun h13 => ?_)
 ·replace h13 := dt h13
  have h13n : j < l.length := by omega
  have hlenl := hl.le
  have hjm : j < m.length := by omega
  refine Zm <| Zc <| Zo <| Zc <| Za <| JLM rfl <| JLA rfl <| Zb <| Zc <| ZL mixed #[0, 0, 3, 7, 0, 0, 48, 112, 255] 8 [some 16, some 17, some 18, some 19, some 20, some 21, some 22, some 23] [] [] rfl (by kernel_rfl) rfl (by kernel_rfl) <| Dm v <| DM (fun _ => rfl) ?_
  obtain ⟨b16, o16, cap16, row16, T16, fr16, cs16, hv16, hb16, hs16, hE16⟩ := hl.get j (by first | assumption | omega | decide | simp)
  refine Dq (pp b16 (o16 + j * 1)) (fun _ => Pu.idx j Tryz.runUnderlying51 ty3 hv16 rfl rfl (by first | assumption | omega | decide | simp)) <| Dl1 ty3 (At.im hb16) (YK ((show cs16 = [Value.int .i64 (l[j])] from hE16) ▸ hs16)) <| Dm u <| DM (fun _ => rfl) ?_
  obtain ⟨b17, o17, cap17, row17, T17, fr17, cs17, hv17, hb17, hs17, hE17⟩ := hm.get j (by first | assumption | omega | decide | simp)
  refine Dq (pp b17 (o17 + j * 1)) (fun _ => Pu.idx j Tryz.runUnderlying51 ty3 hv17 rfl rfl (by first | assumption | omega | decide | simp)) <| Dl1 ty3 (At.im hb17) (YK ((show cs17 = [Value.int .i64 (m[j])] from hE17) ▸ hs17)) <| ZZ (M' := []) rfl ?_
  show JL _ _ _ [_] _ _ _
  refine JLn (Pu.neq rfl rfl) <| Zb <| Zg rfl (fun h18 => ?_) (fun h18 => ?_)
  ·replace h18 := nt h18
   replace h18 := df h18
   refine Zc <| Za <| JLA rfl <| Zb <| Zl <| ⟨.bool false, [], Ret.one rfl (RV.tmp rfl), Sub.nil, ?_⟩
   exact ⟨by rw [eqL_false (fun e => by subst e; exact h18 rfl)], rfl⟩
  replace h18 := nf h18
  replace h18 := dt h18
  refine Zm <| Za <| JLn (Pu.inc rfl rfl (by omega)) <| JLM rfl <| Zb <| ⟨_, ?_, (j + 1), rfl, rfl, rfl, rfl, rfl, Sub.nil, ?_, ?_, rfl⟩
  ·omega
  ·omega
  rw [List.take_succ_eq_append_getElem h13n, List.take_succ_eq_append_getElem hjm, hinv, h18]
 replace h13 := df h13
 have h13n : l.length ≤ j := by omega
 refine ZB _ rfl <| Zc <| Za <| JLA rfl <| Zb <| Zl <| ⟨.bool true, [], Ret.one rfl (RV.tmp rfl), Sub.nil, ?_⟩
 exact ⟨by rw [eqL_true (by rw [← List.take_of_length_le h13n, hinv, List.take_of_length_le (by omega)])], rfl⟩
theorem equalS_ct (l m : List ByteArray) (v u : Value) (H : Heap) (hl : rdS RS 1 H v l) (hm : rdS RS 1 H u m) : CT Tryz.prog 41 ⟨[v, u]⟩ [] H (fun v N => v = .bool (eqL l m) ∧ N = []) := by
 refine Zk Tryz.func41 rfl rfl <| Zc <| Za <| JLA rfl <| Zb <| Zc <| Zc <| Za <| JLm v ?_
 obtain ⟨a1, cap1, hv1⟩ := hl.sl
 have hle1 := hl.le
 refine JLn (Pu.lenSl Tryz.runUnderlying79 hv1) <| JLm u ?_
 obtain ⟨a2, cap2, hv2⟩ := hm.sl
 have hle2 := hm.le
 refine JLn (Pu.lenSl Tryz.runUnderlying79 hv2) <| JLn (Pu.neq rfl rfl) <| Zb <| Zg rfl (fun h3 => ?_) (fun h3 => ?_)
 ·replace h3 := nt h3
  replace h3 := df h3
  refine Zc <| Za <| JLA rfl <| Zb <| Zl <| ⟨.bool false, [], Ret.one rfl (RV.tmp rfl), Sub.nil, ?_⟩
  exact ⟨by rw [eqL_false (fun e => by subst e; exact absurd rfl h3)], rfl⟩
 replace h3 := nf h3
 replace h3 := dt h3
 refine Zm <| Zc <| Zc <| Za <| JLm v ?_
 obtain ⟨a4, cap4, hv4⟩ := hl.sl
 have hle4 := hl.le
 refine JLn (Pu.lenSl Tryz.runUnderlying79 hv4) <| JLM rfl <| Zb <| Zo <| ZT (fun k ρ M => ∃ (j : Nat), ρ 0 = v ∧ ρ 1 = u ∧ ρ 4 = .bool false ∧ ρ 12 = iv ((l.length : Int)) ∧ ρ 13 = iv ((j : Int)) ∧ Sub [] M ∧ j ≤ l.length ∧ l.take j = m.take j ∧ k = l.length - j) _ ⟨0, rfl, rfl, rfl, rfl, rfl, Sub.nil, Nat.zero_le _, rfl, rfl⟩ ?_
 rintro _ ρ5 _ ⟨j, e6, e7, e8, e9, e10, hm11, hj, hinv, rfl⟩
 obtain ⟨ρ12, rfl⟩ := Zn (uc e6 (uc e7 (uc e8 (uc e9 (uc e10 un)))))
 clear e6 e7 e8 e9 e10
 refine ZS hm11 <| Zc <| Za <| JLn (Pu.lss rfl rfl) <| Zb <| Zc <| Zg rfl (fun h13 => ?_) (fun h13 => ?_)
 ·replace h13 := dt h13
  have h13n : j < l.length := by omega
  have hlenl := hl.le
  have hjm : j < m.length := by omega
  refine Zm <| Zc <| Zo <| Zc <| Za <| JLM rfl <| JLA rfl <| Zb <| Zc <| ZL mixed #[0, 0, 3, 7, 0, 0, 48, 112, 255] 8 [some 16, some 17, some 18, some 19, some 20, some 21, some 22, some 23] [] [] rfl (by kernel_rfl) rfl (by kernel_rfl) <| Dm v <| DM (fun _ => rfl) ?_
  obtain ⟨b16, o16, cap16, row16, T16, fr16, cs16, hv16, hb16, hs16, hE16⟩ := hl.get j (by first | assumption | omega | decide | simp)
  refine Dq (pp b16 (o16 + j * 1)) (fun _ => Pu.idx j Tryz.runUnderlying79 ty9 hv16 rfl rfl (by first | assumption | omega | decide | simp)) <| Dl1 ty9 (At.im hb16) (YK ((show cs16 = [Value.string (l[j])] from hE16) ▸ hs16)) <| Dm u <| DM (fun _ => rfl) ?_
  obtain ⟨b17, o17, cap17, row17, T17, fr17, cs17, hv17, hb17, hs17, hE17⟩ := hm.get j (by first | assumption | omega | decide | simp)
  refine Dq (pp b17 (o17 + j * 1)) (fun _ => Pu.idx j Tryz.runUnderlying79 ty9 hv17 rfl rfl (by first | assumption | omega | decide | simp)) <| Dl1 ty9 (At.im hb17) (YK ((show cs17 = [Value.string (m[j])] from hE17) ▸ hs17)) <| ZZ (M' := []) rfl ?_
  show JL _ _ _ [_] _ _ _
  refine JLn (Pu.neqS rfl rfl) <| Zb <| Zg rfl (fun h18 => ?_) (fun h18 => ?_)
  ·replace h18 := nt h18
   replace h18 := df h18
   refine Zc <| Za <| JLA rfl <| Zb <| Zl <| ⟨.bool false, [], Ret.one rfl (RV.tmp rfl), Sub.nil, ?_⟩
   exact ⟨by rw [eqL_false (fun e => by subst e; exact h18 rfl)], rfl⟩
  replace h18 := nf h18
  replace h18 := dt h18
  refine Zm <| Za <| JLn (Pu.inc rfl rfl (by omega)) <| JLM rfl <| Zb <| ⟨_, ?_, (j + 1), rfl, rfl, rfl, rfl, rfl, Sub.nil, ?_, ?_, rfl⟩
  ·omega
  ·omega
  rw [List.take_succ_eq_append_getElem h13n, List.take_succ_eq_append_getElem hjm, hinv, h18]
 replace h13 := df h13
 have h13n : l.length ≤ j := by omega
 refine ZB _ rfl <| Zc <| Za <| JLA rfl <| Zb <| Zl <| ⟨.bool true, [], Ret.one rfl (RV.tmp rfl), Sub.nil, ?_⟩
 exact ⟨by rw [eqL_true (by rw [← List.take_of_length_le h13n, hinv, List.take_of_length_le (by omega)])], rfl⟩
theorem idxS_ct (l : List ByteArray) (x : ByteArray) (v : Value) (H : Heap) (hl : rdS RS 1 H v l) : CT Tryz.prog 112 ⟨[v, .string x]⟩ [] H (fun v N => v = iv (fstS x l 0) ∧ N = []) := by
 refine Zk Tryz.func112 rfl rfl <| Zc <| Za <| JLA rfl <| Zb <| Zc <| Zc <| Za <| JLm v ?_
 obtain ⟨a1, cap1, hv1⟩ := hl.sl
 have hle1 := hl.le
 refine JLn (Pu.lenSl Tryz.runUnderlying79 hv1) <| JLM rfl <| Zb <| Zo <| ZT (fun k ρ M => ∃ (j : Nat), ρ 0 = v ∧ ρ 1 = .string x ∧ ρ 4 = iv 0 ∧ ρ 7 = iv ((l.length : Int)) ∧ ρ 8 = iv ((j : Int)) ∧ Sub [] M ∧ j ≤ l.length ∧ fstS x (l.drop j) j = fstS x l 0 ∧ k = l.length - j) _ ⟨0, rfl, rfl, rfl, rfl, rfl, Sub.nil, Nat.zero_le _, rfl, rfl⟩ ?_
 rintro _ ρ2 _ ⟨j, e3, e4, e5, e6, e7, hm8, hj, hinv, rfl⟩
 obtain ⟨ρ9, rfl⟩ := Zn (uc e3 (uc e4 (uc e5 (uc e6 (uc e7 un)))))
 clear e3 e4 e5 e6 e7
 refine ZS hm8 <| Zc <| Za <| JLn (Pu.lss rfl rfl) <| Zb <| Zc <| Zg rfl (fun h10 => ?_) (fun h10 => ?_)
 ·replace h10 := dt h10
  have h10n : j < l.length := by omega
  have hlenl := hl.le
  refine Zm <| Zc <| Zo <| Zc <| Za <| JLM rfl <| JLA rfl <| Zb <| Zc <| Za <| JLM rfl <| JLm v <| JLM rfl ?_
  obtain ⟨b11, o11, cap11, row11, T11, fr11, cs11, hv11, hb11, hs11, hE11⟩ := hl.get j (by first | assumption | omega | decide | simp)
  refine JLq (pp b11 (o11 + j * 1)) (Pu.idx j Tryz.runUnderlying79 ty9 hv11 rfl rfl (by first | assumption | omega | decide | simp)) <| JLr (Ze ty9 rfl (At.im hb11) (YK ((show cs11 = [Value.string (l[j])] from hE11) ▸ hs11)) <| JLn (Pu.eqlS rfl rfl) <| Zb <| Zg rfl (fun h12 => ?_) (fun h12 => ?_))
  ·replace h12 := dt h12
   refine Zc <| Za <| JLM rfl <| JLA rfl <| Zb <| Zl <| ⟨iv ((j : Int)), [], Ret.one rfl (RV.tmp rfl), Sub.nil, ?_⟩
   exact ⟨by rw [← hinv, Yr h10n, fstS, if_pos h12], rfl⟩
  replace h12 := df h12
  refine Zm <| Za <| JLn (Pu.inc rfl rfl (by omega)) <| JLM rfl <| Zb <| ⟨_, ?_, (j + 1), rfl, rfl, rfl, rfl, rfl, Sub.nil, ?_, ?_, rfl⟩
  ·omega
  ·omega
  rw [Yr h10n, fstS, if_neg h12] at hinv; exact hinv
 replace h10 := df h10
 have h10n : l.length ≤ j := by omega
 refine ZB _ rfl <| Zc <| Za <| JLA rfl <| Zb <| Zl <| ⟨iv (-1), [], Ret.one rfl (RV.tmp rfl), Sub.nil, ?_⟩
 exact ⟨by rw [← hinv, dropn h10n]; rfl, rfl⟩
theorem containsS_ct (l : List ByteArray) (x : ByteArray) (v : Value) (H : Heap) (hl : rdS RS 1 H v l) : CT Tryz.prog 87 ⟨[v, .string x]⟩ [] H (fun v N => v = .bool (l.any (fun y => decide (x = y))) ∧ N = []) := by
 refine Zk Tryz.func87 rfl rfl <| Zc <| Za <| JLA rfl <| Zb <| Zc <| Za <| JLm v <| JLM rfl <| Jc Tryz.call112 rfl (fun hin => idxS_ct _ _ _ _ (RSs.mono (Hle.hu _ _) hl)) rfl ?_
 rintro _ _ ⟨rfl, rfl⟩
 refine JLn (Pu.geq rfl rfl) <| JLA rfl <| Zb <| Zl <| ⟨.bool (decide (0 ≤ fstS x l 0)), [], Ret.one rfl (RV.tmp rfl), Sub.nil, ?_⟩
 exact ⟨by rw [← fstS_mem x l 0], rfl⟩
theorem number_ct (i : Nat) (H : Heap) (hi : i < 26) : CT Tryz.prog 167 ⟨[.string (ltr i)]⟩ [] H (fun v N => v = iv (i : Int) ∧ N = []) := by
 refine Zk Tryz.func167 rfl rfl <| Zc <| Za <| JLA rfl <| Zb <| Zc <| Za <| JLA rfl <| Zb <| Zc <| Zc <| Za <| JLM rfl ?_
 refine JLr (Runs_rangeS Tryz.underlying9 rfl fun r1 => Zb <| Zo <| Ya 2 <| ZG <| Zc <| Za <| JLr (Runs_nextL (i := 0) rfl rfl hi <| JLn (Pu.extract rfl rfl) <| Zb <| Zc <| Zg (b := true) rfl (fun _ => ?_) (fun h => absurd h (by simp))))
 refine Zm <| Zo <| Zc <| Za <| JLn (Pu.extract rfl rfl) <| JLA rfl <| Zb <| Zc <| Zc <| Za <| JLM rfl <| JLn (Pu.lss rfl rfl) <| JLM rfl ?_
 refine ZC 2 [14, 15] [(15, cond (decide (97 + (i : Int) < 97)) undef (.bool (decide (122 < 97 + (i : Int)))))] ?_ fun f3 => ?_
 ·cases h2 : (decide (97 + (i : Int) < 97)) with
  | false =>
   replace h2 := df h2
   refine JLM rfl <| JLn (Pu.gtr rfl rfl) ?_
   exact Zb ⟨⟨rfl, trivial⟩, rfl⟩
  | true =>
   exact ZP rfl ⟨rfl, trivial⟩
 refine JLn (Pu.pickOr rfl rfl rfl) <| JLM rfl <| ZC 2 [18, 19] [(19, cond ((decide (97 + (i : Int) < 97)) || (decide (122 < 97 + (i : Int)))) undef (.bool false))] ?_ fun f5 => ?_
 ·cases h4 : ((decide (97 + (i : Int) < 97)) || (decide (122 < 97 + (i : Int)))) with
  | false =>
   obtain ⟨h4a, h4b⟩ := orF h4
   replace h4a := df h4a
   replace h4b := df h4b
   refine JLM rfl <| JLq (.bool false) (show Pu _ _ _ (.bool (decide ((1073741824 : Int) < -1))) from Pu.gtr rfl rfl) ?_
   exact Zb ⟨⟨rfl, trivial⟩, rfl⟩
  | true =>
   exact ZP rfl ⟨rfl, trivial⟩
 refine JLn (Pu.pickOr rfl rfl rfl) <| Zb <| Zg rfl (fun h6 => ?_) (fun h6 => ?_)
 ·exfalso; simp at h6; omega
 obtain ⟨h6a, h6b⟩ := orF h6
 obtain ⟨h6aa, h6ab⟩ := orF h6a
 replace h6aa := df h6aa
 replace h6ab := df h6ab
 refine Zm <| Za <| JLM rfl <| JLq (iv 0) (Pu.arith rfl rfl rfl) <| JLq (iv 0) (Pu.arithM rfl rfl rfl) <| JLM rfl <| JLq (.int .i32 ((i : Int))) (Pu.arithS rfl rfl ((w32 (by omega)).trans (by omega))) <| JLq (iv ((i : Int))) (Pu.conv Tryz.runUnderlying21 Tryz.runUnderlying3 rfl (w64 (by omega))) <| JLn (Pu.add64 rfl rfl (by first | omega | (constructor <;> omega))) <| JLA rfl <| Zb <| ZG <| Zc ?_
 refine Za <| JLr (Runs_nextE (i := 0) rfl rfl (by rw [ltr_size]; decide) <| JLn (Pu.extract rfl rfl) <| Zb <| Zc <| Zg (b := false) rfl (fun h => absurd h (by simp)) (fun _ => ZB _ rfl <| Zc <| Za <| JLM rfl <| JLA rfl <| Zb <| Zl ?_))
 refine ⟨iv (0 + ((i : Int))), [], Ret.one rfl (RV.tmp rfl), Sub.nil, ?_⟩
 exact ⟨congrArg (Value.int .i64) (by omega), rfl⟩
theorem name_ct (i : Nat) (H : Heap) (hi : i < 26) : CT Tryz.prog 146 ⟨[iv ((i : Int))]⟩ [] H (fun v N => v = .string (ltr i) ∧ N = []) := by
 refine Zk Tryz.func146 rfl rfl <| Zc <| Za <| JLA rfl <| Zb <| Zc <| Zc <| Za <| JLM rfl <| JLn (Pu.lss rfl rfl) <| Zb <| Zg rfl (fun h1 => ?_) (fun h1 => ?_)
 ·replace h1 := dt h1
  have h1n : i < 26 := by omega
  refine Zc <| Za <| JLM rfl <| JLn (Pu.add64 rfl rfl (by first | omega | (constructor <;> omega))) <| JLq (.int .i32 (97 + ((i : Int)))) (Pu.conv Tryz.runUnderlying3 Tryz.runUnderlying21 rfl (w32 (by omega))) <| JLq (.string (ltr i)) (Pu.convS Tryz.runUnderlying21 Tryz.runUnderlying9 rfl (ltr_enc' i hi)) <| JLA rfl <| Zb <| Zl <| ⟨.string (ltr i), [], Ret.one rfl (RV.tmp rfl), Sub.nil, ?_⟩
  exact ⟨rfl, rfl⟩
 replace h1 := df h1
 have h1n : 26 ≤ i := by omega
 exfalso; omega
theorem mark_ct (i n : Nat) (l : List Bool) (bF : Nat) (H : Heap) (hi : i < 26) (hl : l.length = n) : CT Tryz.prog 144 ⟨[.slice (some ⟨bF, 0, none⟩) n n, .string (ltr i)]⟩ [(BX bF (bls l) 4)] H (fun v N => v = .tuple ⟨[]⟩ ∧ N = [(BX bF (bls (markL i l)) 4)]) := by
 refine Zk Tryz.func144 rfl rfl <| Zc <| Za <| JLM rfl <| Jc Tryz.call167 rfl (fun hin => number_ct i _ hi) rfl ?_
 rintro _ _ ⟨rfl, rfl⟩
 refine JLA rfl <| Zb <| Zc <| Za <| JLM rfl <| JLn (Pu.geq rfl rfl) <| JLM rfl ?_
 cases h1 : (decide (0 ≤ (i : Int))) with
 | true =>
  replace h1 := dt h1
  refine JLM rfl <| JLM rfl <| JLn (Pu.lenSl Tryz.runUnderlying196 rfl) <| JLn (Pu.lss rfl rfl) <| JLq (.bool (decide ((i : Int) < (n : Int)))) (Pu.pickT rfl rfl) <| Zb <| Zg rfl (fun h2 => ?_) (fun h2 => ?_)
  ·replace h2 := dt h2
   have h2n : i < n := by omega
   refine Za <| JLM rfl <| JLM rfl <| JLq (pp bF (0 + i * 1)) (Pu.idx i Tryz.runUnderlying196 ty4 rfl rfl (by omega) (by omega)) <| JLr (Zd 0 (vs := [.bool true]) (l := bls (l.set i true)) ty4 rfl rfl rfl rfl rfl (Zj rfl Zt) (bls_set1 (by have hbl : List.length l = n := hl; omega)) <| Zb <| ⟨.tuple ⟨[]⟩, [(BX bF (bls (l.set i true)) 4)], Ret.none rfl, (Sk Sub.nil), ?_⟩)
   exact ⟨rfl, by rw [markL, if_pos (by omega)]⟩
  replace h2 := df h2
  have h2n : n ≤ i := by omega
  refine Zm <| ⟨.tuple ⟨[]⟩, [(BX bF (bls l) 4)], Ret.none rfl, (Sk Sub.nil), ?_⟩
  exact ⟨rfl, by rw [markL, if_neg (by omega)] <;> rfl⟩
 | false =>
  replace h1 := df h1
  iterate 4 refine JL_skip rfl ?_
  refine JLq (.bool false) (Pu.pickF rfl rfl) <| Zb <| Zg (b := false) rfl (fun h => absurd h (by simp)) (fun _ => Zm <| ⟨.tuple ⟨[]⟩, [(BX bF (bls l) 4)], Ret.none rfl, (Sk Sub.nil), ?_⟩)
  exact ⟨rfl, by rw [markL, if_neg (by omega)] <;> rfl⟩
theorem idxB_ct (x : Bool) (l : List Bool) (bF n : Nat) (H : Heap) (hl : l.length = n) (hn : n ≤ 1000000) (hB : H bF = some (.cells ⟨bls l⟩ 4 (0, 0))) : CT Tryz.prog 145 ⟨[.slice (some ⟨bF, 0, none⟩) n n, .bool x]⟩ [] H (fun v N => v = iv (fstB x l 0) ∧ N = []) := by
 refine Zk Tryz.func145 rfl rfl <| Zc <| Za <| JLA rfl <| Zb <| Zc <| Zc <| Za <| JLM rfl <| JLn (Pu.lenSl Tryz.runUnderlying196 rfl) <| JLM rfl <| Zb <| Zo ?_
 refine ZT (fun k ρ M => ∃ (j : Nat), ρ 0 = .slice (some ⟨bF, 0, none⟩) n n ∧ ρ 1 = .bool x ∧ ρ 4 = iv 0 ∧ ρ 7 = iv ((n : Int)) ∧ ρ 8 = iv ((j : Int)) ∧ Sub [] M ∧ j ≤ l.length ∧ fstB x (l.drop j) j = fstB x l 0 ∧ k = l.length - j) _ ⟨0, rfl, rfl, rfl, rfl, rfl, Sub.nil, Nat.zero_le _, rfl, rfl⟩ ?_
 rintro _ ρ1 _ ⟨j, e2, e3, e4, e5, e6, hm7, hj, hinv, rfl⟩
 obtain ⟨ρ8, rfl⟩ := Zn (uc e2 (uc e3 (uc e4 (uc e5 (uc e6 un)))))
 clear e2 e3 e4 e5 e6
 refine ZS hm7 <| Zc <| Za <| JLn (Pu.lss rfl rfl) <| Zb <| Zc <| Zg rfl (fun h9 => ?_) (fun h9 => ?_)
 ·replace h9 := dt h9
  have h9n : j < n := by omega
  refine Zm <| Zc <| Zo <| Zc <| Za <| JLM rfl <| JLA rfl <| Zb <| Zc <| Za <| JLM rfl <| JLM rfl <| JLM rfl ?_
  refine JLq (pp bF (0 + j * 1)) (Pu.idx j Tryz.runUnderlying196 ty4 rfl rfl (by omega) (by omega)) <| JLr (Ze ty4 rfl (At.im hB) (bls_get1 (by omega)) <| JLn (Pu.eqlB Tryz.runUnderlying4 rfl rfl) <| Zb <| Zg rfl (fun h10 => ?_) (fun h10 => ?_))
  ·refine Zc <| Za <| JLM rfl <| JLA rfl <| Zb <| Zl <| ⟨iv ((j : Int)), [], Ret.one rfl (RV.tmp rfl), Sub.nil, ?_⟩
   exact ⟨by rw [← hinv, Yr (by omega : j < l.length), fstB, if_pos (by simpa [(by omega : j < l.length)] using h10)], rfl⟩
  refine Zm <| Za <| JLn (Pu.inc rfl rfl (by omega)) <| JLM rfl <| Zb <| ⟨_, ?_, (j + 1), rfl, rfl, rfl, rfl, rfl, Sub.nil, ?_, ?_, rfl⟩
  ·omega
  ·omega
  rw [Yr (by omega : j < l.length), fstB, if_neg (by simpa [(by omega : j < l.length)] using h10)] at hinv; exact hinv
 replace h9 := df h9
 have h9n : n ≤ j := by omega
 refine ZB _ rfl <| Zc <| Za <| JLA rfl <| Zb <| Zl <| ⟨iv (-1), [], Ret.one rfl (RV.tmp rfl), Sub.nil, ?_⟩
 exact ⟨by rw [← hinv, dropn (by omega)]; rfl, rfl⟩
end Go.Proofs.YtfdeibbpfgolcaaGreat.Hs
/-! Walks, printed by a program of this session's own (gen.py). -/
namespace Go.Proofs.YtfdeibbpfgolcaaGreat.Hs
open Go Go.Proofs
set_option maxRecDepth 100000
set_option linter.unusedVariables false
set_option linter.unusedSimpArgs false
attribute [local irreducible] JL J CT wlo DT
theorem backward_ct (v : Value) (H : Heap) (hv : v.oneCell' = true) : CT Tryz.prog 168 ⟨[v]⟩ [] H (fun u N => ∃ b, u = .func (.func 172) ⟨[]⟩ ⟨[pp b 0]⟩ ∧ N = [(BX b [v] 79)]) := by
 refine Zk Tryz.func168 rfl rfl <| Zc <| Za <| JLr (Zp (l := [v]) rfl (ZE hv) fun b1 => JLa .nilFunc <| Zb <| Zc <| Za <| JLq (.func (.func 172) ⟨[]⟩ ⟨[pp b1 0]⟩) (Pu.makeFunc rfl rfl) <| JLA rfl <| Zb <| Zl <| ⟨.func (.func 172) ⟨[]⟩ ⟨[pp b1 0]⟩, [(BX b1 [v] 79)], Ret.one rfl (RV.tmp rfl), (Sk Sub.nil), ?_⟩)
 exact ⟨_, rfl, rfl⟩
theorem backward1_ct (L : List ByteArray) (v : Value) (H : Heap) (bK : Nat) (hl : rdS RS 1 H v L) (hK : H bK = some (.cells ⟨[v]⟩ 79 (0, 0))) (l : Nat) {σ : Type} (yc : σ → Zf) (Inv : Nat → σ → Prop) (s0 : σ) (h0 : Inv L.length s0) (hy : ∀ (i : Nat) (hi : i < L.length) (s : σ) (h : Heap), Inv (i + 1) s → Hle H h → YT Tryz.prog l ⟨[iv (i : Int), .string L[i]]⟩ [yc s] h (fun v N => ∃ s2, v = .bool true ∧ N = [yc s2] ∧ Inv i s2)) : CT Tryz.prog 172 ⟨[.func (.yield l) ⟨[]⟩ ⟨[]⟩, pp bK 0]⟩ [yc s0] H (fun _ N => ∃ s, N = [yc s] ∧ Inv 0 s) := by
 refine Zk Tryz.func172 rfl rfl <| Zc <| Za <| JLr (Ze ty79 rfl (At.im hK) rfl ?_)
 obtain ⟨a1, cap1, hv1⟩ := hl.sl
 have hle1 := hl.le
 refine JLn (Pu.lenSl Tryz.runUnderlying79 hv1) <| JLn (Pu.sub64 rfl rfl (by first | omega | (constructor <;> omega))) <| JLA rfl <| Zb <| Zo <| ZT (fun k ρ M => ∃ (e : Int) (s : σ), ρ 0 = .func (.yield l) ⟨[]⟩ ⟨[]⟩ ∧ ρ 1 = pp bK 0 ∧ ρ 3 = iv e ∧ Sub [yc s] M ∧ (-1 ≤ e ∧ e < (L.length : Int)) ∧ Inv (e + 1).toNat s ∧ k = (e + 1).toNat) _ ⟨((L.length : Int) - 1), s0, rfl, rfl, rfl, (Sk Sub.nil), ⟨by omega, by omega⟩, (by rw [show ((L.length : Int) - 1 + 1).toNat = L.length from by omega]; exact h0), rfl⟩ ?_
 rintro _ ρ2 _ ⟨e, s, e3, e4, e5, hm6, hb, hI, rfl⟩
 obtain ⟨ρ7, rfl⟩ := Zn (uc e3 (uc e4 (uc e5 un)))
 clear e3 e4 e5
 refine ZS hm6 <| Zc <| Zc <| Za <| JLM rfl <| JLn (Pu.geq rfl rfl) <| Zb <| Zg rfl (fun h8 => ?_) (fun h8 => ?_)
 ·replace h8 := dt h8
  obtain ⟨j, rfl⟩ := Int.eq_ofNat_of_zero_le h8
  have hjl : j < L.length := by omega
  refine Zm <| Zc <| Zo <| Zc <| Za <| JLM rfl <| JLM rfl <| JLr (Ze ty79 rfl (At.im hK) rfl <| JLM rfl ?_)
  obtain ⟨b9, o9, cap9, row9, T9, fr9, cs9, hv9, hb9, hs9, hE9⟩ := hl.get j (by first | assumption | omega | decide | simp)
  refine JLq (pp b9 (o9 + j * 1)) (Pu.idx j Tryz.runUnderlying79 ty9 hv9 rfl rfl (by first | assumption | omega | decide | simp)) <| JLr (Ze ty9 rfl (At.im hb9) (YK ((show cs9 = [Value.string (L[j])] from hE9) ▸ hs9)) <| JL_yield1 0 rfl rfl rfl (fun hin => hy j hjl s _ (by simpa using hI) (Hle.hu _ _)) rfl ?_)
  rintro _ _ ⟨s5, rfl, rfl, hI5⟩
  refine JLq (.bool false) (show Pu _ _ _ (.bool (!true)) from Pu.not rfl) <| Zb <| Zg (b := false) rfl (fun h => absurd h (by simp)) (fun _ => Zm <| Za <| JLM rfl <| JLn (Pu.sub64 rfl rfl (by first | omega | (constructor <;> omega))) <| JLA rfl <| Zb <| ⟨_, ?_, ((j : Int) - 1), s5, rfl, rfl, rfl, (Sk Sub.nil), ?_, ?_, rfl⟩)
  ·omega
  ·constructor <;> omega
  rw [show ((j : Int) - 1 + 1).toNat = j from by omega]; exact hI5
 replace h8 := df h8
 refine ZB _ rfl <| ⟨.tuple ⟨[]⟩, [yc s], Ret.none rfl, (Sk Sub.nil), ?_⟩
 exact ⟨s, rfl, by rw [show (e + 1).toNat = 0 from by omega] at hI; exact hI⟩
theorem with_ct (l m : List ByteArray) (v u : Value) (H : Heap) (hl : rdS RS 1 H v l) (hm : rdS RS 1 H u m) (hb : l.length + m.length ≤ 1000000) : CT Tryz.prog 147 ⟨[v, u]⟩ [] H (fun w N => ∃ u k, w = u ∧ N = [k] ∧ Own 9 1 u (Yn (m.reverse ++ l)) k) := by
 refine Zk Tryz.func147 rfl rfl <| Zc <| Za <| JLA rfl <| Zb <| Zc <| Za <| JLr (Zq (vs := []) [] Tryz.runUnderlying146 el9 rfl rfl (by intro e he; cases he) rfl (by decide) fun b1 k1 ho1 hk1 => JLr (Zh (l := [nS]) Tryz.zeroValue146 rfl fun b2 => JLr (Zd 0 (vs := [.slice (some ⟨b1, 0, none⟩) 0 0]) (l := [.slice (some ⟨b1, 0, none⟩) 0 0]) ty146 rfl rfl rfl rfl rfl (Zj rfl Zt) rfl <| Zb <| Zc <| Zc ?_)))
 refine Za <| JLm u <| Jc Tryz.call168 rfl (fun hin => backward_ct _ _ hm.one) rfl ?_
 rintro _ _ ⟨bK3, rfl, rfl⟩
 refine Zb <| Zo <| ZS (Sub.cons 1 rfl (Sub.cons 1 rfl (Sk Sub.nil))) <| J_range (L := [(BX bK3 [u] 79)]) (fun s : Value × Zf => [(BX b2 [s.1] 146), s.2]) (fun _ => false) (.slice (some ⟨b1, 0, none⟩) 0 0, k1) (fun s => Own 9 1 s.1 (Yn ((m.drop 0).reverse)) s.2) rfl rfl Tryz.call172 (List.Perm.of_eq (by simp)) ?_ ?_ ?_
 ·intro l yc hY hin
  refine CT.mono (backward1_ct m u _ bK3 (RSs.mono (Hle.hu _ _) hm) (hin 0 _ rfl _ _ List.mem_cons_self) l yc (fun i s => Own 9 1 s.1 (Yn ((m.drop i).reverse)) s.2) (.slice (some ⟨b1, 0, none⟩) 0 0, k1) (by rw [List.drop_length]; exact ho1) ?_) (fun v N hN => hN)
  intro i hi s h hI hh
  refine YT.mono (hY s [_, _] h (fun s => Own 9 1 s.1 (Yn ((m.drop i).reverse)) s.2) rfl rfl (RoundOk.mk ?_)) ?_
  ·show J _ _ _ _ [(BX b2 [s.1] 146), s.2] _
   refine Za <| JLA rfl <| Zb <| Zo <| Za <| JLr (Ze ty146 rfl (At.bx 0 rfl) rfl <| JLM rfl <| JLr (Zq (vs := [.string (m[i])]) [[.string (m[i])]] Tryz.runUnderlying146 el9 rfl rfl (by intro e he; simp only [List.mem_cons, List.not_mem_nil, or_false] at he; subst he; exact rfl) rfl (by decide) fun b4 k4 ho4 hk4 => ?_))
   have hlens5 : ∀ e ∈ ([[.string (m[i])]] : List (List Value)), List.length e = 1 := by
    intro e he; simp only [List.mem_cons, List.not_mem_nil, or_false] at he
    rcases he with rfl
    ·exact rfl
   have hoks5 : ∀ e ∈ ([[.string (m[i])]] : List (List Value)), okc e := by
    intro e he; simp only [List.mem_cons, List.not_mem_nil, or_false] at he
    rcases he with rfl
    ·exact (Zj rfl Zt)
   refine JLr (ZJ (i := 2) (n := 1) (es' := [[.string (m[i])]]) Tryz.runUnderlying146 Tryz.runUnderlying146 (Or.inl rfl) el9 rfl rfl rfl hI (fun F w m => Src.row (((At.k 0 rfl (by rw [hk4]; exact List.mem_cons_self))).heap m) (Zu (Zx hlens5))) rfl hlens5 hoks5 (by decide) (by simp only [YF, List.length_reverse, List.length_drop, List.length_append]; omega) fun v5 k5 ho5 => JLr (Zd 1 (vs := [v5]) (l := [v5]) ty146 rfl rfl rfl (ZE ho5.one) rfl (Zj ho5.one Zt) rfl <| Zb ?_))
   exact ⟨(v5, k5), rfl, (Sd (Sk (Sk Sub.nil))), (by rw [List.drop_eq_getElem_cons hi, List.reverse_cons, strs_snoc]; exact ho5)⟩
  rintro v N ⟨s2, rfl, rfl, h2⟩; exact ⟨s2, rfl, rfl, h2⟩
 ·rintro s hI hp
  have hIF := hI
  rw [List.drop_zero] at hIF
  refine Zc <| Za <| JLr (Ze ty146 rfl (At.bx 0 rfl) rfl <| JLm v <| JLr (ZJ (i := 1) (n := l.length) (es' := Yn l) Tryz.runUnderlying146 Tryz.runUnderlying146 (Or.inl rfl) el9 rfl rfl rfl hIF (fun F w m => strs_src hl w _ m) (YF _) (strs_len1 _) (strs_ok _) (by decide) (by simp only [YF, List.length_reverse, List.length_drop, List.length_append]; omega) fun v6 k6 ho6 => ?_))
  rw [← strs_app] at ho6
  refine JLa v6 <| Zb <| Zl <| ⟨v6, [k6], Ret.one rfl (RV.tmp rfl), (Sd (Sk Sub.nil)), ?_⟩
  exact ⟨_, _, rfl, rfl, ho6⟩
 intro s _ hp; cases hp
end Go.Proofs.YtfdeibbpfgolcaaGreat.Hs
/-! Walks, printed by a program of this session's own (gen.py). -/
namespace Go.Proofs.YtfdeibbpfgolcaaGreat.Hs
open Go Go.Proofs
set_option maxRecDepth 100000
set_option linter.unusedVariables false
set_option linter.unusedSimpArgs false
attribute [local irreducible] JL J CT wlo DT
theorem chosen1_ct (v : Value) (H : Heap) (hl : rdS RS 1 H v [ltr 0]) : CT Tryz.prog 113 ⟨[v, iv 1]⟩ [] H (fun v N => ∃ u1 u2 k1 k2, v = .tuple ⟨[u1, u2]⟩ ∧ N = [k1, k2] ∧ Own 9 1 u1 (Yn [ltr 1, ltr 0]) k1 ∧ Own 9 1 u2 (Yn [ltr 1]) k2) := by
 refine Zk Tryz.func113 rfl rfl <| Zc <| Za <| JLA rfl <| JLA rfl <| Zb <| Zc <| Za <| JLm v ?_
 obtain ⟨a1, cap1, hv1⟩ := hl.sl
 have hle1 := hl.le
 refine JLn (Pu.lenSl Tryz.runUnderlying146 hv1) <| JLM rfl <| JLq (iv 2) (Pu.arith rfl rfl rfl) <| JLr (Runs_make 2 Tryz.runUnderlying196 el4 rfl rfl rfl rfl (by decide) (by decide) fun b2 k2 _ hk2 => ?_)
 obtain rfl : k2 = (BX b2 (bls (List.replicate 2 false)) 4) := hk2
 refine JLA rfl <| Zb <| Zc <| Za <| JLM rfl <| JLq (.func (.func 144) ⟨[.slice (some ⟨b2, 0, none⟩) 2 2]⟩ ⟨[]⟩) (Pu.makeFunc rfl rfl) <| JLA rfl <| Zb <| Zc <| Zc <| Za <| JLm v ?_
 obtain ⟨a3, cap3, hv3⟩ := hl.sl
 have hle3 := hl.le
 refine JLn (Pu.lenSl Tryz.runUnderlying146 hv3) <| JLM rfl <| Zb <| Zo <| Ya 2 <| ZG <| Zc <| Za <| JLq (.bool true) (show Pu _ _ _ (.bool (decide ((0 : Int) < 1))) from Pu.lss rfl rfl) <| Zb <| Zc <| Zg (b := true) rfl (fun _ => ?_) (fun h => absurd h (by simp))
 refine Zm <| Zc <| Zo <| Zc <| Za ?_
 obtain ⟨b4, o4, cap4, row4, T4, fr4, cs4, hv4, hb4, hs4, hE4⟩ := hl.get 0 (by first | assumption | omega | decide | simp)
 refine JLq (pp b4 (o4 + 0 * 1)) (Pu.idx 0 Tryz.runUnderlying146 ty9 hv4 rfl rfl (by first | assumption | omega | decide | simp)) <| JLr (Ze ty9 rfl (At.im hb4) (YK ((show cs4 = [Value.string (ltr 0)] from hE4) ▸ hs4)) <| JLA rfl <| Zb <| Za <| JLM rfl <| JLM rfl <| Zr 0 rfl Tryz.call144 rfl rfl (fun hin => mark_ct 0 2 _ _ _ (by decide) (List.length_replicate ..)) rfl ?_)
 rintro _ _ ⟨rfl, rfl⟩
 refine Zb <| Za <| JLq (iv 1) (Pu.arith rfl rfl rfl) <| JLM rfl <| Zb <| ZG <| Zc <| Za <| JLq (.bool false) (show Pu _ _ _ (.bool (decide ((1 : Int) < 1))) from Pu.lss rfl rfl) <| Zb <| Zc <| Zg (b := false) rfl (fun h => absurd h (by simp)) (fun _ => ZB _ rfl ?_)
 refine Zc <| Za <| JLA rfl <| Zb <| Zc <| Zc <| Za <| JLM rfl <| JLM rfl <| Zb <| Zo <| Ya 2 <| ZG ?_
 refine Zc <| Za <| JLq (.bool true) (show Pu _ _ _ (.bool (decide ((0 : Int) < 1))) from Pu.lss rfl rfl) <| Zb <| Zc <| Zg (b := true) rfl (fun _ => ?_) (fun h => absurd h (by simp))
 refine Zm <| Zc <| Zo <| Zc <| Za <| JLM rfl <| Jc Tryz.call145 rfl (fun hin => int_r (r := 1) (idxB_ct false _ _ _ _ ((markL_len ..).trans (List.length_replicate ..)) (by decide) (hin 0 _ rfl _ _ List.mem_cons_self)) (by decide)) rfl ?_
 rintro _ _ ⟨rfl, rfl⟩
 refine JLA rfl <| Zb <| Zc <| Za <| JLM rfl <| JLM rfl <| Jc Tryz.call146 rfl (fun hin => name_ct 1 _ (by decide)) rfl ?_
 rintro _ _ ⟨rfl, rfl⟩
 refine JLr (Zq (vs := [.string (ltr 1)]) [[.string (ltr 1)]] Tryz.runUnderlying79 el9 rfl rfl (by intro e he; simp only [List.mem_cons, List.not_mem_nil, or_false] at he; subst he; exact rfl) rfl (by decide) fun b5 k5 ho5 hk5 => Zw (M' := [[], k5, (BX b2 (bls (markL 0 (List.replicate 2 false))) 4)]) (Sub.emp Sub.refl) ?_)
 have hlens6 : ∀ e ∈ ([[.string (ltr 1)]] : List (List Value)), List.length e = 1 := by
  intro e he; simp only [List.mem_cons, List.not_mem_nil, or_false] at he
  rcases he with rfl
  ·exact rfl
 have hoks6 : ∀ e ∈ ([[.string (ltr 1)]] : List (List Value)), okc e := by
  intro e he; simp only [List.mem_cons, List.not_mem_nil, or_false] at he
  rcases he with rfl
  ·exact (Zj rfl Zt)
 refine JLr (ZJ (i := 0) (n := 1) (es' := [[.string (ltr 1)]]) Tryz.runUnderlying79 Tryz.runUnderlying79 (Or.inl rfl) el9 rfl rfl rfl (show Own _ _ _ (Yn []) _ from Own.nil) (fun F w m => Src.row (((At.k 1 rfl (by rw [hk5]; exact List.mem_cons_self))).heap m) (Zu (Zx hlens6))) rfl hlens6 hoks6 (by decide) (by simp [Yn]) fun v6 k6 ho6 => ?_)
 rw [← strs_snoc] at ho6
 refine JLa v6 <| Zb <| Za <| JLM rfl <| JLM rfl <| JLq (pp b2 (0 + 1 * 1)) (Pu.idx 1 Tryz.runUnderlying196 ty4 rfl rfl (by omega) (by omega)) <| JLr (Zd 2 (vs := [.bool true]) (l := bls ((markL 0 (List.replicate 2 false)).set 1 true)) ty4 rfl rfl rfl rfl rfl (Zj rfl Zt) (bls_set1 (by have hbl : List.length (markL 0 (List.replicate 2 false)) = 2 := ((markL_len ..).trans (List.length_replicate ..)); omega)) <| Zb <| Za <| JLq (iv 1) (Pu.arith rfl rfl rfl) <| JLM rfl <| Zb <| ZG ?_)
 refine Zc <| Za <| JLq (.bool false) (show Pu _ _ _ (.bool (decide ((1 : Int) < 1))) from Pu.lss rfl rfl) <| Zb <| Zc <| Zg (b := false) rfl (fun h => absurd h (by simp)) (fun _ => ZB _ rfl <| Zc <| Za <| JLm v <| JLm v6 <| Jc Tryz.call147 rfl (fun hin => with_ct _ _ _ _ _ (RSs.mono (Hle.hu _ _) hl) (Y3 ho6 (by simp) (hin 0 _ rfl)) (by simp)) rfl ?_)
 rintro u7 _ ⟨_, k7, hu7, rfl, ho7⟩; subst hu7
 refine JLm v6 <| JLa u7 <| JLa v6 <| Zb <| Zl <| ⟨.tuple ⟨[u7, v6]⟩, [k7, k6], Ret.two rfl (RV.tmp rfl) (RV.tmp rfl), (Sk (Sk Sub.nil)), ?_⟩
 exact ⟨_, _, _, _, rfl, rfl, ho7, ho6⟩
theorem chosen2_ct (v : Value) (H : Heap) (hl : rdS RS 1 H v [ltr 1, ltr 0]) : CT Tryz.prog 113 ⟨[v, iv 1]⟩ [] H (fun v N => ∃ u1 u2 k1 k2, v = .tuple ⟨[u1, u2]⟩ ∧ N = [k1, k2] ∧ Own 9 1 u1 (Yn [ltr 2, ltr 1, ltr 0]) k1 ∧ Own 9 1 u2 (Yn [ltr 2]) k2) := by
 refine Zk Tryz.func113 rfl rfl <| Zc <| Za <| JLA rfl <| JLA rfl <| Zb <| Zc <| Za <| JLm v ?_
 obtain ⟨a1, cap1, hv1⟩ := hl.sl
 have hle1 := hl.le
 refine JLn (Pu.lenSl Tryz.runUnderlying146 hv1) <| JLM rfl <| JLq (iv 3) (Pu.arith rfl rfl rfl) <| JLr (Runs_make 3 Tryz.runUnderlying196 el4 rfl rfl rfl rfl (by decide) (by decide) fun b2 k2 _ hk2 => ?_)
 obtain rfl : k2 = (BX b2 (bls (List.replicate 3 false)) 4) := hk2
 refine JLA rfl <| Zb <| Zc <| Za <| JLM rfl <| JLq (.func (.func 144) ⟨[.slice (some ⟨b2, 0, none⟩) 3 3]⟩ ⟨[]⟩) (Pu.makeFunc rfl rfl) <| JLA rfl <| Zb <| Zc <| Zc <| Za <| JLm v ?_
 obtain ⟨a3, cap3, hv3⟩ := hl.sl
 have hle3 := hl.le
 refine JLn (Pu.lenSl Tryz.runUnderlying146 hv3) <| JLM rfl <| Zb <| Zo <| Ya 3 <| ZG <| Zc <| Za <| JLq (.bool true) (show Pu _ _ _ (.bool (decide ((0 : Int) < 2))) from Pu.lss rfl rfl) <| Zb <| Zc <| Zg (b := true) rfl (fun _ => ?_) (fun h => absurd h (by simp))
 refine Zm <| Zc <| Zo <| Zc <| Za ?_
 obtain ⟨b4, o4, cap4, row4, T4, fr4, cs4, hv4, hb4, hs4, hE4⟩ := hl.get 0 (by first | assumption | omega | decide | simp)
 refine JLq (pp b4 (o4 + 0 * 1)) (Pu.idx 0 Tryz.runUnderlying146 ty9 hv4 rfl rfl (by first | assumption | omega | decide | simp)) <| JLr (Ze ty9 rfl (At.im hb4) (YK ((show cs4 = [Value.string (ltr 1)] from hE4) ▸ hs4)) <| JLA rfl <| Zb <| Za <| JLM rfl <| JLM rfl <| Zr 0 rfl Tryz.call144 rfl rfl (fun hin => mark_ct 1 3 _ _ _ (by decide) (List.length_replicate ..)) rfl ?_)
 rintro _ _ ⟨rfl, rfl⟩
 refine Zb <| Za <| JLq (iv 1) (Pu.arith rfl rfl rfl) <| JLM rfl <| Zb <| ZG <| Zc <| Za <| JLq (.bool true) (show Pu _ _ _ (.bool (decide ((1 : Int) < 2))) from Pu.lss rfl rfl) <| Zb <| Zc <| Zg (b := true) rfl (fun _ => ?_) (fun h => absurd h (by simp))
 refine Zm <| Zc <| Zo <| Zc <| Za ?_
 obtain ⟨b5, o5, cap5, row5, T5, fr5, cs5, hv5, hb5, hs5, hE5⟩ := hl.get 1 (by first | assumption | omega | decide | simp)
 refine JLq (pp b5 (o5 + 1 * 1)) (Pu.idx 1 Tryz.runUnderlying146 ty9 hv5 rfl rfl (by first | assumption | omega | decide | simp)) <| JLr (Ze ty9 rfl (At.im hb5) (YK ((show cs5 = [Value.string (ltr 0)] from hE5) ▸ hs5)) <| JLA rfl <| Zb <| Za <| JLM rfl <| JLM rfl <| Zr 0 rfl Tryz.call144 rfl rfl (fun hin => mark_ct 0 3 _ _ _ (by decide) ((markL_len ..).trans (List.length_replicate ..))) rfl ?_)
 rintro _ _ ⟨rfl, rfl⟩
 refine Zb <| Za <| JLq (iv 2) (Pu.arith rfl rfl rfl) <| JLM rfl <| Zb <| ZG <| Zc <| Za <| JLq (.bool false) (show Pu _ _ _ (.bool (decide ((2 : Int) < 2))) from Pu.lss rfl rfl) <| Zb <| Zc <| Zg (b := false) rfl (fun h => absurd h (by simp)) (fun _ => ZB _ rfl ?_)
 refine Zc <| Za <| JLA rfl <| Zb <| Zc <| Zc <| Za <| JLM rfl <| JLM rfl <| Zb <| Zo <| Ya 2 <| ZG ?_
 refine Zc <| Za <| JLq (.bool true) (show Pu _ _ _ (.bool (decide ((0 : Int) < 1))) from Pu.lss rfl rfl) <| Zb <| Zc <| Zg (b := true) rfl (fun _ => ?_) (fun h => absurd h (by simp))
 refine Zm <| Zc <| Zo <| Zc <| Za <| JLM rfl <| Jc Tryz.call145 rfl (fun hin => int_r (r := 2) (idxB_ct false _ _ _ _ ((markL_len ..).trans ((markL_len ..).trans (List.length_replicate ..))) (by decide) (hin 0 _ rfl _ _ List.mem_cons_self)) (by decide)) rfl ?_
 rintro _ _ ⟨rfl, rfl⟩
 refine JLA rfl <| Zb <| Zc <| Za <| JLM rfl <| JLM rfl <| Jc Tryz.call146 rfl (fun hin => name_ct 2 _ (by decide)) rfl ?_
 rintro _ _ ⟨rfl, rfl⟩
 refine JLr (Zq (vs := [.string (ltr 2)]) [[.string (ltr 2)]] Tryz.runUnderlying79 el9 rfl rfl (by intro e he; simp only [List.mem_cons, List.not_mem_nil, or_false] at he; subst he; exact rfl) rfl (by decide) fun b6 k6 ho6 hk6 => Zw (M' := [[], k6, (BX b2 (bls (markL 0 (markL 1 (List.replicate 3 false)))) 4)]) (Sub.emp Sub.refl) ?_)
 have hlens7 : ∀ e ∈ ([[.string (ltr 2)]] : List (List Value)), List.length e = 1 := by
  intro e he; simp only [List.mem_cons, List.not_mem_nil, or_false] at he
  rcases he with rfl
  ·exact rfl
 have hoks7 : ∀ e ∈ ([[.string (ltr 2)]] : List (List Value)), okc e := by
  intro e he; simp only [List.mem_cons, List.not_mem_nil, or_false] at he
  rcases he with rfl
  ·exact (Zj rfl Zt)
 refine JLr (ZJ (i := 0) (n := 1) (es' := [[.string (ltr 2)]]) Tryz.runUnderlying79 Tryz.runUnderlying79 (Or.inl rfl) el9 rfl rfl rfl (show Own _ _ _ (Yn []) _ from Own.nil) (fun F w m => Src.row (((At.k 1 rfl (by rw [hk6]; exact List.mem_cons_self))).heap m) (Zu (Zx hlens7))) rfl hlens7 hoks7 (by decide) (by simp [Yn]) fun v7 k7 ho7 => ?_)
 rw [← strs_snoc] at ho7
 refine JLa v7 <| Zb <| Za <| JLM rfl <| JLM rfl <| JLq (pp b2 (0 + 2 * 1)) (Pu.idx 2 Tryz.runUnderlying196 ty4 rfl rfl (by omega) (by omega)) <| JLr (Zd 2 (vs := [.bool true]) (l := bls ((markL 0 (markL 1 (List.replicate 3 false))).set 2 true)) ty4 rfl rfl rfl rfl rfl (Zj rfl Zt) (bls_set1 (by have hbl : List.length (markL 0 (markL 1 (List.replicate 3 false))) = 3 := ((markL_len ..).trans ((markL_len ..).trans (List.length_replicate ..))); omega)) <| Zb <| Za <| JLq (iv 1) (Pu.arith rfl rfl rfl) <| JLM rfl <| Zb <| ZG ?_)
 refine Zc <| Za <| JLq (.bool false) (show Pu _ _ _ (.bool (decide ((1 : Int) < 1))) from Pu.lss rfl rfl) <| Zb <| Zc <| Zg (b := false) rfl (fun h => absurd h (by simp)) (fun _ => ZB _ rfl <| Zc <| Za <| JLm v <| JLm v7 <| Jc Tryz.call147 rfl (fun hin => with_ct _ _ _ _ _ (RSs.mono (Hle.hu _ _) hl) (Y3 ho7 (by simp) (hin 0 _ rfl)) (by simp)) rfl ?_)
 rintro u8 _ ⟨_, k8, hu8, rfl, ho8⟩; subst hu8
 refine JLm v7 <| JLa u8 <| JLa v7 <| Zb <| Zl <| ⟨.tuple ⟨[u8, v7]⟩, [k8, k7], Ret.two rfl (RV.tmp rfl) (RV.tmp rfl), (Sk (Sk Sub.nil)), ?_⟩
 exact ⟨_, _, _, _, rfl, rfl, ho8, ho7⟩
end Go.Proofs.YtfdeibbpfgolcaaGreat.Hs
/-! Walks, printed by a program of this session's own (gen.py). -/
namespace Go.Proofs.YtfdeibbpfgolcaaGreat.Hs
open Go Go.Proofs
set_option maxRecDepth 100000
set_option linter.unusedVariables false
set_option linter.unusedSimpArgs false
attribute [local irreducible] JL J CT wlo DT
set_option maxHeartbeats 1000000 in
theorem named_va : ∀ (cs : List Value) (v : Value) (H : Heap), RT H cs (Tm.mk 1 1 zS [] []) → rdS RS 1 H v [ltr 2, ltr 1, ltr 0] → CT Tryz.prog 89 ⟨[.agg ⟨cs⟩, v]⟩ [] H (fun v N => ∃ cs k, v = .agg ⟨cs⟩ ∧ N = [k] ∧ NC [] cs k) := by
 intro cs v H ht hl
 obtain ⟨ks, cv, rfl, _, _, hks, hcv⟩ := RT_mk.1 ht
 refine Zk Tryz.func89 rfl rfl <| Zc <| Za <| JLr (Zp (l := pkT 1 1 zS ks cv) rfl rfl fun b1 => JLr (Zh (l := (pkT 0 0 zS nS nS) ++ ([nS] : List Value)) Tryz.zeroValue83 rfl fun b2 => Zb <| Zc <| Za <| JLq (pp b1 0) (ZO rfl rfl) <| JLr (Ze ty3 rfl (At.bx 1 rfl) (Z5 ..) <| JLq (pp b1 1) (Yq rfl rfl) <| JLr (Ze ty3 rfl (At.bx 1 rfl) (YY ..) <| JLq (pp b1 2) (fa27_2 rfl rfl) ?_))))
 refine JLr (Zi Z3 rfl (At.bx 1 rfl) (pkT_2 ..) <| JLq (.agg ⟨(pkT 1 1 zS nS nS) ++ ([nS] : List Value)⟩) (Pu.build (pv := [(0, iv 1), (1, iv 1), (2, .agg ⟨sC zS⟩)]) (l := (pkT 1 1 zS nS nS) ++ ([nS] : List Value)) rfl (bld83_0_1_2 _ _ _)) <| JLr (Zh (l := (pkT 0 0 zS nS nS) ++ ([nS] : List Value)) Tryz.zeroValue83 rfl fun b3 => JLr (Zd 0 (vs := (pkT 1 1 zS nS nS) ++ ([nS] : List Value)) (l := (pkT 1 1 zS nS nS) ++ ([nS] : List Value)) ty83 rfl rfl rfl rfl rfl (Z2 (Zz rfl rfl) (Zj rfl Zt)) (Zy (n := 37) rfl rfl) <| Zb <| Zc <| Zc <| Za <| JLq (pp b1 0) (ZO rfl rfl) <| JLr (Ze ty3 rfl (At.bx 2 rfl) (Z5 ..) <| JLq (.bool true) (show Pu _ _ _ (.bool (decide ((1 : Int) = 1))) from Pu.eql rfl rfl) <| Zb <| Zg (b := true) rfl (fun _ => ?_) (fun h => absurd h (by simp))))))
 refine ZL mixed #[0, 0, 2, 7, 15, 31, 0, 64, 255, 511] 8 [some 24, some 25, some 26, some 27, some 28, some 29, some 30, none] [(7, 8)] [(5, fun _ _ vw qw => ∃ b k, vw = .slice (some ⟨b, 0, none⟩) 1 1 ∧ qw = [k] ∧ Own 9 1 (.slice (some ⟨b, 0, none⟩) 1 1) [[.string (ltr 1)]] k ∧ k = (BX b (List.flatten [[.string (ltr 1)]]) 9)), (7, fun _ _ vw qw => vw = undef ∧ qw = [(BX b3 ((pkT 1 0 zS nS nS) ++ ([nS] : List Value)) 83)])] rfl (by kernel_rfl) rfl (by kernel_rfl) <| Dm v <| Dq (pp b1 1) (fun _ => Yq rfl rfl) <| Dl1 ty3 (At.bx 1 rfl) (YY ..) ?_
 obtain ⟨b6, o6, cap6, row6, T6, fr6, cs6, hv6, hb6, hs6, hE6⟩ := hl.get 1 (by first | assumption | omega | decide | simp)
 refine Dq (pp b6 (o6 + 1 * 1)) (fun _ => Pu.idx 1 Tryz.runUnderlying146 ty9 hv6 rfl rfl (by first | assumption | omega | decide | simp)) <| Dl1 ty9 (At.im hb6) (YK ((show cs6 = [Value.string (ltr 1)] from hE6) ▸ hs6)) <| Dr rfl (fun _ => Zq (vs := [.string (ltr 1)]) [[.string (ltr 1)]] Tryz.runUnderlying79 el9 rfl rfl (by intro e he; simp only [List.mem_cons, List.not_mem_nil, or_false] at he; subst he; exact rfl) rfl (by decide) fun b k h1 h2 => ⟨[k], by rw [Yi rfl]; exact Sub.refl, b, k, rfl, rfl, h1, h2⟩) (fun _ _ ⟨b7, k7, e1, e2, ho7, hk7⟩ => ?_); subst e1 e2
 refine Dq (pp b3 1) (fun _ => fa83_1 rfl rfl) <| Dr rfl (fun _ => Zd 0 (vs := [iv 0]) (l := (pkT 1 0 zS nS nS) ++ ([nS] : List Value)) ty3 rfl rfl rfl rfl rfl (Zj rfl Zt) (spl_l (pkT_s1 ..)) ⟨[_], keptE (i := 0) rfl rfl, rfl, rfl⟩) ?_; rintro _ _ ⟨rfl, rfl⟩
 refine ZZ (M' := [(BX b3 ((pkT 1 0 zS nS nS) ++ ([nS] : List Value)) 83), k7, (BX b2 ((pkT 0 0 zS nS nS) ++ ([nS] : List Value)) 83), (BX b1 (pkT 1 1 zS ks cv) 27)]) rfl ?_
 show JL _ _ _ [_, _] _ _ _
 refine JLq (pp b3 34) (fa83_3 rfl rfl) <| JLr (Zd 0 (vs := [.slice (some ⟨b7, 0, none⟩) 1 1]) (l := (pkT 1 0 zS (.slice (some ⟨b7, 0, none⟩) 1 1) nS) ++ ([nS] : List Value)) ty79 rfl rfl rfl rfl rfl (Zj rfl Zt) (spl_l (pkT_s34 ..)) <| Zb <| Zc <| Zc <| Za <| JLq (pp b1 34) (Yb rfl rfl) <| JLr (Ze ty24 rfl (At.bx 3 rfl) (Z9 ..) ?_))
 obtain ⟨a8, cap8, hv8⟩ := hks.sl
 have hle8 := hks.le
 refine JLn (Pu.lenSl Tryz.runUnderlying24 hv8) <| JLM rfl <| Zb <| Zo <| Ya 1 <| ZG <| Zc <| Za <| JLq (.bool false) (show Pu _ _ _ (.bool (decide ((0 : Int) < 0))) from Pu.lss rfl rfl) <| Zb <| Zc <| Zg (b := false) rfl (fun h => absurd h (by simp)) (fun _ => ZB _ rfl ?_)
 refine Zc <| Zc <| Za <| JLq (pp b1 35) (Yw rfl rfl) <| JLr (Ze ty25 rfl (At.bx 3 rfl) (Yj ..) ?_)
 obtain ⟨a9, cap9, hv9⟩ := hcv.sl
 have hle9 := hcv.le
 refine JLn (Pu.lenSl Tryz.runUnderlying25 hv9) <| JLM rfl <| Zb <| Zo <| Ya 1 <| ZG <| Zc <| Za <| JLq (.bool false) (show Pu _ _ _ (.bool (decide ((0 : Int) < 0))) from Pu.lss rfl rfl) <| Zb <| Zc <| Zg (b := false) rfl (fun h => absurd h (by simp)) (fun _ => ZB _ rfl ?_)
 refine Zc <| Za <| JLr (Zi ty83 rfl (At.bx 0 rfl) (Zu rfl) <| JLr (Zd 2 (vs := (pkT 1 0 zS (.slice (some ⟨b7, 0, none⟩) 1 1) nS) ++ ([nS] : List Value)) (l := (pkT 1 0 zS (.slice (some ⟨b7, 0, none⟩) 1 1) nS) ++ ([nS] : List Value)) ty83 rfl rfl rfl rfl rfl (Z2 (Zz rfl rfl) (Zj rfl Zt)) (Zy (n := 37) rfl rfl) <| Zb <| Zl <| ⟨.agg ⟨(pkT 1 0 zS (.slice (some ⟨b7, 0, none⟩) 1 1) nS) ++ ([nS] : List Value)⟩, [[]], Ret.one rfl (RV.cell ty83 rfl (At.bx 2 rfl) (Zu rfl)), (Sub.emp Sub.nil), ?_⟩))
 exact ⟨_, _, rfl, rfl, rfl, (Z2 (Zz rfl rfl) (Zj rfl Zt))⟩
set_option maxHeartbeats 1000000 in
theorem named1_ct : ∀ (cs : List Value) (v : Value) (H : Heap), RT H cs (Tm.mk 3 0 zS [Tm.mk 1 1 zS [] []] []) → rdS RS 1 H v [ltr 1, ltr 0] → CT Tryz.prog 89 ⟨[.agg ⟨cs⟩, v]⟩ [] H (fun v N => ∃ cs k, v = .agg ⟨cs⟩ ∧ N = [k] ∧ NC [[ltr 2]] cs k) := by
 intro cs v H ht hl
 obtain ⟨ks, cv, rfl, _, _, hks, hcv⟩ := RT_mk.1 ht
 refine Zk Tryz.func89 rfl rfl <| Zc <| Za <| JLr (Zp (l := pkT 3 0 zS ks cv) rfl rfl fun b1 => JLr (Zh (l := (pkT 0 0 zS nS nS) ++ ([nS] : List Value)) Tryz.zeroValue83 rfl fun b2 => Zb <| Zc <| Za <| JLq (pp b1 0) (ZO rfl rfl) <| JLr (Ze ty3 rfl (At.bx 1 rfl) (Z5 ..) <| JLq (pp b1 1) (Yq rfl rfl) <| JLr (Ze ty3 rfl (At.bx 1 rfl) (YY ..) <| JLq (pp b1 2) (fa27_2 rfl rfl) ?_))))
 refine JLr (Zi Z3 rfl (At.bx 1 rfl) (pkT_2 ..) <| JLq (.agg ⟨(pkT 3 0 zS nS nS) ++ ([nS] : List Value)⟩) (Pu.build (pv := [(0, iv 3), (1, iv 0), (2, .agg ⟨sC zS⟩)]) (l := (pkT 3 0 zS nS nS) ++ ([nS] : List Value)) rfl (bld83_0_1_2 _ _ _)) <| JLr (Zh (l := (pkT 0 0 zS nS nS) ++ ([nS] : List Value)) Tryz.zeroValue83 rfl fun b3 => JLr (Zd 0 (vs := (pkT 3 0 zS nS nS) ++ ([nS] : List Value)) (l := (pkT 3 0 zS nS nS) ++ ([nS] : List Value)) ty83 rfl rfl rfl rfl rfl (Z2 (Zz rfl rfl) (Zj rfl Zt)) (Zy (n := 37) rfl rfl) <| Zb <| Zc <| Zc <| Za <| JLq (pp b1 0) (ZO rfl rfl) <| JLr (Ze ty3 rfl (At.bx 2 rfl) (Z5 ..) <| JLq (.bool false) (show Pu _ _ _ (.bool (decide ((3 : Int) = 1))) from Pu.eql rfl rfl) <| Zb <| Zg (b := false) rfl (fun h => absurd h (by simp)) (fun _ => ?_)))))
 refine Zm <| Zc <| Zc <| Za <| JLq (pp b1 34) (Yb rfl rfl) <| JLr (Ze ty24 rfl (At.bx 2 rfl) (Z9 ..) ?_)
 obtain ⟨a4, cap4, hv4⟩ := hks.sl
 have hle4 := hks.le
 refine JLn (Pu.lenSl Tryz.runUnderlying24 hv4) <| JLM rfl <| Zb <| Zo <| Ya 2 <| ZG <| Zc <| Za <| JLq (.bool true) (show Pu _ _ _ (.bool (decide ((0 : Int) < 1))) from Pu.lss rfl rfl) <| Zb <| Zc <| Zg (b := true) rfl (fun _ => ?_) (fun h => absurd h (by simp))
 refine Zm <| Zc <| Zo <| Zc <| Za <| JLM rfl ?_
 obtain ⟨b5, o5, cap5, row5, T5, fr5, cs5, hv5, hb5, hs5, hE5⟩ := hks.get 0 (by first | assumption | omega | decide | simp)
 refine JLq (pp b5 (o5 + 0 * 36)) (Pu.idx 0 Tryz.runUnderlying24 Zs hv5 rfl rfl (by first | assumption | omega | decide | simp)) <| JLr (Zi Zs rfl (At.im hb5) hs5 <| JLr (Zh (l := pkT 0 0 zS nS nS) Tryz.zeroValue27 rfl fun b6 => JLA rfl <| JLr (Zd 0 (vs := cs5) (l := cs5) Zs rfl rfl rfl rfl (Zv hE5) (Y5 hE5) (Zy (n := 36) rfl (Zv hE5)) <| Zb <| Zc <| Za <| JLm v <| JLq (pp b1 0) (ZO rfl rfl) <| JLr (Ze ty3 rfl (At.bx 3 rfl) (Z5 ..) <| JLM rfl <| Jc Tryz.call96 rfl (fun hin => int_r (r := 1) (more_ct _ _ _) (by decide)) rfl ?_))))
 rintro _ _ ⟨rfl, rfl⟩
 refine Jc Tryz.call113 rfl (fun hin => chosen2_ct _ _ (RSs.mono (Hle.hu _ _) hl)) rfl ?_
 rintro _ _ ⟨ua7, ub7, ka7, kb7, rfl, rfl, hoa7, hob7⟩
 refine JLM rfl <| JLn (Pu.extract rfl rfl) <| JLn (Pu.extract rfl rfl) <| JLa ua7 <| JLa ub7 <| Zb <| Zc <| Za <| JLq (pp b3 34) (fa83_3 rfl rfl) <| JLr (Ze ty79 rfl (At.bx 3 rfl) (get_l (Z9 ..)) <| JLm ub7 <| Zw (M' := [[], ka7, kb7, (BX b6 cs5 27), (BX b3 ((pkT 3 0 zS nS nS) ++ ([nS] : List Value)) 83), (BX b2 ((pkT 0 0 zS nS nS) ++ ([nS] : List Value)) 83), (BX b1 (pkT 3 0 zS ks cv) 27)]) (Sub.emp Sub.refl) <| JLr (ZJ (i := 0) (n := ([ltr 2]).length) (es' := Yn ([ltr 2])) Tryz.runUnderlying79 Tryz.runUnderlying79 (Or.inl rfl) el9 rfl rfl rfl (show Own _ _ _ (Yn []) _ from Own.nil) (own_src (i := 2) hob7 rfl) (YF _) (strs_len1 _) (strs_ok _) (by decide) (by simp [Yn]) fun v8 k8 ho8 => ?_))
 rw [← strs_app] at ho8
 refine JLq (pp b3 34) (fa83_3 rfl rfl) <| JLr (Zd 4 (vs := [v8]) (l := (pkT 3 0 zS v8 nS) ++ ([nS] : List Value)) ty79 rfl rfl rfl (ZE ho8.one) rfl (Zj ho8.one Zt) (spl_l (pkT_s34 ..)) <| Zb <| ZL mixed #[0, 1, 0, 0, 12, 28, 63, 127, 255] 6 [some 54, some 55, some 56, some 57, some 58, some 59] [] [(4, fun _ _ vw qw => ∃ cs k, vw = .agg ⟨cs⟩ ∧ qw = [k] ∧ NC ([]) cs k), (5, fun r _ vw qw => ∃ b k, vw = .slice (some ⟨b, 0, none⟩) 1 1 ∧ qw = [k] ∧ Own 83 37 (.slice (some ⟨b, 0, none⟩) 1 1) [(cel (r 4))] k ∧ k = (BX b (List.flatten [(cel (r 4))]) 83))] rfl (by kernel_rfl) rfl (by kernel_rfl) <| Dq (pp b3 35) (fun _ => fa83_4 rfl rfl) <| Dl1 ty80 (At.bx 4 rfl) (get_l (Yj ..)) <| Dl Zs (At.bx 3 rfl) (Zu (Zv hE5)) <| Dm ua7 <| Dc rfl Tryz.call89 (fun _ => rfl) (fun hin => named_va _ _ _ (RT.mono (Hle.hu _ _) hE5) (Y3 hoa7 (by simp) (hin 1 _ rfl))) ?_)
 rintro _ _ ⟨cs11, k11, rfl, rfl, hO11⟩
 refine Dr rfl (fun _ => Zq (vs := [.agg ⟨cs11⟩]) [cs11] Tryz.runUnderlying80 el83 rfl rfl (by intro e he; simp only [List.mem_cons, List.not_mem_nil, or_false] at he; subst he; exact hO11.len) rfl (by decide) fun b k h1 h2 => ⟨[k], by rw [Yi rfl]; exact Sub.refl, b, k, rfl, rfl, h1, h2⟩) (fun _ _ ⟨b12, k12, e1, e2, ho12, hk12⟩ => ?_); subst e1 e2
 refine ZZ (M' := [k12, k11, k8, ka7, kb7, (BX b6 cs5 27), (BX b3 ((pkT 3 0 zS v8 nS) ++ ([nS] : List Value)) 83), (BX b2 ((pkT 0 0 zS nS nS) ++ ([nS] : List Value)) 83), (BX b1 (pkT 3 0 zS ks cv) 27)]) rfl ?_
 show JL _ _ _ [_, _, _] _ _ _
 refine Zw (M' := [[], k12, k11, k8, ka7, kb7, (BX b6 cs5 27), (BX b3 ((pkT 3 0 zS v8 nS) ++ ([nS] : List Value)) 83), (BX b2 ((pkT 0 0 zS nS nS) ++ ([nS] : List Value)) 83), (BX b1 (pkT 3 0 zS ks cv) 27)]) (Sub.emp Sub.refl) ?_
 have hlens13 : ∀ e ∈ ([cs11] : List (List Value)), List.length e = 37 := by
  intro e he; simp only [List.mem_cons, List.not_mem_nil, or_false] at he
  rcases he with rfl
  ·exact hO11.len
 have hoks13 : ∀ e ∈ ([cs11] : List (List Value)), okc e := by
  intro e he; simp only [List.mem_cons, List.not_mem_nil, or_false] at he
  rcases he with rfl
  ·exact hO11.ok
 refine JLr (ZJ (i := 0) (n := 1) (es' := [cs11]) Tryz.runUnderlying80 Tryz.runUnderlying80 (Or.inl rfl) el83 rfl rfl rfl Own.nil (fun F w m => Src.row (((At.k 1 rfl (by rw [hk12]; exact List.mem_cons_self))).heap m) (Zu (Zx hlens13))) rfl hlens13 hoks13 (by decide) (by simp [Yn]) fun v13 k13 ho13 => JLq (pp b3 35) (fa83_4 rfl rfl) <| JLr (Zd 7 (vs := [v13]) (l := (pkT 3 0 zS v8 v13) ++ ([nS] : List Value)) ty80 rfl rfl rfl (ZE ho13.one) rfl (Zj ho13.one Zt) (spl_l (pkT_s35 ..)) <| Zb <| Za <| JLq (iv 1) (Pu.arith rfl rfl rfl) <| JLM rfl <| Zb <| ZG <| Zc <| Za <| JLq (.bool false) (show Pu _ _ _ (.bool (decide ((1 : Int) < 1))) from Pu.lss rfl rfl) <| Zb ?_))
 refine Zc <| Zg (b := false) rfl (fun h => absurd h (by simp)) (fun _ => ZB _ rfl <| Zc <| Zc <| Za <| JLq (pp b1 35) (Yw rfl rfl) <| JLr (Ze ty25 rfl (At.bx 9 rfl) (Yj ..) ?_))
 obtain ⟨a14, cap14, hv14⟩ := hcv.sl
 have hle14 := hcv.le
 refine JLn (Pu.lenSl Tryz.runUnderlying25 hv14) <| JLM rfl <| Zb <| Zo <| Ya 1 <| ZG <| Zc <| Za <| JLq (.bool false) (show Pu _ _ _ (.bool (decide ((0 : Int) < 0))) from Pu.lss rfl rfl) <| Zb <| Zc <| Zg (b := false) rfl (fun h => absurd h (by simp)) (fun _ => ZB _ rfl ?_)
 refine Zc <| Za <| JLr (Zi ty83 rfl (At.bx 7 rfl) (Zu rfl) <| JLr (Zd 8 (vs := (pkT 3 0 zS v8 v13) ++ ([nS] : List Value)) (l := (pkT 3 0 zS v8 v13) ++ ([nS] : List Value)) ty83 rfl rfl rfl rfl rfl (Z2 (Zz ho8.one ho13.one) (Zj rfl Zt)) (Zy (n := 37) rfl rfl) <| Zb <| Zl <| ⟨.agg ⟨(pkT 3 0 zS v8 v13) ++ ([nS] : List Value)⟩, [k8 ++ (k13 ++ k11)], Ret.one rfl (RV.cell ty83 rfl (At.bx 8 rfl) (Zu rfl)), (Sub.join3 (Sub.cons 3 rfl (Sk (Sd (Sk Sub.nil))))), ?_⟩))
 exact ⟨_, _, rfl, rfl, ⟨_, _, _, _, _, _, _, _, _, _, rfl, rfl, ho8, ho13, hO11, rfl⟩⟩
set_option maxHeartbeats 1000000 in
theorem named0_ct : ∀ (cs : List Value) (v : Value) (H : Heap), RT H cs (Tm.mk 3 0 zS [(Tm.mk 3 0 zS [Tm.mk 1 1 zS [] []] [])] []) → rdS RS 1 H v [ltr 0] → CT Tryz.prog 89 ⟨[.agg ⟨cs⟩, v]⟩ [] H (fun v N => ∃ cs k, v = .agg ⟨cs⟩ ∧ N = [k] ∧ NC [[ltr 1], [ltr 2]] cs k) := by
 intro cs v H ht hl
 obtain ⟨ks, cv, rfl, _, _, hks, hcv⟩ := RT_mk.1 ht
 refine Zk Tryz.func89 rfl rfl <| Zc <| Za <| JLr (Zp (l := pkT 3 0 zS ks cv) rfl rfl fun b1 => JLr (Zh (l := (pkT 0 0 zS nS nS) ++ ([nS] : List Value)) Tryz.zeroValue83 rfl fun b2 => Zb <| Zc <| Za <| JLq (pp b1 0) (ZO rfl rfl) <| JLr (Ze ty3 rfl (At.bx 1 rfl) (Z5 ..) <| JLq (pp b1 1) (Yq rfl rfl) <| JLr (Ze ty3 rfl (At.bx 1 rfl) (YY ..) <| JLq (pp b1 2) (fa27_2 rfl rfl) ?_))))
 refine JLr (Zi Z3 rfl (At.bx 1 rfl) (pkT_2 ..) <| JLq (.agg ⟨(pkT 3 0 zS nS nS) ++ ([nS] : List Value)⟩) (Pu.build (pv := [(0, iv 3), (1, iv 0), (2, .agg ⟨sC zS⟩)]) (l := (pkT 3 0 zS nS nS) ++ ([nS] : List Value)) rfl (bld83_0_1_2 _ _ _)) <| JLr (Zh (l := (pkT 0 0 zS nS nS) ++ ([nS] : List Value)) Tryz.zeroValue83 rfl fun b3 => JLr (Zd 0 (vs := (pkT 3 0 zS nS nS) ++ ([nS] : List Value)) (l := (pkT 3 0 zS nS nS) ++ ([nS] : List Value)) ty83 rfl rfl rfl rfl rfl (Z2 (Zz rfl rfl) (Zj rfl Zt)) (Zy (n := 37) rfl rfl) <| Zb <| Zc <| Zc <| Za <| JLq (pp b1 0) (ZO rfl rfl) <| JLr (Ze ty3 rfl (At.bx 2 rfl) (Z5 ..) <| JLq (.bool false) (show Pu _ _ _ (.bool (decide ((3 : Int) = 1))) from Pu.eql rfl rfl) <| Zb <| Zg (b := false) rfl (fun h => absurd h (by simp)) (fun _ => ?_)))))
 refine Zm <| Zc <| Zc <| Za <| JLq (pp b1 34) (Yb rfl rfl) <| JLr (Ze ty24 rfl (At.bx 2 rfl) (Z9 ..) ?_)
 obtain ⟨a4, cap4, hv4⟩ := hks.sl
 have hle4 := hks.le
 refine JLn (Pu.lenSl Tryz.runUnderlying24 hv4) <| JLM rfl <| Zb <| Zo <| Ya 2 <| ZG <| Zc <| Za <| JLq (.bool true) (show Pu _ _ _ (.bool (decide ((0 : Int) < 1))) from Pu.lss rfl rfl) <| Zb <| Zc <| Zg (b := true) rfl (fun _ => ?_) (fun h => absurd h (by simp))
 refine Zm <| Zc <| Zo <| Zc <| Za <| JLM rfl ?_
 obtain ⟨b5, o5, cap5, row5, T5, fr5, cs5, hv5, hb5, hs5, hE5⟩ := hks.get 0 (by first | assumption | omega | decide | simp)
 refine JLq (pp b5 (o5 + 0 * 36)) (Pu.idx 0 Tryz.runUnderlying24 Zs hv5 rfl rfl (by first | assumption | omega | decide | simp)) <| JLr (Zi Zs rfl (At.im hb5) hs5 <| JLr (Zh (l := pkT 0 0 zS nS nS) Tryz.zeroValue27 rfl fun b6 => JLA rfl <| JLr (Zd 0 (vs := cs5) (l := cs5) Zs rfl rfl rfl rfl (Zv hE5) (Y5 hE5) (Zy (n := 36) rfl (Zv hE5)) <| Zb <| Zc <| Za <| JLm v <| JLq (pp b1 0) (ZO rfl rfl) <| JLr (Ze ty3 rfl (At.bx 3 rfl) (Z5 ..) <| JLM rfl <| Jc Tryz.call96 rfl (fun hin => int_r (r := 1) (more_ct _ _ _) (by decide)) rfl ?_))))
 rintro _ _ ⟨rfl, rfl⟩
 refine Jc Tryz.call113 rfl (fun hin => chosen1_ct _ _ (RSs.mono (Hle.hu _ _) hl)) rfl ?_
 rintro _ _ ⟨ua7, ub7, ka7, kb7, rfl, rfl, hoa7, hob7⟩
 refine JLM rfl <| JLn (Pu.extract rfl rfl) <| JLn (Pu.extract rfl rfl) <| JLa ua7 <| JLa ub7 <| Zb <| Zc <| Za <| JLq (pp b3 34) (fa83_3 rfl rfl) <| JLr (Ze ty79 rfl (At.bx 3 rfl) (get_l (Z9 ..)) <| JLm ub7 <| Zw (M' := [[], ka7, kb7, (BX b6 cs5 27), (BX b3 ((pkT 3 0 zS nS nS) ++ ([nS] : List Value)) 83), (BX b2 ((pkT 0 0 zS nS nS) ++ ([nS] : List Value)) 83), (BX b1 (pkT 3 0 zS ks cv) 27)]) (Sub.emp Sub.refl) <| JLr (ZJ (i := 0) (n := ([ltr 1]).length) (es' := Yn ([ltr 1])) Tryz.runUnderlying79 Tryz.runUnderlying79 (Or.inl rfl) el9 rfl rfl rfl (show Own _ _ _ (Yn []) _ from Own.nil) (own_src (i := 2) hob7 rfl) (YF _) (strs_len1 _) (strs_ok _) (by decide) (by simp [Yn]) fun v8 k8 ho8 => ?_))
 rw [← strs_app] at ho8
 refine JLq (pp b3 34) (fa83_3 rfl rfl) <| JLr (Zd 4 (vs := [v8]) (l := (pkT 3 0 zS v8 nS) ++ ([nS] : List Value)) ty79 rfl rfl rfl (ZE ho8.one) rfl (Zj ho8.one Zt) (spl_l (pkT_s34 ..)) <| Zb <| ZL mixed #[0, 1, 0, 0, 12, 28, 63, 127, 255] 6 [some 54, some 55, some 56, some 57, some 58, some 59] [] [(4, fun _ _ vw qw => ∃ cs k, vw = .agg ⟨cs⟩ ∧ qw = [k] ∧ NC ([[ltr 2]]) cs k), (5, fun r _ vw qw => ∃ b k, vw = .slice (some ⟨b, 0, none⟩) 1 1 ∧ qw = [k] ∧ Own 83 37 (.slice (some ⟨b, 0, none⟩) 1 1) [(cel (r 4))] k ∧ k = (BX b (List.flatten [(cel (r 4))]) 83))] rfl (by kernel_rfl) rfl (by kernel_rfl) <| Dq (pp b3 35) (fun _ => fa83_4 rfl rfl) <| Dl1 ty80 (At.bx 4 rfl) (get_l (Yj ..)) <| Dl Zs (At.bx 3 rfl) (Zu (Zv hE5)) <| Dm ua7 <| Dc rfl Tryz.call89 (fun _ => rfl) (fun hin => named1_ct _ _ _ (RT.mono (Hle.hu _ _) hE5) (Y3 hoa7 (by simp) (hin 1 _ rfl))) ?_)
 rintro _ _ ⟨cs11, k11, rfl, rfl, hO11⟩
 refine Dr rfl (fun _ => Zq (vs := [.agg ⟨cs11⟩]) [cs11] Tryz.runUnderlying80 el83 rfl rfl (by intro e he; simp only [List.mem_cons, List.not_mem_nil, or_false] at he; subst he; exact hO11.len) rfl (by decide) fun b k h1 h2 => ⟨[k], by rw [Yi rfl]; exact Sub.refl, b, k, rfl, rfl, h1, h2⟩) (fun _ _ ⟨b12, k12, e1, e2, ho12, hk12⟩ => ?_); subst e1 e2
 refine ZZ (M' := [k12, k11, k8, ka7, kb7, (BX b6 cs5 27), (BX b3 ((pkT 3 0 zS v8 nS) ++ ([nS] : List Value)) 83), (BX b2 ((pkT 0 0 zS nS nS) ++ ([nS] : List Value)) 83), (BX b1 (pkT 3 0 zS ks cv) 27)]) rfl ?_
 show JL _ _ _ [_, _, _] _ _ _
 refine Zw (M' := [[], k12, k11, k8, ka7, kb7, (BX b6 cs5 27), (BX b3 ((pkT 3 0 zS v8 nS) ++ ([nS] : List Value)) 83), (BX b2 ((pkT 0 0 zS nS nS) ++ ([nS] : List Value)) 83), (BX b1 (pkT 3 0 zS ks cv) 27)]) (Sub.emp Sub.refl) ?_
 have hlens13 : ∀ e ∈ ([cs11] : List (List Value)), List.length e = 37 := by
  intro e he; simp only [List.mem_cons, List.not_mem_nil, or_false] at he
  rcases he with rfl
  ·exact hO11.len
 have hoks13 : ∀ e ∈ ([cs11] : List (List Value)), okc e := by
  intro e he; simp only [List.mem_cons, List.not_mem_nil, or_false] at he
  rcases he with rfl
  ·exact hO11.ok
 refine JLr (ZJ (i := 0) (n := 1) (es' := [cs11]) Tryz.runUnderlying80 Tryz.runUnderlying80 (Or.inl rfl) el83 rfl rfl rfl Own.nil (fun F w m => Src.row (((At.k 1 rfl (by rw [hk12]; exact List.mem_cons_self))).heap m) (Zu (Zx hlens13))) rfl hlens13 hoks13 (by decide) (by simp [Yn]) fun v13 k13 ho13 => JLq (pp b3 35) (fa83_4 rfl rfl) <| JLr (Zd 7 (vs := [v13]) (l := (pkT 3 0 zS v8 v13) ++ ([nS] : List Value)) ty80 rfl rfl rfl (ZE ho13.one) rfl (Zj ho13.one Zt) (spl_l (pkT_s35 ..)) <| Zb <| Za <| JLq (iv 1) (Pu.arith rfl rfl rfl) <| JLM rfl <| Zb <| ZG <| Zc <| Za <| JLq (.bool false) (show Pu _ _ _ (.bool (decide ((1 : Int) < 1))) from Pu.lss rfl rfl) <| Zb ?_))
 refine Zc <| Zg (b := false) rfl (fun h => absurd h (by simp)) (fun _ => ZB _ rfl <| Zc <| Zc <| Za <| JLq (pp b1 35) (Yw rfl rfl) <| JLr (Ze ty25 rfl (At.bx 9 rfl) (Yj ..) ?_))
 obtain ⟨a14, cap14, hv14⟩ := hcv.sl
 have hle14 := hcv.le
 refine JLn (Pu.lenSl Tryz.runUnderlying25 hv14) <| JLM rfl <| Zb <| Zo <| Ya 1 <| ZG <| Zc <| Za <| JLq (.bool false) (show Pu _ _ _ (.bool (decide ((0 : Int) < 0))) from Pu.lss rfl rfl) <| Zb <| Zc <| Zg (b := false) rfl (fun h => absurd h (by simp)) (fun _ => ZB _ rfl ?_)
 refine Zc <| Za <| JLr (Zi ty83 rfl (At.bx 7 rfl) (Zu rfl) <| JLr (Zd 8 (vs := (pkT 3 0 zS v8 v13) ++ ([nS] : List Value)) (l := (pkT 3 0 zS v8 v13) ++ ([nS] : List Value)) ty83 rfl rfl rfl rfl rfl (Z2 (Zz ho8.one ho13.one) (Zj rfl Zt)) (Zy (n := 37) rfl rfl) <| Zb <| Zl <| ⟨.agg ⟨(pkT 3 0 zS v8 v13) ++ ([nS] : List Value)⟩, [k8 ++ (k13 ++ k11)], Ret.one rfl (RV.cell ty83 rfl (At.bx 8 rfl) (Zu rfl)), (Sub.join3 (Sub.cons 3 rfl (Sk (Sd (Sk Sub.nil))))), ?_⟩))
 exact ⟨_, _, rfl, rfl, ⟨_, _, _, _, _, _, _, _, _, _, rfl, rfl, ho8, ho13, hO11, rfl⟩⟩
end Go.Proofs.YtfdeibbpfgolcaaGreat.Hs
/-! Walks, printed by a program of this session's own (gen.py). -/
namespace Go.Proofs.YtfdeibbpfgolcaaGreat.Hs
open Go Go.Proofs
set_option maxRecDepth 100000
set_option linter.unusedVariables false
set_option linter.unusedSimpArgs false
attribute [local irreducible] JL J CT wlo DT
theorem nameE_ct (cs : List Value) (v : Value) (H : Heap) (ht : RT H cs eLL) (hl : rdS RS 1 H v [ltr 0]) : CT Tryz.prog 39 ⟨[.agg ⟨cs⟩, v]⟩ [] H (fun v N => ∃ cs k, v = .tuple ⟨[.agg ⟨cs⟩, iv 0]⟩ ∧ N = [k] ∧ NC [[ltr 1], [ltr 2]] cs k) := by
 refine Zk Tryz.func39 rfl rfl <| Zc <| Za <| JLr (Zp (l := cs) rfl rfl fun b1 => JLr (Zp (l := [v]) rfl (ZE hl.one) fun b2 => JLr (Zh (l := (pkT 0 0 zS nS nS) ++ ([nS] : List Value)) Tryz.zeroValue83 rfl fun b3 => JLA rfl <| Zb <| Zc <| Zc <| Za <| JLr (Zi Zs rfl (At.bx 2 rfl) (Zu (Zv ht)) <| JLr (Zq (vs := [.agg ⟨cs⟩]) [cs] Tryz.runUnderlying24 el27 rfl rfl (by intro e he; simp only [List.mem_cons, List.not_mem_nil, or_false] at he; subst he; exact (Zv ht)) rfl (by decide) fun b4 k4 ho4 hk4 => ?_)))))
 refine Jc Tryz.call49 rfl (fun hin => int_r (r := 0) (right_ct [eLL] _ _ (Own.rd1 ho4 (hin 0 _ rfl) (RT.mono (Hle.hu _ _) ht))) right_ll) rfl ?_
 rintro _ _ ⟨rfl, rfl⟩
 refine JLA rfl <| Zb <| Zc <| Za <| JLM rfl <| JLq (.bool false) (show Pu _ _ _ (.bool (!decide ((0 : Int) = 0))) from Pu.neq rfl rfl) <| Zb <| Zg (b := false) rfl (fun h => absurd h (by simp)) (fun _ => Zm <| Zc <| Zc <| Za <| JLr (Ze ty79 rfl (At.bx 2 rfl) rfl ?_))
 refine Jc Tryz.call87 rfl (fun hin => bool_r (r := false) (containsS_ct _ _ _ _ (RSs.mono (Hle.hu _ _) hl)) (by decide)) rfl ?_
 rintro _ _ ⟨rfl, rfl⟩
 refine Zb <| Zg (b := false) rfl (fun h => absurd h (by simp)) (fun _ => Zm <| Zc <| Zc <| Za <| JLr (Ze ty79 rfl (At.bx 2 rfl) rfl ?_))
 obtain ⟨a5, cap5, hv5⟩ := hl.sl
 have hle5 := hl.le
 refine JLn (Pu.lenSl Tryz.runUnderlying79 hv5) <| JLM rfl <| Zb <| Zo <| Ya 2 <| ZG <| Zc <| Za <| JLq (.bool true) (show Pu _ _ _ (.bool (decide ((0 : Int) < 1))) from Pu.lss rfl rfl) <| Zb <| Zc <| Zg (b := true) rfl (fun _ => ?_) (fun h => absurd h (by simp))
 refine Zm <| Zc <| Zo <| Zc <| Za <| JLM rfl ?_
 obtain ⟨b6, o6, cap6, row6, T6, fr6, cs6, hv6, hb6, hs6, hE6⟩ := hl.get 0 (by first | assumption | omega | decide | simp)
 refine JLq (pp b6 (o6 + 0 * 1)) (Pu.idx 0 Tryz.runUnderlying79 ty9 hv6 rfl rfl (by first | assumption | omega | decide | simp)) <| JLr (Ze ty9 rfl (At.im hb6) (YK ((show cs6 = [Value.string (ltr 0)] from hE6) ▸ hs6)) <| JLA rfl <| JLA rfl <| Zb <| Zc <| Za <| JLr (Ze ty79 rfl (At.bx 2 rfl) rfl <| JLM rfl ?_))
 obtain ⟨a7, cap7, hv7⟩ := hl.sl
 have hle7 := hl.le
 refine JLr (Runs_slice0 Tryz.runUnderlying79 Tryz.sizeOf9 hv7 rfl fun sa8 sc8 => JLM rfl <| Jc Tryz.call87 rfl (fun hin => bool_r (r := false) (containsS_ct _ _ _ _ (RSs.mono (Hle.hu _ _) (rdS.none : Hs.rdS RS 1 H (.slice sa8 0 sc8) []))) (by decide)) rfl ?_)
 rintro _ _ ⟨rfl, rfl⟩
 refine Zb <| Zg (b := false) rfl (fun h => absurd h (by simp)) (fun _ => Zm <| Za <| JLq (iv 1) (Pu.arith rfl rfl rfl) <| JLM rfl <| Zb <| ZG <| Zc <| Za <| JLq (.bool false) (show Pu _ _ _ (.bool (decide ((1 : Int) < 1))) from Pu.lss rfl rfl) <| Zb <| Zc ?_)
 refine Zg (b := false) rfl (fun h => absurd h (by simp)) (fun _ => ZB _ rfl <| Zc <| Za <| JLr (Zi Zs rfl (At.bx 3 rfl) (Zu (Zv ht)) <| Jc Tryz.call35 rfl (fun hin => freeE_ct eLL _ _ (RT.mono (Hle.hu _ _) ht)) rfl ?_))
 rintro _ _ ⟨u9, e9, k9, rfl, rfl, ho9, he9⟩
 rw [free_ll] at ho9 he9
 replace ho9 : Own 3 1 u9 (ints ([])) k9 := ho9
 obtain rfl : e9 = 0 := he9
 refine JLM rfl <| JLn (Pu.extract rfl rfl) <| JLn (Pu.extract rfl rfl) <| JLa u9 <| JLA rfl <| Zb <| Zc <| Zc <| Za <| JLm u9 <| JLq (.func (.func 88) ⟨[]⟩ ⟨[pp b2 0]⟩) (Pu.makeFunc rfl rfl) <| Jc Tryz.call85 rfl (fun hin => bool_r (r := true) (every_ct 88 [] [pp b2 0] Tryz.call88 (fun _ => true) [] _ _ (own_ints ho9 (by simp) (hin 0 _ rfl)) (fun x hx => by cases hx)) rfl) rfl ?_
 rintro _ _ ⟨rfl, rfl⟩
 refine JLq (.bool false) (show Pu _ _ _ (.bool (!true)) from Pu.not rfl) <| Zb <| Zg (b := false) rfl (fun h => absurd h (by simp)) (fun _ => Zm <| Zc <| Za <| JLr (Zi Zs rfl (At.bx 4 rfl) (Zu (Zv ht)) <| JLr (Ze ty79 rfl (At.bx 3 rfl) rfl <| Jc Tryz.call89 rfl (fun hin => named0_ct _ _ _ (RT.mono (Hle.hu _ _) ht) (RSs.mono (Hle.hu _ _) hl)) rfl ?_)))
 rintro _ _ ⟨cs10, k10, rfl, rfl, hO10⟩
 refine JLr (Zd 3 (vs := cs10) (l := cs10) ty83 rfl rfl rfl rfl hO10.len hO10.ok (Zy (n := 37) rfl hO10.len) <| JLA rfl <| Zb <| Zl <| ⟨.tuple ⟨[.agg ⟨cs10⟩, iv 0]⟩, [k10], Ret.two rfl (RV.cell ty83 rfl (At.bx 3 rfl) (Zu hO10.len)) (RV.tmp rfl), (Sk Sub.nil), ?_⟩)
 exact ⟨_, _, rfl, rfl, hO10⟩
theorem nu_ct (n : Int) (H : Heap) (hb : inI n) : CT Tryz.prog 37 ⟨[iv n]⟩ [] H (fun v N => ∃ cs k, v = .agg ⟨cs⟩ ∧ N = [k] ∧ OT (.mk 2 n zS [] []) cs k) := by
 refine Zk Tryz.func37 rfl rfl <| Zc <| Za <| JLr (Zh (l := pkT 0 0 zS nS nS) Tryz.zeroValue27 rfl fun b1 => Zb <| Zc <| Za <| JLM rfl <| JLq (.agg ⟨pkT 2 n zS nS nS⟩) (Pu.build (pv := [(0, iv 2), (1, iv n)]) (l := pkT 2 n zS nS nS) rfl (bld27_0_1 _ _)) <| JLr (Zd 0 (vs := pkT 2 n zS nS nS) (l := pkT 2 n zS nS nS) Zs rfl rfl rfl rfl rfl (Zz rfl rfl) (Z4 ..) <| Zb <| Zl <| ⟨.agg ⟨pkT 2 n zS nS nS⟩, [[]], Ret.one rfl (RV.cell Zs rfl (At.bx 0 rfl) (ZY ..)), (Sub.emp Sub.nil), ?_⟩))
 exact ⟨_, _, rfl, rfl, OT_leaf (by unfold inI; omega) hb⟩
theorem va_ct (n : Int) (H : Heap) (hb : inI n) : CT Tryz.prog 34 ⟨[iv n]⟩ [] H (fun v N => ∃ cs k, v = .agg ⟨cs⟩ ∧ N = [k] ∧ OT (.mk 1 n zS [] []) cs k) := by
 refine Zk Tryz.func34 rfl rfl <| Zc <| Za <| JLr (Zh (l := pkT 0 0 zS nS nS) Tryz.zeroValue27 rfl fun b1 => Zb <| Zc <| Za <| JLM rfl <| JLq (.agg ⟨pkT 1 n zS nS nS⟩) (Pu.build (pv := [(0, iv 1), (1, iv n)]) (l := pkT 1 n zS nS nS) rfl (bld27_0_1 _ _)) <| JLr (Zd 0 (vs := pkT 1 n zS nS nS) (l := pkT 1 n zS nS nS) Zs rfl rfl rfl rfl rfl (Zz rfl rfl) (Z4 ..) <| Zb <| Zl <| ⟨.agg ⟨pkT 1 n zS nS nS⟩, [[]], Ret.one rfl (RV.cell Zs rfl (At.bx 0 rfl) (ZY ..)), (Sub.emp Sub.nil), ?_⟩))
 exact ⟨_, _, rfl, rfl, OT_leaf (by unfold inI; omega) hb⟩
theorem la_ct (H : Heap) (a : List Value) (hla : a.length = 36) (hka : okc a) : CT Tryz.prog 32 ⟨[.agg ⟨a⟩]⟩ [] H (fun v N => ∃ cs k, v = .agg ⟨cs⟩ ∧ N = [k] ∧ cs.length = 36 ∧ okc cs ∧ ∀ ta h, Has k h → RT h a ta → RT h cs (.mk 3 0 zS [ta] [])) := by
 refine Zk Tryz.func32 rfl rfl <| Zc <| Za <| JLr (Zp (l := a) rfl rfl fun b1 => JLr (Zh (l := pkT 0 0 zS nS nS) Tryz.zeroValue27 rfl fun b2 => Zb <| Zc <| Za <| JLr (Zi Zs rfl (At.bx 1 rfl) (Zu hla) <| JLr (Zq (vs := [.agg ⟨a⟩]) [a] Tryz.runUnderlying24 el27 rfl rfl (by intro e he; simp only [List.mem_cons, List.not_mem_nil, or_false] at he; subst he; exact hla) rfl (by decide) fun b3 k3 ho3 hk3 => JLq (.agg ⟨pkT 3 0 zS (.slice (some ⟨b3, 0, none⟩) 1 1) nS⟩) (Pu.build (pv := [(0, iv 3), (3, .slice (some ⟨b3, 0, none⟩) 1 1)]) (l := pkT 3 0 zS (.slice (some ⟨b3, 0, none⟩) 1 1) nS) rfl (bld27_0_3 _ _ _ _)) <| JLr (Zd 1 (vs := pkT 3 0 zS (.slice (some ⟨b3, 0, none⟩) 1 1) nS) (l := pkT 3 0 zS (.slice (some ⟨b3, 0, none⟩) 1 1) nS) Zs rfl rfl rfl rfl rfl (Zz rfl rfl) (Z4 ..) <| Zb ?_)))))
 refine Zl <| ⟨.agg ⟨pkT 3 0 zS (.slice (some ⟨b3, 0, none⟩) 1 1) nS⟩, [k3], Ret.one rfl (RV.cell Zs rfl (At.bx 1 rfl) (ZY ..)), (Sk Sub.nil), ?_⟩
 exact ⟨_, _, rfl, rfl, rfl, Zz rfl rfl, fun ta h hh hta => RT_mk.2 ⟨_, _, rfl, (by unfold inI; omega), (by unfold inI; omega), Own.rd1 ho3 hh hta, Hs.rdS.nil⟩⟩
theorem ap_ct (H : Heap) (a : List Value) (hla : a.length = 36) (hka : okc a) (b : List Value) (hlb : b.length = 36) (hkb : okc b) : CT Tryz.prog 33 ⟨[.agg ⟨a⟩, .agg ⟨b⟩]⟩ [] H (fun v N => ∃ cs k, v = .agg ⟨cs⟩ ∧ N = [k] ∧ cs.length = 36 ∧ okc cs ∧ ∀ ta tb h, Has k h → RT h a ta → RT h b tb → RT h cs (.mk 4 0 zS [ta, tb] [])) := by
 refine Zk Tryz.func33 rfl rfl <| Zc <| Za <| JLr (Zp (l := a) rfl rfl fun b1 => JLr (Zp (l := b) rfl rfl fun b2 => JLr (Zh (l := pkT 0 0 zS nS nS) Tryz.zeroValue27 rfl fun b3 => Zb <| Zc <| Za <| JLr (Zi Zs rfl (At.bx 2 rfl) (Zu hla) <| JLr (Zi Zs rfl (At.bx 1 rfl) (Zu hlb) <| JLr (Zq (vs := [.agg ⟨a⟩, .agg ⟨b⟩]) [a, b] Tryz.runUnderlying24 el27 rfl rfl (by intro e he; simp only [List.mem_cons, List.not_mem_nil, or_false] at he; rcases he with rfl | rfl <;> first | exact hla | exact hlb) rfl (by decide) fun b4 k4 ho4 hk4 => JLq (.agg ⟨pkT 4 0 zS (.slice (some ⟨b4, 0, none⟩) 2 2) nS⟩) (Pu.build (pv := [(0, iv 4), (3, .slice (some ⟨b4, 0, none⟩) 2 2)]) (l := pkT 4 0 zS (.slice (some ⟨b4, 0, none⟩) 2 2) nS) rfl (bld27_0_3 _ _ _ _)) ?_))))))
 refine JLr (Zd 1 (vs := pkT 4 0 zS (.slice (some ⟨b4, 0, none⟩) 2 2) nS) (l := pkT 4 0 zS (.slice (some ⟨b4, 0, none⟩) 2 2) nS) Zs rfl rfl rfl rfl rfl (Zz rfl rfl) (Z4 ..) <| Zb <| Zl <| ⟨.agg ⟨pkT 4 0 zS (.slice (some ⟨b4, 0, none⟩) 2 2) nS⟩, [k4], Ret.one rfl (RV.cell Zs rfl (At.bx 1 rfl) (ZY ..)), (Sk Sub.nil), ?_⟩)
 exact ⟨_, _, rfl, rfl, rfl, Zz rfl rfl, fun ta tb h hh hta htb => RT_mk.2 ⟨_, _, rfl, (by unfold inI; omega), (by unfold inI; omega), Own.rd2 ho4 hh hta htb, Hs.rdS.nil⟩⟩
theorem ha_ct (r : Sm) (a : Option Addr) (n c : Nat) (H : Heap) : CT Tryz.prog 43 ⟨[.agg ⟨sC r⟩, .slice a n c]⟩ [] H (fun v N => v = .agg ⟨pkT 12 0 r (.slice a n c) nS⟩ ∧ N = []) := by
 refine Zk Tryz.func43 rfl rfl <| Zc <| Za <| JLr (Zp (l := sC r) rfl rfl fun b1 => JLr (Zh (l := pkT 0 0 zS nS nS) Tryz.zeroValue27 rfl fun b2 => Zb <| Zc <| Za <| JLr (Zi Z3 rfl (At.bx 1 rfl) (Zu rfl) <| JLM rfl <| JLq (.agg ⟨pkT 12 0 r (.slice a n c) nS⟩) (Pu.build (pv := [(0, iv 12), (2, .agg ⟨sC r⟩), (3, .slice a n c)]) (l := pkT 12 0 r (.slice a n c) nS) rfl (bld27_0_2_3 _ _ _ _ _)) <| JLr (Zd 0 (vs := pkT 12 0 r (.slice a n c) nS) (l := pkT 12 0 r (.slice a n c) nS) Zs rfl rfl rfl rfl rfl (Zz rfl rfl) (Z4 ..) <| Zb ?_))))
 refine Zl <| ⟨.agg ⟨pkT 12 0 r (.slice a n c) nS⟩, [], Ret.one rfl (RV.cell Zs rfl (At.bx 0 rfl) (ZY ..)), Sub.nil, ?_⟩
 exact ⟨rfl, rfl⟩
end Go.Proofs.YtfdeibbpfgolcaaGreat.Hs
/-! Walks, printed by a program of this session's own (gen.py). -/
namespace Go.Proofs.YtfdeibbpfgolcaaGreat.Hs
open Go Go.Proofs
set_option maxRecDepth 100000
set_option linter.unusedVariables false
set_option linter.unusedSimpArgs false
attribute [local irreducible] JL J CT wlo DT
theorem caD_ct (a b : List Value) (hla : a.length = 35) (hka : okc a) (hlb : b.length = 36) (hkb : okc b) (H : Heap) : CT Tryz.prog 140 ⟨[.agg ⟨a⟩, .agg ⟨b⟩]⟩ [] H (fun v N => v = .agg ⟨a ++ b⟩ ∧ N = []) := by
 refine Zk Tryz.func140 rfl rfl <| Zc <| Za <| JLr (Zp (l := a) rfl rfl fun b1 => JLr (Zp (l := b) rfl rfl fun b2 => JLr (Zh (l := (pkP 0 0 zS nS) ++ (pkT 0 0 zS nS nS)) Tryz.zeroValue56 rfl fun b3 => Zb <| Zc <| Za <| JLr (Zi ZQ rfl (At.bx 2 rfl) (Zu hla) <| JLr (Zi Zs rfl (At.bx 1 rfl) (Zu hlb) <| JLq (.agg ⟨a ++ b⟩) (Pu.build (pv := [(0, .agg ⟨a⟩), (1, .agg ⟨b⟩)]) (l := a ++ b) rfl (bld56_0_1 hla hlb)) <| JLr (Zd 0 (vs := a ++ b) (l := a ++ b) YR rfl rfl rfl rfl (ZR hla hlb) (Z2 hka hkb) (Zy (n := 71) rfl (ZR hla hlb)) ?_))))))
 refine Zb <| Zl <| ⟨.agg ⟨a ++ b⟩, [], Ret.one rfl (RV.cell YR rfl (At.bx 0 rfl) (Zu (ZR hla hlb))), Sub.nil, ?_⟩
 exact ⟨rfl, rfl⟩
theorem laD_ct (x : List Value) (hlx : x.length = 36) (hkx : okc x) (H : Heap) : CT Tryz.prog 32 ⟨[.agg ⟨x⟩]⟩ [] H (fun r N => ∃ sv k, r = .agg ⟨pkT 3 0 zS sv nS⟩ ∧ N = [k] ∧ Own 27 36 sv [x] k) := by
 refine Zk Tryz.func32 rfl rfl <| Zc <| Za <| JLr (Zp (l := x) rfl rfl fun b1 => JLr (Zh (l := pkT 0 0 zS nS nS) Tryz.zeroValue27 rfl fun b2 => Zb <| Zc <| Za <| JLr (Zi Zs rfl (At.bx 1 rfl) (Zu hlx) <| JLr (Zq (vs := [.agg ⟨x⟩]) [x] Tryz.runUnderlying24 el27 rfl rfl (by intro e he; simp only [List.mem_cons, List.not_mem_nil, or_false] at he; subst he; exact hlx) rfl (by decide) fun b3 k3 ho3 hk3 => JLq (.agg ⟨pkT 3 0 zS (.slice (some ⟨b3, 0, none⟩) 1 1) nS⟩) (Pu.build (pv := [(0, iv 3), (3, .slice (some ⟨b3, 0, none⟩) 1 1)]) (l := pkT 3 0 zS (.slice (some ⟨b3, 0, none⟩) 1 1) nS) rfl (bld27_0_3 _ _ _ _)) <| JLr (Zd 1 (vs := pkT 3 0 zS (.slice (some ⟨b3, 0, none⟩) 1 1) nS) (l := pkT 3 0 zS (.slice (some ⟨b3, 0, none⟩) 1 1) nS) Zs rfl rfl rfl rfl rfl (Zz rfl rfl) (Z4 ..) <| Zb ?_)))))
 refine Zl <| ⟨.agg ⟨pkT 3 0 zS (.slice (some ⟨b3, 0, none⟩) 1 1) nS⟩, [k3], Ret.one rfl (RV.cell Zs rfl (At.bx 1 rfl) (ZY ..)), (Sk Sub.nil), ?_⟩
 exact ⟨_, _, rfl, rfl, ho3⟩
theorem apD_ct (x : List Value) (hlx : x.length = 36) (hkx : okc x) (y : List Value) (hly : y.length = 36) (hky : okc y) (H : Heap) : CT Tryz.prog 33 ⟨[.agg ⟨x⟩, .agg ⟨y⟩]⟩ [] H (fun r N => ∃ sv k, r = .agg ⟨pkT 4 0 zS sv nS⟩ ∧ N = [k] ∧ Own 27 36 sv [x, y] k) := by
 refine Zk Tryz.func33 rfl rfl <| Zc <| Za <| JLr (Zp (l := x) rfl rfl fun b1 => JLr (Zp (l := y) rfl rfl fun b2 => JLr (Zh (l := pkT 0 0 zS nS nS) Tryz.zeroValue27 rfl fun b3 => Zb <| Zc <| Za <| JLr (Zi Zs rfl (At.bx 2 rfl) (Zu hlx) <| JLr (Zi Zs rfl (At.bx 1 rfl) (Zu hly) <| JLr (Zq (vs := [.agg ⟨x⟩, .agg ⟨y⟩]) [x, y] Tryz.runUnderlying24 el27 rfl rfl (by intro e he; simp only [List.mem_cons, List.not_mem_nil, or_false] at he; rcases he with rfl | rfl <;> first | exact hlx | exact hly) rfl (by decide) fun b4 k4 ho4 hk4 => JLq (.agg ⟨pkT 4 0 zS (.slice (some ⟨b4, 0, none⟩) 2 2) nS⟩) (Pu.build (pv := [(0, iv 4), (3, .slice (some ⟨b4, 0, none⟩) 2 2)]) (l := pkT 4 0 zS (.slice (some ⟨b4, 0, none⟩) 2 2) nS) rfl (bld27_0_3 _ _ _ _)) ?_))))))
 refine JLr (Zd 1 (vs := pkT 4 0 zS (.slice (some ⟨b4, 0, none⟩) 2 2) nS) (l := pkT 4 0 zS (.slice (some ⟨b4, 0, none⟩) 2 2) nS) Zs rfl rfl rfl rfl rfl (Zz rfl rfl) (Z4 ..) <| Zb <| Zl <| ⟨.agg ⟨pkT 4 0 zS (.slice (some ⟨b4, 0, none⟩) 2 2) nS⟩, [k4], Ret.one rfl (RV.cell Zs rfl (At.bx 1 rfl) (ZY ..)), (Sk Sub.nil), ?_⟩)
 exact ⟨_, _, rfl, rfl, ho4⟩
theorem leD_ct (x : List Value) (hlx : x.length = 36) (hkx : okc x) (y : List Value) (hly : y.length = 36) (hky : okc y) (H : Heap) : CT Tryz.prog 134 ⟨[.agg ⟨x⟩, .agg ⟨y⟩]⟩ [] H (fun r N => ∃ sv k, r = .agg ⟨pkT 5 0 zS sv nS⟩ ∧ N = [k] ∧ Own 27 36 sv [x, y] k) := by
 refine Zk Tryz.func134 rfl rfl <| Zc <| Za <| JLr (Zp (l := x) rfl rfl fun b1 => JLr (Zp (l := y) rfl rfl fun b2 => JLr (Zh (l := pkT 0 0 zS nS nS) Tryz.zeroValue27 rfl fun b3 => Zb <| Zc <| Za <| JLr (Zi Zs rfl (At.bx 2 rfl) (Zu hlx) <| JLr (Zi Zs rfl (At.bx 1 rfl) (Zu hly) <| JLr (Zq (vs := [.agg ⟨x⟩, .agg ⟨y⟩]) [x, y] Tryz.runUnderlying24 el27 rfl rfl (by intro e he; simp only [List.mem_cons, List.not_mem_nil, or_false] at he; rcases he with rfl | rfl <;> first | exact hlx | exact hly) rfl (by decide) fun b4 k4 ho4 hk4 => JLq (.agg ⟨pkT 5 0 zS (.slice (some ⟨b4, 0, none⟩) 2 2) nS⟩) (Pu.build (pv := [(0, iv 5), (3, .slice (some ⟨b4, 0, none⟩) 2 2)]) (l := pkT 5 0 zS (.slice (some ⟨b4, 0, none⟩) 2 2) nS) rfl (bld27_0_3 _ _ _ _)) ?_))))))
 refine JLr (Zd 1 (vs := pkT 5 0 zS (.slice (some ⟨b4, 0, none⟩) 2 2) nS) (l := pkT 5 0 zS (.slice (some ⟨b4, 0, none⟩) 2 2) nS) Zs rfl rfl rfl rfl rfl (Zz rfl rfl) (Z4 ..) <| Zb <| Zl <| ⟨.agg ⟨pkT 5 0 zS (.slice (some ⟨b4, 0, none⟩) 2 2) nS⟩, [k4], Ret.one rfl (RV.cell Zs rfl (At.bx 1 rfl) (ZY ..)), (Sk Sub.nil), ?_⟩)
 exact ⟨_, _, rfl, rfl, ho4⟩
theorem prD_ct (n : Int) (x : List Value) (hlx : x.length = 36) (hkx : okc x) (y : List Value) (hly : y.length = 36) (hky : okc y) (H : Heap) : CT Tryz.prog 135 ⟨[iv n, .agg ⟨x⟩, .agg ⟨y⟩]⟩ [] H (fun r N => ∃ sv k, r = .agg ⟨pkT 10 n zS sv nS⟩ ∧ N = [k] ∧ Own 27 36 sv [x, y] k) := by
 refine Zk Tryz.func135 rfl rfl <| Zc <| Za <| JLr (Zp (l := x) rfl rfl fun b1 => JLr (Zp (l := y) rfl rfl fun b2 => JLr (Zh (l := pkT 0 0 zS nS nS) Tryz.zeroValue27 rfl fun b3 => Zb <| Zc <| Za <| JLM rfl <| JLr (Zi Zs rfl (At.bx 2 rfl) (Zu hlx) <| JLr (Zi Zs rfl (At.bx 1 rfl) (Zu hly) <| JLr (Zq (vs := [.agg ⟨x⟩, .agg ⟨y⟩]) [x, y] Tryz.runUnderlying24 el27 rfl rfl (by intro e he; simp only [List.mem_cons, List.not_mem_nil, or_false] at he; rcases he with rfl | rfl <;> first | exact hlx | exact hly) rfl (by decide) fun b4 k4 ho4 hk4 => ?_))))))
 refine JLq (.agg ⟨pkT 10 n zS (.slice (some ⟨b4, 0, none⟩) 2 2) nS⟩) (Pu.build (pv := [(0, iv 10), (1, iv n), (3, .slice (some ⟨b4, 0, none⟩) 2 2)]) (l := pkT 10 n zS (.slice (some ⟨b4, 0, none⟩) 2 2) nS) rfl (bld27_0_1_3 _ _ _ _ _)) <| JLr (Zd 1 (vs := pkT 10 n zS (.slice (some ⟨b4, 0, none⟩) 2 2) nS) (l := pkT 10 n zS (.slice (some ⟨b4, 0, none⟩) 2 2) nS) Zs rfl rfl rfl rfl rfl (Zz rfl rfl) (Z4 ..) <| Zb <| Zl <| ⟨.agg ⟨pkT 10 n zS (.slice (some ⟨b4, 0, none⟩) 2 2) nS⟩, [k4], Ret.one rfl (RV.cell Zs rfl (At.bx 1 rfl) (ZY ..)), (Sk Sub.nil), ?_⟩)
 exact ⟨_, _, rfl, rfl, ho4⟩
theorem askD_ct (f : Sm) (n : Int) (x : List Value) (hlx : x.length = 36) (hkx : okc x) (H : Heap) : CT Tryz.prog 137 ⟨[.agg ⟨sC f⟩, iv n, .agg ⟨x⟩]⟩ [] H (fun r N => ∃ sv k, r = .agg ⟨pkT 11 n f sv nS⟩ ∧ N = [k] ∧ Own 27 36 sv [x] k) := by
 refine Zk Tryz.func137 rfl rfl <| Zc <| Za <| JLr (Zp (l := sC f) rfl rfl fun b1 => JLr (Zp (l := x) rfl rfl fun b2 => JLr (Zh (l := pkT 0 0 zS nS nS) Tryz.zeroValue27 rfl fun b3 => Zb <| Zc <| Za <| JLr (Zi Z3 rfl (At.bx 2 rfl) (Zu rfl) <| JLM rfl <| JLr (Zi Zs rfl (At.bx 1 rfl) (Zu hlx) <| JLr (Zq (vs := [.agg ⟨x⟩]) [x] Tryz.runUnderlying24 el27 rfl rfl (by intro e he; simp only [List.mem_cons, List.not_mem_nil, or_false] at he; subst he; exact hlx) rfl (by decide) fun b4 k4 ho4 hk4 => ?_))))))
 refine JLq (.agg ⟨pkT 11 n f (.slice (some ⟨b4, 0, none⟩) 1 1) nS⟩) (Pu.build (pv := [(0, iv 11), (2, .agg ⟨sC f⟩), (1, iv n), (3, .slice (some ⟨b4, 0, none⟩) 1 1)]) (l := pkT 11 n f (.slice (some ⟨b4, 0, none⟩) 1 1) nS) rfl (bld27_0_2_1_3 _ _ _ _ _ _)) <| JLr (Zd 1 (vs := pkT 11 n f (.slice (some ⟨b4, 0, none⟩) 1 1) nS) (l := pkT 11 n f (.slice (some ⟨b4, 0, none⟩) 1 1) nS) Zs rfl rfl rfl rfl rfl (Zz rfl rfl) (Z4 ..) <| Zb <| Zl <| ⟨.agg ⟨pkT 11 n f (.slice (some ⟨b4, 0, none⟩) 1 1) nS⟩, [k4], Ret.one rfl (RV.cell Zs rfl (At.bx 1 rfl) (ZY ..)), (Sk Sub.nil), ?_⟩)
 exact ⟨_, _, rfl, rfl, ho4⟩
theorem maD_ct (x : List Value) (hlx : x.length = 36) (hkx : okc x) (sa : Option Addr) (sn sc : Nat) (H : Heap) : CT Tryz.prog 138 ⟨[.agg ⟨x⟩, .slice sa sn sc]⟩ [] H (fun r N => ∃ sv k, r = .agg ⟨pkT 9 0 zS sv (.slice sa sn sc)⟩ ∧ N = [k] ∧ Own 27 36 sv [x] k) := by
 refine Zk Tryz.func138 rfl rfl <| Zc <| Za <| JLr (Zp (l := x) rfl rfl fun b1 => JLr (Zh (l := pkT 0 0 zS nS nS) Tryz.zeroValue27 rfl fun b2 => Zb <| Zc <| Za <| JLr (Zi Zs rfl (At.bx 1 rfl) (Zu hlx) <| JLr (Zq (vs := [.agg ⟨x⟩]) [x] Tryz.runUnderlying24 el27 rfl rfl (by intro e he; simp only [List.mem_cons, List.not_mem_nil, or_false] at he; subst he; exact hlx) rfl (by decide) fun b3 k3 ho3 hk3 => JLM rfl <| JLq (.agg ⟨pkT 9 0 zS (.slice (some ⟨b3, 0, none⟩) 1 1) (.slice sa sn sc)⟩) (Pu.build (pv := [(0, iv 9), (3, .slice (some ⟨b3, 0, none⟩) 1 1), (4, .slice sa sn sc)]) (l := pkT 9 0 zS (.slice (some ⟨b3, 0, none⟩) 1 1) (.slice sa sn sc)) rfl (bld27_0_3_4 _ _ _ _ _ _ _)) <| JLr (Zd 1 (vs := pkT 9 0 zS (.slice (some ⟨b3, 0, none⟩) 1 1) (.slice sa sn sc)) (l := pkT 9 0 zS (.slice (some ⟨b3, 0, none⟩) 1 1) (.slice sa sn sc)) Zs rfl rfl rfl rfl rfl (Zz rfl rfl) (Z4 ..) ?_)))))
 refine Zb <| Zl <| ⟨.agg ⟨pkT 9 0 zS (.slice (some ⟨b3, 0, none⟩) 1 1) (.slice sa sn sc)⟩, [k3], Ret.one rfl (RV.cell Zs rfl (At.bx 1 rfl) (ZY ..)), (Sk Sub.nil), ?_⟩
 exact ⟨_, _, rfl, rfl, ho3⟩
theorem YP (more d m : Int) (b3 b4 b5 bM bS : Nat) (v : Value) (l : List Int) (L a s : Int) (H : Heap) (hv : Hs.rdS RB 1 H v l) (h3 : H b3 = some (.cells ⟨[pp bM 0]⟩ 160 (0, 0))) (h4 : H b4 = some (.cells ⟨[iv d]⟩ 3 (0, 0))) (h5 : H b5 = some (.cells ⟨[iv m]⟩ 3 (0, 0))) (hd0 : -1000000 ≤ d) (hd1 : d ≤ 1000000) (hm0 : 0 ≤ more) (hm1 : more ≤ 1000) (hsc : ∀ h, Hle H h → CT Tryz.prog 103 ⟨[pp bM 0, iv (d + more), iv m]⟩ [((BX bM [pp bS 0, iv L] 162)) ++ ((BX bS [v, iv a, .int .u64 s] 123))] h (fun r N => ∃ t cs k l' a' s', r = .agg ⟨cs⟩ ∧ N = [((BX bM [pp bS 0, iv (l')] 162)) ++ ((BX bS [v, iv (a'), .int .u64 (s')] 123)), k] ∧ OT t cs k ∧ (ZM (d + more) m 0 t = 0 ∧ (sizeT t : Int) ≤ 20 * (L - l') ∧ YQ t) ∧ (l' ≤ L - 1 ∧ (L ≤ 1 → l' = L - 1) ∧ (1 ≤ L → -3 * (L - 1) ≤ l')) ∧ (a ≤ a' ∧ a' ≤ a + 100 * (L - l')))) : CT Tryz.prog 129 ⟨[iv more, pp b3 0, pp b4 0, pp b5 0]⟩ [((BX bM [pp bS 0, iv L] 162)) ++ ((BX bS [v, iv a, .int .u64 s] 123))] H (fun r N => ∃ t cs k l' a' s', r = .agg ⟨cs⟩ ∧ N = [((BX bM [pp bS 0, iv (l')] 162)) ++ ((BX bS [v, iv (a'), .int .u64 (s')] 123)), k] ∧ OT t cs k ∧ (ZM (d + more) m 0 t = 0 ∧ (sizeT t : Int) ≤ 20 * (L - l') ∧ YQ t) ∧ (l' ≤ L - 1 ∧ (L ≤ 1 → l' = L - 1) ∧ (1 ≤ L → -3 * (L - 1) ≤ l')) ∧ (a ≤ a' ∧ a' ≤ a + 100 * (L - l'))) := by
 refine Zk Tryz.func129 rfl rfl <| Zc <| Za <| JLr (Zh (l := pkT 0 0 zS nS nS) Tryz.zeroValue27 rfl fun b1 => Zb <| Zc <| Za <| JLr (Ze YZ rfl (At.im h3) rfl <| JLr (Ze ty3 rfl (At.im h4) rfl <| JLM rfl <| JLn (Pu.add64 rfl rfl (by first | omega | (constructor <;> omega))) <| JLr (Ze ty3 rfl (At.im h5) rfl <| Zr 1 rfl Tryz.call103 rfl rfl (fun hin => hsc _ (Hle.hu _ _)) rfl ?_))))
 rintro _ _ ⟨t2, cs2, k2, l2, a2, s2, rfl, rfl, hO2, ⟨hn2, hz2, hw2⟩, hl2, ha2⟩
 refine Zw (M' := [(BX bM [pp bS 0, iv l2] 162), (BX bS [v, iv a2, .int .u64 s2] 123), k2, (BX b1 (pkT 0 0 zS nS nS) 27)]) (Sub.flat Sub.refl (by simp)) <| JLr (Zd 3 (vs := cs2) (l := cs2) Zs rfl rfl rfl rfl hO2.len hO2.ok (Zy (n := 36) rfl hO2.len) <| Zb <| Zl <| ⟨.agg ⟨cs2⟩, [((BX bM [pp bS 0, iv l2] 162)) ++ ((BX bS [v, iv a2, .int .u64 s2] 123)), k2], Ret.one rfl (RV.cell Zs rfl (At.bx 3 rfl) (Zu hO2.len)), (Sub.join (Sk (Sk (Sk Sub.nil)))), ?_⟩)
 exact ⟨_, _, _, _, _, _, rfl, rfl, hO2, ⟨hn2, hz2, hw2⟩, hl2, ha2⟩
end Go.Proofs.YtfdeibbpfgolcaaGreat.Hs
/-! Walks, printed by a program of this session's own (gen.py). -/
namespace Go.Proofs.YtfdeibbpfgolcaaGreat.Hs
open Go Go.Proofs
set_option maxRecDepth 100000
set_option linter.unusedVariables false
set_option linter.unusedSimpArgs false
attribute [local irreducible] JL J CT wlo DT
set_option maxHeartbeats 4000000 in
theorem scoped_ct : ∀ (q : Nat) (bM bS : Nat) (v : Value) (l : List Int) (L a s d m : Int) (H : Heap), L.toNat = q → Hs.rdS RB 1 H v l → 0 ≤ a → a + 400 * L ≤ 1000000 → -200 ≤ L → L ≤ 60 → 0 ≤ d → d + 10 * L ≤ 10000 → 0 ≤ m → m ≤ 8 → CT Tryz.prog 103 ⟨[pp bM 0, iv d, iv m]⟩ [((BX bM [pp bS 0, iv L] 162)) ++ ((BX bS [v, iv a, .int .u64 s] 123))] H (fun r N => ∃ t cs k l' a' s', r = .agg ⟨cs⟩ ∧ N = [((BX bM [pp bS 0, iv (l')] 162)) ++ ((BX bS [v, iv (a'), .int .u64 (s')] 123)), k] ∧ OT t cs k ∧ (ZM d m 0 t = 0 ∧ (sizeT t : Int) ≤ 20 * (L - l') ∧ YQ t) ∧ (l' ≤ L - 1 ∧ (L ≤ 1 → l' = L - 1) ∧ (1 ≤ L → -3 * (L - 1) ≤ l')) ∧ (a ≤ a' ∧ a' ≤ a + 100 * (L - l'))) := by
 intro q
 induction q using Nat.strongRecOn with
 | _ q ih =>
 intro bM bS v l L a s d m H hq hv ha0 ha1 hL0 hL1 hd0 hd1 hm0 hm1
 have hdz20 : dz 2 = 20 := rfl
 have hpz7 : pz 2 = 7 := rfl
 refine Zk Tryz.func103 rfl rfl <| ZS (M' := [(BX bM [pp bS 0, iv L] 162), (BX bS [v, iv a, .int .u64 s] 123)]) (Sub.flat Sub.refl (by simp)) <| Zc <| Za <| JLr (Zp (l := [pp bM 0]) rfl rfl fun b1 => JLr (Zp (l := [iv d]) rfl rfl fun b2 => JLr (Zp (l := [iv m]) rfl rfl fun b3 => JLr (Zh (l := pkT 0 0 zS nS nS) Tryz.zeroValue27 rfl fun b4 => Zb <| Zc <| Za <| JLr (Ze YZ rfl (At.bx 3 rfl) rfl <| JLq (pp bM 0) (Pu.nilCheck rfl) ?_)))))
 refine JLq (pp bM 1) (fa162_1 rfl rfl) <| JLr (Ze ty3 rfl (At.bx 4 rfl) rfl <| JLn (Pu.sub64 rfl rfl (by first | omega | (constructor <;> omega))) <| JLq (pp bM 0) (Pu.nilCheck rfl) <| JLq (pp bM 1) (fa162_1 rfl rfl) <| JLr (Zd 4 (vs := [iv (L - 1)]) (l := [pp bS 0, iv (L - 1)]) ty3 rfl rfl rfl rfl rfl (Zj rfl Zt) rfl <| Zb <| Zc <| Za <| JLq (.func (.func 129) ⟨[]⟩ ⟨[pp b1 0, pp b2 0, pp b3 0]⟩) (Pu.makeFunc rfl rfl) <| JLA rfl <| Zb <| Zc ?_))
 refine Za <| JLr (Ze YZ rfl (At.bx 3 rfl) rfl <| JLq (pp bM 0) (Pu.nilCheck rfl) <| JLq (pp bM 0) (Yl rfl rfl) <| JLr (Ze ty47 rfl (At.bx 4 rfl) rfl <| Zr 5 rfl Tryz.call130 rfl rfl (fun hin => Yu _ _ _ _ _ _ (RBs.mono (Hle.hu _ _) hv) (by omega) (by omega) _) rfl ?_))
 rintro _ _ ⟨n5, a5, s5, rfl, rfl, hn5, ha5⟩
 refine JLA rfl <| Zb <| Zc <| Zc <| Za <| JLr (Ze YZ rfl (At.bx 4 rfl) rfl <| JLq (pp bM 0) (Pu.nilCheck rfl) <| JLq (pp bM 1) (fa162_1 rfl rfl) <| JLr (Ze ty3 rfl (At.bx 5 rfl) rfl <| JLn (Pu.leq rfl rfl) <| Zb <| J_weak (N := fun ρ M => ∃ (kj aj sj : Int), (0 ≤ kj ∧ kj < 14 ∧ (L - 1 ≤ 0 → kj < 4)) ∧ (a ≤ aj ∧ aj ≤ a + 2) ∧ ρ 3 = pp b1 0 ∧ ρ 4 = pp b2 0 ∧ ρ 5 = pp b3 0 ∧ ρ 6 = pp b4 0 ∧ ρ 7 = .func (.func 129) ⟨[]⟩ ⟨[pp b1 0, pp b2 0, pp b3 0]⟩ ∧ ρ 8 = iv kj ∧ M = [(BX bS [v, iv aj, .int .u64 sj] 123), (BX b4 (pkT 0 0 zS nS nS) 27), (BX b3 [iv m] 3), (BX b2 [iv d] 3), (BX b1 [pp bM 0] 160), (BX bM [pp bS 0, iv (L - 1)] 162)]) ?_ ?_))
 ·refine Zg rfl (fun h6 => ?_) (fun h6 => ?_)
  ·replace h6 := dt h6
   refine Za <| JLr (Ze YZ rfl (At.bx 4 rfl) rfl <| JLq (pp bM 0) (Pu.nilCheck rfl) <| JLq (pp bM 0) (Yl rfl rfl) <| JLr (Ze ty47 rfl (At.bx 5 rfl) rfl <| Zr 0 rfl Tryz.call130 rfl rfl (fun hin => Yu _ _ _ _ _ _ (RBs.mono (Hle.hu _ _) hv) (by omega) (by omega) _) rfl ?_))
   rintro _ _ ⟨n7, a7, s7, rfl, rfl, hn7, ha7⟩
   refine JLA rfl <| Zb ?_
   exact ⟨n7, a7, s7, (by omega), (by omega), rfl, rfl, rfl, rfl, rfl, rfl, rfl⟩
  replace h6 := df h6
  refine Zm ?_
  exact ⟨n5, a5, s5, (by omega), (by omega), rfl, rfl, rfl, rfl, rfl, rfl, rfl⟩
 rintro ρ8 _ ⟨kj, aj, sj, hkj, haj, e9, e10, e11, e12, e13, e14, rfl⟩
 obtain ⟨ρ15, rfl⟩ := Zn (uc e9 (uc e10 (uc e11 (uc e12 (uc e13 (uc e14 un))))))
 clear e9 e10 e11 e12 e13 e14
 refine Zc <| Zo <| Zc <| Za <| JLM rfl <| JLn (Pu.eql rfl rfl) <| JLM rfl <| ZC 2 [40, 41] [(41, cond (decide (kj = 0)) (.bool (decide (0 < d))) undef)] ?_ fun f17 => ?_
 ·cases h16 : (decide (kj = 0)) with
  | true =>
   replace h16 := dt h16
   refine JLr (Ze ty3 rfl (At.bx 3 rfl) rfl <| JLn (Pu.gtr rfl rfl) ?_)
   exact Zb ⟨⟨rfl, trivial⟩, rfl⟩
  | false =>
   exact ZP rfl ⟨rfl, trivial⟩
 refine JLn (Pu.pickAnd rfl rfl rfl) <| JLA rfl <| Zb <| Zg rfl (fun h18 => ?_) (fun h18 => ?_)
 ·obtain ⟨h18a, h18b⟩ := YW h18
  replace h18a := dt h18a
  replace h18b := dt h18b
  refine Zc <| ZL mixed #[0, 1, 3, 7, 0, 31, 63, 127] 5 [some 43, some 44, some 45, some 46, some 47] [] [] rfl (by kernel_rfl) rfl (by kernel_rfl) <| Dl1 YZ (At.bx 4 rfl) rfl <| Dq (pp bM 0) (fun _ => Pu.nilCheck rfl) <| Dq (pp bM 0) (fun _ => Yl rfl rfl) <| Dl1 ty47 (At.bx 5 rfl) rfl <| Dl1 ty3 (At.bx 3 rfl) rfl <| ZZ (M' := [(BX bS [v, iv aj, .int .u64 sj] 123), (BX b4 (pkT 0 0 zS nS nS) 27), (BX b3 [iv m] 3), (BX b2 [iv d] 3), (BX b1 [pp bM 0] 160), (BX bM [pp bS 0, iv (L - 1)] 162)]) rfl ?_
  show JL _ _ _ [_, _, _] _ _ _
  refine Zr 0 rfl Tryz.call130 rfl rfl (fun hin => Yu _ _ _ _ _ _ (RBs.mono (Hle.hu _ _) hv) (by omega) (by omega) _) rfl ?_
  rintro _ _ ⟨n19, a19, s19, rfl, rfl, hn19, ha19⟩
  refine Jc Tryz.call34 rfl (fun hin => va_ct _ _ (by unfold inI; omega)) rfl ?_
  rintro _ _ ⟨cs20, k20, rfl, rfl, hO20⟩
  refine JLr (Zd 2 (vs := cs20) (l := cs20) Zs rfl rfl rfl rfl hO20.len hO20.ok (Zy (n := 36) rfl hO20.len) <| Zb <| Zl <| ⟨.agg ⟨cs20⟩, [((BX bM [pp bS 0, iv (L - 1)] 162)) ++ ((BX bS [v, iv a19, .int .u64 s19] 123)), k20], Ret.one rfl (RV.cell Zs rfl (At.bx 2 rfl) (Zu hO20.len)), (Sub.join (Sub.cons 6 rfl (Sub.cons 1 rfl (Sk Sub.nil)))), ?_⟩)
  exact ⟨eVa n19, _, _, _, _, _, rfl, rfl, hO20, ⟨nErr_var (by omega) (by omega), by simp only [eVa, eNu, sizeT, sizeTs, sizeCs]; omega, by simp only [eVa, eNu, YQ]; exact ⟨lowS_z, trivial, trivial⟩⟩, by omega, by omega⟩
 refine Zc <| Za <| JLM rfl <| JLn (Pu.eql rfl rfl) <| JLM rfl <| ZC 2 [54, 55] [(55, cond (decide (kj = 1)) (.bool (decide (0 < m))) undef)] ?_ fun f22 => ?_
 ·cases h21 : (decide (kj = 1)) with
  | true =>
   replace h21 := dt h21
   refine JLr (Ze ty3 rfl (At.bx 2 rfl) rfl <| JLn (Pu.gtr rfl rfl) ?_)
   exact Zb ⟨⟨rfl, trivial⟩, rfl⟩
  | false =>
   exact ZP rfl ⟨rfl, trivial⟩
 refine JLn (Pu.pickAnd rfl rfl rfl) <| JLA rfl <| Zb <| Zg rfl (fun h23 => ?_) (fun h23 => ?_)
 ·obtain ⟨h23a, h23b⟩ := YW h23
  replace h23a := dt h23a
  replace h23b := dt h23b
  refine Zc <| ZL mixed #[0, 1, 3, 7, 0, 31, 63, 127] 5 [some 57, some 58, some 59, some 60, some 61] [] [] rfl (by kernel_rfl) rfl (by kernel_rfl) <| Dl1 YZ (At.bx 4 rfl) rfl <| Dq (pp bM 0) (fun _ => Pu.nilCheck rfl) <| Dq (pp bM 0) (fun _ => Yl rfl rfl) <| Dl1 ty47 (At.bx 5 rfl) rfl <| Dl1 ty3 (At.bx 2 rfl) rfl <| ZZ (M' := [(BX bS [v, iv aj, .int .u64 sj] 123), (BX b4 (pkT 0 0 zS nS nS) 27), (BX b3 [iv m] 3), (BX b2 [iv d] 3), (BX b1 [pp bM 0] 160), (BX bM [pp bS 0, iv (L - 1)] 162)]) rfl ?_
  show JL _ _ _ [_, _, _] _ _ _
  refine Zr 0 rfl Tryz.call130 rfl rfl (fun hin => Yu _ _ _ _ _ _ (RBs.mono (Hle.hu _ _) hv) (by omega) (by omega) _) rfl ?_
  rintro _ _ ⟨n24, a24, s24, rfl, rfl, hn24, ha24⟩
  refine Jc Tryz.call131 rfl (fun hin => se_ct _ _) rfl ?_
  rintro _ _ ⟨rfl, rfl⟩
  refine JLr (Zd 1 (vs := pkT 7 n24 zS nS nS) (l := pkT 7 n24 zS nS nS) Zs rfl rfl rfl rfl rfl (Zz rfl rfl) (Z4 ..) <| Zb <| Zl <| ⟨.agg ⟨pkT 7 n24 zS nS nS⟩, [((BX bM [pp bS 0, iv (L - 1)] 162)) ++ ((BX bS [v, iv a24, .int .u64 s24] 123)), []], Ret.one rfl (RV.cell Zs rfl (At.bx 1 rfl) (ZY ..)), (Sub.join (Sub.cons 5 rfl (Sk (Sub.emp Sub.nil)))), ?_⟩)
  exact ⟨.mk 7 n24 zS [] [], _, _, _, _, _, rfl, rfl, OT_leaf (by unfold inI; omega) (by unfold inI; omega), ⟨nErr_self (by omega) (by omega), by simp only [eVa, eNu, sizeT, sizeTs, sizeCs]; omega, by rw [YQ]; exact ⟨lowS_z, trivial, trivial⟩⟩, by omega, by omega⟩
 refine Zc <| Za <| JLM rfl <| JLn (Pu.eql rfl rfl) <| JLA rfl <| Zb <| Zg rfl (fun h25 => ?_) (fun h25 => ?_)
 ·replace h25 := dt h25
  refine Zc <| Za <| JLr (Ze YZ rfl (At.bx 4 rfl) rfl <| JLq (pp bM 0) (Pu.nilCheck rfl) <| JLq (pp bM 0) (Yl rfl rfl) <| JLr (Ze ty47 rfl (At.bx 5 rfl) rfl <| Zr 0 rfl Tryz.call133 rfl rfl (fun hin => sum_ct _ _ _ _ _ _ (RBs.mono (Hle.hu _ _) hv) (by omega) (by omega) _ _ (by omega) (by omega) (by omega)) rfl ?_))
  rintro _ _ ⟨n26, a26, s26, rfl, rfl, hw26, ha26⟩
  refine Jc Tryz.call132 rfl (fun hin => de_ct _ _) rfl ?_
  rintro _ _ ⟨rfl, rfl⟩
  refine JLr (Zd 1 (vs := pkT 6 0 n26 nS nS) (l := pkT 6 0 n26 nS nS) Zs rfl rfl rfl rfl rfl (Zz rfl rfl) (Z4 ..) <| Zb <| Zl <| ⟨.agg ⟨pkT 6 0 n26 nS nS⟩, [((BX bM [pp bS 0, iv (L - 1)] 162)) ++ ((BX bS [v, iv a26, .int .u64 s26] 123)), []], Ret.one rfl (RV.cell Zs rfl (At.bx 1 rfl) (ZY ..)), (Sub.join (Sub.cons 5 rfl (Sk (Sub.emp Sub.nil)))), ?_⟩)
  exact ⟨.mk 6 0 n26 [] [], _, _, _, _, _, rfl, rfl, OT_leaf (by unfold inI; omega) (by unfold inI; omega), ⟨nErr_def, by simp only [eVa, eNu, sizeT, sizeTs, sizeCs]; omega, by rw [YQ]; exact ⟨hw26, trivial, trivial⟩⟩, by omega, by omega⟩
 replace h25 := df h25
 refine Zc <| Za <| JLM rfl <| JLn (Pu.lss rfl rfl) <| JLA rfl <| Zb <| Zg rfl (fun h27 => ?_) (fun h27 => ?_)
 ·replace h27 := dt h27
  refine Zc <| Za <| JLr (Ze YZ rfl (At.bx 4 rfl) rfl <| JLq (pp bM 0) (Pu.nilCheck rfl) <| JLq (pp bM 0) (Yl rfl rfl) <| JLr (Ze ty47 rfl (At.bx 5 rfl) rfl <| Zr 0 rfl Tryz.call130 rfl rfl (fun hin => Yu _ _ _ _ _ _ (RBs.mono (Hle.hu _ _) hv) (by omega) (by omega) _) rfl ?_))
  rintro _ _ ⟨n28, a28, s28, rfl, rfl, hn28, ha28⟩
  refine Jc Tryz.call37 rfl (fun hin => nu_ct _ _ (by unfold inI; omega)) rfl ?_
  rintro _ _ ⟨cs29, k29, rfl, rfl, hO29⟩
  refine JLr (Zd 2 (vs := cs29) (l := cs29) Zs rfl rfl rfl rfl hO29.len hO29.ok (Zy (n := 36) rfl hO29.len) <| Zb <| Zl <| ⟨.agg ⟨cs29⟩, [((BX bM [pp bS 0, iv (L - 1)] 162)) ++ ((BX bS [v, iv a28, .int .u64 s28] 123)), k29], Ret.one rfl (RV.cell Zs rfl (At.bx 2 rfl) (Zu hO29.len)), (Sub.join (Sub.cons 6 rfl (Sub.cons 1 rfl (Sk Sub.nil)))), ?_⟩)
  exact ⟨eNu n28, _, _, _, _, _, rfl, rfl, hO29, ⟨nErr_nat (by omega) (by omega), by simp only [eVa, eNu, sizeT, sizeTs, sizeCs]; omega, by simp only [eVa, eNu, YQ]; exact ⟨lowS_z, trivial, trivial⟩⟩, by omega, by omega⟩
 replace h27 := df h27
 refine Zc <| Za <| JLM rfl <| JLn (Pu.eql rfl rfl) <| JLA rfl <| Zb <| Zg rfl (fun h30 => ?_) (fun h30 => ?_)
 ·replace h30 := dt h30
  refine Zc <| Za <| JLM rfl <| Zw (Sub.join (Sub.cons 5 rfl (Sk (Sk (Sk (Sk (Sk Sub.nil))))))) <| Zr 0 rfl Tryz.call129 rfl rfl (fun hin => YP _ _ _ _ _ _ _ _ _ _ _ _ _ _ (RBs.mono (Hle.hu _ _) hv) (hin 3 _ rfl _ _ List.mem_cons_self) (hin 2 _ rfl _ _ List.mem_cons_self) (hin 1 _ rfl _ _ List.mem_cons_self) (by omega) (by omega) (by omega) (by omega) (fun h hh => ih _ (by omega) _ _ _ _ _ _ _ _ _ _ rfl (RBs.mono hh (RBs.mono (Hle.hu _ _) hv)) (by omega) (by omega) (by omega) (by omega) (by omega) (by omega) (by omega) (by omega))) rfl ?_
  rintro _ _ ⟨t31, cs31, k31, l31, a31, s31, rfl, rfl, hO31, ⟨hn31, hz31, hw31⟩, hl31, ha31⟩
  refine Zw (M' := [(BX bM [pp bS 0, iv l31] 162), (BX bS [v, iv a31, .int .u64 s31] 123), k31, (BX b4 (pkT 0 0 zS nS nS) 27), (BX b3 [iv m] 3), (BX b2 [iv d] 3), (BX b1 [pp bM 0] 160)]) (Sub.flat Sub.refl (by simp)) <| Jc Tryz.call32 rfl (fun hin => laD_ct _ hO31.len hO31.ok _) rfl ?_
  rintro _ _ ⟨sv32, k32, rfl, rfl, ho32⟩
  refine JLr (Zd 4 (vs := pkT 3 0 zS sv32 nS) (l := pkT 3 0 zS sv32 nS) Zs rfl rfl rfl rfl rfl (Zz ho32.one rfl) (Z4 ..) <| Zb <| Zl <| ⟨.agg ⟨pkT 3 0 zS sv32 nS⟩, [((BX bM [pp bS 0, iv l31] 162)) ++ ((BX bS [v, iv a31, .int .u64 s31] 123)), k32 ++ k31], Ret.one rfl (RV.cell Zs rfl (At.bx 4 rfl) (ZY ..)), (Sub.join (Sub.cons 1 rfl (Sub.cons 1 rfl (Sub.join (Sk (Sk Sub.nil)))))), ?_⟩)
  exact ⟨.mk 3 0 zS [t31] [], _, _, _, _, _, rfl, rfl, OT_row (by unfold inI; omega) (by unfold inI; omega) ho32 (OTs1 hO31) (by simp), ⟨nErr_lam hn31, by simp only [eVa, eNu, sizeT, sizeTs, sizeCs]; omega, by simp only [YQ, lowTs]; exact ⟨lowS_z, ⟨hw31, trivial⟩, trivial⟩⟩, by omega, by omega⟩
 replace h30 := df h30
 refine Zc <| Zc <| Za <| JLM rfl <| JLn (Pu.eql rfl rfl) <| JLA rfl <| Zb <| Zg rfl (fun h33 => ?_) (fun h33 => ?_)
 ·replace h33 := dt h33
  refine Zm <| Zg rfl (fun _ => ?_) (fun h34 => absurd h33 (df h34))
  refine Zc <| Za <| JLM rfl <| Zw (Sub.join (Sub.cons 5 rfl (Sk (Sk (Sk (Sk (Sk Sub.nil))))))) <| Zr 0 rfl Tryz.call129 rfl rfl (fun hin => YP _ _ _ _ _ _ _ _ _ _ _ _ _ _ (RBs.mono (Hle.hu _ _) hv) (hin 3 _ rfl _ _ List.mem_cons_self) (hin 2 _ rfl _ _ List.mem_cons_self) (hin 1 _ rfl _ _ List.mem_cons_self) (by omega) (by omega) (by omega) (by omega) (fun h hh => ih _ (by omega) _ _ _ _ _ _ _ _ _ _ rfl (RBs.mono hh (RBs.mono (Hle.hu _ _) hv)) (by omega) (by omega) (by omega) (by omega) (by omega) (by omega) (by omega) (by omega))) rfl ?_
  rintro _ _ ⟨t35, cs35, k35, l35, a35, s35, rfl, rfl, hO35, ⟨hn35, hz35, hw35⟩, hl35, ha35⟩
  refine Zw (M' := [(BX bM [pp bS 0, iv l35] 162), (BX bS [v, iv a35, .int .u64 s35] 123), k35, (BX b4 (pkT 0 0 zS nS nS) 27), (BX b3 [iv m] 3), (BX b2 [iv d] 3), (BX b1 [pp bM 0] 160)]) (Sub.flat Sub.refl (by simp)) <| JLM rfl <| Zw (Sub.join (Sk (Sk (Sk (Sk (Sk (Sk (Sk Sub.nil)))))))) <| Zr 0 rfl Tryz.call129 rfl rfl (fun hin => YP _ _ _ _ _ _ _ _ _ _ _ _ _ _ (RBs.mono (Hle.hu _ _) hv) (hin 4 _ rfl _ _ List.mem_cons_self) (hin 3 _ rfl _ _ List.mem_cons_self) (hin 2 _ rfl _ _ List.mem_cons_self) (by omega) (by omega) (by omega) (by omega) (fun h hh => ih _ (by omega) _ _ _ _ _ _ _ _ _ _ rfl (RBs.mono hh (RBs.mono (Hle.hu _ _) hv)) (by omega) (by omega) (by omega) (by omega) (by omega) (by omega) (by omega) (by omega))) rfl ?_
  rintro _ _ ⟨t36, cs36, k36, l36, a36, s36, rfl, rfl, hO36, ⟨hn36, hz36, hw36⟩, hl36, ha36⟩
  refine Zw (M' := [(BX bM [pp bS 0, iv l36] 162), (BX bS [v, iv a36, .int .u64 s36] 123), k36, k35, (BX b4 (pkT 0 0 zS nS nS) 27), (BX b3 [iv m] 3), (BX b2 [iv d] 3), (BX b1 [pp bM 0] 160)]) (Sub.flat Sub.refl (by simp)) <| Jc Tryz.call33 rfl (fun hin => apD_ct _ hO35.len hO35.ok _ hO36.len hO36.ok _) rfl ?_
  rintro _ _ ⟨sv37, k37, rfl, rfl, ho37⟩
  refine JLr (Zd 5 (vs := pkT 4 0 zS sv37 nS) (l := pkT 4 0 zS sv37 nS) Zs rfl rfl rfl rfl rfl (Zz ho37.one rfl) (Z4 ..) <| Zb <| Zl <| ⟨.agg ⟨pkT 4 0 zS sv37 nS⟩, [((BX bM [pp bS 0, iv l36] 162)) ++ ((BX bS [v, iv a36, .int .u64 s36] 123)), k37 ++ (k35 ++ k36)], Ret.one rfl (RV.cell Zs rfl (At.bx 5 rfl) (ZY ..)), (Sub.join (Sub.cons 1 rfl (Sub.cons 1 rfl (Sub.join3 (Sk (Sub.cons 1 rfl (Sk Sub.nil))))))), ?_⟩)
  exact ⟨.mk 4 0 zS [t35, t36] [], _, _, _, _, _, rfl, rfl, OT_row (by unfold inI; omega) (by unfold inI; omega) ho37 (OTs2 hO35 hO36) (by simp), ⟨nErr_app (by simpa using hn35) (by simpa using hn36), by simp only [eVa, eNu, sizeT, sizeTs, sizeCs]; omega, by simp only [YQ, lowTs]; exact ⟨lowS_z, ⟨hw35, hw36, trivial⟩, trivial⟩⟩, by omega, by omega⟩
 replace h33 := df h33
 refine Za <| JLM rfl <| JLn (Pu.eql rfl rfl) <| JLA rfl <| Zb <| Zg rfl (fun h38 => ?_) (fun h38 => ?_)
 ·replace h38 := dt h38
  refine Zc <| Za <| JLM rfl <| Zw (Sub.join (Sub.cons 5 rfl (Sk (Sk (Sk (Sk (Sk Sub.nil))))))) <| Zr 0 rfl Tryz.call129 rfl rfl (fun hin => YP _ _ _ _ _ _ _ _ _ _ _ _ _ _ (RBs.mono (Hle.hu _ _) hv) (hin 3 _ rfl _ _ List.mem_cons_self) (hin 2 _ rfl _ _ List.mem_cons_self) (hin 1 _ rfl _ _ List.mem_cons_self) (by omega) (by omega) (by omega) (by omega) (fun h hh => ih _ (by omega) _ _ _ _ _ _ _ _ _ _ rfl (RBs.mono hh (RBs.mono (Hle.hu _ _) hv)) (by omega) (by omega) (by omega) (by omega) (by omega) (by omega) (by omega) (by omega))) rfl ?_
  rintro _ _ ⟨t39, cs39, k39, l39, a39, s39, rfl, rfl, hO39, ⟨hn39, hz39, hw39⟩, hl39, ha39⟩
  refine Zw (M' := [(BX bM [pp bS 0, iv l39] 162), (BX bS [v, iv a39, .int .u64 s39] 123), k39, (BX b4 (pkT 0 0 zS nS nS) 27), (BX b3 [iv m] 3), (BX b2 [iv d] 3), (BX b1 [pp bM 0] 160)]) (Sub.flat Sub.refl (by simp)) <| JLM rfl <| Zw (Sub.join (Sk (Sk (Sk (Sk (Sk (Sk (Sk Sub.nil)))))))) <| Zr 0 rfl Tryz.call129 rfl rfl (fun hin => YP _ _ _ _ _ _ _ _ _ _ _ _ _ _ (RBs.mono (Hle.hu _ _) hv) (hin 4 _ rfl _ _ List.mem_cons_self) (hin 3 _ rfl _ _ List.mem_cons_self) (hin 2 _ rfl _ _ List.mem_cons_self) (by omega) (by omega) (by omega) (by omega) (fun h hh => ih _ (by omega) _ _ _ _ _ _ _ _ _ _ rfl (RBs.mono hh (RBs.mono (Hle.hu _ _) hv)) (by omega) (by omega) (by omega) (by omega) (by omega) (by omega) (by omega) (by omega))) rfl ?_
  rintro _ _ ⟨t40, cs40, k40, l40, a40, s40, rfl, rfl, hO40, ⟨hn40, hz40, hw40⟩, hl40, ha40⟩
  refine Zw (M' := [(BX bM [pp bS 0, iv l40] 162), (BX bS [v, iv a40, .int .u64 s40] 123), k40, k39, (BX b4 (pkT 0 0 zS nS nS) 27), (BX b3 [iv m] 3), (BX b2 [iv d] 3), (BX b1 [pp bM 0] 160)]) (Sub.flat Sub.refl (by simp)) <| Jc Tryz.call33 rfl (fun hin => apD_ct _ hO39.len hO39.ok _ hO40.len hO40.ok _) rfl ?_
  rintro _ _ ⟨sv41, k41, rfl, rfl, ho41⟩
  refine JLr (Zd 5 (vs := pkT 4 0 zS sv41 nS) (l := pkT 4 0 zS sv41 nS) Zs rfl rfl rfl rfl rfl (Zz ho41.one rfl) (Z4 ..) <| Zb <| Zl <| ⟨.agg ⟨pkT 4 0 zS sv41 nS⟩, [((BX bM [pp bS 0, iv l40] 162)) ++ ((BX bS [v, iv a40, .int .u64 s40] 123)), k41 ++ (k39 ++ k40)], Ret.one rfl (RV.cell Zs rfl (At.bx 5 rfl) (ZY ..)), (Sub.join (Sub.cons 1 rfl (Sub.cons 1 rfl (Sub.join3 (Sk (Sub.cons 1 rfl (Sk Sub.nil))))))), ?_⟩)
  exact ⟨.mk 4 0 zS [t39, t40] [], _, _, _, _, _, rfl, rfl, OT_row (by unfold inI; omega) (by unfold inI; omega) ho41 (OTs2 hO39 hO40) (by simp), ⟨nErr_app (by simpa using hn39) (by simpa using hn40), by simp only [eVa, eNu, sizeT, sizeTs, sizeCs]; omega, by simp only [YQ, lowTs]; exact ⟨lowS_z, ⟨hw39, hw40, trivial⟩, trivial⟩⟩, by omega, by omega⟩
 replace h38 := df h38
 refine Zc <| Za <| JLM rfl <| JLn (Pu.eql rfl rfl) <| JLA rfl <| Zb <| Zg rfl (fun h42 => ?_) (fun h42 => ?_)
 ·replace h42 := dt h42
  refine Zc <| Za <| JLM rfl <| Zw (Sub.join (Sub.cons 5 rfl (Sk (Sk (Sk (Sk (Sk Sub.nil))))))) <| Zr 0 rfl Tryz.call129 rfl rfl (fun hin => YP _ _ _ _ _ _ _ _ _ _ _ _ _ _ (RBs.mono (Hle.hu _ _) hv) (hin 3 _ rfl _ _ List.mem_cons_self) (hin 2 _ rfl _ _ List.mem_cons_self) (hin 1 _ rfl _ _ List.mem_cons_self) (by omega) (by omega) (by omega) (by omega) (fun h hh => ih _ (by omega) _ _ _ _ _ _ _ _ _ _ rfl (RBs.mono hh (RBs.mono (Hle.hu _ _) hv)) (by omega) (by omega) (by omega) (by omega) (by omega) (by omega) (by omega) (by omega))) rfl ?_
  rintro _ _ ⟨t43, cs43, k43, l43, a43, s43, rfl, rfl, hO43, ⟨hn43, hz43, hw43⟩, hl43, ha43⟩
  refine Zw (M' := [(BX bM [pp bS 0, iv l43] 162), (BX bS [v, iv a43, .int .u64 s43] 123), k43, (BX b4 (pkT 0 0 zS nS nS) 27), (BX b3 [iv m] 3), (BX b2 [iv d] 3), (BX b1 [pp bM 0] 160)]) (Sub.flat Sub.refl (by simp)) <| JLM rfl <| Zw (Sub.join (Sk (Sk (Sk (Sk (Sk (Sk (Sk Sub.nil)))))))) <| Zr 0 rfl Tryz.call129 rfl rfl (fun hin => YP _ _ _ _ _ _ _ _ _ _ _ _ _ _ (RBs.mono (Hle.hu _ _) hv) (hin 4 _ rfl _ _ List.mem_cons_self) (hin 3 _ rfl _ _ List.mem_cons_self) (hin 2 _ rfl _ _ List.mem_cons_self) (by omega) (by omega) (by omega) (by omega) (fun h hh => ih _ (by omega) _ _ _ _ _ _ _ _ _ _ rfl (RBs.mono hh (RBs.mono (Hle.hu _ _) hv)) (by omega) (by omega) (by omega) (by omega) (by omega) (by omega) (by omega) (by omega))) rfl ?_
  rintro _ _ ⟨t44, cs44, k44, l44, a44, s44, rfl, rfl, hO44, ⟨hn44, hz44, hw44⟩, hl44, ha44⟩
  refine Zw (M' := [(BX bM [pp bS 0, iv l44] 162), (BX bS [v, iv a44, .int .u64 s44] 123), k44, k43, (BX b4 (pkT 0 0 zS nS nS) 27), (BX b3 [iv m] 3), (BX b2 [iv d] 3), (BX b1 [pp bM 0] 160)]) (Sub.flat Sub.refl (by simp)) <| Jc Tryz.call134 rfl (fun hin => leD_ct _ hO43.len hO43.ok _ hO44.len hO44.ok _) rfl ?_
  rintro _ _ ⟨sv45, k45, rfl, rfl, ho45⟩
  refine JLr (Zd 5 (vs := pkT 5 0 zS sv45 nS) (l := pkT 5 0 zS sv45 nS) Zs rfl rfl rfl rfl rfl (Zz ho45.one rfl) (Z4 ..) <| Zb <| Zl <| ⟨.agg ⟨pkT 5 0 zS sv45 nS⟩, [((BX bM [pp bS 0, iv l44] 162)) ++ ((BX bS [v, iv a44, .int .u64 s44] 123)), k45 ++ (k43 ++ k44)], Ret.one rfl (RV.cell Zs rfl (At.bx 5 rfl) (ZY ..)), (Sub.join (Sub.cons 1 rfl (Sub.cons 1 rfl (Sub.join3 (Sk (Sub.cons 1 rfl (Sk Sub.nil))))))), ?_⟩)
  exact ⟨.mk 5 0 zS [t43, t44] [], _, _, _, _, _, rfl, rfl, OT_row (by unfold inI; omega) (by unfold inI; omega) ho45 (OTs2 hO43 hO44) (by simp), ⟨nErr_let (by simpa using hn43) hn44, by simp only [eVa, eNu, sizeT, sizeTs, sizeCs]; omega, by simp only [YQ, lowTs]; exact ⟨lowS_z, ⟨hw43, hw44, trivial⟩, trivial⟩⟩, by omega, by omega⟩
 replace h42 := df h42
 refine Zc <| Za <| JLM rfl <| JLn (Pu.eql rfl rfl) <| JLA rfl <| Zb <| Zg rfl (fun h46 => ?_) (fun h46 => ?_)
 ·replace h46 := dt h46
  refine Zc <| Za <| JLr (Ze YZ rfl (At.bx 4 rfl) rfl <| JLq (pp bM 0) (Pu.nilCheck rfl) <| JLq (pp bM 0) (Yl rfl rfl) <| JLr (Ze ty47 rfl (At.bx 5 rfl) rfl <| Zr 0 rfl Tryz.call136 rfl rfl (fun hin => from_ct _ _ _ _ _ _ (RBs.mono (Hle.hu _ _) hv) (by omega) (by omega) _ _ (by omega) (by omega) (by omega)) rfl ?_))
  rintro _ _ ⟨n47, a47, s47, rfl, rfl, hn47, ha47⟩
  refine JLM rfl <| Zw (Sub.join (Sub.cons 5 rfl (Sk (Sk (Sk (Sk (Sk Sub.nil))))))) <| Zr 0 rfl Tryz.call129 rfl rfl (fun hin => YP _ _ _ _ _ _ _ _ _ _ _ _ _ _ (RBs.mono (Hle.hu _ _) hv) (hin 3 _ rfl _ _ List.mem_cons_self) (hin 2 _ rfl _ _ List.mem_cons_self) (hin 1 _ rfl _ _ List.mem_cons_self) (by omega) (by omega) (by omega) (by omega) (fun h hh => ih _ (by omega) _ _ _ _ _ _ _ _ _ _ rfl (RBs.mono hh (RBs.mono (Hle.hu _ _) hv)) (by omega) (by omega) (by omega) (by omega) (by omega) (by omega) (by omega) (by omega))) rfl ?_
  rintro _ _ ⟨t48, cs48, k48, l48, a48, s48, rfl, rfl, hO48, ⟨hn48, hz48, hw48⟩, hl48, ha48⟩
  refine Zw (M' := [(BX bM [pp bS 0, iv l48] 162), (BX bS [v, iv a48, .int .u64 s48] 123), k48, (BX b4 (pkT 0 0 zS nS nS) 27), (BX b3 [iv m] 3), (BX b2 [iv d] 3), (BX b1 [pp bM 0] 160)]) (Sub.flat Sub.refl (by simp)) <| JLM rfl <| Zw (Sub.join (Sk (Sk (Sk (Sk (Sk (Sk (Sk Sub.nil)))))))) <| Zr 0 rfl Tryz.call129 rfl rfl (fun hin => YP _ _ _ _ _ _ _ _ _ _ _ _ _ _ (RBs.mono (Hle.hu _ _) hv) (hin 4 _ rfl _ _ List.mem_cons_self) (hin 3 _ rfl _ _ List.mem_cons_self) (hin 2 _ rfl _ _ List.mem_cons_self) (by omega) (by omega) (by omega) (by omega) (fun h hh => ih _ (by omega) _ _ _ _ _ _ _ _ _ _ rfl (RBs.mono hh (RBs.mono (Hle.hu _ _) hv)) (by omega) (by omega) (by omega) (by omega) (by omega) (by omega) (by omega) (by omega))) rfl ?_
  rintro _ _ ⟨t49, cs49, k49, l49, a49, s49, rfl, rfl, hO49, ⟨hn49, hz49, hw49⟩, hl49, ha49⟩
  refine Zw (M' := [(BX bM [pp bS 0, iv l49] 162), (BX bS [v, iv a49, .int .u64 s49] 123), k49, k48, (BX b4 (pkT 0 0 zS nS nS) 27), (BX b3 [iv m] 3), (BX b2 [iv d] 3), (BX b1 [pp bM 0] 160)]) (Sub.flat Sub.refl (by simp)) <| Jc Tryz.call135 rfl (fun hin => prD_ct _ _ hO48.len hO48.ok _ hO49.len hO49.ok _) rfl ?_
  rintro _ _ ⟨sv50, k50, rfl, rfl, ho50⟩
  refine JLr (Zd 5 (vs := pkT 10 n47 zS sv50 nS) (l := pkT 10 n47 zS sv50 nS) Zs rfl rfl rfl rfl rfl (Zz ho50.one rfl) (Z4 ..) <| Zb <| Zl <| ⟨.agg ⟨pkT 10 n47 zS sv50 nS⟩, [((BX bM [pp bS 0, iv l49] 162)) ++ ((BX bS [v, iv a49, .int .u64 s49] 123)), k50 ++ (k48 ++ k49)], Ret.one rfl (RV.cell Zs rfl (At.bx 5 rfl) (ZY ..)), (Sub.join (Sub.cons 1 rfl (Sub.cons 1 rfl (Sub.join3 (Sk (Sub.cons 1 rfl (Sk Sub.nil))))))), ?_⟩)
  exact ⟨.mk 10 n47 zS [t48, t49] [], _, _, _, _, _, rfl, rfl, OT_row (by unfold inI; omega) (by unfold inI; omega) ho50 (OTs2 hO48 hO49) (by simp), ⟨nErr_prim (by omega) (by omega) (by simpa using hn48) (by simpa using hn49), by simp only [eVa, eNu, sizeT, sizeTs, sizeCs]; omega, by simp only [YQ, lowTs]; exact ⟨lowS_z, ⟨hw48, hw49, trivial⟩, trivial⟩⟩, by omega, by omega⟩
 replace h46 := df h46
 refine Zc <| Za <| JLM rfl <| JLn (Pu.eql rfl rfl) <| JLA rfl <| Zb <| Zg rfl (fun h51 => ?_) (fun h51 => ?_)
 ·replace h51 := dt h51
  refine Zc <| J_drawM mixed #[0, 1, 3, 7, 15, 0, 32, 96, 224, 511, 0, 2047, 4095, 8191] 11 0 [4, 9] rfl (by kernel_rfl) (by decide) rfl (by kernel_rfl) (fun i r52 N52 => match i with | 0 => (r52 0) = pp bM 0 | 1 => (r52 1) = pp bM 0 | 2 => (r52 2) = pp bM 0 | 3 => (r52 3) = pp bS 0 | 4 => (r52 4) = .agg ⟨sC ((sml (r52 4)))⟩ ∧ (N52 4) = (BX bS [v, iv ((sth (N52 4) 1)), .int .u64 ((sth (N52 4) 2))] 123) ∧ lowS (sml (r52 4)) ∧ (aj ≤ sth (N52 4) 1 ∧ sth (N52 4) 1 ≤ aj + 1) | 5 => (r52 5) = pp bM 0 | 6 => (r52 6) = pp bM 0 | 7 => (r52 7) = pp bM 0 | 8 => (r52 8) = pp bS 0 | 9 => (r52 9) = iv ((ivl (r52 9))) ∧ (N52 9) = (BX bS [v, iv ((sth (N52 9) 1)), .int .u64 ((sth (N52 9) 2))] 123) ∧ (0 ≤ (ivl (r52 9)) ∧ ((0 : Int) < 2 → (ivl (r52 9)) < 2) ∧ ((2 : Int) ≤ 0 → (ivl (r52 9)) = 0)) ∧ ((sth (N52 4) 1) ≤ sth (N52 9) 1 ∧ sth (N52 9) 1 ≤ (sth (N52 4) 1) + 1) | 10 => (r52 10) = .func (.func 129) ⟨[]⟩ ⟨[pp b1 0, pp b2 0, pp b3 0]⟩ | _ => True) ⟨?_, ?_, ?_, ?_, ?_, ?_, ?_, ?_, ?_, ?_, ?_, trivial⟩ ?_
  ·intro ρ r52 N52 B hB hBa hBb hp hr hr0
   obtain ⟨ρ53, rfl⟩ := Zn (uc (show ρ 3 = pp b1 0 from hr0 3 (by kernel_rfl)) un)
   refine JLr (Ze YZ rfl (At.bx 15 (Ye ((hB 4 (by decide)).trans rfl))) rfl <| Zb ?_)
   exact ⟨pp bM 0, [], rfl, (Sub.emp Sub.refl), rfl⟩
  ·intro ρ r52 N52 B hB hBa hBb hp hr hr0
   have p0 : (r52 0) = pp bM 0 := hp 0 (by decide) rfl
   obtain ⟨ρ54, rfl⟩ := Zn (uc (show ρ 122 = pp bM 0 from (hr 0 _ _ (by decide) rfl rfl rfl).trans p0) un)
   refine JLq (pp bM 0) (Pu.nilCheck rfl) <| Zb ?_
   exact ⟨pp bM 0, [], rfl, (Sub.emp Sub.refl), rfl⟩
  ·intro ρ r52 N52 B hB hBa hBb hp hr hr0
   have p1 : (r52 1) = pp bM 0 := hp 1 (by decide) rfl
   obtain ⟨ρ55, rfl⟩ := Zn (uc (show ρ 123 = pp bM 0 from (hr 1 _ _ (by decide) rfl rfl rfl).trans p1) un)
   refine JLq (pp bM 0) (Yl rfl rfl) <| Zb ?_
   exact ⟨pp bM 0, [], rfl, (Sub.emp Sub.refl), rfl⟩
  ·intro ρ r52 N52 B hB hBa hBb hp hr hr0
   have p2 : (r52 2) = pp bM 0 := hp 2 (by decide) rfl
   obtain ⟨ρ56, rfl⟩ := Zn (uc (show ρ 124 = pp bM 0 from (hr 2 _ _ (by decide) rfl rfl rfl).trans p2) un)
   refine JLr (Ze ty47 rfl (At.bx 16 (Ye ((hB 5 (by decide)).trans rfl))) rfl <| Zb ?_)
   exact ⟨pp bS 0, [], rfl, (Sub.emp Sub.refl), rfl⟩
  ·intro ρ r52 N52 B hB hBa hBb hp hr hr0
   have p3 : (r52 3) = pp bS 0 := hp 3 (by decide) rfl
   obtain ⟨ρ57, rfl⟩ := Zn (uc (show ρ 125 = pp bS 0 from (hr 3 _ _ (by decide) rfl rfl rfl).trans p3) un)
   have hB2 := hBa rfl
   change B = [(BX bS [v, iv aj, .int .u64 sj] 123), (BX b4 (pkT 0 0 zS nS nS) 27), (BX b3 [iv m] 3), (BX b2 [iv d] 3), (BX b1 [pp bM 0] 160), (BX bM [pp bS 0, iv (L - 1)] 162)] at hB2
   subst hB2
   refine Zw (M' := [(N52 0), (N52 1), (N52 2), (N52 3), [], (N52 5), (N52 6), (N52 7), (N52 8), [], (N52 10), (BX bS [v, iv aj, .int .u64 sj] 123), (BX b4 (pkT 0 0 zS nS nS) 27), (BX b3 [iv m] 3), (BX b2 [iv d] 3), (BX b1 [pp bM 0] 160), (BX bM [pp bS 0, iv (L - 1)] 162)]) Sub.refl <| Zr 11 rfl Tryz.call133 rfl rfl (fun hin => sum_ct _ _ _ _ _ _ (RBs.mono (Hle.hu _ _) hv) (by omega) (by omega) _ _ (by omega) (by omega) (by omega)) rfl ?_
   rintro _ _ ⟨n58, a58, s58, rfl, rfl, hw58, ha58⟩
   refine Zb ?_
   exact ⟨.agg ⟨sC n58⟩, (BX bS [v, iv a58, .int .u64 s58] 123), rfl, (Sub.flat (M' := [(N52 0), (N52 1), (N52 2), (N52 3), [], (N52 5), (N52 6), (N52 7), (N52 8), [], (N52 10), (BX bS [v, iv a58, .int .u64 s58] 123), (BX b4 (pkT 0 0 zS nS nS) 27), (BX b3 [iv m] 3), (BX b2 [iv d] 3), (BX b1 [pp bM 0] 160), (BX bM [pp bS 0, iv (L - 1)] 162)]) (Sub.cons 1 rfl (Sub.cons 1 rfl (Sub.cons 1 rfl (Sub.cons 1 rfl (Sub.emp (Sub.cons 2 rfl (Sub.cons 2 rfl (Sub.cons 2 rfl (Sub.cons 2 rfl (Sub.emp (Sub.cons 3 rfl (Sk (Sd (Sd (Sk (Sk (Sk (Sk (Sk Sub.nil))))))))))))))))))) rfl), ⟨sml_eq _, rfl, sml_low hw58, ha58⟩⟩
  ·intro ρ r52 N52 B hB hBa hBb hp hr hr0
   obtain ⟨ρ59, rfl⟩ := Zn (uc (show ρ 3 = pp b1 0 from hr0 3 (by kernel_rfl)) un)
   refine JLr (Ze YZ rfl (At.bx 15 (Ye ((hB 4 (by decide)).trans rfl))) rfl <| Zb ?_)
   exact ⟨pp bM 0, [], rfl, (Sub.emp Sub.refl), rfl⟩
  ·intro ρ r52 N52 B hB hBa hBb hp hr hr0
   have p5 : (r52 5) = pp bM 0 := hp 5 (by decide) rfl
   obtain ⟨ρ60, rfl⟩ := Zn (uc (show ρ 127 = pp bM 0 from (hr 5 _ _ (by decide) rfl rfl rfl).trans p5) un)
   refine JLq (pp bM 0) (Pu.nilCheck rfl) <| Zb ?_
   exact ⟨pp bM 0, [], rfl, (Sub.emp Sub.refl), rfl⟩
  ·intro ρ r52 N52 B hB hBa hBb hp hr hr0
   have p6 : (r52 6) = pp bM 0 := hp 6 (by decide) rfl
   obtain ⟨ρ61, rfl⟩ := Zn (uc (show ρ 128 = pp bM 0 from (hr 6 _ _ (by decide) rfl rfl rfl).trans p6) un)
   refine JLq (pp bM 0) (Yl rfl rfl) <| Zb ?_
   exact ⟨pp bM 0, [], rfl, (Sub.emp Sub.refl), rfl⟩
  ·intro ρ r52 N52 B hB hBa hBb hp hr hr0
   have p7 : (r52 7) = pp bM 0 := hp 7 (by decide) rfl
   obtain ⟨ρ62, rfl⟩ := Zn (uc (show ρ 129 = pp bM 0 from (hr 7 _ _ (by decide) rfl rfl rfl).trans p7) un)
   refine JLr (Ze ty47 rfl (At.bx 16 (Ye ((hB 5 (by decide)).trans rfl))) rfl <| Zb ?_)
   exact ⟨pp bS 0, [], rfl, (Sub.emp Sub.refl), rfl⟩
  ·intro ρ r52 N52 B hB hBa hBb hp hr hr0
   have p4 : (r52 4) = .agg ⟨sC ((sml (r52 4)))⟩ ∧ (N52 4) = (BX bS [v, iv ((sth (N52 4) 1)), .int .u64 ((sth (N52 4) 2))] 123) ∧ lowS (sml (r52 4)) ∧ (aj ≤ sth (N52 4) 1 ∧ sth (N52 4) 1 ≤ aj + 1) := hp 4 (by decide) rfl
   have p8 : (r52 8) = pp bS 0 := hp 8 (by decide) rfl
   obtain ⟨ρ63, rfl⟩ := Zn (uc (show ρ 130 = pp bS 0 from (hr 8 _ _ (by decide) rfl rfl rfl).trans p8) un)
   have hB2 := hBa rfl
   change B = [(N52 4), (BX b4 (pkT 0 0 zS nS nS) 27), (BX b3 [iv m] 3), (BX b2 [iv d] 3), (BX b1 [pp bM 0] 160), (BX bM [pp bS 0, iv (L - 1)] 162)] at hB2
   subst hB2
   refine Zw (M' := [(N52 0), (N52 1), (N52 2), (N52 3), [], (N52 5), (N52 6), (N52 7), (N52 8), [], (N52 10), (N52 4), (BX b4 (pkT 0 0 zS nS nS) 27), (BX b3 [iv m] 3), (BX b2 [iv d] 3), (BX b1 [pp bM 0] 160), (BX bM [pp bS 0, iv (L - 1)] 162)]) Sub.refl <| Zw (M' := [(N52 0), (N52 1), (N52 2), (N52 3), [], (N52 5), (N52 6), (N52 7), (N52 8), [], (N52 10), (BX bS [v, iv ((sth (N52 4) 1)), .int .u64 ((sth (N52 4) 2))] 123), (BX b4 (pkT 0 0 zS nS nS) 27), (BX b3 [iv m] 3), (BX b2 [iv d] 3), (BX b1 [pp bM 0] 160), (BX bM [pp bS 0, iv (L - 1)] 162)]) (Sk (Sk (Sk (Sk (Sub.emp (Sd (Sk (Sk (Sk (Sk (Sub.emp (Sd (Sk (Se p4.2.1 (Sk (Sk (Sk (Sk (Sk Sub.nil))))))))))))))))))) <| Zr 11 rfl Tryz.call130 rfl rfl (fun hin => Yu _ _ _ _ _ _ (RBs.mono (Hle.hu _ _) hv) (by omega) (by omega) _) rfl ?_
   rintro _ _ ⟨n64, a64, s64, rfl, rfl, hn64, ha64⟩
   refine Zb ?_
   exact ⟨iv n64, (BX bS [v, iv a64, .int .u64 s64] 123), rfl, (Sub.flat (M' := [(N52 0), (N52 1), (N52 2), (N52 3), [], (N52 5), (N52 6), (N52 7), (N52 8), [], (N52 10), (BX bS [v, iv a64, .int .u64 s64] 123), (BX b4 (pkT 0 0 zS nS nS) 27), (BX b3 [iv m] 3), (BX b2 [iv d] 3), (BX b1 [pp bM 0] 160), (BX bM [pp bS 0, iv (L - 1)] 162)]) (Sub.cons 1 rfl (Sub.cons 1 rfl (Sub.cons 1 rfl (Sub.cons 1 rfl (Sub.emp (Sub.cons 2 rfl (Sub.cons 2 rfl (Sub.cons 2 rfl (Sub.cons 2 rfl (Sub.emp (Sub.cons 3 rfl (Sk (Sd (Sd (Sk (Sk (Sk (Sk (Sk Sub.nil))))))))))))))))))) rfl), ⟨rfl, rfl, hn64, ha64⟩⟩
  ·intro ρ r52 N52 B hB hBa hBb hp hr hr0
   obtain ⟨ρ65, rfl⟩ := Zn (uc (show ρ 7 = .func (.func 129) ⟨[]⟩ ⟨[pp b1 0, pp b2 0, pp b3 0]⟩ from hr0 7 (by kernel_rfl)) un)
   refine JLM rfl <| Zb ?_
   exact ⟨.func (.func 129) ⟨[]⟩ ⟨[pp b1 0, pp b2 0, pp b3 0]⟩, [], rfl, (Sub.emp Sub.refl), rfl⟩
  intro ρ r52 N52 hp hr hr0
  have p4 : (r52 4) = .agg ⟨sC ((sml (r52 4)))⟩ ∧ (N52 4) = (BX bS [v, iv ((sth (N52 4) 1)), .int .u64 ((sth (N52 4) 2))] 123) ∧ lowS (sml (r52 4)) ∧ (aj ≤ sth (N52 4) 1 ∧ sth (N52 4) 1 ≤ aj + 1) := hp 4 (by decide)
  have p9 : (r52 9) = iv ((ivl (r52 9))) ∧ (N52 9) = (BX bS [v, iv ((sth (N52 9) 1)), .int .u64 ((sth (N52 9) 2))] 123) ∧ (0 ≤ (ivl (r52 9)) ∧ ((0 : Int) < 2 → (ivl (r52 9)) < 2) ∧ ((2 : Int) ≤ 0 → (ivl (r52 9)) = 0)) ∧ ((sth (N52 4) 1) ≤ sth (N52 9) 1 ∧ sth (N52 9) 1 ≤ (sth (N52 4) 1) + 1) := hp 9 (by decide)
  obtain ⟨ρ66, rfl⟩ := Zn (uc (show ρ 3 = pp b1 0 from hr0 3 (by kernel_rfl)) (uc (show ρ 6 = pp b4 0 from hr0 6 (by kernel_rfl)) (uc (show ρ 7 = .func (.func 129) ⟨[]⟩ ⟨[pp b1 0, pp b2 0, pp b3 0]⟩ from hr0 7 (by kernel_rfl)) (uc (show ρ 126 = .agg ⟨sC ((sml (r52 4)))⟩ from (hr 4 _ _ (by decide) rfl rfl).trans p4.1) (uc (show ρ 131 = iv ((ivl (r52 9))) from (hr 9 _ _ (by decide) rfl rfl).trans p9.1) (uc (show ρ 132 = .func (.func 129) ⟨[]⟩ ⟨[pp b1 0, pp b2 0, pp b3 0]⟩ from (hr 10 _ _ (by decide) rfl rfl).trans (hp 10 (by decide))) un))))))
  have p52_4 := p4; have p52_9 := p9
  clear hp hr hr0 p4 p9
  refine Zw (M' := [(N52 0), (N52 1), (N52 2), (N52 3), [], (N52 5), (N52 6), (N52 7), (N52 8), [], (N52 10), (N52 9), (BX b4 (pkT 0 0 zS nS nS) 27), (BX b3 [iv m] 3), (BX b2 [iv d] 3), (BX b1 [pp bM 0] 160), (BX bM [pp bS 0, iv (L - 1)] 162)]) Sub.refl <| Zw (M' := [(BX bS [v, iv ((sth (N52 9) 1)), .int .u64 ((sth (N52 9) 2))] 123), (BX b4 (pkT 0 0 zS nS nS) 27), (BX b3 [iv m] 3), (BX b2 [iv d] 3), (BX b1 [pp bM 0] 160), (BX bM [pp bS 0, iv (L - 1)] 162)]) (Sd (Sd (Sd (Sd (Sd (Sd (Sd (Sd (Sd (Sd (Sd (Se p52_9.2.1 (Sk (Sk (Sk (Sk (Sk Sub.nil))))))))))))))))) <| Zw (M' := [(BX bS [v, iv ((sth (N52 9) 1)), .int .u64 ((sth (N52 9) 2))] 123), (BX b4 (pkT 0 0 zS nS nS) 27), (BX b3 [iv m] 3), (BX b2 [iv d] 3), (BX b1 [pp bM 0] 160), (BX bM [pp bS 0, iv (L - 1)] 162)]) (Sub.flat Sub.refl (by simp)) ?_
  show JL _ _ _ [_, _, _] _ _ _
  refine Zw (Sub.join (Sub.cons 5 rfl (Sk (Sk (Sk (Sk (Sk Sub.nil))))))) <| Zr 0 rfl Tryz.call129 rfl rfl (fun hin => YP _ _ _ _ _ _ _ _ _ _ _ _ _ _ (RBs.mono (Hle.hu _ _) hv) (hin 3 _ rfl _ _ List.mem_cons_self) (hin 2 _ rfl _ _ List.mem_cons_self) (hin 1 _ rfl _ _ List.mem_cons_self) (by omega) (by omega) (by omega) (by omega) (fun h hh => ih _ (by omega) _ _ _ _ _ _ _ _ _ _ rfl (RBs.mono hh (RBs.mono (Hle.hu _ _) hv)) (by omega) (by omega) (by omega) (by omega) (by omega) (by omega) (by omega) (by omega))) rfl ?_
  rintro _ _ ⟨t67, cs67, k67, l67, a67, s67, rfl, rfl, hO67, ⟨hn67, hz67, hw67⟩, hl67, ha67⟩
  refine Zw (M' := [(BX bM [pp bS 0, iv l67] 162), (BX bS [v, iv a67, .int .u64 s67] 123), k67, (BX b4 (pkT 0 0 zS nS nS) 27), (BX b3 [iv m] 3), (BX b2 [iv d] 3), (BX b1 [pp bM 0] 160)]) (Sub.flat Sub.refl (by simp)) <| Jc Tryz.call137 rfl (fun hin => askD_ct _ _ _ hO67.len hO67.ok _) rfl ?_
  rintro _ _ ⟨sv68, k68, rfl, rfl, ho68⟩
  refine JLr (Zd 4 (vs := pkT 11 ((ivl (r52 9))) ((sml (r52 4))) sv68 nS) (l := pkT 11 ((ivl (r52 9))) ((sml (r52 4))) sv68 nS) Zs rfl rfl rfl rfl rfl (Zz ho68.one rfl) (Z4 ..) <| Zb <| Zl <| ⟨.agg ⟨pkT 11 ((ivl (r52 9))) ((sml (r52 4))) sv68 nS⟩, [((BX bM [pp bS 0, iv l67] 162)) ++ ((BX bS [v, iv a67, .int .u64 s67] 123)), k68 ++ k67], Ret.one rfl (RV.cell Zs rfl (At.bx 4 rfl) (ZY ..)), (Sub.join (Sub.cons 1 rfl (Sub.cons 1 rfl (Sub.join (Sk (Sk Sub.nil)))))), ?_⟩)
  exact ⟨.mk 11 ((ivl (r52 9))) ((sml (r52 4))) [t67] [], _, _, _, _, _, rfl, rfl, OT_row (by unfold inI; omega) (by unfold inI; omega) ho68 (OTs1 hO67) (by simp), ⟨nErr_ask (by omega) (by omega) (by simpa using hn67), by simp only [eVa, eNu, sizeT, sizeTs, sizeCs]; omega, by simp only [YQ, lowTs]; exact ⟨p52_4.2.2.1, ⟨hw67, trivial⟩, trivial⟩⟩, by omega, by omega⟩
 replace h51 := df h51
 refine Zc <| Za <| JLM rfl <| JLn (Pu.eql rfl rfl) <| JLA rfl <| Zb <| Zg rfl (fun h69 => ?_) (fun h69 => ?_)
 ·replace h69 := dt h69
  refine Zc <| Za <| JLr (Ze YZ rfl (At.bx 4 rfl) rfl <| JLq (pp bM 0) (Pu.nilCheck rfl) <| JLq (pp bM 0) (Yl rfl rfl) <| JLr (Ze ty47 rfl (At.bx 5 rfl) rfl <| Zr 0 rfl Tryz.call133 rfl rfl (fun hin => sum_ct _ _ _ _ _ _ (RBs.mono (Hle.hu _ _) hv) (by omega) (by omega) _ _ (by omega) (by omega) (by omega)) rfl ?_))
  rintro _ _ ⟨n70, a70, s70, rfl, rfl, hw70, ha70⟩
  refine JLM rfl <| Zw (Sub.join (Sub.cons 5 rfl (Sk (Sk (Sk (Sk (Sk Sub.nil))))))) <| Zr 0 rfl Tryz.call129 rfl rfl (fun hin => YP _ _ _ _ _ _ _ _ _ _ _ _ _ _ (RBs.mono (Hle.hu _ _) hv) (hin 3 _ rfl _ _ List.mem_cons_self) (hin 2 _ rfl _ _ List.mem_cons_self) (hin 1 _ rfl _ _ List.mem_cons_self) (by omega) (by omega) (by omega) (by omega) (fun h hh => ih _ (by omega) _ _ _ _ _ _ _ _ _ _ rfl (RBs.mono hh (RBs.mono (Hle.hu _ _) hv)) (by omega) (by omega) (by omega) (by omega) (by omega) (by omega) (by omega) (by omega))) rfl ?_
  rintro _ _ ⟨t71, cs71, k71, l71, a71, s71, rfl, rfl, hO71, ⟨hn71, hz71, hw71⟩, hl71, ha71⟩
  refine Zw (M' := [(BX bM [pp bS 0, iv l71] 162), (BX bS [v, iv a71, .int .u64 s71] 123), k71, (BX b4 (pkT 0 0 zS nS nS) 27), (BX b3 [iv m] 3), (BX b2 [iv d] 3), (BX b1 [pp bM 0] 160)]) (Sub.flat Sub.refl (by simp)) <| JLM rfl <| Zw (Sub.join (Sk (Sk (Sk (Sk (Sk (Sk (Sk Sub.nil)))))))) <| Zr 0 rfl Tryz.call129 rfl rfl (fun hin => YP _ _ _ _ _ _ _ _ _ _ _ _ _ _ (RBs.mono (Hle.hu _ _) hv) (hin 4 _ rfl _ _ List.mem_cons_self) (hin 3 _ rfl _ _ List.mem_cons_self) (hin 2 _ rfl _ _ List.mem_cons_self) (by omega) (by omega) (by omega) (by omega) (fun h hh => ih _ (by omega) _ _ _ _ _ _ _ _ _ _ rfl (RBs.mono hh (RBs.mono (Hle.hu _ _) hv)) (by omega) (by omega) (by omega) (by omega) (by omega) (by omega) (by omega) (by omega))) rfl ?_
  rintro _ _ ⟨t72, cs72, k72, l72, a72, s72, rfl, rfl, hO72, ⟨hn72, hz72, hw72⟩, hl72, ha72⟩
  refine Zw (M' := [(BX bM [pp bS 0, iv l72] 162), (BX bS [v, iv a72, .int .u64 s72] 123), k72, k71, (BX b4 (pkT 0 0 zS nS nS) 27), (BX b3 [iv m] 3), (BX b2 [iv d] 3), (BX b1 [pp bM 0] 160)]) (Sub.flat Sub.refl (by simp)) <| JLr (Zq (vs := [.agg ⟨cs71⟩, .agg ⟨cs72⟩]) [cs71, cs72] Tryz.runUnderlying24 el27 rfl rfl (by intro e he; simp only [List.mem_cons, List.not_mem_nil, or_false] at he; rcases he with rfl | rfl <;> first | exact hO71.len | exact hO72.len) rfl (by decide) fun b73 k73 ho73 hk73 => Jc Tryz.call43 rfl (fun hin => ha_ct _ _ _ _ _) rfl ?_)
  rintro _ _ ⟨rfl, rfl⟩
  refine JLr (Zh (l := pkT 0 0 zS nS nS) Tryz.zeroValue27 rfl fun b74 => JLr (Zd 0 (vs := pkT 12 0 n70 (.slice (some ⟨b73, 0, none⟩) 2 2) nS) (l := pkT 12 0 n70 (.slice (some ⟨b73, 0, none⟩) 2 2) nS) Zs rfl rfl rfl rfl rfl (Zz rfl rfl) (Z4 ..) <| Zb <| Zc <| Zc <| Za <| JLr (Ze YZ rfl (At.bx 9 rfl) rfl <| JLq (pp bM 0) (Pu.nilCheck rfl) <| JLq (pp bM 0) (Yl rfl rfl) <| JLr (Ze ty47 rfl (At.bx 2 rfl) rfl <| Zr 3 rfl Tryz.call130 rfl rfl (fun hin => Yu _ _ _ _ _ _ (RBs.mono (Hle.hu _ _) hv) (by omega) (by omega) _) rfl ?_))))
  rintro _ _ ⟨n75, a75, s75, rfl, rfl, hn75, ha75⟩
  refine JLM rfl <| Zb <| Zo <| ZT (fun k ρ M => ∃ (j : Nat) (ts : List Tm) (w : Value) (es : List (List Value)) (k1 k2 : Zf) (lw aw sw : Int), ρ 3 = pp b1 0 ∧ ρ 6 = pp b4 0 ∧ ρ 7 = .func (.func 129) ⟨[]⟩ ⟨[pp b1 0, pp b2 0, pp b3 0]⟩ ∧ ρ 9 = pp b74 0 ∧ ρ 153 = iv n75 ∧ ρ 154 = iv ((j : Int)) ∧ Sub [(BX b74 (pkT 12 0 n70 w nS) 27), k1, k2, (BX bM [pp bS 0, iv lw] 162), (BX bS [v, iv aw, .int .u64 sw] 123), (BX b4 (pkT 0 0 zS nS nS) 27), (BX b3 [iv m] 3), (BX b2 [iv d] 3), (BX b1 [pp bM 0] 160)] M ∧ (j : Int) ≤ n75 ∧ Own 27 36 w es k1 ∧ OTs ts es k2 ∧ ts.length = j + 2 ∧ Z0 d m 0 12 0 ts = 0 ∧ (sizeTs ts : Int) ≤ 20 * (L - 1 - lw) ∧ lowTs ts ∧ (lw ≤ L - 1 ∧ -3 * (L - 2) - ((j : Int) + 1) ≤ lw ∧ lw ≤ L - 2) ∧ (a ≤ aw ∧ aw ≤ a + 100 * (L - 1 - lw) + 10) ∧ k = n75.toNat - j) _ ⟨0, [t71, t72], (.slice (some ⟨b73, 0, none⟩) 2 2), ([cs71, cs72]), k73, (k71 ++ k72), l72, a75, s75, rfl, rfl, rfl, rfl, rfl, rfl, (Sub.cons 1 rfl (Sub.cons 1 rfl (Sub.join (Sub.cons 3 rfl (Sub.cons 2 rfl (Sub.cons 1 rfl (Sk (Sk (Sk (Sk (Sk Sub.nil))))))))))), (by omega), ho73, (OTs2 hO71 hO72), rfl, (nErrK_han (by simpa using hn71) hn72), (by simp only [sizeTs]; omega), ⟨hw71, hw72, trivial⟩, (by omega), (by omega), rfl⟩ ?_
  rintro _ ρ76 _ ⟨j, ts, w, es, k1, k2, lw, aw, sw, e77, e78, e79, e80, e81, e82, hm83, hj, how, hopw, hpl, hpe, hps, hpw, hpb, hpa, rfl⟩
  obtain ⟨ρ84, rfl⟩ := Zn (uc e77 (uc e78 (uc e79 (uc e80 (uc e81 (uc e82 un))))))
  clear e77 e78 e79 e80 e81 e82
  refine ZS hm83 <| Zc <| Za <| JLn (Pu.lss rfl rfl) <| Zb <| Zc <| Zg rfl (fun h85 => ?_) (fun h85 => ?_)
  ·replace h85 := dt h85
   have helw := OTs_len hopw
   refine Zm <| Zc <| Zo <| ZS (Sub.join (Sub.cons 3 rfl (Sub.cons 3 rfl (Sk (Sk (Sk (Sk (Sk (Sk (Sk Sub.nil)))))))))) <| J_drawM mixed #[0, 1, 0, 4, 12, 31, 63, 127] 5 0 [3] rfl (by kernel_rfl) (by decide) rfl (by kernel_rfl) (fun i r86 N86 => match i with | 0 => (r86 0) = pp b74 34 | 1 => (r86 1) = w | 2 => (r86 2) = .func (.func 129) ⟨[]⟩ ⟨[pp b1 0, pp b2 0, pp b3 0]⟩ | 3 => (r86 3) = .agg ⟨(cll (r86 3))⟩ ∧ (cll (r86 3)).length = 36 ∧ okc (cll (r86 3)) ∧ ∃ tM kM lM aM sM, (N86 3) = ((BX bM [pp bS 0, iv lM] 162)) ++ (((BX bS [v, iv aM, .int .u64 sM] 123)) ++ kM) ∧ OT tM (cll (r86 3)) kM ∧ (ZM (d + 2) m 0 tM = 0 ∧ (sizeT tM : Int) ≤ 20 * (lw - lM) ∧ YQ tM) ∧ (lM ≤ lw - 1 ∧ (lw ≤ 1 → lM = lw - 1) ∧ (1 ≤ lw → -3 * (lw - 1) ≤ lM)) ∧ (aw ≤ aM ∧ aM ≤ aw + 100 * (lw - lM)) | 4 => (r86 4) = .slice (some ⟨(Y0 (r86 4)), 0, none⟩) 1 1 ∧ (N86 4) = [(Y0 (r86 4), .cells ⟨List.flatten [(cll (r86 3))]⟩ 27 (0, 0))] ∧ Own 27 36 (.slice (some ⟨(Y0 (r86 4)), 0, none⟩) 1 1) [(cll (r86 3))] (N86 4) | _ => True) ⟨?_, ?_, ?_, ?_, ?_, trivial⟩ ?_
   ·intro ρ r86 N86 B hB hBa hBb hp hr hr0
    obtain ⟨ρ87, rfl⟩ := Zn (uc (show ρ 9 = pp b74 0 from hr0 9 (by kernel_rfl)) un)
    refine JLq (pp b74 34) (Yb rfl rfl) <| Zb ?_
    exact ⟨pp b74 34, [], rfl, (Sub.emp Sub.refl), rfl⟩
   ·intro ρ r86 N86 B hB hBa hBb hp hr hr0
    have p0 : (r86 0) = pp b74 34 := hp 0 (by decide) rfl
    obtain ⟨ρ88, rfl⟩ := Zn (uc (show ρ 156 = pp b74 34 from (hr 0 _ _ (by decide) rfl rfl rfl).trans p0) un)
    refine JLr (Ze ty24 rfl (At.bx 6 (Ye ((hB 1 (by decide)).trans rfl))) (Z9 ..) <| Zb ?_)
    exact ⟨w, [], rfl, (Sub.emp Sub.refl), rfl⟩
   ·intro ρ r86 N86 B hB hBa hBb hp hr hr0
    obtain ⟨ρ89, rfl⟩ := Zn (uc (show ρ 7 = .func (.func 129) ⟨[]⟩ ⟨[pp b1 0, pp b2 0, pp b3 0]⟩ from hr0 7 (by kernel_rfl)) un)
    refine JLM rfl <| Zb ?_
    exact ⟨.func (.func 129) ⟨[]⟩ ⟨[pp b1 0, pp b2 0, pp b3 0]⟩, [], rfl, (Sub.emp Sub.refl), rfl⟩
   ·intro ρ r86 N86 B hB hBa hBb hp hr hr0
    have p2 : (r86 2) = .func (.func 129) ⟨[]⟩ ⟨[pp b1 0, pp b2 0, pp b3 0]⟩ := hp 2 (by decide) rfl
    obtain ⟨ρ90, rfl⟩ := Zn (uc (show ρ 158 = .func (.func 129) ⟨[]⟩ ⟨[pp b1 0, pp b2 0, pp b3 0]⟩ from (hr 2 _ _ (by decide) rfl rfl rfl).trans p2) un)
    have hB2 := hBa rfl
    change B = [((BX bM [pp bS 0, iv lw] 162)) ++ ((BX bS [v, iv aw, .int .u64 sw] 123)), (BX b74 (pkT 12 0 n70 w nS) 27), k1, k2, (BX b4 (pkT 0 0 zS nS nS) 27), (BX b3 [iv m] 3), (BX b2 [iv d] 3), (BX b1 [pp bM 0] 160)] at hB2
    subst hB2
    refine Zw (M' := [(N86 0), (N86 1), (N86 2), [], (N86 4), ((BX bM [pp bS 0, iv lw] 162)) ++ ((BX bS [v, iv aw, .int .u64 sw] 123)), (BX b74 (pkT 12 0 n70 w nS) 27), k1, k2, (BX b4 (pkT 0 0 zS nS nS) 27), (BX b3 [iv m] 3), (BX b2 [iv d] 3), (BX b1 [pp bM 0] 160)]) Sub.refl <| Zr 5 rfl Tryz.call129 rfl rfl (fun hin => YP _ _ _ _ _ _ _ _ _ _ _ _ _ _ (RBs.mono (Hle.hu _ _) hv) (hin 11 _ rfl _ _ List.mem_cons_self) (hin 10 _ rfl _ _ List.mem_cons_self) (hin 9 _ rfl _ _ List.mem_cons_self) (by omega) (by omega) (by omega) (by omega) (fun h hh => ih _ (by omega) _ _ _ _ _ _ _ _ _ _ rfl (RBs.mono hh (RBs.mono (Hle.hu _ _) hv)) (by omega) (by omega) (by omega) (by omega) (by omega) (by omega) (by omega) (by omega))) rfl ?_
    rintro _ _ ⟨t91, cs91, k91, l91, a91, s91, rfl, rfl, hO91, ⟨hn91, hz91, hw91⟩, hl91, ha91⟩
    refine Zw (M' := [(BX bM [pp bS 0, iv l91] 162), (BX bS [v, iv a91, .int .u64 s91] 123), k91, (N86 0), (N86 1), (N86 2), [], (N86 4), (BX b74 (pkT 12 0 n70 w nS) 27), k1, k2, (BX b4 (pkT 0 0 zS nS nS) 27), (BX b3 [iv m] 3), (BX b2 [iv d] 3), (BX b1 [pp bM 0] 160)]) (Sub.flat Sub.refl (by simp)) <| Zb ?_
    exact ⟨.agg ⟨cs91⟩, ((BX bM [pp bS 0, iv l91] 162)) ++ (((BX bS [v, iv a91, .int .u64 s91] 123)) ++ k91), rfl, (Sub.flat (M' := [(N86 0), (N86 1), (N86 2), [], (N86 4), ((BX bM [pp bS 0, iv l91] 162)) ++ (((BX bS [v, iv a91, .int .u64 s91] 123)) ++ k91), (BX b74 (pkT 12 0 n70 w nS) 27), k1, k2, (BX b4 (pkT 0 0 zS nS nS) 27), (BX b3 [iv m] 3), (BX b2 [iv d] 3), (BX b1 [pp bM 0] 160)]) (Sub.cons 3 rfl (Sub.cons 3 rfl (Sub.cons 3 rfl (Sub.emp (Sub.cons 4 rfl (Sub.join3 (Sk (Sk (Sk (Sd (Sk (Sk (Sk (Sk (Sk (Sk (Sk Sub.nil))))))))))))))))) rfl), ⟨rfl, hO91.len, hO91.ok, t91, k91, l91, a91, s91, rfl, hO91, ⟨hn91, hz91, hw91⟩, hl91, ha91⟩⟩
   ·intro ρ r86 N86 B hB hBa hBb hp hr hr0
    have p3 : (r86 3) = .agg ⟨(cll (r86 3))⟩ ∧ (cll (r86 3)).length = 36 ∧ okc (cll (r86 3)) ∧ ∃ tM kM lM aM sM, (N86 3) = ((BX bM [pp bS 0, iv lM] 162)) ++ (((BX bS [v, iv aM, .int .u64 sM] 123)) ++ kM) ∧ OT tM (cll (r86 3)) kM ∧ (ZM (d + 2) m 0 tM = 0 ∧ (sizeT tM : Int) ≤ 20 * (lw - lM) ∧ YQ tM) ∧ (lM ≤ lw - 1 ∧ (lw ≤ 1 → lM = lw - 1) ∧ (1 ≤ lw → -3 * (lw - 1) ≤ lM)) ∧ (aw ≤ aM ∧ aM ≤ aw + 100 * (lw - lM)) := hp 3 (by decide) rfl
    obtain ⟨ρ92, rfl⟩ := Zn (uc (show ρ 159 = .agg ⟨(cll (r86 3))⟩ from (hr 3 _ _ (by decide) rfl rfl rfl).trans p3.1) un)
    refine JLr (Zq (vs := [.agg ⟨(cll (r86 3))⟩]) [(cll (r86 3))] Tryz.runUnderlying24 el27 rfl rfl (by intro e he; simp only [List.mem_cons, List.not_mem_nil, or_false] at he; subst he; exact p3.2.1) rfl (by decide) fun b93 k93 ho93 hk93 => Zb ?_)
    exact ⟨.slice (some ⟨b93, 0, none⟩) 1 1, k93, rfl, Sub.refl, ⟨rfl, hk93, ho93⟩⟩
   intro ρ r86 N86 hp hr hr0
   have p3 : (r86 3) = .agg ⟨(cll (r86 3))⟩ ∧ (cll (r86 3)).length = 36 ∧ okc (cll (r86 3)) ∧ ∃ tM kM lM aM sM, (N86 3) = ((BX bM [pp bS 0, iv lM] 162)) ++ (((BX bS [v, iv aM, .int .u64 sM] 123)) ++ kM) ∧ OT tM (cll (r86 3)) kM ∧ (ZM (d + 2) m 0 tM = 0 ∧ (sizeT tM : Int) ≤ 20 * (lw - lM) ∧ YQ tM) ∧ (lM ≤ lw - 1 ∧ (lw ≤ 1 → lM = lw - 1) ∧ (1 ≤ lw → -3 * (lw - 1) ≤ lM)) ∧ (aw ≤ aM ∧ aM ≤ aw + 100 * (lw - lM)) := hp 3 (by decide)
   have p4 : (r86 4) = .slice (some ⟨(Y0 (r86 4)), 0, none⟩) 1 1 ∧ (N86 4) = [(Y0 (r86 4), .cells ⟨List.flatten [(cll (r86 3))]⟩ 27 (0, 0))] ∧ Own 27 36 (.slice (some ⟨(Y0 (r86 4)), 0, none⟩) 1 1) [(cll (r86 3))] (N86 4) := hp 4 (by decide)
   obtain ⟨ρ94, rfl⟩ := Zn (uc (show ρ 3 = pp b1 0 from hr0 3 (by kernel_rfl)) (uc (show ρ 6 = pp b4 0 from hr0 6 (by kernel_rfl)) (uc (show ρ 7 = .func (.func 129) ⟨[]⟩ ⟨[pp b1 0, pp b2 0, pp b3 0]⟩ from hr0 7 (by kernel_rfl)) (uc (show ρ 9 = pp b74 0 from hr0 9 (by kernel_rfl)) (uc (show ρ 153 = iv n75 from hr0 153 (by kernel_rfl)) (uc (show ρ 154 = iv ((j : Int)) from hr0 154 (by kernel_rfl)) (uc (show ρ 157 = w from (hr 1 _ _ (by decide) rfl rfl).trans (hp 1 (by decide))) (uc (show ρ 160 = .slice (some ⟨(Y0 (r86 4)), 0, none⟩) 1 1 from (hr 4 _ _ (by decide) rfl rfl).trans p4.1) un))))))))
   have p86_3 := p3; have p86_4 := p4
   clear hp hr hr0 p3 p4
   refine Zw (M' := [(N86 0), (N86 1), (N86 2), [], (N86 4), (N86 3), (BX b74 (pkT 12 0 n70 w nS) 27), k1, k2, (BX b4 (pkT 0 0 zS nS nS) 27), (BX b3 [iv m] 3), (BX b2 [iv d] 3), (BX b1 [pp bM 0] 160)]) Sub.refl ?_
   obtain ⟨tM86_3, kM86_3, lM86_3, aM86_3, sM86_3, hNM86_3, hOM86_3, ⟨hnM86_3, hzM86_3, hwM86_3⟩, hlM86_3, haM86_3⟩ := p86_3.2.2.2
   refine Zw (M' := [(N86 4), ((BX bM [pp bS 0, iv lM86_3] 162)) ++ (((BX bS [v, iv aM86_3, .int .u64 sM86_3] 123)) ++ kM86_3), (BX b74 (pkT 12 0 n70 w nS) 27), k1, k2, (BX b4 (pkT 0 0 zS nS nS) 27), (BX b3 [iv m] 3), (BX b2 [iv d] 3), (BX b1 [pp bM 0] 160)]) (Sd (Sd (Sd (Sd (Sk (Se hNM86_3 (Sk (Sk (Sk (Sk (Sk (Sk (Sk Sub.nil))))))))))))) <| Zw (M' := [(N86 4), (BX bM [pp bS 0, iv lM86_3] 162), (BX bS [v, iv aM86_3, .int .u64 sM86_3] 123), kM86_3, (BX b74 (pkT 12 0 n70 w nS) 27), k1, k2, (BX b4 (pkT 0 0 zS nS nS) 27), (BX b3 [iv m] 3), (BX b2 [iv d] 3), (BX b1 [pp bM 0] 160)]) (Sub.flat Sub.refl (by simp)) ?_
   show JL _ _ _ [_, _, _] _ _ _
   have hlens95 : ∀ e ∈ ([(cll (r86 3))] : List (List Value)), List.length e = 36 := by
    intro e he; simp only [List.mem_cons, List.not_mem_nil, or_false] at he
    rcases he with rfl
    ·exact p86_3.2.1
   have hoks95 : ∀ e ∈ ([(cll (r86 3))] : List (List Value)), okc e := by
    intro e he; simp only [List.mem_cons, List.not_mem_nil, or_false] at he
    rcases he with rfl
    ·exact p86_3.2.2.1
   refine JLr (ZJ (i := 5) (n := 1) (es' := [(cll (r86 3))]) Tryz.runUnderlying24 Tryz.runUnderlying24 (Or.inl rfl) el27 rfl rfl rfl how (fun F w m => Src.row (((At.k 0 rfl (by rw [p86_4.2.1]; exact List.mem_cons_self))).heap m) (Zu (Zx hlens95))) rfl hlens95 hoks95 (by decide) (by omega) fun v95 k95 ho95 => JLq (pp b74 34) (Yb rfl rfl) <| JLr (Zd 4 (vs := [v95]) (l := pkT 12 0 n70 v95 nS) ty24 rfl rfl rfl (ZE ho95.one) rfl (Zj ho95.one Zt) (pkT_s34 ..) <| Zb <| Za <| JLn (Pu.inc rfl rfl (by omega)) <| JLM rfl <| Zb <| ⟨_, ?_, (j + 1), (ts ++ [tM86_3]), v95, (es ++ [(cll (r86 3))]), k95, (k2 ++ kM86_3), lM86_3, aM86_3, sM86_3, rfl, rfl, rfl, rfl, rfl, rfl, (Sd (Sub.cons 3 rfl (Sub.cons 3 rfl (Sub.join (Sub.cons 3 rfl (Sub.cons 2 rfl (Sk (Sk (Sk (Sk (Sk (Sk Sub.nil)))))))))))), ?_, ?_, ?_, ?_, ?_, ?_, ?_, ?_, ?_, rfl⟩))
   ·omega
   ·omega
   ·exact ho95
   ·exact OTs.snoc hOM86_3 hopw
   ·simp; omega
   ·exact nErrK_han_snoc (by omega) hpe hnM86_3
   ·rw [sizeTs_snoc]; omega
   ·rw [lowTs_app]; exact ⟨hpw, hwM86_3, trivial⟩
   ·omega
   omega
  replace h85 := df h85
  refine ZB _ rfl <| Zc <| Za <| JLr (Zi Zs rfl (At.bx 0 rfl) (ZY ..) <| JLr (Zd 5 (vs := pkT 12 0 n70 w nS) (l := pkT 12 0 n70 w nS) Zs rfl rfl rfl rfl rfl (Zz how.one rfl) (Z4 ..) <| Zb <| Zl <| ⟨.agg ⟨pkT 12 0 n70 w nS⟩, [((BX bM [pp bS 0, iv lw] 162)) ++ ((BX bS [v, iv aw, .int .u64 sw] 123)), k1 ++ k2], Ret.one rfl (RV.cell Zs rfl (At.bx 5 rfl) (ZY ..)), (Sub.join (Sd (Sub.cons 2 rfl (Sub.cons 2 rfl (Sub.join (Sk (Sk Sub.nil))))))), ?_⟩))
  exact ⟨.mk 12 0 n70 ts [], _, _, _, _, _, rfl, rfl, OT_row (by unfold inI; omega) (by unfold inI; omega) how hopw (by omega), ⟨nErr_han (by omega) (by omega) hpe, by simp only [eVa, eNu, sizeT, sizeTs, sizeCs]; omega, by rw [YQ]; exact ⟨hw70, hpw, trivial⟩⟩, by omega, by omega⟩
 replace h69 := df h69
 refine Zc <| Za <| JLM rfl <| JLn (Pu.eql rfl rfl) <| JLA rfl <| Zb <| Zg rfl (fun h96 => ?_) (fun h96 => ?_)
 ·replace h96 := dt h96
  refine Zc <| Za <| JLM rfl <| Zw (Sub.join (Sub.cons 5 rfl (Sk (Sk (Sk (Sk (Sk Sub.nil))))))) <| Zr 0 rfl Tryz.call129 rfl rfl (fun hin => YP _ _ _ _ _ _ _ _ _ _ _ _ _ _ (RBs.mono (Hle.hu _ _) hv) (hin 3 _ rfl _ _ List.mem_cons_self) (hin 2 _ rfl _ _ List.mem_cons_self) (hin 1 _ rfl _ _ List.mem_cons_self) (by omega) (by omega) (by omega) (by omega) (fun h hh => ih _ (by omega) _ _ _ _ _ _ _ _ _ _ rfl (RBs.mono hh (RBs.mono (Hle.hu _ _) hv)) (by omega) (by omega) (by omega) (by omega) (by omega) (by omega) (by omega) (by omega))) rfl ?_
  rintro _ _ ⟨t97, cs97, k97, l97, a97, s97, rfl, rfl, hO97, ⟨hn97, hz97, hw97⟩, hl97, ha97⟩
  refine Zw (M' := [(BX bM [pp bS 0, iv l97] 162), (BX bS [v, iv a97, .int .u64 s97] 123), k97, (BX b4 (pkT 0 0 zS nS nS) 27), (BX b3 [iv m] 3), (BX b2 [iv d] 3), (BX b1 [pp bM 0] 160)]) (Sub.flat Sub.refl (by simp)) <| Jc Tryz.call138 rfl (fun hin => maD_ct _ hO97.len hO97.ok none 0 0 _) rfl ?_
  rintro _ _ ⟨sv98, k98, rfl, rfl, ho98⟩
  refine JLr (Zh (l := pkT 0 0 zS nS nS) Tryz.zeroValue27 rfl fun b99 => JLr (Zd 0 (vs := pkT 9 0 zS sv98 nS) (l := pkT 9 0 zS sv98 nS) Zs rfl rfl rfl rfl rfl (Zz ho98.one rfl) (Z4 ..) <| Zb <| Zc <| Zc <| Za <| JLr (Ze YZ rfl (At.bx 8 rfl) rfl <| JLq (pp bM 0) (Pu.nilCheck rfl) <| JLq (pp bM 0) (Yl rfl rfl) <| JLr (Ze ty47 rfl (At.bx 2 rfl) rfl <| Zr 3 rfl Tryz.call130 rfl rfl (fun hin => Yu _ _ _ _ _ _ (RBs.mono (Hle.hu _ _) hv) (by omega) (by omega) _) rfl ?_))))
  rintro _ _ ⟨n100, a100, s100, rfl, rfl, hn100, ha100⟩
  refine JLM rfl <| Zb <| Zo <| ZT (fun k ρ M => ∃ (j : Nat) (cs5 : List (Pt × Tm)) (w : Value) (es : List (List Value)) (k1 k2 : Zf) (lw aw sw : Int), ρ 3 = pp b1 0 ∧ ρ 6 = pp b4 0 ∧ ρ 7 = .func (.func 129) ⟨[]⟩ ⟨[pp b1 0, pp b2 0, pp b3 0]⟩ ∧ ρ 10 = pp b99 0 ∧ ρ 175 = iv n100 ∧ ρ 176 = iv ((j : Int)) ∧ Sub [(BX b99 (pkT 9 0 zS sv98 w) 27), k1, k2, (BX bM [pp bS 0, iv lw] 162), (BX bS [v, iv aw, .int .u64 sw] 123), k98, k97, (BX b4 (pkT 0 0 zS nS nS) 27), (BX b3 [iv m] 3), (BX b2 [iv d] 3), (BX b1 [pp bM 0] 160)] M ∧ (j : Int) ≤ n100 ∧ Own 56 71 w es k1 ∧ OCs cs5 es k2 ∧ cs5.length = j ∧ YB cs5 = 0 ∧ Yh d m 0 cs5 = 0 ∧ (sizeCs cs5 : Int) + (sizeT t97 : Int) ≤ 20 * (L - 1 - lw) + 7 * (j : Int) ∧ lowCs cs5 ∧ (lw ≤ L - 1 ∧ -3 * (L - 2) - ((j : Int) + 0) ≤ lw ∧ lw ≤ L - 2) ∧ (a ≤ aw ∧ aw ≤ a + 100 * (L - 1 - lw) + (10 + 21 * (j : Int))) ∧ k = n100.toNat - j) _ ⟨0, [], nS, ([]), ([]), ([]), l97, a100, s100, rfl, rfl, rfl, rfl, rfl, rfl, (Sub.cons 1 rfl (Sub.emp (Sub.emp (Sub.cons 2 rfl (Sk (Sk (Sk (Sk (Sk (Sk (Sk Sub.nil))))))))))), (by omega), Own.nil, OCs.nil, rfl, (by simp [YB]), (by simp [Yh]), (by simp only [sizeCs]; omega), trivial, (by omega), (by omega), rfl⟩ ?_
  rintro _ ρ101 _ ⟨j, cs5, w, es, k1, k2, lw, aw, sw, e102, e103, e104, e105, e106, e107, hm108, hj, how, hopw, hpl, hpe, hpc, hps, hpw, hpb, hpa, rfl⟩
  obtain ⟨ρ109, rfl⟩ := Zn (uc e102 (uc e103 (uc e104 (uc e105 (uc e106 (uc e107 un))))))
  clear e102 e103 e104 e105 e106 e107
  refine ZS hm108 <| Zc <| Za <| JLn (Pu.lss rfl rfl) <| Zb <| Zc <| Zg rfl (fun h110 => ?_) (fun h110 => ?_)
  ·replace h110 := dt h110
   have helw := OCs_len hopw
   refine Zm <| Zc <| Zo <| Zc <| Za <| JLr (Ze YZ rfl (At.bx 10 rfl) rfl <| JLq (pp bM 0) (Pu.nilCheck rfl) <| JLq (pp bM 0) (Yl rfl rfl) <| JLr (Ze ty47 rfl (At.bx 3 rfl) rfl <| Zr 4 rfl Tryz.call139 rfl rfl (fun hin => pattern_ct 2 _ _ _ _ _ _ _ rfl (by decide) (RBs.mono (Hle.hu _ _) hv) (by omega) (by omega)) rfl ?_))
   rintro _ _ ⟨p111_, cs111, k111, a111, s111, rfl, rfl, hO111, hg111, ha111⟩
   have hbl111 := binds_le p111_
   refine JLr (Zh (l := pkP 0 0 zS nS) Tryz.zeroValue54 rfl fun b112 => JLr (Zd 0 (vs := cs111) (l := cs111) ZQ rfl rfl rfl rfl hO111.len hO111.ok (Zy (n := 35) rfl hO111.len) <| Zb <| ZS (Sub.join (Sub.cons 6 rfl (Sub.cons 1 rfl (Sk (Sk (Sk (Sk (Sk (Sk (Sk (Sk (Sk (Sk (Sk Sub.nil)))))))))))))) <| J_drawM mixed #[0, 1, 0, 0, 0, 16, 56, 124, 252, 511, 1023, 2047] 9 0 [6] rfl (by kernel_rfl) (by decide) rfl (by kernel_rfl) (fun i r113 N113 => match i with | 0 => (r113 0) = pp b99 35 | 1 => (r113 1) = w | 2 => (r113 2) = .agg ⟨cs111⟩ | 3 => (r113 3) = .func (.func 129) ⟨[]⟩ ⟨[pp b1 0, pp b2 0, pp b3 0]⟩ | 4 => (r113 4) = .agg ⟨cs111⟩ | 5 => (r113 5) = iv ((binds p111_ : Int)) | 6 => (r113 6) = .agg ⟨(cll (r113 6))⟩ ∧ (cll (r113 6)).length = 36 ∧ okc (cll (r113 6)) ∧ ∃ tM kM lM aM sM, (N113 6) = ((BX bM [pp bS 0, iv lM] 162)) ++ (((BX bS [v, iv aM, .int .u64 sM] 123)) ++ kM) ∧ OT tM (cll (r113 6)) kM ∧ (ZM (d + ((binds p111_ : Int))) m 0 tM = 0 ∧ (sizeT tM : Int) ≤ 20 * (lw - lM) ∧ YQ tM) ∧ (lM ≤ lw - 1 ∧ (lw ≤ 1 → lM = lw - 1) ∧ (1 ≤ lw → -3 * (lw - 1) ≤ lM)) ∧ (a111 ≤ aM ∧ aM ≤ a111 + 100 * (lw - lM)) | 7 => (r113 7) = .agg ⟨cs111 ++ ((cll (r113 6)))⟩ | 8 => (r113 8) = .slice (some ⟨(Y0 (r113 8)), 0, none⟩) 1 1 ∧ (N113 8) = [(Y0 (r113 8), .cells ⟨List.flatten [cs111 ++ ((cll (r113 6)))]⟩ 56 (0, 0))] ∧ Own 56 71 (.slice (some ⟨(Y0 (r113 8)), 0, none⟩) 1 1) [cs111 ++ ((cll (r113 6)))] (N113 8) | _ => True) ⟨?_, ?_, ?_, ?_, ?_, ?_, ?_, ?_, ?_, trivial⟩ ?_))
   ·intro ρ r113 N113 B hB hBa hBb hp hr hr0
    obtain ⟨ρ114, rfl⟩ := Zn (uc (show ρ 10 = pp b99 0 from hr0 10 (by kernel_rfl)) un)
    refine JLq (pp b99 35) (Yw rfl rfl) <| Zb ?_
    exact ⟨pp b99 35, [], rfl, (Sub.emp Sub.refl), rfl⟩
   ·intro ρ r113 N113 B hB hBa hBb hp hr hr0
    have p0 : (r113 0) = pp b99 35 := hp 0 (by decide) rfl
    obtain ⟨ρ115, rfl⟩ := Zn (uc (show ρ 183 = pp b99 35 from (hr 0 _ _ (by decide) rfl rfl rfl).trans p0) un)
    refine JLr (Ze ty25 rfl (At.bx 12 (Ye ((hB 3 (by decide)).trans rfl))) (Yj ..) <| Zb ?_)
    exact ⟨w, [], rfl, (Sub.emp Sub.refl), rfl⟩
   ·intro ρ r113 N113 B hB hBa hBb hp hr hr0
    obtain ⟨ρ116, rfl⟩ := Zn (uc (show ρ 11 = pp b112 0 from hr0 11 (by kernel_rfl)) un)
    refine JLr (Zi ZQ rfl (At.bx 10 (Ye ((hB 1 (by decide)).trans rfl))) (Zu hO111.len) <| Zb ?_)
    exact ⟨.agg ⟨cs111⟩, [], rfl, (Sub.emp Sub.refl), rfl⟩
   ·intro ρ r113 N113 B hB hBa hBb hp hr hr0
    obtain ⟨ρ117, rfl⟩ := Zn (uc (show ρ 7 = .func (.func 129) ⟨[]⟩ ⟨[pp b1 0, pp b2 0, pp b3 0]⟩ from hr0 7 (by kernel_rfl)) un)
    refine JLM rfl <| Zb ?_
    exact ⟨.func (.func 129) ⟨[]⟩ ⟨[pp b1 0, pp b2 0, pp b3 0]⟩, [], rfl, (Sub.emp Sub.refl), rfl⟩
   ·intro ρ r113 N113 B hB hBa hBb hp hr hr0
    obtain ⟨ρ118, rfl⟩ := Zn (uc (show ρ 11 = pp b112 0 from hr0 11 (by kernel_rfl)) un)
    refine JLr (Zi ZQ rfl (At.bx 10 (Ye ((hB 1 (by decide)).trans rfl))) (Zu hO111.len) <| Zb ?_)
    exact ⟨.agg ⟨cs111⟩, [], rfl, (Sub.emp Sub.refl), rfl⟩
   ·intro ρ r113 N113 B hB hBa hBb hp hr hr0
    have p4 : (r113 4) = .agg ⟨cs111⟩ := hp 4 (by decide) rfl
    obtain ⟨ρ119, rfl⟩ := Zn (uc (show ρ 187 = .agg ⟨cs111⟩ from (hr 4 _ _ (by decide) rfl rfl rfl).trans p4) un)
    refine Jc Tryz.call71 rfl (fun hin => bindsK_ct _ _ _ (hO111.rd (hin 11 _ (Ye ((hB 2 (by decide)).trans rfl)))) hg111.1 (by have e := binds_le p111_; have e2 := hg111.2.1; simp [pz] at e2; omega)) rfl ?_
    rintro _ _ ⟨rfl, rfl⟩
    refine Zb ?_
    exact ⟨iv ((binds p111_ : Int)), [], rfl, (Sub.emp Sub.refl), rfl⟩
   ·intro ρ r113 N113 B hB hBa hBb hp hr hr0
    have p3 : (r113 3) = .func (.func 129) ⟨[]⟩ ⟨[pp b1 0, pp b2 0, pp b3 0]⟩ := hp 3 (by decide) rfl
    have p5 : (r113 5) = iv ((binds p111_ : Int)) := hp 5 (by decide) rfl
    obtain ⟨ρ120, rfl⟩ := Zn (uc (show ρ 186 = .func (.func 129) ⟨[]⟩ ⟨[pp b1 0, pp b2 0, pp b3 0]⟩ from (hr 3 _ _ (by decide) rfl rfl rfl).trans p3) (uc (show ρ 188 = iv ((binds p111_ : Int)) from (hr 5 _ _ (by decide) rfl rfl rfl).trans p5) un))
    have hB2 := hBa rfl
    change B = [((BX bM [pp bS 0, iv lw] 162)) ++ ((BX bS [v, iv a111, .int .u64 s111] 123)), (BX b112 cs111 54), k111, (BX b99 (pkT 9 0 zS sv98 w) 27), k1, k2, k98, k97, (BX b4 (pkT 0 0 zS nS nS) 27), (BX b3 [iv m] 3), (BX b2 [iv d] 3), (BX b1 [pp bM 0] 160)] at hB2
    subst hB2
    refine Zw (M' := [(N113 0), (N113 1), (N113 2), (N113 3), (N113 4), (N113 5), [], (N113 7), (N113 8), ((BX bM [pp bS 0, iv lw] 162)) ++ ((BX bS [v, iv a111, .int .u64 s111] 123)), (BX b112 cs111 54), k111, (BX b99 (pkT 9 0 zS sv98 w) 27), k1, k2, k98, k97, (BX b4 (pkT 0 0 zS nS nS) 27), (BX b3 [iv m] 3), (BX b2 [iv d] 3), (BX b1 [pp bM 0] 160)]) Sub.refl <| Zr 9 rfl Tryz.call129 rfl rfl (fun hin => YP _ _ _ _ _ _ _ _ _ _ _ _ _ _ (RBs.mono (Hle.hu _ _) hv) (hin 19 _ rfl _ _ List.mem_cons_self) (hin 18 _ rfl _ _ List.mem_cons_self) (hin 17 _ rfl _ _ List.mem_cons_self) (by omega) (by omega) (by omega) (by omega) (fun h hh => ih _ (by omega) _ _ _ _ _ _ _ _ _ _ rfl (RBs.mono hh (RBs.mono (Hle.hu _ _) hv)) (by omega) (by omega) (by omega) (by omega) (by omega) (by omega) (by omega) (by omega))) rfl ?_
    rintro _ _ ⟨t121, cs121, k121, l121, a121, s121, rfl, rfl, hO121, ⟨hn121, hz121, hw121⟩, hl121, ha121⟩
    refine Zw (M' := [(BX bM [pp bS 0, iv l121] 162), (BX bS [v, iv a121, .int .u64 s121] 123), k121, (N113 0), (N113 1), (N113 2), (N113 3), (N113 4), (N113 5), [], (N113 7), (N113 8), (BX b112 cs111 54), k111, (BX b99 (pkT 9 0 zS sv98 w) 27), k1, k2, k98, k97, (BX b4 (pkT 0 0 zS nS nS) 27), (BX b3 [iv m] 3), (BX b2 [iv d] 3), (BX b1 [pp bM 0] 160)]) (Sub.flat Sub.refl (by simp)) <| Zb ?_
    exact ⟨.agg ⟨cs121⟩, ((BX bM [pp bS 0, iv l121] 162)) ++ (((BX bS [v, iv a121, .int .u64 s121] 123)) ++ k121), rfl, (Sub.flat (M' := [(N113 0), (N113 1), (N113 2), (N113 3), (N113 4), (N113 5), [], (N113 7), (N113 8), ((BX bM [pp bS 0, iv l121] 162)) ++ (((BX bS [v, iv a121, .int .u64 s121] 123)) ++ k121), (BX b112 cs111 54), k111, (BX b99 (pkT 9 0 zS sv98 w) 27), k1, k2, k98, k97, (BX b4 (pkT 0 0 zS nS nS) 27), (BX b3 [iv m] 3), (BX b2 [iv d] 3), (BX b1 [pp bM 0] 160)]) (Sub.cons 3 rfl (Sub.cons 3 rfl (Sub.cons 3 rfl (Sub.cons 3 rfl (Sub.cons 3 rfl (Sub.cons 3 rfl (Sub.emp (Sub.cons 4 rfl (Sub.cons 4 rfl (Sub.join3 (Sk (Sk (Sk (Sd (Sk (Sk (Sk (Sk (Sk (Sk (Sk (Sk (Sk (Sk (Sk Sub.nil))))))))))))))))))))))))) rfl), ⟨rfl, hO121.len, hO121.ok, t121, k121, l121, a121, s121, rfl, hO121, ⟨hn121, hz121, hw121⟩, hl121, ha121⟩⟩
   ·intro ρ r113 N113 B hB hBa hBb hp hr hr0
    have p2 : (r113 2) = .agg ⟨cs111⟩ := hp 2 (by decide) rfl
    have p6 : (r113 6) = .agg ⟨(cll (r113 6))⟩ ∧ (cll (r113 6)).length = 36 ∧ okc (cll (r113 6)) ∧ ∃ tM kM lM aM sM, (N113 6) = ((BX bM [pp bS 0, iv lM] 162)) ++ (((BX bS [v, iv aM, .int .u64 sM] 123)) ++ kM) ∧ OT tM (cll (r113 6)) kM ∧ (ZM (d + ((binds p111_ : Int))) m 0 tM = 0 ∧ (sizeT tM : Int) ≤ 20 * (lw - lM) ∧ YQ tM) ∧ (lM ≤ lw - 1 ∧ (lw ≤ 1 → lM = lw - 1) ∧ (1 ≤ lw → -3 * (lw - 1) ≤ lM)) ∧ (a111 ≤ aM ∧ aM ≤ a111 + 100 * (lw - lM)) := hp 6 (by decide) rfl
    obtain ⟨ρ122, rfl⟩ := Zn (uc (show ρ 185 = .agg ⟨cs111⟩ from (hr 2 _ _ (by decide) rfl rfl rfl).trans p2) (uc (show ρ 189 = .agg ⟨(cll (r113 6))⟩ from (hr 6 _ _ (by decide) rfl rfl rfl).trans p6.1) un))
    refine Jc Tryz.call140 rfl (fun hin => caD_ct _ _ hO111.len hO111.ok p6.2.1 p6.2.2.1 _) rfl ?_
    rintro _ _ ⟨rfl, rfl⟩
    refine Zb ?_
    exact ⟨.agg ⟨cs111 ++ ((cll (r113 6)))⟩, [], rfl, (Sub.emp Sub.refl), rfl⟩
   ·intro ρ r113 N113 B hB hBa hBb hp hr hr0
    have p6 : (r113 6) = .agg ⟨(cll (r113 6))⟩ ∧ (cll (r113 6)).length = 36 ∧ okc (cll (r113 6)) ∧ ∃ tM kM lM aM sM, (N113 6) = ((BX bM [pp bS 0, iv lM] 162)) ++ (((BX bS [v, iv aM, .int .u64 sM] 123)) ++ kM) ∧ OT tM (cll (r113 6)) kM ∧ (ZM (d + ((binds p111_ : Int))) m 0 tM = 0 ∧ (sizeT tM : Int) ≤ 20 * (lw - lM) ∧ YQ tM) ∧ (lM ≤ lw - 1 ∧ (lw ≤ 1 → lM = lw - 1) ∧ (1 ≤ lw → -3 * (lw - 1) ≤ lM)) ∧ (a111 ≤ aM ∧ aM ≤ a111 + 100 * (lw - lM)) := hp 6 (by decide) rfl
    have p7 : (r113 7) = .agg ⟨cs111 ++ ((cll (r113 6)))⟩ := hp 7 (by decide) rfl
    obtain ⟨ρ123, rfl⟩ := Zn (uc (show ρ 190 = .agg ⟨cs111 ++ ((cll (r113 6)))⟩ from (hr 7 _ _ (by decide) rfl rfl rfl).trans p7) un)
    refine JLr (Zq (vs := [.agg ⟨cs111 ++ ((cll (r113 6)))⟩]) [cs111 ++ ((cll (r113 6)))] Tryz.runUnderlying25 el56 rfl rfl (by intro e he; simp only [List.mem_cons, List.not_mem_nil, or_false] at he; subst he; exact (ZR hO111.len p6.2.1)) rfl (by decide) fun b124 k124 ho124 hk124 => Zb ?_)
    exact ⟨.slice (some ⟨b124, 0, none⟩) 1 1, k124, rfl, Sub.refl, ⟨rfl, hk124, ho124⟩⟩
   intro ρ r113 N113 hp hr hr0
   have p6 : (r113 6) = .agg ⟨(cll (r113 6))⟩ ∧ (cll (r113 6)).length = 36 ∧ okc (cll (r113 6)) ∧ ∃ tM kM lM aM sM, (N113 6) = ((BX bM [pp bS 0, iv lM] 162)) ++ (((BX bS [v, iv aM, .int .u64 sM] 123)) ++ kM) ∧ OT tM (cll (r113 6)) kM ∧ (ZM (d + ((binds p111_ : Int))) m 0 tM = 0 ∧ (sizeT tM : Int) ≤ 20 * (lw - lM) ∧ YQ tM) ∧ (lM ≤ lw - 1 ∧ (lw ≤ 1 → lM = lw - 1) ∧ (1 ≤ lw → -3 * (lw - 1) ≤ lM)) ∧ (a111 ≤ aM ∧ aM ≤ a111 + 100 * (lw - lM)) := hp 6 (by decide)
   have p8 : (r113 8) = .slice (some ⟨(Y0 (r113 8)), 0, none⟩) 1 1 ∧ (N113 8) = [(Y0 (r113 8), .cells ⟨List.flatten [cs111 ++ ((cll (r113 6)))]⟩ 56 (0, 0))] ∧ Own 56 71 (.slice (some ⟨(Y0 (r113 8)), 0, none⟩) 1 1) [cs111 ++ ((cll (r113 6)))] (N113 8) := hp 8 (by decide)
   obtain ⟨ρ125, rfl⟩ := Zn (uc (show ρ 3 = pp b1 0 from hr0 3 (by kernel_rfl)) (uc (show ρ 6 = pp b4 0 from hr0 6 (by kernel_rfl)) (uc (show ρ 7 = .func (.func 129) ⟨[]⟩ ⟨[pp b1 0, pp b2 0, pp b3 0]⟩ from hr0 7 (by kernel_rfl)) (uc (show ρ 10 = pp b99 0 from hr0 10 (by kernel_rfl)) (uc (show ρ 175 = iv n100 from hr0 175 (by kernel_rfl)) (uc (show ρ 176 = iv ((j : Int)) from hr0 176 (by kernel_rfl)) (uc (show ρ 184 = w from (hr 1 _ _ (by decide) rfl rfl).trans (hp 1 (by decide))) (uc (show ρ 191 = .slice (some ⟨(Y0 (r113 8)), 0, none⟩) 1 1 from (hr 8 _ _ (by decide) rfl rfl).trans p8.1) un))))))))
   have p113_6 := p6; have p113_8 := p8
   clear hp hr hr0 p6 p8
   refine Zw (M' := [(N113 0), (N113 1), (N113 2), (N113 3), (N113 4), (N113 5), [], (N113 7), (N113 8), (N113 6), (BX b112 cs111 54), k111, (BX b99 (pkT 9 0 zS sv98 w) 27), k1, k2, k98, k97, (BX b4 (pkT 0 0 zS nS nS) 27), (BX b3 [iv m] 3), (BX b2 [iv d] 3), (BX b1 [pp bM 0] 160)]) Sub.refl ?_
   obtain ⟨tM113_6, kM113_6, lM113_6, aM113_6, sM113_6, hNM113_6, hOM113_6, ⟨hnM113_6, hzM113_6, hwM113_6⟩, hlM113_6, haM113_6⟩ := p113_6.2.2.2
   refine Zw (M' := [(N113 8), ((BX bM [pp bS 0, iv lM113_6] 162)) ++ (((BX bS [v, iv aM113_6, .int .u64 sM113_6] 123)) ++ kM113_6), (BX b112 cs111 54), k111, (BX b99 (pkT 9 0 zS sv98 w) 27), k1, k2, k98, k97, (BX b4 (pkT 0 0 zS nS nS) 27), (BX b3 [iv m] 3), (BX b2 [iv d] 3), (BX b1 [pp bM 0] 160)]) (Sd (Sd (Sd (Sd (Sd (Sd (Sd (Sd (Sk (Se hNM113_6 (Sk (Sk (Sk (Sk (Sk (Sk (Sk (Sk (Sk (Sk (Sk Sub.nil))))))))))))))))))))) <| Zw (M' := [(N113 8), (BX bM [pp bS 0, iv lM113_6] 162), (BX bS [v, iv aM113_6, .int .u64 sM113_6] 123), kM113_6, (BX b112 cs111 54), k111, (BX b99 (pkT 9 0 zS sv98 w) 27), k1, k2, k98, k97, (BX b4 (pkT 0 0 zS nS nS) 27), (BX b3 [iv m] 3), (BX b2 [iv d] 3), (BX b1 [pp bM 0] 160)]) (Sub.flat Sub.refl (by simp)) ?_
   show JL _ _ _ [_, _, _] _ _ _
   have hlens126 : ∀ e ∈ ([cs111 ++ ((cll (r113 6)))] : List (List Value)), List.length e = 71 := by
    intro e he; simp only [List.mem_cons, List.not_mem_nil, or_false] at he
    rcases he with rfl
    ·exact (ZR hO111.len p113_6.2.1)
   have hoks126 : ∀ e ∈ ([cs111 ++ ((cll (r113 6)))] : List (List Value)), okc e := by
    intro e he; simp only [List.mem_cons, List.not_mem_nil, or_false] at he
    rcases he with rfl
    ·exact (Z2 hO111.ok p113_6.2.2.1)
   refine JLr (ZJ (i := 7) (n := 1) (es' := [cs111 ++ ((cll (r113 6)))]) Tryz.runUnderlying25 Tryz.runUnderlying25 (Or.inl rfl) el56 rfl rfl rfl how (fun F w m => Src.row (((At.k 0 rfl (by rw [p113_8.2.1]; exact List.mem_cons_self))).heap m) (Zu (Zx hlens126))) rfl hlens126 hoks126 (by decide) (by omega) fun v126 k126 ho126 => JLq (pp b99 35) (Yw rfl rfl) <| JLr (Zd 6 (vs := [v126]) (l := pkT 9 0 zS sv98 v126) ty25 rfl rfl rfl (ZE ho126.one) rfl (Zj ho126.one Zt) (pkT_s35 ..) <| Zb <| Za <| JLn (Pu.inc rfl rfl (by omega)) <| JLM rfl <| Zb <| ⟨_, ?_, (j + 1), (cs5 ++ [(p111_, tM113_6)]), v126, (es ++ [cs111 ++ ((cll (r113 6)))]), k126, (k2 ++ (k111 ++ kM113_6)), lM113_6, aM113_6, sM113_6, rfl, rfl, rfl, rfl, rfl, rfl, (Sd (Sub.cons 5 rfl (Sub.cons 5 rfl (Sub.join3 (Sub.cons 5 rfl (Sub.cons 4 rfl (Sub.cons 2 rfl (Sk (Sk (Sd (Sk (Sk (Sk (Sk (Sk (Sk Sub.nil)))))))))))))))), ?_, ?_, ?_, ?_, ?_, ?_, ?_, ?_, ?_, ?_, rfl⟩))
   ·omega
   ·omega
   ·exact ho126
   ·exact OCs.snoc hO111 hOM113_6 hopw
   ·simp; omega
   ·exact pErrRC_snoc hpe hg111.1
   ·exact nErrC_mat hpc hnM113_6
   ·have := hg111.2.1; rw [sizeCs_snoc]; simp [pz] at this; omega
   ·rw [lowCs_app]; exact ⟨hpw, hg111.2.2, hwM113_6, trivial⟩
   ·omega
   omega
  replace h110 := df h110
  refine ZB _ rfl <| Zc <| Za <| JLr (Zi Zs rfl (At.bx 0 rfl) (ZY ..) <| JLr (Zd 7 (vs := pkT 9 0 zS sv98 w) (l := pkT 9 0 zS sv98 w) Zs rfl rfl rfl rfl rfl (Zz ho98.one how.one) (Z4 ..) <| Zb <| Zl <| ⟨.agg ⟨pkT 9 0 zS sv98 w⟩, [((BX bM [pp bS 0, iv lw] 162)) ++ ((BX bS [v, iv aw, .int .u64 sw] 123)), k98 ++ (k97 ++ (k1 ++ k2))], Ret.one rfl (RV.cell Zs rfl (At.bx 7 rfl) (ZY ..)), (Sub.join (Sd (Sub.cons 2 rfl (Sub.cons 2 rfl (Sub.join4 (Sub.cons 2 rfl (Sub.cons 2 rfl (Sk (Sk Sub.nil))))))))), ?_⟩))
  exact ⟨.mk 9 0 zS [t97] cs5, _, _, _, _, _, rfl, rfl, OT_mk.2 ⟨_, w, _, es, _, _, k1, k2, rfl, (by unfold inI; omega), (by unfold inI; omega), ho98, OTs1 hO97, how, hopw, rfl, by simp, by omega⟩, ⟨nErr_mat (by omega) (by simpa using hn97) hpe hpc, by simp only [eVa, eNu, sizeT, sizeTs, sizeCs]; omega, by simp only [YQ, lowTs]; exact ⟨lowS_z, ⟨hw97, trivial⟩, hpw⟩⟩, by omega, by omega⟩
 replace h96 := df h96
 refine Zm <| Zc <| J_drawM mixed #[0, 1, 3, 7, 15, 0, 32, 96, 224, 511, 1023, 0, 4095] 12 0 [4, 9] rfl (by kernel_rfl) (by decide) rfl (by kernel_rfl) (fun i r127 N127 => match i with | 0 => (r127 0) = pp bM 0 | 1 => (r127 1) = pp bM 0 | 2 => (r127 2) = pp bM 0 | 3 => (r127 3) = pp bS 0 | 4 => (r127 4) = .agg ⟨sC ((sml (r127 4)))⟩ ∧ (N127 4) = (BX bS [v, iv ((sth (N127 4) 1)), .int .u64 ((sth (N127 4) 2))] 123) ∧ lowS (sml (r127 4)) ∧ (aj ≤ sth (N127 4) 1 ∧ sth (N127 4) 1 ≤ aj + 1) | 5 => (r127 5) = pp bM 0 | 6 => (r127 6) = pp bM 0 | 7 => (r127 7) = pp bM 0 | 8 => (r127 8) = pp bS 0 | 9 => (r127 9) = iv ((ivl (r127 9))) ∧ (N127 9) = (BX bS [v, iv ((sth (N127 9) 1)), .int .u64 ((sth (N127 9) 2))] 123) ∧ (0 ≤ (ivl (r127 9)) ∧ ((0 : Int) < 3 → (ivl (r127 9)) < 3) ∧ ((3 : Int) ≤ 0 → (ivl (r127 9)) = 0)) ∧ ((sth (N127 4) 1) ≤ sth (N127 9) 1 ∧ sth (N127 9) 1 ≤ (sth (N127 4) 1) + 1) | 10 => (r127 10) = .agg ⟨pkT 8 ((ivl (r127 9))) ((sml (r127 4))) nS nS⟩ | 11 => (r127 11) = pp (pblk (r127 11)) 0 ∧ (N127 11) = (BX (pblk (r127 11)) (pkT 0 0 zS nS nS) 27) | _ => True) ⟨?_, ?_, ?_, ?_, ?_, ?_, ?_, ?_, ?_, ?_, ?_, ?_, trivial⟩ ?_
 ·intro ρ r127 N127 B hB hBa hBb hp hr hr0
  obtain ⟨ρ128, rfl⟩ := Zn (uc (show ρ 3 = pp b1 0 from hr0 3 (by kernel_rfl)) un)
  refine JLr (Ze YZ rfl (At.bx 16 (Ye ((hB 4 (by decide)).trans rfl))) rfl <| Zb ?_)
  exact ⟨pp bM 0, [], rfl, (Sub.emp Sub.refl), rfl⟩
 ·intro ρ r127 N127 B hB hBa hBb hp hr hr0
  have p0 : (r127 0) = pp bM 0 := hp 0 (by decide) rfl
  obtain ⟨ρ129, rfl⟩ := Zn (uc (show ρ 196 = pp bM 0 from (hr 0 _ _ (by decide) rfl rfl rfl).trans p0) un)
  refine JLq (pp bM 0) (Pu.nilCheck rfl) <| Zb ?_
  exact ⟨pp bM 0, [], rfl, (Sub.emp Sub.refl), rfl⟩
 ·intro ρ r127 N127 B hB hBa hBb hp hr hr0
  have p1 : (r127 1) = pp bM 0 := hp 1 (by decide) rfl
  obtain ⟨ρ130, rfl⟩ := Zn (uc (show ρ 197 = pp bM 0 from (hr 1 _ _ (by decide) rfl rfl rfl).trans p1) un)
  refine JLq (pp bM 0) (Yl rfl rfl) <| Zb ?_
  exact ⟨pp bM 0, [], rfl, (Sub.emp Sub.refl), rfl⟩
 ·intro ρ r127 N127 B hB hBa hBb hp hr hr0
  have p2 : (r127 2) = pp bM 0 := hp 2 (by decide) rfl
  obtain ⟨ρ131, rfl⟩ := Zn (uc (show ρ 198 = pp bM 0 from (hr 2 _ _ (by decide) rfl rfl rfl).trans p2) un)
  refine JLr (Ze ty47 rfl (At.bx 17 (Ye ((hB 5 (by decide)).trans rfl))) rfl <| Zb ?_)
  exact ⟨pp bS 0, [], rfl, (Sub.emp Sub.refl), rfl⟩
 ·intro ρ r127 N127 B hB hBa hBb hp hr hr0
  have p3 : (r127 3) = pp bS 0 := hp 3 (by decide) rfl
  obtain ⟨ρ132, rfl⟩ := Zn (uc (show ρ 199 = pp bS 0 from (hr 3 _ _ (by decide) rfl rfl rfl).trans p3) un)
  have hB2 := hBa rfl
  change B = [(BX bS [v, iv aj, .int .u64 sj] 123), (BX b4 (pkT 0 0 zS nS nS) 27), (BX b3 [iv m] 3), (BX b2 [iv d] 3), (BX b1 [pp bM 0] 160), (BX bM [pp bS 0, iv (L - 1)] 162)] at hB2
  subst hB2
  refine Zw (M' := [(N127 0), (N127 1), (N127 2), (N127 3), [], (N127 5), (N127 6), (N127 7), (N127 8), [], (N127 10), (N127 11), (BX bS [v, iv aj, .int .u64 sj] 123), (BX b4 (pkT 0 0 zS nS nS) 27), (BX b3 [iv m] 3), (BX b2 [iv d] 3), (BX b1 [pp bM 0] 160), (BX bM [pp bS 0, iv (L - 1)] 162)]) Sub.refl <| Zr 12 rfl Tryz.call133 rfl rfl (fun hin => sum_ct _ _ _ _ _ _ (RBs.mono (Hle.hu _ _) hv) (by omega) (by omega) _ _ (by omega) (by omega) (by omega)) rfl ?_
  rintro _ _ ⟨n133, a133, s133, rfl, rfl, hw133, ha133⟩
  refine Zb ?_
  exact ⟨.agg ⟨sC n133⟩, (BX bS [v, iv a133, .int .u64 s133] 123), rfl, (Sub.flat (M' := [(N127 0), (N127 1), (N127 2), (N127 3), [], (N127 5), (N127 6), (N127 7), (N127 8), [], (N127 10), (N127 11), (BX bS [v, iv a133, .int .u64 s133] 123), (BX b4 (pkT 0 0 zS nS nS) 27), (BX b3 [iv m] 3), (BX b2 [iv d] 3), (BX b1 [pp bM 0] 160), (BX bM [pp bS 0, iv (L - 1)] 162)]) (Sub.cons 1 rfl (Sub.cons 1 rfl (Sub.cons 1 rfl (Sub.cons 1 rfl (Sub.emp (Sub.cons 2 rfl (Sub.cons 2 rfl (Sub.cons 2 rfl (Sub.cons 2 rfl (Sub.emp (Sub.cons 3 rfl (Sub.cons 3 rfl (Sk (Sd (Sd (Sk (Sk (Sk (Sk (Sk Sub.nil)))))))))))))))))))) rfl), ⟨sml_eq _, rfl, sml_low hw133, ha133⟩⟩
 ·intro ρ r127 N127 B hB hBa hBb hp hr hr0
  obtain ⟨ρ134, rfl⟩ := Zn (uc (show ρ 3 = pp b1 0 from hr0 3 (by kernel_rfl)) un)
  refine JLr (Ze YZ rfl (At.bx 16 (Ye ((hB 4 (by decide)).trans rfl))) rfl <| Zb ?_)
  exact ⟨pp bM 0, [], rfl, (Sub.emp Sub.refl), rfl⟩
 ·intro ρ r127 N127 B hB hBa hBb hp hr hr0
  have p5 : (r127 5) = pp bM 0 := hp 5 (by decide) rfl
  obtain ⟨ρ135, rfl⟩ := Zn (uc (show ρ 201 = pp bM 0 from (hr 5 _ _ (by decide) rfl rfl rfl).trans p5) un)
  refine JLq (pp bM 0) (Pu.nilCheck rfl) <| Zb ?_
  exact ⟨pp bM 0, [], rfl, (Sub.emp Sub.refl), rfl⟩
 ·intro ρ r127 N127 B hB hBa hBb hp hr hr0
  have p6 : (r127 6) = pp bM 0 := hp 6 (by decide) rfl
  obtain ⟨ρ136, rfl⟩ := Zn (uc (show ρ 202 = pp bM 0 from (hr 6 _ _ (by decide) rfl rfl rfl).trans p6) un)
  refine JLq (pp bM 0) (Yl rfl rfl) <| Zb ?_
  exact ⟨pp bM 0, [], rfl, (Sub.emp Sub.refl), rfl⟩
 ·intro ρ r127 N127 B hB hBa hBb hp hr hr0
  have p7 : (r127 7) = pp bM 0 := hp 7 (by decide) rfl
  obtain ⟨ρ137, rfl⟩ := Zn (uc (show ρ 203 = pp bM 0 from (hr 7 _ _ (by decide) rfl rfl rfl).trans p7) un)
  refine JLr (Ze ty47 rfl (At.bx 17 (Ye ((hB 5 (by decide)).trans rfl))) rfl <| Zb ?_)
  exact ⟨pp bS 0, [], rfl, (Sub.emp Sub.refl), rfl⟩
 ·intro ρ r127 N127 B hB hBa hBb hp hr hr0
  have p4 : (r127 4) = .agg ⟨sC ((sml (r127 4)))⟩ ∧ (N127 4) = (BX bS [v, iv ((sth (N127 4) 1)), .int .u64 ((sth (N127 4) 2))] 123) ∧ lowS (sml (r127 4)) ∧ (aj ≤ sth (N127 4) 1 ∧ sth (N127 4) 1 ≤ aj + 1) := hp 4 (by decide) rfl
  have p8 : (r127 8) = pp bS 0 := hp 8 (by decide) rfl
  obtain ⟨ρ138, rfl⟩ := Zn (uc (show ρ 204 = pp bS 0 from (hr 8 _ _ (by decide) rfl rfl rfl).trans p8) un)
  have hB2 := hBa rfl
  change B = [(N127 4), (BX b4 (pkT 0 0 zS nS nS) 27), (BX b3 [iv m] 3), (BX b2 [iv d] 3), (BX b1 [pp bM 0] 160), (BX bM [pp bS 0, iv (L - 1)] 162)] at hB2
  subst hB2
  refine Zw (M' := [(N127 0), (N127 1), (N127 2), (N127 3), [], (N127 5), (N127 6), (N127 7), (N127 8), [], (N127 10), (N127 11), (N127 4), (BX b4 (pkT 0 0 zS nS nS) 27), (BX b3 [iv m] 3), (BX b2 [iv d] 3), (BX b1 [pp bM 0] 160), (BX bM [pp bS 0, iv (L - 1)] 162)]) Sub.refl <| Zw (M' := [(N127 0), (N127 1), (N127 2), (N127 3), [], (N127 5), (N127 6), (N127 7), (N127 8), [], (N127 10), (N127 11), (BX bS [v, iv ((sth (N127 4) 1)), .int .u64 ((sth (N127 4) 2))] 123), (BX b4 (pkT 0 0 zS nS nS) 27), (BX b3 [iv m] 3), (BX b2 [iv d] 3), (BX b1 [pp bM 0] 160), (BX bM [pp bS 0, iv (L - 1)] 162)]) (Sk (Sk (Sk (Sk (Sub.emp (Sd (Sk (Sk (Sk (Sk (Sub.emp (Sd (Sk (Sk (Se p4.2.1 (Sk (Sk (Sk (Sk (Sk Sub.nil)))))))))))))))))))) <| Zr 12 rfl Tryz.call130 rfl rfl (fun hin => Yu _ _ _ _ _ _ (RBs.mono (Hle.hu _ _) hv) (by omega) (by omega) _) rfl ?_
  rintro _ _ ⟨n139, a139, s139, rfl, rfl, hn139, ha139⟩
  refine Zb ?_
  exact ⟨iv n139, (BX bS [v, iv a139, .int .u64 s139] 123), rfl, (Sub.flat (M' := [(N127 0), (N127 1), (N127 2), (N127 3), [], (N127 5), (N127 6), (N127 7), (N127 8), [], (N127 10), (N127 11), (BX bS [v, iv a139, .int .u64 s139] 123), (BX b4 (pkT 0 0 zS nS nS) 27), (BX b3 [iv m] 3), (BX b2 [iv d] 3), (BX b1 [pp bM 0] 160), (BX bM [pp bS 0, iv (L - 1)] 162)]) (Sub.cons 1 rfl (Sub.cons 1 rfl (Sub.cons 1 rfl (Sub.cons 1 rfl (Sub.emp (Sub.cons 2 rfl (Sub.cons 2 rfl (Sub.cons 2 rfl (Sub.cons 2 rfl (Sub.emp (Sub.cons 3 rfl (Sub.cons 3 rfl (Sk (Sd (Sd (Sk (Sk (Sk (Sk (Sk Sub.nil)))))))))))))))))))) rfl), ⟨rfl, rfl, hn139, ha139⟩⟩
 ·intro ρ r127 N127 B hB hBa hBb hp hr hr0
  have p4 : (r127 4) = .agg ⟨sC ((sml (r127 4)))⟩ ∧ (N127 4) = (BX bS [v, iv ((sth (N127 4) 1)), .int .u64 ((sth (N127 4) 2))] 123) ∧ lowS (sml (r127 4)) ∧ (aj ≤ sth (N127 4) 1 ∧ sth (N127 4) 1 ≤ aj + 1) := hp 4 (by decide) rfl
  have p9 : (r127 9) = iv ((ivl (r127 9))) ∧ (N127 9) = (BX bS [v, iv ((sth (N127 9) 1)), .int .u64 ((sth (N127 9) 2))] 123) ∧ (0 ≤ (ivl (r127 9)) ∧ ((0 : Int) < 3 → (ivl (r127 9)) < 3) ∧ ((3 : Int) ≤ 0 → (ivl (r127 9)) = 0)) ∧ ((sth (N127 4) 1) ≤ sth (N127 9) 1 ∧ sth (N127 9) 1 ≤ (sth (N127 4) 1) + 1) := hp 9 (by decide) rfl
  obtain ⟨ρ140, rfl⟩ := Zn (uc (show ρ 200 = .agg ⟨sC ((sml (r127 4)))⟩ from (hr 4 _ _ (by decide) rfl rfl rfl).trans p4.1) (uc (show ρ 205 = iv ((ivl (r127 9))) from (hr 9 _ _ (by decide) rfl rfl rfl).trans p9.1) un))
  refine Jc Tryz.call141 rfl (fun hin => co_ct _ _ none 0 0 _) rfl ?_
  rintro _ _ ⟨rfl, rfl⟩
  refine Zb ?_
  exact ⟨.agg ⟨pkT 8 ((ivl (r127 9))) ((sml (r127 4))) nS nS⟩, [], rfl, (Sub.emp Sub.refl), rfl⟩
 ·intro ρ r127 N127 B hB hBa hBb hp hr hr0
  refine JLr (Zh (l := pkT 0 0 zS nS nS) Tryz.zeroValue27 rfl fun b141 => Zb ?_)
  exact ⟨pp b141 0, (BX b141 (pkT 0 0 zS nS nS) 27), rfl, Sub.refl, ⟨rfl, rfl⟩⟩
 intro ρ r127 N127 hp hr hr0
 have p4 : (r127 4) = .agg ⟨sC ((sml (r127 4)))⟩ ∧ (N127 4) = (BX bS [v, iv ((sth (N127 4) 1)), .int .u64 ((sth (N127 4) 2))] 123) ∧ lowS (sml (r127 4)) ∧ (aj ≤ sth (N127 4) 1 ∧ sth (N127 4) 1 ≤ aj + 1) := hp 4 (by decide)
 have p9 : (r127 9) = iv ((ivl (r127 9))) ∧ (N127 9) = (BX bS [v, iv ((sth (N127 9) 1)), .int .u64 ((sth (N127 9) 2))] 123) ∧ (0 ≤ (ivl (r127 9)) ∧ ((0 : Int) < 3 → (ivl (r127 9)) < 3) ∧ ((3 : Int) ≤ 0 → (ivl (r127 9)) = 0)) ∧ ((sth (N127 4) 1) ≤ sth (N127 9) 1 ∧ sth (N127 9) 1 ≤ (sth (N127 4) 1) + 1) := hp 9 (by decide)
 have p11 : (r127 11) = pp (pblk (r127 11)) 0 ∧ (N127 11) = (BX (pblk (r127 11)) (pkT 0 0 zS nS nS) 27) := hp 11 (by decide)
 obtain ⟨ρ142, rfl⟩ := Zn (uc (show ρ 3 = pp b1 0 from hr0 3 (by kernel_rfl)) (uc (show ρ 6 = pp b4 0 from hr0 6 (by kernel_rfl)) (uc (show ρ 7 = .func (.func 129) ⟨[]⟩ ⟨[pp b1 0, pp b2 0, pp b3 0]⟩ from hr0 7 (by kernel_rfl)) (uc (show ρ 12 = pp (pblk (r127 11)) 0 from (hr 11 _ _ (by decide) rfl rfl).trans p11.1) (uc (show ρ 206 = .agg ⟨pkT 8 ((ivl (r127 9))) ((sml (r127 4))) nS nS⟩ from (hr 10 _ _ (by decide) rfl rfl).trans (hp 10 (by decide))) un)))))
 have p127_4 := p4; have p127_9 := p9; have p127_11 := p11
 clear hp hr hr0 p4 p9 p11
 refine Zw (M' := [(N127 0), (N127 1), (N127 2), (N127 3), [], (N127 5), (N127 6), (N127 7), (N127 8), [], (N127 10), (N127 11), (N127 9), (BX b4 (pkT 0 0 zS nS nS) 27), (BX b3 [iv m] 3), (BX b2 [iv d] 3), (BX b1 [pp bM 0] 160), (BX bM [pp bS 0, iv (L - 1)] 162)]) Sub.refl <| Zw (M' := [(BX (pblk (r127 11)) (pkT 0 0 zS nS nS) 27), (BX bS [v, iv ((sth (N127 9) 1)), .int .u64 ((sth (N127 9) 2))] 123), (BX b4 (pkT 0 0 zS nS nS) 27), (BX b3 [iv m] 3), (BX b2 [iv d] 3), (BX b1 [pp bM 0] 160), (BX bM [pp bS 0, iv (L - 1)] 162)]) (Sd (Sd (Sd (Sd (Sd (Sd (Sd (Sd (Sd (Sd (Sd (Se p127_11.2 (Se p127_9.2.1 (Sk (Sk (Sk (Sk (Sk Sub.nil)))))))))))))))))) <| Zw (M' := [(BX (pblk (r127 11)) (pkT 0 0 zS nS nS) 27), (BX bS [v, iv ((sth (N127 9) 1)), .int .u64 ((sth (N127 9) 2))] 123), (BX b4 (pkT 0 0 zS nS nS) 27), (BX b3 [iv m] 3), (BX b2 [iv d] 3), (BX b1 [pp bM 0] 160), (BX bM [pp bS 0, iv (L - 1)] 162)]) (Sub.flat Sub.refl (by simp)) ?_
 show JL _ _ _ [_] _ _ _
 refine JLr (Zd 0 (vs := pkT 8 ((ivl (r127 9))) ((sml (r127 4))) nS nS) (l := pkT 8 ((ivl (r127 9))) ((sml (r127 4))) nS nS) Zs rfl rfl rfl rfl rfl (Zz rfl rfl) (Z4 ..) <| Zb <| Zc <| Zc <| Za <| JLr (Ze YZ rfl (At.bx 5 rfl) rfl <| JLq (pp bM 0) (Pu.nilCheck rfl) <| JLq (pp bM 0) (Yl rfl rfl) <| JLr (Ze ty47 rfl (At.bx 6 rfl) rfl <| Zr 1 rfl Tryz.call130 rfl rfl (fun hin => Yu _ _ _ _ _ _ (RBs.mono (Hle.hu _ _) hv) (by omega) (by omega) _) rfl ?_)))
 rintro _ _ ⟨n143, a143, s143, rfl, rfl, hn143, ha143⟩
 refine JLM rfl <| Zb <| Zo <| ZT (fun k ρ M => ∃ (j : Nat) (ts : List Tm) (w : Value) (es : List (List Value)) (k1 k2 : Zf) (lw aw sw : Int), ρ 6 = pp b4 0 ∧ ρ 7 = .func (.func 129) ⟨[]⟩ ⟨[pp b1 0, pp b2 0, pp b3 0]⟩ ∧ ρ 12 = pp (pblk (r127 11)) 0 ∧ ρ 211 = iv n143 ∧ ρ 212 = iv ((j : Int)) ∧ Sub [(BX (pblk (r127 11)) (pkT 8 ((ivl (r127 9))) ((sml (r127 4))) w nS) 27), k1, k2, (BX bM [pp bS 0, iv lw] 162), (BX bS [v, iv aw, .int .u64 sw] 123), (BX b4 (pkT 0 0 zS nS nS) 27), (BX b3 [iv m] 3), (BX b2 [iv d] 3), (BX b1 [pp bM 0] 160)] M ∧ (j : Int) ≤ n143 ∧ Own 27 36 w es k1 ∧ OTs ts es k2 ∧ ts.length = j ∧ Z0 d m 0 8 0 ts = 0 ∧ (sizeTs ts : Int) ≤ 20 * (L - 1 - lw) ∧ lowTs ts ∧ (lw ≤ L - 1 ∧ -3 * (L - 2) - ((j : Int) + -1) ≤ lw) ∧ (a ≤ aw ∧ aw ≤ a + 100 * (L - 1 - lw) + 10) ∧ k = n143.toNat - j) _ ⟨0, [], nS, ([]), ([]), ([]), (L - 1), a143, s143, rfl, rfl, rfl, rfl, rfl, (Sub.cons 1 rfl (Sub.emp (Sub.emp (Sub.cons 5 rfl (Sk (Sk (Sk (Sk (Sk Sub.nil))))))))), (by omega), Own.nil, OTs.nil, rfl, (by simp [Z0]), (by simp only [sizeTs]; omega), trivial, (by omega), (by omega), rfl⟩ ?_
 rintro _ ρ144 _ ⟨j, ts, w, es, k1, k2, lw, aw, sw, e145, e146, e147, e148, e149, hm150, hj, how, hopw, hpl, hpe, hps, hpw, hpb, hpa, rfl⟩
 obtain ⟨ρ151, rfl⟩ := Zn (uc e145 (uc e146 (uc e147 (uc e148 (uc e149 un)))))
 clear e145 e146 e147 e148 e149
 refine ZS hm150 <| Zc <| Za <| JLn (Pu.lss rfl rfl) <| Zb <| Zc <| Zg rfl (fun h152 => ?_) (fun h152 => ?_)
 ·replace h152 := dt h152
  have helw := OTs_len hopw
  refine Zm <| Zc <| Zo <| ZS (Sub.join (Sub.cons 3 rfl (Sub.cons 3 rfl (Sk (Sk (Sk (Sk (Sk (Sk (Sk Sub.nil)))))))))) <| J_drawM mixed #[0, 1, 0, 4, 12, 31, 63, 127] 5 0 [3] rfl (by kernel_rfl) (by decide) rfl (by kernel_rfl) (fun i r153 N153 => match i with | 0 => (r153 0) = pp (pblk (r127 11)) 34 | 1 => (r153 1) = w | 2 => (r153 2) = .func (.func 129) ⟨[]⟩ ⟨[pp b1 0, pp b2 0, pp b3 0]⟩ | 3 => (r153 3) = .agg ⟨(cll (r153 3))⟩ ∧ (cll (r153 3)).length = 36 ∧ okc (cll (r153 3)) ∧ ∃ tM kM lM aM sM, (N153 3) = ((BX bM [pp bS 0, iv lM] 162)) ++ (((BX bS [v, iv aM, .int .u64 sM] 123)) ++ kM) ∧ OT tM (cll (r153 3)) kM ∧ (ZM (d + 0) m 0 tM = 0 ∧ (sizeT tM : Int) ≤ 20 * (lw - lM) ∧ YQ tM) ∧ (lM ≤ lw - 1 ∧ (lw ≤ 1 → lM = lw - 1) ∧ (1 ≤ lw → -3 * (lw - 1) ≤ lM)) ∧ (aw ≤ aM ∧ aM ≤ aw + 100 * (lw - lM)) | 4 => (r153 4) = .slice (some ⟨(Y0 (r153 4)), 0, none⟩) 1 1 ∧ (N153 4) = [(Y0 (r153 4), .cells ⟨List.flatten [(cll (r153 3))]⟩ 27 (0, 0))] ∧ Own 27 36 (.slice (some ⟨(Y0 (r153 4)), 0, none⟩) 1 1) [(cll (r153 3))] (N153 4) | _ => True) ⟨?_, ?_, ?_, ?_, ?_, trivial⟩ ?_
  ·intro ρ r153 N153 B hB hBa hBb hp hr hr0
   obtain ⟨ρ154, rfl⟩ := Zn (uc (show ρ 12 = pp (pblk (r127 11)) 0 from hr0 12 (by kernel_rfl)) un)
   refine JLq (pp (pblk (r127 11)) 34) (Yb rfl rfl) <| Zb ?_
   exact ⟨pp (pblk (r127 11)) 34, [], rfl, (Sub.emp Sub.refl), rfl⟩
  ·intro ρ r153 N153 B hB hBa hBb hp hr hr0
   have p0 : (r153 0) = pp (pblk (r127 11)) 34 := hp 0 (by decide) rfl
   obtain ⟨ρ155, rfl⟩ := Zn (uc (show ρ 214 = pp (pblk (r127 11)) 34 from (hr 0 _ _ (by decide) rfl rfl rfl).trans p0) un)
   refine JLr (Ze ty24 rfl (At.bx 6 (Ye ((hB 1 (by decide)).trans rfl))) (Z9 ..) <| Zb ?_)
   exact ⟨w, [], rfl, (Sub.emp Sub.refl), rfl⟩
  ·intro ρ r153 N153 B hB hBa hBb hp hr hr0
   obtain ⟨ρ156, rfl⟩ := Zn (uc (show ρ 7 = .func (.func 129) ⟨[]⟩ ⟨[pp b1 0, pp b2 0, pp b3 0]⟩ from hr0 7 (by kernel_rfl)) un)
   refine JLM rfl <| Zb ?_
   exact ⟨.func (.func 129) ⟨[]⟩ ⟨[pp b1 0, pp b2 0, pp b3 0]⟩, [], rfl, (Sub.emp Sub.refl), rfl⟩
  ·intro ρ r153 N153 B hB hBa hBb hp hr hr0
   have p2 : (r153 2) = .func (.func 129) ⟨[]⟩ ⟨[pp b1 0, pp b2 0, pp b3 0]⟩ := hp 2 (by decide) rfl
   obtain ⟨ρ157, rfl⟩ := Zn (uc (show ρ 216 = .func (.func 129) ⟨[]⟩ ⟨[pp b1 0, pp b2 0, pp b3 0]⟩ from (hr 2 _ _ (by decide) rfl rfl rfl).trans p2) un)
   have hB2 := hBa rfl
   change B = [((BX bM [pp bS 0, iv lw] 162)) ++ ((BX bS [v, iv aw, .int .u64 sw] 123)), (BX (pblk (r127 11)) (pkT 8 ((ivl (r127 9))) ((sml (r127 4))) w nS) 27), k1, k2, (BX b4 (pkT 0 0 zS nS nS) 27), (BX b3 [iv m] 3), (BX b2 [iv d] 3), (BX b1 [pp bM 0] 160)] at hB2
   subst hB2
   refine Zw (M' := [(N153 0), (N153 1), (N153 2), [], (N153 4), ((BX bM [pp bS 0, iv lw] 162)) ++ ((BX bS [v, iv aw, .int .u64 sw] 123)), (BX (pblk (r127 11)) (pkT 8 ((ivl (r127 9))) ((sml (r127 4))) w nS) 27), k1, k2, (BX b4 (pkT 0 0 zS nS nS) 27), (BX b3 [iv m] 3), (BX b2 [iv d] 3), (BX b1 [pp bM 0] 160)]) Sub.refl <| Zr 5 rfl Tryz.call129 rfl rfl (fun hin => YP _ _ _ _ _ _ _ _ _ _ _ _ _ _ (RBs.mono (Hle.hu _ _) hv) (hin 11 _ rfl _ _ List.mem_cons_self) (hin 10 _ rfl _ _ List.mem_cons_self) (hin 9 _ rfl _ _ List.mem_cons_self) (by omega) (by omega) (by omega) (by omega) (fun h hh => ih _ (by omega) _ _ _ _ _ _ _ _ _ _ rfl (RBs.mono hh (RBs.mono (Hle.hu _ _) hv)) (by omega) (by omega) (by omega) (by omega) (by omega) (by omega) (by omega) (by omega))) rfl ?_
   rintro _ _ ⟨t158, cs158, k158, l158, a158, s158, rfl, rfl, hO158, ⟨hn158, hz158, hw158⟩, hl158, ha158⟩
   refine Zw (M' := [(BX bM [pp bS 0, iv l158] 162), (BX bS [v, iv a158, .int .u64 s158] 123), k158, (N153 0), (N153 1), (N153 2), [], (N153 4), (BX (pblk (r127 11)) (pkT 8 ((ivl (r127 9))) ((sml (r127 4))) w nS) 27), k1, k2, (BX b4 (pkT 0 0 zS nS nS) 27), (BX b3 [iv m] 3), (BX b2 [iv d] 3), (BX b1 [pp bM 0] 160)]) (Sub.flat Sub.refl (by simp)) <| Zb ?_
   exact ⟨.agg ⟨cs158⟩, ((BX bM [pp bS 0, iv l158] 162)) ++ (((BX bS [v, iv a158, .int .u64 s158] 123)) ++ k158), rfl, (Sub.flat (M' := [(N153 0), (N153 1), (N153 2), [], (N153 4), ((BX bM [pp bS 0, iv l158] 162)) ++ (((BX bS [v, iv a158, .int .u64 s158] 123)) ++ k158), (BX (pblk (r127 11)) (pkT 8 ((ivl (r127 9))) ((sml (r127 4))) w nS) 27), k1, k2, (BX b4 (pkT 0 0 zS nS nS) 27), (BX b3 [iv m] 3), (BX b2 [iv d] 3), (BX b1 [pp bM 0] 160)]) (Sub.cons 3 rfl (Sub.cons 3 rfl (Sub.cons 3 rfl (Sub.emp (Sub.cons 4 rfl (Sub.join3 (Sk (Sk (Sk (Sd (Sk (Sk (Sk (Sk (Sk (Sk (Sk Sub.nil))))))))))))))))) rfl), ⟨rfl, hO158.len, hO158.ok, t158, k158, l158, a158, s158, rfl, hO158, ⟨hn158, hz158, hw158⟩, hl158, ha158⟩⟩
  ·intro ρ r153 N153 B hB hBa hBb hp hr hr0
   have p3 : (r153 3) = .agg ⟨(cll (r153 3))⟩ ∧ (cll (r153 3)).length = 36 ∧ okc (cll (r153 3)) ∧ ∃ tM kM lM aM sM, (N153 3) = ((BX bM [pp bS 0, iv lM] 162)) ++ (((BX bS [v, iv aM, .int .u64 sM] 123)) ++ kM) ∧ OT tM (cll (r153 3)) kM ∧ (ZM (d + 0) m 0 tM = 0 ∧ (sizeT tM : Int) ≤ 20 * (lw - lM) ∧ YQ tM) ∧ (lM ≤ lw - 1 ∧ (lw ≤ 1 → lM = lw - 1) ∧ (1 ≤ lw → -3 * (lw - 1) ≤ lM)) ∧ (aw ≤ aM ∧ aM ≤ aw + 100 * (lw - lM)) := hp 3 (by decide) rfl
   obtain ⟨ρ159, rfl⟩ := Zn (uc (show ρ 217 = .agg ⟨(cll (r153 3))⟩ from (hr 3 _ _ (by decide) rfl rfl rfl).trans p3.1) un)
   refine JLr (Zq (vs := [.agg ⟨(cll (r153 3))⟩]) [(cll (r153 3))] Tryz.runUnderlying24 el27 rfl rfl (by intro e he; simp only [List.mem_cons, List.not_mem_nil, or_false] at he; subst he; exact p3.2.1) rfl (by decide) fun b160 k160 ho160 hk160 => Zb ?_)
   exact ⟨.slice (some ⟨b160, 0, none⟩) 1 1, k160, rfl, Sub.refl, ⟨rfl, hk160, ho160⟩⟩
  intro ρ r153 N153 hp hr hr0
  have p3 : (r153 3) = .agg ⟨(cll (r153 3))⟩ ∧ (cll (r153 3)).length = 36 ∧ okc (cll (r153 3)) ∧ ∃ tM kM lM aM sM, (N153 3) = ((BX bM [pp bS 0, iv lM] 162)) ++ (((BX bS [v, iv aM, .int .u64 sM] 123)) ++ kM) ∧ OT tM (cll (r153 3)) kM ∧ (ZM (d + 0) m 0 tM = 0 ∧ (sizeT tM : Int) ≤ 20 * (lw - lM) ∧ YQ tM) ∧ (lM ≤ lw - 1 ∧ (lw ≤ 1 → lM = lw - 1) ∧ (1 ≤ lw → -3 * (lw - 1) ≤ lM)) ∧ (aw ≤ aM ∧ aM ≤ aw + 100 * (lw - lM)) := hp 3 (by decide)
  have p4 : (r153 4) = .slice (some ⟨(Y0 (r153 4)), 0, none⟩) 1 1 ∧ (N153 4) = [(Y0 (r153 4), .cells ⟨List.flatten [(cll (r153 3))]⟩ 27 (0, 0))] ∧ Own 27 36 (.slice (some ⟨(Y0 (r153 4)), 0, none⟩) 1 1) [(cll (r153 3))] (N153 4) := hp 4 (by decide)
  obtain ⟨ρ161, rfl⟩ := Zn (uc (show ρ 6 = pp b4 0 from hr0 6 (by kernel_rfl)) (uc (show ρ 7 = .func (.func 129) ⟨[]⟩ ⟨[pp b1 0, pp b2 0, pp b3 0]⟩ from hr0 7 (by kernel_rfl)) (uc (show ρ 12 = pp (pblk (r127 11)) 0 from hr0 12 (by kernel_rfl)) (uc (show ρ 211 = iv n143 from hr0 211 (by kernel_rfl)) (uc (show ρ 212 = iv ((j : Int)) from hr0 212 (by kernel_rfl)) (uc (show ρ 215 = w from (hr 1 _ _ (by decide) rfl rfl).trans (hp 1 (by decide))) (uc (show ρ 218 = .slice (some ⟨(Y0 (r153 4)), 0, none⟩) 1 1 from (hr 4 _ _ (by decide) rfl rfl).trans p4.1) un)))))))
  have p153_3 := p3; have p153_4 := p4
  clear hp hr hr0 p3 p4
  refine Zw (M' := [(N153 0), (N153 1), (N153 2), [], (N153 4), (N153 3), (BX (pblk (r127 11)) (pkT 8 ((ivl (r127 9))) ((sml (r127 4))) w nS) 27), k1, k2, (BX b4 (pkT 0 0 zS nS nS) 27), (BX b3 [iv m] 3), (BX b2 [iv d] 3), (BX b1 [pp bM 0] 160)]) Sub.refl ?_
  obtain ⟨tM153_3, kM153_3, lM153_3, aM153_3, sM153_3, hNM153_3, hOM153_3, ⟨hnM153_3, hzM153_3, hwM153_3⟩, hlM153_3, haM153_3⟩ := p153_3.2.2.2
  refine Zw (M' := [(N153 4), ((BX bM [pp bS 0, iv lM153_3] 162)) ++ (((BX bS [v, iv aM153_3, .int .u64 sM153_3] 123)) ++ kM153_3), (BX (pblk (r127 11)) (pkT 8 ((ivl (r127 9))) ((sml (r127 4))) w nS) 27), k1, k2, (BX b4 (pkT 0 0 zS nS nS) 27), (BX b3 [iv m] 3), (BX b2 [iv d] 3), (BX b1 [pp bM 0] 160)]) (Sd (Sd (Sd (Sd (Sk (Se hNM153_3 (Sk (Sk (Sk (Sk (Sk (Sk (Sk Sub.nil))))))))))))) <| Zw (M' := [(N153 4), (BX bM [pp bS 0, iv lM153_3] 162), (BX bS [v, iv aM153_3, .int .u64 sM153_3] 123), kM153_3, (BX (pblk (r127 11)) (pkT 8 ((ivl (r127 9))) ((sml (r127 4))) w nS) 27), k1, k2, (BX b4 (pkT 0 0 zS nS nS) 27), (BX b3 [iv m] 3), (BX b2 [iv d] 3), (BX b1 [pp bM 0] 160)]) (Sub.flat Sub.refl (by simp)) ?_
  show JL _ _ _ [_, _, _] _ _ _
  have hlens162 : ∀ e ∈ ([(cll (r153 3))] : List (List Value)), List.length e = 36 := by
   intro e he; simp only [List.mem_cons, List.not_mem_nil, or_false] at he
   rcases he with rfl
   ·exact p153_3.2.1
  have hoks162 : ∀ e ∈ ([(cll (r153 3))] : List (List Value)), okc e := by
   intro e he; simp only [List.mem_cons, List.not_mem_nil, or_false] at he
   rcases he with rfl
   ·exact p153_3.2.2.1
  refine JLr (ZJ (i := 5) (n := 1) (es' := [(cll (r153 3))]) Tryz.runUnderlying24 Tryz.runUnderlying24 (Or.inl rfl) el27 rfl rfl rfl how (fun F w m => Src.row (((At.k 0 rfl (by rw [p153_4.2.1]; exact List.mem_cons_self))).heap m) (Zu (Zx hlens162))) rfl hlens162 hoks162 (by decide) (by omega) fun v162 k162 ho162 => JLq (pp (pblk (r127 11)) 34) (Yb rfl rfl) <| JLr (Zd 4 (vs := [v162]) (l := pkT 8 ((ivl (r127 9))) ((sml (r127 4))) v162 nS) ty24 rfl rfl rfl (ZE ho162.one) rfl (Zj ho162.one Zt) (pkT_s34 ..) <| Zb <| Za <| JLn (Pu.inc rfl rfl (by omega)) <| JLM rfl <| Zb <| ⟨_, ?_, (j + 1), (ts ++ [tM153_3]), v162, (es ++ [(cll (r153 3))]), k162, (k2 ++ kM153_3), lM153_3, aM153_3, sM153_3, rfl, rfl, rfl, rfl, rfl, (Sd (Sub.cons 3 rfl (Sub.cons 3 rfl (Sub.join (Sub.cons 3 rfl (Sub.cons 2 rfl (Sk (Sk (Sk (Sk (Sk (Sk Sub.nil)))))))))))), ?_, ?_, ?_, ?_, ?_, ?_, ?_, ?_, ?_, rfl⟩))
  ·omega
  ·omega
  ·exact ho162
  ·exact OTs.snoc hOM153_3 hopw
  ·simp; omega
  ·exact nErrK_con hpe (by simpa using hnM153_3)
  ·rw [sizeTs_snoc]; omega
  ·rw [lowTs_app]; exact ⟨hpw, hwM153_3, trivial⟩
  ·omega
  omega
 replace h152 := df h152
 refine ZB _ rfl <| Zc <| Za <| JLr (Zi Zs rfl (At.bx 0 rfl) (ZY ..) <| JLr (Zd 5 (vs := pkT 8 ((ivl (r127 9))) ((sml (r127 4))) w nS) (l := pkT 8 ((ivl (r127 9))) ((sml (r127 4))) w nS) Zs rfl rfl rfl rfl rfl (Zz how.one rfl) (Z4 ..) <| Zb <| Zl <| ⟨.agg ⟨pkT 8 ((ivl (r127 9))) ((sml (r127 4))) w nS⟩, [((BX bM [pp bS 0, iv lw] 162)) ++ ((BX bS [v, iv aw, .int .u64 sw] 123)), k1 ++ k2], Ret.one rfl (RV.cell Zs rfl (At.bx 5 rfl) (ZY ..)), (Sub.join (Sd (Sub.cons 2 rfl (Sub.cons 2 rfl (Sub.join (Sk (Sk Sub.nil))))))), ?_⟩))
 exact ⟨.mk 8 ((ivl (r127 9))) ((sml (r127 4))) ts [], _, _, _, _, _, rfl, rfl, OT_row (by unfold inI; omega) (by unfold inI; omega) how hopw (by omega), ⟨nErr_con (by omega) (by omega) (by omega) hpe, by simp only [eVa, eNu, sizeT, sizeTs, sizeCs]; omega, by rw [YQ]; exact ⟨p127_4.2.2.1, hpw, trivial⟩⟩, by omega, by omega⟩
end Go.Proofs.YtfdeibbpfgolcaaGreat.Hs
/-! Walks, printed by a program of this session's own (gen.py). -/
namespace Go.Proofs.YtfdeibbpfgolcaaGreat.Hs
open Go Go.Proofs
set_option maxRecDepth 100000
set_option linter.unusedVariables false
set_option linter.unusedSimpArgs false
attribute [local irreducible] JL J CT wlo DT
theorem cloneB_ct (v : Value) (l : List Int) (H : Heap) (hl : Hs.rdS RB 1 H v l) (hz : l.length ≤ 1000000) : CT Tryz.prog 67 ⟨[v]⟩ [] H (fun r N => ∃ k, N = [k] ∧ Own 5 1 r (byts l) k) := by
 refine Zk Tryz.func67 rfl rfl <| Zc <| Za <| JLA rfl <| Zb <| Zc <| Zc <| Za <| JLm v ?_
 obtain ⟨a1, cap1, hv1⟩ := hl.sl
 have hle1 := hl.le
 refine JLq (.bool (a1.isNone)) (Pu.eqlNil Tryz.runUnderlying46 hv1 rfl) <| Zb <| Zg rfl (fun h2 => ?_) (fun h2 => ?_)
 ·refine Zc <| Za <| JLA rfl <| Zb <| Zl <| ⟨nS, [[]], Ret.one rfl (RV.tmp rfl), (Sub.emp Sub.nil), ?_⟩
  obtain rfl : l = [] := rd_none hl hv1 h2
  exact ⟨_, rfl, Own.nil⟩
 refine Zm <| Zc <| Za <| JLr (Zq (vs := []) [] Tryz.runUnderlying46 el5 rfl rfl (by intro e he; cases he) rfl (by decide) fun b3 k3 ho3 hk3 => JLm v <| JLr (ZJ (i := 0) (n := l.length) (es' := byts l) Tryz.runUnderlying46 Tryz.runUnderlying46 (Or.inl rfl) el5 rfl rfl rfl ho3 (fun F w m => byts_src hl w _ m) (byts_len _) (byts_len1 _) (byts_ok _) (by decide) (by simp; omega) fun v4 k4 ho4 => JLa v4 <| Zb <| Zl <| ⟨v4, [k4], Ret.one rfl (RV.tmp rfl), (Sk Sub.nil), ?_⟩))
 exact ⟨_, rfl, ho4⟩
theorem of_ct (v : Value) (l : List Int) (H : Heap) (hb : bytesR H v l) (hv : Hs.rdS RB 1 H v l) : CT Tryz.prog 17 ⟨[v]⟩ [] H (fun r N => ∃ bS u k s l', r = pp bS 0 ∧ N = [(BX bS [u, iv 0, .int .u64 s] 123), k] ∧ u.oneCell' = true ∧ ∀ h, Has k h → Hs.rdS RB 1 h u l') := by
 refine Zk Tryz.func17 rfl rfl <| Zc <| Za <| JLa ((.pointer none)) <| Zb <| Zc <| Za <| JLm v <| JLm v ?_
 obtain ⟨a1, cap1, hv1⟩ := hv.sl
 have hle1 := hv.le
 refine JLn (Pu.lenSl Tryz.runUnderlying46 hv1) <| JLq (iv (((min l.length 300 : Nat) : Int))) (Pu.min2 rfl rfl (by split <;> omega)) <| JLr (Runs_sliceTo (n := min l.length 300) hb (by omega) Tryz.runUnderlying46 Tryz.sizeOf5 rfl rfl fun u2 hu2 => ?_)
 have hr2 := hu2 H hv
 refine Jc Tryz.call67 rfl (fun hin => cloneB_ct _ _ _ (RBs.mono (Hle.hu _ _) hr2) (by rw [List.length_take]; omega)) rfl ?_
 rintro u3 _ ⟨k3, rfl, ho3⟩
 obtain ⟨a4, cap4, hv4⟩ := ho3.sl
 refine JLq (.agg ⟨[u3, iv 0, .int .u64 88172645463325252]⟩) (Pu.build (pv := [(0, u3), (2, .int .u64 88172645463325252)]) (l := [u3, iv 0, .int .u64 88172645463325252]) rfl (bldSt _ hv4)) <| JLr (Zp (l := [u3, iv 0, .int .u64 88172645463325252]) rfl rfl fun b5 => JLA rfl <| Zb <| Zl <| ⟨pp b5 0, [(BX b5 [u3, iv 0, .int .u64 88172645463325252] 123), k3], Ret.one rfl (RV.tmp rfl), (Sk (Sk Sub.nil)), ?_⟩)
 exact ⟨_, _, _, _, l.take (min l.length 300), rfl, rfl, ho3.one, fun h hh => own_byts ho3 (by rw [List.length_take]; omega) hh⟩
end Go.Proofs.YtfdeibbpfgolcaaGreat.Hs
/-! Walks, printed by a program of this session's own (gen.py). -/
namespace Go.Proofs.YtfdeibbpfgolcaaGreat.Hs
open Go Go.Proofs
set_option maxRecDepth 100000
set_option linter.unusedVariables false
set_option linter.unusedSimpArgs false
attribute [local irreducible] JL J CT wlo DT
theorem scopedS_ct (bS : Nat) (v : Value) (l : List Int) (a s : Int) (H : Heap) (hv : Hs.rdS RB 1 H v l) (ha0 : 0 ≤ a) (ha1 : a ≤ 2000000000) (d m z : Int) (hz0 : 1 ≤ z) (hz1 : z ≤ 60) (ha2 : a + 400 * z ≤ 1000000) (hd0 : 0 ≤ d) (hd1 : d + 10 * z ≤ 10000) (hm0 : 0 ≤ m) (hm1 : m ≤ 8) : CT Tryz.prog 68 ⟨[pp bS 0, iv d, iv m, iv z]⟩ [(BX bS [v, iv a, .int .u64 s] 123)] H (fun r N => ∃ t cs k a' s', r = .agg ⟨cs⟩ ∧ N = [(BX bS [v, iv (a'), .int .u64 (s')] 123), k] ∧ OT t cs k ∧ (ZM d m 0 t = 0 ∧ (sizeT t : Int) ≤ 80 * z ∧ YQ t) ∧ (a ≤ a' ∧ a' ≤ a + 400 * z)) := by
 refine Zk Tryz.func68 rfl rfl <| Zc <| Za <| JLr (Zh (l := pkT 0 0 zS nS nS) Tryz.zeroValue27 rfl fun b1 => Zb <| Zc <| Za <| JLM rfl <| JLM rfl <| JLq (.agg ⟨[pp bS 0, iv z]⟩) (Pu.build (pv := [(0, pp bS 0), (1, iv z)]) (l := [pp bS 0, iv z]) rfl (bldMk _ _)) <| JLr (Zp (l := [pp bS 0, iv z]) rfl rfl fun b2 => JLA rfl <| Zb ?_))
 refine Zc <| Za <| JLM rfl <| JLM rfl <| JLM rfl <| Zw (Sub.join (Sk (Sub.cons 1 rfl (Sk Sub.nil)))) <| Zr 0 rfl Tryz.call103 rfl rfl (fun hin => scoped_ct _ _ _ _ _ _ _ _ _ _ _ rfl (RBs.mono (Hle.hu _ _) hv) (by omega) (by omega) (by omega) (by omega) (by omega) (by omega) (by omega) (by omega)) rfl ?_
 rintro _ _ ⟨t3, cs3, k3, l3, a3, s3, rfl, rfl, hO3, ⟨hn3, hz3, hw3⟩, hl3, ha3⟩
 refine Zw (M' := [(BX b2 [pp bS 0, iv l3] 162), (BX bS [v, iv a3, .int .u64 s3] 123), k3, (BX b1 (pkT 0 0 zS nS nS) 27)]) (Sub.flat Sub.refl (by simp)) <| JLr (Zd 3 (vs := cs3) (l := cs3) Zs rfl rfl rfl rfl hO3.len hO3.ok (Zy (n := 36) rfl hO3.len) <| Zb <| Zl <| ⟨.agg ⟨cs3⟩, [(BX bS [v, iv a3, .int .u64 s3] 123), k3], Ret.one rfl (RV.cell Zs rfl (At.bx 3 rfl) (Zu hO3.len)), (Sd (Sk (Sk Sub.nil))), ?_⟩)
 exact ⟨_, _, _, _, _, rfl, rfl, hO3, ⟨hn3, by omega, hw3⟩, by omega⟩
theorem drawn_ct (bS : Nat) (v : Value) (l : List Int) (a s : Int) (H : Heap) (hv : Hs.rdS RB 1 H v l) (ha0 : 0 ≤ a) (ha1 : a ≤ 2000000000) (d z : Int) (hz0 : 1 ≤ z) (hz1 : z ≤ 60) (ha2 : a + 400 * z ≤ 1000000) (hd0 : 0 ≤ d) (hd1 : d + 10 * z ≤ 10000) : CT Tryz.prog 18 ⟨[pp bS 0, iv d, iv z]⟩ [(BX bS [v, iv a, .int .u64 s] 123)] H (fun r N => ∃ t cs k a' s', r = .tuple ⟨[.agg ⟨cs⟩, .bool true]⟩ ∧ N = [(BX bS [v, iv (a'), .int .u64 (s')] 123), k] ∧ OT t cs k ∧ Yf d 2 t = 0 ∧ YQ t ∧ (a ≤ a' ∧ a' ≤ a + 400 * z)) := by
 refine Zk Tryz.func18 rfl rfl <| Zc <| Za <| JLr (Zh (l := pkT 0 0 zS nS nS) Tryz.zeroValue27 rfl fun b1 => JLA rfl <| Zb <| Zc <| Za <| JLM rfl <| JLM rfl <| JLM rfl <| Zr 1 rfl Tryz.call68 rfl rfl (fun hin => scopedS_ct _ _ _ _ _ _ (RBs.mono (Hle.hu _ _) hv) (by omega) (by omega) _ _ _ (by omega) (by omega) (by omega) (by omega) (by omega) (by omega) (by omega)) rfl ?_)
 rintro _ _ ⟨t2, cs2, k2, a2, s2, rfl, rfl, hO2, hg2, ha2⟩
 refine JLr (Zh (l := pkT 0 0 zS nS nS) Tryz.zeroValue27 rfl fun b3 => JLr (Zd 0 (vs := cs2) (l := cs2) Zs rfl rfl rfl rfl hO2.len hO2.ok (Zy (n := 36) rfl hO2.len) <| Zb <| Zc <| Zc <| Za <| JLr (Zi Zs rfl (At.bx 0 rfl) (Zu hO2.len) <| JLM rfl <| Jc Tryz.call42 rfl (fun hin => check_ct _ _ _ _ _ (hO2.rd (hin 2 _ rfl))) rfl ?_)))
 rintro _ _ ⟨rfl, rfl⟩
 refine JLn (Pu.eql rfl rfl) <| Zb <| Zg rfl (fun h4 => ?_) (fun h4 => ?_)
 ·replace h4 := dt h4
  refine Za <| Jc Tryz.call37 rfl (fun hin => nu_ct _ _ (by unfold inI; omega)) rfl ?_
  rintro _ _ ⟨cs5, k5, rfl, rfl, hO5⟩
  refine JLr (Zd 1 (vs := cs5) (l := cs5) Zs rfl rfl rfl rfl hO5.len hO5.ok (Zy (n := 36) hO2.len hO5.len) <| Zb <| Zc <| ZL mixed #[0, 0, 0, 6, 14, 15, 63] 6 [some 18, some 19, some 20, some 21, some 22, none] [(5, 10)] [(3, fun _ _ vw qw => vw = iv (Yc d 2 (eNu 1)) ∧ qw = []), (5, fun _ _ vw qw => vw = undef ∧ qw = [(BX b1 cs5 27)])] rfl (by kernel_rfl) rfl (by kernel_rfl) <| Dl Zs (At.bx 1 rfl) (Zu hO5.len) <| Dl Zs (At.bx 1 rfl) (Zu hO5.len) <| DM (fun _ => rfl) <| Dc rfl Tryz.call42 (fun _ => rfl) (fun hin => check_ct _ _ _ _ _ (hO5.rd (hin 0 _ rfl))) ?_)
  rintro _ _ ⟨rfl, rfl⟩
  refine Dn (fun _ => Pu.eql rfl rfl) <| Dr rfl (fun _ => Zd 4 (vs := cs5) (l := cs5) Zs rfl rfl rfl rfl hO5.len hO5.ok (Zy (n := 36) rfl hO5.len) ⟨[_], keptE (i := 4) rfl rfl, rfl, rfl⟩) ?_; rintro _ _ ⟨rfl, rfl⟩
  refine ZZ (M' := [(BX b1 cs5 27), k5, (BX b3 cs5 27), (BX bS [v, iv a2, .int .u64 s2] 123), k2]) rfl ?_
  show JL _ _ _ [_] _ _ _
  refine JLA rfl <| Zb <| Zl <| ⟨.tuple ⟨[.agg ⟨cs5⟩, .bool (decide (Yc d 2 (eNu 1) = 0))]⟩, [(BX bS [v, iv a2, .int .u64 s2] 123), k5], Ret.two rfl (RV.cell Zs rfl (At.bx 0 rfl) (Zu hO5.len)) (RV.tmp rfl), (Sd (Sub.cons 2 rfl (Sk Sub.nil))), ?_⟩
  exact ⟨_, _, _, _, _, by rw [decide_eq_true drawn_nu], rfl, hO5, by rw [← check_eq]; exact drawn_nu, by simp only [eNu, YQ]; exact ⟨lowS_z, trivial, trivial⟩, by omega⟩
 replace h4 := df h4
 refine Zm <| Zc <| ZL mixed #[0, 0, 0, 6, 14, 15, 63] 6 [some 18, some 19, some 20, some 21, some 22, none] [(5, 9)] [(3, fun _ _ vw qw => vw = iv (Yc d 2 t2) ∧ qw = []), (5, fun _ _ vw qw => vw = undef ∧ qw = [(BX b1 cs2 27)])] rfl (by kernel_rfl) rfl (by kernel_rfl) <| Dl Zs (At.bx 0 rfl) (Zu hO2.len) <| Dl Zs (At.bx 0 rfl) (Zu hO2.len) <| DM (fun _ => rfl) <| Dc rfl Tryz.call42 (fun _ => rfl) (fun hin => check_ct _ _ _ _ _ (hO2.rd (hin 2 _ rfl))) ?_
 rintro _ _ ⟨rfl, rfl⟩
 refine Dn (fun _ => Pu.eql rfl rfl) <| Dr rfl (fun _ => Zd 3 (vs := cs2) (l := cs2) Zs rfl rfl rfl rfl hO2.len hO2.ok (Zy (n := 36) rfl hO2.len) ⟨[_], keptE (i := 3) rfl rfl, rfl, rfl⟩) ?_; rintro _ _ ⟨rfl, rfl⟩
 refine ZZ (M' := [(BX b1 cs2 27), (BX b3 cs2 27), (BX bS [v, iv a2, .int .u64 s2] 123), k2]) rfl ?_
 show JL _ _ _ [_] _ _ _
 refine JLA rfl <| Zb <| Zl <| ⟨.tuple ⟨[.agg ⟨cs2⟩, .bool (decide (Yc d 2 t2 = 0))]⟩, [(BX bS [v, iv a2, .int .u64 s2] 123), k2], Ret.two rfl (RV.cell Zs rfl (At.bx 0 rfl) (Zu hO2.len)) (RV.tmp rfl), (Sd (Sd (Sk (Sk Sub.nil)))), ?_⟩
 exact ⟨_, _, _, _, _, by rw [decide_eq_true (drawn_ok hg2.1 h4)], rfl, hO2, by rw [← check_eq]; exact (drawn_ok hg2.1 h4), hg2.2.2, by omega⟩
end Go.Proofs.YtfdeibbpfgolcaaGreat.Hs
/-! Walks, printed by a program of this session's own (gen.py). -/
namespace Go.Proofs.YtfdeibbpfgolcaaGreat.Hs
open Go Go.Proofs
set_option maxRecDepth 100000
set_option linter.unusedVariables false
set_option linter.unusedSimpArgs false
attribute [local irreducible] JL J CT wlo DT
set_option maxHeartbeats 8000000 in
theorem awake_ct (H : Heap) : CT Tryz.prog 7 ⟨[]⟩ [] H (fun v N => v = .bool true ∧ N = []) := by
 refine Zk Tryz.func7 rfl rfl <| Zc <| Za <| JLA rfl <| Zb <| Zc <| Zg (b := false) rfl (fun h => absurd h (by simp)) (fun _ => Zm <| Zc <| Za <| Jc Tryz.call34 rfl (fun hin => va_ct _ _ (by unfold inI; omega)) rfl ?_)
 rintro _ _ ⟨cs1, k1, rfl, rfl, hO1⟩
 refine Jc Tryz.call34 rfl (fun hin => va_ct _ _ (by unfold inI; omega)) rfl ?_
 rintro _ _ ⟨cs2, k2, rfl, rfl, hO2⟩
 refine Jc Tryz.call33 rfl (fun hin => ap_ct _ _ hO1.len hO1.ok _ hO2.len hO2.ok) rfl ?_
 rintro _ _ ⟨cs3, k3, rfl, rfl, hC3⟩
 replace hC3 : (cs3.length = 36 ∧ okc cs3 ∧ ∀ h, Has k3 h → RT h cs1 (eVa 0) → RT h cs2 (eVa 1) → RT h cs3 (eAp (eVa 0) (eVa 1))) := ⟨hC3.1, hC3.2.1, hC3.2.2 (eVa 0) (eVa 1)⟩
 refine Jc Tryz.call32 rfl (fun hin => la_ct _ _ hC3.1 hC3.2.1) rfl ?_
 rintro _ _ ⟨cs4, k4, rfl, rfl, hC4⟩
 replace hC4 : (cs4.length = 36 ∧ okc cs4 ∧ ∀ h, Has k4 h → RT h cs3 (eAp (eVa 0) (eVa 1)) → RT h cs4 (eLa (eAp (eVa 0) (eVa 1)))) := ⟨hC4.1, hC4.2.1, hC4.2.2 (eAp (eVa 0) (eVa 1))⟩
 refine JLr (Zh (l := pkT 0 0 zS nS nS) Tryz.zeroValue27 rfl fun b5 => JLr (Zd 0 (vs := cs4) (l := cs4) Zs rfl rfl rfl rfl hC4.1 hC4.2.1 (Zy (n := 36) rfl hC4.1) <| Zb <| Zc <| Za <| JLr (Zi Zs rfl (At.bx 0 rfl) (Zu hC4.1) <| Jc Tryz.call35 rfl (fun hin => freeE_ct eLam _ _ (hC4.2.2 _ (hin 1 _ rfl) (hC3.2.2 _ (hin 2 _ rfl) (hO1.rd (hin 4 _ rfl)) (hO2.rd (hin 3 _ rfl))))) rfl ?_)))
 rintro _ _ ⟨u6, e6, k6, rfl, rfl, ho6, he6⟩
 rw [free_lam] at ho6 he6
 replace ho6 : Own 3 1 u6 (ints ([0])) k6 := ho6
 obtain rfl : e6 = 0 := he6
 refine JLM rfl <| JLn (Pu.extract rfl rfl) <| JLn (Pu.extract rfl rfl) <| JLa u6 <| JLA rfl <| Zb <| Zc <| ZL mixed #[0, 0, 3, 7, 15, 15, 0, 95, 255] 8 [some 24, some 25, some 26, some 23, some 27, some 28, some 4, none] [(7, 6)] [(1, fun _ _ vw qw => ∃ cs k, vw = .agg ⟨cs⟩ ∧ qw = [k] ∧ OT (eNu 5) cs k), (2, fun _ _ vw qw => ∃ cs k, vw = .tuple ⟨[.agg ⟨cs⟩, iv 0]⟩ ∧ qw = [k] ∧ OT (eLa (eAp (eVa 0) (eNu 5))) cs k), (6, newP 27 (pkT 0 0 zS nS nS)), (7, fun r _ vw qw => vw = undef ∧ qw = [(BX (pblk (r 6)) ((tcel (r 2))) 27)])] rfl (by kernel_rfl) rfl (by kernel_rfl) <| Dl Zs (At.bx 1 rfl) (Zu hC4.1) ?_
 refine Dc rfl Tryz.call37 (fun _ => rfl) (fun hin => nu_ct _ _ (by unfold inI; omega)) ?_
 rintro _ _ ⟨cs10, k10, rfl, rfl, hO10⟩
 refine Dc rfl Tryz.call36 (fun _ => rfl) (fun hin => ble_at (substP_ct eLam 0 (eNu 5) _ _ _ (hC4.2.2 _ (hin 3 _ rfl) (hC3.2.2 _ (hin 4 _ rfl) (hO1.rd (hin 6 _ rfl)) (hO2.rd (hin 5 _ rfl)))) (hO10.rd (hin 0 _ rfl))) five_lam) ?_
 rintro _ _ ⟨cs11, k11, rfl, rfl, hO11⟩
 refine DM (fun _ => rfl) <| Dn (fun _ => Pu.extract rfl rfl) <| Dn (fun _ => Pu.extract rfl rfl) <| Da Tryz.zeroValue27 rfl fun b12 => Dr rfl (fun _ => Zd 0 (vs := cs11) (l := cs11) Zs rfl rfl rfl rfl hO11.len hO11.ok (Zy (n := 36) rfl hO11.len) ⟨[_], keptE (i := 0) rfl rfl, rfl, rfl⟩) ?_; rintro _ _ ⟨rfl, rfl⟩
 refine ZZ (M' := [(BX b12 cs11 27), k11, k10, k6, (BX b5 cs4 27), k4, k3, k2, k1]) rfl ?_
 show JL _ _ _ [_] _ _ _
 refine JLA rfl <| Zb <| Zc <| ZL mixed #[0, 0, 3, 7, 15, 15, 0, 95, 255] 8 [some 30, some 31, some 32, some 29, some 33, some 34, some 6, none] [(7, 6)] [(1, fun _ _ vw qw => ∃ cs k, vw = .agg ⟨cs⟩ ∧ qw = [k] ∧ OT (eVa 3) cs k), (2, fun _ _ vw qw => ∃ cs k, vw = .tuple ⟨[.agg ⟨cs⟩, iv 0]⟩ ∧ qw = [k] ∧ OT (eLa (eAp (eVa 0) (eVa 4))) cs k), (6, newP 27 (pkT 0 0 zS nS nS)), (7, fun r _ vw qw => vw = undef ∧ qw = [(BX (pblk (r 6)) ((tcel (r 2))) 27)])] rfl (by kernel_rfl) rfl (by kernel_rfl) <| Dl Zs (At.bx 4 rfl) (Zu hC4.1) ?_
 refine Dc rfl Tryz.call34 (fun _ => rfl) (fun hin => va_ct _ _ (by unfold inI; omega)) ?_
 rintro _ _ ⟨cs16, k16, rfl, rfl, hO16⟩
 refine Dc rfl Tryz.call36 (fun _ => rfl) (fun hin => ble_at (substP_ct eLam 0 (eVa 3) _ _ _ (hC4.2.2 _ (hin 6 _ rfl) (hC3.2.2 _ (hin 7 _ rfl) (hO1.rd (hin 9 _ rfl)) (hO2.rd (hin 8 _ rfl)))) (hO16.rd (hin 0 _ rfl))) three_lam) ?_
 rintro _ _ ⟨cs17, k17, rfl, rfl, hO17⟩
 refine DM (fun _ => rfl) <| Dn (fun _ => Pu.extract rfl rfl) <| Dn (fun _ => Pu.extract rfl rfl) <| Da Tryz.zeroValue27 rfl fun b18 => Dr rfl (fun _ => Zd 0 (vs := cs17) (l := cs17) Zs rfl rfl rfl rfl hO17.len hO17.ok (Zy (n := 36) rfl hO17.len) ⟨[_], keptE (i := 0) rfl rfl, rfl, rfl⟩) ?_; rintro _ _ ⟨rfl, rfl⟩
 refine ZZ (M' := [(BX b18 cs17 27), k17, k16, (BX b12 cs11 27), k11, k10, k6, (BX b5 cs4 27), k4, k3, k2, k1]) rfl ?_
 show JL _ _ _ [_] _ _ _
 refine JLA rfl <| Zb <| Zc <| Za <| JLr (Zi Zs rfl (At.bx 7 rfl) (Zu hC4.1) <| Jc Tryz.call38 rfl (fun hin => ble_at (shiftP_ct eLam 2 0 _ _ (hC4.2.2 _ (hin 8 _ rfl) (hC3.2.2 _ (hin 9 _ rfl) (hO1.rd (hin 11 _ rfl)) (hO2.rd (hin 10 _ rfl))))) up_lam) rfl ?_)
 rintro _ _ ⟨cs19, k19, rfl, rfl, hO19⟩
 refine JLM rfl <| JLn (Pu.extract rfl rfl) <| JLn (Pu.extract rfl rfl) <| JLr (Zh (l := pkT 0 0 zS nS nS) Tryz.zeroValue27 rfl fun b20 => JLr (Zd 0 (vs := cs19) (l := cs19) Zs rfl rfl rfl rfl hO19.len hO19.ok (Zy (n := 36) rfl hO19.len) <| JLA rfl <| Zb <| Zc <| Za <| Jc Tryz.call34 rfl (fun hin => va_ct _ _ (by unfold inI; omega)) rfl ?_))
 rintro _ _ ⟨cs21, k21, rfl, rfl, hO21⟩
 refine Jc Tryz.call38 rfl (fun hin => ble_at (shiftP_ct (eVa 0) (-1) 0 _ _ (hO21.rd (hin 0 _ rfl))) down_va) rfl ?_
 rintro _ _ ⟨cs22, k22, rfl, rfl, hO22⟩
 refine JLM rfl <| JLn (Pu.extract rfl rfl) <| JLn (Pu.extract rfl rfl) <| JLr (Zh (l := pkT 0 0 zS nS nS) Tryz.zeroValue27 rfl fun b23 => JLr (Zd 0 (vs := cs22) (l := cs22) Zs rfl rfl rfl rfl hO22.len hO22.ok (Zy (n := 36) rfl hO22.len) <| JLA rfl <| Zb <| Zc <| Za <| Jc Tryz.call34 rfl (fun hin => va_ct _ _ (by unfold inI; omega)) rfl ?_))
 rintro _ _ ⟨cs24, k24, rfl, rfl, hO24⟩
 refine Jc Tryz.call32 rfl (fun hin => la_ct _ _ hO24.len hO24.ok) rfl ?_
 rintro _ _ ⟨cs25, k25, rfl, rfl, hC25⟩
 replace hC25 : (cs25.length = 36 ∧ okc cs25 ∧ ∀ h, Has k25 h → RT h cs24 (eVa 1) → RT h cs25 (eLa (eVa 1))) := ⟨hC25.1, hC25.2.1, hC25.2.2 (eVa 1)⟩
 refine Jc Tryz.call32 rfl (fun hin => la_ct _ _ hC25.1 hC25.2.1) rfl ?_
 rintro _ _ ⟨cs26, k26, rfl, rfl, hC26⟩
 replace hC26 : (cs26.length = 36 ∧ okc cs26 ∧ ∀ h, Has k26 h → RT h cs25 (eLa (eVa 1)) → RT h cs26 (eLa (eLa (eVa 1)))) := ⟨hC26.1, hC26.2.1, hC26.2.2 (eLa (eVa 1))⟩
 refine JLr (Zq (vs := [.string (ltr 0)]) [[.string (ltr 0)]] Tryz.runUnderlying79 el9 rfl rfl (by intro e he; simp only [List.mem_cons, List.not_mem_nil, or_false] at he; subst he; exact rfl) rfl (by decide) fun b27 k27 ho27 hk27 => Jc Tryz.call39 rfl (fun hin => nameE_ct _ _ _ (hC26.2.2 _ (hin 1 _ rfl) (hC25.2.2 _ (hin 2 _ rfl) (hO24.rd (hin 3 _ rfl)))) (Y3 (l := [ltr 0]) ho27 (by simp) (hin 0 _ rfl))) rfl ?_)
 rintro _ _ ⟨_, _, rfl, rfl, nk28, nn28, nr28, ns28, nks28, ncv28, ne28, nk128, nk228, nk328, rfl, hone28, hon28, hok28, ⟨mk28, mn28, mr28, ms28, mks28, mcv28, me28, mk128, mk228, mk328, rfl, hmone28, hom28, hmk28, _, rfl⟩, rfl⟩
 refine Zw (M' := [nk128, nk228, mk128, mk228, mk328, k27, k26, k25, k24, (BX b23 cs22 27), k22, k21, (BX b20 cs19 27), k19, (BX b18 cs17 27), k17, k16, (BX b12 cs11 27), k11, k10, k6, (BX b5 cs4 27), k4, k3, k2, k1]) (Sub.flat Sub.refl (by simp)) <| JLM rfl <| JLn (Pu.extract rfl rfl) <| JLn (Pu.extract rfl rfl) <| JLr (Zh (l := (pkT 0 0 zS nS nS) ++ ([nS] : List Value)) Tryz.zeroValue83 rfl fun b29 => JLr (Zd 0 (vs := (pkT nk28 nn28 nr28 ns28 nks28) ++ ([ncv28] : List Value)) (l := (pkT nk28 nn28 nr28 ns28 nks28) ++ ([ncv28] : List Value)) ty83 rfl rfl rfl rfl rfl (Z2 (Zz hon28.one hok28.one) (Zj hone28 Zt)) (Zy (n := 37) rfl rfl) <| JLA rfl <| Zb <| Zc <| ZL mixed #[0, 1, 3, 7, 15, 31, 63, 127, 255, 511, 1023, 2047, 4095, 8191, 16383, 32767, 65535, 131071, 262143, 524287, 1048575, 2097151, 4194303, 8388607, 8388607, 33554431, 67108863, 134217727, 268435455, 268435455, 805306367, 1879048191, 4026531839, 8589934591, 17179869183, 34359738367, 68719476735, 68719476735, 206158430207, 481036337151, 1030792151039, 2199023255551, 4398046511103, 8796093022207, 17592186044415, 17592186044415, 52776558133247, 123145302310911, 263882790666239, 562949953421311, 1125899906842623, 2251799813685247, 4503599627370495, 9007199254740991, 4503599627370495, 36028797018963967, 72057594037927935, 144115188075855871, 288230376151711743, 576460752303423487, 1152921504606846975, 2305843009213693951, 4611686018427387903, 9223372036854775807, 18446744073709551615, 36893488147419103231, 73786976294838206463, 147573952589676412927, 295147905179352825855, 18446744073709551615, 1180591620717411303423, 2361183241434822606847, 4722366482869645213695, 9444732965739290427391, 9444732965739290427391, 28334198897217871282175, 66113130760175032991743, 151115727451828646838271, 302231454903657293676543, 604462909807314587353087, 1208925819614629174706175, 2417851639229258349412351, 4835703278458516698824703, 4835703278458516698824703, 14507109835375550096474111, 38685626227668133590597631, 77371252455336267181195263, 154742504910672534362390527, 309485009821345068724781055, 618970019642690137449562111] 85 [some 53, some 54, some 55, some 56, some 57, some 58, some 59, some 60, some 61, some 62, some 63, some 64, some 65, some 66, some 67, some 68, some 69, some 70, some 71, some 72, some 73, some 74, some 75, some 76, some 77, some 78, some 79, some 80, some 81, some 82, some 83, some 84, some 85, some 86, some 87, some 88, some 89, some 90, some 91, some 92, some 93, some 94, some 95, some 96, some 97, some 98, some 99, some 100, some 101, some 102, some 103, some 104, some 105, some 106, some 107, some 108, some 109, some 110, some 111, some 112, some 113, some 114, some 115, some 116, some 117, some 118, some 119, some 120, some 121, some 122, some 123, some 124, some 125, some 126, some 127, some 128, some 129, some 130, some 131, some 132, some 133, some 134, some 135, some 136, some 137] [] [(24, fun _ _ vw qw => ∃ b k, vw = .slice (some ⟨b, 0, none⟩) 1 1 ∧ qw = [k] ∧ Own 3 1 (.slice (some ⟨b, 0, none⟩) 1 1) [[iv 0]] k ∧ k = (BX b (List.flatten [[iv 0]]) 3)), (25, fun _ _ vw qw => vw = .bool true ∧ qw = []), (29, fun _ _ vw qw => ∃ cs k, vw = .agg ⟨cs⟩ ∧ qw = [k] ∧ OT (eVa 0) cs k), (30, fun _ _ vw qw => ∃ cs k, vw = .agg ⟨cs⟩ ∧ qw = [k] ∧ OT (eNu 5) cs k), (31, fun r _ vw qw => ∃ cs k, vw = .agg ⟨cs⟩ ∧ qw = [k] ∧ cs.length = 36 ∧ okc cs ∧ ∀ t0 t1 h, Has k h → RT h ((cel (r 29))) t0 → RT h ((cel (r 30))) t1 → RT h cs (.mk 4 0 zS [t0, t1] [])), (32, fun r _ vw qw => ∃ cs k, vw = .agg ⟨cs⟩ ∧ qw = [k] ∧ cs.length = 36 ∧ okc cs ∧ ∀ t0 h, Has k h → RT h ((cel (r 31))) t0 → RT h cs (.mk 3 0 zS [t0] [])), (33, fun _ _ vw qw => vw = .bool true ∧ qw = []), (37, fun _ _ vw qw => ∃ cs k, vw = .agg ⟨cs⟩ ∧ qw = [k] ∧ OT (eVa 0) cs k), (38, fun _ _ vw qw => ∃ cs k, vw = .agg ⟨cs⟩ ∧ qw = [k] ∧ OT (eVa 4) cs k), (39, fun r _ vw qw => ∃ cs k, vw = .agg ⟨cs⟩ ∧ qw = [k] ∧ cs.length = 36 ∧ okc cs ∧ ∀ t0 t1 h, Has k h → RT h ((cel (r 37))) t0 → RT h ((cel (r 38))) t1 → RT h cs (.mk 4 0 zS [t0, t1] [])), (40, fun r _ vw qw => ∃ cs k, vw = .agg ⟨cs⟩ ∧ qw = [k] ∧ cs.length = 36 ∧ okc cs ∧ ∀ t0 h, Has k h → RT h ((cel (r 39))) t0 → RT h cs (.mk 3 0 zS [t0] [])), (41, fun _ _ vw qw => vw = .bool true ∧ qw = []), (45, fun _ _ vw qw => ∃ cs k, vw = .agg ⟨cs⟩ ∧ qw = [k] ∧ OT (eVa 0) cs k), (46, fun _ _ vw qw => ∃ cs k, vw = .agg ⟨cs⟩ ∧ qw = [k] ∧ OT (eVa 3) cs k), (47, fun r _ vw qw => ∃ cs k, vw = .agg ⟨cs⟩ ∧ qw = [k] ∧ cs.length = 36 ∧ okc cs ∧ ∀ t0 t1 h, Has k h → RT h ((cel (r 45))) t0 → RT h ((cel (r 46))) t1 → RT h cs (.mk 4 0 zS [t0, t1] [])), (48, fun r _ vw qw => ∃ cs k, vw = .agg ⟨cs⟩ ∧ qw = [k] ∧ cs.length = 36 ∧ okc cs ∧ ∀ t0 h, Has k h → RT h ((cel (r 47))) t0 → RT h cs (.mk 3 0 zS [t0] [])), (49, fun _ _ vw qw => vw = .bool true ∧ qw = []), (54, fun _ _ vw qw => ∃ b k, vw = .slice (some ⟨b, 0, none⟩) 1 1 ∧ qw = [k] ∧ Own 9 1 (.slice (some ⟨b, 0, none⟩) 1 1) [[.string (ltr 1)]] k ∧ k = (BX b (List.flatten [[.string (ltr 1)]]) 9)), (55, fun _ _ vw qw => vw = .bool true ∧ qw = []), (69, fun _ _ vw qw => ∃ b k, vw = .slice (some ⟨b, 0, none⟩) 1 1 ∧ qw = [k] ∧ Own 9 1 (.slice (some ⟨b, 0, none⟩) 1 1) [[.string (ltr 2)]] k ∧ k = (BX b (List.flatten [[.string (ltr 2)]]) 9)), (70, fun _ _ vw qw => vw = .bool true ∧ qw = []), (74, fun _ _ vw qw => ∃ cs k, vw = .agg ⟨cs⟩ ∧ qw = [k] ∧ OT (eNu 1) cs k), (75, fun _ _ vw qw => ∃ cs k, vw = .agg ⟨cs⟩ ∧ qw = [k] ∧ OT (eVa 0) cs k), (76, fun r _ vw qw => ∃ b k, vw = .slice (some ⟨b, 0, none⟩) 2 2 ∧ qw = [k] ∧ Own 27 36 (.slice (some ⟨b, 0, none⟩) 2 2) [(cel (r 74)), (cel (r 75))] k ∧ k = (BX b (List.flatten [(cel (r 74)), (cel (r 75))]) 27)), (77, fun r _ vw qw => vw = .agg ⟨pkT 12 0 zS (.slice (some ⟨(Y0 (r 76)), 0, none⟩) 2 2) nS⟩ ∧ qw = []), (78, fun _ _ vw qw => vw = iv 0 ∧ qw = []), (83, fun _ _ vw qw => ∃ cs k, vw = .agg ⟨cs⟩ ∧ qw = [k] ∧ OT (eNu 1) cs k), (84, fun r _ vw qw => ∃ b k, vw = .slice (some ⟨b, 0, none⟩) 1 1 ∧ qw = [k] ∧ Own 27 36 (.slice (some ⟨b, 0, none⟩) 1 1) [(cel (r 83))] k ∧ k = (BX b (List.flatten [(cel (r 83))]) 27))] rfl (by kernel_rfl) rfl (by kernel_rfl) <| DM (fun _ => rfl) <| Dq (.bool true) (fun _ => show Pu _ _ _ (.bool (decide ((0 : Int) = 0))) from Pu.eql rfl rfl) <| DM (fun _ => rfl) ?_))
 refine DM (fun _ => rfl) <| Dq (.bool true) (fun _ => show Pu _ _ _ (.bool (decide ((0 : Int) = 0))) from Pu.eql rfl rfl) <| Dq (.bool true) (fun _ => Pu.pickT rfl rfl) <| DM (fun _ => rfl) <| DM (fun _ => rfl) <| Dq (.bool true) (fun _ => show Pu _ _ _ (.bool (decide ((0 : Int) = 0))) from Pu.eql rfl rfl) <| Dq (.bool true) (fun _ => Pu.pickT rfl rfl) <| DM (fun _ => rfl) <| DM (fun _ => rfl) <| Dq (.bool true) (fun _ => show Pu _ _ _ (.bool (decide ((0 : Int) = 0))) from Pu.eql rfl rfl) <| Dq (.bool true) (fun _ => Pu.pickT rfl rfl) <| DM (fun _ => rfl) <| DM (fun _ => rfl) ?_
 refine Dq (.bool true) (fun _ => show Pu _ _ _ (.bool (decide ((1 : Int) = 1))) from Pu.eql rfl rfl) <| Dq (.bool true) (fun _ => Pu.pickT rfl rfl) <| DM (fun _ => rfl) <| DM (fun _ => rfl) <| Dq (.bool true) (fun _ => show Pu _ _ _ (.bool (decide ((0 : Int) = 0))) from Pu.eql rfl rfl) <| Dq (.bool true) (fun _ => Pu.pickT rfl rfl) <| DM (fun _ => rfl) <| Dm u6 <| Dr rfl (fun _ => Zq (vs := [iv 0]) [[iv 0]] Tryz.runUnderlying51 el3 rfl rfl (by intro e he; simp only [List.mem_cons, List.not_mem_nil, or_false] at he; subst he; exact rfl) rfl (by decide) fun b k h1 h2 => ⟨[k], by rw [Yi rfl]; exact Sub.refl, b, k, rfl, rfl, h1, h2⟩) (fun _ _ ⟨b52, k52, e1, e2, ho52, hk52⟩ => ?_); subst e1 e2
 refine Dc rfl Tryz.call40 (fun _ => rfl) (fun hin => bool_r (r := true) (equalI_ct _ _ _ _ _ (own_ints ho6 (by simp) (hin 22 _ rfl)) (own_ints (l := [0]) ho52 (by simp) (hin 0 _ rfl))) (eqL_true rfl)) ?_
 rintro _ _ ⟨rfl, rfl⟩
 refine Dq (.bool true) (fun _ => Pu.pickT rfl rfl) <| DM (fun _ => rfl) <| Dl Zs (At.bx 19 rfl) (Zu hO11.len) ?_
 refine Dc rfl Tryz.call34 (fun _ => rfl) (fun hin => va_ct _ _ (by unfold inI; omega)) ?_
 rintro _ _ ⟨cs53, k53, rfl, rfl, hO53⟩
 refine Dc rfl Tryz.call37 (fun _ => rfl) (fun hin => nu_ct _ _ (by unfold inI; omega)) ?_
 rintro _ _ ⟨cs54, k54, rfl, rfl, hO54⟩
 refine Dc rfl Tryz.call33 (fun _ => rfl) (fun hin => ap_ct _ _ hO53.len hO53.ok _ hO54.len hO54.ok) ?_
 rintro _ _ ⟨cs55, k55, rfl, rfl, hC55⟩
 replace hC55 : (cs55.length = 36 ∧ okc cs55 ∧ ∀ h, Has k55 h → RT h cs53 (eVa 0) → RT h cs54 (eNu 5) → RT h cs55 (eAp (eVa 0) (eNu 5))) := ⟨hC55.1, hC55.2.1, hC55.2.2 (eVa 0) (eNu 5)⟩
 refine Dc rfl Tryz.call32 (fun _ => rfl) (fun hin => la_ct _ _ hC55.1 hC55.2.1) ?_
 rintro _ _ ⟨cs56, k56, rfl, rfl, hC56⟩
 replace hC56 : (cs56.length = 36 ∧ okc cs56 ∧ ∀ h, Has k56 h → RT h cs55 (eAp (eVa 0) (eNu 5)) → RT h cs56 (eLa (eAp (eVa 0) (eNu 5)))) := ⟨hC56.1, hC56.2.1, hC56.2.2 (eAp (eVa 0) (eNu 5))⟩
 refine Dc rfl Tryz.call16 (fun _ => rfl) (fun hin => bool_r (r := true) (sameTerm_ct _ _ _ _ _ (hO11.rd (hin 24 _ rfl)) (hC56.2.2 _ (hin 0 _ rfl) (hC55.2.2 _ (hin 1 _ rfl) (hO53.rd (hin 3 _ rfl)) (hO54.rd (hin 2 _ rfl))))) (decide_eq_true rfl)) ?_
 rintro _ _ ⟨rfl, rfl⟩
 refine Dq (.bool true) (fun _ => Pu.pickT rfl rfl) <| DM (fun _ => rfl) <| Dl Zs (At.bx 20 rfl) (Zu hO17.len) ?_
 refine Dc rfl Tryz.call34 (fun _ => rfl) (fun hin => va_ct _ _ (by unfold inI; omega)) ?_
 rintro _ _ ⟨cs57, k57, rfl, rfl, hO57⟩
 refine Dc rfl Tryz.call34 (fun _ => rfl) (fun hin => va_ct _ _ (by unfold inI; omega)) ?_
 rintro _ _ ⟨cs58, k58, rfl, rfl, hO58⟩
 refine Dc rfl Tryz.call33 (fun _ => rfl) (fun hin => ap_ct _ _ hO57.len hO57.ok _ hO58.len hO58.ok) ?_
 rintro _ _ ⟨cs59, k59, rfl, rfl, hC59⟩
 replace hC59 : (cs59.length = 36 ∧ okc cs59 ∧ ∀ h, Has k59 h → RT h cs57 (eVa 0) → RT h cs58 (eVa 4) → RT h cs59 (eAp (eVa 0) (eVa 4))) := ⟨hC59.1, hC59.2.1, hC59.2.2 (eVa 0) (eVa 4)⟩
 refine Dc rfl Tryz.call32 (fun _ => rfl) (fun hin => la_ct _ _ hC59.1 hC59.2.1) ?_
 rintro _ _ ⟨cs60, k60, rfl, rfl, hC60⟩
 replace hC60 : (cs60.length = 36 ∧ okc cs60 ∧ ∀ h, Has k60 h → RT h cs59 (eAp (eVa 0) (eVa 4)) → RT h cs60 (eLa (eAp (eVa 0) (eVa 4)))) := ⟨hC60.1, hC60.2.1, hC60.2.2 (eAp (eVa 0) (eVa 4))⟩
 refine Dc rfl Tryz.call16 (fun _ => rfl) (fun hin => bool_r (r := true) (sameTerm_ct _ _ _ _ _ (hO17.rd (hin 25 _ rfl)) (hC60.2.2 _ (hin 0 _ rfl) (hC59.2.2 _ (hin 1 _ rfl) (hO57.rd (hin 3 _ rfl)) (hO58.rd (hin 2 _ rfl))))) (decide_eq_true rfl)) ?_
 rintro _ _ ⟨rfl, rfl⟩
 refine Dq (.bool true) (fun _ => Pu.pickT rfl rfl) <| DM (fun _ => rfl) <| Dl Zs (At.bx 22 rfl) (Zu hO19.len) ?_
 refine Dc rfl Tryz.call34 (fun _ => rfl) (fun hin => va_ct _ _ (by unfold inI; omega)) ?_
 rintro _ _ ⟨cs61, k61, rfl, rfl, hO61⟩
 refine Dc rfl Tryz.call34 (fun _ => rfl) (fun hin => va_ct _ _ (by unfold inI; omega)) ?_
 rintro _ _ ⟨cs62, k62, rfl, rfl, hO62⟩
 refine Dc rfl Tryz.call33 (fun _ => rfl) (fun hin => ap_ct _ _ hO61.len hO61.ok _ hO62.len hO62.ok) ?_
 rintro _ _ ⟨cs63, k63, rfl, rfl, hC63⟩
 replace hC63 : (cs63.length = 36 ∧ okc cs63 ∧ ∀ h, Has k63 h → RT h cs61 (eVa 0) → RT h cs62 (eVa 3) → RT h cs63 (eAp (eVa 0) (eVa 3))) := ⟨hC63.1, hC63.2.1, hC63.2.2 (eVa 0) (eVa 3)⟩
 refine Dc rfl Tryz.call32 (fun _ => rfl) (fun hin => la_ct _ _ hC63.1 hC63.2.1) ?_
 rintro _ _ ⟨cs64, k64, rfl, rfl, hC64⟩
 replace hC64 : (cs64.length = 36 ∧ okc cs64 ∧ ∀ h, Has k64 h → RT h cs63 (eAp (eVa 0) (eVa 3)) → RT h cs64 (eLa (eAp (eVa 0) (eVa 3)))) := ⟨hC64.1, hC64.2.1, hC64.2.2 (eAp (eVa 0) (eVa 3))⟩
 refine Dc rfl Tryz.call16 (fun _ => rfl) (fun hin => bool_r (r := true) (sameTerm_ct _ _ _ _ _ (hO19.rd (hin 27 _ rfl)) (hC64.2.2 _ (hin 0 _ rfl) (hC63.2.2 _ (hin 1 _ rfl) (hO61.rd (hin 3 _ rfl)) (hO62.rd (hin 2 _ rfl))))) (decide_eq_true rfl)) ?_
 rintro _ _ ⟨rfl, rfl⟩
 refine Dq (.bool true) (fun _ => Pu.pickT rfl rfl) <| DM (fun _ => rfl) <| Dq (pp b29 34) (fun _ => fa83_3 rfl rfl) <| Dl1 ty79 (At.bx 13 rfl) (get_l (Z9 ..)) <| Dr rfl (fun _ => Zq (vs := [.string (ltr 1)]) [[.string (ltr 1)]] Tryz.runUnderlying79 el9 rfl rfl (by intro e he; simp only [List.mem_cons, List.not_mem_nil, or_false] at he; subst he; exact rfl) rfl (by decide) fun b k h1 h2 => ⟨[k], by rw [Yi rfl]; exact Sub.refl, b, k, rfl, rfl, h1, h2⟩) (fun _ _ ⟨b65, k65, e1, e2, ho65, hk65⟩ => ?_); subst e1 e2
 refine Dc rfl Tryz.call41 (fun _ => rfl) (fun hin => bool_r (r := true) (equalS_ct _ _ _ _ _ (Y3 hon28 (by simp) (hin 15 _ rfl)) (Y3 (l := [ltr 1]) ho65 (by simp) (hin 0 _ rfl))) (eqL_true rfl)) ?_
 rintro _ _ ⟨rfl, rfl⟩
 refine Dq (.bool true) (fun _ => Pu.pickT rfl rfl) <| DM (fun _ => rfl) <| Dq (pp b29 35) (fun _ => fa83_4 rfl rfl) <| Dl1 ty80 (At.bx 14 rfl) (get_l (Yj ..)) ?_
 obtain ⟨a66, cap66, hv66⟩ := hok28.sl
 rw [(rfl : List.length [_] = 1)] at hv66
 refine Dn (fun _ => Pu.lenSl Tryz.runUnderlying80 hv66) <| Dq (.bool true) (fun _ => show Pu _ _ _ (.bool (decide ((1 : Int) = 1))) from Pu.eql rfl rfl) <| Dq (.bool true) (fun _ => Pu.pickT rfl rfl) <| DM (fun _ => rfl) <| Dq (pp b29 35) (fun _ => fa83_4 rfl rfl) <| Dl1 ty80 (At.bx 14 rfl) (get_l (Yj ..)) ?_
 obtain ⟨b67, cap67, row67, hv67, hm67, hs67⟩ := hok28.at' (j := 0) rfl
 refine Dq (pp b67 (0 + 0 * 37)) (fun _ => Pu.idx 0 Tryz.runUnderlying80 ty83 hv67 rfl (by first | rfl | omega) (by simp)) <| Dq (pp b67 (0 + 0 * 37 + 34)) (fun _ => fa83_3 rfl rfl) <| Dl1 ty79 (At.k 16 rfl hm67) (sub_get hs67 (get_l (Z9 ..))) <| Dr rfl (fun _ => Zq (vs := [.string (ltr 2)]) [[.string (ltr 2)]] Tryz.runUnderlying79 el9 rfl rfl (by intro e he; simp only [List.mem_cons, List.not_mem_nil, or_false] at he; subst he; exact rfl) rfl (by decide) fun b k h1 h2 => ⟨[k], by rw [Yi rfl]; exact Sub.refl, b, k, rfl, rfl, h1, h2⟩) (fun _ _ ⟨b68, k68, e1, e2, ho68, hk68⟩ => ?_); subst e1 e2
 refine Dc rfl Tryz.call41 (fun _ => rfl) (fun hin => bool_r (r := true) (equalS_ct _ _ _ _ _ (Y3 hom28 (by simp) (hin 18 _ rfl)) (Y3 (l := [ltr 2]) ho68 (by simp) (hin 0 _ rfl))) (eqL_true rfl)) ?_
 rintro _ _ ⟨rfl, rfl⟩
 refine Dq (.bool true) (fun _ => Pu.pickT rfl rfl) <| DM (fun _ => rfl) <| Dq (.agg ⟨sC zS⟩) (fun _ => Pu.build (pv := []) (l := sC zS) rfl bld23_) ?_
 refine Dc rfl Tryz.call37 (fun _ => rfl) (fun hin => nu_ct _ _ (by unfold inI; omega)) ?_
 rintro _ _ ⟨cs69, k69, rfl, rfl, hO69⟩
 refine Dc rfl Tryz.call34 (fun _ => rfl) (fun hin => va_ct _ _ (by unfold inI; omega)) ?_
 rintro _ _ ⟨cs70, k70, rfl, rfl, hO70⟩
 refine Dr rfl (fun _ => Zq (vs := [.agg ⟨cs69⟩, .agg ⟨cs70⟩]) [cs69, cs70] Tryz.runUnderlying24 el27 rfl rfl (by intro e he; simp only [List.mem_cons, List.not_mem_nil, or_false] at he; rcases he with rfl | rfl <;> first | exact hO69.len | exact hO70.len) rfl (by decide) fun b k h1 h2 => ⟨[k], by rw [Yi rfl]; exact Sub.refl, b, k, rfl, rfl, h1, h2⟩) (fun _ _ ⟨b71, k71, e1, e2, ho71, hk71⟩ => ?_); subst e1 e2
 refine Dc rfl Tryz.call43 (fun _ => rfl) (fun hin => ha_ct _ _ _ _ _) ?_
 rintro _ _ ⟨rfl, rfl⟩
 refine Dc rfl Tryz.call42 (fun _ => rfl) (fun hin => int_r (r := 0) (check_ct (.mk 12 0 zS [eNu 1, eVa 0] []) 0 0 _ _ (RT_mk.2 ⟨_, _, rfl, (by unfold inI; omega), (by unfold inI; omega), (Own.rd2 ho71 (hin 0 _ rfl) (hO69.rd (hin 2 _ rfl)) (hO70.rd (hin 1 _ rfl))), Hs.rdS.nil⟩)) check_h2) ?_
 rintro _ _ ⟨rfl, rfl⟩
 refine Dq (.bool true) (fun _ => show Pu _ _ _ (.bool (decide ((0 : Int) = 0))) from Pu.eql rfl rfl) <| Dq (.bool true) (fun _ => Pu.pickT rfl rfl) <| DM (fun _ => rfl) <| Dq (.agg ⟨sC zS⟩) (fun _ => Pu.build (pv := []) (l := sC zS) rfl bld23_) ?_
 refine Dc rfl Tryz.call37 (fun _ => rfl) (fun hin => nu_ct _ _ (by unfold inI; omega)) ?_
 rintro _ _ ⟨cs72, k72, rfl, rfl, hO72⟩
 refine Dr rfl (fun _ => Zq (vs := [.agg ⟨cs72⟩]) [cs72] Tryz.runUnderlying24 el27 rfl rfl (by intro e he; simp only [List.mem_cons, List.not_mem_nil, or_false] at he; subst he; exact hO72.len) rfl (by decide) fun b k h1 h2 => ⟨[k], by rw [Yi rfl]; exact Sub.refl, b, k, rfl, rfl, h1, h2⟩) (fun _ _ ⟨b73, k73, e1, e2, ho73, hk73⟩ => ?_); subst e1 e2
 refine ZZ (M' := [k73, k72, k71, k70, k69, k68, k65, k64, k63, k62, k61, k60, k59, k58, k57, k56, k55, k54, k53, k52, (BX b29 ((pkT nk28 nn28 nr28 ns28 nks28) ++ ([ncv28] : List Value)) 83), nk128, nk228, mk128, mk228, mk328, k27, k26, k25, k24, (BX b23 cs22 27), k22, k21, (BX b20 cs19 27), k19, (BX b18 cs17 27), k17, k16, (BX b12 cs11 27), k11, k10, k6, (BX b5 cs4 27), k4, k3, k2, k1]) rfl ?_
 show JL _ _ _ [_, _, _, _, _] _ _ _
 refine Jc Tryz.call43 rfl (fun hin => ha_ct _ _ _ _ _) rfl ?_
 rintro _ _ ⟨rfl, rfl⟩
 refine Jc Tryz.call42 rfl (fun hin => int_r (r := 2) (check_ct (.mk 12 0 zS [eNu 1] []) 0 0 _ _ (RT_mk.2 ⟨_, _, rfl, (by unfold inI; omega), (by unfold inI; omega), (Own.rd1 ho73 (hin 0 _ rfl) (hO72.rd (hin 1 _ rfl))), Hs.rdS.nil⟩)) check_h1) rfl ?_
 rintro _ _ ⟨rfl, rfl⟩
 refine JLq (.bool true) (show Pu _ _ _ (.bool (decide ((2 : Int) = 2))) from Pu.eql rfl rfl) <| JLq (.bool true) (Pu.pickT rfl rfl) <| JLA rfl <| Zb <| Zl <| ⟨.bool true, [], Ret.one rfl (RV.tmp rfl), Sub.nil, ?_⟩
 exact ⟨rfl, rfl⟩
end Go.Proofs.YtfdeibbpfgolcaaGreat.Hs
