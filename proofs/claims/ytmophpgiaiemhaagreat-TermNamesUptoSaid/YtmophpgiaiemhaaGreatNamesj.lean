import Derived.Test.YtmophpgiaiemhaaGreatNamesi
/-! Walks, printed by a program of this session's own (gen.py). -/
namespace Go.Proofs.YtmophpgiaiemhaaGreat.Hs
open Go Go.Proofs
set_option maxRecDepth 100000
set_option linter.unusedVariables false
set_option linter.unusedSimpArgs false
attribute [local irreducible] JL J CT wlo DT
theorem longPK_ct : ∀ (x : Pt) (d s : Int) (a : List Value) (H : Heap) (bL bA bD : Nat), RP H a x → H bA = some (.cells ⟨[pp bL 0]⟩ 112 (0, 0)) → H bD = some (.cells ⟨[iv d]⟩ 3 (0, 0)) → 0 ≤ d → d ≤ 100 → (∀ h a, Hle H h → RP h a x → CT Tryz.prog 116 ⟨[pp bL 0, .agg ⟨a⟩, iv (d + 1)]⟩ [(BX bL [iv s] 114)] h (fun v N => v = .bool (cnP stL (d + 1) x s).1 ∧ N = [(BX bL [iv ((cnP stL (d + 1) x s).2)] 114)])) → CT Tryz.prog 143 ⟨[.agg ⟨a⟩, pp bA 0, pp bD 0]⟩ [(BX bL [iv s] 114)] H (fun v N => v = .bool (cnP stL (d + 1) x s).1 ∧ N = [(BX bL [iv ((cnP stL (d + 1) x s).2)] 114)]) := by
 intro x d s a H bL bA bD ra hH1 hH5 hd0 hd1 hg
 refine Zm Tryz.func143 rfl rfl <| Zc <| Za <| JLr (Zo (l := a) rfl rfl fun b1 => JLA rfl <| Zb <| Zc <| Za <| JLr (Ze ty112 rfl (At.im hH1) rfl <| JLr (Zg Z6 rfl (At.bx 0 rfl) (Zt (Zu ra)) <| JLr (Ze ty3 rfl (At.im hH5) rfl <| JLn (Pu.add64 rfl rfl (by first | omega | (constructor <;> omega))) <| ZD 1 rfl Tryz.call116 rfl rfl (fun hin => hg _ _ (Hle.hu _ _) (RP.mono (Hle.hu _ _) ra)) rfl ?_))))
 rintro _ _ ⟨rfl, rfl⟩
 refine JLA rfl <| Zb <| Zh <| ⟨.bool ((cnP stL (d + 1) x s).1), [(BX bL [iv ((cnP stL (d + 1) x s).2)] 114)], Ret.one rfl (RV.tmp rfl), (Sk Sub.nil), ?_⟩
 exact ⟨rfl, rfl⟩
theorem longTK_ct : ∀ (x : Tm) (d s : Int) (a : List Value) (H : Heap) (bL bA bD : Nat), RT H a x → H bA = some (.cells ⟨[pp bL 0]⟩ 112 (0, 0)) → H bD = some (.cells ⟨[iv d]⟩ 3 (0, 0)) → 0 ≤ d → d ≤ 100 → (∀ h a, Hle H h → RT h a x → CT Tryz.prog 86 ⟨[pp bL 0, .agg ⟨a⟩, iv (d + 1)]⟩ [(BX bL [iv s] 114)] h (fun v N => v = .bool (cnT stL (d + 1) x s).1 ∧ N = [(BX bL [iv ((cnT stL (d + 1) x s).2)] 114)])) → CT Tryz.prog 126 ⟨[.agg ⟨a⟩, pp bA 0, pp bD 0]⟩ [(BX bL [iv s] 114)] H (fun v N => v = .bool (cnT stL (d + 1) x s).1 ∧ N = [(BX bL [iv ((cnT stL (d + 1) x s).2)] 114)]) := by
 intro x d s a H bL bA bD ra hH1 hH5 hd0 hd1 hg
 refine Zm Tryz.func126 rfl rfl <| Zc <| Za <| JLr (Zo (l := a) rfl rfl fun b1 => JLA rfl <| Zb <| Zc <| Za <| JLr (Ze ty112 rfl (At.im hH1) rfl <| JLr (Zg Zs rfl (At.bx 0 rfl) (Zt (Zv ra)) <| JLr (Ze ty3 rfl (At.im hH5) rfl <| JLn (Pu.add64 rfl rfl (by first | omega | (constructor <;> omega))) <| ZD 1 rfl Tryz.call86 rfl rfl (fun hin => hg _ _ (Hle.hu _ _) (RT.mono (Hle.hu _ _) ra)) rfl ?_))))
 rintro _ _ ⟨rfl, rfl⟩
 refine JLA rfl <| Zb <| Zh <| ⟨.bool ((cnT stL (d + 1) x s).1), [(BX bL [iv ((cnT stL (d + 1) x s).2)] 114)], Ret.one rfl (RV.tmp rfl), (Sk Sub.nil), ?_⟩
 exact ⟨rfl, rfl⟩
theorem longP_ct : ∀ (p : Pt) (d n : Int) (cs : List Value) (H : Heap) (bL : Nat), RP H cs p → 0 ≤ n → n ≤ 300 → 0 ≤ d → d ≤ 61 → CT Tryz.prog 116 ⟨[pp bL 0, .agg ⟨cs⟩, iv d]⟩ [(BX bL [iv n] 114)] H (fun v N => v = .bool (cnP stL d p n).1 ∧ N = [(BX bL [iv ((cnP stL d p n).2)] 114)]) := by
 intro p
 induction p using Pt.ind with
 | h kind num ref kids ih =>
 intro d n cs H bL hp hn0 hn1 hd0 hd1
 obtain ⟨ks, rfl, hk, hn, hks⟩ := RP_mk.1 hp
 refine Zm Tryz.func116 rfl rfl <| Zc <| Za <| JLr (Zo (l := [pp bL 0]) rfl rfl fun b1 => JLr (Zo (l := pkP kind num ref ks) rfl rfl fun b2 => JLr (Zo (l := [iv d]) rfl rfl fun b3 => JLA rfl <| Zb <| Zc <| Zc <| Za <| JLr (Ze ty112 rfl (At.bx 2 rfl) rfl <| JLq (pp bL 0) (Pu.nilCheck rfl) ?_))))
 refine JLq (pp bL 0) (fa114_0 rfl rfl) <| JLr (Ze ty3 rfl (At.bx 3 rfl) rfl <| JLn (Pu.add64 rfl rfl (by first | omega | (constructor <;> omega))) <| JLq (pp bL 0) (Pu.nilCheck rfl) <| JLq (pp bL 0) (fa114_0 rfl rfl) <| JLr (Zd 3 (vs := [iv (n + 1)]) (l := [iv (n + 1)]) ty3 rfl rfl rfl rfl rfl (Zk rfl Zq) rfl <| Zb <| Zc <| Za <| JLr (Ze ty112 rfl (At.bx 2 rfl) rfl <| JLq (pp bL 0) (Pu.nilCheck rfl) <| JLq (pp bL 0) (fa114_0 rfl rfl) <| JLr (Ze ty3 rfl (At.bx 3 rfl) rfl ?_))))
 refine JLn (Pu.gtr rfl rfl) <| JLM rfl <| Zx 2 [20, 21] [(21, cond (decide (300 < n + 1)) undef (.bool (decide (60 < d))))] ?_ fun f5 => ?_
 ·cases h4 : (decide (300 < n + 1)) with
  | false =>
   replace h4 := df h4
   refine JLr (Ze ty3 rfl (At.bx 0 rfl) rfl <| JLn (Pu.gtr rfl rfl) ?_)
   exact Zb ⟨⟨rfl, trivial⟩, rfl⟩
  | true =>
   exact ZG rfl ⟨rfl, trivial⟩
 refine JLn (Pu.pickOr rfl rfl rfl) <| Zb <| Zf rfl (fun h6 => ?_) (fun h6 => ?_)
 ·refine Zc <| Za <| JLA rfl <| Zb <| Zh <| ⟨.bool true, [(BX bL [iv (n + 1)] 114)], Ret.one rfl (RV.tmp rfl), (Sd (Sd (Sd (Sk Sub.nil)))), ?_⟩
  refine ⟨?_, ?_⟩ <;> rw [cnP, if_pos (by simpa [stL] using h6)]
 obtain ⟨h6a, h6b⟩ := orF h6
 replace h6a := df h6a
 replace h6b := df h6b
 refine Zi <| Zc <| Za <| JLq (pp b2 34) (Yl rfl rfl) <| JLr (Ze Xv rfl (At.bx 1 rfl) (Yw ..) <| JLq (.func (.func 143) ⟨[]⟩ ⟨[pp b1 0, pp b3 0]⟩) (Pu.makeFunc rfl rfl) <| ZD 3 rfl Tryz.call31 rfl rfl (fun hin => containsP_ct 143 [] [pp b1 0, pp b3 0] (fun _ _ => rfl) (fun n => (BX bL [iv n] 114)) (fun n => 0 ≤ n ∧ n ≤ 300) (cnP stL (d + 1)) _ _ _ (RPs.mono (Hle.hu _ _) hks) (n + 1) ⟨by omega, by omega⟩ (fun x hx s hs hf => XM stL_le x _ s hs.1 hf) (fun x hx s hs a h hh ra => longPK_ct x d s a h bL b1 b3 ra (hh _ _ (hin 2 _ rfl _ _ List.mem_cons_self)) (hh _ _ (hin 0 _ rfl _ _ List.mem_cons_self)) (by omega) (by omega) (fun h' a' hh' ra' => ih x hx (d + 1) s a' h' bL ra' hs.1 hs.2 (by omega) (by omega)))) rfl ?_)
 rintro _ _ ⟨rfl, rfl⟩
 refine JLA rfl <| Zb <| Zh <| ⟨.bool ((ZP (cnP stL (d + 1)) kids (n + 1)).1), [(BX bL [iv ((ZP (cnP stL (d + 1)) kids (n + 1)).2)] 114)], Ret.one rfl (RV.tmp rfl), (Sk Sub.nil), ?_⟩
 refine ⟨?_, ?_⟩ <;> rw [cnP, if_neg (by simp [stL]; omega), cnPs_any]
theorem longC_ct : ∀ (c : Pt × Tm) (d n : Int) (a : List Value) (H : Heap) (bL bA bD bK : Nat), RC H a c → 0 ≤ n → n ≤ 300 → 0 ≤ d → d ≤ 60 → H bA = some (.cells ⟨[pp bL 0]⟩ 112 (0, 0)) → H bD = some (.cells ⟨[iv d]⟩ 3 (0, 0)) → H bK = some (.cells ⟨[.func (.func 126) ⟨[]⟩ ⟨[pp bA 0, pp bD 0]⟩]⟩ 33 (0, 0)) → (∀ s a h, Hle H h → RT h a c.2 → 0 ≤ s → s ≤ 300 → CT Tryz.prog 86 ⟨[pp bL 0, .agg ⟨a⟩, iv (d + 1)]⟩ [(BX bL [iv s] 114)] h (fun v N => v = .bool (cnT stL (d + 1) c.2 s).1 ∧ N = [(BX bL [iv ((cnT stL (d + 1) c.2 s).2)] 114)])) → CT Tryz.prog 127 ⟨[.agg ⟨a⟩, pp bA 0, pp bD 0, pp bK 0]⟩ [(BX bL [iv n] 114)] H (fun v N => v = .bool (cnC stL (d + 1) c n).1 ∧ N = [(BX bL [iv ((cnC stL (d + 1) c n).2)] 114)]) := by
 intro c d n a H bL bA bD bK ⟨ca, cb, e1, ra1, ra2⟩ hn0 hn1 hd0 hd1 hH1 hH5 hH7 hg
 subst e1
 refine Zm Tryz.func127 rfl rfl <| Zc <| Za <| JLr (Zo (l := ca ++ cb) rfl rfl fun b1 => JLA rfl <| Zb <| Zc <| Za <| JLr (Ze ty112 rfl (At.im hH1) rfl <| JLq (pp b1 0) (Y1 rfl rfl) <| JLr (Zg Z6 rfl (At.bx 0 rfl) (YE (Zu ra1)) <| JLr (Ze ty3 rfl (At.im hH5) rfl <| JLn (Pu.add64 rfl rfl (by first | omega | (constructor <;> omega))) ?_))))
 refine ZD 1 rfl Tryz.call116 rfl rfl (fun hin => longP_ct _ _ _ _ _ _ (RP.mono (Hle.hu _ _) ra1) (by omega) (by omega) (by omega) (by omega)) rfl ?_
 rintro _ _ ⟨rfl, rfl⟩
 refine JLM rfl ?_
 cases h3 : ((cnP stL (d + 1) (c.1) n).1) with
 | true =>
  iterate 4 refine ZC rfl ?_
  refine JLq (.bool true) (Pu.pickT rfl rfl) <| JLA rfl <| Zb <| Zh <| ⟨.bool true, [(BX bL [iv ((cnP stL (d + 1) (c.1) n).2)] 114)], Ret.one rfl (RV.tmp rfl), (Sk Sub.nil), ?_⟩
  refine ⟨?_, ?_⟩ <;> rw [cnC, if_pos h3]
 | false =>
  refine JLr (Ze ty33 rfl (At.im hH7) rfl <| JLq (pp b1 35) (fa80_1 rfl rfl) <| JLr (Zg Zs rfl (At.bx 1 rfl) (Xg (Zu ra1) (Zv ra2)) <| ZD 0 rfl Tryz.call126 rfl rfl (fun hin => longTK_ct _ d _ _ _ bL bA bD (RT.mono (Hle.hu _ _) ra2) (Hle.hu _ _ _ _ hH1) (Hle.hu _ _ _ _ hH5) (by omega) (by omega) (fun h' a' hh' ra' => hg _ _ _ (Hle.trans (Hle.hu _ _) hh') ra' (XM stL_le _ _ _ hn0 h3).1 (XM stL_le _ _ _ hn0 h3).2)) rfl ?_))
  rintro _ _ ⟨rfl, rfl⟩
  refine JLq (.bool ((cnT stL (d + 1) (c.2) ((cnP stL (d + 1) (c.1) n).2)).1)) (Pu.pickF rfl rfl) <| JLA rfl <| Zb <| Zh <| ⟨.bool ((cnT stL (d + 1) (c.2) ((cnP stL (d + 1) (c.1) n).2)).1), [(BX bL [iv ((cnT stL (d + 1) (c.2) ((cnP stL (d + 1) (c.1) n).2)).2)] 114)], Ret.one rfl (RV.tmp rfl), (Sk Sub.nil), ?_⟩
  refine ⟨?_, ?_⟩ <;> rw [cnC, if_neg (by simp [h3])]
theorem longT_ct : ∀ (t : Tm) (d n : Int) (cs : List Value) (H : Heap) (bL : Nat), RT H cs t → 0 ≤ n → n ≤ 300 → 0 ≤ d → d ≤ 61 → CT Tryz.prog 86 ⟨[pp bL 0, .agg ⟨cs⟩, iv d]⟩ [(BX bL [iv n] 114)] H (fun v N => v = .bool (cnT stL d t n).1 ∧ N = [(BX bL [iv ((cnT stL d t n).2)] 114)]) := by
 intro t
 induction t using Tm.ind with
 | h kind num ref kids cases ih ih' =>
 intro d n cs H bL ht hn0 hn1 hd0 hd1
 obtain ⟨ks, cv, rfl, hk, hn, hks, hcv⟩ := RT_mk.1 ht
 refine Zm Tryz.func86 rfl rfl <| Zc <| Za <| JLr (Zo (l := [pp bL 0]) rfl rfl fun b1 => JLr (Zo (l := pkT kind num ref ks cv) rfl rfl fun b2 => JLr (Zo (l := [iv d]) rfl rfl fun b3 => JLA rfl <| Zb <| Zc <| Zc <| Za <| JLr (Ze ty112 rfl (At.bx 2 rfl) rfl <| JLq (pp bL 0) (Pu.nilCheck rfl) ?_))))
 refine JLq (pp bL 0) (fa114_0 rfl rfl) <| JLr (Ze ty3 rfl (At.bx 3 rfl) rfl <| JLn (Pu.add64 rfl rfl (by first | omega | (constructor <;> omega))) <| JLq (pp bL 0) (Pu.nilCheck rfl) <| JLq (pp bL 0) (fa114_0 rfl rfl) <| JLr (Zd 3 (vs := [iv (n + 1)]) (l := [iv (n + 1)]) ty3 rfl rfl rfl rfl rfl (Zk rfl Zq) rfl <| Zb <| Zc <| Za <| JLr (Ze ty112 rfl (At.bx 2 rfl) rfl <| JLq (pp bL 0) (Pu.nilCheck rfl) <| JLq (pp bL 0) (fa114_0 rfl rfl) <| JLr (Ze ty3 rfl (At.bx 3 rfl) rfl ?_))))
 refine JLn (Pu.gtr rfl rfl) <| JLM rfl <| Zx 2 [21, 22] [(22, cond (decide (300 < n + 1)) undef (.bool (decide (60 < d))))] ?_ fun f5 => ?_
 ·cases h4 : (decide (300 < n + 1)) with
  | false =>
   replace h4 := df h4
   refine JLr (Ze ty3 rfl (At.bx 0 rfl) rfl <| JLn (Pu.gtr rfl rfl) ?_)
   exact Zb ⟨⟨rfl, trivial⟩, rfl⟩
  | true =>
   exact ZG rfl ⟨rfl, trivial⟩
 refine JLn (Pu.pickOr rfl rfl rfl) <| Zb <| Zf rfl (fun h6 => ?_) (fun h6 => ?_)
 ·refine Zc <| Za <| JLA rfl <| Zb <| Zh <| ⟨.bool true, [(BX bL [iv (n + 1)] 114)], Ret.one rfl (RV.tmp rfl), (Sd (Sd (Sd (Sk Sub.nil)))), ?_⟩
  refine ⟨?_, ?_⟩ <;> rw [cnT, if_pos (by simpa [stL] using h6)]
 obtain ⟨h6a, h6b⟩ := orF h6
 replace h6a := df h6a
 replace h6b := df h6b
 refine Zi <| Zc <| Za <| JLq (.func (.func 126) ⟨[]⟩ ⟨[pp b1 0, pp b3 0]⟩) (Pu.makeFunc rfl rfl) <| JLr (Zn (l := [.nilFunc]) Tryz.zeroValue33 rfl fun b7 => JLr (Zd 0 (vs := [.func (.func 126) ⟨[]⟩ ⟨[pp b1 0, pp b3 0]⟩]) (l := [.func (.func 126) ⟨[]⟩ ⟨[pp b1 0, pp b3 0]⟩]) ty33 rfl rfl rfl rfl rfl (Zk rfl Zq) rfl <| Zb <| Zc <| Za <| JLq (pp b2 34) (Z8 rfl rfl) <| JLr (Ze YW rfl (At.bx 2 rfl) (Yb ..) <| JLr (Ze ty33 rfl (At.bx 0 rfl) rfl <| ZD 4 rfl Tryz.call33 rfl rfl (fun hin => containsT_ct 126 [] [pp b1 0, pp b3 0] (fun _ _ => rfl) (fun n => (BX bL [iv n] 114)) (fun n => 0 ≤ n ∧ n ≤ 300) (cnT stL (d + 1)) _ _ _ (RTs.mono (Hle.hu _ _) hks) (n + 1) ⟨by omega, by omega⟩ (fun x hx s hs hf => cnT_keep stL_le x _ s hs.1 hf) (fun x hx s hs a h hh ra => longTK_ct x d s a h bL b1 b3 ra (hh _ _ (hin 3 _ rfl _ _ List.mem_cons_self)) (hh _ _ (hin 1 _ rfl _ _ List.mem_cons_self)) (by omega) (by omega) (fun h' a' hh' ra' => ih x hx (d + 1) s a' h' bL ra' hs.1 hs.2 (by omega) (by omega)))) rfl ?_))))
 rintro _ _ ⟨rfl, rfl⟩
 refine JLM rfl ?_
 cases h9 : ((ZP (cnT stL (d + 1)) kids (n + 1)).1) with
 | true =>
  iterate 4 refine ZC rfl ?_
  refine JLq (.bool true) (Pu.pickT rfl rfl) <| JLA rfl <| Zb <| Zh <| ⟨.bool true, [(BX bL [iv ((ZP (cnT stL (d + 1)) kids (n + 1)).2)] 114)], Ret.one rfl (RV.tmp rfl), (Sk Sub.nil), ?_⟩
  refine ⟨?_, ?_⟩ <;> rw [cnT, if_neg (by simp [stL]; omega), cnTs_any, if_pos h9]
 | false =>
  refine JLq (pp b2 35) (Z1 rfl rfl) <| JLr (Ze YI rfl (At.bx 3 rfl) (Z2 ..) <| JLq (.func (.func 127) ⟨[]⟩ ⟨[pp b1 0, pp b3 0, pp b7 0]⟩) (Pu.makeFunc rfl rfl) <| ZD 0 rfl Tryz.call34 rfl rfl (fun hin => containsC_ct 127 [] [pp b1 0, pp b3 0, pp b7 0] (fun _ _ => rfl) (fun n => (BX bL [iv n] 114)) (fun n => 0 ≤ n ∧ n ≤ 300) (cnC stL (d + 1)) _ _ _ (RCs.mono (Hle.hu _ _) hcv) ((ZP (cnT stL (d + 1)) kids (n + 1)).2) (anyT_keep stL_le _ _ _ (by omega) (by omega) h9) (fun x hx s hs hf => cnC_keep stL_le x _ s hs.1 hf) (fun x hx s hs a h hh ra => longC_ct x d s a h bL b1 b3 b7 ra hs.1 hs.2 (by omega) (by omega) (hh _ _ (hin 3 _ rfl _ _ List.mem_cons_self)) (hh _ _ (hin 1 _ rfl _ _ List.mem_cons_self)) (hh _ _ (hin 0 _ rfl _ _ List.mem_cons_self)) (fun s' a' h' hh' ra' k1 k2 => ih' x hx (d + 1) s' a' h' bL ra' k1 k2 (by omega) (by omega)))) rfl ?_)
  rintro _ _ ⟨rfl, rfl⟩
  refine JLq (.bool ((ZP (cnC stL (d + 1)) cases ((ZP (cnT stL (d + 1)) kids (n + 1)).2)).1)) (Pu.pickF rfl rfl) <| JLA rfl <| Zb <| Zh <| ⟨.bool ((ZP (cnC stL (d + 1)) cases ((ZP (cnT stL (d + 1)) kids (n + 1)).2)).1), [(BX bL [iv ((ZP (cnC stL (d + 1)) cases ((ZP (cnT stL (d + 1)) kids (n + 1)).2)).2)] 114)], Ret.one rfl (RV.tmp rfl), (Sk Sub.nil), ?_⟩
  refine ⟨?_, ?_⟩ <;> rw [cnT, if_neg (by simp [stL]; omega), cnTs_any, if_neg (by simp [h9]), cnCs_any]
end Go.Proofs.YtmophpgiaiemhaaGreat.Hs
/-! The mapper without a state. -/
namespace Go.Proofs.YtmophpgiaiemhaaGreat.Hs
open Go Go.Proofs
set_option maxRecDepth 100000

theorem CT.nils {P : Program} {f : FuncId} {a : Array Value} {H : Heap} {t : Tm} (h : CT P f a [] H (fun v N => ∃ cs k, v = .agg ⟨cs⟩ ∧ N = [k] ∧ OT t cs k)) :
    CT P f a [[]] H (fun v N => ∃ cs k, v = .agg ⟨cs⟩ ∧ N = [k, []] ∧ OT t cs k) := fun F w m => by
  refine (h F w (by simpa using m)).mono ?_
  rintro e w' ⟨v, N, h1, h2, cs, k, h3, h4, h5⟩
  subst h4
  exact ⟨v, [k, []], h1, by simpa using h2, cs, k, h3, rfl, h5⟩
theorem CT.unnils {P : Program} {f : FuncId} {a : Array Value} {H : Heap} {t : Tm} (h : CT P f a [[]] H (fun v N => ∃ cs k, v = .agg ⟨cs⟩ ∧ N = [k, []] ∧ OT t cs k)) :
    CT P f a [] H (fun v N => ∃ cs k, v = .agg ⟨cs⟩ ∧ N = [k] ∧ OT t cs k) := fun F w m => by
  refine (h F w (by simpa using m)).mono ?_
  rintro e w' ⟨v, N, h1, h2, cs, k, h3, h4, h5⟩
  subst h4
  exact ⟨v, [k], h1, by simpa using h2, cs, k, h3, rfl, h5⟩

theorem mapTermP_ct (gr : Nat) (frs crs : List Value) (hcallr : ∀ args w, (callFunc gr args).run Tryz.prog w = .ok (.enter gr args) w) (rf : Sm → Sm) (gv : Nat) (fvs cvs : List Value) (hcallv : ∀ args w, (callFunc gv args).run Tryz.prog w = .ok (.enter gv args) w)
    (vf : Int → Int → Tm) (t : Tm) (b : Int) (cs : List Value) (H : Heap) (ht : RT H cs t) (hz : sizeT t ≤ 1000000) (hv : vOK t) (hb0 : 0 ≤ b) (hb : b + 2 * sizeT t ≤ 2000000)
    (hgr : ∀ s h, Hle H h → CT Tryz.prog gr ⟨frs ++ [.agg ⟨sC s⟩] ++ crs⟩ [] h (fun v N => v = .agg ⟨sC (rf s)⟩ ∧ N = []))
    (hgv : ∀ (n b : Int) (h : Heap), Hle H h → 0 ≤ n → n ≤ 2000000 → 0 ≤ b → b ≤ 2000000 → CT Tryz.prog gv ⟨fvs ++ [.int .i64 n, .int .i64 b] ++ cvs⟩ [] h (fun v N => ∃ cs k, v = .agg ⟨cs⟩ ∧ N = [k] ∧ OT (vf n b) cs k)) :
    CT Tryz.prog 85 ⟨[.agg ⟨[.func (.func gv) ⟨fvs⟩ ⟨cvs⟩, .func (.func gr) ⟨frs⟩ ⟨crs⟩]⟩, .agg ⟨cs⟩, .int .i64 b]⟩ [] H (fun v N => ∃ cs k, v = .agg ⟨cs⟩ ∧ N = [k] ∧ OT (mapQ rf vf b t) cs k) :=
  CT.unnils (mapTerm_ct gr frs crs hcallr rf gv fvs cvs hcallv Unit (fun _ => []) (fun _ => True) (fun n b s => (vf n b, s)) (fun _ _ _ _ => trivial) t b () cs H ht hz hv hb0 hb trivial hgr
    (fun n b _ h hh _ h1 h2 h3 h4 => CT.nils (hgv n b h hh h1 h2 h3 h4)))
end Go.Proofs.YtmophpgiaiemhaaGreat.Hs
/-! Walks, printed by a program of this session's own (gen.py). -/
namespace Go.Proofs.YtmophpgiaiemhaaGreat.Hs
open Go Go.Proofs
set_option maxRecDepth 100000
set_option linter.unusedVariables false
set_option linter.unusedSimpArgs false
attribute [local irreducible] JL J CT wlo DT
theorem shiftedV_ct (n b dy fr : Int) (H : Heap) (bF bD : Nat) (hF : H bF = some (.cells ⟨[iv fr]⟩ 3 (0, 0))) (hD : H bD = some (.cells ⟨[iv dy]⟩ 3 (0, 0))) (hn0 : 0 ≤ n) (hn1 : n ≤ 2000000) (hb0 : 0 ≤ b) (hb1 : b ≤ 2000000) (hd0 : -2000000 ≤ dy) (hd1 : dy ≤ 2000000) : CT Tryz.prog 125 ⟨[iv n, iv b, pp bF 0, pp bD 0]⟩ [] H (fun v N => ∃ cs k, v = .agg ⟨cs⟩ ∧ N = [k] ∧ OT (shv dy fr n b) cs k) := by
 refine Zm Tryz.func125 rfl rfl <| Zc <| Za <| JLr (Zn (l := pkT 0 0 zS nS nS) Tryz.zeroValue27 rfl fun b1 => Zb <| Zc <| Zc <| Za <| JLM rfl <| JLr (Ze ty3 rfl (At.im hF) rfl <| JLn (Pu.geq rfl rfl) <| Zb <| Zf rfl (fun h2 => ?_) (fun h2 => ?_)))
 ·replace h2 := dt h2
  refine Za <| JLM rfl <| JLr (Ze ty3 rfl (At.im hD) rfl <| JLn (Pu.add64 rfl rfl (by first | omega | (constructor <;> omega))) <| JLA rfl <| Zb <| Zc <| Za <| JLM rfl <| JLM rfl <| Jc Tryz.call83 rfl (fun hin => stay_ct _ _ _ (by unfold inI; omega)) rfl ?_)
  rintro _ _ ⟨cs3, k3, rfl, rfl, hO3⟩
  refine JLr (Zd 1 (vs := cs3) (l := cs3) Zs rfl rfl rfl rfl hO3.len hO3.ok (ZM (n := 36) rfl hO3.len) <| Zb <| Zh <| ⟨.agg ⟨cs3⟩, [k3], Ret.one rfl (RV.cell Zs rfl (At.bx 1 rfl) (Zt hO3.len)), (Sk Sub.nil), ?_⟩)
  have hx : shv dy fr n b = .mk 1 (n + dy + b) zS [] [] := by first | rfl | (simp only [shv]; (repeat' split) <;> first | rfl | (exfalso; omega))
  exact ⟨_, _, rfl, rfl, by rw [hx]; exact hO3⟩
 replace h2 := df h2
 refine Zi <| Zc <| Za <| JLM rfl <| JLM rfl <| Jc Tryz.call83 rfl (fun hin => stay_ct _ _ _ (by unfold inI; omega)) rfl ?_
 rintro _ _ ⟨cs4, k4, rfl, rfl, hO4⟩
 refine JLr (Zd 1 (vs := cs4) (l := cs4) Zs rfl rfl rfl rfl hO4.len hO4.ok (ZM (n := 36) rfl hO4.len) <| Zb <| Zh <| ⟨.agg ⟨cs4⟩, [k4], Ret.one rfl (RV.cell Zs rfl (At.bx 1 rfl) (Zt hO4.len)), (Sk Sub.nil), ?_⟩)
 have hx : shv dy fr n b = .mk 1 (n + b) zS [] [] := by first | rfl | (simp only [shv]; (repeat' split) <;> first | rfl | (exfalso; omega))
 exact ⟨_, _, rfl, rfl, by rw [hx]; exact hO4⟩
theorem shifted_ct (t : Tm) (dy fr : Int) (cs : List Value) (H : Heap) (ht : RT H cs t) (hz : sizeT t ≤ 900000) (hv : vOK t) (hd0 : -2000000 ≤ dy) (hd1 : dy ≤ 2000000) : CT Tryz.prog 82 ⟨[.agg ⟨cs⟩, iv dy, iv fr]⟩ [] H (fun v N => ∃ cs k, v = .agg ⟨cs⟩ ∧ N = [k] ∧ OT (shT dy fr t) cs k) := by
 refine Zm Tryz.func82 rfl rfl <| Zc <| Za <| JLr (Zo (l := cs) rfl rfl fun b1 => JLr (Zo (l := [iv dy]) rfl rfl fun b2 => JLr (Zo (l := [iv fr]) rfl rfl fun b3 => JLr (Zn (l := pkT 0 0 zS nS nS) Tryz.zeroValue27 rfl fun b4 => Zb <| Zc <| Za <| JLq (.func (.func 125) ⟨[]⟩ ⟨[pp b3 0, pp b2 0]⟩) (Pu.makeFunc rfl rfl) <| JLq (.agg ⟨[.func (.func 125) ⟨[]⟩ ⟨[pp b3 0, pp b2 0]⟩, .func (.func 84) ⟨[]⟩ ⟨[]⟩]⟩) (Pu.build (pv := [(0, .func (.func 125) ⟨[]⟩ ⟨[pp b3 0, pp b2 0]⟩), (1, .func (.func 84) ⟨[]⟩ ⟨[]⟩)]) (l := [.func (.func 125) ⟨[]⟩ ⟨[pp b3 0, pp b2 0]⟩, .func (.func 84) ⟨[]⟩ ⟨[]⟩]) rfl (bld136_0_1 _ _ _ _ _ _)) <| JLr (Zg Zs rfl (At.bx 3 rfl) (Zt (Zv ht)) ?_)))))
 refine Jc Tryz.call85 rfl (fun hin => mapTermP_ct 84 [] [] Tryz.call84 (fun s => s) 125 [] [pp b3 0, pp b2 0] Tryz.call125 (shv dy fr) _ _ _ _ (RT.mono (Hle.hu _ _) ht) (by omega) hv (by decide) (by omega) (fun s h hh => same_ct s h) (fun n b h hh h1 h2 h3 h4 => shiftedV_ct n b dy fr h b3 b2 (hh _ _ (hin 1 _ rfl _ _ List.mem_cons_self)) (hh _ _ (hin 2 _ rfl _ _ List.mem_cons_self)) h1 h2 h3 h4 hd0 hd1)) rfl ?_
 rintro _ _ ⟨cs5, k5, rfl, rfl, hO5⟩
 refine JLr (Zd 1 (vs := cs5) (l := cs5) Zs rfl rfl rfl rfl hO5.len hO5.ok (ZM (n := 36) rfl hO5.len) <| Zb <| Zh <| ⟨.agg ⟨cs5⟩, [k5], Ret.one rfl (RV.cell Zs rfl (At.bx 1 rfl) (Zt hO5.len)), (Sk Sub.nil), ?_⟩)
 have hx : shT dy fr t = mapQ (fun s => s) (shv dy fr) 0 t := by first | rfl | (simp only [shT]; (repeat' split) <;> first | rfl | (exfalso; omega))
 exact ⟨_, _, rfl, rfl, by rw [hx]; exact hO5⟩
theorem substV_ct (n b m : Int) (u : Tm) (us : List Value) (H : Heap) (bN bU : Nat) (hN : H bN = some (.cells ⟨[iv m]⟩ 3 (0, 0))) (hU : H bU = some (.cells ⟨us⟩ 27 (0, 0))) (hu1 : RT H us u) (hzu : sizeT u ≤ 900000) (hvu : vOK u) (hn0 : 0 ≤ n) (hn1 : n ≤ 2000000) (hb0 : 0 ≤ b) (hb1 : b ≤ 2000000) : CT Tryz.prog 81 ⟨[iv n, iv b, pp bN 0, pp bU 0]⟩ [] H (fun v N => ∃ cs k, v = .agg ⟨cs⟩ ∧ N = [k] ∧ OT (sbv m u n b) cs k) := by
 refine Zm Tryz.func81 rfl rfl <| Zc <| Za <| JLr (Zn (l := pkT 0 0 zS nS nS) Tryz.zeroValue27 rfl fun b1 => Zb <| Zc <| Zl <| Zc <| Za <| JLM rfl <| JLr (Ze ty3 rfl (At.im hN) rfl <| JLn (Pu.eql rfl rfl) <| JLA rfl ?_))
 refine Zb <| Zf rfl (fun h2 => ?_) (fun h2 => ?_)
 ·replace h2 := dt h2
  refine Zc <| Za <| JLr (Zg Zs rfl (At.im hU) (Zt (Zv hu1)) <| JLM rfl <| Jc Tryz.call82 rfl (fun hin => shifted_ct _ _ _ _ _ (RT.mono (Hle.hu _ _) hu1) hzu hvu (by omega) (by omega)) rfl ?_)
  rintro _ _ ⟨cs3, k3, rfl, rfl, hO3⟩
  refine JLr (Zd 1 (vs := cs3) (l := cs3) Zs rfl rfl rfl rfl hO3.len hO3.ok (ZM (n := 36) rfl hO3.len) <| Zb <| Zh <| ⟨.agg ⟨cs3⟩, [k3], Ret.one rfl (RV.cell Zs rfl (At.bx 1 rfl) (Zt hO3.len)), (Sk Sub.nil), ?_⟩)
  have hx : sbv m u n b = shT b 0 u := by first | rfl | (simp only [sbv]; (repeat' split) <;> first | rfl | (exfalso; omega))
  exact ⟨_, _, rfl, rfl, by rw [hx]; exact hO3⟩
 replace h2 := df h2
 refine Zc <| Za <| JLM rfl <| JLr (Ze ty3 rfl (At.im hN) rfl <| JLn (Pu.gtr rfl rfl) <| JLA rfl <| Zb <| Zf rfl (fun h4 => ?_) (fun h4 => ?_))
 ·replace h4 := dt h4
  refine Za <| JLM rfl <| JLn (Pu.sub64 rfl rfl (by first | omega | (constructor <;> omega))) <| JLA rfl <| Zb <| Zc <| Za <| JLM rfl <| JLM rfl <| Jc Tryz.call83 rfl (fun hin => stay_ct _ _ _ (by unfold inI; omega)) rfl ?_
  rintro _ _ ⟨cs5, k5, rfl, rfl, hO5⟩
  refine JLr (Zd 1 (vs := cs5) (l := cs5) Zs rfl rfl rfl rfl hO5.len hO5.ok (ZM (n := 36) rfl hO5.len) <| Zb <| Zh <| ⟨.agg ⟨cs5⟩, [k5], Ret.one rfl (RV.cell Zs rfl (At.bx 1 rfl) (Zt hO5.len)), (Sk Sub.nil), ?_⟩)
  have hx : sbv m u n b = .mk 1 (n - 1 + b) zS [] [] := by first | rfl | (simp only [sbv]; (repeat' split) <;> first | rfl | (exfalso; omega))
  exact ⟨_, _, rfl, rfl, by rw [hx]; exact hO5⟩
 replace h4 := df h4
 refine Zi <| Zc <| Za <| JLM rfl <| JLM rfl <| Jc Tryz.call83 rfl (fun hin => stay_ct _ _ _ (by unfold inI; omega)) rfl ?_
 rintro _ _ ⟨cs6, k6, rfl, rfl, hO6⟩
 refine JLr (Zd 1 (vs := cs6) (l := cs6) Zs rfl rfl rfl rfl hO6.len hO6.ok (ZM (n := 36) rfl hO6.len) <| Zb <| Zh <| ⟨.agg ⟨cs6⟩, [k6], Ret.one rfl (RV.cell Zs rfl (At.bx 1 rfl) (Zt hO6.len)), (Sk Sub.nil), ?_⟩)
 have hx : sbv m u n b = .mk 1 (n + b) zS [] [] := by first | rfl | (simp only [sbv]; (repeat' split) <;> first | rfl | (exfalso; omega))
 exact ⟨_, _, rfl, rfl, by rw [hx]; exact hO6⟩
theorem short_ct (t : Tm) (cs : List Value) (H : Heap) (ht : RT H cs t) : CT Tryz.prog 80 ⟨[.agg ⟨cs⟩]⟩ [] H (fun v N => v = .tuple ⟨[.agg ⟨if longB t = true then pkT 0 0 zS nS nS else cs⟩, iv (if longB t = true then 11 else 0)]⟩ ∧ N = []) := by
 refine Zm Tryz.func80 rfl rfl <| Zc <| Za <| JLr (Zo (l := cs) rfl rfl fun b1 => JLr (Zn (l := pkT 0 0 zS nS nS) Tryz.zeroValue27 rfl fun b2 => JLA rfl <| Zb <| Zc <| Zc <| Za <| JLq (.agg ⟨[iv 0]⟩) (Pu.build (pv := []) (l := [iv 0]) rfl bld114_) <| JLr (Zo (l := [iv 0]) rfl rfl fun b3 => JLr (Zg Zs rfl (At.bx 2 rfl) (Zt (Zv ht)) ?_))))
 refine ZD 0 rfl Tryz.call86 rfl rfl (fun hin => longT_ct _ _ _ _ _ _ (RT.mono (Hle.hu _ _) ht) (by omega) (by omega) (by omega) (by omega)) rfl ?_
 rintro _ _ ⟨rfl, rfl⟩
 refine Zb <| Zf rfl (fun h5 => ?_) (fun h5 => ?_)
 ·refine Zc <| Za <| JLq (.agg ⟨pkT 0 0 zS nS nS⟩) (Pu.build (pv := []) (l := pkT 0 0 zS nS nS) rfl (YR )) <| JLr (Zd 1 (vs := pkT 0 0 zS nS nS) (l := pkT 0 0 zS nS nS) Zs rfl rfl rfl rfl rfl (ZI rfl rfl) (Yk ..) <| JLA rfl <| Zb <| Zh <| ⟨.tuple ⟨[.agg ⟨pkT 0 0 zS nS nS⟩, iv 11]⟩, [], Ret.two rfl (RV.cell Zs rfl (At.bx 1 rfl) (Z9 ..)) (RV.tmp rfl), Sub.nil, ?_⟩)
  rw [long_eq] at h5
  exact ⟨by simp [h5], rfl⟩
 refine Zi <| Zc <| Za <| JLr (Zg Zs rfl (At.bx 2 rfl) (Zt (Zv ht)) <| JLr (Zd 1 (vs := cs) (l := cs) Zs rfl rfl rfl rfl (Zv ht) (XC ht) (ZM (n := 36) rfl (Zv ht)) <| JLA rfl <| Zb <| Zh <| ⟨.tuple ⟨[.agg ⟨cs⟩, iv 0]⟩, [], Ret.two rfl (RV.cell Zs rfl (At.bx 1 rfl) (Zt (Zv ht))) (RV.tmp rfl), Sub.nil, ?_⟩))
 rw [long_eq] at h5
 exact ⟨by simp [h5], rfl⟩
end Go.Proofs.YtmophpgiaiemhaaGreat.Hs
/-! Walks, printed by a program of this session's own (gen.py). -/
namespace Go.Proofs.YtmophpgiaiemhaaGreat.Hs
open Go Go.Proofs
set_option maxRecDepth 100000
set_option linter.unusedVariables false
set_option linter.unusedSimpArgs false
attribute [local irreducible] JL J CT wlo DT
theorem known_ct (n b d : Int) (H : Heap) (bD : Nat) (hD : H bD = some (.cells ⟨[iv d]⟩ 3 (0, 0))) (hb0 : 0 ≤ b) (hb1 : b ≤ 1000000) (hn1 : -9223372036854775808 ≤ n) (hn2 : n ≤ 9223372036854775807) : CT Tryz.prog 87 ⟨[iv n, iv b, pp bD 0]⟩ [] H (fun v N => v = .bool (knownB d n b) ∧ N = []) := by
 refine Zm Tryz.func87 rfl rfl <| Zc <| Za <| JLA rfl <| Zb <| Zc <| Za <| JLM rfl <| JLn (Pu.geq rfl rfl) <| JLM rfl <| Zx 10 [9, 10, 11, 12, 13, 14, 15, 16, 17, 18] [(18, cond (decide (0 ≤ n)) (.bool ((decide (n < b)) || (decide (n - b < d)))) undef)] ?_ fun f4 => ?_
 ·cases h1 : (decide (0 ≤ n)) with
  | true =>
   replace h1 := dt h1
   refine JLM rfl <| JLM rfl <| JLn (Pu.lss rfl rfl) <| JLM rfl <| Zx 5 [13, 14, 15, 16, 17] [(17, cond (decide (n < b)) undef (.bool (decide (n - b < d))))] ?_ fun f3 => ?_
   ·cases h2 : (decide (n < b)) with
    | false =>
     replace h2 := df h2
     refine JLM rfl <| JLM rfl <| JLn (Pu.sub64 rfl rfl (by first | omega | (constructor <;> omega))) <| JLr (Ze ty3 rfl (At.im hD) rfl <| JLn (Pu.lss rfl rfl) ?_)
     exact Zb ⟨⟨rfl, trivial⟩, rfl⟩
    | true =>
     exact ZG rfl ⟨rfl, trivial⟩
   refine JLn (Pu.pickOr rfl rfl rfl) ?_
   exact Zb ⟨⟨rfl, trivial⟩, rfl⟩
  | false =>
   exact ZG rfl ⟨rfl, trivial⟩
 refine JLn (Pu.pickAnd rfl rfl rfl) <| JLA rfl <| Zb <| Zh <| ⟨.bool ((decide (0 ≤ n)) && ((decide (n < b)) || (decide (n - b < d)))), [], Ret.one rfl (RV.tmp rfl), Sub.nil, ?_⟩
 exact ⟨rfl, rfl⟩
set_option maxHeartbeats 2000000 in
theorem chkTerm_ct (kind num : Int) (ref : Sm) (ks cv : Value) (kids : List Tm) (cases : List (Pt × Tm)) (d m b : Int) (H : Heap) (bD : Nat) (hks : rdS RT 36 H ks kids) (hcv : rdS RC 71 H cv cases) (hD : H bD = some (.cells ⟨[iv d]⟩ 3 (0, 0))) (hb0 : 0 ≤ b) (hb1 : b ≤ 1000000) (hn1 : -9223372036854775808 ≤ num) (hn2 : num ≤ 9223372036854775807) : CT Tryz.prog 128 ⟨[.agg ⟨[iv m, .func (.func 87) ⟨[]⟩ ⟨[pp bD 0]⟩]⟩, .agg ⟨pkT kind num ref ks cv⟩, iv b]⟩ [] H (fun v N => v = iv (YO d m b kind num ref kids.length cases.length) ∧ N = []) := by
 refine Zm Tryz.func128 rfl rfl <| Zc <| Za <| JLr (Zo (l := [iv m, .func (.func 87) ⟨[]⟩ ⟨[pp bD 0]⟩]) rfl rfl fun b1 => JLr (Zo (l := pkT kind num ref ks cv) rfl rfl fun b2 => JLA rfl <| Zb <| Zc <| Zl <| Zc <| Za <| JLq (pp b2 0) (ZO rfl rfl) <| JLr (Ze ty3 rfl (At.bx 0 rfl) (Z3 ..) ?_)))
 refine Jc Tryz.call79 rfl (fun hin => Y0 _ _ _ _) rfl ?_
 rintro _ _ ⟨rfl, rfl⟩
 refine JLA rfl <| Zb <| Zf rfl (fun h3 => ?_) (fun h3 => ?_)
 ·replace h3 := dt h3
  refine Zc <| Za <| JLA rfl <| Zb <| Zh <| ⟨iv 3, [], Ret.one rfl (RV.tmp rfl), Sub.nil, ?_⟩
  exact ⟨by refine congrArg (Value.int .i64) ?_; simp only [YO]; (repeat' split) <;> first | rfl | omega | (exfalso; simp_all; done) | (exfalso; simp_all; omega) | grind, rfl⟩
 replace h3 := df h3
 refine Zc <| ZF mixed #[0, 1, 3, 0, 8, 0, 32, 0, 128, 384, 1023, 2047] 10 [some 13, some 14, some 15, some 16, some 17, some 18, some 19, some 20, some 21, some 22] [] [(2, fun _ _ vw qw => vw = .agg ⟨[.bool (fN kind), .bool (fR kind), .bool (fC kind)]⟩ ∧ qw = [])] rfl (by kernel_rfl) rfl (by kernel_rfl) <| Dq (pp b2 0) (fun _ => ZO rfl rfl) <| Dl1 ty3 (At.bx 0 rfl) (Z3 ..) <| Dc rfl Tryz.call159 (fun _ => rfl) (fun hin => fields_ct _ _) ?_
 rintro _ _ ⟨rfl, rfl⟩
 refine Dq (pp b2 1) (fun _ => ZZ rfl rfl) <| Dl1 ty3 (At.bx 0 rfl) (Yh ..) <| Dq (pp b2 2) (fun _ => fa27_2 rfl rfl) <| Dl Xm (At.bx 0 rfl) (pkT_2 ..) <| Dq (pp b2 35) (fun _ => Z1 rfl rfl) <| Dl1 YI (At.bx 0 rfl) (Z2 ..) ?_
 obtain ⟨a5, cap5, hv5⟩ := hcv.sl
 have hle5 := hcv.le
 refine Dn (fun _ => Pu.lenSl Tryz.runUnderlying25 hv5) <| ZL (M' := [(BX b2 (pkT kind num ref ks cv) 27), (BX b1 [iv m, .func (.func 87) ⟨[]⟩ ⟨[pp bD 0]⟩] 141)]) rfl ?_
 show JL _ _ _ [_, _] _ _ _
 refine Jc Tryz.call158 rfl (fun hin => clash_ct _ _ _ _ _ _ _) rfl ?_
 rintro _ _ ⟨rfl, rfl⟩
 refine JLA rfl <| Zb <| Zf rfl (fun h6 => ?_) (fun h6 => ?_)
 ·refine Zc <| Za <| JLA rfl <| Zb <| Zh <| ⟨iv 7, [], Ret.one rfl (RV.tmp rfl), Sub.nil, ?_⟩
  exact ⟨by refine congrArg (Value.int .i64) ?_; simp only [YO]; (repeat' split) <;> first | rfl | omega | (exfalso; simp_all; done) | (exfalso; simp_all; omega) | grind, rfl⟩
 refine Zc <| Za <| JLq (pp b2 0) (ZO rfl rfl) <| JLr (Ze ty3 rfl (At.bx 0 rfl) (Z3 ..) <| JLq (pp b2 34) (Z8 rfl rfl) <| JLr (Ze YW rfl (At.bx 0 rfl) (Yb ..) ?_))
 obtain ⟨a7, cap7, hv7⟩ := hks.sl
 have hle7 := hks.le
 refine JLn (Pu.lenSl Tryz.runUnderlying24 hv7) <| Jc Tryz.call160 rfl (fun hin => kidsT_ct _ _ _) rfl ?_
 rintro _ _ ⟨rfl, rfl⟩
 refine JLn (Pu.not rfl) <| JLM rfl <| Zx 4 [33, 34, 35, 36] [(36, cond (!(kidsB kind ((kids.length : Int)))) undef (.bool (decide (8 < (cases.length : Int)))))] ?_ fun f10 => ?_
 ·cases h8 : (!(kidsB kind ((kids.length : Int)))) with
  | false =>
   replace h8 := nf h8
   refine JLq (pp b2 35) (Z1 rfl rfl) <| JLr (Ze YI rfl (At.bx 0 rfl) (Z2 ..) ?_)
   obtain ⟨a9, cap9, hv9⟩ := hcv.sl
   have hle9 := hcv.le
   refine JLn (Pu.lenSl Tryz.runUnderlying25 hv9) <| JLn (Pu.gtr rfl rfl) ?_
   exact Zb ⟨⟨rfl, trivial⟩, rfl⟩
  | true =>
   exact ZG rfl ⟨rfl, trivial⟩
 refine JLn (Pu.pickOr rfl rfl rfl) <| JLA rfl <| Zb <| Zf rfl (fun h11 => ?_) (fun h11 => ?_)
 ·refine Zc <| Za <| JLA rfl <| Zb <| Zh <| ⟨iv 2, [], Ret.one rfl (RV.tmp rfl), Sub.nil, ?_⟩
  exact ⟨by refine congrArg (Value.int .i64) ?_; simp only [YO]; (repeat' split) <;> first | rfl | omega | (exfalso; simp_all; done) | (exfalso; simp_all; omega) | grind, rfl⟩
 obtain ⟨h11a, h11b⟩ := orF h11
 replace h11a := nf h11a
 replace h11b := df h11b
 refine Zi <| Zc <| Za <| JLA rfl <| Zb <| Zc <| Zc <| Za <| JLq (pp b2 0) (ZO rfl rfl) <| JLr (Ze ty3 rfl (At.bx 0 rfl) (Z3 ..) <| Zb <| Zl <| Zc ?_)
 refine Za <| JLn (Pu.eql rfl rfl) <| JLA rfl <| Zb <| Zf rfl (fun h12 => ?_) (fun h12 => ?_)
 ·replace h12 := dt h12
  refine Zc <| Za <| JLq (pp b2 1) (ZZ rfl rfl) <| JLr (Ze ty3 rfl (At.bx 0 rfl) (Yh ..) <| Jc Tryz.call79 rfl (fun hin => Y0 _ _ _ _) rfl ?_)
  rintro _ _ ⟨rfl, rfl⟩
  refine Zb <| Zf rfl (fun h13 => ?_) (fun h13 => ?_)
  ·replace h13 := dt h13
   refine Zc <| Za <| JLA rfl <| Zb <| Zh <| ⟨iv 3, [], Ret.one rfl (RV.tmp rfl), Sub.nil, ?_⟩
   exact ⟨by refine congrArg (Value.int .i64) ?_; simp only [YO]; (repeat' split) <;> first | rfl | omega | (exfalso; simp_all; done) | (exfalso; simp_all; omega) | grind, rfl⟩
  replace h13 := df h13
  refine Zi <| Zc <| Zc <| Za <| JLq (pp b2 0) (ZO rfl rfl) <| JLr (Ze ty3 rfl (At.bx 0 rfl) (Z3 ..) <| JLn (Pu.eql rfl rfl) <| JLM rfl <| Zx 3 [73, 74, 75] [(75, cond (decide (kind = 2)) undef (.bool (decide (kind = 8))))] ?_ fun f15 => ?_)
  ·cases h14 : (decide (kind = 2)) with
   | false =>
    replace h14 := df h14
    refine JLq (pp b2 0) (ZO rfl rfl) <| JLr (Ze ty3 rfl (At.bx 0 rfl) (Z3 ..) <| JLn (Pu.eql rfl rfl) ?_)
    exact Zb ⟨⟨rfl, trivial⟩, rfl⟩
   | true =>
    exact ZG rfl ⟨rfl, trivial⟩
  refine JLn (Pu.pickOr rfl rfl rfl) <| JLM rfl <| Zx 3 [78, 79, 80] [(80, cond ((decide (kind = 2)) || (decide (kind = 8))) undef (.bool (decide (kind = 11))))] ?_ fun f17 => ?_
  ·cases h16 : ((decide (kind = 2)) || (decide (kind = 8))) with
   | false =>
    obtain ⟨h16a, h16b⟩ := orF h16
    replace h16a := df h16a
    replace h16b := df h16b
    refine JLq (pp b2 0) (ZO rfl rfl) <| JLr (Ze ty3 rfl (At.bx 0 rfl) (Z3 ..) <| JLn (Pu.eql rfl rfl) ?_)
    exact Zb ⟨⟨rfl, trivial⟩, rfl⟩
   | true =>
    exact ZG rfl ⟨rfl, trivial⟩
  refine JLn (Pu.pickOr rfl rfl rfl) <| JLM rfl <| Zx 4 [83, 84, 85, 86] [(86, cond (((decide (kind = 2)) || (decide (kind = 8))) || (decide (kind = 11))) (.bool (decide (num < 0 ∨ 1073741824 < num))) undef)] ?_ fun f19 => ?_
  ·cases h18 : (((decide (kind = 2)) || (decide (kind = 8))) || (decide (kind = 11))) with
   | true =>
    refine JLq (pp b2 1) (ZZ rfl rfl) <| JLr (Ze ty3 rfl (At.bx 0 rfl) (Yh ..) <| JLM rfl <| Jc Tryz.call79 rfl (fun hin => Y0 _ _ _ _) rfl ?_)
    rintro _ _ ⟨rfl, rfl⟩
    exact Zb ⟨⟨rfl, trivial⟩, rfl⟩
   | false =>
    exact ZG rfl ⟨rfl, trivial⟩
  refine JLn (Pu.pickAnd rfl rfl rfl) <| Zb <| Zf rfl (fun h20 => ?_) (fun h20 => ?_)
  ·obtain ⟨h20a, h20b⟩ := Yr h20
   replace h20b := dt h20b
   refine Zc <| Za <| JLA rfl <| Zb <| Zh <| ⟨iv 3, [], Ret.one rfl (RV.tmp rfl), Sub.nil, ?_⟩
   exact ⟨by refine congrArg (Value.int .i64) ?_; simp only [YO]; (repeat' split) <;> first | rfl | omega | (exfalso; simp_all; done) | (exfalso; simp_all; omega) | grind, rfl⟩
  refine Zi <| Zc <| Za <| JLA rfl <| Zb <| Zh <| ⟨iv 0, [], Ret.one rfl (RV.tmp rfl), Sub.nil, ?_⟩
  exact ⟨by refine congrArg (Value.int .i64) ?_; simp only [YO]; (repeat' split) <;> first | rfl | omega | (exfalso; simp_all; done) | (exfalso; simp_all; omega) | grind, rfl⟩
 replace h12 := df h12
 refine Zc <| Zc <| Za <| JLn (Pu.eql rfl rfl) <| JLA rfl <| Zb <| Zf rfl (fun h21 => ?_) (fun h21 => ?_)
 ·replace h21 := dt h21
  refine Zi <| Zf rfl (fun _ => ?_) (fun h22 => absurd h21 (df h22))
  refine Za <| JLA rfl <| Zb <| Zc <| Zc <| Za <| JLq (pp b2 0) (ZO rfl rfl) <| JLr (Ze ty3 rfl (At.bx 0 rfl) (Z3 ..) <| JLn (Pu.eql rfl rfl) <| JLM rfl <| Zx 3 [73, 74, 75] [(75, cond (decide (kind = 2)) undef (.bool (decide (kind = 8))))] ?_ fun f24 => ?_)
  ·cases h23 : (decide (kind = 2)) with
   | false =>
    replace h23 := df h23
    refine JLq (pp b2 0) (ZO rfl rfl) <| JLr (Ze ty3 rfl (At.bx 0 rfl) (Z3 ..) <| JLn (Pu.eql rfl rfl) ?_)
    exact Zb ⟨⟨rfl, trivial⟩, rfl⟩
   | true =>
    exact ZG rfl ⟨rfl, trivial⟩
  refine JLn (Pu.pickOr rfl rfl rfl) <| JLM rfl <| Zx 3 [78, 79, 80] [(80, cond ((decide (kind = 2)) || (decide (kind = 8))) undef (.bool (decide (kind = 11))))] ?_ fun f26 => ?_
  ·cases h25 : ((decide (kind = 2)) || (decide (kind = 8))) with
   | false =>
    obtain ⟨h25a, h25b⟩ := orF h25
    replace h25a := df h25a
    replace h25b := df h25b
    refine JLq (pp b2 0) (ZO rfl rfl) <| JLr (Ze ty3 rfl (At.bx 0 rfl) (Z3 ..) <| JLn (Pu.eql rfl rfl) ?_)
    exact Zb ⟨⟨rfl, trivial⟩, rfl⟩
   | true =>
    exact ZG rfl ⟨rfl, trivial⟩
  refine JLn (Pu.pickOr rfl rfl rfl) <| JLM rfl <| Zx 4 [83, 84, 85, 86] [(86, cond (((decide (kind = 2)) || (decide (kind = 8))) || (decide (kind = 11))) (.bool (decide (num < 0 ∨ 7 < num))) undef)] ?_ fun f28 => ?_
  ·cases h27 : (((decide (kind = 2)) || (decide (kind = 8))) || (decide (kind = 11))) with
   | true =>
    refine JLq (pp b2 1) (ZZ rfl rfl) <| JLr (Ze ty3 rfl (At.bx 0 rfl) (Yh ..) <| JLM rfl <| Jc Tryz.call79 rfl (fun hin => Y0 _ _ _ _) rfl ?_)
    rintro _ _ ⟨rfl, rfl⟩
    exact Zb ⟨⟨rfl, trivial⟩, rfl⟩
   | false =>
    exact ZG rfl ⟨rfl, trivial⟩
  refine JLn (Pu.pickAnd rfl rfl rfl) <| Zb <| Zf rfl (fun h29 => ?_) (fun h29 => ?_)
  ·obtain ⟨h29a, h29b⟩ := Yr h29
   replace h29b := dt h29b
   refine Zc <| Za <| JLA rfl <| Zb <| Zh <| ⟨iv 3, [], Ret.one rfl (RV.tmp rfl), Sub.nil, ?_⟩
   exact ⟨by refine congrArg (Value.int .i64) ?_; simp only [YO]; (repeat' split) <;> first | rfl | omega | (exfalso; simp_all; done) | (exfalso; simp_all; omega) | grind, rfl⟩
  refine Zi <| Zc <| Za <| JLA rfl <| Zb <| Zh <| ⟨iv 0, [], Ret.one rfl (RV.tmp rfl), Sub.nil, ?_⟩
  exact ⟨by refine congrArg (Value.int .i64) ?_; simp only [YO]; (repeat' split) <;> first | rfl | omega | (exfalso; simp_all; done) | (exfalso; simp_all; omega) | grind, rfl⟩
 replace h21 := df h21
 refine Za <| JLn (Pu.eql rfl rfl) <| JLA rfl <| Zb <| Zf rfl (fun h30 => ?_) (fun h30 => ?_)
 ·replace h30 := dt h30
  refine Za <| JLA rfl <| Zb <| Zc <| Zc <| Za <| JLq (pp b2 0) (ZO rfl rfl) <| JLr (Ze ty3 rfl (At.bx 0 rfl) (Z3 ..) <| JLn (Pu.eql rfl rfl) <| JLM rfl <| Zx 3 [73, 74, 75] [(75, cond (decide (kind = 2)) undef (.bool (decide (kind = 8))))] ?_ fun f32 => ?_)
  ·cases h31 : (decide (kind = 2)) with
   | false =>
    replace h31 := df h31
    refine JLq (pp b2 0) (ZO rfl rfl) <| JLr (Ze ty3 rfl (At.bx 0 rfl) (Z3 ..) <| JLn (Pu.eql rfl rfl) ?_)
    exact Zb ⟨⟨rfl, trivial⟩, rfl⟩
   | true =>
    exact ZG rfl ⟨rfl, trivial⟩
  refine JLn (Pu.pickOr rfl rfl rfl) <| JLM rfl <| Zx 3 [78, 79, 80] [(80, cond ((decide (kind = 2)) || (decide (kind = 8))) undef (.bool (decide (kind = 11))))] ?_ fun f34 => ?_
  ·cases h33 : ((decide (kind = 2)) || (decide (kind = 8))) with
   | false =>
    obtain ⟨h33a, h33b⟩ := orF h33
    replace h33a := df h33a
    replace h33b := df h33b
    refine JLq (pp b2 0) (ZO rfl rfl) <| JLr (Ze ty3 rfl (At.bx 0 rfl) (Z3 ..) <| JLn (Pu.eql rfl rfl) ?_)
    exact Zb ⟨⟨rfl, trivial⟩, rfl⟩
   | true =>
    exact ZG rfl ⟨rfl, trivial⟩
  refine JLn (Pu.pickOr rfl rfl rfl) <| JLM rfl <| Zx 4 [83, 84, 85, 86] [(86, cond (((decide (kind = 2)) || (decide (kind = 8))) || (decide (kind = 11))) (.bool (decide (num < 0 ∨ 7 < num))) undef)] ?_ fun f36 => ?_
  ·cases h35 : (((decide (kind = 2)) || (decide (kind = 8))) || (decide (kind = 11))) with
   | true =>
    refine JLq (pp b2 1) (ZZ rfl rfl) <| JLr (Ze ty3 rfl (At.bx 0 rfl) (Yh ..) <| JLM rfl <| Jc Tryz.call79 rfl (fun hin => Y0 _ _ _ _) rfl ?_)
    rintro _ _ ⟨rfl, rfl⟩
    exact Zb ⟨⟨rfl, trivial⟩, rfl⟩
   | false =>
    exact ZG rfl ⟨rfl, trivial⟩
  refine JLn (Pu.pickAnd rfl rfl rfl) <| Zb <| Zf rfl (fun h37 => ?_) (fun h37 => ?_)
  ·obtain ⟨h37a, h37b⟩ := Yr h37
   replace h37b := dt h37b
   refine Zc <| Za <| JLA rfl <| Zb <| Zh <| ⟨iv 3, [], Ret.one rfl (RV.tmp rfl), Sub.nil, ?_⟩
   exact ⟨by refine congrArg (Value.int .i64) ?_; simp only [YO]; (repeat' split) <;> first | rfl | omega | (exfalso; simp_all; done) | (exfalso; simp_all; omega) | grind, rfl⟩
  refine Zi <| Zc <| Za <| JLA rfl <| Zb <| Zh <| ⟨iv 0, [], Ret.one rfl (RV.tmp rfl), Sub.nil, ?_⟩
  exact ⟨by refine congrArg (Value.int .i64) ?_; simp only [YO]; (repeat' split) <;> first | rfl | omega | (exfalso; simp_all; done) | (exfalso; simp_all; omega) | grind, rfl⟩
 replace h30 := df h30
 refine Zc <| Za <| JLn (Pu.eql rfl rfl) <| JLA rfl <| Zb <| Zf rfl (fun h38 => ?_) (fun h38 => ?_)
 ·replace h38 := dt h38
  refine Zc <| Za <| JLq (pp b1 1) (fa141_1 rfl rfl) <| JLr (Ze ty139 rfl (At.bx 1 rfl) rfl <| JLq (pp b2 1) (ZZ rfl rfl) <| JLr (Ze ty3 rfl (At.bx 0 rfl) (Yh ..) <| JLM rfl <| Jc Tryz.call87 rfl (fun hin => known_ct _ _ _ _ bD (Hle.hu _ _ _ _ hD) hb0 hb1 hn1 hn2) rfl ?_))
  rintro _ _ ⟨rfl, rfl⟩
  refine JLn (Pu.not rfl) <| Zb <| Zf rfl (fun h39 => ?_) (fun h39 => ?_)
  ·replace h39 := nt h39
   refine Zc <| Za <| JLA rfl <| Zb <| Zh <| ⟨iv 1, [], Ret.one rfl (RV.tmp rfl), Sub.nil, ?_⟩
   exact ⟨by refine congrArg (Value.int .i64) ?_; simp only [YO]; (repeat' split) <;> first | rfl | omega | (exfalso; simp_all; done) | (exfalso; simp_all; omega) | grind, rfl⟩
  replace h39 := nf h39
  refine Zi <| Zc <| Zc <| Za <| JLq (pp b2 0) (ZO rfl rfl) <| JLr (Ze ty3 rfl (At.bx 0 rfl) (Z3 ..) <| JLn (Pu.eql rfl rfl) <| JLM rfl <| Zx 3 [73, 74, 75] [(75, cond (decide (kind = 2)) undef (.bool (decide (kind = 8))))] ?_ fun f41 => ?_)
  ·cases h40 : (decide (kind = 2)) with
   | false =>
    replace h40 := df h40
    refine JLq (pp b2 0) (ZO rfl rfl) <| JLr (Ze ty3 rfl (At.bx 0 rfl) (Z3 ..) <| JLn (Pu.eql rfl rfl) ?_)
    exact Zb ⟨⟨rfl, trivial⟩, rfl⟩
   | true =>
    exact ZG rfl ⟨rfl, trivial⟩
  refine JLn (Pu.pickOr rfl rfl rfl) <| JLM rfl <| Zx 3 [78, 79, 80] [(80, cond ((decide (kind = 2)) || (decide (kind = 8))) undef (.bool (decide (kind = 11))))] ?_ fun f43 => ?_
  ·cases h42 : ((decide (kind = 2)) || (decide (kind = 8))) with
   | false =>
    obtain ⟨h42a, h42b⟩ := orF h42
    replace h42a := df h42a
    replace h42b := df h42b
    refine JLq (pp b2 0) (ZO rfl rfl) <| JLr (Ze ty3 rfl (At.bx 0 rfl) (Z3 ..) <| JLn (Pu.eql rfl rfl) ?_)
    exact Zb ⟨⟨rfl, trivial⟩, rfl⟩
   | true =>
    exact ZG rfl ⟨rfl, trivial⟩
  refine JLn (Pu.pickOr rfl rfl rfl) <| JLM rfl <| Zx 4 [83, 84, 85, 86] [(86, cond (((decide (kind = 2)) || (decide (kind = 8))) || (decide (kind = 11))) (.bool (decide (num < 0 ∨ 1073741824 < num))) undef)] ?_ fun f45 => ?_
  ·cases h44 : (((decide (kind = 2)) || (decide (kind = 8))) || (decide (kind = 11))) with
   | true =>
    refine JLq (pp b2 1) (ZZ rfl rfl) <| JLr (Ze ty3 rfl (At.bx 0 rfl) (Yh ..) <| JLM rfl <| Jc Tryz.call79 rfl (fun hin => Y0 _ _ _ _) rfl ?_)
    rintro _ _ ⟨rfl, rfl⟩
    exact Zb ⟨⟨rfl, trivial⟩, rfl⟩
   | false =>
    exact ZG rfl ⟨rfl, trivial⟩
  refine JLn (Pu.pickAnd rfl rfl rfl) <| Zb <| Zf rfl (fun h46 => ?_) (fun h46 => ?_)
  ·obtain ⟨h46a, h46b⟩ := Yr h46
   replace h46b := dt h46b
   refine Zc <| Za <| JLA rfl <| Zb <| Zh <| ⟨iv 3, [], Ret.one rfl (RV.tmp rfl), Sub.nil, ?_⟩
   exact ⟨by refine congrArg (Value.int .i64) ?_; simp only [YO]; (repeat' split) <;> first | rfl | omega | (exfalso; simp_all; done) | (exfalso; simp_all; omega) | grind, rfl⟩
  refine Zi <| Zc <| Za <| JLA rfl <| Zb <| Zh <| ⟨iv 0, [], Ret.one rfl (RV.tmp rfl), Sub.nil, ?_⟩
  exact ⟨by refine congrArg (Value.int .i64) ?_; simp only [YO]; (repeat' split) <;> first | rfl | omega | (exfalso; simp_all; done) | (exfalso; simp_all; omega) | grind, rfl⟩
 replace h38 := df h38
 refine Zc <| Za <| JLn (Pu.eql rfl rfl) <| JLA rfl <| Zb <| Zf rfl (fun h47 => ?_) (fun h47 => ?_)
 ·replace h47 := dt h47
  refine Zc <| Za <| JLq (pp b2 1) (ZZ rfl rfl) <| JLr (Ze ty3 rfl (At.bx 0 rfl) (Yh ..) <| JLn (Pu.lss rfl rfl) <| JLM rfl <| Zx 5 [63, 64, 65, 66, 67] [(67, cond (decide (num < 0)) undef (.bool (decide (m ≤ num))))] ?_ fun f49 => ?_)
  ·cases h48 : (decide (num < 0)) with
   | false =>
    replace h48 := df h48
    refine JLq (pp b2 1) (ZZ rfl rfl) <| JLr (Ze ty3 rfl (At.bx 0 rfl) (Yh ..) <| JLq (pp b1 0) (fa141_0 rfl rfl) <| JLr (Ze ty3 rfl (At.bx 1 rfl) rfl <| JLn (Pu.geq rfl rfl) ?_))
    exact Zb ⟨⟨rfl, trivial⟩, rfl⟩
   | true =>
    exact ZG rfl ⟨rfl, trivial⟩
  refine JLn (Pu.pickOr rfl rfl rfl) <| Zb <| Zf rfl (fun h50 => ?_) (fun h50 => ?_)
  ·refine Zc <| Za <| JLA rfl <| Zb <| Zh <| ⟨iv 1, [], Ret.one rfl (RV.tmp rfl), Sub.nil, ?_⟩
   exact ⟨by refine congrArg (Value.int .i64) ?_; simp only [YO]; (repeat' split) <;> first | rfl | omega | (exfalso; simp_all; done) | (exfalso; simp_all; omega) | grind, rfl⟩
  obtain ⟨h50a, h50b⟩ := orF h50
  replace h50a := df h50a
  replace h50b := df h50b
  refine Zi <| Zc <| Zc <| Za <| JLq (pp b2 0) (ZO rfl rfl) <| JLr (Ze ty3 rfl (At.bx 0 rfl) (Z3 ..) <| JLn (Pu.eql rfl rfl) <| JLM rfl <| Zx 3 [73, 74, 75] [(75, cond (decide (kind = 2)) undef (.bool (decide (kind = 8))))] ?_ fun f52 => ?_)
  ·cases h51 : (decide (kind = 2)) with
   | false =>
    replace h51 := df h51
    refine JLq (pp b2 0) (ZO rfl rfl) <| JLr (Ze ty3 rfl (At.bx 0 rfl) (Z3 ..) <| JLn (Pu.eql rfl rfl) ?_)
    exact Zb ⟨⟨rfl, trivial⟩, rfl⟩
   | true =>
    exact ZG rfl ⟨rfl, trivial⟩
  refine JLn (Pu.pickOr rfl rfl rfl) <| JLM rfl <| Zx 3 [78, 79, 80] [(80, cond ((decide (kind = 2)) || (decide (kind = 8))) undef (.bool (decide (kind = 11))))] ?_ fun f54 => ?_
  ·cases h53 : ((decide (kind = 2)) || (decide (kind = 8))) with
   | false =>
    obtain ⟨h53a, h53b⟩ := orF h53
    replace h53a := df h53a
    replace h53b := df h53b
    refine JLq (pp b2 0) (ZO rfl rfl) <| JLr (Ze ty3 rfl (At.bx 0 rfl) (Z3 ..) <| JLn (Pu.eql rfl rfl) ?_)
    exact Zb ⟨⟨rfl, trivial⟩, rfl⟩
   | true =>
    exact ZG rfl ⟨rfl, trivial⟩
  refine JLn (Pu.pickOr rfl rfl rfl) <| JLM rfl <| Zx 4 [83, 84, 85, 86] [(86, cond (((decide (kind = 2)) || (decide (kind = 8))) || (decide (kind = 11))) (.bool (decide (num < 0 ∨ 1073741824 < num))) undef)] ?_ fun f56 => ?_
  ·cases h55 : (((decide (kind = 2)) || (decide (kind = 8))) || (decide (kind = 11))) with
   | true =>
    refine JLq (pp b2 1) (ZZ rfl rfl) <| JLr (Ze ty3 rfl (At.bx 0 rfl) (Yh ..) <| JLM rfl <| Jc Tryz.call79 rfl (fun hin => Y0 _ _ _ _) rfl ?_)
    rintro _ _ ⟨rfl, rfl⟩
    exact Zb ⟨⟨rfl, trivial⟩, rfl⟩
   | false =>
    exact ZG rfl ⟨rfl, trivial⟩
  refine JLn (Pu.pickAnd rfl rfl rfl) <| Zb <| Zf rfl (fun h57 => ?_) (fun h57 => ?_)
  ·obtain ⟨h57a, h57b⟩ := Yr h57
   replace h57b := dt h57b
   refine Zc <| Za <| JLA rfl <| Zb <| Zh <| ⟨iv 3, [], Ret.one rfl (RV.tmp rfl), Sub.nil, ?_⟩
   exact ⟨by refine congrArg (Value.int .i64) ?_; simp only [YO]; (repeat' split) <;> first | rfl | omega | (exfalso; simp_all; done) | (exfalso; simp_all; omega) | grind, rfl⟩
  refine Zi <| Zc <| Za <| JLA rfl <| Zb <| Zh <| ⟨iv 0, [], Ret.one rfl (RV.tmp rfl), Sub.nil, ?_⟩
  exact ⟨by refine congrArg (Value.int .i64) ?_; simp only [YO]; (repeat' split) <;> first | rfl | omega | (exfalso; simp_all; done) | (exfalso; simp_all; omega) | grind, rfl⟩
 replace h47 := df h47
 refine Zi <| Zc <| Zc <| Za <| JLq (pp b2 0) (ZO rfl rfl) <| JLr (Ze ty3 rfl (At.bx 0 rfl) (Z3 ..) <| JLn (Pu.eql rfl rfl) <| JLM rfl <| Zx 3 [73, 74, 75] [(75, cond (decide (kind = 2)) undef (.bool (decide (kind = 8))))] ?_ fun f59 => ?_)
 ·cases h58 : (decide (kind = 2)) with
  | false =>
   replace h58 := df h58
   refine JLq (pp b2 0) (ZO rfl rfl) <| JLr (Ze ty3 rfl (At.bx 0 rfl) (Z3 ..) <| JLn (Pu.eql rfl rfl) ?_)
   exact Zb ⟨⟨rfl, trivial⟩, rfl⟩
  | true =>
   exact ZG rfl ⟨rfl, trivial⟩
 refine JLn (Pu.pickOr rfl rfl rfl) <| JLM rfl <| Zx 3 [78, 79, 80] [(80, cond ((decide (kind = 2)) || (decide (kind = 8))) undef (.bool (decide (kind = 11))))] ?_ fun f61 => ?_
 ·cases h60 : ((decide (kind = 2)) || (decide (kind = 8))) with
  | false =>
   obtain ⟨h60a, h60b⟩ := orF h60
   replace h60a := df h60a
   replace h60b := df h60b
   refine JLq (pp b2 0) (ZO rfl rfl) <| JLr (Ze ty3 rfl (At.bx 0 rfl) (Z3 ..) <| JLn (Pu.eql rfl rfl) ?_)
   exact Zb ⟨⟨rfl, trivial⟩, rfl⟩
  | true =>
   exact ZG rfl ⟨rfl, trivial⟩
 refine JLn (Pu.pickOr rfl rfl rfl) <| JLM rfl <| Zx 4 [83, 84, 85, 86] [(86, cond (((decide (kind = 2)) || (decide (kind = 8))) || (decide (kind = 11))) (.bool (decide (num < 0 ∨ 1073741824 < num))) undef)] ?_ fun f63 => ?_
 ·cases h62 : (((decide (kind = 2)) || (decide (kind = 8))) || (decide (kind = 11))) with
  | true =>
   refine JLq (pp b2 1) (ZZ rfl rfl) <| JLr (Ze ty3 rfl (At.bx 0 rfl) (Yh ..) <| JLM rfl <| Jc Tryz.call79 rfl (fun hin => Y0 _ _ _ _) rfl ?_)
   rintro _ _ ⟨rfl, rfl⟩
   exact Zb ⟨⟨rfl, trivial⟩, rfl⟩
  | false =>
   exact ZG rfl ⟨rfl, trivial⟩
 refine JLn (Pu.pickAnd rfl rfl rfl) <| Zb <| Zf rfl (fun h64 => ?_) (fun h64 => ?_)
 ·obtain ⟨h64a, h64b⟩ := Yr h64
  replace h64b := dt h64b
  refine Zc <| Za <| JLA rfl <| Zb <| Zh <| ⟨iv 3, [], Ret.one rfl (RV.tmp rfl), Sub.nil, ?_⟩
  exact ⟨by refine congrArg (Value.int .i64) ?_; simp only [YO]; (repeat' split) <;> first | rfl | omega | (exfalso; simp_all; done) | (exfalso; simp_all; omega) | grind, rfl⟩
 refine Zi <| Zc <| Za <| JLA rfl <| Zb <| Zh <| ⟨iv 0, [], Ret.one rfl (RV.tmp rfl), Sub.nil, ?_⟩
 exact ⟨by refine congrArg (Value.int .i64) ?_; simp only [YO]; (repeat' split) <;> first | rfl | omega | (exfalso; simp_all; done) | (exfalso; simp_all; omega) | grind, rfl⟩
end Go.Proofs.YtmophpgiaiemhaaGreat.Hs
/-! Walks, printed by a program of this session's own (gen.py). -/
namespace Go.Proofs.YtmophpgiaiemhaaGreat.Hs
open Go Go.Proofs
set_option maxRecDepth 100000
set_option linter.unusedVariables false
set_option linter.unusedSimpArgs false
attribute [local irreducible] JL J CT wlo DT
theorem parts_ct (cs : List Value) (H : Heap) (hl : cs.length = 36) : CT Tryz.prog 130 ⟨[.agg ⟨cs⟩]⟩ [] H (fun v N => ∃ b, v = .func (.func 162) ⟨[]⟩ ⟨[pp b 0]⟩ ∧ N = [(BX b cs 27)]) := by
 refine Zm Tryz.func130 rfl rfl <| Zc <| Za <| JLr (Zo (l := cs) rfl rfl fun b1 => JLa .nilFunc <| Zb <| Zc <| Za <| JLq (.func (.func 162) ⟨[]⟩ ⟨[pp b1 0]⟩) (Pu.makeFunc rfl rfl) <| JLA rfl <| Zb <| Zh <| ⟨.func (.func 162) ⟨[]⟩ ⟨[pp b1 0]⟩, [(BX b1 cs 27)], Ret.one rfl (RV.tmp rfl), (Sk Sub.nil), ?_⟩)
 exact ⟨_, rfl, rfl⟩
theorem parts1_ct (kind num : Int) (ref : Sm) (ks cv : Value) (kids : List Tm) (cases : List (Pt × Tm)) (H : Heap) (bT : Nat) (hks : rdS RT 36 H ks kids) (hcv : rdS RC 71 H cv cases) (hT : H bT = some (.cells ⟨pkT kind num ref ks cv⟩ 27 (0, 0))) (hsz : ∀ c ∈ cases, binds c.1 ≤ 1000000) (hkl : kids.length ≤ 1000000) (hcl : cases.length ≤ 1000000) (l : Nat) {σ : Type} (yc : σ → Zj) (Inv : σ → Prop) (step : Tm → Int → σ → Bool × σ) (s0 : σ) (h0 : Inv s0) (It : Tm → Int → Prop) (hIK : ∀ (j : Nat) (hj : j < kids.length), It kids[j] (ZB kind j)) (hIC : ∀ (j : Nat) (hj : j < cases.length), It cases[j].2 (binds cases[j].1 : Int)) (hI : ∀ x mo s, Inv s → (step x mo s).1 = true → Inv (step x mo s).2) (hy : ∀ x mo, It x mo → ∀ s (i : Int) a h, Inv s → Hle H h → RT h a x → YT Tryz.prog l ⟨[iv i, .agg ⟨a ++ [iv mo]⟩]⟩ [yc s] h (fun v N => v = .bool (step x mo s).1 ∧ N = [yc (step x mo s).2])) : CT Tryz.prog 162 ⟨[.func (.yield l) ⟨[]⟩ ⟨[]⟩, pp bT 0]⟩ [yc s0] H (fun _ N => N = [yc (yP step kind kids cases s0)]) := by
 refine Zm Tryz.func162 rfl rfl <| Zc <| Zc <| Za <| JLq (pp bT 34) (Z8 rfl rfl) <| JLr (Ze YW rfl (At.im hT) (Yb ..) ?_)
 obtain ⟨a1, cap1, hv1⟩ := hks.sl
 have hle1 := hks.le
 refine JLn (Pu.lenSl Tryz.runUnderlying24 hv1) <| JLM rfl <| Zb <| Zl <| ZE (fun k ρ M => ∃ (j : Nat) (s : σ), ρ 0 = .func (.yield l) ⟨[]⟩ ⟨[]⟩ ∧ ρ 1 = pp bT 0 ∧ ρ 8 = ks ∧ ρ 9 = iv ((kids.length : Int)) ∧ ρ 10 = iv ((j : Int)) ∧ Sub [yc s] M ∧ j ≤ kids.length ∧ Inv s ∧ yK step kind j (kids.drop j) s = yK step kind 0 kids s0 ∧ k = kids.length - j) _ ⟨0, s0, rfl, rfl, rfl, rfl, rfl, (Sk Sub.nil), Nat.zero_le _, h0, rfl, rfl⟩ ?_
 rintro _ ρ2 _ ⟨j, s, e3, e4, e5, e6, e7, hm8, hj, hs, hinv, rfl⟩
 obtain ⟨ρ9, rfl⟩ := Zr (uc e3 (uc e4 (uc e5 (uc e6 (uc e7 un)))))
 clear e3 e4 e5 e6 e7
 refine ZJ hm8 ?_
 have hlen := hks.le
 refine Zc <| Za <| JLn (Pu.lss rfl rfl) <| Zb <| Zc <| Zf rfl (fun h10 => ?_) (fun h10 => ?_)
 ·replace h10 := dt h10
  have h10n : j < kids.length := by omega
  refine Zi <| Zc <| Zl <| Zc <| Za <| JLM rfl ?_
  obtain ⟨b11, o11, cap11, row11, T11, fr11, cs11, hv11, hb11, hs11, hE11⟩ := hks.get j (by first | assumption | omega | decide | simp)
  refine JLq (pp b11 (o11 + j * 36)) (Pu.idx j Tryz.runUnderlying24 Zs hv11 rfl rfl (by first | assumption | omega | decide | simp)) <| JLr (Zg Zs rfl (At.im hb11) hs11 <| JLr (Zn (l := pkT 0 0 zS nS nS) Tryz.zeroValue27 rfl fun b12 => JLA rfl <| JLr (Zd 0 (vs := cs11) (l := cs11) Zs rfl rfl rfl rfl (Zv hE11) (XC hE11) (ZM (n := 36) rfl (Zv hE11)) <| Zb <| Zc <| ZF mixed #[0, 0, 0, 0, 8, 0, 56, 124, 255, 511] 8 [some 15, some 16, some 17, some 18, some 19, some 20, some 21, some 22] [] [(6, fun _ _ vw qw => vw = iv (ZB kind ((j : Int))) ∧ qw = [])] rfl (by kernel_rfl) rfl (by kernel_rfl) <| DM (fun _ => rfl) <| DM (fun _ => rfl) <| Dl Zs (At.bx 0 rfl) (Zt (Zv hE11)) <| Dq (pp bT 0) (fun _ => ZO rfl rfl) <| Dl1 ty3 (At.im hT) (Z3 ..) ?_)))
  refine DM (fun _ => rfl) <| Dc rfl Tryz.call111 (fun _ => rfl) (fun hin => more_ct _ _ _) ?_
  rintro _ _ ⟨rfl, rfl⟩
  refine Dq (.agg ⟨cs11 ++ ([iv (ZB kind ((j : Int)))] : List Value)⟩) (fun _ => Pu.build (pv := [(0, .agg ⟨cs11⟩), (1, iv (ZB kind ((j : Int))))]) (l := cs11 ++ ([iv (ZB kind ((j : Int)))] : List Value)) rfl (bld175_0_1 (Zv hE11))) <| ZL (M' := [(BX b12 cs11 27), yc s]) rfl ?_
  show JL _ _ _ [_, _] _ _ _
  refine JL_yield1 1 rfl rfl rfl (fun hin => hy _ _ (hIK j h10n) _ _ _ _ hs (Hle.hu _ _) (RT.mono (Hle.hu _ _) hE11)) rfl ?_
  rintro _ _ ⟨rfl, rfl⟩
  refine JLn (Pu.not rfl) <| Zb <| Zf rfl (fun h13 => ?_) (fun h13 => ?_)
  ·replace h13 := nt h13
   refine Zh <| ⟨.tuple ⟨[]⟩, [yc (step (kids[j]) (ZB kind ((j : Int))) s).2], Ret.none rfl, (Sk Sub.nil), ?_⟩
   rw [ZU h10n, yK, if_neg (by simp [h13])] at hinv
   show _ = _; rw [yP, ← hinv]; rfl
  replace h13 := nf h13
  refine Zi <| Za <| JLn (Pu.inc rfl rfl (by omega)) <| JLM rfl <| Zb <| ⟨_, ?_, (j + 1), ((step (kids[j]) (ZB kind ((j : Int))) s).2), rfl, rfl, rfl, rfl, rfl, (Sk Sub.nil), ?_, ?_, ?_, rfl⟩
  ·omega
  ·omega
  ·exact hI _ _ s hs h13
  rw [ZU h10n, yK, if_pos h13] at hinv; exact hinv
 replace h10 := df h10
 have h10n : kids.length ≤ j := by omega
 refine Zy _ rfl <| Zc <| Za <| JLq (pp bT 35) (Z1 rfl rfl) <| JLr (Ze YI rfl (At.im hT) (Z2 ..) ?_)
 obtain ⟨a14, cap14, hv14⟩ := hcv.sl
 have hle14 := hcv.le
 refine JLn (Pu.lenSl Tryz.runUnderlying25 hv14) <| JLM rfl <| Zb <| Zl ?_
 have hk1 : yK step kind 0 kids s0 = (true, s) := by rw [← hinv, Yt h10n]; rfl
 refine ZE (fun k ρ M => ∃ (j : Nat) (s2 : σ), ρ 0 = .func (.yield l) ⟨[]⟩ ⟨[]⟩ ∧ ρ 1 = pp bT 0 ∧ ρ 27 = cv ∧ ρ 28 = iv ((cases.length : Int)) ∧ ρ 29 = iv ((j : Int)) ∧ Sub [yc s2] M ∧ j ≤ cases.length ∧ Inv s2 ∧ yC step (cases.drop j) s2 = yC step cases s ∧ k = cases.length - j) _ ⟨0, s, rfl, rfl, rfl, rfl, rfl, (Sk Sub.nil), Nat.zero_le _, hs, rfl, rfl⟩ ?_
 rintro _ ρ15 _ ⟨j, s2, e16, e17, e18, e19, e20, hm21, hj, hs, hinv, rfl⟩
 obtain ⟨ρ22, rfl⟩ := Zr (uc e16 (uc e17 (uc e18 (uc e19 (uc e20 un)))))
 clear e16 e17 e18 e19 e20
 refine ZJ hm21 ?_
 have hlen := hcv.le
 refine Zc <| Za <| JLn (Pu.lss rfl rfl) <| Zb <| Zc <| Zf rfl (fun h23 => ?_) (fun h23 => ?_)
 ·replace h23 := dt h23
  have h23n : j < cases.length := by omega
  have hbm := hsz _ (List.getElem_mem h23n)
  have hlenk := hks.le
  refine Zi <| Zc <| Zl <| Zc <| Za <| JLM rfl ?_
  obtain ⟨b24, o24, cap24, row24, T24, fr24, cs24, hv24, hb24, hs24, hE24⟩ := hcv.get j (by first | assumption | omega | decide | simp)
  obtain ⟨ca24, cb24, rfl, hA24, hB24⟩ := hE24
  refine JLq (pp b24 (o24 + j * 71)) (Pu.idx j Tryz.runUnderlying25 YM hv24 rfl rfl (by first | assumption | omega | decide | simp)) <| JLr (Zg YM rfl (At.im hb24) hs24 <| JLr (Zn (l := (pkP 0 0 zS nS) ++ (pkT 0 0 zS nS nS)) Tryz.zeroValue80 rfl fun b25 => JLA rfl <| JLr (Zd 0 (vs := ca24 ++ cb24) (l := ca24 ++ cb24) YM rfl rfl rfl rfl (Zw (Zu hA24) (Zv hB24)) (ZN (Xj hA24) (XC hB24)) (ZM (n := 71) rfl (Zw (Zu hA24) (Zv hB24))) <| Zb <| Zc <| ZF mixed #[0, 0, 2, 6, 0, 30, 0, 64, 0, 256, 768, 1984, 4095, 8191] 12 [some 34, some 35, some 36, some 37, some 38, some 39, some 40, some 41, some 42, some 43, some 44, some 45] [] [(10, fun _ _ vw qw => vw = iv ((binds (cases[j].1) : Int)) ∧ qw = [])] rfl (by kernel_rfl) rfl (by kernel_rfl) <| DM (fun _ => rfl) <| Dq (pp bT 34) (fun _ => Z8 rfl rfl) <| Dl1 YW (At.im hT) (Yb ..) ?_)))
  obtain ⟨a27, cap27, hv27⟩ := hks.sl
  have hle27 := hks.le
  refine Dn (fun _ => Pu.lenSl Tryz.runUnderlying24 hv27) <| DM (fun _ => rfl) <| Dn (fun _ => Pu.add64 rfl rfl (by first | omega | (constructor <;> omega))) <| Dq (pp b25 35) (fun _ => fa80_1 rfl rfl) <| Dl Zs (At.bx 0 rfl) (Xg (Zu hA24) (Zv hB24)) <| Dq (pp b25 0) (fun _ => Y1 rfl rfl) <| Dl Z6 (At.bx 0 rfl) (YE (Zu hA24)) <| Dc rfl Tryz.call112 (fun _ => rfl) (fun hin => binds_ct _ _ _ (RP.mono (Hle.hu _ _) hA24) (by omega)) ?_
  rintro _ _ ⟨rfl, rfl⟩
  refine Dq (.agg ⟨cb24 ++ ([iv ((binds (cases[j].1) : Int))] : List Value)⟩) (fun _ => Pu.build (pv := [(0, .agg ⟨cb24⟩), (1, iv ((binds (cases[j].1) : Int)))]) (l := cb24 ++ ([iv ((binds (cases[j].1) : Int))] : List Value)) rfl (bld175_0_1 (Zv hB24))) <| ZL (M' := [(BX b25 (ca24 ++ cb24) 80), yc s2]) rfl ?_
  show JL _ _ _ [_, _] _ _ _
  refine JL_yield1 1 rfl rfl rfl (fun hin => hy _ _ (hIC j h23n) _ _ _ _ hs (Hle.hu _ _) (RT.mono (Hle.hu _ _) hB24)) rfl ?_
  rintro _ _ ⟨rfl, rfl⟩
  refine JLn (Pu.not rfl) <| Zb <| Zf rfl (fun h28 => ?_) (fun h28 => ?_)
  ·replace h28 := nt h28
   refine Zh <| ⟨.tuple ⟨[]⟩, [yc (step (cases[j].2) ((binds (cases[j].1) : Int)) s2).2], Ret.none rfl, (Sk Sub.nil), ?_⟩
   rw [ZU h23n, yC, if_neg (by simp [h28])] at hinv
   show _ = _; rw [yP, hk1, if_pos rfl, ← hinv]
  replace h28 := nf h28
  refine Zi <| Za <| JLn (Pu.inc rfl rfl (by omega)) <| JLM rfl <| Zb <| ⟨_, ?_, (j + 1), ((step (cases[j].2) ((binds (cases[j].1) : Int)) s2).2), rfl, rfl, rfl, rfl, rfl, (Sk Sub.nil), ?_, ?_, ?_, rfl⟩
  ·omega
  ·omega
  ·exact hI _ _ s2 hs h28
  rw [ZU h23n, yC, if_pos h28] at hinv; exact hinv
 replace h23 := df h23
 have h23n : cases.length ≤ j := by omega
 refine Zy _ rfl <| ⟨.tuple ⟨[]⟩, [yc s2], Ret.none rfl, (Sk Sub.nil), ?_⟩
 show _ = _; rw [yP, hk1, if_pos rfl, ← hinv, Yt h23n]; rfl
end Go.Proofs.YtmophpgiaiemhaaGreat.Hs
/-! Walks, printed by a program of this session's own (gen.py). -/
namespace Go.Proofs.YtmophpgiaiemhaaGreat.Hs
open Go Go.Proofs
set_option maxRecDepth 100000
set_option linter.unusedVariables false
set_option linter.unusedSimpArgs false
attribute [local irreducible] JL J CT wlo DT
theorem all_ct : ∀ (t : Tm) (d m b : Int) (cs : List Value) (H : Heap) (bD : Nat), RT H cs t → H bD = some (.cells ⟨[iv d]⟩ 3 (0, 0)) → 0 ≤ b → b + 2 * sizeT t ≤ 1000000 → CT Tryz.prog 88 ⟨[.agg ⟨[iv m, .func (.func 87) ⟨[]⟩ ⟨[pp bD 0]⟩]⟩, .agg ⟨cs⟩, iv b]⟩ [] H (fun v N => v = iv (Xn d m b t) ∧ N = []) := by
 intro t
 induction t using Tm.ind with
 | h kind num ref kids cases ih ih' =>
 intro d m b cs H bD ht hD hb0 hb
 obtain ⟨ks, cv, rfl, hk, hn, hks, hcv⟩ := RT_mk.1 ht
 rw [sizeT] at hb
 have hn1 : -9223372036854775808 ≤ num := hn.1
 have hn2 : num ≤ 9223372036854775807 := hn.2
 have ihx : ∀ x mo, (fun x mo => ((∃ (j : Nat) (hj : j < kids.length), x = kids[j]) ∨ ∃ (j : Nat) (hj : j < cases.length), x = cases[j].2) ∧ 0 ≤ mo ∧ mo + 2 * (sizeT x : Int) ≤ 2 * ((1 + ZH kids + ZQ cases : Nat) : Int)) x mo → ∀ (d m b : Int) (cs : List Value) (H : Heap) (bD : Nat), RT H cs x → H bD = some (.cells ⟨[iv d]⟩ 3 (0, 0)) → 0 ≤ b → b + 2 * sizeT x ≤ 1000000 → CT Tryz.prog 88 ⟨[.agg ⟨[iv m, .func (.func 87) ⟨[]⟩ ⟨[pp bD 0]⟩]⟩, .agg ⟨cs⟩, iv b]⟩ [] H (fun v N => v = iv (Xn d m b x) ∧ N = []) := by
  rintro x mo ⟨⟨j, hj, rfl⟩ | ⟨j, hj, rfl⟩, _, _⟩
  ·exact ih _ (List.getElem_mem hj)
  ·exact ih' _ (List.getElem_mem hj)
 refine Zm Tryz.func88 rfl rfl <| Zc <| Za <| JLr (Zo (l := [iv m, .func (.func 87) ⟨[]⟩ ⟨[pp bD 0]⟩]) rfl rfl fun b1 => JLr (Zo (l := pkT kind num ref ks cv) rfl rfl fun b2 => JLr (Zo (l := [iv b]) rfl rfl fun b3 => JLr (Zn (l := [iv 0]) Tryz.zeroValue46 rfl fun b4 => Zb <| Zc <| Zc <| Za <| JLr (Zg ty141 rfl (At.bx 3 rfl) rfl <| JLr (Zg Zs rfl (At.bx 2 rfl) (Z9 ..) ?_))))))
 refine JLr (Ze ty3 rfl (At.bx 1 rfl) rfl <| Jc Tryz.call128 rfl (fun hin => chkTerm_ct _ _ _ _ _ _ _ _ _ _ _ bD (RTs.mono (Hle.hu _ _) hks) (RCs.mono (Hle.hu _ _) hcv) (Hle.hu _ _ _ _ hD) hb0 (by omega) hn1 hn2) rfl ?_)
 rintro _ _ ⟨rfl, rfl⟩
 refine JLA rfl <| Zb <| Zc <| Za <| JLM rfl <| JLn (Pu.neq rfl rfl) <| Zb <| Zf rfl (fun h5 => ?_) (fun h5 => ?_)
 ·replace h5 := nt h5
  replace h5 := df h5
  refine Zc <| Za <| JLM rfl <| JLr (Zd 0 (vs := [iv (YO d m b kind num ref kids.length cases.length)]) (l := [iv (YO d m b kind num ref kids.length cases.length)]) ty46 rfl rfl rfl rfl rfl (Zk rfl Zq) rfl <| Zb <| Zh <| ⟨iv (YO d m b kind num ref kids.length cases.length), [], Ret.one rfl (RV.cell1 ty46 rfl (At.bx 0 rfl) rfl), Sub.nil, ?_⟩)
  exact ⟨by rw [Xn, if_neg h5], rfl⟩
 replace h5 := nf h5
 replace h5 := dt h5
 refine Zi <| Zc <| Zc <| Za <| JLq (pp b2 35) (Z1 rfl rfl) <| JLr (Ze YI rfl (At.bx 2 rfl) (Z2 ..) ?_)
 obtain ⟨a6, cap6, hv6⟩ := hcv.sl
 have hle6 := hcv.le
 refine JLn (Pu.lenSl Tryz.runUnderlying25 hv6) <| JLM rfl <| Zb <| Zl ?_
 have hh0 : YO d m b kind num ref kids.length cases.length = 0 := h5
 refine ZE (fun k ρ M => ∃ (j : Nat), ρ 3 = pp b1 0 ∧ ρ 4 = pp b2 0 ∧ ρ 5 = pp b3 0 ∧ ρ 6 = pp b4 0 ∧ ρ 22 = cv ∧ ρ 23 = iv ((cases.length : Int)) ∧ ρ 24 = iv ((j : Int)) ∧ Sub [(BX b4 [iv 0] 46), (BX b3 [iv b] 3), (BX b2 (pkT kind num ref ks cv) 27), (BX b1 [iv m, .func (.func 87) ⟨[]⟩ ⟨[pp bD 0]⟩] 141)] M ∧ j ≤ cases.length ∧ pErrsC (cases.drop j) = pErrsC cases ∧ k = cases.length - j) _ ⟨0, rfl, rfl, rfl, rfl, rfl, rfl, rfl, (Sk (Sk (Sk (Sk Sub.nil)))), Nat.zero_le _, rfl, rfl⟩ ?_
 rintro _ ρ7 _ ⟨j, e8, e9, e10, e11, e12, e13, e14, hm15, hj, hinv, rfl⟩
 obtain ⟨ρ16, rfl⟩ := Zr (uc e8 (uc e9 (uc e10 (uc e11 (uc e12 (uc e13 (uc e14 un)))))))
 clear e8 e9 e10 e11 e12 e13 e14
 refine ZJ hm15 ?_
 have hlen := hcv.le
 refine Zc <| Za <| JLn (Pu.lss rfl rfl) <| Zb <| Zc <| Zf rfl (fun h17 => ?_) (fun h17 => ?_)
 ·replace h17 := dt h17
  have h17n : j < cases.length := by omega
  refine Zi <| Zc <| Zl <| Zc <| Za ?_
  obtain ⟨b18, o18, cap18, row18, T18, fr18, cs18, hv18, hb18, hs18, hE18⟩ := hcv.get j (by first | assumption | omega | decide | simp)
  obtain ⟨ca18, cb18, rfl, hA18, hB18⟩ := hE18
  refine JLq (pp b18 (o18 + j * 71)) (Pu.idx j Tryz.runUnderlying25 YM hv18 rfl rfl (by first | assumption | omega | decide | simp)) <| JLr (Zg YM rfl (At.im hb18) hs18 <| JLr (Zn (l := (pkP 0 0 zS nS) ++ (pkT 0 0 zS nS nS)) Tryz.zeroValue80 rfl fun b19 => JLr (Zd 0 (vs := ca18 ++ cb18) (l := ca18 ++ cb18) YM rfl rfl rfl rfl (Zw (Zu hA18) (Zv hB18)) (ZN (Xj hA18) (XC hB18)) (ZM (n := 71) rfl (Zw (Zu hA18) (Zv hB18))) <| Zb <| Zc <| Za <| JLq (pp b19 0) (Y1 rfl rfl) <| JLr (Zg Z6 rfl (At.bx 0 rfl) (YE (Zu hA18)) <| Jc Tryz.call129 rfl (fun hin => patternsError_ct _ _ _ (RP.mono (Hle.hu _ _) hA18)) rfl ?_))))
  rintro _ _ ⟨rfl, rfl⟩
  refine JLA rfl <| Zb <| Zc <| Za <| JLM rfl <| JLn (Pu.neq rfl rfl) <| Zb <| Zf rfl (fun h20 => ?_) (fun h20 => ?_)
  ·replace h20 := nt h20
   replace h20 := df h20
   refine Zc <| Za <| JLM rfl <| JLr (Zd 1 (vs := [iv (pErrs (cases[j].1))]) (l := [iv (pErrs (cases[j].1))]) ty46 rfl rfl rfl rfl rfl (Zk rfl Zq) rfl <| Zb <| Zh <| ⟨iv (pErrs (cases[j].1)), [], Ret.one rfl (RV.cell1 ty46 rfl (At.bx 1 rfl) rfl), Sub.nil, ?_⟩)
   exact ⟨by rw [Xn, if_pos hh0, ← hinv, ZU h17n, pErrsC, if_neg h20, if_neg h20], rfl⟩
  replace h20 := nf h20
  replace h20 := dt h20
  refine Zi <| Za <| JLn (Pu.inc rfl rfl (by omega)) <| JLM rfl <| Zb <| ⟨_, ?_, (j + 1), rfl, rfl, rfl, rfl, rfl, rfl, rfl, (Sd (Sk (Sk (Sk (Sk Sub.nil))))), ?_, ?_, rfl⟩
  ·omega
  ·omega
  rw [ZU h17n, pErrsC, if_pos h20] at hinv; exact hinv
 replace h17 := df h17
 have h17n : cases.length ≤ j := by omega
 refine Zy _ rfl <| Zc <| Zc <| Za <| JLr (Zg Zs rfl (At.bx 2 rfl) (Z9 ..) <| Jc Tryz.call130 rfl (fun hin => parts_ct _ _ rfl) rfl ?_)
 rintro _ _ ⟨bT21, rfl, rfl⟩
 refine Zb <| Zl ?_
 have h1 : pErrsC cases = 0 := by rw [← hinv, Yt h17n]; rfl
 refine J_range (L := [(BX bT21 (pkT kind num ref ks cv) 27), (BX b3 [iv b] 3), (BX b2 (pkT kind num ref ks cv) 27), (BX b1 [iv m, .func (.func 87) ⟨[]⟩ ⟨[pp bD 0]⟩] 141)]) (fun e : Int => [(BX b4 [iv e] 46)]) (fun e => !decide (e = 0)) 0 (fun e => e = yP (fun x mo _ => (decide (Xn d m (b + mo) x = 0), Xn d m (b + mo) x)) kind kids cases 0) rfl rfl Tryz.call162 (flatten_pick (i := 1) rfl) ?_ ?_ ?_
 ·intro l yc hY hin
  refine CT.mono (parts1_ct kind num ref ks cv kids cases _ bT21 (RTs.mono (Hle.hu _ _) hks) (RCs.mono (Hle.hu _ _) hcv) (hin 0 _ rfl _ _ List.mem_cons_self) (fun c hc => by have := YK c hc; have := YS c.1; omega) (by have := Xx kids; omega) (by have := Xy cases; omega) l yc (fun e => e = 0) (fun x mo _ => (decide (Xn d m (b + mo) x = 0), Xn d m (b + mo) x)) 0 rfl (fun x mo => ((∃ (j : Nat) (hj : j < kids.length), x = kids[j]) ∨ ∃ (j : Nat) (hj : j < cases.length), x = cases[j].2) ∧ 0 ≤ mo ∧ mo + 2 * (sizeT x : Int) ≤ 2 * ((1 + ZH kids + ZQ cases : Nat) : Int)) ?_ ?_ (fun x mo s _ h => of_decide_eq_true h) ?_) (fun v N hN => ⟨_, hN, rfl⟩)
  ·intro j hj; have hs1 := YY _ (List.getElem_mem hj); have hm1 := Xu kind j; exact ⟨.inl ⟨j, hj, rfl⟩, by omega, by omega⟩
  ·intro j hj; have hs1 := YK _ (List.getElem_mem hj); have hm1 := YS (cases[j]).1; have hp1 := sizeT_pos (cases[j]).2; exact ⟨.inr ⟨j, hj, rfl⟩, by omega, by omega⟩
  intro x mo hit e i a h he hh ra
  subst he
  have hb0x : 0 ≤ b + mo := by have := hit.2.1; omega
  have hb1x : b + mo + 2 * (sizeT x : Int) ≤ 1000000 := by have := hit.2.2; omega
  have hp1 := sizeT_pos x
  refine YT.mono (hY 0 [_, _] h (fun e' => e' = Xn d m (b + mo) x) rfl rfl (RoundOk.mk ?_)) ?_
  ·show J _ _ _ _ [(BX b4 [iv 0] 46)] _
   refine Za <| JLr (Zn (l := (pkT 0 0 zS nS nS) ++ ([iv 0] : List Value)) Tryz.zeroValue175 rfl fun b22 => JLr (Zd 0 (vs := a ++ ([iv mo] : List Value)) (l := a ++ ([iv mo] : List Value)) ty175 rfl rfl rfl rfl (Zw (Zv ra) rfl) (ZN (XC ra) (Zk rfl Zq)) (ZM (n := 37) rfl (Zw (Zv ra) rfl)) <| Zb <| Zl <| Zc <| Za <| JLr (Zg ty141 rfl (At.im (hh _ _ (hin 3 _ rfl _ _ List.mem_cons_self))) rfl <| JLq (pp b22 0) (fa175_0 rfl rfl) <| JLr (Zg Zs rfl (At.bx 0 rfl) (YE (Zv ra)) <| JLr (Ze ty3 rfl (At.im (hh _ _ (hin 1 _ rfl _ _ List.mem_cons_self))) rfl <| JLq (pp b22 36) (fa175_1 rfl rfl) <| JLr (Ze ty3 rfl (At.bx 0 rfl) (get_r (n := 36) (i := 0) (Zv ra) rfl) ?_))))))
   refine JLn (Pu.add64 rfl rfl (by first | omega | (constructor <;> omega))) <| Jc Tryz.call88 rfl (fun hin => ihx x mo hit d m _ _ _ bD (RT.mono (Hle.hu _ _) ra) (Hle.hu _ _ _ _ (hh _ _ (Hle.hu _ _ _ _ hD))) hb0x hb1x) rfl ?_
   rintro _ _ ⟨rfl, rfl⟩
   refine JLA rfl <| Zb <| Zc <| Za <| JLM rfl <| JLn (Pu.neq rfl rfl) <| Zb <| Zf rfl (fun h23 => ?_) (fun h23 => ?_)
   ·replace h23 := nt h23
    replace h23 := df h23
    refine Zc <| Za <| JLM rfl <| JLr (Zd 1 (vs := [iv (Xn d m (b + mo) x)]) (l := [iv (Xn d m (b + mo) x)]) ty46 rfl rfl rfl rfl rfl (Zk rfl Zq) rfl <| Zb <| Zh ?_)
    exact ⟨Xn d m (b + mo) x, by simp [h23], (Sd (Sk Sub.nil)), rfl⟩
   replace h23 := nf h23
   replace h23 := dt h23
   refine Zi ?_
   exact ⟨0, rfl, (Sd (Sk Sub.nil)), h23.symm⟩
  rintro v N ⟨e', rfl, rfl, rfl⟩; exact ⟨by simp, rfl⟩
 ·rintro ef hef hp
  refine Zc <| Za <| JLr (Zd 0 (vs := [iv 0]) (l := [iv 0]) ty46 rfl rfl rfl rfl rfl (Zk rfl Zq) rfl <| Zb <| Zh <| ⟨iv 0, [], Ret.one rfl (RV.cell1 ty46 rfl (At.bx 0 rfl) rfl), Sub.nil, ?_⟩)
  rw [yP_err] at hef
  have hp0 : ef = 0 := by simpa using hp
  exact ⟨by rw [Xn, if_pos hh0, if_pos h1, ← hef, hp0], rfl⟩
 rintro ef hef hp
 refine ⟨iv ef, [], Ret.one rfl (RV.cell1 ty46 rfl (At.bx 0 rfl) rfl), Sub.nil, ?_⟩
 rw [yP_err] at hef
 have hp0 : ¬ ef = 0 := by simpa using hp
 exact ⟨by rw [Xn, if_pos hh0, if_pos h1, ← hef], rfl⟩
end Go.Proofs.YtmophpgiaiemhaaGreat.Hs
/-! Walks, printed by a program of this session's own (gen.py). -/
namespace Go.Proofs.YtmophpgiaiemhaaGreat.Hs
open Go Go.Proofs
set_option maxRecDepth 100000
set_option linter.unusedVariables false
set_option linter.unusedSimpArgs false
attribute [local irreducible] JL J CT wlo DT
theorem check_ct (t : Tm) (d m : Int) (cs : List Value) (H : Heap) (ht : RT H cs t) : CT Tryz.prog 29 ⟨[.agg ⟨cs⟩, iv d, iv m]⟩ [] H (fun v N => v = iv (Xz d m t) ∧ N = []) := by
 refine Zm Tryz.func29 rfl rfl <| Zc <| Za <| JLr (Zo (l := cs) rfl rfl fun b1 => JLr (Zo (l := [iv d]) rfl rfl fun b2 => JLA rfl <| Zb <| Zc <| Zc <| Za <| JLq (.agg ⟨[iv 0]⟩) (Pu.build (pv := []) (l := [iv 0]) rfl bld114_) <| JLr (Zo (l := [iv 0]) rfl rfl fun b3 => JLr (Zg Zs rfl (At.bx 2 rfl) (Zt (Zv ht)) ?_))))
 refine ZD 0 rfl Tryz.call86 rfl rfl (fun hin => longT_ct _ _ _ _ _ _ (RT.mono (Hle.hu _ _) ht) (by omega) (by omega) (by omega) (by omega)) rfl ?_
 rintro _ _ ⟨rfl, rfl⟩
 refine Zb <| Zf rfl (fun h5 => ?_) (fun h5 => ?_)
 ·refine Zc <| Za <| JLA rfl <| Zb <| Zh <| ⟨iv 11, [], Ret.one rfl (RV.tmp rfl), Sub.nil, ?_⟩
  exact ⟨by rw [Xz, if_pos (by simp [h5])], rfl⟩
 refine Zi <| Zc <| Za <| JLM rfl <| JLq (.func (.func 87) ⟨[]⟩ ⟨[pp b2 0]⟩) (Pu.makeFunc rfl rfl) <| JLq (.agg ⟨[iv m, .func (.func 87) ⟨[]⟩ ⟨[pp b2 0]⟩]⟩) (Pu.build (pv := [(0, iv m), (1, .func (.func 87) ⟨[]⟩ ⟨[pp b2 0]⟩)]) (l := [iv m, .func (.func 87) ⟨[]⟩ ⟨[pp b2 0]⟩]) rfl (bld141_0_1 _ _ _ _)) <| JLr (Zn (l := [iv 0, .nilFunc]) Tryz.zeroValue141 rfl fun b6 => JLr (Zd 0 (vs := [iv m, .func (.func 87) ⟨[]⟩ ⟨[pp b2 0]⟩]) (l := [iv m, .func (.func 87) ⟨[]⟩ ⟨[pp b2 0]⟩]) ty141 rfl rfl rfl rfl rfl (Zk rfl (Zk rfl Zq)) rfl <| Zb <| Zc <| Za <| JLr (Zg ty141 rfl (At.bx 0 rfl) rfl <| JLr (Zg Zs rfl (At.bx 3 rfl) (Zt (Zv ht)) ?_))))
 refine Jc Tryz.call88 rfl (fun hin => all_ct _ _ _ _ _ _ _ (RT.mono (Hle.hu _ _) ht) (hin 2 _ rfl _ _ List.mem_cons_self) (by decide) (by have e1 := cnT_size t 1 0 h5; have e2 := cnT_le stL_le t 1 0 h5; omega)) rfl ?_
 rintro _ _ ⟨rfl, rfl⟩
 refine JLA rfl <| Zb <| Zh <| ⟨iv (Xn d m 0 t), [], Ret.one rfl (RV.tmp rfl), Sub.nil, ?_⟩
 exact ⟨by rw [Xz, if_neg (by simp [h5])], rfl⟩
theorem right_ct (l : List Tm) (v : Value) (H : Heap) (hl : rdS RT 36 H v l) : CT Tryz.prog 61 ⟨[v]⟩ [] H (fun v N => v = iv (ZS l) ∧ N = []) := by
 refine Zm Tryz.func61 rfl rfl <| Zc <| Za <| JLA rfl <| Zb <| Zc <| Zc <| Za <| JLm v ?_
 obtain ⟨a1, cap1, hv1⟩ := hl.sl
 have hle1 := hl.le
 refine JLn (Pu.lenSl Tryz.runUnderlying24 hv1) <| JLM rfl <| Zb <| Zl <| ZE (fun k ρ M => ∃ (j : Nat), ρ 2 = iv 0 ∧ ρ 6 = v ∧ ρ 7 = iv ((l.length : Int)) ∧ ρ 8 = iv ((j : Int)) ∧ Sub [] M ∧ j ≤ l.length ∧ ZS (l.drop j) = ZS l ∧ k = l.length - j) _ ⟨0, rfl, rfl, rfl, rfl, Sub.nil, Nat.zero_le _, rfl, rfl⟩ ?_
 rintro _ ρ2 _ ⟨j, e3, e4, e5, e6, hm7, hj, hinv, rfl⟩
 obtain ⟨ρ8, rfl⟩ := Zr (uc e3 (uc e4 (uc e5 (uc e6 un))))
 clear e3 e4 e5 e6
 refine ZJ hm7 <| Zc <| Za <| JLn (Pu.lss rfl rfl) <| Zb <| Zc <| Zf rfl (fun h9 => ?_) (fun h9 => ?_)
 ·replace h9 := dt h9
  have h9n : j < l.length := by omega
  have hlenl := hl.le
  refine Zi <| Zc <| Zl <| Zc <| Za ?_
  obtain ⟨b10, o10, cap10, row10, T10, fr10, cs10, hv10, hb10, hs10, hE10⟩ := hl.get j (by first | assumption | omega | decide | simp)
  refine JLq (pp b10 (o10 + j * 36)) (Pu.idx j Tryz.runUnderlying24 Zs hv10 rfl rfl (by first | assumption | omega | decide | simp)) <| JLr (Zg Zs rfl (At.im hb10) hs10 <| JLr (Zn (l := pkT 0 0 zS nS nS) Tryz.zeroValue27 rfl fun b11 => JLr (Zd 0 (vs := cs10) (l := cs10) Zs rfl rfl rfl rfl (Zv hE10) (XC hE10) (ZM (n := 36) rfl (Zv hE10)) <| Zb <| Zc <| Za <| JLr (Zg Zs rfl (At.bx 0 rfl) (Zt (Zv hE10)) <| Jc Tryz.call29 rfl (fun hin => check_ct _ _ _ _ _ (RT.mono (Hle.hu _ _) hE10)) rfl ?_))))
  rintro _ _ ⟨rfl, rfl⟩
  refine JLA rfl <| Zb <| Zc <| Za <| JLM rfl <| JLn (Pu.neq rfl rfl) <| Zb <| Zf rfl (fun h12 => ?_) (fun h12 => ?_)
  ·replace h12 := nt h12
   replace h12 := df h12
   refine Zc <| Za <| JLM rfl <| JLA rfl <| Zb <| Zh <| ⟨iv (Xz 60 8 (l[j])), [], Ret.one rfl (RV.tmp rfl), Sub.nil, ?_⟩
   exact ⟨by rw [← hinv, ZU h9n, ZS, if_neg h12], rfl⟩
  replace h12 := nf h12
  replace h12 := dt h12
  refine Zi <| Za <| JLn (Pu.inc rfl rfl (by omega)) <| JLM rfl <| Zb <| ⟨_, ?_, (j + 1), rfl, rfl, rfl, rfl, Sub.nil, ?_, ?_, rfl⟩
  ·omega
  ·omega
  rw [ZU h9n, ZS, if_pos h12] at hinv; exact hinv
 replace h9 := df h9
 have h9n : l.length ≤ j := by omega
 refine Zy _ rfl <| Zc <| Za <| JLA rfl <| Zb <| Zh <| ⟨iv 0, [], Ret.one rfl (RV.tmp rfl), Sub.nil, ?_⟩
 exact ⟨by rw [← hinv, Yt h9n]; rfl, rfl⟩
end Go.Proofs.YtmophpgiaiemhaaGreat.Hs
/-! Walks, printed by a program of this session's own (gen.py). -/
namespace Go.Proofs.YtmophpgiaiemhaaGreat.Hs
open Go Go.Proofs
set_option maxRecDepth 100000
set_option linter.unusedVariables false
set_option linter.unusedSimpArgs false
attribute [local irreducible] JL J CT wlo DT
theorem shiftP_ct (t : Tm) (dy fr : Int) (cs : List Value) (H : Heap) (ht : RT H cs t) : CT Tryz.prog 50 ⟨[.agg ⟨cs⟩, iv dy, iv fr]⟩ [] H (fun v N => ∃ cs k, v = .tuple ⟨[.agg ⟨cs⟩, iv (shiftP t dy fr).2]⟩ ∧ N = [k] ∧ OT (shiftP t dy fr).1 cs k) := by
 refine Zm Tryz.func50 rfl rfl <| Zc <| Za <| JLr (Zo (l := cs) rfl rfl fun b1 => JLr (Zo (l := [iv dy]) rfl rfl fun b2 => JLr (Zo (l := [iv fr]) rfl rfl fun b3 => JLr (Zn (l := pkT 0 0 zS nS nS) Tryz.zeroValue27 rfl fun b4 => JLA rfl <| Zb <| Zc <| Zc <| Za <| JLr (Zg Zs rfl (At.bx 3 rfl) (Zt (Zv ht)) ?_)))))
 refine JLr (Zp (vs := [.agg ⟨cs⟩]) [cs] Tryz.runUnderlying24 el27 rfl rfl (by intro e he; simp only [List.mem_cons, List.not_mem_nil, or_false] at he; subst he; exact (Zv ht)) rfl (by decide) fun b5 k5 ho5 hk5 => Jc Tryz.call61 rfl (fun hin => right_ct _ _ _ (Own.rd1 ho5 (hin 0 _ rfl) (RT.mono (Hle.hu _ _) ht))) rfl ?_)
 rintro _ _ ⟨rfl, rfl⟩
 refine JLA rfl <| Zb <| Zc <| Za <| JLM rfl <| JLn (Pu.neq rfl rfl) <| Zb <| Zf rfl (fun h6 => ?_) (fun h6 => ?_)
 ·replace h6 := nt h6
  replace h6 := df h6
  refine Zc <| Za <| JLq (.agg ⟨pkT 0 0 zS nS nS⟩) (Pu.build (pv := []) (l := pkT 0 0 zS nS nS) rfl (YR )) <| JLM rfl <| JLr (Zd 1 (vs := pkT 0 0 zS nS nS) (l := pkT 0 0 zS nS nS) Zs rfl rfl rfl rfl rfl (ZI rfl rfl) (Yk ..) <| JLA rfl <| Zb <| Zh <| ⟨.tuple ⟨[.agg ⟨pkT 0 0 zS nS nS⟩, iv (ZS [t])]⟩, [[]], Ret.two rfl (RV.cell Zs rfl (At.bx 1 rfl) (Z9 ..)) (RV.tmp rfl), (Sub.emp Sub.nil), ?_⟩)
  have hx : shiftP t dy fr = (zT, ZS [t]) := by simp only [shiftP]; (repeat' split) <;> first | rfl | (exfalso; simp_all; done) | (exfalso; simp_all; omega)
  exact ⟨_, _, by rw [hx], rfl, by rw [hx]; exact YA⟩
 replace h6 := nf h6
 replace h6 := dt h6
 refine Zi <| Zc <| Zc <| Za <| JLr (Ze ty3 rfl (At.bx 3 rfl) rfl <| Jc Tryz.call79 rfl (fun hin => Y0 _ _ _ _) rfl ?_)
 rintro _ _ ⟨rfl, rfl⟩
 refine JLM rfl <| Zx 2 [19, 20] [(20, cond (decide (dy < -60 ∨ 60 < dy)) undef (.bool (decide (fr < 0 ∨ 60 < fr))))] ?_ fun f8 => ?_
 ·cases h7 : (decide (dy < -60 ∨ 60 < dy)) with
  | false =>
   replace h7 := df h7
   refine JLr (Ze ty3 rfl (At.bx 2 rfl) rfl <| Jc Tryz.call79 rfl (fun hin => Y0 _ _ _ _) rfl ?_)
   rintro _ _ ⟨rfl, rfl⟩
   exact Zb ⟨⟨rfl, trivial⟩, rfl⟩
  | true =>
   exact ZG rfl ⟨rfl, trivial⟩
 refine JLn (Pu.pickOr rfl rfl rfl) <| Zb <| Zf rfl (fun h9 => ?_) (fun h9 => ?_)
 ·refine Zc <| Za <| JLq (.agg ⟨pkT 0 0 zS nS nS⟩) (Pu.build (pv := []) (l := pkT 0 0 zS nS nS) rfl (YR )) <| JLr (Zd 1 (vs := pkT 0 0 zS nS nS) (l := pkT 0 0 zS nS nS) Zs rfl rfl rfl rfl rfl (ZI rfl rfl) (Yk ..) <| JLA rfl <| Zb <| Zh <| ⟨.tuple ⟨[.agg ⟨pkT 0 0 zS nS nS⟩, iv 3]⟩, [[]], Ret.two rfl (RV.cell Zs rfl (At.bx 1 rfl) (Z9 ..)) (RV.tmp rfl), (Sub.emp Sub.nil), ?_⟩)
  have hx : shiftP t dy fr = (zT, 3) := by simp only [shiftP]; (repeat' split) <;> first | rfl | (exfalso; simp_all; done) | (exfalso; simp_all; omega)
  exact ⟨_, _, by rw [hx], rfl, by rw [hx]; exact YA⟩
 obtain ⟨h9a, h9b⟩ := orF h9
 replace h9a := df h9a
 replace h9b := df h9b
 refine Zi <| Zc <| Zc <| Za <| JLr (Zg Zs rfl (At.bx 4 rfl) (Zt (Zv ht)) <| Jc Tryz.call94 rfl (fun hin => freeP_ct _ _ _ (RT.mono (Hle.hu _ _) ht) (by have := (Yz (rightT1 ‹ZS [t] = 0›)).1; omega) (Yz (rightT1 ‹ZS [t] = 0›)).2.1) rfl ?_)
 rintro u10 _ ⟨_, k10, hu10, rfl, ho10⟩; subst hu10
 refine JLq (.func (.func 95) ⟨[]⟩ ⟨[pp b3 0, pp b2 0]⟩) (Pu.makeFunc rfl rfl) <| Jc Tryz.call63 rfl (fun hin => every_ct 95 [] [pp b3 0, pp b2 0] Tryz.call95 (mvOk dy fr) _ _ _ (own_ints ho10 (by have := freeP_len t; omega) (hin 0 _ rfl)) (fun x hx h hh => shiftO_ct x dy fr h b3 b2 (hh _ _ (hin 3 _ rfl _ _ List.mem_cons_self)) (hh _ _ (hin 4 _ rfl _ _ List.mem_cons_self)) (freeP_bound t x hx).1 (by have := (freeP_bound t x hx).2; omega) (by omega) (by omega))) rfl ?_
 rintro _ _ ⟨rfl, rfl⟩
 refine JLn (Pu.not rfl) <| Zb <| Zf rfl (fun h11 => ?_) (fun h11 => ?_)
 ·replace h11 := nt h11
  refine Zc <| Za <| JLq (.agg ⟨pkT 0 0 zS nS nS⟩) (Pu.build (pv := []) (l := pkT 0 0 zS nS nS) rfl (YR )) <| JLr (Zd 2 (vs := pkT 0 0 zS nS nS) (l := pkT 0 0 zS nS nS) Zs rfl rfl rfl rfl rfl (ZI rfl rfl) (Yk ..) <| JLA rfl <| Zb <| Zh <| ⟨.tuple ⟨[.agg ⟨pkT 0 0 zS nS nS⟩, iv 1]⟩, [[]], Ret.two rfl (RV.cell Zs rfl (At.bx 2 rfl) (Z9 ..)) (RV.tmp rfl), (Sub.emp Sub.nil), ?_⟩)
  have hx : shiftP t dy fr = (zT, 1) := by simp only [shiftP]; (repeat' split) <;> first | rfl | (exfalso; simp_all; done) | (exfalso; simp_all; omega)
  exact ⟨_, _, by rw [hx], rfl, by rw [hx]; exact YA⟩
 replace h11 := nf h11
 refine Zi <| Zc <| Za <| JLr (Zg Zs rfl (At.bx 5 rfl) (Zt (Zv ht)) <| JLr (Ze ty3 rfl (At.bx 4 rfl) rfl <| JLr (Ze ty3 rfl (At.bx 3 rfl) rfl <| Jc Tryz.call82 rfl (fun hin => shifted_ct _ _ _ _ _ (RT.mono (Hle.hu _ _) ht) (by have := (Yz (rightT1 ‹ZS [t] = 0›)).1; omega) (Yz (rightT1 ‹ZS [t] = 0›)).2.1 (by omega) (by omega)) rfl ?_)))
 rintro _ _ ⟨cs12, k12, rfl, rfl, hO12⟩
 refine JLr (Zd 3 (vs := cs12) (l := cs12) Zs rfl rfl rfl rfl hO12.len hO12.ok (ZM (n := 36) rfl hO12.len) <| JLA rfl <| Zb <| Zh <| ⟨.tuple ⟨[.agg ⟨cs12⟩, iv 0]⟩, [k12], Ret.two rfl (RV.cell Zs rfl (At.bx 3 rfl) (Zt hO12.len)) (RV.tmp rfl), (Sk Sub.nil), ?_⟩)
 have hx : shiftP t dy fr = (shT dy fr t, 0) := by simp only [shiftP]; (repeat' split) <;> first | rfl | (exfalso; simp_all; done) | (exfalso; simp_all; omega)
 exact ⟨_, _, by rw [hx], rfl, by rw [hx]; exact hO12⟩
theorem freeE_ct (t : Tm) (cs : List Value) (H : Heap) (ht : RT H cs t) : CT Tryz.prog 49 ⟨[.agg ⟨cs⟩]⟩ [] H (fun v N => ∃ u e k, v = .tuple ⟨[u, iv e]⟩ ∧ N = [k] ∧ Own 3 1 u (ints (freeE t).1) k ∧ e = (freeE t).2) := by
 refine Zm Tryz.func49 rfl rfl <| Zc <| Za <| JLr (Zo (l := cs) rfl rfl fun b1 => JLA rfl <| JLA rfl <| Zb <| Zc <| Zc <| Za <| JLr (Zg Zs rfl (At.bx 0 rfl) (Zt (Zv ht)) <| JLr (Zp (vs := [.agg ⟨cs⟩]) [cs] Tryz.runUnderlying24 el27 rfl rfl (by intro e he; simp only [List.mem_cons, List.not_mem_nil, or_false] at he; subst he; exact (Zv ht)) rfl (by decide) fun b2 k2 ho2 hk2 => Jc Tryz.call61 rfl (fun hin => right_ct _ _ _ (Own.rd1 ho2 (hin 0 _ rfl) (RT.mono (Hle.hu _ _) ht))) rfl ?_)))
 rintro _ _ ⟨rfl, rfl⟩
 refine JLA rfl <| Zb <| Zc <| Za <| JLM rfl <| JLn (Pu.neq rfl rfl) <| Zb <| Zf rfl (fun h3 => ?_) (fun h3 => ?_)
 ·replace h3 := nt h3
  replace h3 := df h3
  refine Zc <| Za <| JLM rfl <| JLA rfl <| JLA rfl <| Zb <| Zh <| ⟨.tuple ⟨[nS, iv (ZS [t])]⟩, [[]], Ret.two rfl (RV.tmp rfl) (RV.tmp rfl), (Sub.emp Sub.nil), ?_⟩
  have hx : freeE t = ([], ZS [t]) := by rw [freeE, if_neg (by assumption)]
  exact ⟨_, _, _, rfl, rfl, by rw [hx]; exact Own.nil, by rw [hx]⟩
 replace h3 := nf h3
 replace h3 := dt h3
 refine Zi <| Zc <| Za <| JLr (Zg Zs rfl (At.bx 1 rfl) (Zt (Zv ht)) <| Jc Tryz.call94 rfl (fun hin => freeP_ct _ _ _ (RT.mono (Hle.hu _ _) ht) (by have := (Yz (rightT1 ‹ZS [t] = 0›)).1; omega) (Yz (rightT1 ‹ZS [t] = 0›)).2.1) rfl ?_)
 rintro u4 _ ⟨_, k4, hu4, rfl, ho4⟩; subst hu4
 refine JLa u4 <| JLA rfl <| Zb <| Zh <| ⟨.tuple ⟨[u4, iv 0]⟩, [k4], Ret.two rfl (RV.tmp rfl) (RV.tmp rfl), (Sk Sub.nil), ?_⟩
 have hx : freeE t = (XI t, 0) := by rw [freeE, if_pos (by assumption)]
 exact ⟨_, _, _, rfl, rfl, by rw [hx]; exact ho4, by rw [hx]⟩
theorem substP_ct (t : Tm) (m : Int) (u : Tm) (cs us : List Value) (H : Heap) (ht : RT H cs t) (hu1 : RT H us u) : CT Tryz.prog 27 ⟨[.agg ⟨cs⟩, iv m, .agg ⟨us⟩]⟩ [] H (fun v N => ∃ cs k, v = .tuple ⟨[.agg ⟨cs⟩, iv (substP t m u).2]⟩ ∧ N = [k] ∧ OT (substP t m u).1 cs k) := by
 refine Zm Tryz.func27 rfl rfl <| Zc <| Za <| JLr (Zo (l := cs) rfl rfl fun b1 => JLr (Zo (l := [iv m]) rfl rfl fun b2 => JLr (Zo (l := us) rfl rfl fun b3 => JLr (Zn (l := pkT 0 0 zS nS nS) Tryz.zeroValue27 rfl fun b4 => JLA rfl <| Zb <| Zc <| Zc <| Za <| JLr (Zg Zs rfl (At.bx 3 rfl) (Zt (Zv ht)) ?_)))))
 refine JLr (Zg Zs rfl (At.bx 1 rfl) (Zt (Zv hu1)) <| JLr (Zp (vs := [.agg ⟨cs⟩, .agg ⟨us⟩]) [cs, us] Tryz.runUnderlying24 el27 rfl rfl (by intro e he; simp only [List.mem_cons, List.not_mem_nil, or_false] at he; rcases he with rfl | rfl <;> first | exact (Zv ht) | exact (Zv hu1)) rfl (by decide) fun b5 k5 ho5 hk5 => Jc Tryz.call61 rfl (fun hin => right_ct _ _ _ (Own.rd2 ho5 (hin 0 _ rfl) (RT.mono (Hle.hu _ _) ht) (RT.mono (Hle.hu _ _) hu1))) rfl ?_))
 rintro _ _ ⟨rfl, rfl⟩
 refine JLA rfl <| Zb <| Zc <| Za <| JLM rfl <| JLn (Pu.neq rfl rfl) <| Zb <| Zf rfl (fun h6 => ?_) (fun h6 => ?_)
 ·replace h6 := nt h6
  replace h6 := df h6
  refine Zc <| Za <| JLq (.agg ⟨pkT 0 0 zS nS nS⟩) (Pu.build (pv := []) (l := pkT 0 0 zS nS nS) rfl (YR )) <| JLM rfl <| JLr (Zd 1 (vs := pkT 0 0 zS nS nS) (l := pkT 0 0 zS nS nS) Zs rfl rfl rfl rfl rfl (ZI rfl rfl) (Yk ..) <| JLA rfl <| Zb <| Zh <| ⟨.tuple ⟨[.agg ⟨pkT 0 0 zS nS nS⟩, iv (ZS [t, u])]⟩, [[]], Ret.two rfl (RV.cell Zs rfl (At.bx 1 rfl) (Z9 ..)) (RV.tmp rfl), (Sub.emp Sub.nil), ?_⟩)
  have hx : substP t m u = (zT, ZS [t, u]) := by simp only [substP]; (repeat' split) <;> first | rfl | (exfalso; simp_all; done) | (exfalso; simp_all; omega)
  exact ⟨_, _, by rw [hx], rfl, by rw [hx]; exact YA⟩
 replace h6 := nf h6
 replace h6 := dt h6
 refine Zi <| Zc <| Zc <| Za <| JLr (Ze ty3 rfl (At.bx 3 rfl) rfl <| Jc Tryz.call79 rfl (fun hin => Y0 _ _ _ _) rfl ?_)
 rintro _ _ ⟨rfl, rfl⟩
 refine Zb <| Zf rfl (fun h7 => ?_) (fun h7 => ?_)
 ·replace h7 := dt h7
  refine Zc <| Za <| JLq (.agg ⟨pkT 0 0 zS nS nS⟩) (Pu.build (pv := []) (l := pkT 0 0 zS nS nS) rfl (YR )) <| JLr (Zd 1 (vs := pkT 0 0 zS nS nS) (l := pkT 0 0 zS nS nS) Zs rfl rfl rfl rfl rfl (ZI rfl rfl) (Yk ..) <| JLA rfl <| Zb <| Zh <| ⟨.tuple ⟨[.agg ⟨pkT 0 0 zS nS nS⟩, iv 3]⟩, [[]], Ret.two rfl (RV.cell Zs rfl (At.bx 1 rfl) (Z9 ..)) (RV.tmp rfl), (Sub.emp Sub.nil), ?_⟩)
  have hx : substP t m u = (zT, 3) := by simp only [substP]; (repeat' split) <;> first | rfl | (exfalso; simp_all; done) | (exfalso; simp_all; omega)
  exact ⟨_, _, by rw [hx], rfl, by rw [hx]; exact YA⟩
 replace h7 := df h7
 refine Zi <| Zc <| Za <| JLq (.func (.func 81) ⟨[]⟩ ⟨[pp b2 0, pp b3 0]⟩) (Pu.makeFunc rfl rfl) <| JLq (.agg ⟨[.func (.func 81) ⟨[]⟩ ⟨[pp b2 0, pp b3 0]⟩, .func (.func 84) ⟨[]⟩ ⟨[]⟩]⟩) (Pu.build (pv := [(0, .func (.func 81) ⟨[]⟩ ⟨[pp b2 0, pp b3 0]⟩), (1, .func (.func 84) ⟨[]⟩ ⟨[]⟩)]) (l := [.func (.func 81) ⟨[]⟩ ⟨[pp b2 0, pp b3 0]⟩, .func (.func 84) ⟨[]⟩ ⟨[]⟩]) rfl (bld136_0_1 _ _ _ _ _ _)) <| JLr (Zg Zs rfl (At.bx 4 rfl) (Zt (Zv ht)) <| Jc Tryz.call85 rfl (fun hin => mapTermP_ct 84 [] [] Tryz.call84 (fun s => s) 81 [] [pp b2 0, pp b3 0] Tryz.call81 (sbv m u) _ _ _ _ (RT.mono (Hle.hu _ _) ht) (by have := (Yz (rightT2 ‹ZS [t, u] = 0›).1).1; omega) (Yz (rightT2 ‹ZS [t, u] = 0›).1).2.1 (by decide) (by have := (Yz (rightT2 ‹ZS [t, u] = 0›).1).1; omega) (fun s h hh => same_ct s h) (fun n b h hh h1 h2 h3 h4 => substV_ct n b m u _ h b2 b3 (hh _ _ (hin 3 _ rfl _ _ List.mem_cons_self)) (hh _ _ (hin 2 _ rfl _ _ List.mem_cons_self)) (RT.mono (Hle.trans (Hle.hu _ _) hh) hu1) (by have := (Yz (rightT2 ‹ZS [t, u] = 0›).2).1; omega) (Yz (rightT2 ‹ZS [t, u] = 0›).2).2.1 h1 h2 h3 h4)) rfl ?_)
 rintro _ _ ⟨cs8, k8, rfl, rfl, hO8⟩
 refine Jc Tryz.call80 rfl (fun hin => short_ct _ _ _ (hO8.rd (hin 0 _ rfl))) rfl ?_
 rintro _ _ ⟨rfl, rfl⟩
 refine JLn (Pu.extract rfl rfl) <| JLn (Pu.extract rfl rfl) <| JLr (Zd 2 (vs := (if longB (mapQ (fun s => s) (sbv m u) 0 t) = true then pkT 0 0 zS nS nS else cs8)) (l := (if longB (mapQ (fun s => s) (sbv m u) 0 t) = true then pkT 0 0 zS nS nS else cs8)) Zs rfl rfl rfl rfl (len_ite (n := 36) rfl hO8.len) (okc_ite (ZI rfl rfl) hO8.ok) (ZM (n := 36) rfl (len_ite (n := 36) rfl hO8.len)) <| JLA rfl <| Zb <| Zh ?_)
 by_cases hL : longB (mapQ (fun s => s) (sbv m u) 0 t) = true
 ·refine ⟨.tuple ⟨[.agg ⟨(if longB (mapQ (fun s => s) (sbv m u) 0 t) = true then pkT 0 0 zS nS nS else cs8)⟩, iv ((if longB (mapQ (fun s => s) (sbv m u) 0 t) = true then 11 else 0))]⟩, [[]], Ret.two rfl (RV.cell Zs rfl (At.bx 2 rfl) (Zt (len_ite (n := 36) rfl hO8.len))) (RV.tmp rfl), (Sub.emp Sub.nil), ?_⟩
  have hx : substP t m u = (zT, 11) := by rw [substP, if_pos (by assumption), if_neg (by omega), if_pos (show longB (sbT m u t) = true from hL)]
  exact ⟨_, _, by rw [if_pos hL, if_pos hL, hx], rfl, by rw [hx]; exact YA⟩
 refine ⟨.tuple ⟨[.agg ⟨(if longB (mapQ (fun s => s) (sbv m u) 0 t) = true then pkT 0 0 zS nS nS else cs8)⟩, iv ((if longB (mapQ (fun s => s) (sbv m u) 0 t) = true then 11 else 0))]⟩, [k8], Ret.two rfl (RV.cell Zs rfl (At.bx 2 rfl) (Zt (len_ite (n := 36) rfl hO8.len))) (RV.tmp rfl), (Sk Sub.nil), ?_⟩
 have hx : substP t m u = (mapQ (fun s => s) (sbv m u) 0 t, 0) := by rw [substP, if_pos (by assumption), if_neg (by omega), if_neg (show ¬ longB (sbT m u t) = true from hL)]; rfl
 exact ⟨_, _, by rw [if_neg hL, if_neg hL, hx], rfl, by rw [hx]; exact hO8⟩
end Go.Proofs.YtmophpgiaiemhaaGreat.Hs
/-! Walks, printed by a program of this session's own (gen.py). -/
namespace Go.Proofs.YtmophpgiaiemhaaGreat.Hs
open Go Go.Proofs
set_option maxRecDepth 100000
set_option linter.unusedVariables false
set_option linter.unusedSimpArgs false
attribute [local irreducible] JL J CT wlo DT
theorem spoil_ct : ∀ (t : Tm) (cs : List Value) (k : Zj) (H : Heap), OT t cs k → CT Tryz.prog 72 ⟨[.agg ⟨cs⟩]⟩ [k] H (fun v N => v = .tuple ⟨[]⟩ ∧ N = []) := by
 intro t
 induction t using Tm.ind with
 | h kind num ref kids cases ih ih' =>
 intro cs k H hO
 obtain ⟨ks, cv, es, es', k1, k2, k3, k4, rfl, hk, hn, ho1, ho2, ho3, ho4, rfl, hlK, hlC⟩ := OT_mk.1 hO
 refine Zm Tryz.func72 rfl rfl <| ZJ (M' := [k1, k2, k3, k4]) (Sub.flat Sub.refl (by simp)) <| Zc <| Za <| JLr (Zo (l := pkT kind num ref ks cv) rfl rfl fun b1 => Zb <| Zc <| Zc <| Za <| JLq (pp b1 34) (Z8 rfl rfl) <| JLr (Ze YW rfl (At.bx 0 rfl) (Yb ..) ?_))
 obtain ⟨a2, cap2, hv2⟩ := ho1.sl
 rw [(OTs_len ho2)] at hv2
 refine JLn (Pu.lenSl Tryz.runUnderlying24 hv2) <| JLM rfl <| Zb <| Zl <| ZE (fun k ρ M => ∃ (j : Nat) (es5 : List (List Value)) (k5 c0 : Zj), ρ 1 = pp b1 0 ∧ ρ 7 = iv ((kids.length : Int)) ∧ ρ 8 = iv ((j : Int)) ∧ Sub [(BX b1 (pkT kind num ref ks cv) 27), k5, c0, k3, k4] M ∧ j ≤ kids.length ∧ Own 27 36 ks es5 k5 ∧ es5.length = kids.length ∧ OTs (kids.drop j) (es5.drop j) c0 ∧ k = kids.length - j) _ ⟨0, es, k1, k2, rfl, rfl, rfl, (Sk (Sk (Sk (Sk (Sk Sub.nil))))), Nat.zero_le _, ho1, OTs_len ho2, by simpa using ho2, rfl⟩ ?_
 rintro _ ρ3 _ ⟨j, es5, k5, c0, e4, e5, e6, hm7, hj, ho5, hl5, hr5, rfl⟩
 obtain ⟨ρ8, rfl⟩ := Zr (uc e4 (uc e5 (uc e6 un)))
 clear e4 e5 e6
 refine ZJ hm7 <| Zc <| Za <| JLn (Pu.lss rfl rfl) <| Zb <| Zc <| Zf rfl (fun h9 => ?_) (fun h9 => ?_)
 ·replace h9 := dt h9
  have h9n : j < kids.length := by omega
  obtain ⟨e5, kc5, c5, hE, hO5, rfl, hR5⟩ := OTs.take hr5 h9n
  refine ZJ (M' := [(BX b1 (pkT kind num ref ks cv) 27), k5, kc5, c5, k3, k4]) (Sub.flat Sub.refl (by simp)) <| Zi <| Zc <| Zl <| Zc <| Za <| JLM rfl <| JLA rfl <| Zb <| Zc <| Za <| JLq (pp b1 34) (Z8 rfl rfl) <| JLr (Ze YW rfl (At.bx 0 rfl) (Yb ..) ?_)
  refine JLM rfl ?_
  obtain ⟨b10, cap10, row10, hv10, hm10, hs10⟩ := ho5.at' hE
  refine JLq (pp b10 (0 + j * 36)) (Pu.idx j Tryz.runUnderlying24 Zs hv10 rfl rfl (by rw [hl5]; exact h9n)) <| JLr (Zg Zs rfl (At.k 1 rfl hm10) hs10 <| ZD 2 rfl Tryz.call72 rfl rfl (fun hin => ih _ (List.getElem_mem h9n) _ _ _ hO5) rfl ?_)
  rintro _ _ ⟨rfl, rfl⟩
  refine Zb <| Za <| JLq (pp b1 34) (Z8 rfl rfl) <| JLr (Ze YW rfl (At.bx 0 rfl) (Yb ..) <| JLM rfl <| JLq (.agg ⟨pkT 98 0 zS nS nS⟩) (Pu.build (pv := [(0, iv 98)]) (l := pkT 98 0 zS nS nS) rfl (bld27_0 _)) ?_)
  obtain ⟨b11, cap11, row11, hv11, hm11, hs11⟩ := ho5.at' hE
  refine JLq (pp b11 (0 + j * 36)) (Pu.idx j Tryz.runUnderlying24 Zs hv11 rfl rfl (by rw [hl5]; exact h9n)) <| JLr (Runs_storeOwn (i := 1) (j := j) (b := b11) Zs rfl ho5 ⟨_, _, hv11⟩ rfl (by rw [hl5]; exact h9n) rfl rfl rfl (ZI rfl rfl) fun k12 ho12 => Zb <| Za <| JLn (Pu.inc rfl rfl (by omega)) <| JLM rfl <| Zb <| ⟨_, ?_, (j + 1), (es5.set j (pkT 98 0 zS nS nS)), k12, c5, rfl, rfl, rfl, (Sk (Sk (Sk (Sk (Sk Sub.nil))))), ?_, ?_, ?_, ?_, rfl⟩)
  ·omega
  ·omega
  ·exact ho12
  ·rw [List.length_set]; exact hl5
  exact hR5 _
 replace h9 := df h9
 have h9n : kids.length ≤ j := by omega
 refine Zy _ rfl <| Zc <| Za <| JLq (pp b1 35) (Z1 rfl rfl) <| JLr (Ze YI rfl (At.bx 0 rfl) (Z2 ..) ?_)
 obtain ⟨a13, cap13, hv13⟩ := ho3.sl
 rw [(OCs_len ho4)] at hv13
 refine JLn (Pu.lenSl Tryz.runUnderlying25 hv13) <| JLM rfl <| Zb <| Zl <| ZE (fun k ρ M => ∃ (j : Nat) (es7 : List (List Value)) (k7 c1 : Zj), ρ 1 = pp b1 0 ∧ ρ 25 = iv ((cases.length : Int)) ∧ ρ 26 = iv ((j : Int)) ∧ Sub [(BX b1 (pkT kind num ref ks cv) 27), k7, c1] M ∧ j ≤ cases.length ∧ Own 80 71 cv es7 k7 ∧ es7.length = cases.length ∧ OCs (cases.drop j) (es7.drop j) c1 ∧ k = cases.length - j) _ ⟨0, es', k3, k4, rfl, rfl, rfl, (Sk (Sd (Sd (Sk (Sk Sub.nil))))), Nat.zero_le _, ho3, OCs_len ho4, by simpa using ho4, rfl⟩ ?_
 rintro _ ρ14 _ ⟨j, es7, k7, c1, e15, e16, e17, hm18, hj, ho7, hl7, hr6, rfl⟩
 obtain ⟨ρ19, rfl⟩ := Zr (uc e15 (uc e16 (uc e17 un)))
 clear e15 e16 e17
 refine ZJ hm18 <| Zc <| Za <| JLn (Pu.lss rfl rfl) <| Zb <| Zc <| Zf rfl (fun h20 => ?_) (fun h20 => ?_)
 ·replace h20 := dt h20
  have h20n : j < cases.length := by omega
  obtain ⟨kk6, n6, r6, ks6, e6, esp6, q6, kp6, kq6, kc6, c6, hE, hOp, hq6, hq66, hO6, rfl, hR6⟩ := OCs.take hr6 h20n
  refine ZJ (M' := [(BX b1 (pkT kind num ref ks cv) 27), k7, kp6, kq6, kc6, c6]) (Sub.flat Sub.refl (by simp)) <| Zi <| Zc <| Zl <| Zc <| Za <| JLM rfl <| JLA rfl <| Zb <| Zc <| Za <| JLq (pp b1 35) (Z1 rfl rfl) <| JLr (Ze YI rfl (At.bx 0 rfl) (Z2 ..) ?_)
  refine JLM rfl ?_
  obtain ⟨b21, cap21, row21, hv21, hm21, hs21⟩ := ho7.at' hE
  refine JLq (pp b21 (0 + j * 71)) (Pu.idx j Tryz.runUnderlying25 YM hv21 rfl rfl (by rw [hl7]; exact h20n)) <| JLq (pp b21 (0 + j * 71 + 35)) (fa80_1 rfl rfl) <| JLr (Zg Zs rfl (At.k 1 rfl hm21) (sub_sub hs21 (Xg rfl hO6.len)) <| ZD 4 rfl Tryz.call72 rfl rfl (fun hin => ih' _ (List.getElem_mem h20n) _ _ _ hO6) rfl ?_)
  rintro _ _ ⟨rfl, rfl⟩
  refine Zb <| Zc <| Zc <| Za <| JLq (pp b1 35) (Z1 rfl rfl) <| JLr (Ze YI rfl (At.bx 0 rfl) (Z2 ..) <| JLM rfl ?_)
  obtain ⟨b22, cap22, row22, hv22, hm22, hs22⟩ := ho7.at' hE
  refine JLq (pp b22 (0 + j * 71)) (Pu.idx j Tryz.runUnderlying25 YM hv22 rfl rfl (by rw [hl7]; exact h20n)) <| JLq (pp b22 (0 + j * 71)) (Y1 rfl rfl) <| JLq (pp b22 (0 + j * 71 + 34)) (Yl rfl rfl) <| JLr (Ze Xv rfl (At.k 1 rfl hm22) (sub_get hs22 (get_l (Yw ..))) ?_)
  obtain ⟨a23, cap23, hv23⟩ := hOp.sl
  rw [hq6] at hv23
  refine JLn (Pu.lenSl Tryz.runUnderlying73 hv23) <| JLM rfl <| Zb <| Zl <| ZE (fun k ρ M => ∃ (i : Nat) (es8 : List (List Value)) (k8 : Zj), ρ 1 = pp b1 0 ∧ ρ 3 = iv ((j : Int)) ∧ ρ 25 = iv ((cases.length : Int)) ∧ ρ 26 = iv ((j : Int)) ∧ ρ 43 = iv ((q6 : Int)) ∧ ρ 44 = iv ((i : Int)) ∧ Sub [k8, (BX b1 (pkT kind num ref ks cv) 27), k7, kq6, c6] M ∧ i ≤ q6 ∧ Own 75 35 ks6 es8 k8 ∧ es8.length = q6 ∧ k = q6 - i) _ ⟨0, esp6, kp6, rfl, rfl, rfl, rfl, rfl, rfl, (Sub.cons 2 rfl (Sk (Sk (Sk (Sk Sub.nil))))), Nat.zero_le _, hOp, hq6, rfl⟩ ?_
  rintro _ ρ24 _ ⟨i, es8, k8, e25, e26, e27, e28, e29, e30, hm31, hi, ho8, hl8, rfl⟩
  obtain ⟨ρ32, rfl⟩ := Zr (uc e25 (uc e26 (uc e27 (uc e28 (uc e29 (uc e30 un))))))
  clear e25 e26 e27 e28 e29 e30
  refine ZJ hm31 <| Zc <| Za <| JLn (Pu.lss rfl rfl) <| Zb <| Zc <| Zf rfl (fun h33 => ?_) (fun h33 => ?_)
  ·replace h33 := dt h33
   have h33n : i < q6 := by omega
   refine Zi <| Zc <| Zl <| Zc <| Za <| JLM rfl <| JLA rfl <| Zb <| Za <| JLq (pp b1 35) (Z1 rfl rfl) <| JLr (Ze YI rfl (At.bx 1 rfl) (Z2 ..) <| JLM rfl ?_)
   obtain ⟨b34, cap34, row34, hv34, hm34, hs34⟩ := ho7.at' hE
   refine JLq (pp b34 (0 + j * 71)) (Pu.idx j Tryz.runUnderlying25 YM hv34 rfl rfl (by rw [hl7]; exact h20n)) <| JLq (pp b34 (0 + j * 71)) (Y1 rfl rfl) <| JLq (pp b34 (0 + j * 71 + 34)) (Yl rfl rfl) <| JLr (Ze Xv rfl (At.k 2 rfl hm34) (sub_get hs34 (get_l (Yw ..))) <| JLM rfl <| JLq (.agg ⟨pkP 98 0 zS nS⟩) (Pu.build (pv := [(0, iv 98)]) (l := pkP 98 0 zS nS) rfl (bld75_0 _)) ?_)
   obtain ⟨b35, cap35, row35, hv35, hm35, hs35⟩ := ho8.at (j := i) (by rw [hl8]; exact h33n)
   refine JLq (pp b35 (0 + i * 35)) (Pu.idx i Tryz.runUnderlying73 Z6 hv35 rfl rfl (by rw [hl8]; exact h33n)) <| JLr (Runs_storeOwn (i := 0) (j := i) (b := b35) Z6 rfl ho8 ⟨_, _, hv35⟩ rfl (by rw [hl8]; exact h33n) rfl rfl rfl (pkP_ok rfl) fun k36 ho36 => Zb <| Za <| JLn (Pu.inc rfl rfl (by omega)) <| JLM rfl <| Zb <| ⟨_, ?_, (i + 1), (es8.set i (pkP 98 0 zS nS)), k36, rfl, rfl, rfl, rfl, rfl, rfl, (Sk (Sk (Sk (Sk (Sk Sub.nil))))), ?_, ?_, ?_, rfl⟩)
   ·omega
   ·omega
   ·exact ho36
   rw [List.length_set]; exact hl8
  replace h33 := df h33
  have h33n : q6 ≤ i := by omega
  refine Zy _ rfl <| Za <| JLq (pp b1 35) (Z1 rfl rfl) <| JLr (Ze YI rfl (At.bx 1 rfl) (Z2 ..) <| JLM rfl <| JLq (.agg ⟨(pkP 0 0 zS nS) ++ (pkT 0 0 zS nS nS)⟩) (Pu.build (pv := []) (l := (pkP 0 0 zS nS) ++ (pkT 0 0 zS nS nS)) rfl bld80_) ?_)
  obtain ⟨b37, cap37, row37, hv37, hm37, hs37⟩ := ho7.at' hE
  refine JLq (pp b37 (0 + j * 71)) (Pu.idx j Tryz.runUnderlying25 YM hv37 rfl rfl (by rw [hl7]; exact h20n)) <| JLr (Runs_storeOwn (i := 2) (j := j) (b := b37) YM rfl ho7 ⟨_, _, hv37⟩ rfl (by rw [hl7]; exact h20n) rfl rfl rfl (ZN (pkP_ok rfl) (ZI rfl rfl)) fun k38 ho38 => Zb <| Za <| JLn (Pu.inc rfl rfl (by omega)) <| JLM rfl <| Zb <| ⟨_, ?_, (j + 1), (es7.set j ((pkP 0 0 zS nS) ++ (pkT 0 0 zS nS nS))), k38, c6, rfl, rfl, rfl, (Sd (Sk (Sk (Sd (Sk Sub.nil))))), ?_, ?_, ?_, ?_, rfl⟩)
  ·omega
  ·omega
  ·exact ho38
  ·rw [List.length_set]; exact hl7
  exact hR6 _
 replace h20 := df h20
 have h20n : cases.length ≤ j := by omega
 refine Zy _ rfl <| ⟨.tuple ⟨[]⟩, [], Ret.none rfl, Sub.nil, ?_⟩
 exact ⟨rfl, rfl⟩
end Go.Proofs.YtmophpgiaiemhaaGreat.Hs
/-! Walks, printed by a program of this session's own (gen.py). -/
namespace Go.Proofs.YtmophpgiaiemhaaGreat.Hs
open Go Go.Proofs
set_option maxRecDepth 100000
set_option linter.unusedVariables false
set_option linter.unusedSimpArgs false
attribute [local irreducible] JL J CT wlo DT
theorem ownTerm_ct : ∀ (t : Tm) (cs : List Value) (H : Heap), RT H cs t → sizeT t ≤ 1000000 → CT Tryz.prog 10 ⟨[.agg ⟨cs⟩]⟩ [] H (fun v N => ∃ cs k, v = .agg ⟨cs⟩ ∧ N = [k] ∧ OT t cs k) := by
 intro t
 induction t using Tm.ind with
 | h kind num ref kids cases ih ih' =>
 intro cs H ht hz
 rw [sizeT] at hz
 have hlk := Xx kids
 have hlc := Xy cases
 obtain ⟨ks, cv, rfl, hk, hn, hks, hcv⟩ := RT_mk.1 ht
 refine Zm Tryz.func10 rfl rfl <| Zc <| Za <| JLr (Zo (l := pkT kind num ref ks cv) rfl rfl fun b1 => JLr (Zn (l := pkT 0 0 zS nS nS) Tryz.zeroValue27 rfl fun b2 => Zb <| Zc <| ZF mixed #[0, 1, 0, 4, 3, 31] 5 [some 9, some 10, some 11, some 12, some 3] [] [] rfl (by kernel_rfl) rfl (by kernel_rfl) <| Dq (pp b1 34) (fun _ => Z8 rfl rfl) <| Dl1 YW (At.bx 1 rfl) (Yb ..) <| Dq (pp b1 35) (fun _ => Z1 rfl rfl) <| Dl1 YI (At.bx 1 rfl) (Z2 ..) <| Dq ks (fun _ => Pu.assign rfl) ?_))
 refine ZL (M' := [(BX b2 (pkT 0 0 zS nS nS) 27), (BX b1 (pkT kind num ref ks cv) 27)]) rfl ?_
 show JL _ _ _ [_] _ _ _
 refine JLa cv <| Zb <| Zc <| Za <| JLq (pp b1 34) (Z8 rfl rfl) <| JLr (Zd 1 (vs := [nS]) (l := pkT kind num ref nS cv) YW rfl rfl rfl rfl rfl (Zk rfl Zq) (pkT_s34 ..) <| JLq (pp b1 35) (Z1 rfl rfl) <| JLr (Zd 1 (vs := [nS]) (l := pkT kind num ref nS nS) YI rfl rfl rfl rfl rfl (Zk rfl Zq) (pkT_s35 ..) <| Zb <| Zc <| Zc <| Za <| JLm ks ?_))
 obtain ⟨a3, cap3, hv3⟩ := hks.sl
 have hle3 := hks.le
 refine JLn (Pu.lenSl Tryz.runUnderlying24 hv3) <| JLM rfl <| Zb <| Zl <| ZE (fun k ρ M => ∃ (j : Nat) (v : Value) (es : List (List Value)) (k1 k2 : Zj), ρ 1 = pp b1 0 ∧ ρ 2 = pp b2 0 ∧ ρ 4 = cv ∧ ρ 15 = ks ∧ ρ 16 = iv ((kids.length : Int)) ∧ ρ 17 = iv ((j : Int)) ∧ Sub [(BX b1 (pkT kind num ref v nS) 27), k1, k2, (BX b2 (pkT 0 0 zS nS nS) 27)] M ∧ j ≤ kids.length ∧ Own 27 36 v es k1 ∧ OTs ((kids.take j)) es k2 ∧ k = kids.length - j) _ ⟨0, nS, [], [], [], rfl, rfl, rfl, rfl, rfl, rfl, (Sub.cons 1 rfl (Sub.emp (Sub.emp (Sk Sub.nil)))), Nat.zero_le _, Own.nil, OTs.nil, rfl⟩ ?_
 rintro _ ρ4 _ ⟨j, v, es, k1, k2, e5, e6, e7, e8, e9, e10, hm11, hj, hov, hopv, rfl⟩
 obtain ⟨ρ12, rfl⟩ := Zr (uc e5 (uc e6 (uc e7 (uc e8 (uc e9 (uc e10 un))))))
 clear e5 e6 e7 e8 e9 e10
 refine ZJ hm11 ?_
 have hlen := hks.le
 refine Zc <| Za <| JLn (Pu.lss rfl rfl) <| Zb <| Zc <| Zf rfl (fun h13 => ?_) (fun h13 => ?_)
 ·replace h13 := dt h13
  have h13n : j < kids.length := by omega
  have helv := OTs_len hopv
  rw [List.length_take] at helv
  have hs1 := YY _ (List.getElem_mem h13n)
  refine Zi <| Zc <| Zl <| Zc <| Za ?_
  obtain ⟨b14, o14, cap14, row14, T14, fr14, cs14, hv14, hb14, hs14, hE14⟩ := hks.get j (by first | assumption | omega | decide | simp)
  refine JLq (pp b14 (o14 + j * 36)) (Pu.idx j Tryz.runUnderlying24 Zs hv14 rfl rfl (by first | assumption | omega | decide | simp)) <| JLr (Zg Zs rfl (At.im hb14) hs14 <| JLr (Zn (l := pkT 0 0 zS nS nS) Tryz.zeroValue27 rfl fun b15 => JLr (Zd 0 (vs := cs14) (l := cs14) Zs rfl rfl rfl rfl (Zv hE14) (XC hE14) (ZM (n := 36) rfl (Zv hE14)) <| Zb <| ZF mixed #[0, 1, 0, 4, 12, 31, 63, 127] 5 [some 21, some 22, some 23, some 24, some 25] [] [(3, fun _ _ vw qw => ∃ cs k, vw = .agg ⟨cs⟩ ∧ qw = [k] ∧ OT (kids[j]) cs k), (4, fun r _ vw qw => ∃ b k, vw = .slice (some ⟨b, 0, none⟩) 1 1 ∧ qw = [k] ∧ Own 27 36 (.slice (some ⟨b, 0, none⟩) 1 1) [(cel (r 3))] k ∧ k = (BX b (List.flatten [(cel (r 3))]) 27))] rfl (by kernel_rfl) rfl (by kernel_rfl) <| Dq (pp b1 34) (fun _ => Z8 rfl rfl) <| Dl1 YW (At.bx 1 rfl) (Yb ..) <| Dl Zs (At.bx 0 rfl) (Zt (Zv hE14)) <| Dc rfl Tryz.call10 (fun _ => rfl) (fun hin => ih _ (List.getElem_mem h13n) _ _ (RT.mono (Hle.hu _ _) hE14) (by omega)) ?_)))
  rintro _ _ ⟨cs18, k18, rfl, rfl, hO18⟩
  refine Dr rfl (fun _ => Zp (vs := [.agg ⟨cs18⟩]) [cs18] Tryz.runUnderlying24 el27 rfl rfl (by intro e he; simp only [List.mem_cons, List.not_mem_nil, or_false] at he; subst he; exact hO18.len) rfl (by decide) fun b k h1 h2 => ⟨[k], by rw [ZR rfl]; exact Sub.refl, b, k, rfl, rfl, h1, h2⟩) (fun _ _ ⟨b19, k19, e1, e2, ho19, hk19⟩ => ?_); subst e1 e2
  refine ZL (M' := [k19, k18, (BX b15 cs14 27), (BX b1 (pkT kind num ref v nS) 27), k1, k2, (BX b2 (pkT 0 0 zS nS nS) 27)]) rfl ?_
  show JL _ _ _ [_, _, _] _ _ _
  have hlens20 : ∀ e ∈ ([cs18] : List (List Value)), List.length e = 36 := by
   intro e he; simp only [List.mem_cons, List.not_mem_nil, or_false] at he
   rcases he with rfl
   ·exact hO18.len
  have hoks20 : ∀ e ∈ ([cs18] : List (List Value)), okc e := by
   intro e he; simp only [List.mem_cons, List.not_mem_nil, or_false] at he
   rcases he with rfl
   ·exact hO18.ok
  refine JLr (ZA (i := 4) (n := 1) (es' := [cs18]) Tryz.runUnderlying24 Tryz.runUnderlying24 (Or.inl rfl) el27 rfl rfl rfl hov (fun F w m => Src.row (((At.k 0 rfl (by rw [hk19]; exact List.mem_cons_self))).heap m) (Zt (Zz hlens20))) rfl hlens20 hoks20 (by decide) (by omega) fun v20 k20 ho20 => JLq (pp b1 34) (Z8 rfl rfl) <| JLr (Zd 3 (vs := [v20]) (l := pkT kind num ref v20 nS) YW rfl rfl rfl (ZK ho20.one) rfl (Zk ho20.one Zq) (pkT_s34 ..) <| Zb <| Za <| JLn (Pu.inc rfl rfl (by omega)) <| JLM rfl <| Zb <| ⟨_, ?_, (j + 1), v20, (es ++ [cs18]), k20, (k2 ++ k18), rfl, rfl, rfl, rfl, rfl, rfl, (Sd (Sub.cons 2 rfl (Sub.cons 2 rfl (Sub.join (Sub.cons 2 rfl (Sk (Sd (Sk Sub.nil)))))))), ?_, ?_, ?_, rfl⟩))
  ·omega
  ·omega
  ·assumption
  rw [List.take_succ_eq_append_getElem h13n]; exact OTs.snoc hO18 hopv
 replace h13 := df h13
 have h13n : kids.length ≤ j := by omega
 refine Zy _ rfl <| Zc <| Zc <| Za <| JLm cv ?_
 obtain ⟨a21, cap21, hv21⟩ := hcv.sl
 have hle21 := hcv.le
 refine JLn (Pu.lenSl Tryz.runUnderlying25 hv21) <| JLM rfl <| Zb <| Zl ?_
 rw [List.take_of_length_le h13n] at hopv
 refine ZE (fun k ρ M => ∃ (j : Nat) (w : Value) (es2 : List (List Value)) (k3 k4 : Zj), ρ 1 = pp b1 0 ∧ ρ 2 = pp b2 0 ∧ ρ 29 = cv ∧ ρ 30 = iv ((cases.length : Int)) ∧ ρ 31 = iv ((j : Int)) ∧ Sub [(BX b1 (pkT kind num ref v w) 27), k3, k4, k1, k2, (BX b2 (pkT 0 0 zS nS nS) 27)] M ∧ j ≤ cases.length ∧ Own 80 71 w es2 k3 ∧ OCs ((cases.take j)) es2 k4 ∧ k = cases.length - j) _ ⟨0, nS, [], [], [], rfl, rfl, rfl, rfl, rfl, (Sk (Sub.emp (Sub.emp (Sk (Sk (Sk Sub.nil)))))), Nat.zero_le _, Own.nil, OCs.nil, rfl⟩ ?_
 rintro _ ρ22 _ ⟨j, w, es2, k3, k4, e23, e24, e25, e26, e27, hm28, hj, how, hopw, rfl⟩
 obtain ⟨ρ29, rfl⟩ := Zr (uc e23 (uc e24 (uc e25 (uc e26 (uc e27 un)))))
 clear e23 e24 e25 e26 e27
 refine ZJ hm28 ?_
 have hlen := hcv.le
 refine Zc <| Za <| JLn (Pu.lss rfl rfl) <| Zb <| Zc <| Zf rfl (fun h30 => ?_) (fun h30 => ?_)
 ·replace h30 := dt h30
  have h30n : j < cases.length := by omega
  have helw := OCs_len hopw
  rw [List.length_take] at helw
  have hs1 := YK _ (List.getElem_mem h30n)
  refine Zi <| Zc <| Zl <| Zc <| Za ?_
  obtain ⟨b31, o31, cap31, row31, T31, fr31, cs31, hv31, hb31, hs31, hE31⟩ := hcv.get j (by first | assumption | omega | decide | simp)
  obtain ⟨ca31, cb31, rfl, hA31, hB31⟩ := hE31
  refine JLq (pp b31 (o31 + j * 71)) (Pu.idx j Tryz.runUnderlying25 YM hv31 rfl rfl (by first | assumption | omega | decide | simp)) <| JLr (Zg YM rfl (At.im hb31) hs31 <| JLr (Zn (l := (pkP 0 0 zS nS) ++ (pkT 0 0 zS nS nS)) Tryz.zeroValue80 rfl fun b32 => JLr (Zd 0 (vs := ca31 ++ cb31) (l := ca31 ++ cb31) YM rfl rfl rfl rfl (Zw (Zu hA31) (Zv hB31)) (ZN (Xj hA31) (XC hB31)) (ZM (n := 71) rfl (Zw (Zu hA31) (Zv hB31))) <| Zb <| ZF mixed #[0, 1, 0, 4, 12, 0, 32, 124, 252, 508, 1023, 2047, 4095] 10 [some 35, some 36, some 37, some 38, some 39, some 40, some 41, some 42, some 43, some 44] [] [(4, fun _ _ vw qw => ∃ cs k, vw = .agg ⟨cs⟩ ∧ qw = [k] ∧ OP (cases[j].1) cs k), (7, fun _ _ vw qw => ∃ cs k, vw = .agg ⟨cs⟩ ∧ qw = [k] ∧ OT (cases[j].2) cs k), (9, fun r _ vw qw => ∃ b k, vw = .slice (some ⟨b, 0, none⟩) 1 1 ∧ qw = [k] ∧ Own 80 71 (.slice (some ⟨b, 0, none⟩) 1 1) [((cel (r 4))) ++ ((cel (r 7)))] k ∧ k = (BX b (List.flatten [((cel (r 4))) ++ ((cel (r 7)))]) 80))] rfl (by kernel_rfl) rfl (by kernel_rfl) <| Dq (pp b1 35) (fun _ => Z1 rfl rfl) <| Dl1 YI (At.bx 1 rfl) (Z2 ..) <| Dq (pp b32 0) (fun _ => Y1 rfl rfl) <| Dl Z6 (At.bx 0 rfl) (YE (Zu hA31)) <| Dc rfl Tryz.call53 (fun _ => rfl) (fun hin => ownPattern_ct _ _ _ (RP.mono (Hle.hu _ _) hA31) (by omega)) ?_)))
  rintro _ _ ⟨cs36, k36, rfl, rfl, hO36⟩
  refine Dq (pp b32 35) (fun _ => fa80_1 rfl rfl) <| Dl Zs (At.bx 0 rfl) (Xg (Zu hA31) (Zv hB31)) <| Dc rfl Tryz.call10 (fun _ => rfl) (fun hin => ih' _ (List.getElem_mem h30n) _ _ (RT.mono (Hle.hu _ _) hB31) (by omega)) ?_
  rintro _ _ ⟨cs37, k37, rfl, rfl, hO37⟩
  refine Dq (.agg ⟨cs36 ++ cs37⟩) (fun _ => Pu.build (pv := [(0, .agg ⟨cs36⟩), (1, .agg ⟨cs37⟩)]) (l := cs36 ++ cs37) rfl (bld80_0_1 hO36.len hO37.len)) <| Dr rfl (fun _ => Zp (vs := [.agg ⟨cs36 ++ cs37⟩]) [cs36 ++ cs37] Tryz.runUnderlying25 el80 rfl rfl (by intro e he; simp only [List.mem_cons, List.not_mem_nil, or_false] at he; subst he; exact (Zw hO36.len hO37.len)) rfl (by decide) fun b k h1 h2 => ⟨[k], by rw [ZR rfl]; exact Sub.refl, b, k, rfl, rfl, h1, h2⟩) (fun _ _ ⟨b38, k38, e1, e2, ho38, hk38⟩ => ?_); subst e1 e2
  refine ZL (M' := [k38, k37, k36, (BX b32 (ca31 ++ cb31) 80), (BX b1 (pkT kind num ref v w) 27), k3, k4, k1, k2, (BX b2 (pkT 0 0 zS nS nS) 27)]) rfl ?_
  show JL _ _ _ [_, _, _] _ _ _
  have hlens39 : ∀ e ∈ ([cs36 ++ cs37] : List (List Value)), List.length e = 71 := by
   intro e he; simp only [List.mem_cons, List.not_mem_nil, or_false] at he
   rcases he with rfl
   ·exact (Zw hO36.len hO37.len)
  have hoks39 : ∀ e ∈ ([cs36 ++ cs37] : List (List Value)), okc e := by
   intro e he; simp only [List.mem_cons, List.not_mem_nil, or_false] at he
   rcases he with rfl
   ·exact (ZN hO36.ok hO37.ok)
  refine JLr (ZA (i := 5) (n := 1) (es' := [cs36 ++ cs37]) Tryz.runUnderlying25 Tryz.runUnderlying25 (Or.inl rfl) el80 rfl rfl rfl how (fun F w m => Src.row (((At.k 0 rfl (by rw [hk38]; exact List.mem_cons_self))).heap m) (Zt (Zz hlens39))) rfl hlens39 hoks39 (by decide) (by omega) fun v39 k39 ho39 => JLq (pp b1 35) (Z1 rfl rfl) <| JLr (Zd 4 (vs := [v39]) (l := pkT kind num ref v v39) YI rfl rfl rfl (ZK ho39.one) rfl (Zk ho39.one Zq) (pkT_s35 ..) <| Zb <| Za <| JLn (Pu.inc rfl rfl (by omega)) <| JLM rfl <| Zb <| ⟨_, ?_, (j + 1), v39, (es2 ++ [cs36 ++ cs37]), k39, (k4 ++ (k36 ++ k37)), rfl, rfl, rfl, rfl, rfl, (Sd (Sub.cons 3 rfl (Sub.cons 3 rfl (Sub.join3 (Sub.cons 3 rfl (Sub.cons 1 rfl (Sk (Sd (Sk (Sk (Sk Sub.nil))))))))))), ?_, ?_, ?_, rfl⟩))
  ·omega
  ·omega
  ·assumption
  rw [List.take_succ_eq_append_getElem h30n]; exact OCs.snoc hO36 hO37 hopw
 replace h30 := df h30
 have h30n : cases.length ≤ j := by omega
 refine Zy _ rfl <| Zc <| Za <| JLr (Zg Zs rfl (At.bx 0 rfl) (Z9 ..) <| JLr (Zd 5 (vs := pkT kind num ref v w) (l := pkT kind num ref v w) Zs rfl rfl rfl rfl rfl (ZI hov.one how.one) (Yk ..) <| Zb <| Zh <| ⟨.agg ⟨pkT kind num ref v w⟩, [k1 ++ (k2 ++ (k3 ++ k4))], Ret.one rfl (RV.cell Zs rfl (At.bx 5 rfl) (Z9 ..)), (Sub.join4 (Sd (Sub.cons 2 rfl (Sub.cons 2 rfl (Sk (Sk Sub.nil)))))), ?_⟩))
 rw [List.take_of_length_le h30n] at hopw
 exact ⟨_, _, rfl, rfl, OT_mk.2 ⟨v, w, es, es2, k1, k2, k3, k4, rfl, hk, hn, hov, hopv, how, hopw, rfl, hks.le, hcv.le⟩⟩
end Go.Proofs.YtmophpgiaiemhaaGreat.Hs
/-! Walks, printed by a program of this session's own (gen.py). -/
namespace Go.Proofs.YtmophpgiaiemhaaGreat.Hs
open Go Go.Proofs
set_option maxRecDepth 100000
set_option linter.unusedVariables false
set_option linter.unusedSimpArgs false
attribute [local irreducible] JL J CT wlo DT
theorem equalI_ct (l m : List Int) (v u : Value) (H : Heap) (hl : rdS RI 1 H v l) (hm : rdS RI 1 H u m) : CT Tryz.prog 51 ⟨[v, u]⟩ [] H (fun v N => v = .bool (eqL l m) ∧ N = []) := by
 refine Zm Tryz.func51 rfl rfl <| Zc <| Za <| JLA rfl <| Zb <| Zc <| Zc <| Za <| JLm v ?_
 obtain ⟨a1, cap1, hv1⟩ := hl.sl
 have hle1 := hl.le
 refine JLn (Pu.lenSl Tryz.runUnderlying92 hv1) <| JLm u ?_
 obtain ⟨a2, cap2, hv2⟩ := hm.sl
 have hle2 := hm.le
 refine JLn (Pu.lenSl Tryz.runUnderlying92 hv2) <| JLn (Pu.neq rfl rfl) <| Zb <| Zf rfl (fun h3 => ?_) (fun h3 => ?_)
 ·replace h3 := nt h3
  replace h3 := df h3
  refine Zc <| Za <| JLA rfl <| Zb <| Zh <| ⟨.bool false, [], Ret.one rfl (RV.tmp rfl), Sub.nil, ?_⟩
  exact ⟨by rw [eqL_false (fun e => by subst e; exact absurd rfl h3)], rfl⟩
 replace h3 := nf h3
 replace h3 := dt h3
 refine Zi <| Zc <| Zc <| Za <| JLm v ?_
 obtain ⟨a4, cap4, hv4⟩ := hl.sl
 have hle4 := hl.le
 refine JLn (Pu.lenSl Tryz.runUnderlying92 hv4) <| JLM rfl <| Zb <| Zl <| ZE (fun k ρ M => ∃ (j : Nat), ρ 0 = v ∧ ρ 1 = u ∧ ρ 4 = .bool false ∧ ρ 12 = iv ((l.length : Int)) ∧ ρ 13 = iv ((j : Int)) ∧ Sub [] M ∧ j ≤ l.length ∧ l.take j = m.take j ∧ k = l.length - j) _ ⟨0, rfl, rfl, rfl, rfl, rfl, Sub.nil, Nat.zero_le _, rfl, rfl⟩ ?_
 rintro _ ρ5 _ ⟨j, e6, e7, e8, e9, e10, hm11, hj, hinv, rfl⟩
 obtain ⟨ρ12, rfl⟩ := Zr (uc e6 (uc e7 (uc e8 (uc e9 (uc e10 un)))))
 clear e6 e7 e8 e9 e10
 refine ZJ hm11 <| Zc <| Za <| JLn (Pu.lss rfl rfl) <| Zb <| Zc <| Zf rfl (fun h13 => ?_) (fun h13 => ?_)
 ·replace h13 := dt h13
  have h13n : j < l.length := by omega
  have hlenl := hl.le
  have hjm : j < m.length := by omega
  refine Zi <| Zc <| Zl <| Zc <| Za <| JLM rfl <| JLA rfl <| Zb <| Zc <| ZF mixed #[0, 0, 3, 7, 0, 0, 48, 112, 255] 8 [some 16, some 17, some 18, some 19, some 20, some 21, some 22, some 23] [] [] rfl (by kernel_rfl) rfl (by kernel_rfl) <| Dm v <| DM (fun _ => rfl) ?_
  obtain ⟨b16, o16, cap16, row16, T16, fr16, cs16, hv16, hb16, hs16, hE16⟩ := hl.get j (by first | assumption | omega | decide | simp)
  refine Dq (pp b16 (o16 + j * 1)) (fun _ => Pu.idx j Tryz.runUnderlying92 ty3 hv16 rfl rfl (by first | assumption | omega | decide | simp)) <| Dl1 ty3 (At.im hb16) (Yi ((show cs16 = [Value.int .i64 (l[j])] from hE16) ▸ hs16)) <| Dm u <| DM (fun _ => rfl) ?_
  obtain ⟨b17, o17, cap17, row17, T17, fr17, cs17, hv17, hb17, hs17, hE17⟩ := hm.get j (by first | assumption | omega | decide | simp)
  refine Dq (pp b17 (o17 + j * 1)) (fun _ => Pu.idx j Tryz.runUnderlying92 ty3 hv17 rfl rfl (by first | assumption | omega | decide | simp)) <| Dl1 ty3 (At.im hb17) (Yi ((show cs17 = [Value.int .i64 (m[j])] from hE17) ▸ hs17)) <| ZL (M' := []) rfl ?_
  show JL _ _ _ [_] _ _ _
  refine JLn (Pu.neq rfl rfl) <| Zb <| Zf rfl (fun h18 => ?_) (fun h18 => ?_)
  ·replace h18 := nt h18
   replace h18 := df h18
   refine Zc <| Za <| JLA rfl <| Zb <| Zh <| ⟨.bool false, [], Ret.one rfl (RV.tmp rfl), Sub.nil, ?_⟩
   exact ⟨by rw [eqL_false (fun e => by subst e; exact h18 rfl)], rfl⟩
  replace h18 := nf h18
  replace h18 := dt h18
  refine Zi <| Za <| JLn (Pu.inc rfl rfl (by omega)) <| JLM rfl <| Zb <| ⟨_, ?_, (j + 1), rfl, rfl, rfl, rfl, rfl, Sub.nil, ?_, ?_, rfl⟩
  ·omega
  ·omega
  rw [List.take_succ_eq_append_getElem h13n, List.take_succ_eq_append_getElem hjm, hinv, h18]
 replace h13 := df h13
 have h13n : l.length ≤ j := by omega
 refine Zy _ rfl <| Zc <| Za <| JLA rfl <| Zb <| Zh <| ⟨.bool true, [], Ret.one rfl (RV.tmp rfl), Sub.nil, ?_⟩
 exact ⟨by rw [eqL_true (by rw [← List.take_of_length_le h13n, hinv, List.take_of_length_le (by omega)])], rfl⟩
theorem equalS_ct (l m : List ByteArray) (v u : Value) (H : Heap) (hl : rdS RS 1 H v l) (hm : rdS RS 1 H u m) : CT Tryz.prog 22 ⟨[v, u]⟩ [] H (fun v N => v = .bool (eqL l m) ∧ N = []) := by
 refine Zm Tryz.func22 rfl rfl <| Zc <| Za <| JLA rfl <| Zb <| Zc <| Zc <| Za <| JLm v ?_
 obtain ⟨a1, cap1, hv1⟩ := hl.sl
 have hle1 := hl.le
 refine JLn (Pu.lenSl Tryz.runUnderlying28 hv1) <| JLm u ?_
 obtain ⟨a2, cap2, hv2⟩ := hm.sl
 have hle2 := hm.le
 refine JLn (Pu.lenSl Tryz.runUnderlying28 hv2) <| JLn (Pu.neq rfl rfl) <| Zb <| Zf rfl (fun h3 => ?_) (fun h3 => ?_)
 ·replace h3 := nt h3
  replace h3 := df h3
  refine Zc <| Za <| JLA rfl <| Zb <| Zh <| ⟨.bool false, [], Ret.one rfl (RV.tmp rfl), Sub.nil, ?_⟩
  exact ⟨by rw [eqL_false (fun e => by subst e; exact absurd rfl h3)], rfl⟩
 replace h3 := nf h3
 replace h3 := dt h3
 refine Zi <| Zc <| Zc <| Za <| JLm v ?_
 obtain ⟨a4, cap4, hv4⟩ := hl.sl
 have hle4 := hl.le
 refine JLn (Pu.lenSl Tryz.runUnderlying28 hv4) <| JLM rfl <| Zb <| Zl <| ZE (fun k ρ M => ∃ (j : Nat), ρ 0 = v ∧ ρ 1 = u ∧ ρ 4 = .bool false ∧ ρ 12 = iv ((l.length : Int)) ∧ ρ 13 = iv ((j : Int)) ∧ Sub [] M ∧ j ≤ l.length ∧ l.take j = m.take j ∧ k = l.length - j) _ ⟨0, rfl, rfl, rfl, rfl, rfl, Sub.nil, Nat.zero_le _, rfl, rfl⟩ ?_
 rintro _ ρ5 _ ⟨j, e6, e7, e8, e9, e10, hm11, hj, hinv, rfl⟩
 obtain ⟨ρ12, rfl⟩ := Zr (uc e6 (uc e7 (uc e8 (uc e9 (uc e10 un)))))
 clear e6 e7 e8 e9 e10
 refine ZJ hm11 <| Zc <| Za <| JLn (Pu.lss rfl rfl) <| Zb <| Zc <| Zf rfl (fun h13 => ?_) (fun h13 => ?_)
 ·replace h13 := dt h13
  have h13n : j < l.length := by omega
  have hlenl := hl.le
  have hjm : j < m.length := by omega
  refine Zi <| Zc <| Zl <| Zc <| Za <| JLM rfl <| JLA rfl <| Zb <| Zc <| ZF mixed #[0, 0, 3, 7, 0, 0, 48, 112, 255] 8 [some 16, some 17, some 18, some 19, some 20, some 21, some 22, some 23] [] [] rfl (by kernel_rfl) rfl (by kernel_rfl) <| Dm v <| DM (fun _ => rfl) ?_
  obtain ⟨b16, o16, cap16, row16, T16, fr16, cs16, hv16, hb16, hs16, hE16⟩ := hl.get j (by first | assumption | omega | decide | simp)
  refine Dq (pp b16 (o16 + j * 1)) (fun _ => Pu.idx j Tryz.runUnderlying28 ty9 hv16 rfl rfl (by first | assumption | omega | decide | simp)) <| Dl1 ty9 (At.im hb16) (Yi ((show cs16 = [Value.string (l[j])] from hE16) ▸ hs16)) <| Dm u <| DM (fun _ => rfl) ?_
  obtain ⟨b17, o17, cap17, row17, T17, fr17, cs17, hv17, hb17, hs17, hE17⟩ := hm.get j (by first | assumption | omega | decide | simp)
  refine Dq (pp b17 (o17 + j * 1)) (fun _ => Pu.idx j Tryz.runUnderlying28 ty9 hv17 rfl rfl (by first | assumption | omega | decide | simp)) <| Dl1 ty9 (At.im hb17) (Yi ((show cs17 = [Value.string (m[j])] from hE17) ▸ hs17)) <| ZL (M' := []) rfl ?_
  show JL _ _ _ [_] _ _ _
  refine JLn (Pu.neqS rfl rfl) <| Zb <| Zf rfl (fun h18 => ?_) (fun h18 => ?_)
  ·replace h18 := nt h18
   replace h18 := df h18
   refine Zc <| Za <| JLA rfl <| Zb <| Zh <| ⟨.bool false, [], Ret.one rfl (RV.tmp rfl), Sub.nil, ?_⟩
   exact ⟨by rw [eqL_false (fun e => by subst e; exact h18 rfl)], rfl⟩
  replace h18 := nf h18
  replace h18 := dt h18
  refine Zi <| Za <| JLn (Pu.inc rfl rfl (by omega)) <| JLM rfl <| Zb <| ⟨_, ?_, (j + 1), rfl, rfl, rfl, rfl, rfl, Sub.nil, ?_, ?_, rfl⟩
  ·omega
  ·omega
  rw [List.take_succ_eq_append_getElem h13n, List.take_succ_eq_append_getElem hjm, hinv, h18]
 replace h13 := df h13
 have h13n : l.length ≤ j := by omega
 refine Zy _ rfl <| Zc <| Za <| JLA rfl <| Zb <| Zh <| ⟨.bool true, [], Ret.one rfl (RV.tmp rfl), Sub.nil, ?_⟩
 exact ⟨by rw [eqL_true (by rw [← List.take_of_length_le h13n, hinv, List.take_of_length_le (by omega)])], rfl⟩
theorem idxS_ct (l : List ByteArray) (x : ByteArray) (v : Value) (H : Heap) (hl : rdS RS 1 H v l) : CT Tryz.prog 107 ⟨[v, .string x]⟩ [] H (fun v N => v = iv (YN x l 0) ∧ N = []) := by
 refine Zm Tryz.func107 rfl rfl <| Zc <| Za <| JLA rfl <| Zb <| Zc <| Zc <| Za <| JLm v ?_
 obtain ⟨a1, cap1, hv1⟩ := hl.sl
 have hle1 := hl.le
 refine JLn (Pu.lenSl Tryz.runUnderlying28 hv1) <| JLM rfl <| Zb <| Zl <| ZE (fun k ρ M => ∃ (j : Nat), ρ 0 = v ∧ ρ 1 = .string x ∧ ρ 4 = iv 0 ∧ ρ 7 = iv ((l.length : Int)) ∧ ρ 8 = iv ((j : Int)) ∧ Sub [] M ∧ j ≤ l.length ∧ YN x (l.drop j) j = YN x l 0 ∧ k = l.length - j) _ ⟨0, rfl, rfl, rfl, rfl, rfl, Sub.nil, Nat.zero_le _, rfl, rfl⟩ ?_
 rintro _ ρ2 _ ⟨j, e3, e4, e5, e6, e7, hm8, hj, hinv, rfl⟩
 obtain ⟨ρ9, rfl⟩ := Zr (uc e3 (uc e4 (uc e5 (uc e6 (uc e7 un)))))
 clear e3 e4 e5 e6 e7
 refine ZJ hm8 <| Zc <| Za <| JLn (Pu.lss rfl rfl) <| Zb <| Zc <| Zf rfl (fun h10 => ?_) (fun h10 => ?_)
 ·replace h10 := dt h10
  have h10n : j < l.length := by omega
  have hlenl := hl.le
  refine Zi <| Zc <| Zl <| Zc <| Za <| JLM rfl <| JLA rfl <| Zb <| Zc <| Za <| JLM rfl <| JLm v <| JLM rfl ?_
  obtain ⟨b11, o11, cap11, row11, T11, fr11, cs11, hv11, hb11, hs11, hE11⟩ := hl.get j (by first | assumption | omega | decide | simp)
  refine JLq (pp b11 (o11 + j * 1)) (Pu.idx j Tryz.runUnderlying28 ty9 hv11 rfl rfl (by first | assumption | omega | decide | simp)) <| JLr (Ze ty9 rfl (At.im hb11) (Yi ((show cs11 = [Value.string (l[j])] from hE11) ▸ hs11)) <| JLn (Pu.eqlS rfl rfl) <| Zb <| Zf rfl (fun h12 => ?_) (fun h12 => ?_))
  ·replace h12 := dt h12
   refine Zc <| Za <| JLM rfl <| JLA rfl <| Zb <| Zh <| ⟨iv ((j : Int)), [], Ret.one rfl (RV.tmp rfl), Sub.nil, ?_⟩
   exact ⟨by rw [← hinv, ZU h10n, YN, if_pos h12], rfl⟩
  replace h12 := df h12
  refine Zi <| Za <| JLn (Pu.inc rfl rfl (by omega)) <| JLM rfl <| Zb <| ⟨_, ?_, (j + 1), rfl, rfl, rfl, rfl, rfl, Sub.nil, ?_, ?_, rfl⟩
  ·omega
  ·omega
  rw [ZU h10n, YN, if_neg h12] at hinv; exact hinv
 replace h10 := df h10
 have h10n : l.length ≤ j := by omega
 refine Zy _ rfl <| Zc <| Za <| JLA rfl <| Zb <| Zh <| ⟨iv (-1), [], Ret.one rfl (RV.tmp rfl), Sub.nil, ?_⟩
 exact ⟨by rw [← hinv, Yt h10n]; rfl, rfl⟩
theorem containsS_ct (l : List ByteArray) (x : ByteArray) (v : Value) (H : Heap) (hl : rdS RS 1 H v l) : CT Tryz.prog 62 ⟨[v, .string x]⟩ [] H (fun v N => v = .bool (l.any (fun y => decide (x = y))) ∧ N = []) := by
 refine Zm Tryz.func62 rfl rfl <| Zc <| Za <| JLA rfl <| Zb <| Zc <| Za <| JLm v <| JLM rfl <| Jc Tryz.call107 rfl (fun hin => idxS_ct _ _ _ _ (RSs.mono (Hle.hu _ _) hl)) rfl ?_
 rintro _ _ ⟨rfl, rfl⟩
 refine JLn (Pu.geq rfl rfl) <| JLA rfl <| Zb <| Zh <| ⟨.bool (decide (0 ≤ YN x l 0)), [], Ret.one rfl (RV.tmp rfl), Sub.nil, ?_⟩
 exact ⟨by rw [← fstS_mem x l 0], rfl⟩
theorem number_ct (i : Nat) (H : Heap) (hi : i < 26) : CT Tryz.prog 163 ⟨[.string (ltr i)]⟩ [] H (fun v N => v = iv (i : Int) ∧ N = []) := by
 refine Zm Tryz.func163 rfl rfl <| Zc <| Za <| JLA rfl <| Zb <| Zc <| Za <| JLA rfl <| Zb <| Zc <| Zc <| Za <| JLM rfl ?_
 refine JLr (Runs_rangeS Tryz.underlying9 rfl fun r1 => Zb <| Zl <| YV 2 <| Yg <| Zc <| Za <| JLr (Runs_nextL (i := 0) rfl rfl hi <| JLn (Pu.extract rfl rfl) <| Zb <| Zc <| Zf (b := true) rfl (fun _ => ?_) (fun h => absurd h (by simp))))
 refine Zi <| Zl <| Zc <| Za <| JLn (Pu.extract rfl rfl) <| JLA rfl <| Zb <| Zc <| Zc <| Za <| JLM rfl <| JLn (Pu.lss rfl rfl) <| JLM rfl ?_
 refine Zx 2 [14, 15] [(15, cond (decide (97 + (i : Int) < 97)) undef (.bool (decide (122 < 97 + (i : Int)))))] ?_ fun f3 => ?_
 ·cases h2 : (decide (97 + (i : Int) < 97)) with
  | false =>
   replace h2 := df h2
   refine JLM rfl <| JLn (Pu.gtr rfl rfl) ?_
   exact Zb ⟨⟨rfl, trivial⟩, rfl⟩
  | true =>
   exact ZG rfl ⟨rfl, trivial⟩
 refine JLn (Pu.pickOr rfl rfl rfl) <| JLM rfl <| Zx 2 [18, 19] [(19, cond ((decide (97 + (i : Int) < 97)) || (decide (122 < 97 + (i : Int)))) undef (.bool false))] ?_ fun f5 => ?_
 ·cases h4 : ((decide (97 + (i : Int) < 97)) || (decide (122 < 97 + (i : Int)))) with
  | false =>
   obtain ⟨h4a, h4b⟩ := orF h4
   replace h4a := df h4a
   replace h4b := df h4b
   refine JLM rfl <| JLq (.bool false) (show Pu _ _ _ (.bool (decide ((1073741824 : Int) < -1))) from Pu.gtr rfl rfl) ?_
   exact Zb ⟨⟨rfl, trivial⟩, rfl⟩
  | true =>
   exact ZG rfl ⟨rfl, trivial⟩
 refine JLn (Pu.pickOr rfl rfl rfl) <| Zb <| Zf rfl (fun h6 => ?_) (fun h6 => ?_)
 ·exfalso; simp at h6; omega
 obtain ⟨h6a, h6b⟩ := orF h6
 obtain ⟨h6aa, h6ab⟩ := orF h6a
 replace h6aa := df h6aa
 replace h6ab := df h6ab
 refine Zi <| Za <| JLM rfl <| JLq (iv 0) (Pu.arith rfl rfl rfl) <| JLq (iv 0) (Pu.arithM rfl rfl rfl) <| JLM rfl <| JLq (.int .i32 ((i : Int))) (Pu.arithS rfl rfl ((w32 (by omega)).trans (by omega))) <| JLq (iv ((i : Int))) (Pu.conv Tryz.runUnderlying21 Tryz.runUnderlying3 rfl (w64 (by omega))) <| JLn (Pu.add64 rfl rfl (by first | omega | (constructor <;> omega))) <| JLA rfl <| Zb <| Yg <| Zc ?_
 refine Za <| JLr (Runs_nextE (i := 0) rfl rfl (by rw [ltr_size]; decide) <| JLn (Pu.extract rfl rfl) <| Zb <| Zc <| Zf (b := false) rfl (fun h => absurd h (by simp)) (fun _ => Zy _ rfl <| Zc <| Za <| JLM rfl <| JLA rfl <| Zb <| Zh ?_))
 refine ⟨iv (0 + ((i : Int))), [], Ret.one rfl (RV.tmp rfl), Sub.nil, ?_⟩
 exact ⟨congrArg (Value.int .i64) (by omega), rfl⟩
theorem name_ct (i : Nat) (H : Heap) (hi : i < 26) : CT Tryz.prog 142 ⟨[iv ((i : Int))]⟩ [] H (fun v N => v = .string (ltr i) ∧ N = []) := by
 refine Zm Tryz.func142 rfl rfl <| Zc <| Za <| JLA rfl <| Zb <| Zc <| Zc <| Za <| JLM rfl <| JLn (Pu.lss rfl rfl) <| Zb <| Zf rfl (fun h1 => ?_) (fun h1 => ?_)
 ·replace h1 := dt h1
  have h1n : i < 26 := by omega
  refine Zc <| Za <| JLM rfl <| JLn (Pu.add64 rfl rfl (by first | omega | (constructor <;> omega))) <| JLq (.int .i32 (97 + ((i : Int)))) (Pu.conv Tryz.runUnderlying3 Tryz.runUnderlying21 rfl (w32 (by omega))) <| JLq (.string (ltr i)) (Pu.convS Tryz.runUnderlying21 Tryz.runUnderlying9 rfl (ltr_enc' i hi)) <| JLA rfl <| Zb <| Zh <| ⟨.string (ltr i), [], Ret.one rfl (RV.tmp rfl), Sub.nil, ?_⟩
  exact ⟨rfl, rfl⟩
 replace h1 := df h1
 have h1n : 26 ≤ i := by omega
 exfalso; omega
theorem mark_ct (i n : Nat) (l : List Bool) (bF : Nat) (H : Heap) (hi : i < 26) (hl : l.length = n) : CT Tryz.prog 140 ⟨[.slice (some ⟨bF, 0, none⟩) n n, .string (ltr i)]⟩ [(BX bF (bls l) 4)] H (fun v N => v = .tuple ⟨[]⟩ ∧ N = [(BX bF (bls (markL i l)) 4)]) := by
 refine Zm Tryz.func140 rfl rfl <| Zc <| Za <| JLM rfl <| Jc Tryz.call163 rfl (fun hin => number_ct i _ hi) rfl ?_
 rintro _ _ ⟨rfl, rfl⟩
 refine JLA rfl <| Zb <| Zc <| Za <| JLM rfl <| JLn (Pu.geq rfl rfl) <| JLM rfl ?_
 cases h1 : (decide (0 ≤ (i : Int))) with
 | true =>
  replace h1 := dt h1
  refine JLM rfl <| JLM rfl <| JLn (Pu.lenSl Tryz.runUnderlying181 rfl) <| JLn (Pu.lss rfl rfl) <| JLq (.bool (decide ((i : Int) < (n : Int)))) (Pu.pickT rfl rfl) <| Zb <| Zf rfl (fun h2 => ?_) (fun h2 => ?_)
  ·replace h2 := dt h2
   have h2n : i < n := by omega
   refine Za <| JLM rfl <| JLM rfl <| JLq (pp bF (0 + i * 1)) (Pu.idx i Tryz.runUnderlying181 ty4 rfl rfl (by omega) (by omega)) <| JLr (Zd 0 (vs := [.bool true]) (l := bls (l.set i true)) ty4 rfl rfl rfl rfl rfl (Zk rfl Zq) (bls_set1 (by have hbl : List.length l = n := hl; omega)) <| Zb <| ⟨.tuple ⟨[]⟩, [(BX bF (bls (l.set i true)) 4)], Ret.none rfl, (Sk Sub.nil), ?_⟩)
   exact ⟨rfl, by rw [markL, if_pos (by omega)]⟩
  replace h2 := df h2
  have h2n : n ≤ i := by omega
  refine Zi <| ⟨.tuple ⟨[]⟩, [(BX bF (bls l) 4)], Ret.none rfl, (Sk Sub.nil), ?_⟩
  exact ⟨rfl, by rw [markL, if_neg (by omega)] <;> rfl⟩
 | false =>
  replace h1 := df h1
  iterate 4 refine ZC rfl ?_
  refine JLq (.bool false) (Pu.pickF rfl rfl) <| Zb <| Zf (b := false) rfl (fun h => absurd h (by simp)) (fun _ => Zi <| ⟨.tuple ⟨[]⟩, [(BX bF (bls l) 4)], Ret.none rfl, (Sk Sub.nil), ?_⟩)
  exact ⟨rfl, by rw [markL, if_neg (by omega)] <;> rfl⟩
theorem idxB_ct (x : Bool) (l : List Bool) (bF n : Nat) (H : Heap) (hl : l.length = n) (hn : n ≤ 1000000) (hB : H bF = some (.cells ⟨bls l⟩ 4 (0, 0))) : CT Tryz.prog 141 ⟨[.slice (some ⟨bF, 0, none⟩) n n, .bool x]⟩ [] H (fun v N => v = iv (fstB x l 0) ∧ N = []) := by
 refine Zm Tryz.func141 rfl rfl <| Zc <| Za <| JLA rfl <| Zb <| Zc <| Zc <| Za <| JLM rfl <| JLn (Pu.lenSl Tryz.runUnderlying181 rfl) <| JLM rfl <| Zb <| Zl ?_
 refine ZE (fun k ρ M => ∃ (j : Nat), ρ 0 = .slice (some ⟨bF, 0, none⟩) n n ∧ ρ 1 = .bool x ∧ ρ 4 = iv 0 ∧ ρ 7 = iv ((n : Int)) ∧ ρ 8 = iv ((j : Int)) ∧ Sub [] M ∧ j ≤ l.length ∧ fstB x (l.drop j) j = fstB x l 0 ∧ k = l.length - j) _ ⟨0, rfl, rfl, rfl, rfl, rfl, Sub.nil, Nat.zero_le _, rfl, rfl⟩ ?_
 rintro _ ρ1 _ ⟨j, e2, e3, e4, e5, e6, hm7, hj, hinv, rfl⟩
 obtain ⟨ρ8, rfl⟩ := Zr (uc e2 (uc e3 (uc e4 (uc e5 (uc e6 un)))))
 clear e2 e3 e4 e5 e6
 refine ZJ hm7 <| Zc <| Za <| JLn (Pu.lss rfl rfl) <| Zb <| Zc <| Zf rfl (fun h9 => ?_) (fun h9 => ?_)
 ·replace h9 := dt h9
  have h9n : j < n := by omega
  refine Zi <| Zc <| Zl <| Zc <| Za <| JLM rfl <| JLA rfl <| Zb <| Zc <| Za <| JLM rfl <| JLM rfl <| JLM rfl ?_
  refine JLq (pp bF (0 + j * 1)) (Pu.idx j Tryz.runUnderlying181 ty4 rfl rfl (by omega) (by omega)) <| JLr (Ze ty4 rfl (At.im hB) (bls_get1 (by omega)) <| JLn (Pu.eqlB Tryz.runUnderlying4 rfl rfl) <| Zb <| Zf rfl (fun h10 => ?_) (fun h10 => ?_))
  ·refine Zc <| Za <| JLM rfl <| JLA rfl <| Zb <| Zh <| ⟨iv ((j : Int)), [], Ret.one rfl (RV.tmp rfl), Sub.nil, ?_⟩
   exact ⟨by rw [← hinv, ZU (by omega : j < l.length), fstB, if_pos (by simpa [(by omega : j < l.length)] using h10)], rfl⟩
  refine Zi <| Za <| JLn (Pu.inc rfl rfl (by omega)) <| JLM rfl <| Zb <| ⟨_, ?_, (j + 1), rfl, rfl, rfl, rfl, rfl, Sub.nil, ?_, ?_, rfl⟩
  ·omega
  ·omega
  rw [ZU (by omega : j < l.length), fstB, if_neg (by simpa [(by omega : j < l.length)] using h10)] at hinv; exact hinv
 replace h9 := df h9
 have h9n : n ≤ j := by omega
 refine Zy _ rfl <| Zc <| Za <| JLA rfl <| Zb <| Zh <| ⟨iv (-1), [], Ret.one rfl (RV.tmp rfl), Sub.nil, ?_⟩
 exact ⟨by rw [← hinv, Yt (by omega)]; rfl, rfl⟩
end Go.Proofs.YtmophpgiaiemhaaGreat.Hs
/-! Walks, printed by a program of this session's own (gen.py). -/
namespace Go.Proofs.YtmophpgiaiemhaaGreat.Hs
open Go Go.Proofs
set_option maxRecDepth 100000
set_option linter.unusedVariables false
set_option linter.unusedSimpArgs false
attribute [local irreducible] JL J CT wlo DT
theorem numG_ct (x : ByteArray) (H : Heap) : CT Tryz.prog 163 ⟨[.string x]⟩ [] H (fun v N => v = iv (numS x) ∧ N = []) := by
 refine Zm Tryz.func163 rfl rfl <| Zc <| Za <| JLA rfl <| Zb <| Zc <| Za <| JLA rfl <| Zb <| Zc <| Zc <| Za <| JLM rfl ?_
 refine JLr (Runs_rangeS Tryz.underlying9 rfl fun r1 => Zb <| Zl <| ZE (fun k ρ M => ∃ (p : Nat) (o : Int), ρ 2 = iv 0 ∧ ρ 3 = iv o ∧ ρ 7 = pp r1 0 ∧ Sub [itC r1 x p] M ∧ YH o (x.data.toList.drop p) = numS x ∧ (-1 ≤ o ∧ o ≤ 27917287500) ∧ k = x.size - p) _ ⟨0, (-1), rfl, rfl, rfl, (Sk Sub.nil), rfl, (by omega), rfl⟩ ?_)
 rintro _ ρ2 _ ⟨p, o, e3, e4, e5, hm6, hinv, ho, rfl⟩
 obtain ⟨ρ7, rfl⟩ := Zr (uc e3 (uc e4 (uc e5 un)))
 clear e3 e4 e5
 refine ZJ hm6 <| Zc ?_
 cases h8 : (decide (p < x.size)) with
 | true =>
  cases h9 : (decide ((x.data.toList.getD p 0).toNat < 128)) with
  | true =>
   refine Za ?_
   have hpl := dt h8
   refine JLr (Runs_nextG (i := 0) rfl rfl hpl (dt h9) ?_)
   have hcb : (x.data.toList.getD p 0).toNat < 128 := dt h9
   refine JLn (Pu.extract rfl rfl) <| Zb <| Zc <| Zf (b := true) rfl (fun _ => ?_) (fun h => absurd h (by simp))
   refine Zi <| Zl <| Zc <| Za <| JLn (Pu.extract rfl rfl) <| JLA rfl <| Zb <| Zc <| Zc <| Za <| JLM rfl <| JLn (Pu.lss rfl rfl) <| JLM rfl ?_
   cases h10 : (decide (((x.data.toList.getD p 0).toNat : Int) < 97)) with
   | true =>
    replace h10 := dt h10
    iterate 2 refine ZC rfl ?_
    refine JLq (.bool true) (Pu.pickT rfl rfl) <| JLM rfl ?_
    iterate 2 refine ZC rfl ?_
    refine JLq (.bool true) (Pu.pickT rfl rfl) <| Zb <| Zf (b := true) rfl (fun _ => ?_) (fun h => absurd h (by simp))
    refine Zc <| Za <| JLA rfl <| Zb <| Zh <| ⟨iv (-1), [], Ret.one rfl (RV.tmp rfl), Sub.nil, ?_⟩
    exact ⟨by rw [← hinv, drop_getD hpl, YH, if_pos (by omega)], rfl⟩
   | false =>
    replace h10 := df h10
    refine JLM rfl <| JLn (Pu.gtr rfl rfl) <| JLq (.bool (decide (122 < ((x.data.toList.getD p 0).toNat : Int)))) (Pu.pickF rfl rfl) <| JLM rfl ?_
    cases h11 : (decide (122 < ((x.data.toList.getD p 0).toNat : Int))) with
    | true =>
     replace h11 := dt h11
     iterate 2 refine ZC rfl ?_
     refine JLq (.bool true) (Pu.pickT rfl rfl) <| Zb <| Zf (b := true) rfl (fun _ => ?_) (fun h => absurd h (by simp))
     refine Zc <| Za <| JLA rfl <| Zb <| Zh <| ⟨iv (-1), [], Ret.one rfl (RV.tmp rfl), Sub.nil, ?_⟩
     exact ⟨by rw [← hinv, drop_getD hpl, YH, if_pos (by omega)], rfl⟩
    | false =>
     replace h11 := df h11
     refine JLM rfl <| JLn (Pu.gtr rfl rfl) <| JLq (.bool (decide (1073741824 < o))) (Pu.pickF rfl rfl) <| Zb <| Zf rfl (fun h12 => ?_) (fun h12 => ?_)
     ·replace h12 := dt h12
      refine Zc <| Za <| JLA rfl <| Zb <| Zh <| ⟨iv (-1), [], Ret.one rfl (RV.tmp rfl), Sub.nil, ?_⟩
      exact ⟨by rw [← hinv, drop_getD hpl, YH, if_pos (by omega)], rfl⟩
     replace h12 := df h12
     refine Zi <| Za <| JLM rfl <| JLn (Pu.add64 rfl rfl (by first | omega | (constructor <;> omega))) <| JLq (iv ((o + 1) * 26)) (Pu.arithM rfl rfl (w64 (by omega))) <| JLM rfl <| JLq (.int .i32 (((x.data.toList.getD p 0).toNat : Int) - 97)) (Pu.arithS rfl rfl (w32 (by omega))) <| JLq (iv (((x.data.toList.getD p 0).toNat : Int) - 97)) (Pu.conv Tryz.runUnderlying21 Tryz.runUnderlying3 rfl (w64 (by omega))) <| JLn (Pu.add64 rfl rfl (by first | omega | (constructor <;> omega))) <| JLA rfl <| Zb <| ⟨_, ?_, (p + 1), (o + 1) * 26 + (((x.data.toList.getD p 0).toNat : Int) - 97), rfl, rfl, rfl, (Sk Sub.nil), ?_, ?_, rfl⟩
     ·omega
     ·rw [← hinv, drop_getD hpl, YH, if_neg (by omega)]
     omega
  | false =>
   refine Za ?_
   have hpl := dt h8
   refine JLr (Runs_nextG2 (i := 0) rfl rfl hpl (df h9) fun q k hq1 hq2 hk => ?_)
   have hcb : ¬ (x.data.toList.getD p 0).toNat < 128 := df h9
   refine JLn (Pu.extract rfl rfl) <| Zb <| Zc <| Zf (b := true) rfl (fun _ => ?_) (fun h => absurd h (by simp))
   refine Zi <| Zl <| Zc <| Za <| JLn (Pu.extract rfl rfl) <| JLA rfl <| Zb <| Zc <| Zc <| Za <| JLM rfl <| JLn (Pu.lss rfl rfl) <| JLM rfl ?_
   cases h14 : (decide ((q : Int) < 97)) with
   | true =>
    replace h14 := dt h14
    have h14n : q < 97 := by omega
    iterate 2 refine ZC rfl ?_
    refine JLq (.bool true) (Pu.pickT rfl rfl) <| JLM rfl ?_
    iterate 2 refine ZC rfl ?_
    refine JLq (.bool true) (Pu.pickT rfl rfl) <| Zb <| Zf (b := true) rfl (fun _ => ?_) (fun h => absurd h (by simp))
    refine Zc <| Za <| JLA rfl <| Zb <| Zh <| ⟨iv (-1), [], Ret.one rfl (RV.tmp rfl), Sub.nil, ?_⟩
    exact ⟨by rw [← hinv, drop_getD hpl, YH, if_pos (by omega)], rfl⟩
   | false =>
    replace h14 := df h14
    have h14n : 97 ≤ q := by omega
    refine JLM rfl <| JLn (Pu.gtr rfl rfl) <| JLq (.bool (decide (122 < (q : Int)))) (Pu.pickF rfl rfl) <| JLM rfl ?_
    cases h15 : (decide (122 < (q : Int))) with
    | true =>
     replace h15 := dt h15
     iterate 2 refine ZC rfl ?_
     refine JLq (.bool true) (Pu.pickT rfl rfl) <| Zb <| Zf (b := true) rfl (fun _ => ?_) (fun h => absurd h (by simp))
     refine Zc <| Za <| JLA rfl <| Zb <| Zh <| ⟨iv (-1), [], Ret.one rfl (RV.tmp rfl), Sub.nil, ?_⟩
     exact ⟨by rw [← hinv, drop_getD hpl, YH, if_pos (by omega)], rfl⟩
    | false =>
     replace h15 := df h15
     refine JLM rfl <| JLn (Pu.gtr rfl rfl) <| JLq (.bool (decide (1073741824 < o))) (Pu.pickF rfl rfl) <| Zb <| Zf rfl (fun h16 => ?_) (fun h16 => ?_)
     ·replace h16 := dt h16
      refine Zc <| Za <| JLA rfl <| Zb <| Zh <| ⟨iv (-1), [], Ret.one rfl (RV.tmp rfl), Sub.nil, ?_⟩
      exact ⟨by rw [← hinv, drop_getD hpl, YH, if_pos (by omega)], rfl⟩
     replace h16 := df h16
     exfalso; omega
 | false =>
  refine Za ?_
  have hpe := df h8
  refine JLr (Runs_nextE (i := 0) rfl rfl hpe <| JLn (Pu.extract rfl rfl) <| Zb <| Zc <| Zf (b := false) rfl (fun h => absurd h (by simp)) (fun _ => Zy _ rfl <| Zc <| Za <| JLM rfl <| JLA rfl <| Zb <| Zh <| ⟨iv o, [], Ret.one rfl (RV.tmp rfl), Sub.nil, ?_⟩))
  exact ⟨by rw [← hinv, drop_end hpe]; rfl, rfl⟩
theorem nameG_ct : ∀ (n : Nat), n ≤ 1000000000 → ∀ (H : Heap), CT Tryz.prog 142 ⟨[iv (n : Int)]⟩ [] H (fun v N => v = .string (YG n) ∧ N = []) := by
 intro n
 induction n using Nat.strongRecOn with
 | _ n ih =>
 intro hn H
 have hmod : n % 26 < 26 := Nat.mod_lt _ (by decide)
 have hsz := nameS_size (n / 26 - 1)
 refine Zm Tryz.func142 rfl rfl <| Zc <| Za <| JLA rfl <| Zb <| Zc <| Zc <| Za <| JLM rfl <| JLn (Pu.lss rfl rfl) <| Zb <| Zf rfl (fun h1 => ?_) (fun h1 => ?_)
 ·replace h1 := dt h1
  have h1n : n < 26 := by omega
  refine Zc <| Za <| JLM rfl <| JLn (Pu.add64 rfl rfl (by first | omega | (constructor <;> omega))) <| JLq (.int .i32 (97 + ((n : Int)))) (Pu.conv Tryz.runUnderlying3 Tryz.runUnderlying21 rfl (w32 (by omega))) <| JLq (.string (ltr n)) (Pu.convS Tryz.runUnderlying21 Tryz.runUnderlying9 rfl (ltr_enc' n (by omega))) <| JLA rfl <| Zb <| Zh <| ⟨.string (ltr n), [], Ret.one rfl (RV.tmp rfl), Sub.nil, ?_⟩
  exact ⟨by rw [nameS_lt (by omega)], rfl⟩
 replace h1 := df h1
 have h1n : 26 ≤ n := by omega
 refine Zi <| Zc <| Za <| JLM rfl <| JLq (iv (((n / 26 : Nat) : Int))) (Pu.quo rfl rfl (by decide) ((congrArg IntKind.i64.wrap (show Int.tdiv (n : Int) 26 = ((n / 26 : Nat) : Int) from rfl)).trans (w64 (by omega)))) <| JLq (iv (((n / 26 - 1 : Nat) : Int))) (Pu.arithS rfl rfl ((w64 (by omega)).trans (by omega))) <| Jc Tryz.call142 rfl (fun hin => ih (n / 26 - 1) (by omega) (by omega) _) rfl ?_
 rintro _ _ ⟨rfl, rfl⟩
 refine JLM rfl <| JLq (iv (((n % 26 : Nat) : Int))) (Pu.rem rfl rfl (by decide) rfl) <| JLn (Pu.add64 rfl rfl (by first | omega | (constructor <;> omega))) <| JLq (.int .i32 (97 + (((n % 26 : Nat) : Int)))) (Pu.conv Tryz.runUnderlying3 Tryz.runUnderlying21 rfl (w32 (by omega))) <| JLq (.string (ltr (n % 26))) (Pu.convS Tryz.runUnderlying21 Tryz.runUnderlying9 rfl (ltr_enc' (n % 26) hmod)) <| JLq (.string (YG (n / 26 - 1) ++ ltr (n % 26))) (Pu.addS rfl rfl (by rw [ltr_size]; omega)) <| JLA rfl <| Zb <| Zh <| ⟨.string (YG (n / 26 - 1) ++ ltr (n % 26)), [], Ret.one rfl (RV.tmp rfl), Sub.nil, ?_⟩
 exact ⟨by rw [nameS_ge (n := n) (by omega)], rfl⟩
theorem markG_ct (x : ByteArray) (n : Nat) (l : List Bool) (bF : Nat) (H : Heap) (hl : l.length = n) : CT Tryz.prog 140 ⟨[.slice (some ⟨bF, 0, none⟩) n n, .string x]⟩ [(BX bF (bls l) 4)] H (fun v N => v = .tuple ⟨[]⟩ ∧ N = [(BX bF (bls (mkS x l)) 4)]) := by
 refine Zm Tryz.func140 rfl rfl <| Zc <| Za <| JLM rfl <| Jc Tryz.call163 rfl (fun hin => numG_ct x _) rfl ?_
 rintro _ _ ⟨rfl, rfl⟩
 refine JLA rfl <| Zb <| Zc <| Za <| JLM rfl <| JLn (Pu.geq rfl rfl) <| JLM rfl ?_
 cases h1 : (decide (0 ≤ numS x)) with
 | true =>
  replace h1 := dt h1
  refine JLM rfl <| JLM rfl <| JLn (Pu.lenSl Tryz.runUnderlying181 rfl) <| JLn (Pu.lss rfl rfl) <| JLq (.bool (decide (numS x < (n : Int)))) (Pu.pickT rfl rfl) <| Zb <| Zf rfl (fun h2 => ?_) (fun h2 => ?_)
  ·replace h2 := dt h2
   refine Za <| JLM rfl <| JLM rfl <| JLq (pp bF (0 + (numS x).toNat * 1)) (Pu.idx (numS x).toNat Tryz.runUnderlying181 ty4 rfl rfl (by omega) (by omega)) <| JLr (Zd 0 (vs := [.bool true]) (l := bls (l.set (numS x).toNat true)) ty4 rfl rfl rfl rfl rfl (Zk rfl Zq) (bls_set1 (by have hbl : List.length l = n := hl; omega)) <| Zb <| ⟨.tuple ⟨[]⟩, [(BX bF (bls (l.set (numS x).toNat true)) 4)], Ret.none rfl, (Sk Sub.nil), ?_⟩)
   exact ⟨rfl, by rw [mkS, if_pos (by omega)]⟩
  replace h2 := df h2
  refine Zi <| ⟨.tuple ⟨[]⟩, [(BX bF (bls l) 4)], Ret.none rfl, (Sk Sub.nil), ?_⟩
  exact ⟨rfl, by rw [mkS, if_neg (by omega)]⟩
 | false =>
  replace h1 := df h1
  iterate 4 refine ZC rfl ?_
  refine JLq (.bool false) (Pu.pickF rfl rfl) <| Zb <| Zf (b := false) rfl (fun h => absurd h (by simp)) (fun _ => Zi <| ⟨.tuple ⟨[]⟩, [(BX bF (bls l) 4)], Ret.none rfl, (Sk Sub.nil), ?_⟩)
  exact ⟨rfl, by rw [mkS, if_neg (by omega)]⟩
end Go.Proofs.YtmophpgiaiemhaaGreat.Hs
/-! Walks, printed by a program of this session's own (gen.py). -/
namespace Go.Proofs.YtmophpgiaiemhaaGreat.Hs
open Go Go.Proofs
set_option maxRecDepth 100000
set_option linter.unusedVariables false
set_option linter.unusedSimpArgs false
attribute [local irreducible] JL J CT wlo DT
theorem backward_ct (v : Value) (H : Heap) (hv : v.oneCell' = true) : CT Tryz.prog 145 ⟨[v]⟩ [] H (fun u N => ∃ b, u = .func (.func 164) ⟨[]⟩ ⟨[pp b 0]⟩ ∧ N = [(BX b [v] 28)]) := by
 refine Zm Tryz.func145 rfl rfl <| Zc <| Za <| JLr (Zo (l := [v]) rfl (ZK hv) fun b1 => JLa .nilFunc <| Zb <| Zc <| Za <| JLq (.func (.func 164) ⟨[]⟩ ⟨[pp b1 0]⟩) (Pu.makeFunc rfl rfl) <| JLA rfl <| Zb <| Zh <| ⟨.func (.func 164) ⟨[]⟩ ⟨[pp b1 0]⟩, [(BX b1 [v] 28)], Ret.one rfl (RV.tmp rfl), (Sk Sub.nil), ?_⟩)
 exact ⟨_, rfl, rfl⟩
theorem backward1_ct (L : List ByteArray) (v : Value) (H : Heap) (bK : Nat) (hl : rdS RS 1 H v L) (hK : H bK = some (.cells ⟨[v]⟩ 28 (0, 0))) (l : Nat) {σ : Type} (yc : σ → Zj) (Inv : Nat → σ → Prop) (s0 : σ) (h0 : Inv L.length s0) (hy : ∀ (i : Nat) (hi : i < L.length) (s : σ) (h : Heap), Inv (i + 1) s → Hle H h → YT Tryz.prog l ⟨[iv (i : Int), .string L[i]]⟩ [yc s] h (fun v N => ∃ s2, v = .bool true ∧ N = [yc s2] ∧ Inv i s2)) : CT Tryz.prog 164 ⟨[.func (.yield l) ⟨[]⟩ ⟨[]⟩, pp bK 0]⟩ [yc s0] H (fun _ N => ∃ s, N = [yc s] ∧ Inv 0 s) := by
 refine Zm Tryz.func164 rfl rfl <| Zc <| Za <| JLr (Ze Yy rfl (At.im hK) rfl ?_)
 obtain ⟨a1, cap1, hv1⟩ := hl.sl
 have hle1 := hl.le
 refine JLn (Pu.lenSl Tryz.runUnderlying28 hv1) <| JLn (Pu.sub64 rfl rfl (by first | omega | (constructor <;> omega))) <| JLA rfl <| Zb <| Zl <| ZE (fun k ρ M => ∃ (e : Int) (s : σ), ρ 0 = .func (.yield l) ⟨[]⟩ ⟨[]⟩ ∧ ρ 1 = pp bK 0 ∧ ρ 3 = iv e ∧ Sub [yc s] M ∧ (-1 ≤ e ∧ e < (L.length : Int)) ∧ Inv (e + 1).toNat s ∧ k = (e + 1).toNat) _ ⟨((L.length : Int) - 1), s0, rfl, rfl, rfl, (Sk Sub.nil), ⟨by omega, by omega⟩, (by rw [show ((L.length : Int) - 1 + 1).toNat = L.length from by omega]; exact h0), rfl⟩ ?_
 rintro _ ρ2 _ ⟨e, s, e3, e4, e5, hm6, hb, hI, rfl⟩
 obtain ⟨ρ7, rfl⟩ := Zr (uc e3 (uc e4 (uc e5 un)))
 clear e3 e4 e5
 refine ZJ hm6 <| Zc <| Zc <| Za <| JLM rfl <| JLn (Pu.geq rfl rfl) <| Zb <| Zf rfl (fun h8 => ?_) (fun h8 => ?_)
 ·replace h8 := dt h8
  obtain ⟨j, rfl⟩ := Int.eq_ofNat_of_zero_le h8
  have hjl : j < L.length := by omega
  refine Zi <| Zc <| Zl <| Zc <| Za <| JLM rfl <| JLM rfl <| JLr (Ze Yy rfl (At.im hK) rfl <| JLM rfl ?_)
  obtain ⟨b9, o9, cap9, row9, T9, fr9, cs9, hv9, hb9, hs9, hE9⟩ := hl.get j (by first | assumption | omega | decide | simp)
  refine JLq (pp b9 (o9 + j * 1)) (Pu.idx j Tryz.runUnderlying28 ty9 hv9 rfl rfl (by first | assumption | omega | decide | simp)) <| JLr (Ze ty9 rfl (At.im hb9) (Yi ((show cs9 = [Value.string (L[j])] from hE9) ▸ hs9)) <| JL_yield1 0 rfl rfl rfl (fun hin => hy j hjl s _ (by simpa using hI) (Hle.hu _ _)) rfl ?_)
  rintro _ _ ⟨s5, rfl, rfl, hI5⟩
  refine JLq (.bool false) (show Pu _ _ _ (.bool (!true)) from Pu.not rfl) <| Zb <| Zf (b := false) rfl (fun h => absurd h (by simp)) (fun _ => Zi <| Za <| JLM rfl <| JLn (Pu.sub64 rfl rfl (by first | omega | (constructor <;> omega))) <| JLA rfl <| Zb <| ⟨_, ?_, ((j : Int) - 1), s5, rfl, rfl, rfl, (Sk Sub.nil), ?_, ?_, rfl⟩)
  ·omega
  ·constructor <;> omega
  rw [show ((j : Int) - 1 + 1).toNat = j from by omega]; exact hI5
 replace h8 := df h8
 refine Zy _ rfl <| ⟨.tuple ⟨[]⟩, [yc s], Ret.none rfl, (Sk Sub.nil), ?_⟩
 exact ⟨s, rfl, by rw [show (e + 1).toNat = 0 from by omega] at hI; exact hI⟩
theorem with_ct (l m : List ByteArray) (v u : Value) (H : Heap) (hl : rdS RS 1 H v l) (hm : rdS RS 1 H u m) (hb : l.length + m.length ≤ 1000000) : CT Tryz.prog 121 ⟨[v, u]⟩ [] H (fun w N => ∃ u k, w = u ∧ N = [k] ∧ Own 9 1 u (Z0 (m.reverse ++ l)) k) := by
 refine Zm Tryz.func121 rfl rfl <| Zc <| Za <| JLA rfl <| Zb <| Zc <| Za <| JLr (Zp (vs := []) [] Tryz.runUnderlying111 el9 rfl rfl (by intro e he; cases he) rfl (by decide) fun b1 k1 ho1 hk1 => JLr (Zn (l := [nS]) Tryz.zeroValue111 rfl fun b2 => JLr (Zd 0 (vs := [.slice (some ⟨b1, 0, none⟩) 0 0]) (l := [.slice (some ⟨b1, 0, none⟩) 0 0]) ty111 rfl rfl rfl rfl rfl (Zk rfl Zq) rfl <| Zb <| Zc <| Zc ?_)))
 refine Za <| JLm u <| Jc Tryz.call145 rfl (fun hin => backward_ct _ _ hm.one) rfl ?_
 rintro _ _ ⟨bK3, rfl, rfl⟩
 refine Zb <| Zl <| ZJ (Sub.cons 1 rfl (Sub.cons 1 rfl (Sk Sub.nil))) <| J_range (L := [(BX bK3 [u] 28)]) (fun s : Value × Zj => [(BX b2 [s.1] 111), s.2]) (fun _ => false) (.slice (some ⟨b1, 0, none⟩) 0 0, k1) (fun s => Own 9 1 s.1 (Z0 ((m.drop 0).reverse)) s.2) rfl rfl Tryz.call164 (List.Perm.of_eq (by simp)) ?_ ?_ ?_
 ·intro l yc hY hin
  refine CT.mono (backward1_ct m u _ bK3 (RSs.mono (Hle.hu _ _) hm) (hin 0 _ rfl _ _ List.mem_cons_self) l yc (fun i s => Own 9 1 s.1 (Z0 ((m.drop i).reverse)) s.2) (.slice (some ⟨b1, 0, none⟩) 0 0, k1) (by rw [List.drop_length]; exact ho1) ?_) (fun v N hN => hN)
  intro i hi s h hI hh
  refine YT.mono (hY s [_, _] h (fun s => Own 9 1 s.1 (Z0 ((m.drop i).reverse)) s.2) rfl rfl (RoundOk.mk ?_)) ?_
  ·show J _ _ _ _ [(BX b2 [s.1] 111), s.2] _
   refine Za <| JLA rfl <| Zb <| Zl <| Za <| JLr (Ze ty111 rfl (At.bx 0 rfl) rfl <| JLM rfl <| JLr (Zp (vs := [.string (m[i])]) [[.string (m[i])]] Tryz.runUnderlying111 el9 rfl rfl (by intro e he; simp only [List.mem_cons, List.not_mem_nil, or_false] at he; subst he; exact rfl) rfl (by decide) fun b4 k4 ho4 hk4 => ?_))
   have hlens5 : ∀ e ∈ ([[.string (m[i])]] : List (List Value)), List.length e = 1 := by
    intro e he; simp only [List.mem_cons, List.not_mem_nil, or_false] at he
    rcases he with rfl
    ·exact rfl
   have hoks5 : ∀ e ∈ ([[.string (m[i])]] : List (List Value)), okc e := by
    intro e he; simp only [List.mem_cons, List.not_mem_nil, or_false] at he
    rcases he with rfl
    ·exact (Zk rfl Zq)
   refine JLr (ZA (i := 2) (n := 1) (es' := [[.string (m[i])]]) Tryz.runUnderlying111 Tryz.runUnderlying111 (Or.inl rfl) el9 rfl rfl rfl hI (fun F w m => Src.row (((At.k 0 rfl (by rw [hk4]; exact List.mem_cons_self))).heap m) (Zt (Zz hlens5))) rfl hlens5 hoks5 (by decide) (by simp only [ZT, List.length_reverse, List.length_drop, List.length_append]; omega) fun v5 k5 ho5 => JLr (Zd 1 (vs := [v5]) (l := [v5]) ty111 rfl rfl rfl (ZK ho5.one) rfl (Zk ho5.one Zq) rfl <| Zb ?_))
   exact ⟨(v5, k5), rfl, (Sd (Sk (Sk Sub.nil))), (by rw [List.drop_eq_getElem_cons hi, List.reverse_cons, strs_snoc]; exact ho5)⟩
  rintro v N ⟨s2, rfl, rfl, h2⟩; exact ⟨s2, rfl, rfl, h2⟩
 ·rintro s hI hp
  have hIF := hI
  rw [List.drop_zero] at hIF
  refine Zc <| Za <| JLr (Ze ty111 rfl (At.bx 0 rfl) rfl <| JLm v <| JLr (ZA (i := 1) (n := l.length) (es' := Z0 l) Tryz.runUnderlying111 Tryz.runUnderlying111 (Or.inl rfl) el9 rfl rfl rfl hIF (fun F w m => strs_src hl w _ m) (ZT _) (strs_len1 _) (strs_ok _) (by decide) (by simp only [ZT, List.length_reverse, List.length_drop, List.length_append]; omega) fun v6 k6 ho6 => ?_))
  rw [← strs_app] at ho6
  refine JLa v6 <| Zb <| Zh <| ⟨v6, [k6], Ret.one rfl (RV.tmp rfl), (Sd (Sk Sub.nil)), ?_⟩
  exact ⟨_, _, rfl, rfl, ho6⟩
 intro s _ hp; cases hp
end Go.Proofs.YtmophpgiaiemhaaGreat.Hs
/-! Walks, printed by a program of this session's own (gen.py). -/
namespace Go.Proofs.YtmophpgiaiemhaaGreat.Hs
open Go Go.Proofs
set_option maxRecDepth 100000
set_option linter.unusedVariables false
set_option linter.unusedSimpArgs false
attribute [local irreducible] JL J CT wlo DT
theorem chosenG_ct (s : List ByteArray) (many : Nat) (v : Value) (H : Heap) (hs : Hs.rdS RS 1 H v s) (hb : s.length + many ≤ 1000000) : CT Tryz.prog 110 ⟨[v, iv ((many : Int))]⟩ [] H (fun v N => ∃ u1 u2 k1 k2, v = .tuple ⟨[u1, u2]⟩ ∧ N = [k1, k2] ∧ Own 9 1 u1 (Z0 (ZY s (ZX s many))) k1 ∧ Own 9 1 u2 (Z0 (ZX s many)) k2) := by
 refine Zm Tryz.func110 rfl rfl <| Zc <| Za <| JLA rfl <| JLA rfl <| Zb <| Zc <| Za <| JLm v ?_
 obtain ⟨a1, cap1, hv1⟩ := hs.sl
 have hle1 := hs.le
 refine JLn (Pu.lenSl Tryz.runUnderlying111 hv1) <| JLM rfl <| JLn (Pu.add64 rfl rfl (by first | omega | (constructor <;> omega))) <| JLr (Runs_make (s.length + many) Tryz.runUnderlying181 el4 rfl rfl (by omega) (by omega) (by omega) (by omega) fun b2 k2 _ hk2 => ?_)
 obtain rfl : k2 = (BX b2 (bls (List.replicate (s.length + many) false)) 4) := hk2.trans (congrArg (fun y => [(b2, Obj.cells ⟨y⟩ 4 (0, 0))]) (bls_rep _))
 refine JLA rfl <| Zb <| Zc <| Za <| JLM rfl <| JLq (.func (.func 140) ⟨[.slice (some ⟨b2, 0, none⟩) (s.length + many) (s.length + many)]⟩ ⟨[]⟩) (Pu.makeFunc rfl rfl) <| JLA rfl <| Zb <| Zc <| Zc <| Za <| JLm v ?_
 obtain ⟨a3, cap3, hv3⟩ := hs.sl
 have hle3 := hs.le
 refine JLn (Pu.lenSl Tryz.runUnderlying111 hv3) <| JLM rfl <| Zb <| Zl <| ZE (fun k ρ M => ∃ (j : Nat) (lm : List Bool), ρ 0 = v ∧ ρ 1 = iv ((many : Int)) ∧ ρ 4 = nS ∧ ρ 5 = nS ∧ ρ 6 = .slice (some ⟨b2, 0, none⟩) (s.length + many) (s.length + many) ∧ ρ 7 = .func (.func 140) ⟨[.slice (some ⟨b2, 0, none⟩) (s.length + many) (s.length + many)]⟩ ⟨[]⟩ ∧ ρ 19 = v ∧ ρ 20 = iv ((s.length : Int)) ∧ ρ 21 = iv ((j : Int)) ∧ Sub [(BX b2 (bls lm) 4)] M ∧ j ≤ s.length ∧ lm.length = s.length + many ∧ mkA (s.drop j) lm = mkA s (List.replicate (s.length + many) false) ∧ k = s.length - j) _ ⟨0, List.replicate (s.length + many) false, rfl, rfl, rfl, rfl, rfl, rfl, rfl, rfl, rfl, (Sk Sub.nil), Nat.zero_le _, (List.length_replicate ..), rfl, rfl⟩ ?_
 rintro _ ρ4 _ ⟨j, lm, e5, e6, e7, e8, e9, e10, e11, e12, e13, hm14, hj, hlm, hmk, rfl⟩
 obtain ⟨ρ15, rfl⟩ := Zr (uc e5 (uc e6 (uc e7 (uc e8 (uc e9 (uc e10 (uc e11 (uc e12 (uc e13 un)))))))))
 clear e5 e6 e7 e8 e9 e10 e11 e12 e13
 refine ZJ hm14 <| Zc <| Za <| JLn (Pu.lss rfl rfl) <| Zb <| Zc <| Zf rfl (fun h16 => ?_) (fun h16 => ?_)
 ·replace h16 := dt h16
  have h16n : j < s.length := by omega
  refine Zi <| Zc <| Zl <| Zc <| Za ?_
  obtain ⟨b17, o17, cap17, row17, T17, fr17, cs17, hv17, hb17, hs17, hE17⟩ := hs.get j (by first | assumption | omega | decide | simp)
  refine JLq (pp b17 (o17 + j * 1)) (Pu.idx j Tryz.runUnderlying111 ty9 hv17 rfl rfl (by first | assumption | omega | decide | simp)) <| JLr (Ze ty9 rfl (At.im hb17) (Yi ((show cs17 = [Value.string (s[j])] from hE17) ▸ hs17)) <| JLA rfl <| Zb <| Za <| JLM rfl <| JLM rfl <| ZD 0 rfl Tryz.call140 rfl rfl (fun hin => markG_ct s[j] (s.length + many) _ _ _ hlm) rfl ?_)
  rintro _ _ ⟨rfl, rfl⟩
  refine Zb <| Za <| JLn (Pu.inc rfl rfl (by omega)) <| JLM rfl <| Zb <| ⟨_, ?_, (j + 1), mkS (s[j]) lm, rfl, rfl, rfl, rfl, rfl, rfl, rfl, rfl, rfl, (Sk Sub.nil), ?_, ?_, ?_, rfl⟩
  ·omega
  ·omega
  ·rw [mkS_len]; exact hlm
  rw [ZU h16n, mkA] at hmk; exact hmk
 replace h16 := df h16
 have h16n : s.length ≤ j := by omega
 refine Zy _ rfl <| Zc <| Za <| JLA rfl <| Zb <| Zc <| Zc <| Za <| JLM rfl <| JLM rfl <| Zb <| Zl ?_
 have hpk : pickN lm many = ZX s many := by rw [ZX, ← hmk, Yt h16n]; rfl
 have hct : cntT lm ≤ s.length := by have := cntT_mkA s (List.replicate (s.length + many) false); rw [cntT_rep, ← hmk, Yt h16n] at this; simpa [mkA] using this
 clear hmk
 refine ZE (fun k ρ M => ∃ (i : Nat) (lq : List Bool) (w : Value) (os : List ByteArray) (k5 : Zj), ρ 0 = v ∧ ρ 4 = nS ∧ ρ 5 = nS ∧ ρ 6 = .slice (some ⟨b2, 0, none⟩) (s.length + many) (s.length + many) ∧ ρ 10 = w ∧ ρ 29 = iv ((many : Int)) ∧ ρ 30 = iv ((i : Int)) ∧ Sub [(BX b2 (bls lq) 4), k5] M ∧ i ≤ many ∧ lq.length = s.length + many ∧ os ++ pickN lq (many - i) = ZX s many ∧ cntT lq ≤ s.length + i ∧ Own 9 1 w (Z0 os) k5 ∧ os.length = i ∧ k = many - i) _ ⟨0, lm, nS, [], [], rfl, rfl, rfl, rfl, rfl, rfl, rfl, (Sk (Sub.emp Sub.nil)), Nat.zero_le _, hlm, hpk, hct, Own.nil, rfl, rfl⟩ ?_
 rintro _ ρ18 _ ⟨i, lq, w, os, k5, e19, e20, e21, e22, e23, e24, e25, hm26, hi, hlq, hpq, hcq, ho5, hol, rfl⟩
 obtain ⟨ρ27, rfl⟩ := Zr (uc e19 (uc e20 (uc e21 (uc e22 (uc e23 (uc e24 (uc e25 un)))))))
 clear e19 e20 e21 e22 e23 e24 e25
 refine ZJ hm26 <| Zc <| Za <| JLn (Pu.lss rfl rfl) <| Zb <| Zc <| Zf rfl (fun h28 => ?_) (fun h28 => ?_)
 ·replace h28 := dt h28
  have h28n : i < many := by omega
  have hcl : cntT lq < lq.length := by omega
  have hfl := ff_lt lq hcl
  refine Zi <| Zc <| Zl <| Zc <| Za <| JLM rfl <| Jc Tryz.call141 rfl (fun hin => int_r (r := ((ffN lq : Nat) : Int)) (idxB_ct false _ _ _ _ hlq (by omega) (hin 0 _ rfl _ _ List.mem_cons_self)) (ff_fst lq hcl 0)) rfl ?_
  rintro _ _ ⟨rfl, rfl⟩
  refine JLA rfl <| Zb <| Zc <| Za <| JLm w <| JLM rfl <| Jc Tryz.call142 rfl (fun hin => nameG_ct (ffN lq) (by omega) _) rfl ?_
  rintro _ _ ⟨rfl, rfl⟩
  refine JLr (Zp (vs := [.string (YG (ffN lq))]) [[.string (YG (ffN lq))]] Tryz.runUnderlying28 el9 rfl rfl (by intro e he; simp only [List.mem_cons, List.not_mem_nil, or_false] at he; subst he; exact rfl) rfl (by decide) fun b29 k29 ho29 hk29 => ?_)
  have hlens30 : ∀ e ∈ ([[.string (YG (ffN lq))]] : List (List Value)), List.length e = 1 := by
   intro e he; simp only [List.mem_cons, List.not_mem_nil, or_false] at he
   rcases he with rfl
   ·exact rfl
  have hoks30 : ∀ e ∈ ([[.string (YG (ffN lq))]] : List (List Value)), okc e := by
   intro e he; simp only [List.mem_cons, List.not_mem_nil, or_false] at he
   rcases he with rfl
   ·exact (Zk rfl Zq)
  refine JLr (ZA (i := 2) (n := 1) (es' := [[.string (YG (ffN lq))]]) Tryz.runUnderlying28 Tryz.runUnderlying28 (Or.inl rfl) el9 rfl rfl rfl ho5 (fun F w m => Src.row (((At.k 0 rfl (by rw [hk29]; exact List.mem_cons_self))).heap m) (Zt (Zz hlens30))) rfl hlens30 hoks30 (by decide) (by simp only [ZT]; omega) fun v30 k30 ho30 => ?_)
  rw [← strs_snoc] at ho30
  refine JLa v30 <| Zb <| Za <| JLM rfl <| JLM rfl <| JLq (pp b2 (0 + (((ffN lq : Nat) : Int)).toNat * 1)) (Pu.idx (((ffN lq : Nat) : Int)).toNat Tryz.runUnderlying181 ty4 rfl rfl (by omega) (by omega)) <| JLr (Zd 1 (vs := [.bool true]) (l := bls (lq.set (((ffN lq : Nat) : Int)).toNat true)) ty4 rfl rfl rfl rfl rfl (Zk rfl Zq) (bls_set1 (by have hbl : List.length lq = (s.length + many) := hlq; omega)) <| Zb <| Za <| JLn (Pu.inc rfl rfl (by omega)) <| JLM rfl <| Zb <| ⟨_, ?_, (i + 1), lq.set (((ffN lq : Nat) : Int)).toNat true, v30, (os ++ [YG (ffN lq)]), k30, rfl, rfl, rfl, rfl, rfl, rfl, rfl, (Sd (Sk (Sk Sub.nil))), ?_, ?_, ?_, ?_, ?_, ?_, rfl⟩)
  ·omega
  ·omega
  ·rw [List.length_set]; exact hlq
  ·rw [pick_succ lq h28n] at hpq; rw [List.append_assoc]; exact hpq
  ·exact Nat.le_trans (cntT_set lq _) (by omega)
  ·exact ho30
  simp [hol]
 replace h28 := df h28
 have h28n : many ≤ i := by omega
 refine Zy _ rfl <| Zc <| Za <| JLm v <| JLm w <| Jc Tryz.call121 rfl (fun hin => with_ct _ _ _ _ _ (RSs.mono (Hle.hu _ _) hs) (Yc ho5 (by omega) (hin 1 _ rfl)) (by omega)) rfl ?_
 rintro u31 _ ⟨_, k31, hu31, rfl, ho31⟩; subst hu31
 refine JLm w <| JLa u31 <| JLa w <| Zb <| Zh <| ⟨.tuple ⟨[u31, w]⟩, [k31, k5], Ret.two rfl (RV.tmp rfl) (RV.tmp rfl), (Sk (Sd (Sk Sub.nil))), ?_⟩
 have hoe : os = ZX s many := by rw [← hpq, show many - i = 0 from by omega]; simp [pickN]
 subst hoe
 exact ⟨_, _, _, _, rfl, rfl, ho31, ho5⟩
end Go.Proofs.YtmophpgiaiemhaaGreat.Hs
/-! A case with names, built. -/
namespace Go.Proofs.YtmophpgiaiemhaaGreat.Hs
open Go Go.Proofs
set_option maxRecDepth 100000
theorem bldNC {p t : List Value} {v : Value} (hp : p.length = 35) (hv : v.oneCell' = true) (ht : t.length = 37) :
    ∀ w, (Instr.build 85 ⟨[(0, .agg ⟨p⟩), (1, v), (2, .agg ⟨t⟩)]⟩).run Tryz.prog w = .ok (.agg ⟨p ++ ([v] ++ t)⟩) w := by
  refine Z4 Tryz.zeroValue85 Tryz.runUnderlying85 pl85 ?_
  refine Eq.trans (congrArg (fun c => Instr.fill _ c _) (show _ = (⟨[] ++ (pkP 0 0 zS (.slice none 0 0) ++ ([.slice none 0 0] ++ pkN 0 0 zS (.slice none 0 0) (.slice none 0 0) (.slice none 0 0)))⟩ : Array Value) by kernel_rfl)) ?_
  refine YQ (off := 0) (sz := 35) (l := p) rfl rfl hp rfl rfl ?_
  refine Eq.trans (congrArg (fun c => Instr.fill _ c _) (show _ = (⟨p ++ ([.slice none 0 0] ++ pkN 0 0 zS (.slice none 0 0) (.slice none 0 0) (.slice none 0 0))⟩ : Array Value) from by rw [List.nil_append])) ?_
  refine YQ (off := 35) (sz := 1) (l := [v]) rfl (ZK hv) rfl hp rfl ?_
  refine Eq.trans (congrArg (fun c => Instr.fill _ c _) (show _ = (⟨(p ++ [v]) ++ (pkN 0 0 zS (.slice none 0 0) (.slice none 0 0) (.slice none 0 0) ++ [])⟩ : Array Value) from by rw [List.append_nil, List.append_assoc])) ?_
  refine YQ (off := 36) (sz := 37) (l := t) rfl rfl ht (by rw [List.length_append, hp]; rfl) rfl ?_
  rw [List.append_nil, List.append_assoc]
  rfl
theorem Pu.cast {P : Program} {e : Operand → Value} {o : Oper} {b c : Bool} (h : Pu P e o (.bool b)) (q : b = c) : Pu P e o (.bool c) := q ▸ h
theorem long_size {n : Nm} (h : (cnN stL 1 n 0).1 = false) : sizeT (skN n) ≤ 300 := by
  have h1 := cnT_size (skN n) 1 0 h
  have h2 := cnN_keep stL_le n 1 0 (by omega) h
  have h3 : (cnN stL 1 n 0).2 = (cnT stL 1 (skN n) 0).2 := rfl
  omega
theorem rd_noneS {h : Heap} {v : Value} {l : List ByteArray} {a : Option Addr} {n cap : Nat} (r : Hs.rdS RS 1 h v l) (hv : v = .slice a n cap) (ha : a.isNone = true) : l = [] := by
  obtain ⟨a', c', e, _, h0 | ⟨b, o, row, T, fr, e1, _⟩⟩ := r
  · exact List.eq_nil_of_length_eq_zero h0
  · rw [hv] at e; cases e; subst e1; cases ha
theorem Sub.join5 {M R : List Zj} {a b c d e : Zj} (h : Sub (a :: b :: c :: d :: e :: R) M) : Sub ((a ++ (b ++ (c ++ (d ++ e)))) :: R) M := h.flat (by simp)
/-- What is chosen, for a number of which one knows that it is none below 0. -/
theorem nmNs_le (k : Int) (s : List ByteArray) (l : List Tm) : ∀ i, (nmNs k s i l).length ≤ 2 * l.length := by
  induction l with
  | nil => intro i; simp [nmNs]
  | cons t l ih =>
    intro i
    rw [nmNs, List.length_append, Yd, List.length_cons]
    have h1 := ih (i + 1)
    have h2 := Xu k i
    omega
end Go.Proofs.YtmophpgiaiemhaaGreat.Hs
/-! What is chosen, for a number; a pattern copied. -/
namespace Go.Proofs.YtmophpgiaiemhaaGreat.Hs
open Go Go.Proofs
theorem chosenI_ct (s : List ByteArray) (m : Int) (v : Value) (H : Heap) (hs : Hs.rdS RS 1 H v s) (h0 : 0 ≤ m) (hb : s.length + m.toNat ≤ 1000000) :
    CT Tryz.prog 110 ⟨[v, .int .i64 m]⟩ [] H (fun v N => ∃ u1 u2 k1 k2, v = .tuple ⟨[u1, u2]⟩ ∧ N = [k1, k2] ∧ Own 9 1 u1 (Z0 (ZY s (ZX s m.toNat))) k1 ∧ Own 9 1 u2 (Z0 (ZX s m.toNat)) k2) := by
  obtain ⟨n, rfl⟩ := Int.eq_ofNat_of_zero_le h0
  exact chosenG_ct s n v H hs hb
theorem mapPatternP_ct (p : Pt) (cs : List Value) (H : Heap) (hp : RP H cs p) (hz : sizeP p ≤ 1000000) {fv : Value} (hfv : fv.oneCell' = true := by rfl) :
    CT Tryz.prog 113 ⟨[.agg ⟨[fv, .func (.func 84) ⟨[]⟩ ⟨[]⟩]⟩, .agg ⟨cs⟩]⟩ [] H (fun v N => ∃ cs k, v = .agg ⟨cs⟩ ∧ N = [k] ∧ OP p cs k) := by
  have := mapPattern_ct 84 [] [] Tryz.call84 (fun s => s) fv hfv p cs H hp (fun s h _ => same_ct s h) hz
  rwa [mapP_id] at this
end Go.Proofs.YtmophpgiaiemhaaGreat.Hs
/-! Walks, printed by a program of this session's own (gen.py). -/
namespace Go.Proofs.YtmophpgiaiemhaaGreat.Hs
open Go Go.Proofs
set_option maxRecDepth 100000
set_option linter.unusedVariables false
set_option linter.unusedSimpArgs false
attribute [local irreducible] JL J CT wlo DT
set_option maxHeartbeats 2000000 in
theorem namedG_ct : ∀ (t : Tm) (s : List ByteArray) (cs : List Value) (v : Value) (H : Heap), RT H cs t → Hs.rdS RS 1 H v s → scT s.length t → s.length + 2 * sizeT t ≤ 1000000 → CT Tryz.prog 65 ⟨[.agg ⟨cs⟩, v]⟩ [] H (fun r N => ∃ cs k, r = .agg ⟨cs⟩ ∧ N = [k] ∧ ON (nmT t s) cs k) := by
 intro t
 induction t using Tm.ind with
 | h kind num ref kids cases ih ih' =>
 intro s cs v H ht hs hsc hz
 obtain ⟨ks, cv, rfl, hk, hn, hks, hcv⟩ := RT_mk.1 ht
 have hkl := Xx kids
 have hcl := Xy cases
 rw [scT] at hsc
 rw [sizeT] at hz
 obtain ⟨hsv, hsk, hscc⟩ := hsc
 refine Zm Tryz.func65 rfl rfl <| Zc <| Za <| JLr (Zo (l := pkT kind num ref ks cv) rfl rfl fun b1 => JLr (Zn (l := pkN 0 0 zS nS nS nS) Tryz.zeroValue32 rfl fun b2 => Zb <| Zc <| Za <| JLq (pp b1 0) (ZO rfl rfl) <| JLr (Ze ty3 rfl (At.bx 1 rfl) (Z3 ..) <| JLq (pp b1 1) (ZZ rfl rfl) <| JLr (Ze ty3 rfl (At.bx 1 rfl) (Yh ..) <| JLq (pp b1 2) (fa27_2 rfl rfl) ?_))))
 refine JLr (Zg Xm rfl (At.bx 1 rfl) (pkT_2 ..) <| JLq (.agg ⟨pkN kind num ref nS nS nS⟩) (Pu.build (pv := [(0, iv kind), (1, iv num), (2, .agg ⟨sC ref⟩)]) (l := pkN kind num ref nS nS nS) rfl (bld32_0_1_2 _ _ _)) <| JLr (Zn (l := pkN 0 0 zS nS nS nS) Tryz.zeroValue32 rfl fun b3 => JLr (Zd 0 (vs := pkN kind num ref nS nS nS) (l := pkN kind num ref nS nS nS) Ya rfl rfl rfl rfl rfl (YZ rfl rfl rfl) (pkN_s ..) <| Zb <| Zc <| Zc <| ZJ (M' := [[], (BX b3 (pkN kind num ref nS nS nS) 32), (BX b2 (pkN 0 0 zS nS nS nS) 32), (BX b1 (pkT kind num ref ks cv) 27)]) (Sub.emp Sub.refl) <| Za <| JLq (pp b1 0) (ZO rfl rfl) <| JLr (Ze ty3 rfl (At.bx 3 rfl) (Z3 ..) <| JLn (Pu.eql rfl rfl) <| Zb ?_))))
 refine J_weak (N := fun ρ M => ∃ (nv : Value) (k0 : Zj), (Own 9 1 nv (Z0 (vN kind num s)) k0) ∧ ρ 1 = v ∧ ρ 2 = pp b1 0 ∧ ρ 4 = pp b2 0 ∧ ρ 5 = pp b3 0 ∧ M = [k0, (BX b3 (pkN kind ((if kind = 1 then 0 else num)) ref nv nS nS) 32), (BX b2 (pkN 0 0 zS nS nS nS) 32), (BX b1 (pkT kind num ref ks cv) 27)]) ?_ ?_
 ·refine Zf rfl (fun h4 => ?_) (fun h4 => ?_)
  ·replace h4 := dt h4
   have hsv1 := hsv h4
   refine ZF mixed #[0, 0, 2, 7, 15, 31, 0, 64, 255, 511] 8 [some 24, some 25, some 26, some 27, some 28, some 29, some 30, none] [(7, 9)] [(5, fun _ _ vw qw => ∃ b k, vw = .slice (some ⟨b, 0, none⟩) 1 1 ∧ qw = [k] ∧ Own 9 1 (.slice (some ⟨b, 0, none⟩) 1 1) [[.string (s[num.toNat])]] k ∧ k = (BX b (List.flatten [[.string (s[num.toNat])]]) 9)), (7, fun _ _ vw qw => vw = undef ∧ qw = [(BX b3 (pkN kind 0 ref nS nS nS) 32)])] rfl (by kernel_rfl) rfl (by kernel_rfl) <| Dm v <| Dq (pp b1 1) (fun _ => ZZ rfl rfl) <| Dl1 ty3 (At.bx 2 rfl) (Yh ..) ?_
   obtain ⟨b7, o7, cap7, row7, T7, fr7, cs7, hv7, hb7, hs7, hE7⟩ := hs.get num.toNat (by first | assumption | omega | decide | simp)
   refine Dq (pp b7 (o7 + num.toNat * 1)) (fun _ => Pu.idx num.toNat Tryz.runUnderlying111 ty9 hv7 rfl (by first | rfl | omega) (by first | assumption | omega | decide | simp)) <| Dl1 ty9 (At.im hb7) (Yi ((show cs7 = [Value.string (s[num.toNat])] from hE7) ▸ hs7)) <| Dr rfl (fun _ => Zp (vs := [.string (s[num.toNat])]) [[.string (s[num.toNat])]] Tryz.runUnderlying28 el9 rfl rfl (by intro e he; simp only [List.mem_cons, List.not_mem_nil, or_false] at he; subst he; exact rfl) rfl (by decide) fun b k h1 h2 => ⟨[k], by rw [ZR rfl]; exact Sub.refl, b, k, rfl, rfl, h1, h2⟩) (fun _ _ ⟨b8, k8, e1, e2, ho8, hk8⟩ => ?_); subst e1 e2
   refine Dq (pp b3 1) (fun _ => fa32_1 rfl rfl) <| Dr rfl (fun _ => Zd 1 (vs := [iv 0]) (l := pkN kind 0 ref nS nS nS) ty3 rfl rfl rfl rfl rfl (Zk rfl Zq) (pkN_s1 ..) ⟨[_], keptE (i := 1) rfl rfl, rfl, rfl⟩) ?_; rintro _ _ ⟨rfl, rfl⟩
   refine ZL (M' := [(BX b3 (pkN kind 0 ref nS nS nS) 32), k8, [], (BX b2 (pkN 0 0 zS nS nS nS) 32), (BX b1 (pkT kind num ref ks cv) 27)]) rfl ?_
   show JL _ _ _ [_, _] _ _ _
   refine JLq (pp b3 34) (Y2 rfl rfl) <| JLr (Zd 0 (vs := [.slice (some ⟨b8, 0, none⟩) 1 1]) (l := pkN kind 0 ref (.slice (some ⟨b8, 0, none⟩) 1 1) nS nS) Yy rfl rfl rfl rfl rfl (Zk rfl Zq) (pkN_s34 ..) <| JL_sub (Sub.cons 1 rfl (Sk (Sd (Sk (Sk Sub.nil))))) <| Zb ?_)
   rw [if_pos h4]
   exact ⟨(.slice (some ⟨b8, 0, none⟩) 1 1), k8, (by rw [vN_pos h4 (by omega)]; exact ho8), rfl, rfl, rfl, rfl, rfl⟩
  replace h4 := df h4
  refine Zi ?_
  rw [if_neg h4]
  exact ⟨nS, [], (by rw [vN_neg h4]; exact Own.nil), rfl, rfl, rfl, rfl, rfl⟩
 rintro ρ9 _ ⟨nv, k0, ho0, e10, e11, e12, e13, rfl⟩
 obtain ⟨ρ14, rfl⟩ := Zr (uc e10 (uc e11 (uc e12 (uc e13 un))))
 clear e10 e11 e12 e13
 refine Zc <| Zc <| Za <| JLq (pp b1 34) (Z8 rfl rfl) <| JLr (Ze YW rfl (At.bx 3 rfl) (Yb ..) ?_)
 obtain ⟨a15, cap15, hv15⟩ := hks.sl
 have hle15 := hks.le
 refine JLn (Pu.lenSl Tryz.runUnderlying24 hv15) <| JLM rfl <| Zb <| Zl <| ZE (fun k ρ M => ∃ (j : Nat) (mv : Value) (k1 : Zj) (w : Value) (es : List (List Value)) (k2 k3 : Zj), ρ 1 = v ∧ ρ 2 = pp b1 0 ∧ ρ 4 = pp b2 0 ∧ ρ 5 = pp b3 0 ∧ ρ 33 = ks ∧ ρ 34 = iv ((kids.length : Int)) ∧ ρ 35 = iv ((j : Int)) ∧ Sub [(BX b3 (pkN kind ((if kind = 1 then 0 else num)) ref mv w nS) 32), k1, k2, k3, (BX b2 (pkN 0 0 zS nS nS nS) 32), (BX b1 (pkT kind num ref ks cv) 27)] M ∧ j ≤ kids.length ∧ Own 9 1 mv (Z0 (vN kind num s ++ nmNs kind s 0 (kids.take j))) k1 ∧ Own 32 37 w es k2 ∧ ONs (nmKs kind s 0 (kids.take j)) es k3 ∧ k = kids.length - j) _ ⟨0, nv, k0, nS, [], [], [], rfl, rfl, rfl, rfl, rfl, rfl, rfl, (Sub.cons 1 rfl (Sk (Sub.emp (Sub.emp (Sk (Sk Sub.nil)))))), Nat.zero_le _, (by simpa [nmNs] using ho0), Own.nil, (by simpa [nmKs] using ONs.nil), rfl⟩ ?_
 rintro _ ρ16 _ ⟨j, mv, k1, w, es, k2, k3, e17, e18, e19, e20, e21, e22, e23, hm24, hj, ho1, ho2, hop, rfl⟩
 obtain ⟨ρ25, rfl⟩ := Zr (uc e17 (uc e18 (uc e19 (uc e20 (uc e21 (uc e22 (uc e23 un)))))))
 clear e17 e18 e19 e20 e21 e22 e23
 refine ZJ hm24 <| Zc <| Za <| JLn (Pu.lss rfl rfl) <| Zb <| Zc <| Zf rfl (fun h26 => ?_) (fun h26 => ?_)
 ·replace h26 := dt h26
  have h26n : j < kids.length := by omega
  have hz1 := YY _ (List.getElem_mem h26n)
  have hm1 := Xu kind j
  have hel := ONs_len hop
  rw [nmKs_len, List.length_take] at hel
  have hnl := nmNs_le kind s (kids.take j) 0
  rw [List.length_take] at hnl
  have hvl := vN_len kind num s
  refine Zi <| Zc <| Zl <| Zc <| Za <| JLM rfl ?_
  obtain ⟨b27, o27, cap27, row27, T27, fr27, cs27, hv27, hb27, hs27, hE27⟩ := hks.get j (by first | assumption | omega | decide | simp)
  refine JLq (pp b27 (o27 + j * 36)) (Pu.idx j Tryz.runUnderlying24 Zs hv27 rfl rfl (by first | assumption | omega | decide | simp)) <| JLr (Zg Zs rfl (At.im hb27) hs27 <| JLr (Zn (l := pkT 0 0 zS nS nS) Tryz.zeroValue27 rfl fun b28 => JLA rfl <| JLr (Zd 0 (vs := cs27) (l := cs27) Zs rfl rfl rfl rfl (Zv hE27) (XC hE27) (ZM (n := 36) rfl (Zv hE27)) <| Zb <| Zc <| Za <| JLm v <| JLq (pp b1 0) (ZO rfl rfl) <| JLr (Ze ty3 rfl (At.bx 6 rfl) (Z3 ..) <| JLM rfl <| Jc Tryz.call111 rfl (fun hin => more_ct _ _ _) rfl ?_))))
  rintro _ _ ⟨rfl, rfl⟩
  refine Jc Tryz.call110 rfl (fun hin => chosenI_ct s (ZB kind ((j : Int))) _ _ (RSs.mono (Hle.hu _ _) hs) (by omega) (by omega)) rfl ?_
  rintro _ _ ⟨u29, v29, k29, l29, rfl, rfl, hu29, hv29⟩
  have hcl29 := Yd s (ZB kind ((j : Int))).toNat
  have hfl29 := ZW s (ZX s (ZB kind ((j : Int))).toNat)
  refine JLM rfl <| JLn (Pu.extract rfl rfl) <| JLn (Pu.extract rfl rfl) <| JLa u29 <| JLa v29 <| Zb <| Zc <| Za <| JLq (pp b3 34) (Y2 rfl rfl) <| JLr (Ze Yy rfl (At.bx 3 rfl) (Xw ..) <| JLm v29 <| JLr (ZA (i := 4) (n := (ZX s (ZB kind ((j : Int))).toNat).length) (es' := Z0 (ZX s (ZB kind ((j : Int))).toNat)) Tryz.runUnderlying28 Tryz.runUnderlying28 (Or.inl rfl) el9 rfl rfl rfl ho1 (own_src (i := 1) hv29 rfl) (ZT _) (strs_len1 _) (strs_ok _) (by decide) (by first | omega | (simp only [ZT, List.length_append]; omega)) fun v30 k30 ho30 => ?_))
  rw [← strs_app] at ho30
  refine JLq (pp b3 34) (Y2 rfl rfl) <| JLr (Zd 3 (vs := [v30]) (l := pkN kind ((if kind = 1 then 0 else num)) ref v30 w nS) Yy rfl rfl rfl (ZK ho30.one) rfl (Zk ho30.one Zq) (pkN_s34 ..) <| Zb <| ZF mixed #[0, 1, 0, 0, 12, 28, 63, 127, 255] 6 [some 54, some 55, some 56, some 57, some 58, some 59] [] [(4, fun _ _ vw qw => ∃ cs k, vw = .agg ⟨cs⟩ ∧ qw = [k] ∧ ON (nmT (kids[j]) (ZY s (ZX s (ZB kind ((j : Int))).toNat))) cs k), (5, fun r _ vw qw => ∃ b k, vw = .slice (some ⟨b, 0, none⟩) 1 1 ∧ qw = [k] ∧ Own 32 37 (.slice (some ⟨b, 0, none⟩) 1 1) [(cel (r 4))] k ∧ k = (BX b (List.flatten [(cel (r 4))]) 32))] rfl (by kernel_rfl) rfl (by kernel_rfl) <| Dq (pp b3 35) (fun _ => Xd rfl rfl) <| Dl1 ty29 (At.bx 3 rfl) (Xa ..) <| Dl Zs (At.bx 2 rfl) (Zt (Zv hE27)) <| Dm u29 <| Dc rfl Tryz.call65 (fun _ => rfl) (fun hin => ih _ (List.getElem_mem h26n) _ _ _ _ (RT.mono (Hle.hu _ _) hE27) (Yc hu29 (by first | omega | (simp only [ZW, List.length_take, List.length_append]; omega)) (hin 0 _ rfl)) (by rw [ZW, Yd]; exact scKs_get0 h26n hsk) (by rw [ZW, Yd]; omega)) ?_)
  rintro _ _ ⟨cs33, k33, rfl, rfl, hO33⟩
  refine Dr rfl (fun _ => Zp (vs := [.agg ⟨cs33⟩]) [cs33] Tryz.runUnderlying29 el32 rfl rfl (by intro e he; simp only [List.mem_cons, List.not_mem_nil, or_false] at he; subst he; exact hO33.len) rfl (by decide) fun b k h1 h2 => ⟨[k], by rw [ZR rfl]; exact Sub.refl, b, k, rfl, rfl, h1, h2⟩) (fun _ _ ⟨b34, k34, e1, e2, ho34, hk34⟩ => ?_); subst e1 e2
  refine ZL (M' := [k34, k33, k29, l29, (BX b28 cs27 27), (BX b3 (pkN kind ((if kind = 1 then 0 else num)) ref v30 w nS) 32), k30, k2, k3, (BX b2 (pkN 0 0 zS nS nS nS) 32), (BX b1 (pkT kind num ref ks cv) 27)]) rfl ?_
  show JL _ _ _ [_, _, _] _ _ _
  have hlens35 : ∀ e ∈ ([cs33] : List (List Value)), List.length e = 37 := by
   intro e he; simp only [List.mem_cons, List.not_mem_nil, or_false] at he
   rcases he with rfl
   ·exact hO33.len
  have hoks35 : ∀ e ∈ ([cs33] : List (List Value)), okc e := by
   intro e he; simp only [List.mem_cons, List.not_mem_nil, or_false] at he
   rcases he with rfl
   ·exact hO33.ok
  refine JLr (ZA (i := 7) (n := 1) (es' := [cs33]) Tryz.runUnderlying29 Tryz.runUnderlying29 (Or.inl rfl) el32 rfl rfl rfl ho2 (fun F w m => Src.row (((At.k 0 rfl (by rw [hk34]; exact List.mem_cons_self))).heap m) (Zt (Zz hlens35))) rfl hlens35 hoks35 (by decide) (by first | omega | (simp only [ZT, List.length_append]; omega)) fun v35 k35 ho35 => JLq (pp b3 35) (Xd rfl rfl) <| JLr (Zd 5 (vs := [v35]) (l := pkN kind ((if kind = 1 then 0 else num)) ref v30 v35 nS) ty29 rfl rfl rfl (ZK ho35.one) rfl (Zk ho35.one Zq) (pkN_s35 ..) <| Zb <| Za <| JLn (Pu.inc rfl rfl (by omega)) <| JLM rfl <| Zb <| ⟨_, ?_, (j + 1), v30, k30, v35, (es ++ [cs33]), k35, (k3 ++ k33), rfl, rfl, rfl, rfl, rfl, rfl, rfl, (Sd (Sub.cons 4 rfl (Sub.cons 4 rfl (Sub.cons 4 rfl (Sub.join (Sub.cons 4 rfl (Sk (Sd (Sd (Sd (Sk (Sk Sub.nil)))))))))))), ?_, ?_, ?_, ?_, rfl⟩))
  ·omega
  ·omega
  ·rw [nmNs_take0 kind s kids j h26n, ← List.append_assoc]; exact ho30
  ·exact ho35
  rw [nmKs_take0 kind s kids j h26n]; exact ONs.snoc hO33 hop
 replace h26 := df h26
 have h26n : kids.length ≤ j := by omega
 refine Zy _ rfl <| Zc <| Zc <| Za <| JLq (pp b1 35) (Z1 rfl rfl) <| JLr (Ze YI rfl (At.bx 5 rfl) (Z2 ..) ?_)
 obtain ⟨a36, cap36, hv36⟩ := hcv.sl
 have hle36 := hcv.le
 refine JLn (Pu.lenSl Tryz.runUnderlying25 hv36) <| JLM rfl <| Zb <| Zl ?_
 have hjk := h26n
 rw [List.take_of_length_le hjk] at ho1 hop
 refine ZE (fun k ρ M => ∃ (j : Nat) (y : Value) (es2 : List (List Value)) (k4 k5 : Zj), ρ 1 = v ∧ ρ 4 = pp b2 0 ∧ ρ 5 = pp b3 0 ∧ ρ 64 = cv ∧ ρ 65 = iv ((cases.length : Int)) ∧ ρ 66 = iv ((j : Int)) ∧ Sub [(BX b3 (pkN kind ((if kind = 1 then 0 else num)) ref mv w y) 32), k4, k5, k1, k2, k3, (BX b2 (pkN 0 0 zS nS nS nS) 32), (BX b1 (pkT kind num ref ks cv) 27)] M ∧ j ≤ cases.length ∧ Own 85 73 y es2 k4 ∧ ONCs (nmCs s (cases.take j)) es2 k5 ∧ k = cases.length - j) _ ⟨0, nS, [], [], [], rfl, rfl, rfl, rfl, rfl, rfl, (Sk (Sub.emp (Sub.emp (Sk (Sk (Sk (Sk (Sk Sub.nil)))))))), Nat.zero_le _, Own.nil, (by simpa [nmCs] using ONCs.nil), rfl⟩ ?_
 rintro _ ρ37 _ ⟨j, y, es2, k4, k5, e38, e39, e40, e41, e42, e43, hm44, hj, ho3, hopw, rfl⟩
 obtain ⟨ρ45, rfl⟩ := Zr (uc e38 (uc e39 (uc e40 (uc e41 (uc e42 (uc e43 un))))))
 clear e38 e39 e40 e41 e42 e43
 refine ZJ hm44 <| Zc <| Za <| JLn (Pu.lss rfl rfl) <| Zb <| Zc <| Zf rfl (fun h46 => ?_) (fun h46 => ?_)
 ·replace h46 := dt h46
  have h46n : j < cases.length := by omega
  have hz1 := YK _ (List.getElem_mem h46n)
  have hm1 := YS (cases[j]).1
  have hel := ONCs_len hopw
  rw [nmCs_len, List.length_take] at hel
  refine Zi <| Zc <| Zl <| Zc <| Za ?_
  obtain ⟨b47, o47, cap47, row47, T47, fr47, cs47, hv47, hb47, hs47, hE47⟩ := hcv.get j (by first | assumption | omega | decide | simp)
  obtain ⟨ca47, cb47, rfl, hA47, hB47⟩ := hE47
  refine JLq (pp b47 (o47 + j * 71)) (Pu.idx j Tryz.runUnderlying25 YM hv47 rfl rfl (by first | assumption | omega | decide | simp)) <| JLr (Zg YM rfl (At.im hb47) hs47 <| JLr (Zn (l := (pkP 0 0 zS nS) ++ (pkT 0 0 zS nS nS)) Tryz.zeroValue80 rfl fun b48 => JLr (Zd 0 (vs := ca47 ++ cb47) (l := ca47 ++ cb47) YM rfl rfl rfl rfl (Zw (Zu hA47) (Zv hB47)) (ZN (Xj hA47) (XC hB47)) (ZM (n := 71) rfl (Zw (Zu hA47) (Zv hB47))) <| Zb <| Zc <| Za <| JLm v <| JLq (pp b48 0) (Y1 rfl rfl) <| JLr (Zg Z6 rfl (At.bx 0 rfl) (YE (Zu hA47)) <| Jc Tryz.call112 rfl (fun hin => binds_ct _ _ _ (RP.mono (Hle.hu _ _) hA47) (by omega)) rfl ?_))))
  rintro _ _ ⟨rfl, rfl⟩
  refine Jc Tryz.call110 rfl (fun hin => chosenI_ct s ((binds (cases[j].1) : Int)) _ _ (RSs.mono (Hle.hu _ _) hs) (by omega) (by omega)) rfl ?_
  rintro _ _ ⟨u49, v49, k49, l49, rfl, rfl, hu49, hv49⟩
  have hcl49 := Yd s ((binds (cases[j].1) : Int)).toNat
  have hfl49 := ZW s (ZX s ((binds (cases[j].1) : Int)).toNat)
  refine JLM rfl <| JLn (Pu.extract rfl rfl) <| JLn (Pu.extract rfl rfl) <| JLa u49 <| JLa v49 <| Zb <| ZF mixed #[0, 1, 0, 0, 8, 28, 0, 0, 128, 0, 956, 2044, 4092, 8191, 16383, 32767] 13 [some 78, some 79, some 80, some 81, some 82, some 83, some 84, some 85, some 86, some 87, some 88, some 89, some 90] [] [(5, fun _ _ vw qw => ∃ cs k, vw = .agg ⟨cs⟩ ∧ qw = [k] ∧ OP (cases[j].1) cs k), (10, fun _ _ vw qw => ∃ cs k, vw = .agg ⟨cs⟩ ∧ qw = [k] ∧ ON (nmT (cases[j].2) (ZY s (ZX s ((binds (cases[j].1) : Int)).toNat))) cs k), (12, fun r _ vw qw => ∃ b k, vw = .slice (some ⟨b, 0, none⟩) 1 1 ∧ qw = [k] ∧ Own 85 73 (.slice (some ⟨b, 0, none⟩) 1 1) [((cel (r 5))) ++ (([v49]) ++ ((cel (r 10))))] k ∧ k = (BX b (List.flatten [((cel (r 5))) ++ (([v49]) ++ ((cel (r 10))))]) 85))] rfl (by kernel_rfl) rfl (by kernel_rfl) <| Dq (pp b3 36) (fun _ => fa32_5 rfl rfl) <| Dl1 ty30 (At.bx 3 rfl) (YP ..) <| Dq (.agg ⟨[.func (.func 83) ⟨[]⟩ ⟨[]⟩, .func (.func 84) ⟨[]⟩ ⟨[]⟩]⟩) (fun _ => Pu.build (pv := [(0, .func (.func 83) ⟨[]⟩ ⟨[]⟩), (1, .func (.func 84) ⟨[]⟩ ⟨[]⟩)]) (l := [.func (.func 83) ⟨[]⟩ ⟨[]⟩, .func (.func 84) ⟨[]⟩ ⟨[]⟩]) rfl (bld136_0_1 _ _ _ _ _ _)) <| Dq (pp b48 0) (fun _ => Y1 rfl rfl) <| Dl Z6 (At.bx 2 rfl) (YE (Zu hA47)) <| Dc rfl Tryz.call113 (fun _ => rfl) (fun hin => mapPatternP_ct _ _ _ (RP.mono (Hle.hu _ _) hA47) (by omega)) ?_
  rintro _ _ ⟨cs53, k53, rfl, rfl, hO53⟩
  refine Dm v49 <| Dq (pp b48 35) (fun _ => fa80_1 rfl rfl) <| Dl Zs (At.bx 2 rfl) (Xg (Zu hA47) (Zv hB47)) <| Dm u49 <| Dc rfl Tryz.call65 (fun _ => rfl) (fun hin => ih' _ (List.getElem_mem h46n) _ _ _ _ (RT.mono (Hle.hu _ _) hB47) (Yc hu49 (by first | omega | (simp only [ZW, List.length_take, List.length_append]; omega)) (hin 1 _ rfl)) (by rw [ZW, Yd]; exact scCs_get h46n hscc) (by rw [ZW, Yd]; omega)) ?_
  rintro _ _ ⟨cs54, k54, rfl, rfl, hO54⟩
  refine Dq (.agg ⟨cs53 ++ (([v49]) ++ cs54)⟩) (fun _ => Pu.build (pv := [(0, .agg ⟨cs53⟩), (1, v49), (2, .agg ⟨cs54⟩)]) (l := cs53 ++ (([v49]) ++ cs54)) rfl (bldNC hO53.len hv49.one hO54.len)) <| Dr rfl (fun _ => Zp (vs := [.agg ⟨cs53 ++ (([v49]) ++ cs54)⟩]) [cs53 ++ (([v49]) ++ cs54)] Tryz.runUnderlying30 el85 rfl rfl (by intro e he; simp only [List.mem_cons, List.not_mem_nil, or_false] at he; subst he; exact (Zw hO53.len (Zw rfl hO54.len))) rfl (by decide) fun b k h1 h2 => ⟨[k], by rw [ZR rfl]; exact Sub.refl, b, k, rfl, rfl, h1, h2⟩) (fun _ _ ⟨b55, k55, e1, e2, ho55, hk55⟩ => ?_); subst e1 e2
  refine ZL (M' := [k55, k54, k53, k49, l49, (BX b48 (ca47 ++ cb47) 80), (BX b3 (pkN kind ((if kind = 1 then 0 else num)) ref mv w y) 32), k4, k5, k1, k2, k3, (BX b2 (pkN 0 0 zS nS nS nS) 32), (BX b1 (pkT kind num ref ks cv) 27)]) rfl ?_
  show JL _ _ _ [_, _, _] _ _ _
  have hlens56 : ∀ e ∈ ([cs53 ++ (([v49]) ++ cs54)] : List (List Value)), List.length e = 73 := by
   intro e he; simp only [List.mem_cons, List.not_mem_nil, or_false] at he
   rcases he with rfl
   ·exact (Zw hO53.len (Zw rfl hO54.len))
  have hoks56 : ∀ e ∈ ([cs53 ++ (([v49]) ++ cs54)] : List (List Value)), okc e := by
   intro e he; simp only [List.mem_cons, List.not_mem_nil, or_false] at he
   rcases he with rfl
   ·exact (ZN hO53.ok (ZN (Zk hv49.one Zq) hO54.ok))
  refine JLr (ZA (i := 7) (n := 1) (es' := [cs53 ++ (([v49]) ++ cs54)]) Tryz.runUnderlying30 Tryz.runUnderlying30 (Or.inl rfl) el85 rfl rfl rfl ho3 (fun F w m => Src.row (((At.k 0 rfl (by rw [hk55]; exact List.mem_cons_self))).heap m) (Zt (Zz hlens56))) rfl hlens56 hoks56 (by decide) (by first | omega | (simp only [ZT, List.length_append]; omega)) fun v56 k56 ho56 => JLq (pp b3 36) (fa32_5 rfl rfl) <| JLr (Zd 6 (vs := [v56]) (l := pkN kind ((if kind = 1 then 0 else num)) ref mv w v56) ty30 rfl rfl rfl (ZK ho56.one) rfl (Zk ho56.one Zq) (pkN_s36 ..) <| Zb <| Za <| JLn (Pu.inc rfl rfl (by omega)) <| JLM rfl <| Zb <| ⟨_, ?_, (j + 1), v56, (es2 ++ [cs53 ++ (([v49]) ++ cs54)]), k56, (k5 ++ (k53 ++ (l49 ++ k54))), rfl, rfl, rfl, rfl, rfl, rfl, (Sd (Sub.cons 5 rfl (Sub.cons 5 rfl (Sub.join4 (Sub.cons 5 rfl (Sub.cons 1 rfl (Sub.cons 2 rfl (Sk (Sd (Sd (Sk (Sk (Sk (Sk (Sk Sub.nil))))))))))))))), ?_, ?_, ?_, rfl⟩))
  ·omega
  ·omega
  ·exact ho56
  rw [nmCs_take s cases j h46n]; exact ONCs.snoc hO53 hv49 (by rw [Yd]; omega) hO54 hopw
 replace h46 := df h46
 have h46n : cases.length ≤ j := by omega
 refine Zy _ rfl <| Zc <| Za <| JLr (Zg Ya rfl (At.bx 0 rfl) (XA ..) <| JLr (Zd 6 (vs := pkN kind ((if kind = 1 then 0 else num)) ref mv w y) (l := pkN kind ((if kind = 1 then 0 else num)) ref mv w y) Ya rfl rfl rfl rfl rfl (YZ ho1.one ho2.one ho3.one) (pkN_s ..) <| Zb <| Zh <| ⟨.agg ⟨pkN kind ((if kind = 1 then 0 else num)) ref mv w y⟩, [k1 ++ (k2 ++ (k3 ++ (k4 ++ k5)))], Ret.one rfl (RV.cell Ya rfl (At.bx 6 rfl) (XA ..)), (Sub.join5 (Sd (Sub.cons 2 rfl (Sub.cons 2 rfl (Sub.cons 2 rfl (Sk (Sk Sub.nil))))))), ?_⟩))
 rw [List.take_of_length_le h46n] at hopw
 have hl0 := nmNs_le kind s kids 0
 have hvl := vN_len kind num s
 exact ⟨_, _, rfl, rfl, by rw [nmT]; exact ON_mk.2 ⟨_, _, _, _, _, _, _, _, _, _, rfl, hk, by split <;> first | exact hn | (unfold inI; omega), ho1, ho2, hop, ho3, hopw, rfl, by rw [List.length_append]; omega, by rw [nmKs_len]; omega, by rw [nmCs_len]; omega⟩⟩
end Go.Proofs.YtmophpgiaiemhaaGreat.Hs
/-! Walks, printed by a program of this session's own (gen.py). -/
namespace Go.Proofs.YtmophpgiaiemhaaGreat.Hs
open Go Go.Proofs
set_option maxRecDepth 100000
set_option linter.unusedVariables false
set_option linter.unusedSimpArgs false
attribute [local irreducible] JL J CT wlo DT
theorem idxNCp_ct (g : Nat) (fs cv : List Value) (hcall : ∀ args w, (callFunc g args).run Tryz.prog w = .ok (.enter g args) w) (pr : (Pt × List ByteArray × Nm) → Bool) (l : List (Pt × List ByteArray × Nm)) (v : Value) (H : Heap) (hl : Hs.rdS RNC 73 H v l) (hg : ∀ x ∈ l, ∀ a h, Hle H h → RNC h a x → CT Tryz.prog g ⟨fs ++ [.agg ⟨a⟩] ++ cv⟩ [] h (fun v N => v = .bool (pr x) ∧ N = [])) : CT Tryz.prog 93 ⟨[v, .func (.func g) ⟨fs⟩ ⟨cv⟩]⟩ [] H (fun v N => v = iv (fstA pr l 0) ∧ N = []) := by
 refine Zm Tryz.func93 rfl rfl <| Zc <| Za <| JLA rfl <| Zb <| Zc <| Zc <| Za <| JLm v ?_
 obtain ⟨a1, cap1, hv1⟩ := hl.sl
 have hle1 := hl.le
 refine JLn (Pu.lenSl Tryz.runUnderlying30 hv1) <| JLM rfl <| Zb <| Zl <| ZE (fun k ρ M => ∃ (j : Nat), ρ 0 = v ∧ ρ 1 = .func (.func g) ⟨fs⟩ ⟨cv⟩ ∧ ρ 4 = iv 0 ∧ ρ 7 = iv ((l.length : Int)) ∧ ρ 8 = iv ((j : Int)) ∧ Sub [] M ∧ j ≤ l.length ∧ fstA pr (l.drop j) j = fstA pr l 0 ∧ k = l.length - j) _ ⟨0, rfl, rfl, rfl, rfl, rfl, Sub.nil, Nat.zero_le _, rfl, rfl⟩ ?_
 rintro _ ρ2 _ ⟨j, e3, e4, e5, e6, e7, hm8, hj, hinv, rfl⟩
 obtain ⟨ρ9, rfl⟩ := Zr (uc e3 (uc e4 (uc e5 (uc e6 (uc e7 un)))))
 clear e3 e4 e5 e6 e7
 refine ZJ hm8 <| Zc <| Za <| JLn (Pu.lss rfl rfl) <| Zb <| Zc <| Zf rfl (fun h10 => ?_) (fun h10 => ?_)
 ·replace h10 := dt h10
  have h10n : j < l.length := by omega
  have hlenl := hl.le
  refine Zi <| Zc <| Zl <| Zc <| Za <| JLM rfl <| JLA rfl <| Zb <| Zc <| Za <| JLM rfl <| JLm v <| JLM rfl ?_
  obtain ⟨b11, o11, cap11, row11, T11, fr11, cs11, hv11, hb11, hs11, hE11⟩ := hl.get j (by first | assumption | omega | decide | simp)
  obtain ⟨ca11, va11, cb11, rfl, hA11, hV11, hB11⟩ := hE11
  refine JLq (pp b11 (o11 + j * 73)) (Pu.idx j Tryz.runUnderlying30 ty85 hv11 rfl rfl (by first | assumption | omega | decide | simp)) <| JLr (Zg ty85 rfl (At.im hb11) hs11 <| Jc hcall rfl (fun hin => hg _ (List.getElem_mem h10n) _ _ (Hle.hu _ _) (RNC.mono (Hle.hu _ _) (RNC_mk hA11 hV11 hB11))) rfl ?_)
  rintro _ _ ⟨rfl, rfl⟩
  refine Zb <| Zf rfl (fun h12 => ?_) (fun h12 => ?_)
  ·refine Zc <| Za <| JLM rfl <| JLA rfl <| Zb <| Zh <| ⟨iv ((j : Int)), [], Ret.one rfl (RV.tmp rfl), Sub.nil, ?_⟩
   exact ⟨by rw [← hinv, ZU h10n, fstA, if_pos h12], rfl⟩
  refine Zi <| Za <| JLn (Pu.inc rfl rfl (by omega)) <| JLM rfl <| Zb <| ⟨_, ?_, (j + 1), rfl, rfl, rfl, rfl, rfl, Sub.nil, ?_, ?_, rfl⟩
  ·omega
  ·omega
  rw [ZU h10n, fstA, if_neg (by simp [h12])] at hinv; exact hinv
 replace h10 := df h10
 have h10n : l.length ≤ j := by omega
 refine Zy _ rfl <| Zc <| Za <| JLA rfl <| Zb <| Zh <| ⟨iv (-1), [], Ret.one rfl (RV.tmp rfl), Sub.nil, ?_⟩
 exact ⟨by rw [← hinv, Yt h10n]; rfl, rfl⟩
theorem containsNCp_ct (g : Nat) (fs cv : List Value) (hcall : ∀ args w, (callFunc g args).run Tryz.prog w = .ok (.enter g args) w) (pr : (Pt × List ByteArray × Nm) → Bool) (l : List (Pt × List ByteArray × Nm)) (v : Value) (H : Heap) (hl : Hs.rdS RNC 73 H v l) (hg : ∀ x ∈ l, ∀ a h, Hle H h → RNC h a x → CT Tryz.prog g ⟨fs ++ [.agg ⟨a⟩] ++ cv⟩ [] h (fun v N => v = .bool (pr x) ∧ N = [])) : CT Tryz.prog 39 ⟨[v, .func (.func g) ⟨fs⟩ ⟨cv⟩]⟩ [] H (fun v N => v = .bool (l.any pr) ∧ N = []) := by
 refine Zm Tryz.func39 rfl rfl <| Zc <| Za <| JLA rfl <| Zb <| Zc <| Za <| JLm v <| JLM rfl <| Jc Tryz.call93 rfl (fun hin => idxNCp_ct g fs cv hcall pr _ _ _ (RNCs.mono (Hle.hu _ _) hl) (fun x hx a h hh ra => hg x hx a h (Hle.trans (Hle.hu _ _) hh) ra)) rfl ?_
 rintro _ _ ⟨rfl, rfl⟩
 refine JLn (Pu.geq rfl rfl) <| JLA rfl <| Zb <| Zh <| ⟨.bool (decide (0 ≤ fstA pr l 0)), [], Ret.one rfl (RV.tmp rfl), Sub.nil, ?_⟩
 exact ⟨by rw [← fstA_any pr l 0], rfl⟩
theorem every1NC_ct (g : Nat) (fs cv : List Value) (hcall : ∀ args w, (callFunc g args).run Tryz.prog w = .ok (.enter g args) w) (pr : (Pt × List ByteArray × Nm) → Bool) (x : Pt × List ByteArray × Nm) (a : List Value) (H : Heap) (bP : Nat) (hx : RNC H a x) (hP : H bP = some (.cells ⟨[.func (.func g) ⟨fs⟩ ⟨cv⟩]⟩ 89 (0, 0))) (hg : ∀ a h, Hle H h → RNC h a x → CT Tryz.prog g ⟨fs ++ [.agg ⟨a⟩] ++ cv⟩ [] h (fun v N => v = .bool (pr x) ∧ N = [])) : CT Tryz.prog 144 ⟨[.agg ⟨a⟩, pp bP 0]⟩ [] H (fun v N => v = .bool (!pr x) ∧ N = []) := by
 refine Zm Tryz.func144 rfl rfl <| Zc <| Za <| JLr (Zo (l := a) rfl rfl fun b1 => JLA rfl <| Zb <| Zc <| Za <| JLr (Ze ty89 rfl (At.im hP) rfl <| JLr (Zg ty85 rfl (At.bx 0 rfl) (Zt (RNC_len hx)) <| Jc hcall rfl (fun hin => hg _ _ (Hle.hu _ _) (RNC.mono (Hle.hu _ _) hx)) rfl ?_)))
 rintro _ _ ⟨rfl, rfl⟩
 refine JLn (Pu.not rfl) <| JLA rfl <| Zb <| Zh <| ⟨.bool (!(pr x)), [], Ret.one rfl (RV.tmp rfl), Sub.nil, ?_⟩
 exact ⟨rfl, rfl⟩
theorem everyNC_ct (g : Nat) (fs cv : List Value) (hcall : ∀ args w, (callFunc g args).run Tryz.prog w = .ok (.enter g args) w) (pr : (Pt × List ByteArray × Nm) → Bool) (l : List (Pt × List ByteArray × Nm)) (v : Value) (H : Heap) (hl : Hs.rdS RNC 73 H v l) (hg : ∀ x ∈ l, ∀ a h, Hle H h → RNC h a x → CT Tryz.prog g ⟨fs ++ [.agg ⟨a⟩] ++ cv⟩ [] h (fun v N => v = .bool (pr x) ∧ N = [])) : CT Tryz.prog 119 ⟨[v, .func (.func g) ⟨fs⟩ ⟨cv⟩]⟩ [] H (fun v N => v = .bool (l.all pr) ∧ N = []) := by
 refine Zm Tryz.func119 rfl rfl <| Zc <| Za <| JLr (Zo (l := [.func (.func g) ⟨fs⟩ ⟨cv⟩]) rfl rfl fun b1 => JLA rfl <| Zb <| Zc <| Za <| JLm v <| JLq (.func (.func 144) ⟨[]⟩ ⟨[pp b1 0]⟩) (Pu.makeFunc rfl rfl) <| Jc Tryz.call39 rfl (fun hin => containsNCp_ct 144 [] [pp b1 0] Tryz.call144 (fun x => !pr x) _ _ _ (RNCs.mono (Hle.hu _ _) hl) (fun x hx a h hh ra => every1NC_ct g fs cv hcall pr x a h b1 ra (hh _ _ (hin 0 _ rfl _ _ List.mem_cons_self)) (fun a2 h2 hh2 ra2 => hg x hx a2 h2 (Hle.trans (Hle.trans (Hle.hu _ _) hh) hh2) ra2))) rfl ?_)
 rintro _ _ ⟨rfl, rfl⟩
 refine JLn (Pu.not rfl) <| JLA rfl <| Zb <| Zh <| ⟨.bool (!(l.any (fun x => !pr x))), [], Ret.one rfl (RV.tmp rfl), Sub.nil, ?_⟩
 exact ⟨by simp [List.not_any_eq_all_not], rfl⟩
theorem manyN_ct : ∀ (n : Nm) (cs : List Value) (H : Heap), RN H cs n → n.kids.length ≤ 1000000 → CT Tryz.prog 118 ⟨[.agg ⟨cs⟩]⟩ [] H (fun v N => v = iv (Ys n.kind n.kids.length) ∧ N = []) := by
 intro n cs H hn_ hkl
 obtain ⟨nv, ks, cv, rfl, hk, hn, hns, hks, hcv⟩ := RN_open hn_
 refine Zm Tryz.func118 rfl rfl <| Zc <| Za <| JLr (Zo (l := pkN (n.kind) (n.num) (n.ref) nv ks cv) rfl rfl fun b1 => JLA rfl <| Zb <| Zc <| Zc <| Za <| JLq (pp b1 35) (Xd rfl rfl) <| JLr (Ze ty29 rfl (At.bx 0 rfl) (Xa ..) ?_))
 obtain ⟨a2, cap2, hv2⟩ := hks.sl
 have hle2 := hks.le
 refine JLn (Pu.lenSl Tryz.runUnderlying29 hv2) <| JLA rfl <| Zb <| Zl <| Zc <| Zc <| Za <| JLq (pp b1 0) (fa32_0 rfl rfl) <| JLr (Ze ty3 rfl (At.bx 0 rfl) (pkN_0 ..) <| JLn (Pu.eql rfl rfl) <| JLA rfl <| Zb <| Zf rfl (fun h3 => ?_) (fun h3 => ?_))
 ·replace h3 := dt h3
  refine Zi <| Zf rfl (fun _ => ?_) (fun h4 => absurd h3 (df h4))
  refine Zc <| Za <| JLA rfl <| Zb <| Zh <| ⟨iv 1, [], Ret.one rfl (RV.tmp rfl), Sub.nil, ?_⟩
  exact ⟨congrArg (Value.int .i64) (by simp only [Ys]; (repeat' split) <;> first | rfl | omega | (exfalso; simp_all; done) | (exfalso; simp_all; omega)), rfl⟩
 replace h3 := df h3
 refine Zc <| Za <| JLq (pp b1 0) (fa32_0 rfl rfl) <| JLr (Ze ty3 rfl (At.bx 0 rfl) (pkN_0 ..) <| JLn (Pu.eql rfl rfl) <| JLA rfl <| Zb <| Zf rfl (fun h5 => ?_) (fun h5 => ?_))
 ·replace h5 := dt h5
  refine Zi <| Zf rfl (fun _ => ?_) (fun h6 => absurd h5 (df h6))
  refine Zc <| Za <| JLA rfl <| Zb <| Zh <| ⟨iv 1, [], Ret.one rfl (RV.tmp rfl), Sub.nil, ?_⟩
  exact ⟨congrArg (Value.int .i64) (by simp only [Ys]; (repeat' split) <;> first | rfl | omega | (exfalso; simp_all; done) | (exfalso; simp_all; omega)), rfl⟩
 replace h5 := df h5
 refine Za <| JLq (pp b1 0) (fa32_0 rfl rfl) <| JLr (Ze ty3 rfl (At.bx 0 rfl) (pkN_0 ..) <| JLn (Pu.eql rfl rfl) <| JLA rfl <| Zb <| Zf rfl (fun h7 => ?_) (fun h7 => ?_))
 ·replace h7 := dt h7
  refine Zc <| Za <| JLA rfl <| Zb <| Zh <| ⟨iv 1, [], Ret.one rfl (RV.tmp rfl), Sub.nil, ?_⟩
  exact ⟨congrArg (Value.int .i64) (by simp only [Ys]; (repeat' split) <;> first | rfl | omega | (exfalso; simp_all; done) | (exfalso; simp_all; omega)), rfl⟩
 replace h7 := df h7
 refine Zc <| Za <| JLq (pp b1 0) (fa32_0 rfl rfl) <| JLr (Ze ty3 rfl (At.bx 0 rfl) (pkN_0 ..) <| JLn (Pu.eql rfl rfl) <| JLM rfl ?_)
 cases h8 : (decide (n.kind = 12)) with
 | true =>
  replace h8 := dt h8
  refine JLM rfl <| JLn (Pu.gtr rfl rfl) <| JLq (.bool (decide (1 < ((n.kids).length : Int)))) (Pu.pickT rfl rfl) <| JLA rfl <| Zb <| Zf rfl (fun h9 => ?_) (fun h9 => ?_)
  ·replace h9 := dt h9
   refine Zc <| Za <| JLM rfl <| JLq (iv (2 * ((n.kids).length : Int))) (Pu.arithM rfl rfl (w64 (by omega))) <| JLn (Pu.sub64 rfl rfl (by first | omega | (constructor <;> omega))) <| JLA rfl <| Zb <| Zh <| ⟨iv (2 * ((n.kids).length : Int) - 3), [], Ret.one rfl (RV.tmp rfl), Sub.nil, ?_⟩
   exact ⟨congrArg (Value.int .i64) (by simp only [Ys]; (repeat' split) <;> first | rfl | omega | (exfalso; simp_all; done) | (exfalso; simp_all; omega)), rfl⟩
  replace h9 := df h9
  refine Zi <| Zc <| Za <| JLA rfl <| Zb <| Zh <| ⟨iv 0, [], Ret.one rfl (RV.tmp rfl), Sub.nil, ?_⟩
  exact ⟨congrArg (Value.int .i64) (by simp only [Ys]; (repeat' split) <;> first | rfl | omega | (exfalso; simp_all; done) | (exfalso; simp_all; omega)), rfl⟩
 | false =>
  replace h8 := df h8
  iterate 2 refine ZC rfl ?_
  refine JLq (.bool false) (Pu.pickF rfl rfl) <| JLA rfl <| Zb <| Zf (b := false) rfl (fun h => absurd h (by simp)) (fun _ => Zi <| Zc <| Za <| JLA rfl <| Zb <| Zh <| ⟨iv 0, [], Ret.one rfl (RV.tmp rfl), Sub.nil, ?_⟩)
  exact ⟨congrArg (Value.int .i64) (by simp only [Ys]; (repeat' split) <;> first | rfl | omega | (exfalso; simp_all; done) | (exfalso; simp_all; omega)), rfl⟩
theorem fits_ct (c : Pt × List ByteArray × Nm) (ca cb : List Value) (va : Value) (H : Heap) (ra1 : RP H ca c.1) (ra2 : Hs.rdS RS 1 H va c.2.1) (ra3 : RN H cb c.2.2) (hb : binds c.1 ≤ 1000000) : CT Tryz.prog 117 ⟨[.agg ⟨ca ++ (([va]) ++ cb)⟩]⟩ [] H (fun v N => v = .bool (fitC c) ∧ N = []) := by
 refine Zm Tryz.func117 rfl rfl <| Zc <| Za <| JLr (Zo (l := ca ++ (([va]) ++ cb)) rfl rfl fun b1 => JLA rfl <| Zb <| Zc <| ZF mixed #[0, 1, 3, 0, 8, 24, 63, 127] 6 [some 3, some 4, some 5, some 6, some 7, some 8] [] [(5, fun _ _ vw qw => vw = iv ((binds (c.1) : Int)) ∧ qw = [])] rfl (by kernel_rfl) rfl (by kernel_rfl) <| Dq (pp b1 35) (fun _ => fa85_1 rfl rfl) <| Dl1 Yy (At.bx 0 rfl) (get_r (n := 35) (i := 0) (Zu ra1) rfl) ?_)
 obtain ⟨a3, cap3, hv3⟩ := ra2.sl
 have hle3 := ra2.le
 refine Dn (fun _ => Pu.lenSl Tryz.runUnderlying28 hv3) <| Dq (pp b1 0) (fun _ => fa85_0 rfl rfl) <| Dl Z6 (At.bx 0 rfl) (YE (Zu ra1)) <| Dc rfl Tryz.call112 (fun _ => rfl) (fun hin => binds_ct _ _ _ (RP.mono (Hle.hu _ _) ra1) (by omega)) ?_
 rintro _ _ ⟨rfl, rfl⟩
 refine ZL (M' := [(BX b1 (ca ++ (([va]) ++ cb)) 85)]) rfl ?_
 show JL _ _ _ [_, _] _ _ _
 refine JLn (Pu.eql rfl rfl) <| JLA rfl <| Zb <| Zh <| ⟨.bool (decide (((c.2.1).length : Int) = (binds (c.1) : Int))), [], Ret.one rfl (RV.tmp rfl), Sub.nil, ?_⟩
 exact ⟨by rw [fitC]; congr 1; rw [decide_eq_decide]; omega, rfl⟩
theorem idxSc_ct (l : List ByteArray) (x : ByteArray) (v : Value) (H : Heap) (hl : Hs.rdS RS 1 H v l) : CT Tryz.prog 120 ⟨[v, .string x]⟩ [] H (fun v N => v = iv (YN x l 0) ∧ N = []) := by
 refine Zm Tryz.func120 rfl rfl <| Zc <| Za <| JLA rfl <| Zb <| Zc <| Zc <| Za <| JLm v ?_
 obtain ⟨a1, cap1, hv1⟩ := hl.sl
 have hle1 := hl.le
 refine JLn (Pu.lenSl Tryz.runUnderlying111 hv1) <| JLM rfl <| Zb <| Zl <| ZE (fun k ρ M => ∃ (j : Nat), ρ 0 = v ∧ ρ 1 = .string x ∧ ρ 4 = iv 0 ∧ ρ 7 = iv ((l.length : Int)) ∧ ρ 8 = iv ((j : Int)) ∧ Sub [] M ∧ j ≤ l.length ∧ YN x (l.drop j) j = YN x l 0 ∧ k = l.length - j) _ ⟨0, rfl, rfl, rfl, rfl, rfl, Sub.nil, Nat.zero_le _, rfl, rfl⟩ ?_
 rintro _ ρ2 _ ⟨j, e3, e4, e5, e6, e7, hm8, hj, hinv, rfl⟩
 obtain ⟨ρ9, rfl⟩ := Zr (uc e3 (uc e4 (uc e5 (uc e6 (uc e7 un)))))
 clear e3 e4 e5 e6 e7
 refine ZJ hm8 <| Zc <| Za <| JLn (Pu.lss rfl rfl) <| Zb <| Zc <| Zf rfl (fun h10 => ?_) (fun h10 => ?_)
 ·replace h10 := dt h10
  have h10n : j < l.length := by omega
  have hlenl := hl.le
  refine Zi <| Zc <| Zl <| Zc <| Za <| JLM rfl <| JLA rfl <| Zb <| Zc <| Za <| JLM rfl <| JLm v <| JLM rfl ?_
  obtain ⟨b11, o11, cap11, row11, T11, fr11, cs11, hv11, hb11, hs11, hE11⟩ := hl.get j (by first | assumption | omega | decide | simp)
  refine JLq (pp b11 (o11 + j * 1)) (Pu.idx j Tryz.runUnderlying111 ty9 hv11 rfl rfl (by first | assumption | omega | decide | simp)) <| JLr (Ze ty9 rfl (At.im hb11) (Yi ((show cs11 = [Value.string (l[j])] from hE11) ▸ hs11)) <| JLn (Pu.eqlS rfl rfl) <| Zb <| Zf rfl (fun h12 => ?_) (fun h12 => ?_))
  ·replace h12 := dt h12
   refine Zc <| Za <| JLM rfl <| JLA rfl <| Zb <| Zh <| ⟨iv ((j : Int)), [], Ret.one rfl (RV.tmp rfl), Sub.nil, ?_⟩
   exact ⟨by rw [← hinv, ZU h10n, YN, if_pos h12], rfl⟩
  replace h12 := df h12
  refine Zi <| Za <| JLn (Pu.inc rfl rfl (by omega)) <| JLM rfl <| Zb <| ⟨_, ?_, (j + 1), rfl, rfl, rfl, rfl, rfl, Sub.nil, ?_, ?_, rfl⟩
  ·omega
  ·omega
  rw [ZU h10n, YN, if_neg h12] at hinv; exact hinv
 replace h10 := df h10
 have h10n : l.length ≤ j := by omega
 refine Zy _ rfl <| Zc <| Za <| JLA rfl <| Zb <| Zh <| ⟨iv (-1), [], Ret.one rfl (RV.tmp rfl), Sub.nil, ?_⟩
 exact ⟨by rw [← hinv, Yt h10n]; rfl, rfl⟩
end Go.Proofs.YtmophpgiaiemhaaGreat.Hs
/-! Walks, printed by a program of this session's own (gen.py). -/
namespace Go.Proofs.YtmophpgiaiemhaaGreat.Hs
open Go Go.Proofs
set_option maxRecDepth 100000
set_option linter.unusedVariables false
set_option linter.unusedSimpArgs false
attribute [local irreducible] JL J CT wlo DT
theorem hasR_ct (s : List ByteArray) (x : ByteArray) (v : Value) (H : Heap) (hs : Hs.rdS RS 1 H v s) : CT Tryz.prog 55 ⟨[v, .string x]⟩ [] H (fun v N => v = .bool (hasN s x) ∧ N = []) := by
 refine Zm Tryz.func55 rfl rfl <| Zc <| Za <| JLA rfl <| Zb <| Zc <| Zc <| Za <| JLA rfl <| Zb <| Zl <| ZE (fun k ρ M => ∃ (j : Nat), ρ 0 = v ∧ ρ 1 = .string x ∧ ρ 4 = .bool false ∧ ρ 5 = iv ((j : Int)) ∧ Sub [] M ∧ j ≤ s.length ∧ hasN (s.drop j) x = hasN s x ∧ k = s.length - j) _ ⟨0, rfl, rfl, rfl, rfl, Sub.nil, Nat.zero_le _, rfl, rfl⟩ ?_
 rintro _ ρ1 _ ⟨j, e2, e3, e4, e5, hm6, hj, hinv, rfl⟩
 obtain ⟨ρ7, rfl⟩ := Zr (uc e2 (uc e3 (uc e4 (uc e5 un))))
 clear e2 e3 e4 e5
 refine ZJ hm6 <| Zc <| Zc <| Za <| JLM rfl <| JLm v ?_
 obtain ⟨a8, cap8, hv8⟩ := hs.sl
 have hle8 := hs.le
 refine JLn (Pu.lenSl Tryz.runUnderlying28 hv8) <| JLn (Pu.lss rfl rfl) <| Zb <| Zf rfl (fun h9 => ?_) (fun h9 => ?_)
 ·replace h9 := dt h9
  have h9n : j < s.length := by omega
  have hlenl := hs.le
  refine Zi <| Zc <| Zl <| Zc <| Za <| JLm v <| JLM rfl ?_
  obtain ⟨b10, o10, cap10, row10, T10, fr10, cs10, hv10, hb10, hs10, hE10⟩ := hs.get j (by first | assumption | omega | decide | simp)
  refine JLq (pp b10 (o10 + j * 1)) (Pu.idx j Tryz.runUnderlying28 ty9 hv10 rfl rfl (by first | assumption | omega | decide | simp)) <| JLr (Ze ty9 rfl (At.im hb10) (Yi ((show cs10 = [Value.string (s[j])] from hE10) ▸ hs10)) <| JLM rfl <| JLn (Pu.eqlS rfl rfl) <| Zb <| Zf rfl (fun h11 => ?_) (fun h11 => ?_))
  ·replace h11 := dt h11
   refine Zc <| Za <| JLA rfl <| Zb <| Zh <| ⟨.bool true, [], Ret.one rfl (RV.tmp rfl), Sub.nil, ?_⟩
   exact ⟨by rw [← hinv, ZU h9n]; simp only [hasN, List.any_cons]; rw [show decide (s[j] = x) = true from decide_eq_true h11]; rfl, rfl⟩
  replace h11 := df h11
  refine Zi <| Za <| JLM rfl <| JLn (Pu.inc rfl rfl (by omega)) <| JLA rfl <| Zb <| ⟨_, ?_, (j + 1), rfl, rfl, rfl, rfl, Sub.nil, ?_, ?_, rfl⟩
  ·omega
  ·omega
  rw [ZU h9n] at hinv; rw [← hinv]; simp only [hasN, List.any_cons]; rw [show decide (s[j] = x) = false from decide_eq_false h11, Bool.false_or]
 replace h9 := df h9
 have h9n : s.length ≤ j := by omega
 refine Zy _ rfl <| Zc <| Za <| JLA rfl <| Zb <| Zh <| ⟨.bool false, [], Ret.one rfl (RV.tmp rfl), Sub.nil, ?_⟩
 exact ⟨by rw [← hinv, Yt h9n]; rfl, rfl⟩
theorem nth_ct (n : Nat) (hn : n ≤ 1000000000) (H : Heap) : CT Tryz.prog 132 ⟨[iv ((n : Int))]⟩ [] H (fun v N => v = .string (YG n) ∧ N = []) := by
 have hsz := nameS_size n
 refine Zm Tryz.func132 rfl rfl <| Zc <| Za <| JLA rfl <| Zb <| Zc <| Za <| JLA rfl <| Zb <| Zc <| Zc <| Za <| JLM rfl ?_
 refine JLn (Pu.inc rfl rfl (by omega)) <| JLA rfl <| Zb <| Zl <| ZE (fun k ρ M => ∃ (m : Nat) (s : ByteArray), ρ 0 = iv ((m : Int)) ∧ ρ 2 = .string (⟨#[]⟩) ∧ ρ 3 = .string s ∧ Sub [] M ∧ nmB m ++ s = YG n ∧ m ≤ n + 1 ∧ k = m + 1) _ ⟨(n + 1), ⟨#[]⟩, rfl, rfl, rfl, Sub.nil, (by apply ByteArray.ext; simp [nmB, ByteArray.data_append]), (Nat.le_refl _), rfl⟩ ?_
 rintro _ ρ1 _ ⟨m, s, e2, e3, e4, hm5, hinv, hm, rfl⟩
 obtain ⟨ρ6, rfl⟩ := Zr (uc e2 (uc e3 (uc e4 un)))
 clear e2 e3 e4
 refine ZJ hm5 <| Zc <| Zc <| Za <| JLM rfl <| JLn (Pu.gtr rfl rfl) <| Zb <| Zf rfl (fun h7 => ?_) (fun h7 => ?_)
 ·replace h7 := dt h7
  refine Zi <| Zc <| Zl <| Zc <| Za <| JLM rfl <| JLq (iv (((m - 1 : Nat) : Int))) (Pu.arithS rfl rfl ((w64 (by omega)).trans (by omega))) <| JLq (iv ((((m - 1) % 26 : Nat) : Int))) (Pu.rem rfl rfl (by decide) rfl) <| JLA rfl <| Zb <| Za <| JLM rfl <| JLM rfl ?_
  refine JLn (Pu.add64 rfl rfl (by first | omega | (constructor <;> omega))) <| JLq (.string (ltr ((m - 1) % 26))) (abc_cut ((m - 1) % 26) (by omega) ▸ Pu.cutS (s := abcS) ((m - 1) % 26) (((m - 1) % 26) + 1) Tryz.runUnderlying9 rfl rfl rfl (by omega) (by omega) (by rw [abc_size]; omega)) <| JLM rfl <| JLq (.string (ltr ((m - 1) % 26) ++ s)) (Pu.addS rfl rfl (by rw [ltr_size]; have := nmB_size hinv; omega)) <| JLA rfl <| Zb <| Za <| JLM rfl <| JLq (iv (((m - 1 : Nat) : Int))) (Pu.arithS rfl rfl ((w64 (by omega)).trans (by omega))) <| JLq (iv ((((m - 1) / 26 : Nat) : Int))) (Pu.quo rfl rfl (by decide) ((congrArg IntKind.i64.wrap (show Int.tdiv ((m - 1 : Nat) : Int) 26 = (((m - 1) / 26 : Nat) : Int) from rfl)).trans (w64 (by omega)))) <| JLA rfl <| Zb <| ⟨_, ?_, (m - 1) / 26, ltr ((m - 1) % 26) ++ s, rfl, rfl, rfl, Sub.nil, ?_, ?_, rfl⟩
  ·omega
  ·rw [nmB_step (by omega)]; exact hinv
  omega
 replace h7 := df h7
 refine Zy _ rfl <| Zc <| Za <| JLM rfl <| JLA rfl <| Zb <| Zh <| ⟨.string s, [], Ret.one rfl (RV.tmp rfl), Sub.nil, ?_⟩
 rw [show m = 0 from by omega] at hinv
 exact ⟨by rw [nmB_zero hinv], rfl⟩
theorem chosenR_ct (s : List ByteArray) (many : Nat) (v : Value) (H : Heap) (hs : Hs.rdS RS 1 H v s) (hb : s.length + many ≤ 1000000) : CT Tryz.prog 97 ⟨[v, iv ((many : Int))]⟩ [] H (fun v N => ∃ u k, v = u ∧ N = [k] ∧ Own 9 1 u (Z0 (ZX s many)) k) := by
 refine Zm Tryz.func97 rfl rfl <| Zc <| Za <| JLA rfl <| Zb <| Zc <| Za <| JLA rfl <| Zb <| Zc <| Zc <| Za <| JLA rfl ?_
 refine Zb <| Zl <| ZE (fun k ρ M => ∃ (n : Nat) (lq : List Bool) (w : Value) (os : List ByteArray) (k5 : Zj), ρ 0 = v ∧ ρ 1 = iv ((many : Int)) ∧ ρ 4 = nS ∧ ρ 5 = w ∧ ρ 6 = iv ((n : Int)) ∧ Sub [k5] M ∧ lq.length = s.length + many ∧ (∀ i, i < n → lq[i]? = some true) ∧ (∀ i, n ≤ i → lq[i]? = (mkA s (List.replicate (s.length + many) false))[i]?) ∧ os ++ pickN lq (many - os.length) = ZX s many ∧ cntT lq ≤ s.length + os.length ∧ os.length ≤ many ∧ Own 9 1 w (Z0 os) k5 ∧ n ≤ s.length + many ∧ k = s.length + many - n) _ ⟨0, (mkA s (List.replicate (s.length + many) false)), nS, [], [], rfl, rfl, rfl, rfl, rfl, (Sub.emp Sub.nil), (by rw [mkA_len, List.length_replicate]), (fun i hi => by omega), (fun i _ => rfl), rfl, (by have := cntT_mkA s (List.replicate (s.length + many) false); rw [cntT_rep] at this; simpa using this), (Nat.zero_le _), Own.nil, (Nat.zero_le _), rfl⟩ ?_
 rintro _ ρ1 _ ⟨n, lq, w, os, k5, e2, e3, e4, e5, e6, hm7, hlq, hse, hre, hpq, hcq, hol, ho5, hn, rfl⟩
 obtain ⟨ρ8, rfl⟩ := Zr (uc e2 (uc e3 (uc e4 (uc e5 (uc e6 un)))))
 clear e2 e3 e4 e5 e6
 refine ZJ hm7 <| Zc <| Zc <| Za <| JLm w ?_
 obtain ⟨a9, cap9, hv9⟩ := ho5.sl
 rw [ZT] at hv9
 refine JLn (Pu.lenSl Tryz.runUnderlying28 hv9) <| JLM rfl <| JLn (Pu.lss rfl rfl) <| Zb <| Zf rfl (fun h10 => ?_) (fun h10 => ?_)
 ·replace h10 := dt h10
  have hfl := ff_lt lq (by have := h10; omega)
  have hfg := ff_ge hse
  have hnN : n < s.length + many := by omega
  refine Zi <| Zc <| Zl <| Zc <| Za <| JLm v <| JLM rfl <| Jc Tryz.call132 rfl (fun hin => nth_ct n (by omega) _) rfl ?_
  rintro _ _ ⟨rfl, rfl⟩
  refine Jc Tryz.call55 rfl (fun hin => hasR_ct _ _ _ _ (RSs.mono (Hle.hu _ _) hs)) rfl ?_
  rintro _ _ ⟨rfl, rfl⟩
  refine JLn (Pu.not rfl) <| Zb <| Zf rfl (fun h11 => ?_) (fun h11 => ?_)
  ·replace h11 := nt h11
   refine Za <| JLm w <| JLM rfl <| Jc Tryz.call132 rfl (fun hin => nth_ct n (by omega) _) rfl ?_
   rintro _ _ ⟨rfl, rfl⟩
   refine JLr (Zp (vs := [.string (YG n)]) [[.string (YG n)]] Tryz.runUnderlying28 el9 rfl rfl (by intro e he; simp only [List.mem_cons, List.not_mem_nil, or_false] at he; subst he; exact rfl) rfl (by decide) fun b12 k12 ho12 hk12 => ?_)
   have hlens13 : ∀ e ∈ ([[.string (YG n)]] : List (List Value)), List.length e = 1 := by
    intro e he; simp only [List.mem_cons, List.not_mem_nil, or_false] at he
    rcases he with rfl
    ·exact rfl
   have hoks13 : ∀ e ∈ ([[.string (YG n)]] : List (List Value)), okc e := by
    intro e he; simp only [List.mem_cons, List.not_mem_nil, or_false] at he
    rcases he with rfl
    ·exact (Zk rfl Zq)
   refine JLr (ZA (i := 1) (n := 1) (es' := [[.string (YG n)]]) Tryz.runUnderlying28 Tryz.runUnderlying28 (Or.inl rfl) el9 rfl rfl rfl ho5 (fun F w m => Src.row (((At.k 0 rfl (by rw [hk12]; exact List.mem_cons_self))).heap m) (Zt (Zz hlens13))) rfl hlens13 hoks13 (by decide) (by simp only [ZT]; omega) fun v13 k13 ho13 => ?_)
   rw [← strs_snoc] at ho13
   refine JLa v13 <| Zb <| Za <| JLM rfl <| JLn (Pu.inc rfl rfl (by omega)) <| JLA rfl <| Zb <| ⟨_, ?_, (n + 1), (lq.set n true), v13, (os ++ [YG n]), k13, rfl, rfl, rfl, rfl, rfl, (Sd (Sk Sub.nil)), ?_, ?_, ?_, ?_, ?_, ?_, ?_, ?_, rfl⟩
   ·omega
   ·rw [List.length_set]; exact hlq
   ·exact seen_set hse (by omega)
   ·intro i hi; rw [List.getElem?_set_ne (by omega)]; exact hre i (by omega)
   ·have hfa := ff_at hse (by rw [hre n (Nat.le_refl _), mark_iff hnN (by omega), h11]); rw [show many - os.length = many - (os.length + 1) + 1 from by omega, pickN, hfa] at hpq; rw [List.append_assoc, List.length_append]; exact hpq
   ·have := cntT_set lq n; rw [List.length_append, List.length_singleton]; omega
   ·rw [List.length_append, List.length_singleton]; omega
   ·exact ho13
   omega
  replace h11 := nf h11
  refine Zi <| Za <| JLM rfl <| JLn (Pu.inc rfl rfl (by omega)) <| JLA rfl <| Zb <| ⟨_, ?_, (n + 1), lq, w, os, k5, rfl, rfl, rfl, rfl, rfl, (Sk Sub.nil), ?_, ?_, ?_, ?_, ?_, ?_, ?_, ?_, rfl⟩
  ·omega
  ·exact hlq
  ·exact seen_step hse (by rw [hre n (Nat.le_refl _), mark_iff hnN (by omega), h11])
  ·intro i hi; exact hre i (by omega)
  ·exact hpq
  ·exact hcq
  ·omega
  ·exact ho5
  omega
 replace h10 := df h10
 refine Zy _ rfl <| Zc <| Za <| JLm w <| JLa w <| Zb <| Zh <| ⟨w, [k5], Ret.one rfl (RV.tmp rfl), (Sk Sub.nil), ?_⟩
 have hoe : os = ZX s many := by rw [← hpq, show many - os.length = 0 from by omega]; simp [pickN]
 exact ⟨_, _, rfl, rfl, hoe ▸ ho5⟩
theorem frontR_ct (s m : List ByteArray) (v u : Value) (H : Heap) (hs : Hs.rdS RS 1 H v s) (hm : Hs.rdS RS 1 H u m) (hb : s.length + m.length ≤ 1000000) : CT Tryz.prog 99 ⟨[v, u]⟩ [] H (fun r N => ∃ u k, r = u ∧ N = [k] ∧ Own 9 1 u (Z0 (ZY s m)) k) := by
 refine Zm Tryz.func99 rfl rfl <| Zc <| Za <| JLA rfl <| Zb <| Zc <| Za <| JLA rfl <| Zb <| Zc <| Zc <| Za <| JLm u ?_
 obtain ⟨a1, cap1, hv1⟩ := hm.sl
 have hle1 := hm.le
 refine JLn (Pu.lenSl Tryz.runUnderlying28 hv1) <| JLn (Pu.sub64 rfl rfl (by first | omega | (constructor <;> omega))) <| JLA rfl <| Zb <| Zl <| ZE (fun k ρ M => ∃ (q : Nat) (w : Value) (k5 : Zj), ρ 0 = v ∧ ρ 1 = u ∧ ρ 4 = nS ∧ ρ 5 = w ∧ ρ 6 = iv (((q : Int) - 1)) ∧ Sub [k5] M ∧ q ≤ m.length ∧ Own 9 1 w (Z0 ((m.drop q).reverse)) k5 ∧ k = q + 1) _ ⟨m.length, nS, [], rfl, rfl, rfl, rfl, rfl, (Sub.emp Sub.nil), (Nat.le_refl _), (by rw [List.drop_length]; exact Own.nil), rfl⟩ ?_
 rintro _ ρ2 _ ⟨q, w, k5, e3, e4, e5, e6, e7, hm8, hq, ho5, rfl⟩
 obtain ⟨ρ9, rfl⟩ := Zr (uc e3 (uc e4 (uc e5 (uc e6 (uc e7 un)))))
 clear e3 e4 e5 e6 e7
 refine ZJ hm8 <| Zc <| Zc <| Za <| JLM rfl <| JLn (Pu.geq rfl rfl) <| Zb <| Zf rfl (fun h10 => ?_) (fun h10 => ?_)
 ·replace h10 := dt h10
  obtain ⟨p, rfl⟩ : ∃ p, q = p + 1 := ⟨q - 1, by omega⟩
  have hpm : p < m.length := by omega
  have hdl : (m.drop (p + 1)).length = m.length - (p + 1) := List.length_drop
  refine Zi <| Zc <| Zl <| Za <| JLm w <| JLm u <| JLM rfl ?_
  obtain ⟨b11, o11, cap11, row11, T11, fr11, cs11, hv11, hb11, hs11, hE11⟩ := hm.get p (by first | assumption | omega | decide | simp)
  refine JLq (pp b11 (o11 + p * 1)) (Pu.idx p Tryz.runUnderlying28 ty9 hv11 rfl (by first | rfl | omega) (by first | assumption | omega | decide | simp)) <| JLr (Ze ty9 rfl (At.im hb11) (Yi ((show cs11 = [Value.string (m[p])] from hE11) ▸ hs11)) <| JLr (Zp (vs := [.string (m[p])]) [[.string (m[p])]] Tryz.runUnderlying28 el9 rfl rfl (by intro e he; simp only [List.mem_cons, List.not_mem_nil, or_false] at he; subst he; exact rfl) rfl (by decide) fun b12 k12 ho12 hk12 => ?_))
  have hlens13 : ∀ e ∈ ([[.string (m[p])]] : List (List Value)), List.length e = 1 := by
   intro e he; simp only [List.mem_cons, List.not_mem_nil, or_false] at he
   rcases he with rfl
   ·exact rfl
  have hoks13 : ∀ e ∈ ([[.string (m[p])]] : List (List Value)), okc e := by
   intro e he; simp only [List.mem_cons, List.not_mem_nil, or_false] at he
   rcases he with rfl
   ·exact (Zk rfl Zq)
  refine JLr (ZA (i := 1) (n := 1) (es' := [[.string (m[p])]]) Tryz.runUnderlying28 Tryz.runUnderlying28 (Or.inl rfl) el9 rfl rfl rfl ho5 (fun F w m => Src.row (((At.k 0 rfl (by rw [hk12]; exact List.mem_cons_self))).heap m) (Zt (Zz hlens13))) rfl hlens13 hoks13 (by decide) (by first | (simp only [ZT, List.length_reverse, List.length_drop]; omega) | omega) fun v13 k13 ho13 => ?_)
  rw [← strs_snoc] at ho13
  refine JLa v13 <| Zb <| Za <| JLM rfl <| JLn (Pu.sub64 rfl rfl (by first | omega | (constructor <;> omega))) <| JLA rfl <| Zb <| ⟨_, ?_, p, v13, k13, rfl, rfl, rfl, rfl, (ieq rfl (by omega)), (Sd (Sk Sub.nil)), ?_, ?_, rfl⟩
  ·omega
  ·omega
  rw [List.drop_eq_getElem_cons hpm, List.reverse_cons]; exact ho13
 replace h10 := df h10
 refine Zy _ rfl <| Zc <| Za <| JLm w <| JLm v <| JLr (ZA (i := 0) (n := s.length) (es' := Z0 s) Tryz.runUnderlying28 Tryz.runUnderlying28 (Or.inl rfl) el9 rfl rfl rfl ho5 (fun F w m => strs_src hs w _ m) (ZT _) (strs_len1 _) (strs_ok _) (by decide) (by first | (simp only [ZT, List.length_reverse, List.length_drop]; omega) | omega) fun v14 k14 ho14 => ?_)
 rw [← strs_app] at ho14
 refine JLa v14 <| Zb <| Zh <| ⟨v14, [k14], Ret.one rfl (RV.tmp rfl), (Sk Sub.nil), ?_⟩
 obtain rfl : q = 0 := by omega
 exact ⟨_, _, rfl, rfl, ho14⟩
end Go.Proofs.YtmophpgiaiemhaaGreat.Hs
/-! The reference's chosen names, for a number; what is tidy. -/
namespace Go.Proofs.YtmophpgiaiemhaaGreat.Hs
open Go Go.Proofs
theorem chosenRI_ct (s : List ByteArray) (m : Int) (v : Value) (H : Heap) (hs : Hs.rdS RS 1 H v s) (h0 : 0 ≤ m) (hb : s.length + m.toNat ≤ 1000000) :
    CT Tryz.prog 97 ⟨[v, .int .i64 m]⟩ [] H (fun r N => ∃ u k, r = u ∧ N = [k] ∧ Own 9 1 u (Z0 (ZX s m.toNat)) k) := by
  have := chosenR_ct s m.toNat v H hs hb
  rwa [Int.toNat_of_nonneg h0] at this
theorem tidyK_mem {l : List Tm} (h : tidys l) : ∀ x ∈ l, tidy x := by
  induction l with
  | nil => intro x hx; cases hx
  | cons y l ih =>
    rw [tidys] at h
    intro x hx
    rcases List.mem_cons.1 hx with rfl | hx
    · exact h.1
    · exact ih h.2 x hx
theorem tidyC_mem {l : List (Pt × Tm)} (h : tidyc l) : ∀ x ∈ l, tidy x.2 := by
  induction l with
  | nil => intro x hx; cases hx
  | cons y l ih =>
    obtain ⟨p, t⟩ := y
    rw [tidyc] at h
    intro x hx
    rcases List.mem_cons.1 hx with rfl | hx
    · exact h.1
    · exact ih h.2 x hx
end Go.Proofs.YtmophpgiaiemhaaGreat.Hs
/-! Name, as the reference says it. -/
namespace Go.Proofs.YtmophpgiaiemhaaGreat.Hs
open Go Go.Proofs
theorem hasN_any (s : List ByteArray) (x : ByteArray) : hasN s x = s.any (fun y => decide (x = y)) := by
  unfold hasN
  congr 1
  funext y
  rw [decide_eq_decide]
  exact eq_comm
theorem getD_at {l : List Int} {n : Nat} (h : n < l.length) : l.getD n 0 = l[n] := by rw [List.getD_eq_getElem?_getD, List.getElem?_eq_getElem h]; rfl
theorem pairw_last {l : List Int} (h : l.Pairwise (· < ·)) (h0 : 0 < l.length) : ∀ x ∈ l, x ≤ l[l.length - 1] := by
  intro x hx
  obtain ⟨i, hi, rfl⟩ := List.getElem_of_mem hx
  by_cases e : i = l.length - 1
  · subst e; exact Int.le_refl _
  · exact Int.le_of_lt (List.pairwise_iff_getElem.1 h i (l.length - 1) hi (by omega) (by omega))
theorem upTo_sorted (f : List Bool) (j : Nat) : (upTo f j).Pairwise (· < ·) := by
  unfold upTo
  rw [List.pairwise_map]
  exact (List.pairwise_lt_range.filter _).imp (fun h => by omega)
theorem freeR_sorted (t : Tm) : (Xc t).Pairwise (· < ·) := upTo_sorted _ _
theorem freeR_le60 (t : Tm) : (Xc t).length ≤ 60 := upTo_len _ _
/-- the last one is not too great: none is -/
theorem free_last {t : Tm} (ht : tidy t) {n : Nat} (h : 0 < (Xc t).length → (Xc t).getD ((Xc t).length - 1) 0 < (n : Int)) : (XI t).all (fun x => decide (x < (n : Int))) = true := by
  rw [freeP_eq ht, List.all_eq_true]
  intro x hx
  have h0 : 0 < (Xc t).length := List.length_pos_of_mem hx
  have := pairw_last (freeR_sorted t) h0 x hx
  have := h h0
  rw [getD_at (by omega)] at this
  exact decide_eq_true (by omega)
theorem free_lastn {t : Tm} (ht : tidy t) {n : Nat} (h0 : 0 < (Xc t).length) (h : (n : Int) ≤ (Xc t).getD ((Xc t).length - 1) 0) : (XI t).all (fun x => decide (x < (n : Int))) = false := by
  rw [getD_at (by omega)] at h
  rw [freeP_eq ht, List.all_eq_false]
  exact ⟨_, List.getElem_mem (by omega : (Xc t).length - 1 < (Xc t).length), by simp; omega⟩
section
variable {t : Tm} {s : List ByteArray}
theorem nE_4 (h : ZS [t] = 0) (h1 : hasN s emS = true) : YJ t s = (zN, 4) := by rw [YJ, if_neg (fun q => q h), if_pos (by rw [← hasN_any]; exact h1)]
theorem nE_s (h1 : hasN s emS = false) : ¬ s.any (fun y => decide (emS = y)) = true := by rw [← hasN_any, h1]; decide
theorem nE_5 (h : ZS [t] = 0) (h1 : hasN s emS = false) {j : Nat} (hj : j < s.length) (h2 : hasN (s.take j) s[j] = true) : YJ t s = (zN, 5) := by
  rw [YJ, if_neg (fun q => q h), if_neg (nE_s h1), if_pos (dup_mem hj (by rw [← hasN_any]; exact h2))]
theorem nE_1 (h : ZS [t] = 0) (h1 : hasN s emS = false) (h2 : s.Nodup) (h3 : (XI t).all (fun x => decide (x < (s.length : Int))) = false) : YJ t s = (zN, 1) := by
  rw [YJ, if_neg (fun q => q h), if_neg (nE_s h1), if_neg (fun q => q h2), if_neg (by rw [h3]; decide)]
theorem nE_0 (h : ZS [t] = 0) (h1 : hasN s emS = false) (h2 : s.Nodup) (h3 : (XI t).all (fun x => decide (x < (s.length : Int))) = true) : YJ t s = (nmT t s, 0) := by
  rw [YJ, if_neg (fun q => q h), if_neg (nE_s h1), if_neg (fun q => q h2), if_pos h3]
end
end Go.Proofs.YtmophpgiaiemhaaGreat.Hs
/-! What the law TermNames asks beside. -/
namespace Go.Proofs.YtmophpgiaiemhaaGreat.Hs
open Go Go.Proofs
theorem nm_wn (t : Tm) : ∀ s : List ByteArray, wnN (nmT t s) + 2 ≤ 4 * sizeT t := by
  induction t using Tm.ind with
  | h k n r kids cases ih ih' =>
    intro s
    rw [nmT, wnN, sizeT, List.length_append]
    have h0 := vN_len k n s
    have h1 : ∀ (l : List Tm) (i : Nat), (∀ x ∈ l, x ∈ kids) → (nmNs k s i l).length + wnNs (nmKs k s i l) ≤ 4 * ZH l := by
      intro l
      induction l with
      | nil => intro i _; simp [nmNs, nmKs, wnNs]
      | cons t l ihl =>
        intro i hl
        rw [nmNs, nmKs, wnNs, ZH, List.length_append, Yd]
        have h1 := Xu k i
        have h2 := ih t (hl t (by simp)) (ZY s (ZX s (ZB k (i : Int)).toNat))
        have h3 := ihl (i + 1) (fun y hy => hl y (by simp [hy]))
        omega
    have h2 : ∀ (l : List (Pt × Tm)), (∀ x ∈ l, x ∈ cases) → Xf (nmCs s l) ≤ 4 * ZQ l := by
      intro l
      induction l with
      | nil => intro _; simp [nmCs, Xf]
      | cons c l ihl =>
        obtain ⟨p, t⟩ := c
        intro hl
        rw [nmCs, Xf, ZQ, Yd]
        have h1 := YS p
        have h2 := ih' (p, t) (hl (p, t) (by simp)) (ZY s (ZX s (binds p)))
        have h3 := ihl (fun y hy => hl y (by simp [hy]))
        simp only at h2
        omega
    have := h1 kids 0 (fun x hx => hx)
    have := h2 cases (fun x hx => hx)
    omega
theorem nE_wn (t : Tm) (s : List ByteArray) : wnN (YJ t s).1 ≤ 4 * sizeT t + 1 := by
  have := nm_wn t s
  unfold YJ
  split
  · show wnN zN ≤ _; simp [zN, wnN, wnNs, Xf]
  · split
    · show wnN zN ≤ _; simp [zN, wnN, wnNs, Xf]
    · split
      · show wnN zN ≤ _; simp [zN, wnN, wnNs, Xf]
      · split
        · show wnN (nmT t s) ≤ _; omega
        · show wnN zN ≤ _; simp [zN, wnN, wnNs, Xf]
theorem nE_not {t : Tm} {s : List ByteArray} (h : ¬ YB 60 8 t = 0) : YJ t s = (zN, YB 60 8 t) := by
  rw [← rightT_one] at h ⊢
  rw [YJ, if_pos h]
end Go.Proofs.YtmophpgiaiemhaaGreat.Hs
/-! Walks, printed by a program of this session's own (gen.py). -/
namespace Go.Proofs.YtmophpgiaiemhaaGreat.Hs
open Go Go.Proofs
set_option maxRecDepth 100000
set_option linter.unusedVariables false
set_option linter.unusedSimpArgs false
attribute [local irreducible] JL J CT wlo DT
theorem extN_ct : ∀ (t : Nm) (m : Int) (cs : List Value) (H : Heap), RN H cs t → sizeT (skN t) ≤ 1000000000 → sizeT (skN t) ≤ m + 2000000000 → m ≤ 2000000000 → CT Tryz.prog 58 ⟨[.agg ⟨cs⟩, iv m]⟩ [] H (fun v N => v = .tuple ⟨[iv (Ym m (skN t)).1, iv (Ym m (skN t)).2]⟩ ∧ N = []) := by
 intro t
 induction t using Nm.ind with
 | h kind num ref ns kids cases ih ih' =>
 intro m cs H ht hz1 hz2 hz3
 obtain ⟨nv, ks, cv, rfl, hk, hn, hns, hks, hcv⟩ := RN_mk.1 ht
 rw [skN, sizeT] at hz1 hz2
 refine Zm Tryz.func58 rfl rfl <| Zc <| Za <| JLr (Zo (l := pkN kind num ref nv ks cv) rfl rfl fun b1 => JLA rfl <| JLA rfl <| Zb <| Zc <| Za <| JLA rfl <| JLA rfl <| Zb <| Zc ?_)
 refine Zc <| Za <| JLA rfl <| Zb <| Zl <| ZE (fun k ρ M => ∃ (j : Nat) (n d : Int), ρ 1 = iv m ∧ ρ 2 = pp b1 0 ∧ ρ 4 = iv 0 ∧ ρ 5 = iv 0 ∧ ρ 6 = iv n ∧ ρ 7 = iv d ∧ ρ 8 = iv ((j : Int)) ∧ Sub [(BX b1 (pkN kind num ref nv ks cv) 43)] M ∧ j ≤ kids.length ∧ Yo m (Y9 (kids.drop j)) n d = Yo m (Y9 kids) 1 0 ∧ 0 ≤ d ∧ d < n ∧ n + ZH (Y9 (kids.drop j)) ≤ 1 + ZH (Y9 kids) ∧ k = kids.length - j) _ ⟨0, 1, 0, rfl, rfl, rfl, rfl, rfl, rfl, rfl, (Sk Sub.nil), Nat.zero_le _, rfl, (by omega), (by omega), (by simp), rfl⟩ ?_
 rintro _ ρ2 _ ⟨j, n, d, e3, e4, e5, e6, e7, e8, e9, hm10, hj, hinv, hd0, hdn, hnn, rfl⟩
 obtain ⟨ρ11, rfl⟩ := Zr (uc e3 (uc e4 (uc e5 (uc e6 (uc e7 (uc e8 (uc e9 un)))))))
 clear e3 e4 e5 e6 e7 e8 e9
 refine ZJ hm10 ?_
 have hlen := hks.le
 refine Zc <| Zc <| Za <| JLM rfl <| JLq (pp b1 35) (fa43_4 rfl rfl) <| JLr (Ze ty40 rfl (At.bx 0 rfl) (Xa ..) ?_)
 obtain ⟨a12, cap12, hv12⟩ := hks.sl
 have hle12 := hks.le
 refine JLn (Pu.lenSl Tryz.runUnderlying40 hv12) <| JLn (Pu.lss rfl rfl) <| JLM rfl <| Zx 3 [22, 23, 24] [(24, cond (decide ((j : Int) < (kids.length : Int))) (.bool (decide (n ≤ m))) undef)] ?_ fun f14 => ?_
 ·cases h13 : (decide ((j : Int) < (kids.length : Int))) with
  | true =>
   replace h13 := dt h13
   have h13n : j < kids.length := by omega
   have hs1 := sk_mem _ _ (List.getElem_mem h13n)
   have hs2 : ZH (Y9 (kids.drop j)) = sizeT (skN kids[j]) + ZH (Y9 (kids.drop (j + 1))) := by rw [ZU h13n, Y9, ZH]
   have hs3 := XJ (skN kids[j]) (m - 1)
   refine JLM rfl <| JLM rfl <| JLn (Pu.leq rfl rfl) ?_
   exact Zb ⟨⟨rfl, trivial⟩, rfl⟩
  | false =>
   exact ZG rfl ⟨rfl, trivial⟩
 refine JLn (Pu.pickAnd rfl rfl rfl) <| Zb <| Zf rfl (fun h15 => ?_) (fun h15 => ?_)
 ·obtain ⟨h15a, h15b⟩ := Yr h15
  replace h15a := dt h15a
  have h15an : j < kids.length := by omega
  have hs1 := sk_mem _ _ (List.getElem_mem h15an)
  have hs2 : ZH (Y9 (kids.drop j)) = sizeT (skN kids[j]) + ZH (Y9 (kids.drop (j + 1))) := by rw [ZU h15an, Y9, ZH]
  have hs3 := XJ (skN kids[j]) (m - 1)
  replace h15b := dt h15b
  refine Zi <| Zc <| Zl <| Zc <| Za <| JLq (pp b1 35) (fa43_4 rfl rfl) <| JLr (Ze ty40 rfl (At.bx 0 rfl) (Xa ..) <| JLM rfl ?_)
  obtain ⟨b16, o16, cap16, row16, T16, fr16, cs16, hv16, hb16, hs16, hE16⟩ := hks.get j (by first | assumption | omega | decide | simp)
  refine JLq (pp b16 (o16 + j * 37)) (Pu.idx j Tryz.runUnderlying40 Y8 hv16 rfl rfl (by first | assumption | omega | decide | simp)) <| JLr (Zg Y8 rfl (At.im hb16) hs16 <| JLM rfl <| JLn (Pu.sub64 rfl rfl (by first | omega | (constructor <;> omega))) <| Jc Tryz.call58 rfl (fun hin => ih _ (List.getElem_mem h15an) _ _ _ (RN.mono (Hle.hu _ _) hE16) (by omega) (by omega) (by omega)) rfl ?_)
  rintro _ _ ⟨rfl, rfl⟩
  refine JLM rfl <| JLn (Pu.extract rfl rfl) <| JLn (Pu.extract rfl rfl) <| JLA rfl <| JLA rfl <| Zb <| Za <| JLM rfl <| JLM rfl <| JLn (Pu.add64 rfl rfl (by first | omega | (constructor <;> omega))) <| JLM rfl <| JLM rfl <| JLq (iv (max d ((Ym (m - 1) (skN (kids[j]))).2))) (Pu.max2 rfl rfl) ?_
  refine JLA rfl <| JLA rfl <| Zb <| Za <| JLM rfl <| JLn (Pu.inc rfl rfl (by omega)) <| JLA rfl <| Zb <| ⟨_, ?_, (j + 1), (n + ((Ym (m - 1) (skN (kids[j]))).1)), (max d ((Ym (m - 1) (skN (kids[j]))).2)), rfl, rfl, rfl, rfl, rfl, rfl, rfl, (Sk Sub.nil), ?_, ?_, ?_, ?_, ?_, rfl⟩
  ·omega
  ·omega
  ·rw [ZU h15an, Y9, Yo, if_pos (by omega)] at hinv; exact hinv
  ·omega
  ·omega
  omega
 refine Zy _ rfl <| Zc <| Zc <| Za <| JLA rfl <| Zb <| Zl ?_
 have hf : ¬ ((j : Int) < (kids.length : Int) ∧ n ≤ m) := by
  intro ⟨hx1, hx2⟩
  have := h15
  simp [hx1, hx2] at this
  try omega
 have hr : Yo m (Y9 kids) 1 0 = (n, d) := by
  rw [← hinv]; rcases Nat.lt_or_ge j kids.length with hl | hl
  ·have hnm : ¬ n ≤ m := fun hle => hf ⟨by omega, hle⟩
   rw [ZU hl, Y9, Yo, if_neg hnm]
  ·rw [Yt hl, Y9, Yo]
 refine ZE (fun k ρ M => ∃ (j : Nat) (n d : Int), ρ 1 = iv m ∧ ρ 2 = pp b1 0 ∧ ρ 4 = iv 0 ∧ ρ 5 = iv 0 ∧ ρ 6 = iv n ∧ ρ 7 = iv d ∧ ρ 11 = iv ((j : Int)) ∧ Sub [(BX b1 (pkN kind num ref nv ks cv) 43)] M ∧ j ≤ cases.length ∧ Y5 m (YF (cases.drop j)) n d = Y5 m (YF cases) (Yo m (Y9 kids) 1 0).1 (Yo m (Y9 kids) 1 0).2 ∧ 0 ≤ d ∧ d < n ∧ n + ZQ (YF (cases.drop j)) ≤ 1 + ZH (Y9 kids) + ZQ (YF cases) ∧ k = cases.length - j) _ ⟨0, n, d, rfl, rfl, rfl, rfl, rfl, rfl, rfl, (Sk Sub.nil), Nat.zero_le _, (by rw [hr]; rfl), (by omega), (by omega), (by simp only [List.drop_zero]; omega), rfl⟩ ?_
 rintro _ ρ17 _ ⟨j, n, d, e18, e19, e20, e21, e22, e23, e24, hm25, hj, hinv, hd0, hdn, hnn, rfl⟩
 obtain ⟨ρ26, rfl⟩ := Zr (uc e18 (uc e19 (uc e20 (uc e21 (uc e22 (uc e23 (uc e24 un)))))))
 clear e18 e19 e20 e21 e22 e23 e24
 refine ZJ hm25 ?_
 have hlen := hcv.le
 refine Zc <| Zc <| Za <| JLM rfl <| JLq (pp b1 36) (fa43_5 rfl rfl) <| JLr (Ze ty41 rfl (At.bx 0 rfl) (YP ..) ?_)
 obtain ⟨a27, cap27, hv27⟩ := hcv.sl
 have hle27 := hcv.le
 refine JLn (Pu.lenSl Tryz.runUnderlying41 hv27) <| JLn (Pu.lss rfl rfl) <| JLM rfl <| Zx 3 [51, 52, 53] [(53, cond (decide ((j : Int) < (cases.length : Int))) (.bool (decide (n ≤ m))) undef)] ?_ fun f29 => ?_
 ·cases h28 : (decide ((j : Int) < (cases.length : Int))) with
  | true =>
   replace h28 := dt h28
   have h28n : j < cases.length := by omega
   have hs1 := skC_mem _ _ (List.getElem_mem h28n)
   have hs2 : ZQ (YF (cases.drop j)) = sizeP cases[j].1 + sizeT (skN cases[j].2.2) + ZQ (YF (cases.drop (j + 1))) := by rw [ZU h28n, YF, ZQ]
   have hs3 := XJ (skN cases[j].2.2) (m - 1)
   have hs4 := extP_le cases[j].1 (m - 1)
   refine JLM rfl <| JLM rfl <| JLn (Pu.leq rfl rfl) ?_
   exact Zb ⟨⟨rfl, trivial⟩, rfl⟩
  | false =>
   exact ZG rfl ⟨rfl, trivial⟩
 refine JLn (Pu.pickAnd rfl rfl rfl) <| Zb <| Zf rfl (fun h30 => ?_) (fun h30 => ?_)
 ·obtain ⟨h30a, h30b⟩ := Yr h30
  replace h30a := dt h30a
  have h30an : j < cases.length := by omega
  have hs1 := skC_mem _ _ (List.getElem_mem h30an)
  have hs2 : ZQ (YF (cases.drop j)) = sizeP cases[j].1 + sizeT (skN cases[j].2.2) + ZQ (YF (cases.drop (j + 1))) := by rw [ZU h30an, YF, ZQ]
  have hs3 := XJ (skN cases[j].2.2) (m - 1)
  have hs4 := extP_le cases[j].1 (m - 1)
  replace h30b := dt h30b
  refine Zi <| Zc <| Zl <| Zc <| Za <| JLq (pp b1 36) (fa43_5 rfl rfl) <| JLr (Ze ty41 rfl (At.bx 0 rfl) (YP ..) <| JLM rfl ?_)
  obtain ⟨b31, o31, cap31, row31, T31, fr31, cs31, hv31, hb31, hs31, hE31⟩ := hcv.get j (by first | assumption | omega | decide | simp)
  obtain ⟨ca31, va31, cb31, rfl, hA31, hV31, hB31⟩ := hE31
  refine JLq (pp b31 (o31 + j * 73)) (Pu.idx j Tryz.runUnderlying41 ty100 hv31 rfl rfl (by first | assumption | omega | decide | simp)) <| JLq (pp b31 (o31 + j * 73)) (fa100_0 rfl rfl) <| JLr (Zg Z6 rfl (At.im hb31) (sub_sub0 hs31 (YE (Zu hA31))) <| JLM rfl <| JLn (Pu.sub64 rfl rfl (by first | omega | (constructor <;> omega))) <| Jc Tryz.call102 rfl (fun hin => patternSize_ct _ _ _ _ (RP.mono (Hle.hu _ _) hA31) (by omega) (by omega) (by omega)) rfl ?_)
  rintro _ _ ⟨rfl, rfl⟩
  refine JLM rfl <| JLn (Pu.extract rfl rfl) <| JLn (Pu.extract rfl rfl) <| JLA rfl <| JLA rfl <| Zb <| Zc <| Za <| JLq (pp b1 36) (fa43_5 rfl rfl) <| JLr (Ze ty41 rfl (At.bx 0 rfl) (YP ..) <| JLM rfl ?_)
  obtain ⟨b32, o32, cap32, row32, T32, fr32, cs32, hv32, hb32, hs32, hE32⟩ := hcv.get j (by first | assumption | omega | decide | simp)
  obtain ⟨ca32, va32, cb32, rfl, hA32, hV32, hB32⟩ := hE32
  refine JLq (pp b32 (o32 + j * 73)) (Pu.idx j Tryz.runUnderlying41 ty100 hv32 rfl rfl (by first | assumption | omega | decide | simp)) <| JLq (pp b32 (o32 + j * 73 + 36)) (fa100_2 rfl rfl) <| JLr (Zg Y8 rfl (At.im hb32) (sub_sub hs32 (Xe (n := 35) (i := 1) (Zu hA32) (Xg rfl (ZV hB32)))) <| JLM rfl <| JLn (Pu.sub64 rfl rfl (by first | omega | (constructor <;> omega))) <| Jc Tryz.call58 rfl (fun hin => ih' _ (List.getElem_mem h30an) _ _ _ (RN.mono (Hle.hu _ _) hB32) (by omega) (by omega) (by omega)) rfl ?_)
  rintro _ _ ⟨rfl, rfl⟩
  refine JLM rfl <| JLn (Pu.extract rfl rfl) <| JLn (Pu.extract rfl rfl) <| JLA rfl <| JLA rfl <| Zb <| Za <| JLM rfl <| JLM rfl <| JLn (Pu.add64 rfl rfl (by first | omega | (constructor <;> omega))) <| JLM rfl <| JLn (Pu.add64 rfl rfl (by first | omega | (constructor <;> omega))) <| JLM rfl ?_
  refine JLM rfl <| JLM rfl <| JLq (iv (max (max d ((Xs (m - 1) (cases[j].1)).2)) ((Ym (m - 1) (skN (cases[j].2.2))).2))) (Pu.max3 rfl rfl rfl) <| JLA rfl <| JLA rfl <| Zb <| Za <| JLM rfl <| JLn (Pu.inc rfl rfl (by omega)) <| JLA rfl <| Zb <| ⟨_, ?_, (j + 1), (n + ((Xs (m - 1) (cases[j].1)).1) + ((Ym (m - 1) (skN (cases[j].2.2))).1)), (max (max d ((Xs (m - 1) (cases[j].1)).2)) ((Ym (m - 1) (skN (cases[j].2.2))).2)), rfl, rfl, rfl, rfl, rfl, rfl, rfl, (Sk Sub.nil), ?_, ?_, ?_, ?_, ?_, rfl⟩
  ·omega
  ·omega
  ·rw [ZU h30an, YF, Y5, if_pos (by omega)] at hinv; exact hinv
  ·omega
  ·omega
  omega
 refine Zy _ rfl <| Zc <| Za <| JLM rfl <| JLM rfl <| JLn (Pu.add64 rfl rfl (by first | omega | (constructor <;> omega))) <| JLA rfl <| JLA rfl <| Zb <| Zh <| ⟨.tuple ⟨[iv n, iv (d + 1)]⟩, [], Ret.two rfl (RV.tmp rfl) (RV.tmp rfl), Sub.nil, ?_⟩
 have hf : ¬ ((j : Int) < (cases.length : Int) ∧ n ≤ m) := by
  intro ⟨hx1, hx2⟩
  have := h30
  simp [hx1, hx2] at this
  try omega
 have hr : Y5 m (YF cases) (Yo m (Y9 kids) 1 0).1 (Yo m (Y9 kids) 1 0).2 = (n, d) := by
  rw [← hinv]; rcases Nat.lt_or_ge j cases.length with hl | hl
  ·have hnm : ¬ n ≤ m := fun hle => hf ⟨by omega, hle⟩
   rw [ZU hl, YF, Y5, if_neg hnm]
  ·rw [Yt hl, YF, Y5]
 exact ⟨by rw [skN, Ym, hr], rfl⟩
theorem bindersR_ct : ∀ (n : Nm) (cs : List Value) (H : Heap), RN H cs n → n.kids.length ≤ 1000000 → CT Tryz.prog 103 ⟨[.agg ⟨cs⟩]⟩ [] H (fun v N => v = iv (Ys n.kind n.kids.length) ∧ N = []) := by
 intro n cs H hn_ hkl
 obtain ⟨nv, ks, cv, rfl, hk, hn, hns, hks, hcv⟩ := RN_open hn_
 refine Zm Tryz.func103 rfl rfl <| Zc <| Za <| JLr (Zo (l := pkN (n.kind) (n.num) (n.ref) nv ks cv) rfl rfl fun b1 => JLA rfl <| Zb <| Zc <| Zc <| Za <| JLq (pp b1 0) (fa43_0 rfl rfl) <| JLr (Ze ty3 rfl (At.bx 0 rfl) (pkN_0 ..) <| Zb <| Zl ?_))
 refine Zc <| Zc <| Za <| JLn (Pu.eql rfl rfl) <| JLA rfl <| Zb <| Zf rfl (fun h2 => ?_) (fun h2 => ?_)
 ·replace h2 := dt h2
  refine Zi <| Zf rfl (fun _ => ?_) (fun h3 => absurd h2 (df h3))
  refine Zc <| Za <| JLA rfl <| Zb <| Zh <| ⟨iv 1, [], Ret.one rfl (RV.tmp rfl), Sub.nil, ?_⟩
  exact ⟨congrArg (Value.int .i64) (by simp only [Ys]; (repeat' split) <;> first | rfl | omega | (exfalso; simp_all; done) | (exfalso; simp_all; omega)), rfl⟩
 replace h2 := df h2
 refine Zc <| Za <| JLn (Pu.eql rfl rfl) <| JLA rfl <| Zb <| Zf rfl (fun h4 => ?_) (fun h4 => ?_)
 ·replace h4 := dt h4
  refine Zi <| Zf rfl (fun _ => ?_) (fun h5 => absurd h4 (df h5))
  refine Zc <| Za <| JLA rfl <| Zb <| Zh <| ⟨iv 1, [], Ret.one rfl (RV.tmp rfl), Sub.nil, ?_⟩
  exact ⟨congrArg (Value.int .i64) (by simp only [Ys]; (repeat' split) <;> first | rfl | omega | (exfalso; simp_all; done) | (exfalso; simp_all; omega)), rfl⟩
 replace h4 := df h4
 refine Za <| JLn (Pu.eql rfl rfl) <| JLA rfl <| Zb <| Zf rfl (fun h6 => ?_) (fun h6 => ?_)
 ·replace h6 := dt h6
  refine Zc <| Za <| JLA rfl <| Zb <| Zh <| ⟨iv 1, [], Ret.one rfl (RV.tmp rfl), Sub.nil, ?_⟩
  exact ⟨congrArg (Value.int .i64) (by simp only [Ys]; (repeat' split) <;> first | rfl | omega | (exfalso; simp_all; done) | (exfalso; simp_all; omega)), rfl⟩
 replace h6 := df h6
 refine Zc <| Za <| JLn (Pu.eql rfl rfl) <| JLA rfl <| Zb <| Zf rfl (fun h7 => ?_) (fun h7 => ?_)
 ·replace h7 := dt h7
  refine Zc <| Za <| JLq (pp b1 35) (fa43_4 rfl rfl) <| JLr (Ze ty40 rfl (At.bx 0 rfl) (Xa ..) ?_)
  obtain ⟨a8, cap8, hv8⟩ := hks.sl
  have hle8 := hks.le
  refine JLn (Pu.lenSl Tryz.runUnderlying40 hv8) <| JLn (Pu.sub64 rfl rfl (by first | omega | (constructor <;> omega))) <| JLq (iv (2 * (((n.kids).length : Int) - 2))) (Pu.arithM rfl rfl (w64 (by omega))) <| JLn (Pu.add64 rfl rfl (by first | omega | (constructor <;> omega))) <| JLq (iv (max 0 (1 + (2 * (((n.kids).length : Int) - 2))))) (Pu.max2 rfl rfl) <| JLA rfl <| Zb <| Zh <| ⟨iv (max 0 (1 + (2 * (((n.kids).length : Int) - 2)))), [], Ret.one rfl (RV.tmp rfl), Sub.nil, ?_⟩
  exact ⟨congrArg (Value.int .i64) (many_max h7), rfl⟩
 replace h7 := df h7
 refine Zi <| Zc <| Za <| JLA rfl <| Zb <| Zh <| ⟨iv 0, [], Ret.one rfl (RV.tmp rfl), Sub.nil, ?_⟩
 exact ⟨congrArg (Value.int .i64) (by simp only [Ys]; (repeat' split) <;> first | rfl | omega | (exfalso; simp_all; done) | (exfalso; simp_all; omega)), rfl⟩
theorem sliceR_ct (l : List ByteArray) (a m : Nat) (v : Value) (H : Heap) (hs : strR H v l) (hb : a + m ≤ 1000000) : CT Tryz.prog 104 ⟨[v, iv ((a : Int)), iv ((m : Int))]⟩ [] H (fun r N => N = [] ∧ ∀ h, strR h v l → strR h r (if a + m ≤ l.length then (l.drop a).take m else [])) := by
 refine Zm Tryz.func104 rfl rfl <| Zc <| Za <| JLA rfl <| Zb <| Zc <| Zc <| Za <| JLM rfl <| JLM rfl <| JLn (Pu.add64 rfl rfl (by first | omega | (constructor <;> omega))) <| JLm v ?_
 obtain ⟨a1, cap1, hv1⟩ := hs.rd.sl
 have hle1 := hs.rd.le
 refine JLn (Pu.lenSl Tryz.runUnderlying28 hv1) <| JLn (Pu.gtr rfl rfl) <| Zb <| Zf rfl (fun h2 => ?_) (fun h2 => ?_)
 ·replace h2 := dt h2
  refine Zc <| Za <| JLA rfl <| Zb <| Zh <| ⟨nS, [], Ret.one rfl (RV.tmp rfl), Sub.nil, ?_⟩
  exact ⟨rfl, fun h q => by rw [if_neg (by omega)]; exact strR.nil⟩
 replace h2 := df h2
 refine Zi <| Zc <| Za <| JLm v <| JLM rfl <| JLM rfl <| JLM rfl <| JLn (Pu.add64 rfl rfl (by first | omega | (constructor <;> omega))) <| JLr (Runs_cutS (n := a) (m := m) hs (by first | rfl | omega) (by first | rfl | omega) (by omega) Tryz.runUnderlying28 Tryz.sizeOf9 rfl rfl rfl fun u3 hu3 => JLa u3 <| Zb <| Zh <| ⟨u3, [], Ret.one rfl (RV.tmp rfl), Sub.nil, ?_⟩)
 exact ⟨rfl, fun h q => by rw [if_pos (by omega)]; exact hu3 h q⟩
end Go.Proofs.YtmophpgiaiemhaaGreat.Hs
/-! nameless, as the reference says it: which names a Kid binds. -/
namespace Go.Proofs.YtmophpgiaiemhaaGreat.Hs
open Go Go.Proofs
/-- where the names of a Kid begin -/
def atN (k : Int) : Nat → Nat
  | 0 => 0
  | j + 1 => atN k j + (ZB k j).toNat
def sliceN (ns : List ByteArray) (a m : Nat) : List ByteArray := if a + m ≤ ns.length then (ns.drop a).take m else []
theorem sliceN_le (ns : List ByteArray) (a m : Nat) : (sliceN ns a m).length ≤ m := by
  unfold sliceN
  split
  · rw [List.length_take]; omega
  · simp
theorem more_le2 (k : Int) (j : Nat) : 0 ≤ ZB k (j : Int) ∧ ZB k (j : Int) ≤ 2 := by unfold ZB; split <;> (try split) <;> omega
theorem atN_le (k : Int) : ∀ j, atN k j ≤ 2 * j
  | 0 => Nat.le_refl _
  | j + 1 => by rw [atN]; have := atN_le k j; have := more_le2 k j; omega
theorem more_one (j : Int) : ZB 1 j = 0 := by unfold ZB; simp
theorem at_3 : ∀ j, atN 3 j = j
  | 0 => rfl
  | j + 1 => by rw [atN, at_3 j]; simp [ZB]
theorem at_5 : ∀ j, j ≤ 1 → atN 5 j = 0
  | 0, _ => rfl
  | j + 1, h => by rw [atN, at_5 j (by omega)]; have : ¬ (j : Int) = 1 := by omega
                   simp [ZB, this]
theorem at_12 : ∀ j, atN 12 j = 2 * j - 3
  | 0 => rfl
  | j + 1 => by
    rw [atN, at_12 j]
    unfold ZB
    split
    · rename_i h; rcases h with h | h | h <;> omega
    · split <;> omega
theorem at_ok {k : Int} {c l j : Nat} (hm : (l : Int) = Ys k c) (hj : j < c) (h0 : 0 < ZB k (j : Int)) : atN k j + (ZB k (j : Int)).toNat ≤ l ∨ l ≤ atN k j := by
  unfold ZB at h0
  split at h0
  · rename_i h
    rcases h with h | ⟨h, h'⟩ | ⟨h, h'⟩
    · subst h; rw [at_3]; have : l = 1 := by simp [Ys] at hm; omega
      subst this; simp [ZB]; omega
    · subst h; rw [at_5 j (by omega)]; have : l = 1 := by simp [Ys] at hm; omega
      subst this; simp [ZB, h']
    · subst h; rw [at_12]; left
      have e : ZB 12 (j : Int) = 1 := by simp [ZB, h']
      rw [e]
      have : (l : Int) = 2 * (c : Int) - 3 := by rw [hm]; unfold Ys; rw [if_neg (by omega), if_pos (by omega)]
      omega
  · split at h0
    · rename_i h
      obtain ⟨h, h'⟩ := h
      subst h; rw [at_12]; left
      have e : ZB 12 (j : Int) = 2 := by unfold ZB; rw [if_neg (by omega), if_pos (by omega)]
      rw [e]
      have : (l : Int) = 2 * (c : Int) - 3 := by rw [hm]; unfold Ys; rw [if_neg (by omega), if_pos (by omega)]
      omega
    · omega
theorem at_in {k : Int} {s ns : List ByteArray} {j : Nat} : inN k j s (ns.drop (atN k j)) = ZY s (sliceN ns (atN k j) (ZB k (j : Int)).toNat) := by
  unfold inN sliceN
  rw [List.length_drop]
  by_cases h0 : 0 < ZB k (j : Int)
  · by_cases h1 : atN k j + (ZB k (j : Int)).toNat ≤ ns.length
    · rw [if_pos ⟨h0, by omega⟩, if_pos h1]
    · rw [if_neg (fun q => by have := q.2; have := q.1; omega), if_neg h1]; simp [ZY]
  · rw [if_neg (fun q => h0 q.1)]
    have e : (ZB k (j : Int)).toNat = 0 := by omega
    rw [e]; split <;> simp [ZY]
theorem at_lf {k : Int} {ns : List ByteArray} {c j : Nat} (hm : (ns.length : Int) = Ys k c) (hj : j < c) : lfN k j (ns.drop (atN k j)) = ns.drop (atN k (j + 1)) := by
  unfold lfN
  rw [List.length_drop, atN]
  by_cases h0 : 0 < ZB k (j : Int)
  · rcases at_ok hm hj h0 with h1 | h1
    · rw [if_pos ⟨h0, by omega⟩, List.drop_drop]
    · rw [if_neg (fun q => by have := q.2; have := q.1; omega), List.drop_of_length_le h1, List.drop_of_length_le (by omega)]
  · rw [if_neg (fun q => h0 q.1)]
    have e : (ZB k (j : Int)).toNat = 0 := by omega
    rw [e, Nat.add_zero]
theorem sliceRI_ct (l : List ByteArray) (a m : Nat) (i : Int) (v : Value) (H : Heap) (hs : strR H v l) (hi : i = (m : Int)) (hb : a + m ≤ 1000000) :
    CT Tryz.prog 104 ⟨[v, .int .i64 (a : Int), .int .i64 i]⟩ [] H (fun r N => N = [] ∧ ∀ h, strR h v l → strR h r (sliceN l a m)) := by
  subst hi; exact sliceR_ct l a m v H hs hb
theorem fstS_at {x : ByteArray} {s : List ByteArray} {q : Nat} (h : q < s.length) : YN x (s.drop q) q = if s[q] = x then (q : Int) else YN x (s.drop (q + 1)) (q + 1) := by
  rw [ZU h, YN]
  by_cases e : s[q] = x
  · rw [if_pos e, if_pos e.symm]
  · rw [if_neg e, if_neg (fun z => e z.symm)]
theorem fit_snoc {l : List (Pt × List ByteArray × Nm)} {j : Nat} (h : j < l.length) (h1 : (l.take j).all fitC = true) (h2 : (l[j].2.1.length : Int) = (binds l[j].1 : Int)) : (l.take (j + 1)).all fitC = true := by
  rw [List.take_succ_eq_append_getElem h, List.all_append, h1]
  simp [fitC]; omega
theorem fit_bad {l : List (Pt × List ByteArray × Nm)} {j : Nat} (h : j < l.length) (h2 : ¬ (l[j].2.1.length : Int) = (binds l[j].1 : Int)) : l.all fitC = false := by
  rw [List.all_eq_false]
  exact ⟨_, List.getElem_mem h, by simp [fitC]; omega⟩
end Go.Proofs.YtmophpgiaiemhaaGreat.Hs
/-! nameless: what comes of it has its variables in scope; the error of a right term in a smaller scope. -/
namespace Go.Proofs.YtmophpgiaiemhaaGreat.Hs
open Go Go.Proofs
theorem scT_mono (t : Tm) : ∀ {n m : Nat}, n ≤ m → scT n t → scT m t := by
  induction t using Tm.ind with
  | h k x r kids cases ih ih' =>
    intro n m h q
    rw [scT] at q ⊢
    have hK : ∀ (l : List Tm), (∀ t ∈ l, ∀ {n m : Nat}, n ≤ m → scT n t → scT m t) → ∀ i, scKs n k i l → scKs m k i l := by
      intro l
      induction l with
      | nil => intro _ i _; rw [scKs]; trivial
      | cons t l ihl =>
        intro hl i q
        rw [scKs] at q ⊢
        exact ⟨hl t (by simp) (by omega) q.1, ihl (fun y hy => hl y (by simp [hy])) _ q.2⟩
    have hC : ∀ (l : List (Pt × Tm)), (∀ t ∈ l, ∀ {n m : Nat}, n ≤ m → scT n t.2 → scT m t.2) → scCs n l → scCs m l := by
      intro l
      induction l with
      | nil => intro _ _; rw [scCs]; trivial
      | cons c l ihl =>
        intro hl q
        obtain ⟨p, t⟩ := c
        rw [scCs] at q ⊢
        exact ⟨hl (p, t) (by simp) (by omega) q.1, ihl (fun y hy => hl y (by simp [hy])) q.2⟩
    exact ⟨fun e => by have := q.1 e; omega, hK kids ih 0 q.2.1, hC cases ih' q.2.2⟩
theorem nErr_sc {s : Nat} {m : Int} (hs : s ≤ 60) (t : Tm) : ∀ (b : Nat), scT (s + b) t → YX (s : Int) m (b : Int) t = YX 60 m (b : Int) t := by
  induction t using Tm.ind with
  | h k x r kids cases ih ih' =>
    intro b q
    rw [scT] at q
    have hK : ∀ (l : List Tm), (∀ t ∈ l, ∀ (b : Nat), scT (s + b) t → YX (s : Int) m (b : Int) t = YX 60 m (b : Int) t) → ∀ i, scKs (s + b) k i l → Y6 (s : Int) m (b : Int) k i l = Y6 60 m (b : Int) k i l := by
      intro l
      induction l with
      | nil => intro _ i _; rw [Y6, Y6]
      | cons t l ihl =>
        intro hl i q
        rw [scKs] at q
        have e : (b : Int) + ZB k (i : Int) = ((b + (ZB k (i : Int)).toNat : Nat) : Int) := by have := more_le2 k i; omega
        have h1 := hl t (by simp) (b + (ZB k (i : Int)).toNat) (by rw [← Nat.add_assoc]; exact q.1)
        rw [Y6, Y6, e, h1, ihl (fun y hy => hl y (by simp [hy])) _ q.2]
    have hC : ∀ (l : List (Pt × Tm)), (∀ t ∈ l, ∀ (b : Nat), scT (s + b) t.2 → YX (s : Int) m (b : Int) t.2 = YX 60 m (b : Int) t.2) → scCs (s + b) l → Xi (s : Int) m (b : Int) l = Xi 60 m (b : Int) l := by
      intro l
      induction l with
      | nil => intro _ _; rw [Xi, Xi]
      | cons c l ihl =>
        intro hl q
        obtain ⟨p, t⟩ := c
        rw [scCs] at q
        have h1 := hl (p, t) (by simp) (b + binds p) (by rw [← Nat.add_assoc]; exact q.1)
        rw [Int.natCast_add] at h1
        rw [Xi, Xi, h1, ihl (fun y hy => hl y (by simp [hy])) q.2]
    have hH : Xh (s : Int) m (b : Int) k x r kids.length cases.length = Xh 60 m (b : Int) k x r kids.length cases.length := by
      unfold Xh
      congr 4
      have : (k = 1 ∧ (x < 0 ∨ ((b : Int) ≤ x ∧ (s : Int) ≤ x - b))) ↔ (k = 1 ∧ (x < 0 ∨ ((b : Int) ≤ x ∧ 60 ≤ x - b))) := by
        constructor
        · rintro ⟨e, h⟩; have := q.1 e; exact ⟨e, by omega⟩
        · rintro ⟨e, h⟩; have := q.1 e; exact ⟨e, by omega⟩
      simp only [this]
    rw [YX, YX, hH, hK kids ih 0 q.2.1, hC cases ih' q.2.2]
theorem checkR_sc {s : Nat} (hs : s ≤ 60) {t : Tm} (h : scT s t) : YB (s : Int) 8 t = ZS [t] := by
  rw [rightT_one]
  unfold YB
  have := nErr_sc (m := 8) hs t 0 (by simpa using h)
  simp only [Int.natCast_zero] at this
  rw [this]
theorem nl_good (n : Nm) : ∀ s : List ByteArray, (nlT n s).2 = 0 → scT s.length (nlT n s).1 ∧ sizeT (nlT n s).1 = sizeT (skN n) := by
  induction n using Nm.ind with
  | h k x r ns kids cases ih ih' =>
    intro s h
    have hK : ∀ (l : List Nm), (∀ n ∈ l, ∀ s : List ByteArray, (nlT n s).2 = 0 → scT s.length (nlT n s).1 ∧ sizeT (nlT n s).1 = sizeT (skN n)) → ∀ (ns : List ByteArray) (i : Nat), (XF k s ns i l).2 = 0 → scKs s.length k i (XF k s ns i l).1 ∧ ZH (XF k s ns i l).1 = ZH (Y9 l) := by
      intro l
      induction l with
      | nil => intro _ ns i _; rw [XF]; refine ⟨?_, ?_⟩ <;> simp [scKs, ZH, Y9]
      | cons t l ihl =>
        intro hl ns i q
        rw [XF] at q ⊢
        split at q
        · rename_i q1; exact absurd q q1
        · rename_i q1
          rw [if_neg q1]
          have q2 := hl t (by simp) _ (Decidable.not_not.1 q1)
          have q3 := ihl (fun y hy => hl y (by simp [hy])) _ _ q
          refine ⟨?_, ?_⟩
          · rw [scKs]
            refine ⟨scT_mono _ ?_ q2.1, q3.1⟩
            unfold inN
            split
            · rename_i hh; rw [ZW, List.length_take]; omega
            · omega
          · rw [ZH, Y9, ZH, q2.2, q3.2]
    have hC : ∀ (l : List (Pt × List ByteArray × Nm)), l.all fitC = true → (∀ c ∈ l, ∀ s : List ByteArray, (nlT c.2.2 s).2 = 0 → scT s.length (nlT c.2.2 s).1 ∧ sizeT (nlT c.2.2 s).1 = sizeT (skN c.2.2)) → (nlCs s l).2 = 0 → scCs s.length (nlCs s l).1 ∧ ZQ (nlCs s l).1 = ZQ (YF l) := by
      intro l
      induction l with
      | nil => intro _ _ _; rw [nlCs]; refine ⟨?_, ?_⟩ <;> simp [scCs, ZQ, YF]
      | cons c l ihl =>
        intro hf hl q
        have hfc := fit_mem hf (List.mem_cons_self)
        obtain ⟨p, m, t⟩ := c
        rw [nlCs] at q ⊢
        split at q
        · rename_i q1; exact absurd q q1
        · rename_i q1
          rw [if_neg q1]
          have q2 := hl (p, m, t) (by simp) _ (Decidable.not_not.1 q1)
          have q3 := ihl (by rw [List.all_cons, Bool.and_eq_true] at hf; exact hf.2) (fun y hy => hl y (by simp [hy])) q
          refine ⟨?_, ?_⟩
          · rw [scCs]
            refine ⟨?_, q3.1⟩
            have := q2.1
            rw [ZW] at this
            rwa [← show m.length = binds p from hfc]
          · rw [ZQ, YF, ZQ, q2.2, q3.2]
    rw [nlT] at h ⊢
    split at h
    · exact absurd h (by decide)
    · rename_i h1
      rw [if_neg h1]
      split at h
      · exact absurd h (by decide)
      · rename_i h2
        rw [if_neg h2]
        split at h
        · exact absurd h (by decide)
        · rename_i h3
          rw [if_neg h3]
          split at h
          · rename_i h4; exact absurd h h4
          · rename_i h4
            rw [if_neg h4]
            split at h
            · rename_i h5; exact absurd h h5
            · rename_i h5
              rw [if_neg h5]
              have q1 := hK kids ih ns 0 (Decidable.not_not.1 h4)
              have q2 := hC cases (by by_cases e : cases.all fitC = true; exact e; exact absurd (.inr e) h1) ih' (Decidable.not_not.1 h5)
              refine ⟨?_, ?_⟩
              · rw [scT]
                refine ⟨fun e => ?_, q1.1, q2.1⟩
                rw [if_pos e]
                have := fstS_bound (ns.getD 0 ltr0) s 0
                have : ¬ YN (ns.getD 0 ltr0) s 0 < 0 := fun z => h3 ⟨e, z⟩
                omega
              · rw [sizeT, skN, sizeT, q1.2, q2.2]
theorem sk_wn (n : Nm) : sizeT (skN n) ≤ wnN n := by
  induction n using Nm.ind with
  | h k x r ns kids cases ih ih' =>
    have hK : ∀ (l : List Nm), (∀ n ∈ l, sizeT (skN n) ≤ wnN n) → ZH (Y9 l) ≤ wnNs l := by
      intro l
      induction l with
      | nil => intro _; simp [Y9, ZH, wnNs]
      | cons t l ihl => intro hl; rw [Y9, ZH, wnNs]; have := hl t (by simp); have := ihl (fun y hy => hl y (by simp [hy])); omega
    have hC : ∀ (l : List (Pt × List ByteArray × Nm)), (∀ c ∈ l, sizeT (skN c.2.2) ≤ wnN c.2.2) → ZQ (YF l) ≤ Xf l := by
      intro l
      induction l with
      | nil => intro _; simp [YF, ZQ, Xf]
      | cons c l ihl => intro hl; obtain ⟨p, m, t⟩ := c; rw [YF, ZQ, Xf]; have := hl (p, m, t) (by simp); have := ihl (fun y hy => hl y (by simp [hy])); simp only at *; omega
    rw [skN, sizeT, wnN]
    have := hK kids ih
    have := hC cases ih'
    omega
section
variable {n : Nm} {s : List ByteArray}
theorem cn_long : (cnN stL 1 n 0).1 = ((decide (300 < (Ym 400 (skN n)).1)) || (decide (60 < (Ym 400 (skN n)).2))) := long_eq (skN n)
theorem nl_11 (h : 60 < s.length ∨ (300 < (Ym 400 (skN n)).1 ∨ 60 < (Ym 400 (skN n)).2)) : Z7 n s = (zT, 11) := by
  rw [Z7, if_pos]
  rcases h with h | h | h
  · exact .inl h
  · right; rw [cn_long]; simp [h]
  · right; rw [cn_long]; simp [h]
theorem nl_no (h : s.length ≤ 60) (h1 : (Ym 400 (skN n)).1 ≤ 300) (h2 : (Ym 400 (skN n)).2 ≤ 60) : ¬ (60 < s.length ∨ (cnN stL 1 n 0).1 = true) := by
  rw [cn_long]
  simp
  omega
theorem nl_e (h : ¬ (60 < s.length ∨ (cnN stL 1 n 0).1 = true)) (h1 : ¬ (nlT n s).2 = 0) : Z7 n s = (zT, (nlT n s).2) := by rw [Z7, if_neg h, if_pos h1]
theorem nl_c (h : ¬ (60 < s.length ∨ (cnN stL 1 n 0).1 = true)) (h1 : (nlT n s).2 = 0) (h2 : ¬ YB (s.length : Int) 8 (nlT n s).1 = 0) : Z7 n s = (zT, YB (s.length : Int) 8 (nlT n s).1) := by
  have e := checkR_sc (show s.length ≤ 60 by omega) (nl_good n s h1).1
  rw [e] at h2 ⊢
  rw [Z7, if_neg h, if_neg (fun z => z h1), if_neg h2]
theorem nl_0 (h : ¬ (60 < s.length ∨ (cnN stL 1 n 0).1 = true)) (h1 : (nlT n s).2 = 0) (h2 : YB (s.length : Int) 8 (nlT n s).1 = 0) : Z7 n s = ((nlT n s).1, 0) := by
  have e := checkR_sc (show s.length ≤ 60 by omega) (nl_good n s h1).1
  rw [e] at h2
  rw [Z7, if_neg h, if_neg (fun z => z h1), if_pos h2]
end
end Go.Proofs.YtmophpgiaiemhaaGreat.Hs
/-! Walks, printed by a program of this session's own (gen.py). -/
namespace Go.Proofs.YtmophpgiaiemhaaGreat.Hs
open Go Go.Proofs
set_option maxRecDepth 100000
set_option linter.unusedVariables false
set_option linter.unusedSimpArgs false
attribute [local irreducible] JL J CT wlo DT
theorem cloneS_ct (v : Value) (s : List ByteArray) (H : Heap) (hs : Hs.rdS RS 1 H v s) (hz : s.length ≤ 1000000) : CT Tryz.prog 13 ⟨[v]⟩ [] H (fun r N => ∃ k, N = [k] ∧ Own 9 1 r (Z0 s) k) := by
 refine Zm Tryz.func13 rfl rfl <| Zc <| Za <| JLA rfl <| Zb <| Zc <| Zc <| Za <| JLm v ?_
 obtain ⟨a1, cap1, hv1⟩ := hs.sl
 have hle1 := hs.le
 refine JLq (.bool (a1.isNone)) (Pu.eqlNil Tryz.runUnderlying28 hv1 rfl) <| Zb <| Zf rfl (fun h2 => ?_) (fun h2 => ?_)
 ·refine Zc <| Za <| JLA rfl <| Zb <| Zh <| ⟨nS, [[]], Ret.one rfl (RV.tmp rfl), (Sub.emp Sub.nil), ?_⟩
  obtain rfl : s = [] := rd_noneS hs hv1 h2
  exact ⟨_, rfl, (show Own _ _ _ (Z0 []) _ from Own.nil)⟩
 refine Zi <| Zc <| Za <| JLr (Zp (vs := []) [] Tryz.runUnderlying28 el9 rfl rfl (by intro e he; cases he) rfl (by decide) fun b3 k3 ho3 hk3 => JLm v <| JLr (ZA (i := 0) (n := s.length) (es' := Z0 s) Tryz.runUnderlying28 Tryz.runUnderlying28 (Or.inl rfl) el9 rfl rfl rfl ho3 (fun F w m => strs_src hs w _ m) (ZT _) (strs_len1 _) (strs_ok _) (by decide) (by simp only [ZT, List.length_nil]; omega) fun v4 k4 ho4 => ?_))
 rw [List.nil_append] at ho4
 refine JLa v4 <| Zb <| Zh <| ⟨v4, [k4], Ret.one rfl (RV.tmp rfl), (Sk Sub.nil), ?_⟩
 exact ⟨_, rfl, ho4⟩
end Go.Proofs.YtmophpgiaiemhaaGreat.Hs
/-! Terms with names, built with their names; a case of the reference's. -/
namespace Go.Proofs.YtmophpgiaiemhaaGreat.Hs
open Go Go.Proofs
set_option maxRecDepth 100000
theorem fillN {v : Value} (hv : v.oneCell' = true) (k n : Int) (r : Sm) {place : Nat → Option (Nat × Nat)} (hp : place 3 = some (34, 1)) :
    Instr.fill place (⟨pkN k n r (.slice none 0 0) (.slice none 0 0) (.slice none 0 0)⟩ : Array Value) [(3, v)] = some ⟨pkN k n r v (.slice none 0 0) (.slice none 0 0)⟩ := by
  refine Eq.trans (congrArg (fun c => Instr.fill _ c _) (show (⟨pkN k n r (.slice none 0 0) (.slice none 0 0) (.slice none 0 0)⟩ : Array Value) = (⟨([.int .i64 k, .int .i64 n] ++ sC r) ++ ([.slice none 0 0] ++ [.slice none 0 0, .slice none 0 0])⟩ : Array Value) from rfl)) ?_
  refine YQ (off := 34) (sz := 1) (l := [v]) hp (ZK hv) rfl rfl rfl ?_
  rfl
theorem bldN4 {v : Value} (hv : v.oneCell' = true) (k n : Int) (r : Sm) : ∀ w, (Instr.build 32 ⟨[(0, .int .i64 k), (1, .int .i64 n), (2, .agg ⟨sC r⟩), (3, v)]⟩).run Tryz.prog w = .ok (.agg ⟨pkN k n r v (.slice none 0 0) (.slice none 0 0)⟩) w := by
  refine Z4 Tryz.zeroValue32 Tryz.runUnderlying32 pl32 ?_
  refine Eq.trans (b := Instr.fill (#[(0, 1), (1, 1), (2, 32), (34, 1), (35, 1), (36, 1)][·]?) (⟨pkN k n r (.slice none 0 0) (.slice none 0 0) (.slice none 0 0)⟩ : Array Value) [(3, v)]) (by kernel_rfl) ?_
  exact fillN hv k n r rfl
theorem bldN4r {v : Value} (hv : v.oneCell' = true) (k n : Int) (r : Sm) : ∀ w, (Instr.build 43 ⟨[(0, .int .i64 k), (1, .int .i64 n), (2, .agg ⟨sC r⟩), (3, v)]⟩).run Tryz.prog w = .ok (.agg ⟨pkN k n r v (.slice none 0 0) (.slice none 0 0)⟩) w := by
  refine Z4 Tryz.zeroValue43 Tryz.runUnderlying43 pl43 ?_
  refine Eq.trans (b := Instr.fill (#[(0, 1), (1, 1), (2, 32), (34, 1), (35, 1), (36, 1)][·]?) (⟨pkN k n r (.slice none 0 0) (.slice none 0 0) (.slice none 0 0)⟩ : Array Value) [(3, v)]) (by kernel_rfl) ?_
  exact fillN hv k n r rfl
theorem bldN3r (k n : Int) (r : Sm) : ∀ w, (Instr.build 43 ⟨[(0, .int .i64 k), (1, .int .i64 n), (2, .agg ⟨sC r⟩)]⟩).run Tryz.prog w = .ok (.agg ⟨pkN k n r (.slice none 0 0) (.slice none 0 0) (.slice none 0 0)⟩) w :=
  Z4 Tryz.zeroValue43 Tryz.runUnderlying43 pl43 (by kernel_rfl)
theorem bldNCr {p t : List Value} {v : Value} (hp : p.length = 35) (hv : v.oneCell' = true) (ht : t.length = 37) :
    ∀ w, (Instr.build 100 ⟨[(0, .agg ⟨p⟩), (1, v), (2, .agg ⟨t⟩)]⟩).run Tryz.prog w = .ok (.agg ⟨p ++ ([v] ++ t)⟩) w := by
  refine Z4 Tryz.zeroValue100 Tryz.runUnderlying100 pl100 ?_
  refine Eq.trans (congrArg (fun c => Instr.fill _ c _) (show _ = (⟨[] ++ (pkP 0 0 zS (.slice none 0 0) ++ ([.slice none 0 0] ++ pkN 0 0 zS (.slice none 0 0) (.slice none 0 0) (.slice none 0 0)))⟩ : Array Value) by kernel_rfl)) ?_
  refine YQ (off := 0) (sz := 35) (l := p) rfl rfl hp rfl rfl ?_
  refine Eq.trans (congrArg (fun c => Instr.fill _ c _) (show _ = (⟨p ++ ([.slice none 0 0] ++ pkN 0 0 zS (.slice none 0 0) (.slice none 0 0) (.slice none 0 0))⟩ : Array Value) from by rw [List.nil_append])) ?_
  refine YQ (off := 35) (sz := 1) (l := [v]) rfl (ZK hv) rfl hp rfl ?_
  refine Eq.trans (congrArg (fun c => Instr.fill _ c _) (show _ = (⟨(p ++ [v]) ++ (pkN 0 0 zS (.slice none 0 0) (.slice none 0 0) (.slice none 0 0) ++ [])⟩ : Array Value) from by rw [List.append_nil, List.append_assoc])) ?_
  refine YQ (off := 36) (sz := 37) (l := t) rfl rfl ht (by rw [List.length_append, hp]; rfl) rfl ?_
  rw [List.append_nil, List.append_assoc]
  rfl
end Go.Proofs.YtmophpgiaiemhaaGreat.Hs
/-! Walks, printed by a program of this session's own (gen.py). -/
namespace Go.Proofs.YtmophpgiaiemhaaGreat.Hs
open Go Go.Proofs
set_option maxRecDepth 100000
set_option linter.unusedVariables false
set_option linter.unusedSimpArgs false
attribute [local irreducible] JL J CT wlo DT
set_option maxHeartbeats 2000000 in
theorem namedR_ct : ∀ (t : Tm) (s : List ByteArray) (cs : List Value) (v : Value) (H : Heap), RT H cs t → Hs.rdS RS 1 H v s → scT s.length t → tidy t → s.length + 2 * sizeT t ≤ 1000000 → CT Tryz.prog 57 ⟨[.agg ⟨cs⟩, v]⟩ [] H (fun r N => ∃ cs k, r = .agg ⟨cs⟩ ∧ N = [k] ∧ OM (nmT t s) cs k) := by
 intro t
 induction t using Tm.ind with
 | h kind num ref kids cases ih ih' =>
 intro s cs v H ht hs hsc htd hz
 obtain ⟨ks, cv, rfl, hk, hn, hks, hcv⟩ := RT_mk.1 ht
 have hkl := Xx kids
 have hcl := Xy cases
 rw [scT] at hsc
 rw [sizeT] at hz
 obtain ⟨hsv, hsk, hscc⟩ := hsc
 rw [tidy] at htd
 obtain ⟨htv, htk, htc⟩ := htd
 refine Zm Tryz.func57 rfl rfl <| Zc <| Za <| JLr (Zo (l := pkT kind num ref ks cv) rfl rfl fun b1 => JLr (Zn (l := pkN 0 0 zS nS nS nS) Tryz.zeroValue43 rfl fun b2 => Zb <| Zc <| Za <| JLq (pp b1 0) (ZO rfl rfl) <| JLr (Ze ty3 rfl (At.bx 1 rfl) (Z3 ..) <| JLq (pp b1 1) (ZZ rfl rfl) <| JLr (Ze ty3 rfl (At.bx 1 rfl) (Yh ..) <| JLq (pp b1 2) (fa27_2 rfl rfl) ?_))))
 refine JLr (Zg Xm rfl (At.bx 1 rfl) (pkT_2 ..) <| JLq (.agg ⟨pkN kind num ref nS nS nS⟩) (Pu.build (pv := [(0, iv kind), (1, iv num), (2, .agg ⟨sC ref⟩)]) (l := pkN kind num ref nS nS nS) rfl (bldN3r _ _ _)) <| JLr (Zn (l := pkN 0 0 zS nS nS nS) Tryz.zeroValue43 rfl fun b3 => JLr (Zd 0 (vs := pkN kind num ref nS nS nS) (l := pkN kind num ref nS nS nS) Y8 rfl rfl rfl rfl rfl (YZ rfl rfl rfl) (pkN_s ..) <| Zb <| Zc <| Zc <| Za <| JLq (pp b1 0) (ZO rfl rfl) <| JLr (Ze ty3 rfl (At.bx 2 rfl) (Z3 ..) <| JLn (Pu.eql rfl rfl) <| Zb <| Zf rfl (fun h4 => ?_) (fun h4 => ?_)))))
 ·replace h4 := dt h4
  refine Zc ?_
  have hsvk := h4
  have hsv1 := hsv h4
  refine ZF mixed #[0, 0, 2, 7, 15, 31, 0, 64, 255, 511] 8 [some 21, some 22, some 23, some 24, some 25, some 26, some 27, none] [(7, 8)] [(5, fun _ _ vw qw => ∃ b k, vw = .slice (some ⟨b, 0, none⟩) 1 1 ∧ qw = [k] ∧ Own 9 1 (.slice (some ⟨b, 0, none⟩) 1 1) [[.string (s[num.toNat])]] k ∧ k = (BX b (List.flatten [[.string (s[num.toNat])]]) 9)), (7, fun _ _ vw qw => vw = undef ∧ qw = [(BX b3 (pkN kind 0 ref nS nS nS) 43)])] rfl (by kernel_rfl) rfl (by kernel_rfl) <| Dm v <| Dq (pp b1 1) (fun _ => ZZ rfl rfl) <| Dl1 ty3 (At.bx 1 rfl) (Yh ..) ?_
  obtain ⟨b7, o7, cap7, row7, T7, fr7, cs7, hv7, hb7, hs7, hE7⟩ := hs.get num.toNat (by first | assumption | omega | decide | simp)
  refine Dq (pp b7 (o7 + num.toNat * 1)) (fun _ => Pu.idx num.toNat Tryz.runUnderlying28 ty9 hv7 rfl (by first | rfl | omega) (by first | assumption | omega | decide | simp)) <| Dl1 ty9 (At.im hb7) (Yi ((show cs7 = [Value.string (s[num.toNat])] from hE7) ▸ hs7)) <| Dr rfl (fun _ => Zp (vs := [.string (s[num.toNat])]) [[.string (s[num.toNat])]] Tryz.runUnderlying28 el9 rfl rfl (by intro e he; simp only [List.mem_cons, List.not_mem_nil, or_false] at he; subst he; exact rfl) rfl (by decide) fun b k h1 h2 => ⟨[k], by rw [ZR rfl]; exact Sub.refl, b, k, rfl, rfl, h1, h2⟩) (fun _ _ ⟨b8, k8, e1, e2, ho8, hk8⟩ => ?_); subst e1 e2
  refine Dq (pp b3 1) (fun _ => fa43_1 rfl rfl) <| Dr rfl (fun _ => Zd 0 (vs := [iv 0]) (l := pkN kind 0 ref nS nS nS) ty3 rfl rfl rfl rfl rfl (Zk rfl Zq) (pkN_s1 ..) ⟨[_], keptE (i := 0) rfl rfl, rfl, rfl⟩) ?_; rintro _ _ ⟨rfl, rfl⟩
  refine ZL (M' := [(BX b3 (pkN kind 0 ref nS nS nS) 43), k8, (BX b2 (pkN 0 0 zS nS nS nS) 43), (BX b1 (pkT kind num ref ks cv) 27)]) rfl ?_
  show JL _ _ _ [_, _] _ _ _
  refine JLq (pp b3 34) (fa43_3 rfl rfl) <| JLr (Zd 0 (vs := [.slice (some ⟨b8, 0, none⟩) 1 1]) (l := pkN kind 0 ref (.slice (some ⟨b8, 0, none⟩) 1 1) nS nS) Yy rfl rfl rfl rfl rfl (Zk rfl Zq) (pkN_s34 ..) <| Zb <| Zc <| Za <| JLr (Zg Y8 rfl (At.bx 0 rfl) (XA ..) <| JLr (Zd 2 (vs := pkN kind 0 ref (.slice (some ⟨b8, 0, none⟩) 1 1) nS nS) (l := pkN kind 0 ref (.slice (some ⟨b8, 0, none⟩) 1 1) nS nS) Y8 rfl rfl rfl rfl rfl (YZ rfl rfl rfl) (pkN_s ..) <| Zb <| Zh <| ⟨.agg ⟨pkN kind 0 ref (.slice (some ⟨b8, 0, none⟩) 1 1) nS nS⟩, [k8], Ret.one rfl (RV.cell Y8 rfl (At.bx 2 rfl) (XA ..)), (Sd (Sk Sub.nil)), ?_⟩)))
  obtain ⟨-, rfl, rfl⟩ := htv hsvk
  exact ⟨_, _, rfl, rfl, by rw [nmT, vN_pos hsvk (by omega), if_pos hsvk]; exact OM_mk.2 ⟨_, _, _, _, _, _, _, _, _, _, rfl, hk, by unfold inI; omega, ho8, Own.nil, by simpa [nmKs] using OMs.nil, Own.nil, by simpa [nmCs] using OMCs.nil, by simp, by simp [nmNs], by simp [nmKs], by simp [nmCs]⟩⟩
 replace h4 := df h4
 refine Zi <| Zc <| Zc ?_
 have hk1 := h4
 refine Za <| JLA rfl <| Zb <| Zl <| ZE (fun k ρ M => ∃ (j : Nat) (mv : Value) (q1 : Zj) (w : Value) (es : List (List Value)) (q2 q3 : Zj), ρ 1 = v ∧ ρ 2 = pp b1 0 ∧ ρ 4 = pp b2 0 ∧ ρ 5 = pp b3 0 ∧ ρ 6 = iv ((j : Int)) ∧ Sub [(BX b3 (pkN kind num ref mv w nS) 43), q1, q2, q3, (BX b2 (pkN 0 0 zS nS nS nS) 43), (BX b1 (pkT kind num ref ks cv) 27)] M ∧ j ≤ kids.length ∧ Own 9 1 mv (Z0 (nmNs kind s 0 (kids.take j))) q1 ∧ Own 43 37 w es q2 ∧ OMs (nmKs kind s 0 (kids.take j)) es q3 ∧ k = kids.length - j) _ ⟨0, nS, [], nS, [], [], [], rfl, rfl, rfl, rfl, rfl, (Sk (Sub.emp (Sub.emp (Sub.emp (Sk (Sk Sub.nil)))))), Nat.zero_le _, (by simpa [nmNs] using (show Own _ _ _ (Z0 []) _ from Own.nil)), Own.nil, (by simpa [nmKs] using OMs.nil), rfl⟩ ?_
 rintro _ ρ9 _ ⟨j, mv, q1, w, es, q2, q3, e10, e11, e12, e13, e14, hm15, hj, ho1, ho2, hop, rfl⟩
 obtain ⟨ρ16, rfl⟩ := Zr (uc e10 (uc e11 (uc e12 (uc e13 (uc e14 un)))))
 clear e10 e11 e12 e13 e14
 refine ZJ hm15 <| Zc <| Zc <| Za <| JLM rfl <| JLq (pp b1 34) (Z8 rfl rfl) <| JLr (Ze YW rfl (At.bx 5 rfl) (Yb ..) ?_)
 obtain ⟨a17, cap17, hv17⟩ := hks.sl
 have hle17 := hks.le
 refine JLn (Pu.lenSl Tryz.runUnderlying24 hv17) <| JLn (Pu.lss rfl rfl) <| Zb <| Zf rfl (fun h18 => ?_) (fun h18 => ?_)
 ·replace h18 := dt h18
  have h18n : j < kids.length := by omega
  have hz1 := YY _ (List.getElem_mem h18n)
  have hm1 := Xu kind j
  have hel := OMs_len hop
  rw [nmKs_len, List.length_take] at hel
  have hnl := nmNs_le kind s (kids.take j) 0
  rw [List.length_take] at hnl
  refine Zi <| Zc <| Zl <| Zc <| Za <| JLm v <| JLq (pp b1 0) (ZO rfl rfl) <| JLr (Ze ty3 rfl (At.bx 5 rfl) (Z3 ..) <| JLM rfl <| Jc Tryz.call98 rfl (fun hin => moreR_ct _ _ _) rfl ?_)
  rintro _ _ ⟨rfl, rfl⟩
  refine Jc Tryz.call97 rfl (fun hin => chosenRI_ct _ (ZB kind ((j : Int))) _ _ (RSs.mono (Hle.hu _ _) hs) (by omega) (by omega)) rfl ?_
  rintro u19 _ ⟨_, k19, hu19, rfl, ho19⟩; subst hu19
  have hcl19 := Yd s (ZB kind ((j : Int))).toNat
  refine JLa u19 <| Zb <| Zc <| Za <| JLq (pp b3 34) (fa43_3 rfl rfl) <| JLr (Ze Yy rfl (At.bx 1 rfl) (Xw ..) <| JLm u19 <| JLr (ZA (i := 2) (n := (ZX s (ZB kind ((j : Int))).toNat).length) (es' := Z0 (ZX s (ZB kind ((j : Int))).toNat)) Tryz.runUnderlying28 Tryz.runUnderlying28 (Or.inl rfl) el9 rfl rfl rfl ho1 (own_src (i := 0) ho19 rfl) (ZT _) (strs_len1 _) (strs_ok _) (by decide) (by first | omega | (simp only [ZT, List.length_append]; omega)) fun v20 k20 ho20 => ?_))
  rw [← strs_app] at ho20
  refine JLq (pp b3 34) (fa43_3 rfl rfl) <| JLr (Zd 1 (vs := [v20]) (l := pkN kind num ref v20 w nS) Yy rfl rfl rfl (ZK ho20.one) rfl (Zk ho20.one Zq) (pkN_s34 ..) <| Zb <| ZF mixed #[0, 1, 0, 4, 0, 28, 60, 0, 0, 384, 1020, 2044, 4095, 8191, 16383] 12 [some 48, some 49, some 50, some 51, some 52, some 53, some 54, some 55, some 56, some 57, some 58, some 59] [] [(9, fun _ _ vw qw => ∃ u k, vw = u ∧ qw = [k] ∧ Own 9 1 u (Z0 (ZY s (ZX s (ZB kind ((j : Int))).toNat))) k), (10, fun _ _ vw qw => ∃ cs k, vw = .agg ⟨cs⟩ ∧ qw = [k] ∧ OM (nmT (kids[j]) (ZY s (ZX s (ZB kind ((j : Int))).toNat))) cs k), (11, fun r _ vw qw => ∃ b k, vw = .slice (some ⟨b, 0, none⟩) 1 1 ∧ qw = [k] ∧ Own 43 37 (.slice (some ⟨b, 0, none⟩) 1 1) [(cel (r 10))] k ∧ k = (BX b (List.flatten [(cel (r 10))]) 43))] rfl (by kernel_rfl) rfl (by kernel_rfl) <| Dq (pp b3 35) (fun _ => fa43_4 rfl rfl) <| Dl1 ty40 (At.bx 1 rfl) (Xa ..) <| Dq (pp b1 34) (fun _ => Z8 rfl rfl) <| Dl1 YW (At.bx 6 rfl) (Yb ..) <| DM (fun _ => rfl) ?_)
  obtain ⟨b25, o25, cap25, row25, T25, fr25, cs25, hv25, hb25, hs25, hE25⟩ := hks.get j (by first | assumption | omega | decide | simp)
  refine Dq (pp b25 (o25 + j * 36)) (fun _ => Pu.idx j Tryz.runUnderlying24 Zs hv25 rfl rfl (by first | assumption | omega | decide | simp)) <| Dl Zs (At.im hb25) hs25 <| Dm v <| Dm u19 <| Dc rfl Tryz.call99 (fun _ => rfl) (fun hin => frontR_ct _ _ _ _ _ (RSs.mono (Hle.hu _ _) hs) (Yc ho19 (by first | omega | (simp only [ZW, List.length_take, List.length_append]; omega)) (hin 0 _ rfl)) (by omega)) ?_
  rintro u26 _ ⟨_, k26, hu26, rfl, ho26⟩; subst hu26
  have hcl26 := ZW s (ZX s (ZB kind ((j : Int))).toNat)
  refine Dc rfl Tryz.call57 (fun _ => rfl) (fun hin => ih _ (List.getElem_mem h18n) _ _ _ _ (RT.mono (Hle.hu _ _) hE25) (Yc ho26 (by first | omega | (simp only [ZW, List.length_take, List.length_append]; omega)) (hin 0 _ rfl)) (by rw [ZW, Yd]; exact scKs_get0 h18n hsk) (tidyK_mem htk _ (List.getElem_mem h18n)) (by rw [ZW, Yd]; omega)) ?_
  rintro _ _ ⟨cs27, k27, rfl, rfl, hO27⟩
  refine Dr rfl (fun _ => Zp (vs := [.agg ⟨cs27⟩]) [cs27] Tryz.runUnderlying40 el43 rfl rfl (by intro e he; simp only [List.mem_cons, List.not_mem_nil, or_false] at he; subst he; exact hO27.len) rfl (by decide) fun b k h1 h2 => ⟨[k], by rw [ZR rfl]; exact Sub.refl, b, k, rfl, rfl, h1, h2⟩) (fun _ _ ⟨b28, k28, e1, e2, ho28, hk28⟩ => ?_); subst e1 e2
  refine ZL (M' := [k28, k27, k26, k19, (BX b3 (pkN kind num ref v20 w nS) 43), k20, q2, q3, (BX b2 (pkN 0 0 zS nS nS nS) 43), (BX b1 (pkT kind num ref ks cv) 27)]) rfl ?_
  show JL _ _ _ [_, _, _] _ _ _
  have hlens29 : ∀ e ∈ ([cs27] : List (List Value)), List.length e = 37 := by
   intro e he; simp only [List.mem_cons, List.not_mem_nil, or_false] at he
   rcases he with rfl
   ·exact hO27.len
  have hoks29 : ∀ e ∈ ([cs27] : List (List Value)), okc e := by
   intro e he; simp only [List.mem_cons, List.not_mem_nil, or_false] at he
   rcases he with rfl
   ·exact hO27.ok
  refine JLr (ZA (i := 6) (n := 1) (es' := [cs27]) Tryz.runUnderlying40 Tryz.runUnderlying40 (Or.inl rfl) el43 rfl rfl rfl ho2 (fun F w m => Src.row (((At.k 0 rfl (by rw [hk28]; exact List.mem_cons_self))).heap m) (Zt (Zz hlens29))) rfl hlens29 hoks29 (by decide) (by first | omega | (simp only [ZT, List.length_append]; omega)) fun v29 k29 ho29 => JLq (pp b3 35) (fa43_4 rfl rfl) <| JLr (Zd 4 (vs := [v29]) (l := pkN kind num ref v20 v29 nS) ty40 rfl rfl rfl (ZK ho29.one) rfl (Zk ho29.one Zq) (pkN_s35 ..) <| Zb <| Za <| JLM rfl <| JLn (Pu.inc rfl rfl (by omega)) <| JLA rfl <| Zb <| ⟨_, ?_, (j + 1), v20, k20, v29, (es ++ [cs27]), k29, (q3 ++ k27), rfl, rfl, rfl, rfl, rfl, (Sd (Sub.cons 3 rfl (Sub.cons 3 rfl (Sub.cons 3 rfl (Sub.join (Sub.cons 3 rfl (Sk (Sd (Sd (Sk (Sk Sub.nil))))))))))), ?_, ?_, ?_, ?_, rfl⟩))
  ·omega
  ·omega
  ·rw [nmNs_take0 kind s kids j h18n]; exact ho20
  ·exact ho29
  rw [nmKs_take0 kind s kids j h18n]; exact OMs.snoc hO27 hop
 replace h18 := df h18
 have h18n : kids.length ≤ j := by omega
 refine Zy _ rfl <| Zc <| Zc <| Za <| JLA rfl <| Zb <| Zl ?_
 have hjk := h18n
 rw [List.take_of_length_le hjk] at ho1 hop
 refine ZE (fun k ρ M => ∃ (j : Nat) (y : Value) (es2 : List (List Value)) (q4 q5 : Zj), ρ 1 = v ∧ ρ 2 = pp b1 0 ∧ ρ 4 = pp b2 0 ∧ ρ 5 = pp b3 0 ∧ ρ 8 = iv ((j : Int)) ∧ Sub [(BX b3 (pkN kind num ref mv w y) 43), q4, q5, q1, q2, q3, (BX b2 (pkN 0 0 zS nS nS nS) 43), (BX b1 (pkT kind num ref ks cv) 27)] M ∧ j ≤ cases.length ∧ Own 100 73 y es2 q4 ∧ OMCs (nmCs s (cases.take j)) es2 q5 ∧ k = cases.length - j) _ ⟨0, nS, [], [], [], rfl, rfl, rfl, rfl, rfl, (Sk (Sub.emp (Sub.emp (Sk (Sk (Sk (Sk (Sk Sub.nil)))))))), Nat.zero_le _, Own.nil, (by simpa [nmCs] using OMCs.nil), rfl⟩ ?_
 rintro _ ρ30 _ ⟨j, y, es2, q4, q5, e31, e32, e33, e34, e35, hm36, hj, ho3, hopw, rfl⟩
 obtain ⟨ρ37, rfl⟩ := Zr (uc e31 (uc e32 (uc e33 (uc e34 (uc e35 un)))))
 clear e31 e32 e33 e34 e35
 refine ZJ hm36 <| Zc <| Zc <| Za <| JLM rfl <| JLq (pp b1 35) (Z1 rfl rfl) <| JLr (Ze YI rfl (At.bx 7 rfl) (Z2 ..) ?_)
 obtain ⟨a38, cap38, hv38⟩ := hcv.sl
 have hle38 := hcv.le
 refine JLn (Pu.lenSl Tryz.runUnderlying25 hv38) <| JLn (Pu.lss rfl rfl) <| Zb <| Zf rfl (fun h39 => ?_) (fun h39 => ?_)
 ·replace h39 := dt h39
  have h39n : j < cases.length := by omega
  have hz1 := YK _ (List.getElem_mem h39n)
  have hm1 := YS (cases[j]).1
  have hel := OMCs_len hopw
  rw [nmCs_len, List.length_take] at hel
  refine Zi <| Zc <| Zl <| Zc <| Za <| JLq (pp b1 35) (Z1 rfl rfl) <| JLr (Ze YI rfl (At.bx 7 rfl) (Z2 ..) <| JLM rfl ?_)
  obtain ⟨b40, o40, cap40, row40, T40, fr40, cs40, hv40, hb40, hs40, hE40⟩ := hcv.get j (by first | assumption | omega | decide | simp)
  obtain ⟨ca40, cb40, rfl, hA40, hB40⟩ := hE40
  refine JLq (pp b40 (o40 + j * 71)) (Pu.idx j Tryz.runUnderlying25 YM hv40 rfl rfl (by first | assumption | omega | decide | simp)) <| JLr (Zg YM rfl (At.im hb40) hs40 <| JLr (Zn (l := (pkP 0 0 zS nS) ++ (pkT 0 0 zS nS nS)) Tryz.zeroValue80 rfl fun b41 => JLr (Zd 0 (vs := ca40 ++ cb40) (l := ca40 ++ cb40) YM rfl rfl rfl rfl (Zw (Zu hA40) (Zv hB40)) (ZN (Xj hA40) (XC hB40)) (ZM (n := 71) rfl (Zw (Zu hA40) (Zv hB40))) <| Zb <| Zc <| Za <| JLm v <| JLq (pp b41 0) (Y1 rfl rfl) <| JLr (Zg Z6 rfl (At.bx 0 rfl) (YE (Zu hA40)) <| Jc Tryz.call100 rfl (fun hin => bindsR_ct _ _ _ (RP.mono (Hle.hu _ _) hA40) (by omega)) rfl ?_))))
  rintro _ _ ⟨rfl, rfl⟩
  refine Jc Tryz.call97 rfl (fun hin => chosenRI_ct _ ((binds (cases[j].1) : Int)) _ _ (RSs.mono (Hle.hu _ _) hs) (by omega) (by omega)) rfl ?_
  rintro u42 _ ⟨_, k42, hu42, rfl, ho42⟩; subst hu42
  have hcl42 := Yd s ((binds (cases[j].1) : Int)).toNat
  refine JLa u42 <| Zb <| ZF mixed #[0, 1, 0, 4, 12, 0, 0, 64, 0, 0, 796, 2012, 4092, 8188, 16383, 32767, 65535] 14 [some 79, some 80, some 81, some 82, some 83, some 84, some 85, some 86, some 87, some 88, some 89, some 90, some 91, some 92] [] [(4, fun _ _ vw qw => ∃ cs k, vw = .agg ⟨cs⟩ ∧ qw = [k] ∧ OP (cases[j].1) cs k), (10, fun _ _ vw qw => ∃ u k, vw = u ∧ qw = [k] ∧ Own 9 1 u (Z0 (ZY s (ZX s ((binds (cases[j].1) : Int)).toNat))) k), (11, fun _ _ vw qw => ∃ cs k, vw = .agg ⟨cs⟩ ∧ qw = [k] ∧ OM (nmT (cases[j].2) (ZY s (ZX s ((binds (cases[j].1) : Int)).toNat))) cs k), (13, fun r _ vw qw => ∃ b k, vw = .slice (some ⟨b, 0, none⟩) 1 1 ∧ qw = [k] ∧ Own 100 73 (.slice (some ⟨b, 0, none⟩) 1 1) [((cel (r 4))) ++ (([u42]) ++ ((cel (r 11))))] k ∧ k = (BX b (List.flatten [((cel (r 4))) ++ (([u42]) ++ ((cel (r 11))))]) 100))] rfl (by kernel_rfl) rfl (by kernel_rfl) <| Dq (pp b3 36) (fun _ => fa43_5 rfl rfl) <| Dl1 ty41 (At.bx 2 rfl) (YP ..) <| Dq (pp b41 0) (fun _ => Y1 rfl rfl) <| Dl Z6 (At.bx 1 rfl) (YE (Zu hA40)) <| Dc rfl Tryz.call101 (fun _ => rfl) (fun hin => ownPatternR_ct _ _ _ (RP.mono (Hle.hu _ _) hA40) (by omega)) ?_
  rintro _ _ ⟨cs47, k47, rfl, rfl, hO47⟩
  refine Dm u42 <| Dq (pp b41 35) (fun _ => fa80_1 rfl rfl) <| Dl Zs (At.bx 1 rfl) (Xg (Zu hA40) (Zv hB40)) <| Dm v <| Dm u42 <| Dc rfl Tryz.call99 (fun _ => rfl) (fun hin => frontR_ct _ _ _ _ _ (RSs.mono (Hle.hu _ _) hs) (Yc ho42 (by first | omega | (simp only [ZW, List.length_take, List.length_append]; omega)) (hin 1 _ rfl)) (by omega)) ?_
  rintro u48 _ ⟨_, k48, hu48, rfl, ho48⟩; subst hu48
  have hcl48 := ZW s (ZX s ((binds (cases[j].1) : Int)).toNat)
  refine Dc rfl Tryz.call57 (fun _ => rfl) (fun hin => ih' _ (List.getElem_mem h39n) _ _ _ _ (RT.mono (Hle.hu _ _) hB40) (Yc ho48 (by first | omega | (simp only [ZW, List.length_take, List.length_append]; omega)) (hin 0 _ rfl)) (by rw [ZW, Yd]; exact scCs_get h39n hscc) (tidyC_mem htc _ (List.getElem_mem h39n)) (by rw [ZW, Yd]; omega)) ?_
  rintro _ _ ⟨cs49, k49, rfl, rfl, hO49⟩
  refine Dq (.agg ⟨cs47 ++ (([u42]) ++ cs49)⟩) (fun _ => Pu.build (pv := [(0, .agg ⟨cs47⟩), (1, u42), (2, .agg ⟨cs49⟩)]) (l := cs47 ++ (([u42]) ++ cs49)) rfl (bldNCr hO47.len ho42.one hO49.len)) <| Dr rfl (fun _ => Zp (vs := [.agg ⟨cs47 ++ (([u42]) ++ cs49)⟩]) [cs47 ++ (([u42]) ++ cs49)] Tryz.runUnderlying41 el100 rfl rfl (by intro e he; simp only [List.mem_cons, List.not_mem_nil, or_false] at he; subst he; exact (Zw hO47.len (Zw rfl hO49.len))) rfl (by decide) fun b k h1 h2 => ⟨[k], by rw [ZR rfl]; exact Sub.refl, b, k, rfl, rfl, h1, h2⟩) (fun _ _ ⟨b50, k50, e1, e2, ho50, hk50⟩ => ?_); subst e1 e2
  refine ZL (M' := [k50, k49, k48, k47, k42, (BX b41 (ca40 ++ cb40) 80), (BX b3 (pkN kind num ref mv w y) 43), q4, q5, q1, q2, q3, (BX b2 (pkN 0 0 zS nS nS nS) 43), (BX b1 (pkT kind num ref ks cv) 27)]) rfl ?_
  show JL _ _ _ [_, _, _] _ _ _
  have hlens51 : ∀ e ∈ ([cs47 ++ (([u42]) ++ cs49)] : List (List Value)), List.length e = 73 := by
   intro e he; simp only [List.mem_cons, List.not_mem_nil, or_false] at he
   rcases he with rfl
   ·exact (Zw hO47.len (Zw rfl hO49.len))
  have hoks51 : ∀ e ∈ ([cs47 ++ (([u42]) ++ cs49)] : List (List Value)), okc e := by
   intro e he; simp only [List.mem_cons, List.not_mem_nil, or_false] at he
   rcases he with rfl
   ·exact (ZN hO47.ok (ZN (Zk ho42.one Zq) hO49.ok))
  refine JLr (ZA (i := 7) (n := 1) (es' := [cs47 ++ (([u42]) ++ cs49)]) Tryz.runUnderlying41 Tryz.runUnderlying41 (Or.inl rfl) el100 rfl rfl rfl ho3 (fun F w m => Src.row (((At.k 0 rfl (by rw [hk50]; exact List.mem_cons_self))).heap m) (Zt (Zz hlens51))) rfl hlens51 hoks51 (by decide) (by first | omega | (simp only [ZT, List.length_append]; omega)) fun v51 k51 ho51 => JLq (pp b3 36) (fa43_5 rfl rfl) <| JLr (Zd 6 (vs := [v51]) (l := pkN kind num ref mv w v51) ty41 rfl rfl rfl (ZK ho51.one) rfl (Zk ho51.one Zq) (pkN_s36 ..) <| Zb <| Za <| JLM rfl <| JLn (Pu.inc rfl rfl (by omega)) <| JLA rfl <| Zb <| ⟨_, ?_, (j + 1), v51, (es2 ++ [cs47 ++ (([u42]) ++ cs49)]), k51, (q5 ++ (k47 ++ (k42 ++ k49))), rfl, rfl, rfl, rfl, rfl, (Sd (Sub.cons 5 rfl (Sub.cons 5 rfl (Sub.join4 (Sub.cons 5 rfl (Sub.cons 2 rfl (Sub.cons 2 rfl (Sk (Sd (Sd (Sk (Sk (Sk (Sk (Sk Sub.nil))))))))))))))), ?_, ?_, ?_, rfl⟩))
  ·omega
  ·omega
  ·exact ho51
  rw [nmCs_take s cases j h39n]; exact OMCs.snoc hO47 ho42 (by rw [Yd]; omega) hO49 hopw
 replace h39 := df h39
 have h39n : cases.length ≤ j := by omega
 refine Zy _ rfl <| Zc <| Za <| JLr (Zg Y8 rfl (At.bx 0 rfl) (XA ..) <| JLr (Zd 6 (vs := pkN kind num ref mv w y) (l := pkN kind num ref mv w y) Y8 rfl rfl rfl rfl rfl (YZ ho1.one ho2.one ho3.one) (pkN_s ..) <| Zb <| Zh <| ⟨.agg ⟨pkN kind num ref mv w y⟩, [q1 ++ (q2 ++ (q3 ++ (q4 ++ q5)))], Ret.one rfl (RV.cell Y8 rfl (At.bx 6 rfl) (XA ..)), (Sub.join5 (Sd (Sub.cons 2 rfl (Sub.cons 2 rfl (Sub.cons 2 rfl (Sk (Sk Sub.nil))))))), ?_⟩))
 rw [List.take_of_length_le h39n] at hopw
 have hl0 := nmNs_le kind s kids 0
 exact ⟨_, _, rfl, rfl, by rw [nmT, vN_neg hk1, List.nil_append, if_neg hk1]; exact OM_mk.2 ⟨_, _, _, _, _, _, _, _, _, _, rfl, hk, hn, ho1, ho2, hop, ho3, hopw, rfl, by omega, by rw [nmKs_len]; omega, by rw [nmCs_len]; omega⟩⟩
end Go.Proofs.YtmophpgiaiemhaaGreat.Hs
/-! Walks, printed by a program of this session's own (gen.py). -/
namespace Go.Proofs.YtmophpgiaiemhaaGreat.Hs
open Go Go.Proofs
set_option maxRecDepth 100000
set_option linter.unusedVariables false
set_option linter.unusedSimpArgs false
attribute [local irreducible] JL J CT wlo DT
theorem nameR_ct (t : Tm) (s : List ByteArray) (cs : List Value) (v : Value) (H : Heap) (ht : RT H cs t) (hs : strR H v s) (hsl : s.length ≤ 1000) (hr : ZS [t] = 0) : CT Tryz.prog 15 ⟨[.agg ⟨cs⟩, v]⟩ [] H (fun r N => ∃ cs k, r = .tuple ⟨[.agg ⟨cs⟩, iv (YJ t s).2]⟩ ∧ N = [k] ∧ OM (YJ t s).1 cs k) := by
 obtain ⟨hsz, -, htd, -⟩ := Yz (rightT1 hr)
 have hfl := freeR_le60 t
 refine Zm Tryz.func15 rfl rfl <| Zc <| Za <| JLr (Zo (l := cs) rfl rfl fun b1 => JLr (Zn (l := pkN 0 0 zS nS nS nS) Tryz.zeroValue43 rfl fun b2 => JLA rfl <| Zb <| Zc <| Zc <| Za <| JLm v <| Jc Tryz.call55 rfl (fun hin => hasR_ct _ emS _ _ (RSs.mono (Hle.hu _ _) hs.rd)) rfl ?_))
 rintro _ _ ⟨rfl, rfl⟩
 refine Zb <| Zf rfl (fun h3 => ?_) (fun h3 => ?_)
 ·refine Zc <| Za <| JLq (.agg ⟨pkN 0 0 zS nS nS nS⟩) (Pu.build (pv := []) (l := pkN 0 0 zS nS nS nS) rfl bld43_) <| JLr (Zd 0 (vs := pkN 0 0 zS nS nS nS) (l := pkN 0 0 zS nS nS nS) Y8 rfl rfl rfl rfl rfl (YZ rfl rfl rfl) (pkN_s ..) <| JLA rfl <| Zb <| Zh <| ⟨.tuple ⟨[.agg ⟨pkN 0 0 zS nS nS nS⟩, iv 4]⟩, [[]], Ret.two rfl (RV.cell Y8 rfl (At.bx 0 rfl) (XA ..)) (RV.tmp rfl), (Sub.emp Sub.nil), ?_⟩)
  have hx := nE_4 hr h3
  exact ⟨_, _, by rw [hx], rfl, by rw [hx]; exact OM_zero⟩
 refine Zi <| Zc <| Zc ?_
 have hemp := h3
 refine Za <| JLA rfl <| Zb <| Zl <| ZE (fun k ρ M => ∃ (j : Nat), ρ 1 = v ∧ ρ 2 = pp b1 0 ∧ ρ 4 = pp b2 0 ∧ ρ 5 = iv 0 ∧ ρ 6 = iv ((j : Int)) ∧ Sub [(BX b2 (pkN 0 0 zS nS nS nS) 43), (BX b1 cs 27)] M ∧ j ≤ s.length ∧ (s.take j).Nodup ∧ k = s.length - j) _ ⟨0, rfl, rfl, rfl, rfl, rfl, (Sk (Sk Sub.nil)), Nat.zero_le _, (by simp), rfl⟩ ?_
 rintro _ ρ4 _ ⟨j, e5, e6, e7, e8, e9, hm10, hj, hnd, rfl⟩
 obtain ⟨ρ11, rfl⟩ := Zr (uc e5 (uc e6 (uc e7 (uc e8 (uc e9 un)))))
 clear e5 e6 e7 e8 e9
 refine ZJ hm10 <| Zc <| Zc <| Za <| JLM rfl <| JLm v ?_
 obtain ⟨a12, cap12, hv12⟩ := hs.rd.sl
 have hle12 := hs.rd.le
 refine JLn (Pu.lenSl Tryz.runUnderlying28 hv12) <| JLn (Pu.lss rfl rfl) <| Zb <| Zf rfl (fun h13 => ?_) (fun h13 => ?_)
 ·replace h13 := dt h13
  have h13n : j < s.length := by omega
  have hlenl := hs.rd.le
  refine Zi <| Zc <| Zl <| Zc <| ZF mixed #[0, 0, 3, 0, 0, 24, 56, 127] 7 [some 17, some 18, some 19, some 20, some 21, some 22, some 23] [] [(2, fun _ _ vw qw => qw = [] ∧ ∀ h, strR h v s → strR h vw (s.take j))] rfl (by kernel_rfl) rfl (by kernel_rfl) <| Dm v <| DM (fun _ => rfl) <| Dr rfl (fun _ => Runs_takeS (n := j) hs (by first | rfl | omega) (by omega) Tryz.runUnderlying28 Tryz.sizeOf9 rfl rfl fun u h1 => ⟨[], by rw [ZR rfl]; exact Sub.refl, rfl, h1⟩) ?_; rintro u16 _ ⟨rfl, hu16⟩
  have hr16 := hu16 _ hs
  refine Dm v <| DM (fun _ => rfl) ?_
  obtain ⟨b17, o17, cap17, row17, T17, fr17, cs17, hv17, hb17, hs17, hE17⟩ := hs.rd.get j (by first | assumption | omega | decide | simp)
  refine Dq (pp b17 (o17 + j * 1)) (fun _ => Pu.idx j Tryz.runUnderlying28 ty9 hv17 rfl rfl (by first | assumption | omega | decide | simp)) <| Dl1 ty9 (At.im hb17) (Yi ((show cs17 = [Value.string (s[j])] from hE17) ▸ hs17)) <| ZL (M' := [(BX b2 (pkN 0 0 zS nS nS nS) 43), (BX b1 cs 27)]) rfl ?_
  show JL _ _ _ [_] _ _ _
  refine Jc Tryz.call55 rfl (fun hin => hasR_ct _ _ _ _ (RSs.mono (Hle.hu _ _) hr16.rd)) rfl ?_
  rintro _ _ ⟨rfl, rfl⟩
  refine Zb <| Zf rfl (fun h18 => ?_) (fun h18 => ?_)
  ·refine Zc <| Za <| JLq (.agg ⟨pkN 0 0 zS nS nS nS⟩) (Pu.build (pv := []) (l := pkN 0 0 zS nS nS nS) rfl bld43_) <| JLr (Zd 0 (vs := pkN 0 0 zS nS nS nS) (l := pkN 0 0 zS nS nS nS) Y8 rfl rfl rfl rfl rfl (YZ rfl rfl rfl) (pkN_s ..) <| JLA rfl <| Zb <| Zh <| ⟨.tuple ⟨[.agg ⟨pkN 0 0 zS nS nS nS⟩, iv 5]⟩, [[]], Ret.two rfl (RV.cell Y8 rfl (At.bx 0 rfl) (XA ..)) (RV.tmp rfl), (Sub.emp Sub.nil), ?_⟩)
   have hx := nE_5 hr hemp h13n h18
   exact ⟨_, _, by rw [hx], rfl, by rw [hx]; exact OM_zero⟩
  refine Zi <| Za <| JLM rfl <| JLn (Pu.inc rfl rfl (by omega)) <| JLA rfl <| Zb <| ⟨_, ?_, (j + 1), rfl, rfl, rfl, rfl, rfl, (Sk (Sk Sub.nil)), ?_, ?_, rfl⟩
  ·omega
  ·omega
  exact nodup_take h13n hnd (by rw [← hasN_any]; exact h18)
 replace h13 := df h13
 have h13n : s.length ≤ j := by omega
 refine Zy _ rfl <| Zc ?_
 have hnd_ : s.Nodup := by rw [List.take_of_length_le h13n] at hnd; exact hnd
 refine Za <| JLr (Zg Zs rfl (At.bx 1 rfl) (Zt (Zv ht)) <| Jc Tryz.call56 rfl (fun hin => freeR_ct _ _ _ (RT.mono (Hle.hu _ _) ht) (by omega)) rfl ?_)
 rintro u19 _ ⟨_, k19, hu19, rfl, ho19⟩; subst hu19
 refine JLa u19 <| Zb <| Zc <| Zc <| Za <| JLm u19 ?_
 obtain ⟨a20, cap20, hv20⟩ := ho19.sl
 rw [ints_len] at hv20
 refine JLn (Pu.lenSl Tryz.runUnderlying92 hv20) <| JLn (Pu.gtr rfl rfl) <| JLM rfl <| Zx 9 [32, 33, 34, 35, 36, 37, 38, 39, 40] [(40, cond (decide (0 < ((Xc t).length : Int))) (.bool (decide ((s.length : Int) ≤ ((Xc t).getD ((Xc t).length - 1) 0)))) undef)] ?_ fun f25 => ?_
 ·cases h21 : (decide (0 < ((Xc t).length : Int))) with
  | true =>
   replace h21 := dt h21
   refine JLm u19 <| JLm u19 ?_
   obtain ⟨a22, cap22, hv22⟩ := ho19.sl
   rw [ints_len] at hv22
   refine JLn (Pu.lenSl Tryz.runUnderlying92 hv22) <| JLn (Pu.sub64 rfl rfl (by first | omega | (constructor <;> omega))) ?_
   obtain ⟨b23, cap23, row23, hv23, hm23, hs23⟩ := ho19.at (j := ((Xc t).length - 1)) (by rw [ints_len]; first | assumption | omega)
   rw [ints_get _ _ (by first | assumption | omega)] at hs23
   rw [← getD_at (l := Xc t) (n := ((Xc t).length - 1)) (by omega)] at hs23
   refine JLq (pp b23 (0 + ((Xc t).length - 1) * 1)) (Pu.idx ((Xc t).length - 1) Tryz.runUnderlying92 ty3 hv23 rfl (by first | rfl | omega) (by rw [ints_len]; first | assumption | omega)) <| JLr (Ze ty3 rfl (At.k 0 rfl hm23) (Yi hs23) <| JLm v ?_)
   obtain ⟨a24, cap24, hv24⟩ := hs.rd.sl
   have hle24 := hs.rd.le
   refine JLn (Pu.lenSl Tryz.runUnderlying28 hv24) <| JLn (Pu.geq rfl rfl) ?_
   exact Zb ⟨⟨rfl, trivial⟩, rfl⟩
  | false =>
   exact ZG rfl ⟨rfl, trivial⟩
 refine JLn (Pu.pickAnd rfl rfl rfl) <| Zb <| Zf rfl (fun h26 => ?_) (fun h26 => ?_)
 ·obtain ⟨h26a, h26b⟩ := Yr h26
  replace h26a := dt h26a
  replace h26b := dt h26b
  refine Zc <| Za <| JLq (.agg ⟨pkN 0 0 zS nS nS nS⟩) (Pu.build (pv := []) (l := pkN 0 0 zS nS nS nS) rfl bld43_) <| JLr (Zd 1 (vs := pkN 0 0 zS nS nS nS) (l := pkN 0 0 zS nS nS nS) Y8 rfl rfl rfl rfl rfl (YZ rfl rfl rfl) (pkN_s ..) <| JLA rfl <| Zb <| Zh <| ⟨.tuple ⟨[.agg ⟨pkN 0 0 zS nS nS nS⟩, iv 1]⟩, [[]], Ret.two rfl (RV.cell Y8 rfl (At.bx 1 rfl) (XA ..)) (RV.tmp rfl), (Sub.emp Sub.nil), ?_⟩)
  have hx := nE_1 hr hemp hnd_ (free_lastn htd (by have := h26; simp_all) (by have := h26; simp_all))
  exact ⟨_, _, by rw [hx], rfl, by rw [hx]; exact OM_zero⟩
 refine Zi <| Zc ?_
 have hall := free_last (t := t) htd (n := s.length) (fun h0 => by have := h26; simp_all)
 have hscT := free_sc hr hall
 refine Za <| JLr (Zg Zs rfl (At.bx 2 rfl) (Zt (Zv ht)) <| JLm v <| Jc Tryz.call57 rfl (fun hin => namedR_ct _ _ _ _ _ (RT.mono (Hle.hu _ _) ht) (RSs.mono (Hle.hu _ _) hs.rd) hscT htd (by omega)) rfl ?_)
 rintro _ _ ⟨cs27, k27, rfl, rfl, hO27⟩
 refine JLr (Zd 2 (vs := cs27) (l := cs27) Y8 rfl rfl rfl rfl hO27.len hO27.ok (ZM (n := 37) rfl hO27.len) <| JLA rfl <| Zb <| Zh <| ⟨.tuple ⟨[.agg ⟨cs27⟩, iv 0]⟩, [k27], Ret.two rfl (RV.cell Y8 rfl (At.bx 2 rfl) (Zt hO27.len)) (RV.tmp rfl), (Sk Sub.nil), ?_⟩)
 have hx := nE_0 hr hemp hnd_ hall
 exact ⟨_, _, by rw [hx], rfl, by rw [hx]; exact hO27⟩
end Go.Proofs.YtmophpgiaiemhaaGreat.Hs
