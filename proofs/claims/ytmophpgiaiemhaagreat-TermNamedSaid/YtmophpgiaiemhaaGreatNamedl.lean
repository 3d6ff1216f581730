import Derived.Test.YtmophpgiaiemhaaGreatNamedk
/-! A case with names, built. -/
namespace Go.Proofs.YtmophpgiaiemhaaGreat.Hs
open Go Go.Proofs
set_option maxRecDepth 100000
theorem bldNC {p t : List Value} {v : Value} (hp : p.length = 35) (hv : v.oneCell' = true) (ht : t.length = 37) :
    ∀ w, (Instr.build 85 ⟨[(0, .agg ⟨p⟩), (1, v), (2, .agg ⟨t⟩)]⟩).run Tryz.prog w = .ok (.agg ⟨p ++ ([v] ++ t)⟩) w := by
  refine ZX Tryz.zeroValue85 Tryz.runUnderlying85 pl85 ?_
  refine Eq.trans (congrArg (fun c => Instr.fill _ c _) (show _ = (⟨[] ++ (pkP 0 0 zS (.slice none 0 0) ++ ([.slice none 0 0] ++ pkN 0 0 zS (.slice none 0 0) (.slice none 0 0) (.slice none 0 0)))⟩ : Array Value) by kernel_rfl)) ?_
  refine fill_cons (off := 0) (sz := 35) (l := p) rfl rfl hp rfl rfl ?_
  refine Eq.trans (congrArg (fun c => Instr.fill _ c _) (show _ = (⟨p ++ ([.slice none 0 0] ++ pkN 0 0 zS (.slice none 0 0) (.slice none 0 0) (.slice none 0 0))⟩ : Array Value) from by rw [List.nil_append])) ?_
  refine fill_cons (off := 35) (sz := 1) (l := [v]) rfl (ZO hv) rfl hp rfl ?_
  refine Eq.trans (congrArg (fun c => Instr.fill _ c _) (show _ = (⟨(p ++ [v]) ++ (pkN 0 0 zS (.slice none 0 0) (.slice none 0 0) (.slice none 0 0) ++ [])⟩ : Array Value) from by rw [List.append_nil, List.append_assoc])) ?_
  refine fill_cons (off := 36) (sz := 37) (l := t) rfl rfl ht (by rw [List.length_append, hp]; rfl) rfl ?_
  rw [List.append_nil, List.append_assoc]
  rfl
theorem Pu.cast {P : Program} {e : Operand → Value} {o : Oper} {b c : Bool} (h : Pu P e o (.bool b)) (q : b = c) : Pu P e o (.bool c) := q ▸ h
theorem long_size {n : Nm} (h : (cnN stL 1 n 0).1 = false) : sizeT (skN n) ≤ 300 := by
  have h1 := cnT_size (skN n) 1 0 h
  have h2 := cnN_keep stL_le n 1 0 (by omega) h
  have h3 : (cnN stL 1 n 0).2 = (cnT stL 1 (skN n) 0).2 := rfl
  omega
theorem rd_noneS {h : Heap} {v : Value} {l : List ByteArray} {a : Option Addr} {n cap : Nat} (r : Hs.rdS RS 1 h v l) (hv : v = .slice a n cap) (ha : a.isNone = true) : l = [] := by
  obtain ⟨a', c', e, _, h0 | ⟨b, o, row, T, fr, e1, _⟩⟩ := r
  · exact List.eq_nil_of_length_eq_zero h0
  · rw [hv] at e; cases e; subst e1; cases ha
theorem Sub.join5 {M R : List Zk} {a b c d e : Zk} (h : Sub (a :: b :: c :: d :: e :: R) M) : Sub ((a ++ (b ++ (c ++ (d ++ e)))) :: R) M := h.flat (by simp)
/-- What is chosen, for a number of which one knows that it is none below 0. -/
theorem nmNs_le (k : Int) (s : List ByteArray) (l : List Tm) : ∀ i, (Yv k s i l).length ≤ 2 * l.length := by
  induction l with
  | nil => intro i; simp [Yv]
  | cons t l ih =>
    intro i
    rw [Yv, List.length_append, ZV, List.length_cons]
    have h1 := ih (i + 1)
    have h2 := YR k i
    omega
end Go.Proofs.YtmophpgiaiemhaaGreat.Hs
/-! Walks, printed by a program of this session's own (gen.py). -/
namespace Go.Proofs.YtmophpgiaiemhaaGreat.Hs
open Go Go.Proofs
set_option maxRecDepth 100000
set_option linter.unusedVariables false
set_option linter.unusedSimpArgs false
attribute [local irreducible] JL J CT wlo
theorem cloneS_ct (v : Value) (s : List ByteArray) (H : Heap) (hs : Hs.rdS RS 1 H v s) (hz : s.length ≤ 1000000) : CT Tryz.prog 13 ⟨[v]⟩ [] H (fun r N => ∃ k, N = [k] ∧ Own 9 1 r (ZP s) k) := by
 refine Zo Tryz.func13 rfl rfl <| Zd <| Zb <| JLa (.slice none 0 0) <| Za <| Zd <| Zd <| Zb <| JLm v ?_
 obtain ⟨a1, cap1, hv1⟩ := hs.sl
 have hle1 := hs.le
 refine JLq (.bool (a1.isNone)) (Pu.eqlNil Tryz.runUnderlying28 hv1 rfl) <| Za <| Zi (b := a1.isNone) rfl (fun h2 => ?_) (fun h2 => ?_)
 ·refine Zd <| Zb <| JLa (.slice none 0 0) <| Za <| Zl <| ⟨.slice none 0 0, [[]], Ret.one rfl (RV.tmp rfl), (Sub.emp Sub.nil), ?_⟩
  obtain rfl : s = [] := rd_noneS hs hv1 h2
  exact ⟨_, rfl, (show Own _ _ _ (ZP []) _ from Own.nil)⟩
 refine Zp <| Zd <| Zb <| JLr (Zr (vs := []) [] Tryz.runUnderlying28 el9 rfl rfl (by intro e he; cases he) rfl (by decide) fun b3 k3 ho3 hk3 => JLm v <| JLr (ZH (i := 0) (n := s.length) (es' := ZP s) Tryz.runUnderlying28 Tryz.runUnderlying28 (Or.inl rfl) el9 rfl rfl rfl ho3 (fun F w m => strs_src hs w _ m) (ZW _) (strs_len1 _) (strs_ok _) (by decide) (by simp only [ZW, List.length_nil]; omega) fun v4 k4 ho4 => ?_))
 rw [List.nil_append] at ho4
 refine JLa v4 <| Za <| Zl <| ⟨v4, [k4], Ret.one rfl (RV.tmp rfl), (Sk Sub.nil), ?_⟩
 exact ⟨_, rfl, ho4⟩
theorem moreX_ct (s : List ByteArray) (v : Value) (H : Heap) (hs : Hs.rdS RS 1 H v s) (hl : s.length ≤ 1000000) (hz : ∀ x ∈ s, x.size ≤ 1000000000) : CT Tryz.prog 78 ⟨[v]⟩ [] H (fun r N => ∃ k, N = [k] ∧ Own 9 1 r (ZP (s.map YS)) k) := by
 refine Zo Tryz.func78 rfl rfl <| Zd <| Zb <| JLa (.slice none 0 0) <| Za <| Zd <| Zb <| JLa (.slice none 0 0) <| Za <| Zd <| Zd <| Zb <| JLm v ?_
 obtain ⟨a1, cap1, hv1⟩ := hs.sl
 have hle1 := hs.le
 refine JLq (.int .i64 ((s.length : Int))) (Pu.lenSl Tryz.runUnderlying28 hv1) <| JLm (.int .i64 0) <| Za <| Zs <| ZU (fun k ρ M => ∃ (j : Nat) (w : Value) (os : List ByteArray) (k5 : Zk), ρ 2 = .slice none 0 0 ∧ ρ 3 = w ∧ ρ 6 = v ∧ ρ 7 = .int .i64 ((s.length : Int)) ∧ ρ 8 = .int .i64 ((j : Int)) ∧ Sub [k5] M ∧ j ≤ s.length ∧ Own 9 1 w (ZP os) k5 ∧ os = (s.take j).map YS ∧ k = s.length - j) _ ⟨0, (.slice none 0 0), [], [], rfl, rfl, rfl, rfl, rfl, (Sub.emp Sub.nil), Nat.zero_le _, (show Own _ _ _ (ZP []) _ from Own.nil), rfl, rfl⟩ ?_
 rintro _ ρ2 _ ⟨j, w, os, k5, e3, e4, e5, e6, e7, hm8, hj, ho5, hos, rfl⟩
 obtain ⟨ρ9, rfl⟩ := Zc (uc e3 (uc e4 (uc e5 (uc e6 (uc e7 un)))))
 clear e3 e4 e5 e6 e7
 refine Z1 hm8 <| Zd <| Zb <| JLq (.bool (decide ((j : Int) < (s.length : Int)))) (Pu.lss rfl rfl) <| Za <| Zd <| Zi (b := decide ((j : Int) < (s.length : Int))) rfl (fun h10 => ?_) (fun h10 => ?_)
 ·replace h10 := dt h10
  have h10n : j < s.length := by omega
  have hosl := congrArg List.length hos
  rw [List.length_map, List.length_take] at hosl
  have hzj := hz _ (List.getElem_mem h10n)
  refine Zp <| Zd <| Zs <| Zd <| Zb ?_
  obtain ⟨b11, o11, cap11, row11, T11, fr11, cs11, hv11, hb11, hs11, hE11⟩ := hs.get j (by first | assumption | omega | decide | simp)
  refine JLq (.pointer (some ⟨b11, o11 + j * 1, none⟩)) (Pu.idx j Tryz.runUnderlying28 ty9 hv11 rfl rfl (by first | assumption | omega | decide | simp)) <| JLr (Zf ty9 rfl (At.im hb11) (Yp ((show cs11 = [Value.string (s[j])] from hE11) ▸ hs11)) <| JLa (.string (s[j])) <| Za <| Zb <| JLm w <| JLm (.string (s[j])) <| JLq (.string (YS (s[j]))) (Pu.addS rfl rfl (by rw [ltr_size]; omega)) <| JLr (Zr (vs := [.string (YS (s[j]))]) [[.string (YS (s[j]))]] Tryz.runUnderlying28 el9 rfl rfl (by intro e he; simp only [List.mem_cons, List.not_mem_nil, or_false] at he; subst he; exact rfl) rfl (by decide) fun b12 k12 ho12 hk12 => ?_))
  have hlens13 : ∀ e ∈ ([[.string (YS (s[j]))]] : List (List Value)), List.length e = 1 := by
   intro e he; simp only [List.mem_cons, List.not_mem_nil, or_false] at he
   rcases he with rfl
   ·exact rfl
  have hoks13 : ∀ e ∈ ([[.string (YS (s[j]))]] : List (List Value)), okc e := by
   intro e he; simp only [List.mem_cons, List.not_mem_nil, or_false] at he
   rcases he with rfl
   ·exact (Zm rfl Zv)
  refine JLr (ZH (i := 1) (n := 1) (es' := [[.string (YS (s[j]))]]) Tryz.runUnderlying28 Tryz.runUnderlying28 (Or.inl rfl) el9 rfl rfl rfl ho5 (fun F w m => Src.row (((At.k 0 rfl (by rw [hk12]; exact List.mem_cons_self))).heap m) (Zx (ZG hlens13))) rfl hlens13 hoks13 (by decide) (by simp only [ZW]; omega) fun v13 k13 ho13 => ?_)
  rw [← strs_snoc] at ho13
  refine JLa v13 <| Za <| Zb <| JLq (.int .i64 (((j + 1 : Nat) : Int))) (Pu.inc rfl rfl (by omega)) <| JLm (.int .i64 (((j + 1 : Nat) : Int))) <| Za <| ⟨_, ?_, (j + 1), v13, (os ++ [YS (s[j])]), k13, rfl, rfl, rfl, rfl, rfl, (Sd (Sk Sub.nil)), ?_, ?_, ?_, rfl⟩
  ·omega
  ·omega
  ·exact ho13
  rw [List.take_succ_eq_append_getElem h10n, List.map_append, hos]; rfl
 replace h10 := df h10
 have h10n : s.length ≤ j := by omega
 refine ZM _ rfl <| Zd <| Zb <| JLm w <| JLa w <| Za <| Zl <| ⟨w, [k5], Ret.one rfl (RV.tmp rfl), (Sk Sub.nil), ?_⟩
 exact ⟨k5, rfl, by rw [hos, List.take_of_length_le h10n] at ho5; exact ho5⟩
theorem names_ct (H : Heap) : CT Tryz.prog 25 ⟨[]⟩ [] H (fun r N => ∃ k, N = [k] ∧ Own 9 1 r (ZP F4) k) := by
 refine Zo Tryz.func25 rfl rfl <| Zd <| Zb <| JLa (.slice none 0 0) <| Za <| Zd <| Zb <| JLr (Zr (vs := [.string (⟨#[111, 110, 101]⟩), .string (⟨#[116, 119, 111]⟩), .string (⟨#[116, 104, 114, 101, 101]⟩), .string (⟨#[102, 111, 117, 114]⟩)]) [[.string (⟨#[111, 110, 101]⟩)], [.string (⟨#[116, 119, 111]⟩)], [.string (⟨#[116, 104, 114, 101, 101]⟩)], [.string (⟨#[102, 111, 117, 114]⟩)]] Tryz.runUnderlying28 el9 rfl rfl (by intro e he; simp only [List.mem_cons, List.not_mem_nil, or_false] at he; rcases he with rfl | rfl | rfl | rfl <;> first | exact rfl | exact rfl | exact rfl | exact rfl) rfl (by decide) fun b1 k1 ho1 hk1 => JLa (.slice (some ⟨b1, 0, none⟩) 4 4) <| Za <| Zl <| ⟨.slice (some ⟨b1, 0, none⟩) 4 4, [k1], Ret.one rfl (RV.tmp rfl), (Sk Sub.nil), ?_⟩)
 exact ⟨_, rfl, ho1⟩
end Go.Proofs.YtmophpgiaiemhaaGreat.Hs
/-! Walks, printed by a program of this session's own (gen.py). -/
namespace Go.Proofs.YtmophpgiaiemhaaGreat.Hs
open Go Go.Proofs
set_option maxRecDepth 100000
set_option linter.unusedVariables false
set_option linter.unusedSimpArgs false
attribute [local irreducible] JL J CT wlo
theorem numG_ct (x : ByteArray) (H : Heap) : CT Tryz.prog 163 ⟨[.string x]⟩ [] H (fun v N => v = .int .i64 (numS x) ∧ N = []) := by
 refine Zo Tryz.func163 rfl rfl <| Zd <| Zb <| JLa (.int .i64 0) <| Za <| Zd <| Zb <| JLa (.int .i64 (-1)) <| Za <| Zd <| Zd <| Zb <| JLm (.string x) ?_
 refine JLr (Runs_rangeS Tryz.underlying9 rfl fun r1 => Za <| Zs <| ZU (fun k ρ M => ∃ (p : Nat) (o : Int), ρ 2 = .int .i64 0 ∧ ρ 3 = .int .i64 o ∧ ρ 7 = .pointer (some ⟨r1, 0, none⟩) ∧ Sub [itC r1 x p] M ∧ numL o (x.data.toList.drop p) = numS x ∧ (-1 ≤ o ∧ o ≤ 27917287500) ∧ k = x.size - p) _ ⟨0, (-1), rfl, rfl, rfl, (Sk Sub.nil), rfl, (by omega), rfl⟩ ?_)
 rintro _ ρ2 _ ⟨p, o, e3, e4, e5, hm6, hinv, ho, rfl⟩
 obtain ⟨ρ7, rfl⟩ := Zc (uc e3 (uc e4 (uc e5 un)))
 clear e3 e4 e5
 refine Z1 hm6 <| Zd ?_
 cases h8 : (decide (p < x.size)) with
 | true =>
  cases h9 : (decide ((x.data.toList.getD p 0).toNat < 128)) with
  | true =>
   refine Zb ?_
   have hpl := dt h8
   refine JLr (Runs_nextG (i := 0) rfl rfl hpl (dt h9) ?_)
   have hcb : (x.data.toList.getD p 0).toNat < 128 := dt h9
   refine JLq (.bool true) (Pu.extract rfl rfl) <| Za <| Zd <| Zi (b := true) rfl (fun _ => ?_) (fun h => absurd h (by simp))
   refine Zp <| Zs <| Zd <| Zb <| JLq (.int .i32 (((x.data.toList.getD p 0).toNat : Int))) (Pu.extract rfl rfl) <| JLa (.int .i32 (((x.data.toList.getD p 0).toNat : Int))) <| Za <| Zd <| Zd <| Zb <| JLm (.int .i32 (((x.data.toList.getD p 0).toNat : Int))) <| JLq (.bool (decide (((x.data.toList.getD p 0).toNat : Int) < 97))) (Pu.lss rfl rfl) <| JLm (.bool (decide (((x.data.toList.getD p 0).toNat : Int) < 97))) ?_
   cases h10 : (decide (((x.data.toList.getD p 0).toNat : Int) < 97)) with
   | true =>
    replace h10 := dt h10
    iterate 2 refine Zy rfl ?_
    refine JLq (.bool true) (Pu.pickT rfl rfl) <| JLm (.bool true) ?_
    iterate 2 refine Zy rfl ?_
    refine JLq (.bool true) (Pu.pickT rfl rfl) <| Za <| Zi (b := true) rfl (fun _ => ?_) (fun h => absurd h (by simp))
    refine Zd <| Zb <| JLa (.int .i64 (-1)) <| Za <| Zl <| ⟨.int .i64 (-1), [], Ret.one rfl (RV.tmp rfl), Sub.nil, ?_⟩
    exact ⟨by rw [← hinv, drop_getD hpl, numL, if_pos (by omega)], rfl⟩
   | false =>
    replace h10 := df h10
    refine JLm (.int .i32 (((x.data.toList.getD p 0).toNat : Int))) <| JLq (.bool (decide (122 < ((x.data.toList.getD p 0).toNat : Int)))) (Pu.gtr rfl rfl) <| JLq (.bool (decide (122 < ((x.data.toList.getD p 0).toNat : Int)))) (Pu.pickF rfl rfl) <| JLm (.bool (decide (122 < ((x.data.toList.getD p 0).toNat : Int)))) ?_
    cases h11 : (decide (122 < ((x.data.toList.getD p 0).toNat : Int))) with
    | true =>
     replace h11 := dt h11
     iterate 2 refine Zy rfl ?_
     refine JLq (.bool true) (Pu.pickT rfl rfl) <| Za <| Zi (b := true) rfl (fun _ => ?_) (fun h => absurd h (by simp))
     refine Zd <| Zb <| JLa (.int .i64 (-1)) <| Za <| Zl <| ⟨.int .i64 (-1), [], Ret.one rfl (RV.tmp rfl), Sub.nil, ?_⟩
     exact ⟨by rw [← hinv, drop_getD hpl, numL, if_pos (by omega)], rfl⟩
    | false =>
     replace h11 := df h11
     refine JLm (.int .i64 o) <| JLq (.bool (decide (1073741824 < o))) (Pu.gtr rfl rfl) <| JLq (.bool (decide (1073741824 < o))) (Pu.pickF rfl rfl) <| Za <| Zi (b := decide (1073741824 < o)) rfl (fun h12 => ?_) (fun h12 => ?_)
     ·replace h12 := dt h12
      refine Zd <| Zb <| JLa (.int .i64 (-1)) <| Za <| Zl <| ⟨.int .i64 (-1), [], Ret.one rfl (RV.tmp rfl), Sub.nil, ?_⟩
      exact ⟨by rw [← hinv, drop_getD hpl, numL, if_pos (by omega)], rfl⟩
     replace h12 := df h12
     refine Zp <| Zb <| JLm (.int .i64 o) <| JLq (.int .i64 (o + 1)) (Pu.add64 rfl rfl (by first | omega | (constructor <;> omega))) <| JLq (.int .i64 ((o + 1) * 26)) (Pu.arithM rfl rfl (w64 (by omega))) <| JLm (.int .i32 (((x.data.toList.getD p 0).toNat : Int))) <| JLq (.int .i32 (((x.data.toList.getD p 0).toNat : Int) - 97)) (Pu.arithS rfl rfl (w32 (by omega))) <| JLq (.int .i64 (((x.data.toList.getD p 0).toNat : Int) - 97)) (Pu.conv Tryz.runUnderlying21 Tryz.runUnderlying3 rfl (w64 (by omega))) <| JLq (.int .i64 ((o + 1) * 26 + (((x.data.toList.getD p 0).toNat : Int) - 97))) (Pu.add64 rfl rfl (by first | omega | (constructor <;> omega))) <| JLa (.int .i64 ((o + 1) * 26 + (((x.data.toList.getD p 0).toNat : Int) - 97))) <| Za <| ⟨_, ?_, (p + 1), (o + 1) * 26 + (((x.data.toList.getD p 0).toNat : Int) - 97), rfl, rfl, rfl, (Sk Sub.nil), ?_, ?_, rfl⟩
     ·omega
     ·rw [← hinv, drop_getD hpl, numL, if_neg (by omega)]
     omega
  | false =>
   refine Zb ?_
   have hpl := dt h8
   refine JLr (Runs_nextG2 (i := 0) rfl rfl hpl (df h9) fun q k hq1 hq2 hk => ?_)
   have hcb : ¬ (x.data.toList.getD p 0).toNat < 128 := df h9
   refine JLq (.bool true) (Pu.extract rfl rfl) <| Za <| Zd <| Zi (b := true) rfl (fun _ => ?_) (fun h => absurd h (by simp))
   refine Zp <| Zs <| Zd <| Zb <| JLq (.int .i32 ((q : Int))) (Pu.extract rfl rfl) <| JLa (.int .i32 ((q : Int))) <| Za <| Zd <| Zd <| Zb <| JLm (.int .i32 ((q : Int))) <| JLq (.bool (decide ((q : Int) < 97))) (Pu.lss rfl rfl) <| JLm (.bool (decide ((q : Int) < 97))) ?_
   cases h14 : (decide ((q : Int) < 97)) with
   | true =>
    replace h14 := dt h14
    have h14n : q < 97 := by omega
    iterate 2 refine Zy rfl ?_
    refine JLq (.bool true) (Pu.pickT rfl rfl) <| JLm (.bool true) ?_
    iterate 2 refine Zy rfl ?_
    refine JLq (.bool true) (Pu.pickT rfl rfl) <| Za <| Zi (b := true) rfl (fun _ => ?_) (fun h => absurd h (by simp))
    refine Zd <| Zb <| JLa (.int .i64 (-1)) <| Za <| Zl <| ⟨.int .i64 (-1), [], Ret.one rfl (RV.tmp rfl), Sub.nil, ?_⟩
    exact ⟨by rw [← hinv, drop_getD hpl, numL, if_pos (by omega)], rfl⟩
   | false =>
    replace h14 := df h14
    have h14n : 97 ≤ q := by omega
    refine JLm (.int .i32 ((q : Int))) <| JLq (.bool (decide (122 < (q : Int)))) (Pu.gtr rfl rfl) <| JLq (.bool (decide (122 < (q : Int)))) (Pu.pickF rfl rfl) <| JLm (.bool (decide (122 < (q : Int)))) ?_
    cases h15 : (decide (122 < (q : Int))) with
    | true =>
     replace h15 := dt h15
     iterate 2 refine Zy rfl ?_
     refine JLq (.bool true) (Pu.pickT rfl rfl) <| Za <| Zi (b := true) rfl (fun _ => ?_) (fun h => absurd h (by simp))
     refine Zd <| Zb <| JLa (.int .i64 (-1)) <| Za <| Zl <| ⟨.int .i64 (-1), [], Ret.one rfl (RV.tmp rfl), Sub.nil, ?_⟩
     exact ⟨by rw [← hinv, drop_getD hpl, numL, if_pos (by omega)], rfl⟩
    | false =>
     replace h15 := df h15
     refine JLm (.int .i64 o) <| JLq (.bool (decide (1073741824 < o))) (Pu.gtr rfl rfl) <| JLq (.bool (decide (1073741824 < o))) (Pu.pickF rfl rfl) <| Za <| Zi (b := decide (1073741824 < o)) rfl (fun h16 => ?_) (fun h16 => ?_)
     ·replace h16 := dt h16
      refine Zd <| Zb <| JLa (.int .i64 (-1)) <| Za <| Zl <| ⟨.int .i64 (-1), [], Ret.one rfl (RV.tmp rfl), Sub.nil, ?_⟩
      exact ⟨by rw [← hinv, drop_getD hpl, numL, if_pos (by omega)], rfl⟩
     replace h16 := df h16
     exfalso; omega
 | false =>
  refine Zb ?_
  have hpe := df h8
  refine JLr (Runs_nextE (i := 0) rfl rfl hpe <| JLq (.bool false) (Pu.extract rfl rfl) <| Za <| Zd <| Zi (b := false) rfl (fun h => absurd h (by simp)) (fun _ => ZM _ rfl <| Zd <| Zb <| JLm (.int .i64 o) <| JLa (.int .i64 o) <| Za <| Zl <| ⟨.int .i64 o, [], Ret.one rfl (RV.tmp rfl), Sub.nil, ?_⟩))
  exact ⟨by rw [← hinv, drop_end hpe]; rfl, rfl⟩
theorem nameG_ct : ∀ (n : Nat), n ≤ 1000000000 → ∀ (H : Heap), CT Tryz.prog 142 ⟨[.int .i64 (n : Int)]⟩ [] H (fun v N => v = .string (YU n) ∧ N = []) := by
 intro n
 induction n using Nat.strongRecOn with
 | _ n ih =>
 intro hn H
 have hmod : n % 26 < 26 := Nat.mod_lt _ (by decide)
 have hsz := nameS_size (n / 26 - 1)
 refine Zo Tryz.func142 rfl rfl <| Zd <| Zb <| JLa (.string (⟨#[]⟩)) <| Za <| Zd <| Zd <| Zb <| JLm (.int .i64 ((n : Int))) <| JLq (.bool (decide ((n : Int) < 26))) (Pu.lss rfl rfl) <| Za <| Zi (b := decide ((n : Int) < 26)) rfl (fun h1 => ?_) (fun h1 => ?_)
 ·replace h1 := dt h1
  have h1n : n < 26 := by omega
  refine Zd <| Zb <| JLm (.int .i64 ((n : Int))) <| JLq (.int .i64 (97 + ((n : Int)))) (Pu.add64 rfl rfl (by first | omega | (constructor <;> omega))) <| JLq (.int .i32 (97 + ((n : Int)))) (Pu.conv Tryz.runUnderlying3 Tryz.runUnderlying21 rfl (w32 (by omega))) <| JLq (.string (ltr n)) (Pu.convS Tryz.runUnderlying21 Tryz.runUnderlying9 rfl (ltr_enc' n (by omega))) <| JLa (.string (ltr n)) <| Za <| Zl <| ⟨.string (ltr n), [], Ret.one rfl (RV.tmp rfl), Sub.nil, ?_⟩
  exact ⟨by rw [nameS_lt (by omega)], rfl⟩
 replace h1 := df h1
 have h1n : 26 ≤ n := by omega
 refine Zp <| Zd <| Zb <| JLm (.int .i64 ((n : Int))) <| JLq (.int .i64 (((n / 26 : Nat) : Int))) (Pu.quo rfl rfl (by decide) ((congrArg IntKind.i64.wrap (show Int.tdiv (n : Int) 26 = ((n / 26 : Nat) : Int) from rfl)).trans (w64 (by omega)))) <| JLq (.int .i64 (((n / 26 - 1 : Nat) : Int))) (Pu.arithS rfl rfl ((w64 (by omega)).trans (by omega))) <| Zg rfl Tryz.call142 rfl (fun hin => ih (n / 26 - 1) (by omega) (by omega) _) rfl ?_
 rintro _ _ ⟨rfl, rfl⟩
 refine JLm (.int .i64 ((n : Int))) <| JLq (.int .i64 (((n % 26 : Nat) : Int))) (Pu.rem rfl rfl (by decide) rfl) <| JLq (.int .i64 (97 + (((n % 26 : Nat) : Int)))) (Pu.add64 rfl rfl (by first | omega | (constructor <;> omega))) <| JLq (.int .i32 (97 + (((n % 26 : Nat) : Int)))) (Pu.conv Tryz.runUnderlying3 Tryz.runUnderlying21 rfl (w32 (by omega))) <| JLq (.string (ltr (n % 26))) (Pu.convS Tryz.runUnderlying21 Tryz.runUnderlying9 rfl (ltr_enc' (n % 26) hmod)) <| JLq (.string (YU (n / 26 - 1) ++ ltr (n % 26))) (Pu.addS rfl rfl (by rw [ltr_size]; omega)) <| JLa (.string (YU (n / 26 - 1) ++ ltr (n % 26))) <| Za <| Zl <| ⟨.string (YU (n / 26 - 1) ++ ltr (n % 26)), [], Ret.one rfl (RV.tmp rfl), Sub.nil, ?_⟩
 exact ⟨by rw [nameS_ge (n := n) (by omega)], rfl⟩
theorem markG_ct (x : ByteArray) (n : Nat) (l : List Bool) (bF : Nat) (H : Heap) (hl : l.length = n) : CT Tryz.prog 140 ⟨[.slice (some ⟨bF, 0, none⟩) n n, .string x]⟩ [[(bF, .cells ⟨bls l⟩ 4 (0, 0))]] H (fun v N => v = .tuple ⟨[]⟩ ∧ N = [[(bF, .cells ⟨bls (mkS x l)⟩ 4 (0, 0))]]) := by
 refine Zo Tryz.func140 rfl rfl <| Zd <| Zb <| JLm (.string x) <| Zg rfl Tryz.call163 rfl (fun hin => numG_ct x _) rfl ?_
 rintro _ _ ⟨rfl, rfl⟩
 refine JLa (.int .i64 (numS x)) <| Za <| Zd <| Zb <| JLm (.int .i64 (numS x)) <| JLq (.bool (decide (0 ≤ numS x))) (Pu.geq rfl rfl) <| JLm (.bool (decide (0 ≤ numS x))) ?_
 cases h1 : (decide (0 ≤ numS x)) with
 | true =>
  replace h1 := dt h1
  refine JLm (.int .i64 (numS x)) <| JLm (.slice (some ⟨bF, 0, none⟩) n n) <| JLq (.int .i64 ((n : Int))) (Pu.lenSl Tryz.runUnderlying181 rfl) <| JLq (.bool (decide (numS x < (n : Int)))) (Pu.lss rfl rfl) <| JLq (.bool (decide (numS x < (n : Int)))) (Pu.pickT rfl rfl) <| Za <| Zi (b := decide (numS x < (n : Int))) rfl (fun h2 => ?_) (fun h2 => ?_)
  ·replace h2 := dt h2
   refine Zb <| JLm (.slice (some ⟨bF, 0, none⟩) n n) <| JLm (.int .i64 (numS x)) <| JLq (.pointer (some ⟨bF, 0 + (numS x).toNat * 1, none⟩)) (Pu.idx (numS x).toNat Tryz.runUnderlying181 ty4 rfl rfl (by omega) (by omega)) <| JLr (Ze 0 (vs := [.bool true]) (l := bls (l.set (numS x).toNat true)) ty4 rfl rfl rfl rfl rfl (Zm rfl Zv) (bls_set1 (by have hbl : List.length l = n := hl; omega)) <| Za <| ⟨.tuple ⟨[]⟩, [[(bF, .cells ⟨bls (l.set (numS x).toNat true)⟩ 4 (0, 0))]], Ret.none rfl, (Sk Sub.nil), ?_⟩)
   exact ⟨rfl, by rw [mkS, if_pos (by omega)]⟩
  replace h2 := df h2
  refine Zp <| ⟨.tuple ⟨[]⟩, [[(bF, .cells ⟨bls l⟩ 4 (0, 0))]], Ret.none rfl, (Sk Sub.nil), ?_⟩
  exact ⟨rfl, by rw [mkS, if_neg (by omega)]⟩
 | false =>
  replace h1 := df h1
  iterate 4 refine Zy rfl ?_
  refine JLq (.bool false) (Pu.pickF rfl rfl) <| Za <| Zi (b := false) rfl (fun h => absurd h (by simp)) (fun _ => Zp <| ⟨.tuple ⟨[]⟩, [[(bF, .cells ⟨bls l⟩ 4 (0, 0))]], Ret.none rfl, (Sk Sub.nil), ?_⟩)
  exact ⟨rfl, by rw [mkS, if_neg (by omega)]⟩
end Go.Proofs.YtmophpgiaiemhaaGreat.Hs
/-! Walks, printed by a program of this session's own (gen.py). -/
namespace Go.Proofs.YtmophpgiaiemhaaGreat.Hs
open Go Go.Proofs
set_option maxRecDepth 100000
set_option linter.unusedVariables false
set_option linter.unusedSimpArgs false
attribute [local irreducible] JL J CT wlo
theorem chosenG_ct (s : List ByteArray) (many : Nat) (v : Value) (H : Heap) (hs : Hs.rdS RS 1 H v s) (hb : s.length + many ≤ 1000000) : CT Tryz.prog 110 ⟨[v, .int .i64 ((many : Int))]⟩ [] H (fun v N => ∃ u1 u2 k1 k2, v = .tuple ⟨[u1, u2]⟩ ∧ N = [k1, k2] ∧ Own 9 1 u1 (ZP (ZF s (ZK s many))) k1 ∧ Own 9 1 u2 (ZP (ZK s many)) k2) := by
 refine Zo Tryz.func110 rfl rfl <| Zd <| Zb <| JLa (.slice none 0 0) <| JLa (.slice none 0 0) <| Za <| Zd <| Zb <| JLm v ?_
 obtain ⟨a1, cap1, hv1⟩ := hs.sl
 have hle1 := hs.le
 refine JLq (.int .i64 ((s.length : Int))) (Pu.lenSl Tryz.runUnderlying111 hv1) <| JLm (.int .i64 ((many : Int))) <| JLq (.int .i64 ((s.length : Int) + ((many : Int)))) (Pu.add64 rfl rfl (by first | omega | (constructor <;> omega))) <| JLr (Runs_make (s.length + many) Tryz.runUnderlying181 el4 rfl rfl (by omega) (by omega) (by omega) (by omega) fun b2 k2 _ hk2 => ?_)
 obtain rfl : k2 = [(b2, .cells ⟨bls (List.replicate (s.length + many) false)⟩ 4 (0, 0))] := hk2.trans (congrArg (fun y => [(b2, Obj.cells ⟨y⟩ 4 (0, 0))]) (bls_rep _))
 refine JLa (.slice (some ⟨b2, 0, none⟩) (s.length + many) (s.length + many)) <| Za <| Zd <| Zb <| JLm (.slice (some ⟨b2, 0, none⟩) (s.length + many) (s.length + many)) <| JLq (.func (.func 140) ⟨[.slice (some ⟨b2, 0, none⟩) (s.length + many) (s.length + many)]⟩ ⟨[]⟩) (Pu.makeFunc rfl rfl) <| JLa (.func (.func 140) ⟨[.slice (some ⟨b2, 0, none⟩) (s.length + many) (s.length + many)]⟩ ⟨[]⟩) <| Za <| Zd <| Zd <| Zb <| JLm v ?_
 obtain ⟨a3, cap3, hv3⟩ := hs.sl
 have hle3 := hs.le
 refine JLq (.int .i64 ((s.length : Int))) (Pu.lenSl Tryz.runUnderlying111 hv3) <| JLm (.int .i64 0) <| Za <| Zs <| ZU (fun k ρ M => ∃ (j : Nat) (lm : List Bool), ρ 0 = v ∧ ρ 1 = .int .i64 ((many : Int)) ∧ ρ 4 = .slice none 0 0 ∧ ρ 5 = .slice none 0 0 ∧ ρ 6 = .slice (some ⟨b2, 0, none⟩) (s.length + many) (s.length + many) ∧ ρ 7 = .func (.func 140) ⟨[.slice (some ⟨b2, 0, none⟩) (s.length + many) (s.length + many)]⟩ ⟨[]⟩ ∧ ρ 19 = v ∧ ρ 20 = .int .i64 ((s.length : Int)) ∧ ρ 21 = .int .i64 ((j : Int)) ∧ Sub [[(b2, .cells ⟨bls lm⟩ 4 (0, 0))]] M ∧ j ≤ s.length ∧ lm.length = s.length + many ∧ mkA (s.drop j) lm = mkA s (List.replicate (s.length + many) false) ∧ k = s.length - j) _ ⟨0, List.replicate (s.length + many) false, rfl, rfl, rfl, rfl, rfl, rfl, rfl, rfl, rfl, (Sk Sub.nil), Nat.zero_le _, (List.length_replicate ..), rfl, rfl⟩ ?_
 rintro _ ρ4 _ ⟨j, lm, e5, e6, e7, e8, e9, e10, e11, e12, e13, hm14, hj, hlm, hmk, rfl⟩
 obtain ⟨ρ15, rfl⟩ := Zc (uc e5 (uc e6 (uc e7 (uc e8 (uc e9 (uc e10 (uc e11 (uc e12 (uc e13 un)))))))))
 clear e5 e6 e7 e8 e9 e10 e11 e12 e13
 refine Z1 hm14 <| Zd <| Zb <| JLq (.bool (decide ((j : Int) < (s.length : Int)))) (Pu.lss rfl rfl) <| Za <| Zd <| Zi (b := decide ((j : Int) < (s.length : Int))) rfl (fun h16 => ?_) (fun h16 => ?_)
 ·replace h16 := dt h16
  have h16n : j < s.length := by omega
  refine Zp <| Zd <| Zs <| Zd <| Zb ?_
  obtain ⟨b17, o17, cap17, row17, T17, fr17, cs17, hv17, hb17, hs17, hE17⟩ := hs.get j (by first | assumption | omega | decide | simp)
  refine JLq (.pointer (some ⟨b17, o17 + j * 1, none⟩)) (Pu.idx j Tryz.runUnderlying111 ty9 hv17 rfl rfl (by first | assumption | omega | decide | simp)) <| JLr (Zf ty9 rfl (At.im hb17) (Yp ((show cs17 = [Value.string (s[j])] from hE17) ▸ hs17)) <| JLa (.string (s[j])) <| Za <| Zb <| JLm (.func (.func 140) ⟨[.slice (some ⟨b2, 0, none⟩) (s.length + many) (s.length + many)]⟩ ⟨[]⟩) <| JLm (.string (s[j])) <| Zw 0 rfl Tryz.call140 rfl rfl (fun hin => markG_ct s[j] (s.length + many) _ _ _ hlm) rfl ?_)
  rintro _ _ ⟨rfl, rfl⟩
  refine Za <| Zb <| JLq (.int .i64 (((j + 1 : Nat) : Int))) (Pu.inc rfl rfl (by omega)) <| JLm (.int .i64 (((j + 1 : Nat) : Int))) <| Za <| ⟨_, ?_, (j + 1), mkS (s[j]) lm, rfl, rfl, rfl, rfl, rfl, rfl, rfl, rfl, rfl, (Sk Sub.nil), ?_, ?_, ?_, rfl⟩
  ·omega
  ·omega
  ·rw [mkS_len]; exact hlm
  rw [Yt h16n, mkA] at hmk; exact hmk
 replace h16 := df h16
 have h16n : s.length ≤ j := by omega
 refine ZM _ rfl <| Zd <| Zb <| JLa (.slice none 0 0) <| Za <| Zd <| Zd <| Zb <| JLm (.int .i64 ((many : Int))) <| JLm (.int .i64 0) <| Za <| Zs ?_
 have hpk : pickN lm many = ZK s many := by rw [ZK, ← hmk, Xl h16n]; rfl
 have hct : cntT lm ≤ s.length := by have := cntT_mkA s (List.replicate (s.length + many) false); rw [cntT_rep, ← hmk, Xl h16n] at this; simpa [mkA] using this
 clear hmk
 refine ZU (fun k ρ M => ∃ (i : Nat) (lq : List Bool) (w : Value) (os : List ByteArray) (k5 : Zk), ρ 0 = v ∧ ρ 4 = .slice none 0 0 ∧ ρ 5 = .slice none 0 0 ∧ ρ 6 = .slice (some ⟨b2, 0, none⟩) (s.length + many) (s.length + many) ∧ ρ 10 = w ∧ ρ 29 = .int .i64 ((many : Int)) ∧ ρ 30 = .int .i64 ((i : Int)) ∧ Sub [[(b2, .cells ⟨bls lq⟩ 4 (0, 0))], k5] M ∧ i ≤ many ∧ lq.length = s.length + many ∧ os ++ pickN lq (many - i) = ZK s many ∧ cntT lq ≤ s.length + i ∧ Own 9 1 w (ZP os) k5 ∧ os.length = i ∧ k = many - i) _ ⟨0, lm, (.slice none 0 0), [], [], rfl, rfl, rfl, rfl, rfl, rfl, rfl, (Sk (Sub.emp Sub.nil)), Nat.zero_le _, hlm, hpk, hct, Own.nil, rfl, rfl⟩ ?_
 rintro _ ρ18 _ ⟨i, lq, w, os, k5, e19, e20, e21, e22, e23, e24, e25, hm26, hi, hlq, hpq, hcq, ho5, hol, rfl⟩
 obtain ⟨ρ27, rfl⟩ := Zc (uc e19 (uc e20 (uc e21 (uc e22 (uc e23 (uc e24 (uc e25 un)))))))
 clear e19 e20 e21 e22 e23 e24 e25
 refine Z1 hm26 <| Zd <| Zb <| JLq (.bool (decide ((i : Int) < (many : Int)))) (Pu.lss rfl rfl) <| Za <| Zd <| Zi (b := decide ((i : Int) < (many : Int))) rfl (fun h28 => ?_) (fun h28 => ?_)
 ·replace h28 := dt h28
  have h28n : i < many := by omega
  have hcl : cntT lq < lq.length := by omega
  have hfl := ff_lt lq hcl
  refine Zp <| Zd <| Zs <| Zd <| Zb <| JLm (.slice (some ⟨b2, 0, none⟩) (s.length + many) (s.length + many)) <| Zg rfl Tryz.call141 rfl (fun hin => int_r (r := ((ffN lq : Nat) : Int)) (idxB_ct false _ _ _ _ hlq (by omega) (hin 0 _ rfl _ _ List.mem_cons_self)) (ff_fst lq hcl 0)) rfl ?_
  rintro _ _ ⟨rfl, rfl⟩
  refine JLa (.int .i64 (((ffN lq : Nat) : Int))) <| Za <| Zd <| Zb <| JLm w <| JLm (.int .i64 (((ffN lq : Nat) : Int))) <| Zg rfl Tryz.call142 rfl (fun hin => nameG_ct (ffN lq) (by omega) _) rfl ?_
  rintro _ _ ⟨rfl, rfl⟩
  refine JLr (Zr (vs := [.string (YU (ffN lq))]) [[.string (YU (ffN lq))]] Tryz.runUnderlying28 el9 rfl rfl (by intro e he; simp only [List.mem_cons, List.not_mem_nil, or_false] at he; subst he; exact rfl) rfl (by decide) fun b29 k29 ho29 hk29 => ?_)
  have hlens30 : ∀ e ∈ ([[.string (YU (ffN lq))]] : List (List Value)), List.length e = 1 := by
   intro e he; simp only [List.mem_cons, List.not_mem_nil, or_false] at he
   rcases he with rfl
   ·exact rfl
  have hoks30 : ∀ e ∈ ([[.string (YU (ffN lq))]] : List (List Value)), okc e := by
   intro e he; simp only [List.mem_cons, List.not_mem_nil, or_false] at he
   rcases he with rfl
   ·exact (Zm rfl Zv)
  refine JLr (ZH (i := 2) (n := 1) (es' := [[.string (YU (ffN lq))]]) Tryz.runUnderlying28 Tryz.runUnderlying28 (Or.inl rfl) el9 rfl rfl rfl ho5 (fun F w m => Src.row (((At.k 0 rfl (by rw [hk29]; exact List.mem_cons_self))).heap m) (Zx (ZG hlens30))) rfl hlens30 hoks30 (by decide) (by simp only [ZW]; omega) fun v30 k30 ho30 => ?_)
  rw [← strs_snoc] at ho30
  refine JLa v30 <| Za <| Zb <| JLm (.slice (some ⟨b2, 0, none⟩) (s.length + many) (s.length + many)) <| JLm (.int .i64 (((ffN lq : Nat) : Int))) <| JLq (.pointer (some ⟨b2, 0 + (((ffN lq : Nat) : Int)).toNat * 1, none⟩)) (Pu.idx (((ffN lq : Nat) : Int)).toNat Tryz.runUnderlying181 ty4 rfl rfl (by omega) (by omega)) <| JLr (Ze 1 (vs := [.bool true]) (l := bls (lq.set (((ffN lq : Nat) : Int)).toNat true)) ty4 rfl rfl rfl rfl rfl (Zm rfl Zv) (bls_set1 (by have hbl : List.length lq = (s.length + many) := hlq; omega)) <| Za <| Zb <| JLq (.int .i64 (((i + 1 : Nat) : Int))) (Pu.inc rfl rfl (by omega)) <| JLm (.int .i64 (((i + 1 : Nat) : Int))) <| Za <| ⟨_, ?_, (i + 1), lq.set (((ffN lq : Nat) : Int)).toNat true, v30, (os ++ [YU (ffN lq)]), k30, rfl, rfl, rfl, rfl, rfl, rfl, rfl, (Sd (Sk (Sk Sub.nil))), ?_, ?_, ?_, ?_, ?_, ?_, rfl⟩)
  ·omega
  ·omega
  ·rw [List.length_set]; exact hlq
  ·rw [pick_succ lq h28n] at hpq; rw [List.append_assoc]; exact hpq
  ·exact Nat.le_trans (cntT_set lq _) (by omega)
  ·exact ho30
  simp [hol]
 replace h28 := df h28
 have h28n : many ≤ i := by omega
 refine ZM _ rfl <| Zd <| Zb <| JLm v <| JLm w <| Zg rfl Tryz.call121 rfl (fun hin => with_ct _ _ _ _ _ (RSs.mono (Hle.hu _ _) hs) (Yj ho5 (by omega) (hin 1 _ rfl)) (by omega)) rfl ?_
 rintro u31 _ ⟨_, k31, hu31, rfl, ho31⟩; subst hu31
 refine JLm w <| JLa u31 <| JLa w <| Za <| Zl <| ⟨.tuple ⟨[u31, w]⟩, [k31, k5], Ret.two rfl (RV.tmp rfl) (RV.tmp rfl), (Sk (Sd (Sk Sub.nil))), ?_⟩
 have hoe : os = ZK s many := by rw [← hpq, show many - i = 0 from by omega]; simp [pickN]
 subst hoe
 exact ⟨_, _, _, _, rfl, rfl, ho31, ho5⟩
end Go.Proofs.YtmophpgiaiemhaaGreat.Hs
/-! What is chosen, for a number; a pattern copied. -/
namespace Go.Proofs.YtmophpgiaiemhaaGreat.Hs
open Go Go.Proofs
theorem chosenI_ct (s : List ByteArray) (m : Int) (v : Value) (H : Heap) (hs : Hs.rdS RS 1 H v s) (h0 : 0 ≤ m) (hb : s.length + m.toNat ≤ 1000000) :
    CT Tryz.prog 110 ⟨[v, .int .i64 m]⟩ [] H (fun v N => ∃ u1 u2 k1 k2, v = .tuple ⟨[u1, u2]⟩ ∧ N = [k1, k2] ∧ Own 9 1 u1 (ZP (ZF s (ZK s m.toNat))) k1 ∧ Own 9 1 u2 (ZP (ZK s m.toNat)) k2) := by
  obtain ⟨n, rfl⟩ := Int.eq_ofNat_of_zero_le h0
  exact chosenG_ct s n v H hs hb
theorem mapPatternP_ct (p : Pt) (cs : List Value) (H : Heap) (hp : RP H cs p) (hz : sizeP p ≤ 1000000) {fv : Value} (hfv : fv.oneCell' = true := by rfl) :
    CT Tryz.prog 113 ⟨[.agg ⟨[fv, .func (.func 84) ⟨[]⟩ ⟨[]⟩]⟩, .agg ⟨cs⟩]⟩ [] H (fun v N => ∃ cs k, v = .agg ⟨cs⟩ ∧ N = [k] ∧ OP p cs k) := by
  have := mapPattern_ct 84 [] [] Tryz.call84 (fun s => s) fv hfv p cs H hp (fun s h _ => same_ct s h) hz
  rwa [mapP_id] at this
end Go.Proofs.YtmophpgiaiemhaaGreat.Hs
/-! Walks, printed by a program of this session's own (gen.py). -/
namespace Go.Proofs.YtmophpgiaiemhaaGreat.Hs
open Go Go.Proofs
set_option maxRecDepth 100000
set_option linter.unusedVariables false
set_option linter.unusedSimpArgs false
attribute [local irreducible] JL J CT wlo
set_option maxHeartbeats 2000000 in
theorem namedG_ct : ∀ (t : Tm) (s : List ByteArray) (cs : List Value) (v : Value) (H : Heap), RT H cs t → Hs.rdS RS 1 H v s → scT s.length t → s.length + 2 * sizeT t ≤ 1000000 → CT Tryz.prog 65 ⟨[.agg ⟨cs⟩, v]⟩ [] H (fun r N => ∃ cs k, r = .agg ⟨cs⟩ ∧ N = [k] ∧ ON (nmT t s) cs k) := by
 intro t
 induction t using Tm.ind with
 | h kind num ref kids cases ih ih' =>
 intro s cs v H ht hs hsc hz
 obtain ⟨ks, cv, rfl, hk, hn, hks, hcv⟩ := RT_mk.1 ht
 have hkl := len_sizeTs kids
 have hcl := len_sizeCs cases
 rw [scT] at hsc
 rw [sizeT] at hz
 obtain ⟨hsv, hsk, hscc⟩ := hsc
 refine Zo Tryz.func65 rfl rfl <| Zd <| Zb <| JLr (Zt (l := pkT kind num ref ks cv) rfl rfl fun b1 => JLr (Zj (l := pkN 0 0 zS (.slice none 0 0) (.slice none 0 0) (.slice none 0 0)) Tryz.zeroValue32 rfl fun b2 => Za <| Zd <| Zb <| JLq (.pointer (some ⟨b1, 0, none⟩)) (ZY rfl rfl) <| JLr (Zf ty3 rfl (At.bx 1 rfl) (Yg ..) <| JLq (.pointer (some ⟨b1, 1, none⟩)) (Z4 rfl rfl) <| JLr (Zf ty3 rfl (At.bx 1 rfl) (Yn ..) <| JLq (.pointer (some ⟨b1, 2, none⟩)) (fa27_2 rfl rfl) ?_))))
 refine JLr (Zh Xb rfl (At.bx 1 rfl) (pkT_2 ..) <| JLq (.agg ⟨pkN kind num ref (.slice none 0 0) (.slice none 0 0) (.slice none 0 0)⟩) (Pu.build (pv := [(0, .int .i64 kind), (1, .int .i64 num), (2, .agg ⟨sC ref⟩)]) (l := pkN kind num ref (.slice none 0 0) (.slice none 0 0) (.slice none 0 0)) rfl (bld32_0_1_2 _ _ _)) <| JLr (Zj (l := pkN 0 0 zS (.slice none 0 0) (.slice none 0 0) (.slice none 0 0)) Tryz.zeroValue32 rfl fun b3 => JLr (Ze 0 (vs := pkN kind num ref (.slice none 0 0) (.slice none 0 0) (.slice none 0 0)) (l := pkN kind num ref (.slice none 0 0) (.slice none 0 0) (.slice none 0 0)) Z6 rfl rfl rfl rfl rfl (pkN_ok rfl rfl rfl) (pkN_s ..) <| Za <| Zd <| Zd <| Z1 (M' := [[], [(b3, .cells ⟨pkN kind num ref (.slice none 0 0) (.slice none 0 0) (.slice none 0 0)⟩ 32 (0, 0))], [(b2, .cells ⟨pkN 0 0 zS (.slice none 0 0) (.slice none 0 0) (.slice none 0 0)⟩ 32 (0, 0))], [(b1, .cells ⟨pkT kind num ref ks cv⟩ 27 (0, 0))]]) (Sub.emp Sub.refl) <| Zb <| JLq (.pointer (some ⟨b1, 0, none⟩)) (ZY rfl rfl) <| JLr (Zf ty3 rfl (At.bx 3 rfl) (Yg ..) <| JLq (.bool (decide (kind = 1))) (Pu.eql rfl rfl) <| Za ?_))))
 refine J_weak (N := fun ρ M => ∃ (nv : Value) (k0 : Zk), (Own 9 1 nv (ZP (vN kind num s)) k0) ∧ ρ 1 = v ∧ ρ 2 = .pointer (some ⟨b1, 0, none⟩) ∧ ρ 4 = .pointer (some ⟨b2, 0, none⟩) ∧ ρ 5 = .pointer (some ⟨b3, 0, none⟩) ∧ M = [k0, [(b3, .cells ⟨pkN kind ((if kind = 1 then 0 else num)) ref nv (.slice none 0 0) (.slice none 0 0)⟩ 32 (0, 0))], [(b2, .cells ⟨pkN 0 0 zS (.slice none 0 0) (.slice none 0 0) (.slice none 0 0)⟩ 32 (0, 0))], [(b1, .cells ⟨pkT kind num ref ks cv⟩ 27 (0, 0))]]) ?_ ?_
 ·refine Zi (b := decide (kind = 1)) rfl (fun h4 => ?_) (fun h4 => ?_)
  ·replace h4 := dt h4
   have hsv1 := hsv h4
   obtain ⟨b6, o6, cap6, row6, T6, fr6, cs6, hv6, hb6, hs6, hE6⟩ := hs.get num.toNat (by first | assumption | omega | decide | simp)
   refine Ya mixed #[0, 0, 2, 7, 15, 31, 0, 64, 255, 511] 8 7 1 rfl (by kernel_rfl) (fun i r5 N5 => match i with | 0 => (r5 0) = v | 1 => (r5 1) = .pointer (some ⟨b1, 1, none⟩) | 2 => (r5 2) = .int .i64 num | 3 => (r5 3) = .pointer (some ⟨b6, o6 + num.toNat * 1, none⟩) | 4 => (r5 4) = .string (s[num.toNat]) | 5 => (r5 5) = .slice (some ⟨(ZC (r5 5)), 0, none⟩) 1 1 ∧ (N5 5) = [(ZC (r5 5), .cells ⟨List.flatten [[.string (s[num.toNat])]]⟩ 9 (0, 0))] ∧ Own 9 1 (.slice (some ⟨(ZC (r5 5)), 0, none⟩) 1 1) [[.string (s[num.toNat])]] (N5 5) | 6 => (r5 6) = .pointer (some ⟨b3, 1, none⟩) | 7 => (N5 7) = [(b3, .cells ⟨pkN kind 0 ref (.slice none 0 0) (.slice none 0 0) (.slice none 0 0)⟩ 32 (0, 0))] | _ => True) ⟨?_, ?_, ?_, ?_, ?_, ?_, ?_, ?_, trivial⟩ ?_
   ·intro ρ r5 N5 B hB hBa hp hr hr0
    obtain ⟨ρ7, rfl⟩ := Zc (uc (show ρ 1 = v from hr0 1 (by kernel_rfl)) un)
    refine JLm v <| Za ?_
    exact ⟨v, [], rfl, (Sub.emp Sub.refl), rfl⟩
   ·intro ρ r5 N5 B hB hBa hp hr hr0
    obtain ⟨ρ8, rfl⟩ := Zc (uc (show ρ 2 = .pointer (some ⟨b1, 0, none⟩) from hr0 2 (by kernel_rfl)) un)
    refine JLq (.pointer (some ⟨b1, 1, none⟩)) (Z4 rfl rfl) <| Za ?_
    exact ⟨.pointer (some ⟨b1, 1, none⟩), [], rfl, (Sub.emp Sub.refl), rfl⟩
   ·intro ρ r5 N5 B hB hBa hp hr hr0
    obtain ⟨ρ9, rfl⟩ := Zc (uc (show ρ 25 = .pointer (some ⟨b1, 1, none⟩) from (hr 1 _ _ (by decide) rfl rfl rfl).trans (hp 1 (by decide) rfl)) un)
    refine JLr (Zf ty3 rfl (At.bx 11 (Zn ((hB 3 (by decide)).trans rfl))) (Yn ..) <| Za ?_)
    exact ⟨.int .i64 num, [], rfl, (Sub.emp Sub.refl), rfl⟩
   ·intro ρ r5 N5 B hB hBa hp hr hr0
    obtain ⟨ρ10, rfl⟩ := Zc (uc (show ρ 24 = v from (hr 0 _ _ (by decide) rfl rfl rfl).trans (hp 0 (by decide) rfl)) (uc (show ρ 26 = .int .i64 num from (hr 2 _ _ (by decide) rfl rfl rfl).trans (hp 2 (by decide) rfl)) un))
    refine JLq (.pointer (some ⟨b6, o6 + num.toNat * 1, none⟩)) (Pu.idx num.toNat Tryz.runUnderlying111 ty9 hv6 rfl (by first | rfl | omega) (by first | assumption | omega | decide | simp)) <| Za ?_
    exact ⟨.pointer (some ⟨b6, o6 + num.toNat * 1, none⟩), [], rfl, (Sub.emp Sub.refl), rfl⟩
   ·intro ρ r5 N5 B hB hBa hp hr hr0
    obtain ⟨ρ11, rfl⟩ := Zc (uc (show ρ 27 = .pointer (some ⟨b6, o6 + num.toNat * 1, none⟩) from (hr 3 _ _ (by decide) rfl rfl rfl).trans (hp 3 (by decide) rfl)) un)
    refine JLr (Zf ty9 rfl (At.im hb6) (Yp ((show cs6 = [Value.string (s[num.toNat])] from hE6) ▸ hs6)) <| Za ?_)
    exact ⟨.string (s[num.toNat]), [], rfl, (Sub.emp Sub.refl), rfl⟩
   ·intro ρ r5 N5 B hB hBa hp hr hr0
    obtain ⟨ρ12, rfl⟩ := Zc (uc (show ρ 28 = .string (s[num.toNat]) from (hr 4 _ _ (by decide) rfl rfl rfl).trans (hp 4 (by decide) rfl)) un)
    refine JLr (Zr (vs := [.string (s[num.toNat])]) [[.string (s[num.toNat])]] Tryz.runUnderlying28 el9 rfl rfl (by intro e he; simp only [List.mem_cons, List.not_mem_nil, or_false] at he; subst he; exact rfl) rfl (by decide) fun b13 k13 ho13 hk13 => Za ?_)
    exact ⟨.slice (some ⟨b13, 0, none⟩) 1 1, k13, rfl, Sub.refl, ⟨rfl, hk13, ho13⟩⟩
   ·intro ρ r5 N5 B hB hBa hp hr hr0
    obtain ⟨ρ14, rfl⟩ := Zc (uc (show ρ 5 = .pointer (some ⟨b3, 0, none⟩) from hr0 5 (by kernel_rfl)) un)
    refine JLq (.pointer (some ⟨b3, 1, none⟩)) (fa32_1 rfl rfl) <| Za ?_
    exact ⟨.pointer (some ⟨b3, 1, none⟩), [], rfl, (Sub.emp Sub.refl), rfl⟩
   ·intro ρ r5 N5 B hB hBa hp hr hr0
    obtain ⟨ρ15, rfl⟩ := Zc (uc (show ρ 30 = .pointer (some ⟨b3, 1, none⟩) from (hr 6 _ _ (by decide) rfl rfl rfl).trans (hp 6 (by decide) rfl)) un)
    obtain rfl := hBa rfl
    refine JLr (Ze 9 (vs := [.int .i64 0]) (l := pkN kind 0 ref (.slice none 0 0) (.slice none 0 0) (.slice none 0 0)) ty3 rfl rfl rfl rfl rfl (Zm rfl Zv) (pkN_s1 ..) <| Za ?_)
    exact ⟨undef, [(b3, .cells ⟨pkN kind 0 ref (.slice none 0 0) (.slice none 0 0) (.slice none 0 0)⟩ 32 (0, 0))], rfl, (Sub_setB (k := 8) (a := 7) (p := 1)), rfl⟩
   intro ρ r5 N5 hp hr hr0
   have p5 : (r5 5) = .slice (some ⟨(ZC (r5 5)), 0, none⟩) 1 1 ∧ (N5 5) = [(ZC (r5 5), .cells ⟨List.flatten [[.string (s[num.toNat])]]⟩ 9 (0, 0))] ∧ Own 9 1 (.slice (some ⟨(ZC (r5 5)), 0, none⟩) 1 1) [[.string (s[num.toNat])]] (N5 5) := hp 5 (by decide)
   have p7 : (N5 7) = [(b3, .cells ⟨pkN kind 0 ref (.slice none 0 0) (.slice none 0 0) (.slice none 0 0)⟩ 32 (0, 0))] := hp 7 (by decide)
   obtain ⟨ρ16, rfl⟩ := Zc (uc (show ρ 1 = v from hr0 1 (by kernel_rfl)) (uc (show ρ 2 = .pointer (some ⟨b1, 0, none⟩) from hr0 2 (by kernel_rfl)) (uc (show ρ 4 = .pointer (some ⟨b2, 0, none⟩) from hr0 4 (by kernel_rfl)) (uc (show ρ 5 = .pointer (some ⟨b3, 0, none⟩) from hr0 5 (by kernel_rfl)) (uc (show ρ 29 = .slice (some ⟨(ZC (r5 5)), 0, none⟩) 1 1 from (hr 5 _ _ (by decide) rfl rfl).trans p5.1) un)))))
   have p5_5 := p5; have p5_7 := p7
   clear hp hr hr0 p5 p7
   refine Zq (M' := [(N5 0), (N5 1), (N5 2), (N5 3), (N5 4), (N5 5), (N5 6), [], [], (N5 7), [(b2, .cells ⟨pkN 0 0 zS (.slice none 0 0) (.slice none 0 0) (.slice none 0 0)⟩ 32 (0, 0))], [(b1, .cells ⟨pkT kind num ref ks cv⟩ 27 (0, 0))]]) Sub.refl <| Zq (M' := [(N5 5), [], [(b3, .cells ⟨pkN kind 0 ref (.slice none 0 0) (.slice none 0 0) (.slice none 0 0)⟩ 32 (0, 0))], [(b2, .cells ⟨pkN 0 0 zS (.slice none 0 0) (.slice none 0 0) (.slice none 0 0)⟩ 32 (0, 0))], [(b1, .cells ⟨pkT kind num ref ks cv⟩ 27 (0, 0))]]) (Sd (Sd (Sd (Sd (Sd (Sk (Sd (Sk (Sd (Se p5_7 (Sk (Sk Sub.nil)))))))))))) ?_
   show JL _ _ _ [_, _] _ _ _
   refine JLq (.pointer (some ⟨b3, 34, none⟩)) (Yw rfl rfl) <| JLr (Ze 2 (vs := [.slice (some ⟨(ZC (r5 5)), 0, none⟩) 1 1]) (l := pkN kind 0 ref (.slice (some ⟨(ZC (r5 5)), 0, none⟩) 1 1) (.slice none 0 0) (.slice none 0 0)) YG rfl rfl rfl rfl rfl (Zm rfl Zv) (pkN_s34 ..) <| Zq (M' := [(N5 5), [(b3, .cells ⟨pkN kind 0 ref (.slice (some ⟨(ZC (r5 5)), 0, none⟩) 1 1) (.slice none 0 0) (.slice none 0 0)⟩ 32 (0, 0))], [(b2, .cells ⟨pkN 0 0 zS (.slice none 0 0) (.slice none 0 0) (.slice none 0 0)⟩ 32 (0, 0))], [(b1, .cells ⟨pkT kind num ref ks cv⟩ 27 (0, 0))]]) (Sk (Sd (Sk (Sk (Sk Sub.nil))))) <| Za ?_)
   rw [if_pos h4]
   exact ⟨(.slice (some ⟨(ZC (r5 5)), 0, none⟩) 1 1), ((N5 5)), (by rw [vN_pos h4 (by omega)]; exact p5_5.2.2), rfl, rfl, rfl, rfl, rfl⟩
  replace h4 := df h4
  refine Zp ?_
  rw [if_neg h4]
  exact ⟨(.slice none 0 0), [], (by rw [vN_neg h4]; exact Own.nil), rfl, rfl, rfl, rfl, rfl⟩
 rintro ρ17 _ ⟨nv, k0, ho0, e18, e19, e20, e21, rfl⟩
 obtain ⟨ρ22, rfl⟩ := Zc (uc e18 (uc e19 (uc e20 (uc e21 un))))
 clear e18 e19 e20 e21
 refine Zd <| Zd <| Zb <| JLq (.pointer (some ⟨b1, 34, none⟩)) (Yq rfl rfl) <| JLr (Zf ty24 rfl (At.bx 3 rfl) (Yu ..) ?_)
 obtain ⟨a23, cap23, hv23⟩ := hks.sl
 have hle23 := hks.le
 refine JLq (.int .i64 ((kids.length : Int))) (Pu.lenSl Tryz.runUnderlying24 hv23) <| JLm (.int .i64 0) <| Za <| Zs <| ZU (fun k ρ M => ∃ (j : Nat) (mv : Value) (k1 : Zk) (w : Value) (es : List (List Value)) (k2 k3 : Zk), ρ 1 = v ∧ ρ 2 = .pointer (some ⟨b1, 0, none⟩) ∧ ρ 4 = .pointer (some ⟨b2, 0, none⟩) ∧ ρ 5 = .pointer (some ⟨b3, 0, none⟩) ∧ ρ 33 = ks ∧ ρ 34 = .int .i64 ((kids.length : Int)) ∧ ρ 35 = .int .i64 ((j : Int)) ∧ Sub [[(b3, .cells ⟨pkN kind ((if kind = 1 then 0 else num)) ref mv w (.slice none 0 0)⟩ 32 (0, 0))], k1, k2, k3, [(b2, .cells ⟨pkN 0 0 zS (.slice none 0 0) (.slice none 0 0) (.slice none 0 0)⟩ 32 (0, 0))], [(b1, .cells ⟨pkT kind num ref ks cv⟩ 27 (0, 0))]] M ∧ j ≤ kids.length ∧ Own 9 1 mv (ZP (vN kind num s ++ Yv kind s 0 (kids.take j))) k1 ∧ Own 32 37 w es k2 ∧ ONs (Y4 kind s 0 (kids.take j)) es k3 ∧ k = kids.length - j) _ ⟨0, nv, k0, (.slice none 0 0), [], [], [], rfl, rfl, rfl, rfl, rfl, rfl, rfl, (Sub.cons 1 rfl (Sk (Sub.emp (Sub.emp (Sk (Sk Sub.nil)))))), Nat.zero_le _, (by simpa [Yv] using ho0), Own.nil, (by simpa [Y4] using ONs.nil), rfl⟩ ?_
 rintro _ ρ24 _ ⟨j, mv, k1, w, es, k2, k3, e25, e26, e27, e28, e29, e30, e31, hm32, hj, ho1, ho2, hop, rfl⟩
 obtain ⟨ρ33, rfl⟩ := Zc (uc e25 (uc e26 (uc e27 (uc e28 (uc e29 (uc e30 (uc e31 un)))))))
 clear e25 e26 e27 e28 e29 e30 e31
 refine Z1 hm32 <| Zd <| Zb <| JLq (.bool (decide ((j : Int) < (kids.length : Int)))) (Pu.lss rfl rfl) <| Za <| Zd <| Zi (b := decide ((j : Int) < (kids.length : Int))) rfl (fun h34 => ?_) (fun h34 => ?_)
 ·replace h34 := dt h34
  have h34n : j < kids.length := by omega
  have hz1 := sizeTs_mem _ (List.getElem_mem h34n)
  have hm1 := YR kind j
  have hel := ONs_len hop
  rw [nmKs_len, List.length_take] at hel
  have hnl := nmNs_le kind s (kids.take j) 0
  rw [List.length_take] at hnl
  have hvl := vN_len kind num s
  refine Zp <| Zd <| Zs <| Zd <| Zb <| JLm (.int .i64 ((j : Int))) ?_
  obtain ⟨b35, o35, cap35, row35, T35, fr35, cs35, hv35, hb35, hs35, hE35⟩ := hks.get j (by first | assumption | omega | decide | simp)
  refine JLq (.pointer (some ⟨b35, o35 + j * 36, none⟩)) (Pu.idx j Tryz.runUnderlying24 Zu hv35 rfl rfl (by first | assumption | omega | decide | simp)) <| JLr (Zh Zu rfl (At.im hb35) hs35 <| JLr (Zj (l := pkT 0 0 zS (.slice none 0 0) (.slice none 0 0)) Tryz.zeroValue27 rfl fun b36 => JLa (.int .i64 ((j : Int))) <| JLr (Ze 0 (vs := cs35) (l := cs35) Zu rfl rfl rfl rfl (ZD hE35) (RT_ok hE35) (ZL (n := 36) rfl (ZD hE35)) <| Za <| Zd <| Zb <| JLm v <| JLq (.pointer (some ⟨b1, 0, none⟩)) (ZY rfl rfl) <| JLr (Zf ty3 rfl (At.bx 6 rfl) (Yg ..) <| JLm (.int .i64 ((j : Int))) <| Zg rfl Tryz.call111 rfl (fun hin => more_ct _ _ _) rfl ?_))))
  rintro _ _ ⟨rfl, rfl⟩
  refine Zg rfl Tryz.call110 rfl (fun hin => chosenI_ct s (more kind ((j : Int))) _ _ (RSs.mono (Hle.hu _ _) hs) (by omega) (by omega)) rfl ?_
  rintro _ _ ⟨u37, v37, k37, l37, rfl, rfl, hu37, hv37⟩
  have hcl37 := ZV s (more kind ((j : Int))).toNat
  have hfl37 := Yh s (ZK s (more kind ((j : Int))).toNat)
  refine JLm (.tuple ⟨[u37, v37]⟩) <| JLq u37 (Pu.extract rfl rfl) <| JLq v37 (Pu.extract rfl rfl) <| JLa u37 <| JLa v37 <| Za <| Zd <| Zb <| JLq (.pointer (some ⟨b3, 34, none⟩)) (Yw rfl rfl) <| JLr (Zf YG rfl (At.bx 3 rfl) (pkN_34 ..) <| JLm v37 <| JLr (ZH (i := 4) (n := (ZK s (more kind ((j : Int))).toNat).length) (es' := ZP (ZK s (more kind ((j : Int))).toNat)) Tryz.runUnderlying28 Tryz.runUnderlying28 (Or.inl rfl) el9 rfl rfl rfl ho1 (own_src (i := 1) hv37 rfl) (ZW _) (strs_len1 _) (strs_ok _) (by decide) (by first | omega | (simp only [ZW, List.length_append]; omega)) fun v38 k38 ho38 => ?_))
  rw [← strs_app] at ho38
  refine JLq (.pointer (some ⟨b3, 34, none⟩)) (Yw rfl rfl) <| JLr (Ze 3 (vs := [v38]) (l := pkN kind ((if kind = 1 then 0 else num)) ref v38 w (.slice none 0 0)) YG rfl rfl rfl (ZO ho38.one) rfl (Zm ho38.one Zv) (pkN_s34 ..) <| Za <| Ya mixed #[0, 1, 0, 0, 12, 28, 63, 127, 255] 6 6 9 rfl (by kernel_rfl) (fun i r39 N39 => match i with | 0 => (r39 0) = .pointer (some ⟨b3, 35, none⟩) | 1 => (r39 1) = w | 2 => (r39 2) = .agg ⟨cs35⟩ | 3 => (r39 3) = u37 | 4 => (r39 4) = .agg ⟨(cel (r39 4))⟩ ∧ ON (nmT (kids[j]) (ZF s (ZK s (more kind ((j : Int))).toNat))) (cel (r39 4)) (N39 4) | 5 => (r39 5) = .slice (some ⟨(ZC (r39 5)), 0, none⟩) 1 1 ∧ (N39 5) = [(ZC (r39 5), .cells ⟨List.flatten [(cel (r39 4))]⟩ 32 (0, 0))] ∧ Own 32 37 (.slice (some ⟨(ZC (r39 5)), 0, none⟩) 1 1) [(cel (r39 4))] (N39 5) | _ => True) ⟨?_, ?_, ?_, ?_, ?_, ?_, trivial⟩ ?_)
  ·intro ρ r39 N39 B hB hBa hp hr hr0
   obtain ⟨ρ40, rfl⟩ := Zc (uc (show ρ 5 = .pointer (some ⟨b3, 0, none⟩) from hr0 5 (by kernel_rfl)) un)
   refine JLq (.pointer (some ⟨b3, 35, none⟩)) (Xk rfl rfl) <| Za ?_
   exact ⟨.pointer (some ⟨b3, 35, none⟩), [], rfl, (Sub.emp Sub.refl), rfl⟩
  ·intro ρ r39 N39 B hB hBa hp hr hr0
   obtain ⟨ρ41, rfl⟩ := Zc (uc (show ρ 54 = .pointer (some ⟨b3, 35, none⟩) from (hr 0 _ _ (by decide) rfl rfl rfl).trans (hp 0 (by decide) rfl)) un)
   refine JLr (Zf ty29 rfl (At.bx 9 (Zn ((hB 3 (by decide)).trans rfl))) (pkN_35 ..) <| Za ?_)
   exact ⟨w, [], rfl, (Sub.emp Sub.refl), rfl⟩
  ·intro ρ r39 N39 B hB hBa hp hr hr0
   obtain ⟨ρ42, rfl⟩ := Zc (uc (show ρ 7 = .pointer (some ⟨b36, 0, none⟩) from hr0 7 (by kernel_rfl)) un)
   refine JLr (Zh Zu rfl (At.bx 8 (Zn ((hB 2 (by decide)).trans rfl))) (Zx (ZD hE35)) <| Za ?_)
   exact ⟨.agg ⟨cs35⟩, [], rfl, (Sub.emp Sub.refl), rfl⟩
  ·intro ρ r39 N39 B hB hBa hp hr hr0
   obtain ⟨ρ43, rfl⟩ := Zc (uc (show ρ 8 = u37 from hr0 8 (by kernel_rfl)) un)
   refine JLm u37 <| Za ?_
   exact ⟨u37, [], rfl, (Sub.emp Sub.refl), rfl⟩
  ·intro ρ r39 N39 B hB hBa hp hr hr0
   obtain ⟨ρ44, rfl⟩ := Zc (uc (show ρ 56 = .agg ⟨cs35⟩ from (hr 2 _ _ (by decide) rfl rfl rfl).trans (hp 2 (by decide) rfl)) (uc (show ρ 57 = u37 from (hr 3 _ _ (by decide) rfl rfl rfl).trans (hp 3 (by decide) rfl)) un))
   refine Zg rfl Tryz.call65 rfl (fun hin => ih _ (List.getElem_mem h34n) _ _ _ _ (RT.mono (Hle.hu _ _) hE35) (Yj hu37 (by first | omega | (simp only [Yh, List.length_take, List.length_append]; omega)) (hin 6 _ (Zn ((hB 0 (by decide)).trans rfl)))) (by rw [Yh, ZV]; exact scKs_get0 h34n hsk) (by rw [Yh, ZV]; omega)) rfl ?_
   rintro _ _ ⟨cs45, k45, rfl, rfl, hO45⟩
   refine Za ?_
   exact ⟨.agg ⟨cs45⟩, k45, rfl, Sub.refl, ⟨rfl, hO45⟩⟩
  ·intro ρ r39 N39 B hB hBa hp hr hr0
   have p4 : (r39 4) = .agg ⟨(cel (r39 4))⟩ ∧ ON (nmT (kids[j]) (ZF s (ZK s (more kind ((j : Int))).toNat))) (cel (r39 4)) (N39 4) := hp 4 (by decide) rfl
   obtain ⟨ρ46, rfl⟩ := Zc (uc (show ρ 58 = .agg ⟨(cel (r39 4))⟩ from (hr 4 _ _ (by decide) rfl rfl rfl).trans p4.1) un)
   refine JLr (Zr (vs := [.agg ⟨(cel (r39 4))⟩]) [(cel (r39 4))] Tryz.runUnderlying29 el32 rfl rfl (by intro e he; simp only [List.mem_cons, List.not_mem_nil, or_false] at he; subst he; exact p4.2.len) rfl (by decide) fun b47 k47 ho47 hk47 => Za ?_)
   exact ⟨.slice (some ⟨b47, 0, none⟩) 1 1, k47, rfl, Sub.refl, ⟨rfl, hk47, ho47⟩⟩
  intro ρ r39 N39 hp hr hr0
  have p4 : (r39 4) = .agg ⟨(cel (r39 4))⟩ ∧ ON (nmT (kids[j]) (ZF s (ZK s (more kind ((j : Int))).toNat))) (cel (r39 4)) (N39 4) := hp 4 (by decide)
  have p5 : (r39 5) = .slice (some ⟨(ZC (r39 5)), 0, none⟩) 1 1 ∧ (N39 5) = [(ZC (r39 5), .cells ⟨List.flatten [(cel (r39 4))]⟩ 32 (0, 0))] ∧ Own 32 37 (.slice (some ⟨(ZC (r39 5)), 0, none⟩) 1 1) [(cel (r39 4))] (N39 5) := hp 5 (by decide)
  obtain ⟨ρ48, rfl⟩ := Zc (uc (show ρ 1 = v from hr0 1 (by kernel_rfl)) (uc (show ρ 2 = .pointer (some ⟨b1, 0, none⟩) from hr0 2 (by kernel_rfl)) (uc (show ρ 4 = .pointer (some ⟨b2, 0, none⟩) from hr0 4 (by kernel_rfl)) (uc (show ρ 5 = .pointer (some ⟨b3, 0, none⟩) from hr0 5 (by kernel_rfl)) (uc (show ρ 33 = ks from hr0 33 (by kernel_rfl)) (uc (show ρ 34 = .int .i64 ((kids.length : Int)) from hr0 34 (by kernel_rfl)) (uc (show ρ 35 = .int .i64 ((j : Int)) from hr0 35 (by kernel_rfl)) (uc (show ρ 55 = w from (hr 1 _ _ (by decide) rfl rfl).trans (hp 1 (by decide))) (uc (show ρ 59 = .slice (some ⟨(ZC (r39 5)), 0, none⟩) 1 1 from (hr 5 _ _ (by decide) rfl rfl).trans p5.1) un)))))))))
  have p39_4 := p4; have p39_5 := p5
  clear hp hr hr0 p4 p5
  refine Zq (M' := [(N39 0), (N39 1), (N39 2), (N39 3), (N39 4), (N39 5), k37, l37, [(b36, .cells ⟨cs35⟩ 27 (0, 0))], [(b3, .cells ⟨pkN kind ((if kind = 1 then 0 else num)) ref v38 w (.slice none 0 0)⟩ 32 (0, 0))], k38, k2, k3, [(b2, .cells ⟨pkN 0 0 zS (.slice none 0 0) (.slice none 0 0) (.slice none 0 0)⟩ 32 (0, 0))], [(b1, .cells ⟨pkT kind num ref ks cv⟩ 27 (0, 0))]]) Sub.refl <| Zq (M' := [(N39 4), (N39 5), k37, l37, [(b36, .cells ⟨cs35⟩ 27 (0, 0))], [(b3, .cells ⟨pkN kind ((if kind = 1 then 0 else num)) ref v38 w (.slice none 0 0)⟩ 32 (0, 0))], k38, k2, k3, [(b2, .cells ⟨pkN 0 0 zS (.slice none 0 0) (.slice none 0 0) (.slice none 0 0)⟩ 32 (0, 0))], [(b1, .cells ⟨pkT kind num ref ks cv⟩ 27 (0, 0))]]) (Sd (Sd (Sd (Sd (Sk (Sk (Sk (Sk (Sk (Sk (Sk (Sk (Sk (Sk (Sk Sub.nil))))))))))))))) ?_
  show JL _ _ _ [_, _, _] _ _ _
  have hlens49 : ∀ e ∈ ([(cel (r39 4))] : List (List Value)), List.length e = 37 := by
   intro e he; simp only [List.mem_cons, List.not_mem_nil, or_false] at he
   rcases he with rfl
   ·exact p39_4.2.len
  have hoks49 : ∀ e ∈ ([(cel (r39 4))] : List (List Value)), okc e := by
   intro e he; simp only [List.mem_cons, List.not_mem_nil, or_false] at he
   rcases he with rfl
   ·exact p39_4.2.ok
  refine JLr (ZH (i := 7) (n := 1) (es' := [(cel (r39 4))]) Tryz.runUnderlying29 Tryz.runUnderlying29 (Or.inl rfl) el32 rfl rfl rfl ho2 (fun F w m => Src.row (((At.k 1 rfl (by rw [p39_5.2.1]; exact List.mem_cons_self))).heap m) (Zx (ZG hlens49))) rfl hlens49 hoks49 (by decide) (by first | omega | (simp only [ZW, List.length_append]; omega)) fun v49 k49 ho49 => JLq (.pointer (some ⟨b3, 35, none⟩)) (Xk rfl rfl) <| JLr (Ze 5 (vs := [v49]) (l := pkN kind ((if kind = 1 then 0 else num)) ref v38 v49 (.slice none 0 0)) ty29 rfl rfl rfl (ZO ho49.one) rfl (Zm ho49.one Zv) (pkN_s35 ..) <| Za <| Zb <| JLq (.int .i64 (((j + 1 : Nat) : Int))) (Pu.inc rfl rfl (by omega)) <| JLm (.int .i64 (((j + 1 : Nat) : Int))) <| Za <| ⟨_, ?_, (j + 1), v38, k38, v49, (es ++ [(cel (r39 4))]), k49, (k3 ++ (N39 4)), rfl, rfl, rfl, rfl, rfl, rfl, rfl, (Sub.cons 5 rfl (Sub.cons 5 rfl (Sub.cons 5 rfl (Sub.join (Sub.cons 5 rfl (Sk (Sd (Sd (Sd (Sd (Sk (Sk Sub.nil)))))))))))), ?_, ?_, ?_, ?_, rfl⟩))
  ·omega
  ·omega
  ·rw [nmNs_take0 kind s kids j h34n, ← List.append_assoc]; exact ho38
  ·exact ho49
  rw [nmKs_take0 kind s kids j h34n]; exact ONs.snoc p39_4.2 hop
 replace h34 := df h34
 have h34n : kids.length ≤ j := by omega
 refine ZM _ rfl <| Zd <| Zd <| Zb <| JLq (.pointer (some ⟨b1, 35, none⟩)) (YP rfl rfl) <| JLr (Zf ty25 rfl (At.bx 5 rfl) (YI ..) ?_)
 obtain ⟨a50, cap50, hv50⟩ := hcv.sl
 have hle50 := hcv.le
 refine JLq (.int .i64 ((cases.length : Int))) (Pu.lenSl Tryz.runUnderlying25 hv50) <| JLm (.int .i64 0) <| Za <| Zs ?_
 have hjk := h34n
 rw [List.take_of_length_le hjk] at ho1 hop
 refine ZU (fun k ρ M => ∃ (j : Nat) (y : Value) (es2 : List (List Value)) (k4 k5 : Zk), ρ 1 = v ∧ ρ 4 = .pointer (some ⟨b2, 0, none⟩) ∧ ρ 5 = .pointer (some ⟨b3, 0, none⟩) ∧ ρ 64 = cv ∧ ρ 65 = .int .i64 ((cases.length : Int)) ∧ ρ 66 = .int .i64 ((j : Int)) ∧ Sub [[(b3, .cells ⟨pkN kind ((if kind = 1 then 0 else num)) ref mv w y⟩ 32 (0, 0))], k4, k5, k1, k2, k3, [(b2, .cells ⟨pkN 0 0 zS (.slice none 0 0) (.slice none 0 0) (.slice none 0 0)⟩ 32 (0, 0))], [(b1, .cells ⟨pkT kind num ref ks cv⟩ 27 (0, 0))]] M ∧ j ≤ cases.length ∧ Own 85 73 y es2 k4 ∧ ONCs (YX s (cases.take j)) es2 k5 ∧ k = cases.length - j) _ ⟨0, (.slice none 0 0), [], [], [], rfl, rfl, rfl, rfl, rfl, rfl, (Sk (Sub.emp (Sub.emp (Sk (Sk (Sk (Sk (Sk Sub.nil)))))))), Nat.zero_le _, Own.nil, (by simpa [YX] using ONCs.nil), rfl⟩ ?_
 rintro _ ρ51 _ ⟨j, y, es2, k4, k5, e52, e53, e54, e55, e56, e57, hm58, hj, ho3, hopw, rfl⟩
 obtain ⟨ρ59, rfl⟩ := Zc (uc e52 (uc e53 (uc e54 (uc e55 (uc e56 (uc e57 un))))))
 clear e52 e53 e54 e55 e56 e57
 refine Z1 hm58 <| Zd <| Zb <| JLq (.bool (decide ((j : Int) < (cases.length : Int)))) (Pu.lss rfl rfl) <| Za <| Zd <| Zi (b := decide ((j : Int) < (cases.length : Int))) rfl (fun h60 => ?_) (fun h60 => ?_)
 ·replace h60 := dt h60
  have h60n : j < cases.length := by omega
  have hz1 := sizeCs_mem _ (List.getElem_mem h60n)
  have hm1 := YE (cases[j]).1
  have hel := ONCs_len hopw
  rw [nmCs_len, List.length_take] at hel
  refine Zp <| Zd <| Zs <| Zd <| Zb ?_
  obtain ⟨b61, o61, cap61, row61, T61, fr61, cs61, hv61, hb61, hs61, hE61⟩ := hcv.get j (by first | assumption | omega | decide | simp)
  obtain ⟨ca61, cb61, rfl, hA61, hB61⟩ := hE61
  refine JLq (.pointer (some ⟨b61, o61 + j * 71, none⟩)) (Pu.idx j Tryz.runUnderlying25 ty80 hv61 rfl rfl (by first | assumption | omega | decide | simp)) <| JLr (Zh ty80 rfl (At.im hb61) hs61 <| JLr (Zj (l := (pkP 0 0 zS (.slice none 0 0)) ++ (pkT 0 0 zS (.slice none 0 0) (.slice none 0 0))) Tryz.zeroValue80 rfl fun b62 => JLr (Ze 0 (vs := ca61 ++ cb61) (l := ca61 ++ cb61) ty80 rfl rfl rfl rfl (ZN (ZJ hA61) (ZD hB61)) (Z3 (RP_ok hA61) (RT_ok hB61)) (ZL (n := 71) rfl (ZN (ZJ hA61) (ZD hB61))) <| Za <| Zd <| Zb <| JLm v <| JLq (.pointer (some ⟨b62, 0, none⟩)) (fa80_0 rfl rfl) <| JLr (Zh Z5 rfl (At.bx 0 rfl) (sub_l (ZJ hA61)) <| Zg rfl Tryz.call112 rfl (fun hin => binds_ct _ _ _ (RP.mono (Hle.hu _ _) hA61) (by omega)) rfl ?_))))
  rintro _ _ ⟨rfl, rfl⟩
  refine Zg rfl Tryz.call110 rfl (fun hin => chosenI_ct s ((binds (cases[j].1) : Int)) _ _ (RSs.mono (Hle.hu _ _) hs) (by omega) (by omega)) rfl ?_
  rintro _ _ ⟨u63, v63, k63, l63, rfl, rfl, hu63, hv63⟩
  have hcl63 := ZV s ((binds (cases[j].1) : Int)).toNat
  have hfl63 := Yh s (ZK s ((binds (cases[j].1) : Int)).toNat)
  refine JLm (.tuple ⟨[u63, v63]⟩) <| JLq u63 (Pu.extract rfl rfl) <| JLq v63 (Pu.extract rfl rfl) <| JLa u63 <| JLa v63 <| Za <| Ya mixed #[0, 1, 0, 0, 8, 28, 0, 0, 128, 0, 956, 2044, 4092, 8191, 16383, 32767] 13 13 11 rfl (by kernel_rfl) (fun i r64 N64 => match i with | 0 => (r64 0) = .pointer (some ⟨b3, 36, none⟩) | 1 => (r64 1) = y | 2 => (r64 2) = .agg ⟨[.func (.func 83) ⟨[]⟩ ⟨[]⟩, .func (.func 84) ⟨[]⟩ ⟨[]⟩]⟩ | 3 => (r64 3) = .pointer (some ⟨b62, 0, none⟩) | 4 => (r64 4) = .agg ⟨ca61⟩ | 5 => (r64 5) = .agg ⟨(cel (r64 5))⟩ ∧ OP (cases[j].1) (cel (r64 5)) (N64 5) | 6 => (r64 6) = v63 | 7 => (r64 7) = .pointer (some ⟨b62, 35, none⟩) | 8 => (r64 8) = .agg ⟨cb61⟩ | 9 => (r64 9) = u63 | 10 => (r64 10) = .agg ⟨(cel (r64 10))⟩ ∧ ON (nmT (cases[j].2) (ZF s (ZK s ((binds (cases[j].1) : Int)).toNat))) (cel (r64 10)) (N64 10) | 11 => (r64 11) = .agg ⟨((cel (r64 5))) ++ (([v63]) ++ ((cel (r64 10))))⟩ | 12 => (r64 12) = .slice (some ⟨(ZC (r64 12)), 0, none⟩) 1 1 ∧ (N64 12) = [(ZC (r64 12), .cells ⟨List.flatten [((cel (r64 5))) ++ (([v63]) ++ ((cel (r64 10))))]⟩ 85 (0, 0))] ∧ Own 85 73 (.slice (some ⟨(ZC (r64 12)), 0, none⟩) 1 1) [((cel (r64 5))) ++ (([v63]) ++ ((cel (r64 10))))] (N64 12) | _ => True) ⟨?_, ?_, ?_, ?_, ?_, ?_, ?_, ?_, ?_, ?_, ?_, ?_, ?_, trivial⟩ ?_
  ·intro ρ r64 N64 B hB hBa hp hr hr0
   obtain ⟨ρ65, rfl⟩ := Zc (uc (show ρ 5 = .pointer (some ⟨b3, 0, none⟩) from hr0 5 (by kernel_rfl)) un)
   refine JLq (.pointer (some ⟨b3, 36, none⟩)) (fa32_5 rfl rfl) <| Za ?_
   exact ⟨.pointer (some ⟨b3, 36, none⟩), [], rfl, (Sub.emp Sub.refl), rfl⟩
  ·intro ρ r64 N64 B hB hBa hp hr hr0
   obtain ⟨ρ66, rfl⟩ := Zc (uc (show ρ 78 = .pointer (some ⟨b3, 36, none⟩) from (hr 0 _ _ (by decide) rfl rfl rfl).trans (hp 0 (by decide) rfl)) un)
   refine JLr (Zf ty30 rfl (At.bx 16 (Zn ((hB 3 (by decide)).trans rfl))) (pkN_36 ..) <| Za ?_)
   exact ⟨y, [], rfl, (Sub.emp Sub.refl), rfl⟩
  ·intro ρ r64 N64 B hB hBa hp hr hr0
   refine JLq (.agg ⟨[.func (.func 83) ⟨[]⟩ ⟨[]⟩, .func (.func 84) ⟨[]⟩ ⟨[]⟩]⟩) (Pu.build (pv := [(0, .func (.func 83) ⟨[]⟩ ⟨[]⟩), (1, .func (.func 84) ⟨[]⟩ ⟨[]⟩)]) (l := [.func (.func 83) ⟨[]⟩ ⟨[]⟩, .func (.func 84) ⟨[]⟩ ⟨[]⟩]) rfl (bld136_0_1 _ _ _ _ _ _)) <| Za ?_
   exact ⟨.agg ⟨[.func (.func 83) ⟨[]⟩ ⟨[]⟩, .func (.func 84) ⟨[]⟩ ⟨[]⟩]⟩, [], rfl, (Sub.emp Sub.refl), rfl⟩
  ·intro ρ r64 N64 B hB hBa hp hr hr0
   obtain ⟨ρ67, rfl⟩ := Zc (uc (show ρ 11 = .pointer (some ⟨b62, 0, none⟩) from hr0 11 (by kernel_rfl)) un)
   refine JLq (.pointer (some ⟨b62, 0, none⟩)) (fa80_0 rfl rfl) <| Za ?_
   exact ⟨.pointer (some ⟨b62, 0, none⟩), [], rfl, (Sub.emp Sub.refl), rfl⟩
  ·intro ρ r64 N64 B hB hBa hp hr hr0
   obtain ⟨ρ68, rfl⟩ := Zc (uc (show ρ 81 = .pointer (some ⟨b62, 0, none⟩) from (hr 3 _ _ (by decide) rfl rfl rfl).trans (hp 3 (by decide) rfl)) un)
   refine JLr (Zh Z5 rfl (At.bx 15 (Zn ((hB 2 (by decide)).trans rfl))) (sub_l (ZJ hA61)) <| Za ?_)
   exact ⟨.agg ⟨ca61⟩, [], rfl, (Sub.emp Sub.refl), rfl⟩
  ·intro ρ r64 N64 B hB hBa hp hr hr0
   obtain ⟨ρ69, rfl⟩ := Zc (uc (show ρ 80 = .agg ⟨[.func (.func 83) ⟨[]⟩ ⟨[]⟩, .func (.func 84) ⟨[]⟩ ⟨[]⟩]⟩ from (hr 2 _ _ (by decide) rfl rfl rfl).trans (hp 2 (by decide) rfl)) (uc (show ρ 82 = .agg ⟨ca61⟩ from (hr 4 _ _ (by decide) rfl rfl rfl).trans (hp 4 (by decide) rfl)) un))
   refine Zg rfl Tryz.call113 rfl (fun hin => mapPatternP_ct _ _ _ (RP.mono (Hle.hu _ _) hA61) (by omega)) rfl ?_
   rintro _ _ ⟨cs70, k70, rfl, rfl, hO70⟩
   refine Za ?_
   exact ⟨.agg ⟨cs70⟩, k70, rfl, Sub.refl, ⟨rfl, hO70⟩⟩
  ·intro ρ r64 N64 B hB hBa hp hr hr0
   obtain ⟨ρ71, rfl⟩ := Zc (uc (show ρ 13 = v63 from hr0 13 (by kernel_rfl)) un)
   refine JLm v63 <| Za ?_
   exact ⟨v63, [], rfl, (Sub.emp Sub.refl), rfl⟩
  ·intro ρ r64 N64 B hB hBa hp hr hr0
   obtain ⟨ρ72, rfl⟩ := Zc (uc (show ρ 11 = .pointer (some ⟨b62, 0, none⟩) from hr0 11 (by kernel_rfl)) un)
   refine JLq (.pointer (some ⟨b62, 35, none⟩)) (fa80_1 rfl rfl) <| Za ?_
   exact ⟨.pointer (some ⟨b62, 35, none⟩), [], rfl, (Sub.emp Sub.refl), rfl⟩
  ·intro ρ r64 N64 B hB hBa hp hr hr0
   obtain ⟨ρ73, rfl⟩ := Zc (uc (show ρ 85 = .pointer (some ⟨b62, 35, none⟩) from (hr 7 _ _ (by decide) rfl rfl rfl).trans (hp 7 (by decide) rfl)) un)
   refine JLr (Zh Zu rfl (At.bx 15 (Zn ((hB 2 (by decide)).trans rfl))) (sub_r (ZJ hA61) (ZD hB61)) <| Za ?_)
   exact ⟨.agg ⟨cb61⟩, [], rfl, (Sub.emp Sub.refl), rfl⟩
  ·intro ρ r64 N64 B hB hBa hp hr hr0
   obtain ⟨ρ74, rfl⟩ := Zc (uc (show ρ 12 = u63 from hr0 12 (by kernel_rfl)) un)
   refine JLm u63 <| Za ?_
   exact ⟨u63, [], rfl, (Sub.emp Sub.refl), rfl⟩
  ·intro ρ r64 N64 B hB hBa hp hr hr0
   obtain ⟨ρ75, rfl⟩ := Zc (uc (show ρ 86 = .agg ⟨cb61⟩ from (hr 8 _ _ (by decide) rfl rfl rfl).trans (hp 8 (by decide) rfl)) (uc (show ρ 87 = u63 from (hr 9 _ _ (by decide) rfl rfl rfl).trans (hp 9 (by decide) rfl)) un))
   refine Zg rfl Tryz.call65 rfl (fun hin => ih' _ (List.getElem_mem h60n) _ _ _ _ (RT.mono (Hle.hu _ _) hB61) (Yj hu63 (by first | omega | (simp only [Yh, List.length_take, List.length_append]; omega)) (hin 13 _ (Zn ((hB 0 (by decide)).trans rfl)))) (by rw [Yh, ZV]; exact scCs_get h60n hscc) (by rw [Yh, ZV]; omega)) rfl ?_
   rintro _ _ ⟨cs76, k76, rfl, rfl, hO76⟩
   refine Za ?_
   exact ⟨.agg ⟨cs76⟩, k76, rfl, Sub.refl, ⟨rfl, hO76⟩⟩
  ·intro ρ r64 N64 B hB hBa hp hr hr0
   have p5 : (r64 5) = .agg ⟨(cel (r64 5))⟩ ∧ OP (cases[j].1) (cel (r64 5)) (N64 5) := hp 5 (by decide) rfl
   have p10 : (r64 10) = .agg ⟨(cel (r64 10))⟩ ∧ ON (nmT (cases[j].2) (ZF s (ZK s ((binds (cases[j].1) : Int)).toNat))) (cel (r64 10)) (N64 10) := hp 10 (by decide) rfl
   obtain ⟨ρ77, rfl⟩ := Zc (uc (show ρ 83 = .agg ⟨(cel (r64 5))⟩ from (hr 5 _ _ (by decide) rfl rfl rfl).trans p5.1) (uc (show ρ 84 = v63 from (hr 6 _ _ (by decide) rfl rfl rfl).trans (hp 6 (by decide) rfl)) (uc (show ρ 88 = .agg ⟨(cel (r64 10))⟩ from (hr 10 _ _ (by decide) rfl rfl rfl).trans p10.1) un)))
   refine JLq (.agg ⟨((cel (r64 5))) ++ (([v63]) ++ ((cel (r64 10))))⟩) (Pu.build (pv := [(0, .agg ⟨(cel (r64 5))⟩), (1, v63), (2, .agg ⟨(cel (r64 10))⟩)]) (l := ((cel (r64 5))) ++ (([v63]) ++ ((cel (r64 10))))) rfl (bldNC p5.2.len hv63.one p10.2.len)) <| Za ?_
   exact ⟨.agg ⟨((cel (r64 5))) ++ (([v63]) ++ ((cel (r64 10))))⟩, [], rfl, (Sub.emp Sub.refl), rfl⟩
  ·intro ρ r64 N64 B hB hBa hp hr hr0
   have p5 : (r64 5) = .agg ⟨(cel (r64 5))⟩ ∧ OP (cases[j].1) (cel (r64 5)) (N64 5) := hp 5 (by decide) rfl
   have p10 : (r64 10) = .agg ⟨(cel (r64 10))⟩ ∧ ON (nmT (cases[j].2) (ZF s (ZK s ((binds (cases[j].1) : Int)).toNat))) (cel (r64 10)) (N64 10) := hp 10 (by decide) rfl
   obtain ⟨ρ78, rfl⟩ := Zc (uc (show ρ 89 = .agg ⟨((cel (r64 5))) ++ (([v63]) ++ ((cel (r64 10))))⟩ from (hr 11 _ _ (by decide) rfl rfl rfl).trans (hp 11 (by decide) rfl)) un)
   refine JLr (Zr (vs := [.agg ⟨((cel (r64 5))) ++ (([v63]) ++ ((cel (r64 10))))⟩]) [((cel (r64 5))) ++ (([v63]) ++ ((cel (r64 10))))] Tryz.runUnderlying30 el85 rfl rfl (by intro e he; simp only [List.mem_cons, List.not_mem_nil, or_false] at he; subst he; exact (ZN p5.2.len (ZN rfl p10.2.len))) rfl (by decide) fun b79 k79 ho79 hk79 => Za ?_)
   exact ⟨.slice (some ⟨b79, 0, none⟩) 1 1, k79, rfl, Sub.refl, ⟨rfl, hk79, ho79⟩⟩
  intro ρ r64 N64 hp hr hr0
  have p5 : (r64 5) = .agg ⟨(cel (r64 5))⟩ ∧ OP (cases[j].1) (cel (r64 5)) (N64 5) := hp 5 (by decide)
  have p10 : (r64 10) = .agg ⟨(cel (r64 10))⟩ ∧ ON (nmT (cases[j].2) (ZF s (ZK s ((binds (cases[j].1) : Int)).toNat))) (cel (r64 10)) (N64 10) := hp 10 (by decide)
  have p12 : (r64 12) = .slice (some ⟨(ZC (r64 12)), 0, none⟩) 1 1 ∧ (N64 12) = [(ZC (r64 12), .cells ⟨List.flatten [((cel (r64 5))) ++ (([v63]) ++ ((cel (r64 10))))]⟩ 85 (0, 0))] ∧ Own 85 73 (.slice (some ⟨(ZC (r64 12)), 0, none⟩) 1 1) [((cel (r64 5))) ++ (([v63]) ++ ((cel (r64 10))))] (N64 12) := hp 12 (by decide)
  obtain ⟨ρ80, rfl⟩ := Zc (uc (show ρ 1 = v from hr0 1 (by kernel_rfl)) (uc (show ρ 4 = .pointer (some ⟨b2, 0, none⟩) from hr0 4 (by kernel_rfl)) (uc (show ρ 5 = .pointer (some ⟨b3, 0, none⟩) from hr0 5 (by kernel_rfl)) (uc (show ρ 64 = cv from hr0 64 (by kernel_rfl)) (uc (show ρ 65 = .int .i64 ((cases.length : Int)) from hr0 65 (by kernel_rfl)) (uc (show ρ 66 = .int .i64 ((j : Int)) from hr0 66 (by kernel_rfl)) (uc (show ρ 79 = y from (hr 1 _ _ (by decide) rfl rfl).trans (hp 1 (by decide))) (uc (show ρ 90 = .slice (some ⟨(ZC (r64 12)), 0, none⟩) 1 1 from (hr 12 _ _ (by decide) rfl rfl).trans p12.1) un))))))))
  have p64_5 := p5; have p64_10 := p10; have p64_12 := p12
  clear hp hr hr0 p5 p10 p12
  refine Zq (M' := [(N64 0), (N64 1), (N64 2), (N64 3), (N64 4), (N64 5), (N64 6), (N64 7), (N64 8), (N64 9), (N64 10), (N64 11), (N64 12), k63, l63, [(b62, .cells ⟨ca61 ++ cb61⟩ 80 (0, 0))], [(b3, .cells ⟨pkN kind ((if kind = 1 then 0 else num)) ref mv w y⟩ 32 (0, 0))], k4, k5, k1, k2, k3, [(b2, .cells ⟨pkN 0 0 zS (.slice none 0 0) (.slice none 0 0) (.slice none 0 0)⟩ 32 (0, 0))], [(b1, .cells ⟨pkT kind num ref ks cv⟩ 27 (0, 0))]]) Sub.refl <| Zq (M' := [(N64 5), (N64 10), (N64 12), k63, l63, [(b62, .cells ⟨ca61 ++ cb61⟩ 80 (0, 0))], [(b3, .cells ⟨pkN kind ((if kind = 1 then 0 else num)) ref mv w y⟩ 32 (0, 0))], k4, k5, k1, k2, k3, [(b2, .cells ⟨pkN 0 0 zS (.slice none 0 0) (.slice none 0 0) (.slice none 0 0)⟩ 32 (0, 0))], [(b1, .cells ⟨pkT kind num ref ks cv⟩ 27 (0, 0))]]) (Sd (Sd (Sd (Sd (Sd (Sk (Sd (Sd (Sd (Sd (Sk (Sd (Sk (Sk (Sk (Sk (Sk (Sk (Sk (Sk (Sk (Sk (Sk (Sk Sub.nil)))))))))))))))))))))))) ?_
  show JL _ _ _ [_, _, _] _ _ _
  have hlens81 : ∀ e ∈ ([((cel (r64 5))) ++ (([v63]) ++ ((cel (r64 10))))] : List (List Value)), List.length e = 73 := by
   intro e he; simp only [List.mem_cons, List.not_mem_nil, or_false] at he
   rcases he with rfl
   ·exact (ZN p64_5.2.len (ZN rfl p64_10.2.len))
  have hoks81 : ∀ e ∈ ([((cel (r64 5))) ++ (([v63]) ++ ((cel (r64 10))))] : List (List Value)), okc e := by
   intro e he; simp only [List.mem_cons, List.not_mem_nil, or_false] at he
   rcases he with rfl
   ·exact (Z3 p64_5.2.ok (Z3 (Zm hv63.one Zv) p64_10.2.ok))
  refine JLr (ZH (i := 7) (n := 1) (es' := [((cel (r64 5))) ++ (([v63]) ++ ((cel (r64 10))))]) Tryz.runUnderlying30 Tryz.runUnderlying30 (Or.inl rfl) el85 rfl rfl rfl ho3 (fun F w m => Src.row (((At.k 2 rfl (by rw [p64_12.2.1]; exact List.mem_cons_self))).heap m) (Zx (ZG hlens81))) rfl hlens81 hoks81 (by decide) (by first | omega | (simp only [ZW, List.length_append]; omega)) fun v81 k81 ho81 => JLq (.pointer (some ⟨b3, 36, none⟩)) (fa32_5 rfl rfl) <| JLr (Ze 6 (vs := [v81]) (l := pkN kind ((if kind = 1 then 0 else num)) ref mv w v81) ty30 rfl rfl rfl (ZO ho81.one) rfl (Zm ho81.one Zv) (pkN_s36 ..) <| Za <| Zb <| JLq (.int .i64 (((j + 1 : Nat) : Int))) (Pu.inc rfl rfl (by omega)) <| JLm (.int .i64 (((j + 1 : Nat) : Int))) <| Za <| ⟨_, ?_, (j + 1), v81, (es2 ++ [((cel (r64 5))) ++ (([v63]) ++ ((cel (r64 10))))]), k81, (k5 ++ (((N64 5)) ++ (l63 ++ ((N64 10))))), rfl, rfl, rfl, rfl, rfl, rfl, (Sub.cons 6 rfl (Sub.cons 6 rfl (Sub.join4 (Sub.cons 6 rfl (Sk (Sub.cons 3 rfl (Sk (Sd (Sd (Sd (Sk (Sk (Sk (Sk (Sk Sub.nil))))))))))))))), ?_, ?_, ?_, rfl⟩))
  ·omega
  ·omega
  ·exact ho81
  rw [nmCs_take s cases j h60n]; exact ONCs.snoc p64_5.2 hv63 (by rw [ZV]; omega) p64_10.2 hopw
 replace h60 := df h60
 have h60n : cases.length ≤ j := by omega
 refine ZM _ rfl <| Zd <| Zb <| JLr (Zh Z6 rfl (At.bx 0 rfl) (pkN_a ..) <| JLr (Ze 6 (vs := pkN kind ((if kind = 1 then 0 else num)) ref mv w y) (l := pkN kind ((if kind = 1 then 0 else num)) ref mv w y) Z6 rfl rfl rfl rfl rfl (pkN_ok ho1.one ho2.one ho3.one) (pkN_s ..) <| Za <| Zl <| ⟨.agg ⟨pkN kind ((if kind = 1 then 0 else num)) ref mv w y⟩, [k1 ++ (k2 ++ (k3 ++ (k4 ++ k5)))], Ret.one rfl (RV.cell Z6 rfl (At.bx 6 rfl) (pkN_a ..)), (Sub.join5 (Sd (Sub.cons 2 rfl (Sub.cons 2 rfl (Sub.cons 2 rfl (Sk (Sk Sub.nil))))))), ?_⟩))
 rw [List.take_of_length_le h60n] at hopw
 have hl0 := nmNs_le kind s kids 0
 have hvl := vN_len kind num s
 exact ⟨_, _, rfl, rfl, by rw [nmT]; exact ON_mk.2 ⟨_, _, _, _, _, _, _, _, _, _, rfl, hk, by split <;> first | exact hn | (unfold inI; omega), ho1, ho2, hop, ho3, hopw, rfl, by rw [List.length_append]; omega, by rw [nmKs_len]; omega, by rw [nmCs_len]; omega⟩⟩
end Go.Proofs.YtmophpgiaiemhaaGreat.Hs
/-! Walks, printed by a program of this session's own (gen.py). -/
namespace Go.Proofs.YtmophpgiaiemhaaGreat.Hs
open Go Go.Proofs
set_option maxRecDepth 100000
set_option linter.unusedVariables false
set_option linter.unusedSimpArgs false
attribute [local irreducible] JL J CT wlo
set_option maxHeartbeats 4000000 in
theorem renamed_ct : ∀ (n : Nm) (b : List ByteArray) (cs : List Value) (v : Value) (H : Heap), RN H cs n → Hs.rdS RS 1 H v b → nmZ n → b.length + nmN n ≤ 1000000 → CT Tryz.prog 26 ⟨[.agg ⟨cs⟩, v]⟩ [] H (fun r N => ∃ cs k, r = .agg ⟨cs⟩ ∧ N = [k] ∧ ON (reN YS n b) cs k) := by
 intro n
 induction n using Nm.ind with
 | h kind num ref ns kids cases ih ih' =>
 intro b cs v H ht hb_ hnz hz
 obtain ⟨nv, ks, cv, rfl, hk, hn, hns, hks, hcv⟩ := RN_mk.1 ht
 rw [nmZ] at hnz
 rw [nmN] at hz
 obtain ⟨hzs, hzk0, hzc0⟩ := hnz
 have hzk := nmZs_mem _ hzk0
 have hzc2 := nmZc_mem _ hzc0
 have hkl := nmNs_len2 kids
 have hcl := nmNCs_len2 cases
 refine Zo Tryz.func26 rfl rfl <| Zd <| Zb <| JLr (Zt (l := pkN kind num ref nv ks cv) rfl rfl fun b1 => JLr (Zj (l := pkN 0 0 zS (.slice none 0 0) (.slice none 0 0) (.slice none 0 0)) Tryz.zeroValue32 rfl fun b2 => Za <| Zd <| Zb <| JLa (.func (.func 78) ⟨[]⟩ ⟨[]⟩) <| Za <| Zd <| Zb <| JLq (.pointer (some ⟨b1, 0, none⟩)) (fa32_0 rfl rfl) ?_))
 refine JLr (Zf ty3 rfl (At.bx 1 rfl) (pkN_0 ..) <| JLq (.pointer (some ⟨b1, 1, none⟩)) (fa32_1 rfl rfl) <| JLr (Zf ty3 rfl (At.bx 1 rfl) (pkN_1 ..) <| JLq (.pointer (some ⟨b1, 2, none⟩)) (fa32_2 rfl rfl) <| JLr (Zh Xb rfl (At.bx 1 rfl) (pkN_2 ..) <| JLq (.agg ⟨pkN kind num ref (.slice none 0 0) (.slice none 0 0) (.slice none 0 0)⟩) (Pu.build (pv := [(0, .int .i64 kind), (1, .int .i64 num), (2, .agg ⟨sC ref⟩)]) (l := pkN kind num ref (.slice none 0 0) (.slice none 0 0) (.slice none 0 0)) rfl (bld32_0_1_2 _ _ _)) <| JLr (Zj (l := pkN 0 0 zS (.slice none 0 0) (.slice none 0 0) (.slice none 0 0)) Tryz.zeroValue32 rfl fun b3 => JLr (Ze 0 (vs := pkN kind num ref (.slice none 0 0) (.slice none 0 0) (.slice none 0 0)) (l := pkN kind num ref (.slice none 0 0) (.slice none 0 0) (.slice none 0 0)) Z6 rfl rfl rfl rfl rfl (pkN_ok rfl rfl rfl) (pkN_s ..) <| Za <| Zd <| Zd <| Zb <| JLq (.pointer (some ⟨b1, 0, none⟩)) (fa32_0 rfl rfl) ?_)))))
 refine JLr (Zf ty3 rfl (At.bx 2 rfl) (pkN_0 ..) <| JLq (.bool (decide (kind = 1))) (Pu.eql rfl rfl) <| Za <| Zi (b := decide (kind = 1)) rfl (fun h4 => ?_) (fun h4 => ?_))
 ·replace h4 := dt h4
  refine Zd <| Zd ?_
  have hk1 := h4
  refine Zb <| JLq (.pointer (some ⟨b1, 34, none⟩)) (Yw rfl rfl) <| JLr (Zf YG rfl (At.bx 2 rfl) (pkN_34 ..) <| Zg rfl Tryz.call13 rfl (fun hin => cloneS_ct _ _ _ (RSs.mono (Hle.hu _ _) hns.rd) (by omega)) rfl ?_)
  rintro u5 _ ⟨k5, rfl, ho5⟩
  refine JLq (.pointer (some ⟨b3, 34, none⟩)) (Yw rfl rfl) <| JLr (Ze 1 (vs := [u5]) (l := pkN kind num ref u5 (.slice none 0 0) (.slice none 0 0)) YG rfl rfl rfl (ZO ho5.one) rfl (Zm ho5.one Zv) (pkN_s34 ..) <| Za <| Zd <| Zb <| JLq (.pointer (some ⟨b1, 34, none⟩)) (Yw rfl rfl) <| JLr (Zf YG rfl (At.bx 3 rfl) (pkN_34 ..) ?_))
  obtain ⟨a6, cap6, hv6⟩ := hns.rd.sl
  have hle6 := hns.rd.le
  refine JLq (.int .i64 ((ns.length : Int))) (Pu.lenSl Tryz.runUnderlying28 hv6) <| JLq (.bool (decide ((ns.length : Int) = 1))) (Pu.eql rfl rfl) <| JLm (.bool (decide ((ns.length : Int) = 1))) ?_
  cases h7 : (decide ((ns.length : Int) = 1)) with
  | true =>
   replace h7 := dt h7
   refine JLm v <| JLq (.pointer (some ⟨b1, 34, none⟩)) (Yw rfl rfl) <| JLr (Zf YG rfl (At.bx 3 rfl) (pkN_34 ..) ?_)
   obtain ⟨b8, o8, cap8, row8, T8, fr8, cs8, hv8, hb8, hs8, hE8⟩ := hns.rd.get 0 (by first | assumption | omega | decide | simp)
   refine JLq (.pointer (some ⟨b8, o8 + 0 * 1, none⟩)) (Pu.idx 0 Tryz.runUnderlying28 ty9 hv8 rfl rfl (by first | assumption | omega | decide | simp)) <| JLr (Zf ty9 rfl (At.im hb8) (Yp ((show cs8 = [Value.string (ns[0])] from hE8) ▸ hs8)) <| Zg rfl Tryz.call62 rfl (fun hin => Xm _ _ _ _ (RSs.mono (Hle.hu _ _) hb_)) rfl ?_)
   rintro _ _ ⟨rfl, rfl⟩
   refine JLq (.bool (b.any (fun y => decide (ns[0] = y)))) (Pu.pickT rfl rfl) <| Za <| Zi (b := b.any (fun y => decide (ns[0] = y))) rfl (fun h9 => ?_) (fun h9 => ?_)
   ·refine Zb <| JLm (.func (.func 78) ⟨[]⟩ ⟨[]⟩) <| JLq (.pointer (some ⟨b1, 34, none⟩)) (Yw rfl rfl) <| JLr (Zf YG rfl (At.bx 3 rfl) (pkN_34 ..) <| Zg rfl Tryz.call78 rfl (fun hin => moreX_ct _ _ _ (RSs.mono (Hle.hu _ _) hns.rd) (by omega) (by first | exact hzs | exact hzc)) rfl ?_)
    rintro u10 _ ⟨k10, rfl, ho10⟩
    refine JLq (.pointer (some ⟨b3, 34, none⟩)) (Yw rfl rfl) <| JLr (Ze 2 (vs := [u10]) (l := pkN kind num ref u10 (.slice none 0 0) (.slice none 0 0)) YG rfl rfl rfl (ZO ho10.one) rfl (Zm ho10.one Zv) (pkN_s34 ..) <| Za <| Zd <| Zb <| JLr (Zh Z6 rfl (At.bx 2 rfl) (pkN_a ..) <| JLr (Ze 3 (vs := pkN kind num ref u10 (.slice none 0 0) (.slice none 0 0)) (l := pkN kind num ref u10 (.slice none 0 0) (.slice none 0 0)) Z6 rfl rfl rfl rfl rfl (pkN_ok ho10.one rfl rfl) (pkN_s ..) <| Za <| Zl <| ⟨.agg ⟨pkN kind num ref u10 (.slice none 0 0) (.slice none 0 0)⟩, [k10], Ret.one rfl (RV.cell Z6 rfl (At.bx 3 rfl) (pkN_a ..)), (Sk Sub.nil), ?_⟩)))
    have hx : reN YS (.mk kind num ref ns kids cases) b = .mk kind num ref (ns.map YS) [] [] := by rw [reN, if_pos hk1, if_pos ⟨by omega, by rw [getD0 (by omega)]; assumption⟩]
    exact ⟨_, _, rfl, rfl, by rw [hx]; exact ON_mk.2 ⟨_, _, _, _, _, _, _, _, _, _, rfl, hk, hn, ho10, Own.nil, ONs.nil, Own.nil, ONCs.nil, by simp, by first | omega | (simp only [List.length_map]; omega), by simp, by simp⟩⟩
   refine Zp <| Zd <| Zb <| JLr (Zh Z6 rfl (At.bx 1 rfl) (pkN_a ..) <| JLr (Ze 2 (vs := pkN kind num ref u5 (.slice none 0 0) (.slice none 0 0)) (l := pkN kind num ref u5 (.slice none 0 0) (.slice none 0 0)) Z6 rfl rfl rfl rfl rfl (pkN_ok ho5.one rfl rfl) (pkN_s ..) <| Za <| Zl <| ⟨.agg ⟨pkN kind num ref u5 (.slice none 0 0) (.slice none 0 0)⟩, [k5], Ret.one rfl (RV.cell Z6 rfl (At.bx 2 rfl) (pkN_a ..)), (Sk Sub.nil), ?_⟩))
   have hx : reN YS (.mk kind num ref ns kids cases) b = .mk kind num ref ns [] [] := by rw [reN, if_pos hk1, if_neg (by rintro ⟨q1, q2⟩; first | (exfalso; omega) | (rw [getD0 (by omega)] at q2; simp_all))]
   exact ⟨_, _, rfl, rfl, by rw [hx]; exact ON_mk.2 ⟨_, _, _, _, _, _, _, _, _, _, rfl, hk, hn, ho5, Own.nil, ONs.nil, Own.nil, ONCs.nil, by simp, by first | omega | (simp only [List.length_map]; omega), by simp, by simp⟩⟩
  | false =>
   replace h7 := df h7
   iterate 6 refine Zy rfl ?_
   refine JLq (.bool false) (Pu.pickF rfl rfl) <| Za <| Zi (b := false) rfl (fun h => absurd h (by simp)) (fun _ => Zp <| Zd <| Zb <| JLr (Zh Z6 rfl (At.bx 1 rfl) (pkN_a ..) <| JLr (Ze 2 (vs := pkN kind num ref u5 (.slice none 0 0) (.slice none 0 0)) (l := pkN kind num ref u5 (.slice none 0 0) (.slice none 0 0)) Z6 rfl rfl rfl rfl rfl (pkN_ok ho5.one rfl rfl) (pkN_s ..) <| Za <| Zl <| ⟨.agg ⟨pkN kind num ref u5 (.slice none 0 0) (.slice none 0 0)⟩, [k5], Ret.one rfl (RV.cell Z6 rfl (At.bx 2 rfl) (pkN_a ..)), (Sk Sub.nil), ?_⟩)))
   have hx : reN YS (.mk kind num ref ns kids cases) b = .mk kind num ref ns [] [] := by rw [reN, if_pos hk1, if_neg (by rintro ⟨q1, q2⟩; first | (exfalso; omega) | (rw [getD0 (by omega)] at q2; simp_all))]
   exact ⟨_, _, rfl, rfl, by rw [hx]; exact ON_mk.2 ⟨_, _, _, _, _, _, _, _, _, _, rfl, hk, hn, ho5, Own.nil, ONs.nil, Own.nil, ONCs.nil, by simp, by first | omega | (simp only [List.length_map]; omega), by simp, by simp⟩⟩
 replace h4 := df h4
 refine Zp <| Zd ?_
 have hk1 := h4
 refine Zb <| JLm (.func (.func 78) ⟨[]⟩ ⟨[]⟩) <| JLq (.pointer (some ⟨b1, 34, none⟩)) (Yw rfl rfl) <| JLr (Zf YG rfl (At.bx 2 rfl) (pkN_34 ..) <| Zg rfl Tryz.call78 rfl (fun hin => moreX_ct _ _ _ (RSs.mono (Hle.hu _ _) hns.rd) (by omega) (by first | exact hzs | exact hzc)) rfl ?_)
 rintro u11 _ ⟨k11, rfl, ho11⟩
 refine JLq (.pointer (some ⟨b3, 34, none⟩)) (Yw rfl rfl) <| JLr (Ze 1 (vs := [u11]) (l := pkN kind num ref u11 (.slice none 0 0) (.slice none 0 0)) YG rfl rfl rfl (ZO ho11.one) rfl (Zm ho11.one Zv) (pkN_s34 ..) <| Za <| Zd <| Ya mixed #[0, 1, 0, 4, 15, 31] 4 4 4 rfl (by kernel_rfl) (fun i r12 N12 => match i with | 0 => (r12 0) = v | 1 => Own 9 1 (r12 1) (ZP b) (N12 1) | 2 => (r12 2) = .pointer (some ⟨b1, 34, none⟩) | 3 => (r12 3) = nv | _ => True) ⟨?_, ?_, ?_, ?_, trivial⟩ ?_)
 ·intro ρ r12 N12 B hB hBa hp hr hr0
  obtain ⟨ρ13, rfl⟩ := Zc (uc (show ρ 1 = v from hr0 1 (by kernel_rfl)) un)
  refine JLm v <| Za ?_
  exact ⟨v, [], rfl, (Sub.emp Sub.refl), rfl⟩
 ·intro ρ r12 N12 B hB hBa hp hr hr0
  obtain ⟨ρ14, rfl⟩ := Zc (uc (show ρ 49 = v from (hr 0 _ _ (by decide) rfl rfl rfl).trans (hp 0 (by decide) rfl)) un)
  refine Zg rfl Tryz.call13 rfl (fun hin => cloneS_ct _ _ _ (RSs.mono (Hle.hu _ _) hb_) (by omega)) rfl ?_
  rintro u15 _ ⟨k15, rfl, ho15⟩
  refine Za ?_
  exact ⟨u15, k15, rfl, Sub.refl, ho15⟩
 ·intro ρ r12 N12 B hB hBa hp hr hr0
  obtain ⟨ρ16, rfl⟩ := Zc (uc (show ρ 2 = .pointer (some ⟨b1, 0, none⟩) from hr0 2 (by kernel_rfl)) un)
  refine JLq (.pointer (some ⟨b1, 34, none⟩)) (Yw rfl rfl) <| Za ?_
  exact ⟨.pointer (some ⟨b1, 34, none⟩), [], rfl, (Sub.emp Sub.refl), rfl⟩
 ·intro ρ r12 N12 B hB hBa hp hr hr0
  obtain ⟨ρ17, rfl⟩ := Zc (uc (show ρ 51 = .pointer (some ⟨b1, 34, none⟩) from (hr 2 _ _ (by decide) rfl rfl rfl).trans (hp 2 (by decide) rfl)) un)
  refine JLr (Zf YG rfl (At.bx 7 (Zn ((hB 3 (by decide)).trans rfl))) (pkN_34 ..) <| Za ?_)
  exact ⟨nv, [], rfl, (Sub.emp Sub.refl), rfl⟩
 intro ρ r12 N12 hp hr hr0
 have p1 : Own 9 1 (r12 1) (ZP b) (N12 1) := hp 1 (by decide)
 obtain ⟨ρ18, rfl⟩ := Zc (uc (show ρ 1 = v from hr0 1 (by kernel_rfl)) (uc (show ρ 2 = .pointer (some ⟨b1, 0, none⟩) from hr0 2 (by kernel_rfl)) (uc (show ρ 4 = .pointer (some ⟨b2, 0, none⟩) from hr0 4 (by kernel_rfl)) (uc (show ρ 5 = .func (.func 78) ⟨[]⟩ ⟨[]⟩ from hr0 5 (by kernel_rfl)) (uc (show ρ 6 = .pointer (some ⟨b3, 0, none⟩) from hr0 6 (by kernel_rfl)) (uc (show ρ 50 = (r12 1) from (hr 1 _ _ (by decide) rfl rfl)) (uc (show ρ 52 = nv from (hr 3 _ _ (by decide) rfl rfl).trans (hp 3 (by decide))) un)))))))
 have p12_1 := p1
 clear hp hr hr0 p1
 refine Zq (M' := [(N12 0), (N12 1), (N12 2), (N12 3), k11, [(b3, .cells ⟨pkN kind num ref u11 (.slice none 0 0) (.slice none 0 0)⟩ 32 (0, 0))], [(b2, .cells ⟨pkN 0 0 zS (.slice none 0 0) (.slice none 0 0) (.slice none 0 0)⟩ 32 (0, 0))], [(b1, .cells ⟨pkN kind num ref nv ks cv⟩ 32 (0, 0))]]) Sub.refl <| Zq (M' := [(N12 1), k11, [(b3, .cells ⟨pkN kind num ref u11 (.slice none 0 0) (.slice none 0 0)⟩ 32 (0, 0))], [(b2, .cells ⟨pkN 0 0 zS (.slice none 0 0) (.slice none 0 0) (.slice none 0 0)⟩ 32 (0, 0))], [(b1, .cells ⟨pkN kind num ref nv ks cv⟩ 32 (0, 0))]]) (Sd (Sk (Sd (Sd (Sk (Sk (Sk (Sk Sub.nil)))))))) ?_
 show JL _ _ _ [_, _] _ _ _
 refine JLr (ZH (i := 0) (n := ns.length) (es' := ZP ns) Tryz.runUnderlying28 Tryz.runUnderlying28 (Or.inl rfl) el9 rfl rfl rfl p12_1 (fun F w m => strs_src hns.rd w _ m) (ZW _) (strs_len1 _) (strs_ok _) (by decide) (by first | omega | (simp only [ZW, List.length_append]; omega)) fun v19 k19 ho19 => ?_)
 rw [← strs_app] at ho19
 refine JLa v19 <| Za <| Zd <| Zd <| Zb <| JLq (.pointer (some ⟨b1, 35, none⟩)) (Xk rfl rfl) <| JLr (Zf ty29 rfl (At.bx 4 rfl) (pkN_35 ..) ?_)
 obtain ⟨a20, cap20, hv20⟩ := hks.sl
 have hle20 := hks.le
 refine JLq (.int .i64 ((kids.length : Int))) (Pu.lenSl Tryz.runUnderlying29 hv20) <| JLm (.int .i64 0) <| Za <| Zs <| ZU (fun k ρ M => ∃ (j : Nat) (w : Value) (es : List (List Value)) (k2 k3 : Zk), ρ 1 = v ∧ ρ 2 = .pointer (some ⟨b1, 0, none⟩) ∧ ρ 4 = .pointer (some ⟨b2, 0, none⟩) ∧ ρ 5 = .func (.func 78) ⟨[]⟩ ⟨[]⟩ ∧ ρ 6 = .pointer (some ⟨b3, 0, none⟩) ∧ ρ 7 = v19 ∧ ρ 55 = ks ∧ ρ 56 = .int .i64 ((kids.length : Int)) ∧ ρ 57 = .int .i64 ((j : Int)) ∧ Sub [[(b3, .cells ⟨pkN kind num ref u11 w (.slice none 0 0)⟩ 32 (0, 0))], k2, k3, k11, k19, [(b2, .cells ⟨pkN 0 0 zS (.slice none 0 0) (.slice none 0 0) (.slice none 0 0)⟩ 32 (0, 0))], [(b1, .cells ⟨pkN kind num ref nv ks cv⟩ 32 (0, 0))]] M ∧ j ≤ kids.length ∧ Own 32 37 w es k2 ∧ ONs (reNs YS (b ++ ns) (kids.take j)) es k3 ∧ k = kids.length - j) _ ⟨0, (.slice none 0 0), [], [], [], rfl, rfl, rfl, rfl, rfl, rfl, rfl, rfl, rfl, (Sub.cons 2 rfl (Sub.emp (Sub.emp (Sub.cons 1 rfl (Sk (Sk (Sk Sub.nil))))))), Nat.zero_le _, Own.nil, (by simpa [reNs] using ONs.nil), rfl⟩ ?_
 rintro _ ρ21 _ ⟨j, w, es, k2, k3, e22, e23, e24, e25, e26, e27, e28, e29, e30, hm31, hj, ho2, hop, rfl⟩
 obtain ⟨ρ32, rfl⟩ := Zc (uc e22 (uc e23 (uc e24 (uc e25 (uc e26 (uc e27 (uc e28 (uc e29 (uc e30 un)))))))))
 clear e22 e23 e24 e25 e26 e27 e28 e29 e30
 refine Z1 hm31 <| Zd <| Zb <| JLq (.bool (decide ((j : Int) < (kids.length : Int)))) (Pu.lss rfl rfl) <| Za <| Zd <| Zi (b := decide ((j : Int) < (kids.length : Int))) rfl (fun h33 => ?_) (fun h33 => ?_)
 ·replace h33 := dt h33
  have h33n : j < kids.length := by omega
  have hz1 := nmNs_mem _ _ (List.getElem_mem h33n)
  have hel := ONs_len hop
  rw [reNs_len, List.length_take] at hel
  refine Zp <| Zd <| Zs <| Zd <| Zb ?_
  obtain ⟨b34, o34, cap34, row34, T34, fr34, cs34, hv34, hb34, hs34, hE34⟩ := hks.get j (by first | assumption | omega | decide | simp)
  refine JLq (.pointer (some ⟨b34, o34 + j * 37, none⟩)) (Pu.idx j Tryz.runUnderlying29 Z6 hv34 rfl rfl (by first | assumption | omega | decide | simp)) <| JLr (Zh Z6 rfl (At.im hb34) hs34 <| JLr (Zj (l := pkN 0 0 zS (.slice none 0 0) (.slice none 0 0) (.slice none 0 0)) Tryz.zeroValue32 rfl fun b35 => JLr (Ze 0 (vs := cs34) (l := cs34) Z6 rfl rfl rfl rfl (YQ hE34) (RN_ok hE34) (ZL (n := 37) rfl (YQ hE34)) <| Za <| Ya mixed #[0, 1, 0, 0, 12, 28, 63, 127, 255] 6 6 8 rfl (by kernel_rfl) (fun i r36 N36 => match i with | 0 => (r36 0) = .pointer (some ⟨b3, 35, none⟩) | 1 => (r36 1) = w | 2 => (r36 2) = .agg ⟨cs34⟩ | 3 => (r36 3) = v19 | 4 => (r36 4) = .agg ⟨(cel (r36 4))⟩ ∧ ON (reN YS (kids[j]) (b ++ ns)) (cel (r36 4)) (N36 4) | 5 => (r36 5) = .slice (some ⟨(ZC (r36 5)), 0, none⟩) 1 1 ∧ (N36 5) = [(ZC (r36 5), .cells ⟨List.flatten [(cel (r36 4))]⟩ 32 (0, 0))] ∧ Own 32 37 (.slice (some ⟨(ZC (r36 5)), 0, none⟩) 1 1) [(cel (r36 4))] (N36 5) | _ => True) ⟨?_, ?_, ?_, ?_, ?_, ?_, trivial⟩ ?_)))
  ·intro ρ r36 N36 B hB hBa hp hr hr0
   obtain ⟨ρ37, rfl⟩ := Zc (uc (show ρ 6 = .pointer (some ⟨b3, 0, none⟩) from hr0 6 (by kernel_rfl)) un)
   refine JLq (.pointer (some ⟨b3, 35, none⟩)) (Xk rfl rfl) <| Za ?_
   exact ⟨.pointer (some ⟨b3, 35, none⟩), [], rfl, (Sub.emp Sub.refl), rfl⟩
  ·intro ρ r36 N36 B hB hBa hp hr hr0
   obtain ⟨ρ38, rfl⟩ := Zc (uc (show ρ 61 = .pointer (some ⟨b3, 35, none⟩) from (hr 0 _ _ (by decide) rfl rfl rfl).trans (hp 0 (by decide) rfl)) un)
   refine JLr (Zf ty29 rfl (At.bx 7 (Zn ((hB 1 (by decide)).trans rfl))) (pkN_35 ..) <| Za ?_)
   exact ⟨w, [], rfl, (Sub.emp Sub.refl), rfl⟩
  ·intro ρ r36 N36 B hB hBa hp hr hr0
   obtain ⟨ρ39, rfl⟩ := Zc (uc (show ρ 9 = .pointer (some ⟨b35, 0, none⟩) from hr0 9 (by kernel_rfl)) un)
   refine JLr (Zh Z6 rfl (At.bx 6 (Zn ((hB 0 (by decide)).trans rfl))) (Zx (YQ hE34)) <| Za ?_)
   exact ⟨.agg ⟨cs34⟩, [], rfl, (Sub.emp Sub.refl), rfl⟩
  ·intro ρ r36 N36 B hB hBa hp hr hr0
   obtain ⟨ρ40, rfl⟩ := Zc (uc (show ρ 7 = v19 from hr0 7 (by kernel_rfl)) un)
   refine JLm v19 <| Za ?_
   exact ⟨v19, [], rfl, (Sub.emp Sub.refl), rfl⟩
  ·intro ρ r36 N36 B hB hBa hp hr hr0
   obtain ⟨ρ41, rfl⟩ := Zc (uc (show ρ 63 = .agg ⟨cs34⟩ from (hr 2 _ _ (by decide) rfl rfl rfl).trans (hp 2 (by decide) rfl)) (uc (show ρ 64 = v19 from (hr 3 _ _ (by decide) rfl rfl rfl).trans (hp 3 (by decide) rfl)) un))
   refine Zg rfl Tryz.call26 rfl (fun hin => ih _ (List.getElem_mem h33n) _ _ _ _ (RN.mono (Hle.hu _ _) hE34) (Yj ho19 (by first | omega | (simp only [Yh, List.length_take, List.length_append]; omega)) (hin 11 _ (Zn ((hB 5 (by decide)).trans rfl)))) (hzk _ (List.getElem_mem h33n)) (by simp only [List.length_append]; omega)) rfl ?_
   rintro _ _ ⟨cs42, k42, rfl, rfl, hO42⟩
   refine Za ?_
   exact ⟨.agg ⟨cs42⟩, k42, rfl, Sub.refl, ⟨rfl, hO42⟩⟩
  ·intro ρ r36 N36 B hB hBa hp hr hr0
   have p4 : (r36 4) = .agg ⟨(cel (r36 4))⟩ ∧ ON (reN YS (kids[j]) (b ++ ns)) (cel (r36 4)) (N36 4) := hp 4 (by decide) rfl
   obtain ⟨ρ43, rfl⟩ := Zc (uc (show ρ 65 = .agg ⟨(cel (r36 4))⟩ from (hr 4 _ _ (by decide) rfl rfl rfl).trans p4.1) un)
   refine JLr (Zr (vs := [.agg ⟨(cel (r36 4))⟩]) [(cel (r36 4))] Tryz.runUnderlying29 el32 rfl rfl (by intro e he; simp only [List.mem_cons, List.not_mem_nil, or_false] at he; subst he; exact p4.2.len) rfl (by decide) fun b44 k44 ho44 hk44 => Za ?_)
   exact ⟨.slice (some ⟨b44, 0, none⟩) 1 1, k44, rfl, Sub.refl, ⟨rfl, hk44, ho44⟩⟩
  intro ρ r36 N36 hp hr hr0
  have p4 : (r36 4) = .agg ⟨(cel (r36 4))⟩ ∧ ON (reN YS (kids[j]) (b ++ ns)) (cel (r36 4)) (N36 4) := hp 4 (by decide)
  have p5 : (r36 5) = .slice (some ⟨(ZC (r36 5)), 0, none⟩) 1 1 ∧ (N36 5) = [(ZC (r36 5), .cells ⟨List.flatten [(cel (r36 4))]⟩ 32 (0, 0))] ∧ Own 32 37 (.slice (some ⟨(ZC (r36 5)), 0, none⟩) 1 1) [(cel (r36 4))] (N36 5) := hp 5 (by decide)
  obtain ⟨ρ45, rfl⟩ := Zc (uc (show ρ 1 = v from hr0 1 (by kernel_rfl)) (uc (show ρ 2 = .pointer (some ⟨b1, 0, none⟩) from hr0 2 (by kernel_rfl)) (uc (show ρ 4 = .pointer (some ⟨b2, 0, none⟩) from hr0 4 (by kernel_rfl)) (uc (show ρ 5 = .func (.func 78) ⟨[]⟩ ⟨[]⟩ from hr0 5 (by kernel_rfl)) (uc (show ρ 6 = .pointer (some ⟨b3, 0, none⟩) from hr0 6 (by kernel_rfl)) (uc (show ρ 7 = v19 from hr0 7 (by kernel_rfl)) (uc (show ρ 55 = ks from hr0 55 (by kernel_rfl)) (uc (show ρ 56 = .int .i64 ((kids.length : Int)) from hr0 56 (by kernel_rfl)) (uc (show ρ 57 = .int .i64 ((j : Int)) from hr0 57 (by kernel_rfl)) (uc (show ρ 62 = w from (hr 1 _ _ (by decide) rfl rfl).trans (hp 1 (by decide))) (uc (show ρ 66 = .slice (some ⟨(ZC (r36 5)), 0, none⟩) 1 1 from (hr 5 _ _ (by decide) rfl rfl).trans p5.1) un)))))))))))
  have p36_4 := p4; have p36_5 := p5
  clear hp hr hr0 p4 p5
  refine Zq (M' := [(N36 0), (N36 1), (N36 2), (N36 3), (N36 4), (N36 5), [(b35, .cells ⟨cs34⟩ 32 (0, 0))], [(b3, .cells ⟨pkN kind num ref u11 w (.slice none 0 0)⟩ 32 (0, 0))], k2, k3, k11, k19, [(b2, .cells ⟨pkN 0 0 zS (.slice none 0 0) (.slice none 0 0) (.slice none 0 0)⟩ 32 (0, 0))], [(b1, .cells ⟨pkN kind num ref nv ks cv⟩ 32 (0, 0))]]) Sub.refl <| Zq (M' := [(N36 4), (N36 5), [(b35, .cells ⟨cs34⟩ 32 (0, 0))], [(b3, .cells ⟨pkN kind num ref u11 w (.slice none 0 0)⟩ 32 (0, 0))], k2, k3, k11, k19, [(b2, .cells ⟨pkN 0 0 zS (.slice none 0 0) (.slice none 0 0) (.slice none 0 0)⟩ 32 (0, 0))], [(b1, .cells ⟨pkN kind num ref nv ks cv⟩ 32 (0, 0))]]) (Sd (Sd (Sd (Sd (Sk (Sk (Sk (Sk (Sk (Sk (Sk (Sk (Sk (Sk Sub.nil)))))))))))))) ?_
  show JL _ _ _ [_, _, _] _ _ _
  have hlens46 : ∀ e ∈ ([(cel (r36 4))] : List (List Value)), List.length e = 37 := by
   intro e he; simp only [List.mem_cons, List.not_mem_nil, or_false] at he
   rcases he with rfl
   ·exact p36_4.2.len
  have hoks46 : ∀ e ∈ ([(cel (r36 4))] : List (List Value)), okc e := by
   intro e he; simp only [List.mem_cons, List.not_mem_nil, or_false] at he
   rcases he with rfl
   ·exact p36_4.2.ok
  refine JLr (ZH (i := 4) (n := 1) (es' := [(cel (r36 4))]) Tryz.runUnderlying29 Tryz.runUnderlying29 (Or.inl rfl) el32 rfl rfl rfl ho2 (fun F w m => Src.row (((At.k 1 rfl (by rw [p36_5.2.1]; exact List.mem_cons_self))).heap m) (Zx (ZG hlens46))) rfl hlens46 hoks46 (by decide) (by first | omega | (simp only [ZW, List.length_append]; omega)) fun v46 k46 ho46 => JLq (.pointer (some ⟨b3, 35, none⟩)) (Xk rfl rfl) <| JLr (Ze 3 (vs := [v46]) (l := pkN kind num ref u11 v46 (.slice none 0 0)) ty29 rfl rfl rfl (ZO ho46.one) rfl (Zm ho46.one Zv) (pkN_s35 ..) <| Za <| Zb <| JLq (.int .i64 (((j + 1 : Nat) : Int))) (Pu.inc rfl rfl (by omega)) <| JLm (.int .i64 (((j + 1 : Nat) : Int))) <| Za <| ⟨_, ?_, (j + 1), v46, (es ++ [(cel (r36 4))]), k46, (k3 ++ (N36 4)), rfl, rfl, rfl, rfl, rfl, rfl, rfl, rfl, rfl, (Sub.cons 3 rfl (Sub.cons 3 rfl (Sub.join (Sub.cons 3 rfl (Sk (Sd (Sd (Sk (Sk (Sk (Sk Sub.nil))))))))))), ?_, ?_, ?_, rfl⟩))
  ·omega
  ·omega
  ·exact ho46
  rw [reNs_take YS (b ++ ns) kids j h33n]; exact ONs.snoc p36_4.2 hop
 replace h33 := df h33
 have h33n : kids.length ≤ j := by omega
 refine ZM _ rfl <| Zd <| Zd <| Zb <| JLq (.pointer (some ⟨b1, 36, none⟩)) (fa32_5 rfl rfl) <| JLr (Zf ty30 rfl (At.bx 6 rfl) (pkN_36 ..) ?_)
 obtain ⟨a47, cap47, hv47⟩ := hcv.sl
 have hle47 := hcv.le
 refine JLq (.int .i64 ((cases.length : Int))) (Pu.lenSl Tryz.runUnderlying30 hv47) <| JLm (.int .i64 0) <| Za <| Zs ?_
 have hjk := h33n
 rw [List.take_of_length_le hjk] at hop
 refine ZU (fun k ρ M => ∃ (j : Nat) (y : Value) (es2 : List (List Value)) (k4 k5 : Zk), ρ 1 = v ∧ ρ 4 = .pointer (some ⟨b2, 0, none⟩) ∧ ρ 5 = .func (.func 78) ⟨[]⟩ ⟨[]⟩ ∧ ρ 6 = .pointer (some ⟨b3, 0, none⟩) ∧ ρ 71 = cv ∧ ρ 72 = .int .i64 ((cases.length : Int)) ∧ ρ 73 = .int .i64 ((j : Int)) ∧ Sub [[(b3, .cells ⟨pkN kind num ref u11 w y⟩ 32 (0, 0))], k4, k5, k11, k2, k3, [(b2, .cells ⟨pkN 0 0 zS (.slice none 0 0) (.slice none 0 0) (.slice none 0 0)⟩ 32 (0, 0))], [(b1, .cells ⟨pkN kind num ref nv ks cv⟩ 32 (0, 0))]] M ∧ j ≤ cases.length ∧ Own 85 73 y es2 k4 ∧ ONCs (reCs YS b (cases.take j)) es2 k5 ∧ k = cases.length - j) _ ⟨0, (.slice none 0 0), [], [], [], rfl, rfl, rfl, rfl, rfl, rfl, rfl, (Sk (Sub.emp (Sub.emp (Sub.cons 2 rfl (Sk (Sk (Sd (Sk (Sk Sub.nil))))))))), Nat.zero_le _, Own.nil, (by simpa [reCs] using ONCs.nil), rfl⟩ ?_
 rintro _ ρ48 _ ⟨j, y, es2, k4, k5, e49, e50, e51, e52, e53, e54, e55, hm56, hj, ho3, hopw, rfl⟩
 obtain ⟨ρ57, rfl⟩ := Zc (uc e49 (uc e50 (uc e51 (uc e52 (uc e53 (uc e54 (uc e55 un)))))))
 clear e49 e50 e51 e52 e53 e54 e55
 refine Z1 hm56 <| Zd <| Zb <| JLq (.bool (decide ((j : Int) < (cases.length : Int)))) (Pu.lss rfl rfl) <| Za <| Zd <| Zi (b := decide ((j : Int) < (cases.length : Int))) rfl (fun h58 => ?_) (fun h58 => ?_)
 ·replace h58 := dt h58
  have h58n : j < cases.length := by omega
  have hz1 := nmNCs_mem _ _ (List.getElem_mem h58n)
  have hel := ONCs_len hopw
  rw [reCs_len, List.length_take] at hel
  have hzc := (hzc2 _ (List.getElem_mem h58n)).1
  refine Zp <| Zd <| Zs <| Zd <| Zb ?_
  obtain ⟨b59, o59, cap59, row59, T59, fr59, cs59, hv59, hb59, hs59, hE59⟩ := hcv.get j (by first | assumption | omega | decide | simp)
  obtain ⟨ca59, va59, cb59, rfl, hA59, hV59, hB59⟩ := hE59
  refine JLq (.pointer (some ⟨b59, o59 + j * 73, none⟩)) (Pu.idx j Tryz.runUnderlying30 ty85 hv59 rfl rfl (by first | assumption | omega | decide | simp)) <| JLr (Zh ty85 rfl (At.im hb59) hs59 <| JLr (Zj (l := (pkP 0 0 zS (.slice none 0 0)) ++ (([.slice none 0 0]) ++ (pkN 0 0 zS (.slice none 0 0) (.slice none 0 0) (.slice none 0 0)))) Tryz.zeroValue85 rfl fun b60 => JLr (Ze 0 (vs := ca59 ++ (([va59]) ++ cb59)) (l := ca59 ++ (([va59]) ++ cb59)) ty85 rfl rfl rfl rfl (ZN (ZJ hA59) (ZN rfl (YQ hB59))) (Z3 (RP_ok hA59) (Z3 (Zm hV59.one Zv) (RN_ok hB59))) (ZL (n := 73) rfl (ZN (ZJ hA59) (ZN rfl (YQ hB59)))) <| Za <| Z1 (M' := [[], [(b60, .cells ⟨ca59 ++ (([va59]) ++ cb59)⟩ 85 (0, 0))], [(b3, .cells ⟨pkN kind num ref u11 w y⟩ 32 (0, 0))], k4, k5, k11, k2, k3, [(b2, .cells ⟨pkN 0 0 zS (.slice none 0 0) (.slice none 0 0) (.slice none 0 0)⟩ 32 (0, 0))], [(b1, .cells ⟨pkN kind num ref nv ks cv⟩ 32 (0, 0))]]) (Sub.emp Sub.refl) <| J_drawM mixed #[0, 1, 0, 4, 12, 0, 0, 64, 252, 0, 512, 0, 2556, 0, 8192, 31228, 65532, 131068, 262140, 524287, 1048575, 2097151] 19 0 [12, 15, 16] rfl (by kernel_rfl) (by decide) rfl (by kernel_rfl) (fun i r61 N61 => match i with | 0 => (r61 0) = .pointer (some ⟨b3, 36, none⟩) | 1 => (r61 1) = y | 2 => (r61 2) = .pointer (some ⟨b60, 0, none⟩) | 3 => (r61 3) = .agg ⟨ca59⟩ | 4 => (r61 4) = .agg ⟨(cel (r61 4))⟩ ∧ OP (cases[j].1) (cel (r61 4)) (N61 4) | 5 => (r61 5) = .func (.func 78) ⟨[]⟩ ⟨[]⟩ | 6 => (r61 6) = .pointer (some ⟨b60, 35, none⟩) | 7 => (r61 7) = va59 | 8 => Own 9 1 (r61 8) (ZP ((cases[j].2.1).map YS)) (N61 8) | 9 => (r61 9) = .pointer (some ⟨b60, 36, none⟩) | 10 => (r61 10) = .agg ⟨cb59⟩ | 11 => (r61 11) = v | 12 => Own 9 1 (r61 12) (ZP b) (N61 12) | 13 => (r61 13) = .pointer (some ⟨b60, 35, none⟩) | 14 => (r61 14) = va59 | 15 => Own 9 1 (r61 15) (ZP (b ++ cases[j].2.1)) (N61 15) | 16 => (r61 16) = .agg ⟨(cel (r61 16))⟩ ∧ ON (reN YS (cases[j].2.2) (b ++ cases[j].2.1)) (cel (r61 16)) (N61 16) | 17 => (r61 17) = .agg ⟨((cel (r61 4))) ++ (([(r61 8)]) ++ ((cel (r61 16))))⟩ | 18 => (r61 18) = .slice (some ⟨(ZC (r61 18)), 0, none⟩) 1 1 ∧ (N61 18) = [(ZC (r61 18), .cells ⟨List.flatten [((cel (r61 4))) ++ (([(r61 8)]) ++ ((cel (r61 16))))]⟩ 85 (0, 0))] ∧ Own 85 73 (.slice (some ⟨(ZC (r61 18)), 0, none⟩) 1 1) [((cel (r61 4))) ++ (([(r61 8)]) ++ ((cel (r61 16))))] (N61 18) | _ => True) ⟨?_, ?_, ?_, ?_, ?_, ?_, ?_, ?_, ?_, ?_, ?_, ?_, ?_, ?_, ?_, ?_, ?_, ?_, ?_, trivial⟩ ?_)))
  ·intro ρ r61 N61 B hB hBa hBb hp hr hr0
   obtain ⟨ρ62, rfl⟩ := Zc (uc (show ρ 6 = .pointer (some ⟨b3, 0, none⟩) from hr0 6 (by kernel_rfl)) un)
   refine JLq (.pointer (some ⟨b3, 36, none⟩)) (fa32_5 rfl rfl) <| Za ?_
   exact ⟨.pointer (some ⟨b3, 36, none⟩), [], rfl, (Sub.emp Sub.refl), rfl⟩
  ·intro ρ r61 N61 B hB hBa hBb hp hr hr0
   have p0 : (r61 0) = .pointer (some ⟨b3, 36, none⟩) := hp 0 (by decide) rfl
   obtain ⟨ρ63, rfl⟩ := Zc (uc (show ρ 77 = .pointer (some ⟨b3, 36, none⟩) from (hr 0 _ _ (by decide) rfl rfl rfl).trans p0) un)
   refine JLr (Zf ty30 rfl (At.bx 21 (Zn ((hB 2 (by decide)).trans rfl))) (pkN_36 ..) <| Za ?_)
   exact ⟨y, [], rfl, (Sub.emp Sub.refl), rfl⟩
  ·intro ρ r61 N61 B hB hBa hBb hp hr hr0
   obtain ⟨ρ64, rfl⟩ := Zc (uc (show ρ 11 = .pointer (some ⟨b60, 0, none⟩) from hr0 11 (by kernel_rfl)) un)
   refine JLq (.pointer (some ⟨b60, 0, none⟩)) (fa85_0 rfl rfl) <| Za ?_
   exact ⟨.pointer (some ⟨b60, 0, none⟩), [], rfl, (Sub.emp Sub.refl), rfl⟩
  ·intro ρ r61 N61 B hB hBa hBb hp hr hr0
   have p2 : (r61 2) = .pointer (some ⟨b60, 0, none⟩) := hp 2 (by decide) rfl
   obtain ⟨ρ65, rfl⟩ := Zc (uc (show ρ 79 = .pointer (some ⟨b60, 0, none⟩) from (hr 2 _ _ (by decide) rfl rfl rfl).trans p2) un)
   refine JLr (Zh Z5 rfl (At.bx 20 (Zn ((hB 1 (by decide)).trans rfl))) (sub_l (ZJ hA59)) <| Za ?_)
   exact ⟨.agg ⟨ca59⟩, [], rfl, (Sub.emp Sub.refl), rfl⟩
  ·intro ρ r61 N61 B hB hBa hBb hp hr hr0
   have p3 : (r61 3) = .agg ⟨ca59⟩ := hp 3 (by decide) rfl
   obtain ⟨ρ66, rfl⟩ := Zc (uc (show ρ 80 = .agg ⟨ca59⟩ from (hr 3 _ _ (by decide) rfl rfl rfl).trans p3) un)
   refine Zg rfl Tryz.call53 rfl (fun hin => ownPattern_ct _ _ _ (RP.mono (Hle.hu _ _) hA59) (by omega)) rfl ?_
   rintro _ _ ⟨cs67, k67, rfl, rfl, hO67⟩
   refine Za ?_
   exact ⟨.agg ⟨cs67⟩, k67, rfl, Sub.refl, ⟨rfl, hO67⟩⟩
  ·intro ρ r61 N61 B hB hBa hBb hp hr hr0
   obtain ⟨ρ68, rfl⟩ := Zc (uc (show ρ 5 = .func (.func 78) ⟨[]⟩ ⟨[]⟩ from hr0 5 (by kernel_rfl)) un)
   refine JLm (.func (.func 78) ⟨[]⟩ ⟨[]⟩) <| Za ?_
   exact ⟨.func (.func 78) ⟨[]⟩ ⟨[]⟩, [], rfl, (Sub.emp Sub.refl), rfl⟩
  ·intro ρ r61 N61 B hB hBa hBb hp hr hr0
   obtain ⟨ρ69, rfl⟩ := Zc (uc (show ρ 11 = .pointer (some ⟨b60, 0, none⟩) from hr0 11 (by kernel_rfl)) un)
   refine JLq (.pointer (some ⟨b60, 35, none⟩)) (fa85_1 rfl rfl) <| Za ?_
   exact ⟨.pointer (some ⟨b60, 35, none⟩), [], rfl, (Sub.emp Sub.refl), rfl⟩
  ·intro ρ r61 N61 B hB hBa hBb hp hr hr0
   have p6 : (r61 6) = .pointer (some ⟨b60, 35, none⟩) := hp 6 (by decide) rfl
   obtain ⟨ρ70, rfl⟩ := Zc (uc (show ρ 83 = .pointer (some ⟨b60, 35, none⟩) from (hr 6 _ _ (by decide) rfl rfl rfl).trans p6) un)
   refine JLr (Zf YG rfl (At.bx 20 (Zn ((hB 1 (by decide)).trans rfl))) (get_r (n := 35) (i := 0) (ZJ hA59) rfl) <| Za ?_)
   exact ⟨va59, [], rfl, (Sub.emp Sub.refl), rfl⟩
  ·intro ρ r61 N61 B hB hBa hBb hp hr hr0
   have p5 : (r61 5) = .func (.func 78) ⟨[]⟩ ⟨[]⟩ := hp 5 (by decide) rfl
   have p7 : (r61 7) = va59 := hp 7 (by decide) rfl
   obtain ⟨ρ71, rfl⟩ := Zc (uc (show ρ 82 = .func (.func 78) ⟨[]⟩ ⟨[]⟩ from (hr 5 _ _ (by decide) rfl rfl rfl).trans p5) (uc (show ρ 84 = va59 from (hr 7 _ _ (by decide) rfl rfl rfl).trans p7) un))
   refine Zg rfl Tryz.call78 rfl (fun hin => moreX_ct _ _ _ (RSs.mono (Hle.hu _ _) hV59) (by omega) (by first | exact hzs | exact hzc)) rfl ?_
   rintro u72 _ ⟨k72, rfl, ho72⟩
   refine Za ?_
   exact ⟨u72, k72, rfl, Sub.refl, ho72⟩
  ·intro ρ r61 N61 B hB hBa hBb hp hr hr0
   obtain ⟨ρ73, rfl⟩ := Zc (uc (show ρ 11 = .pointer (some ⟨b60, 0, none⟩) from hr0 11 (by kernel_rfl)) un)
   refine JLq (.pointer (some ⟨b60, 36, none⟩)) (fa85_2 rfl rfl) <| Za ?_
   exact ⟨.pointer (some ⟨b60, 36, none⟩), [], rfl, (Sub.emp Sub.refl), rfl⟩
  ·intro ρ r61 N61 B hB hBa hBb hp hr hr0
   have p9 : (r61 9) = .pointer (some ⟨b60, 36, none⟩) := hp 9 (by decide) rfl
   obtain ⟨ρ74, rfl⟩ := Zc (uc (show ρ 86 = .pointer (some ⟨b60, 36, none⟩) from (hr 9 _ _ (by decide) rfl rfl rfl).trans p9) un)
   refine JLr (Zh Z6 rfl (At.bx 20 (Zn ((hB 1 (by decide)).trans rfl))) (sub_app_r (n := 35) (i := 1) (ZJ hA59) (sub_r rfl (YQ hB59))) <| Za ?_)
   exact ⟨.agg ⟨cb59⟩, [], rfl, (Sub.emp Sub.refl), rfl⟩
  ·intro ρ r61 N61 B hB hBa hBb hp hr hr0
   obtain ⟨ρ75, rfl⟩ := Zc (uc (show ρ 1 = v from hr0 1 (by kernel_rfl)) un)
   refine JLm v <| Za ?_
   exact ⟨v, [], rfl, (Sub.emp Sub.refl), rfl⟩
  ·intro ρ r61 N61 B hB hBa hBb hp hr hr0
   have p11 : (r61 11) = v := hp 11 (by decide) rfl
   obtain ⟨ρ76, rfl⟩ := Zc (uc (show ρ 88 = v from (hr 11 _ _ (by decide) rfl rfl rfl).trans p11) un)
   have hB2 := hBa rfl
   change B = [[], [(b60, .cells ⟨ca59 ++ (([va59]) ++ cb59)⟩ 85 (0, 0))], [(b3, .cells ⟨pkN kind num ref u11 w y⟩ 32 (0, 0))], k4, k5, k11, k2, k3, [(b2, .cells ⟨pkN 0 0 zS (.slice none 0 0) (.slice none 0 0) (.slice none 0 0)⟩ 32 (0, 0))], [(b1, .cells ⟨pkN kind num ref nv ks cv⟩ 32 (0, 0))]] at hB2
   subst hB2
   refine Zq (M' := [(N61 0), (N61 1), (N61 2), (N61 3), (N61 4), (N61 5), (N61 6), (N61 7), (N61 8), (N61 9), (N61 10), (N61 11), [], (N61 13), (N61 14), [], [], (N61 17), (N61 18), [], [(b60, .cells ⟨ca59 ++ (([va59]) ++ cb59)⟩ 85 (0, 0))], [(b3, .cells ⟨pkN kind num ref u11 w y⟩ 32 (0, 0))], k4, k5, k11, k2, k3, [(b2, .cells ⟨pkN 0 0 zS (.slice none 0 0) (.slice none 0 0) (.slice none 0 0)⟩ 32 (0, 0))], [(b1, .cells ⟨pkN kind num ref nv ks cv⟩ 32 (0, 0))]]) Sub.refl <| Zg rfl Tryz.call13 rfl (fun hin => cloneS_ct _ _ _ (RSs.mono (Hle.hu _ _) hb_) (by omega)) rfl ?_
   rintro u77 _ ⟨k77, rfl, ho77⟩
   refine Za ?_
   exact ⟨u77, k77, rfl, (Sub.flat (M' := [(N61 0), (N61 1), (N61 2), (N61 3), (N61 4), (N61 5), (N61 6), (N61 7), (N61 8), (N61 9), (N61 10), (N61 11), [], (N61 13), (N61 14), [], [], (N61 17), (N61 18), k77, [(b60, .cells ⟨ca59 ++ (([va59]) ++ cb59)⟩ 85 (0, 0))], [(b3, .cells ⟨pkN kind num ref u11 w y⟩ 32 (0, 0))], k4, k5, k11, k2, k3, [(b2, .cells ⟨pkN 0 0 zS (.slice none 0 0) (.slice none 0 0) (.slice none 0 0)⟩ 32 (0, 0))], [(b1, .cells ⟨pkN kind num ref nv ks cv⟩ 32 (0, 0))]]) (Sub.cons 1 rfl (Sub.cons 1 rfl (Sub.cons 1 rfl (Sub.cons 1 rfl (Sub.cons 1 rfl (Sub.cons 1 rfl (Sub.cons 1 rfl (Sub.cons 1 rfl (Sub.cons 1 rfl (Sub.cons 1 rfl (Sub.cons 1 rfl (Sub.cons 1 rfl (Sub.emp (Sub.cons 2 rfl (Sub.cons 2 rfl (Sub.emp (Sub.emp (Sub.cons 4 rfl (Sub.cons 4 rfl (Sk (Sd (Sd (Sd (Sd (Sk (Sk (Sk (Sk (Sk (Sk (Sk (Sk (Sk Sub.nil))))))))))))))))))))))))))))))))) rfl), ho77⟩
  ·intro ρ r61 N61 B hB hBa hBb hp hr hr0
   obtain ⟨ρ78, rfl⟩ := Zc (uc (show ρ 11 = .pointer (some ⟨b60, 0, none⟩) from hr0 11 (by kernel_rfl)) un)
   refine JLq (.pointer (some ⟨b60, 35, none⟩)) (fa85_1 rfl rfl) <| Za ?_
   exact ⟨.pointer (some ⟨b60, 35, none⟩), [], rfl, (Sub.emp Sub.refl), rfl⟩
  ·intro ρ r61 N61 B hB hBa hBb hp hr hr0
   have p13 : (r61 13) = .pointer (some ⟨b60, 35, none⟩) := hp 13 (by decide) rfl
   obtain ⟨ρ79, rfl⟩ := Zc (uc (show ρ 90 = .pointer (some ⟨b60, 35, none⟩) from (hr 13 _ _ (by decide) rfl rfl rfl).trans p13) un)
   refine JLr (Zf YG rfl (At.bx 20 (Zn ((hB 1 (by decide)).trans rfl))) (get_r (n := 35) (i := 0) (ZJ hA59) rfl) <| Za ?_)
   exact ⟨va59, [], rfl, (Sub.emp Sub.refl), rfl⟩
  ·intro ρ r61 N61 B hB hBa hBb hp hr hr0
   have p12 : Own 9 1 (r61 12) (ZP b) (N61 12) := hp 12 (by decide) rfl
   have p14 : (r61 14) = va59 := hp 14 (by decide) rfl
   obtain ⟨ρ80, rfl⟩ := Zc (uc (show ρ 89 = (r61 12) from (hr 12 _ _ (by decide) rfl rfl rfl)) (uc (show ρ 91 = va59 from (hr 14 _ _ (by decide) rfl rfl rfl).trans p14) un))
   have hB2 := hBa rfl
   change B = [(N61 12), [(b60, .cells ⟨ca59 ++ (([va59]) ++ cb59)⟩ 85 (0, 0))], [(b3, .cells ⟨pkN kind num ref u11 w y⟩ 32 (0, 0))], k4, k5, k11, k2, k3, [(b2, .cells ⟨pkN 0 0 zS (.slice none 0 0) (.slice none 0 0) (.slice none 0 0)⟩ 32 (0, 0))], [(b1, .cells ⟨pkN kind num ref nv ks cv⟩ 32 (0, 0))]] at hB2
   subst hB2
   refine Zq (M' := [(N61 0), (N61 1), (N61 2), (N61 3), (N61 4), (N61 5), (N61 6), (N61 7), (N61 8), (N61 9), (N61 10), (N61 11), [], (N61 13), (N61 14), [], [], (N61 17), (N61 18), (N61 12), [(b60, .cells ⟨ca59 ++ (([va59]) ++ cb59)⟩ 85 (0, 0))], [(b3, .cells ⟨pkN kind num ref u11 w y⟩ 32 (0, 0))], k4, k5, k11, k2, k3, [(b2, .cells ⟨pkN 0 0 zS (.slice none 0 0) (.slice none 0 0) (.slice none 0 0)⟩ 32 (0, 0))], [(b1, .cells ⟨pkN kind num ref nv ks cv⟩ 32 (0, 0))]]) Sub.refl <| Zq (M' := [(N61 0), (N61 1), (N61 2), (N61 3), (N61 4), (N61 5), (N61 6), (N61 7), (N61 8), (N61 9), (N61 10), (N61 11), [], (N61 13), (N61 14), [], [], (N61 17), (N61 18), (N61 12), [(b60, .cells ⟨ca59 ++ (([va59]) ++ cb59)⟩ 85 (0, 0))], [(b3, .cells ⟨pkN kind num ref u11 w y⟩ 32 (0, 0))], k4, k5, k11, k2, k3, [(b2, .cells ⟨pkN 0 0 zS (.slice none 0 0) (.slice none 0 0) (.slice none 0 0)⟩ 32 (0, 0))], [(b1, .cells ⟨pkN kind num ref nv ks cv⟩ 32 (0, 0))]]) (Sk (Sk (Sk (Sk (Sk (Sk (Sk (Sk (Sk (Sk (Sk (Sk (Sub.emp (Sd (Sk (Sk (Sub.emp (Sub.emp (Sd (Sd (Sk (Sk (Sk (Sk (Sk (Sk (Sk (Sk (Sk (Sk (Sk (Sk Sub.nil)))))))))))))))))))))))))))))))) <| JLr (ZH (i := 19) (n := (cases[j].2.1).length) (es' := ZP (cases[j].2.1)) Tryz.runUnderlying28 Tryz.runUnderlying28 (Or.inl rfl) el9 rfl rfl rfl p12 (fun F w m => strs_src hV59 w _ m) (ZW _) (strs_len1 _) (strs_ok _) (by decide) (by first | omega | (simp only [ZW, List.length_append]; omega)) fun v81 k81 ho81 => ?_)
   rw [← strs_app] at ho81
   refine Za ?_
   exact ⟨v81, k81, rfl, (Sub.flat (M' := [(N61 0), (N61 1), (N61 2), (N61 3), (N61 4), (N61 5), (N61 6), (N61 7), (N61 8), (N61 9), (N61 10), (N61 11), [], (N61 13), (N61 14), [], [], (N61 17), (N61 18), k81, [(b60, .cells ⟨ca59 ++ (([va59]) ++ cb59)⟩ 85 (0, 0))], [(b3, .cells ⟨pkN kind num ref u11 w y⟩ 32 (0, 0))], k4, k5, k11, k2, k3, [(b2, .cells ⟨pkN 0 0 zS (.slice none 0 0) (.slice none 0 0) (.slice none 0 0)⟩ 32 (0, 0))], [(b1, .cells ⟨pkN kind num ref nv ks cv⟩ 32 (0, 0))]]) (Sk (Sk (Sk (Sk (Sk (Sk (Sk (Sk (Sk (Sk (Sk (Sk (Sub.emp (Sd (Sk (Sk (Sub.emp (Sub.emp (Sd (Sd (Sk (Sk (Sk (Sk (Sk (Sk (Sk (Sk (Sk (Sk (Sk (Sk Sub.nil)))))))))))))))))))))))))))))))) rfl), ho81⟩
  ·intro ρ r61 N61 B hB hBa hBb hp hr hr0
   have p10 : (r61 10) = .agg ⟨cb59⟩ := hp 10 (by decide) rfl
   have p15 : Own 9 1 (r61 15) (ZP (b ++ cases[j].2.1)) (N61 15) := hp 15 (by decide) rfl
   obtain ⟨ρ82, rfl⟩ := Zc (uc (show ρ 87 = .agg ⟨cb59⟩ from (hr 10 _ _ (by decide) rfl rfl rfl).trans p10) (uc (show ρ 92 = (r61 15) from (hr 15 _ _ (by decide) rfl rfl rfl)) un))
   have hB2 := hBa rfl
   change B = [(N61 15), [(b60, .cells ⟨ca59 ++ (([va59]) ++ cb59)⟩ 85 (0, 0))], [(b3, .cells ⟨pkN kind num ref u11 w y⟩ 32 (0, 0))], k4, k5, k11, k2, k3, [(b2, .cells ⟨pkN 0 0 zS (.slice none 0 0) (.slice none 0 0) (.slice none 0 0)⟩ 32 (0, 0))], [(b1, .cells ⟨pkN kind num ref nv ks cv⟩ 32 (0, 0))]] at hB2
   subst hB2
   refine Zq (M' := [(N61 0), (N61 1), (N61 2), (N61 3), (N61 4), (N61 5), (N61 6), (N61 7), (N61 8), (N61 9), (N61 10), (N61 11), [], (N61 13), (N61 14), [], [], (N61 17), (N61 18), (N61 15), [(b60, .cells ⟨ca59 ++ (([va59]) ++ cb59)⟩ 85 (0, 0))], [(b3, .cells ⟨pkN kind num ref u11 w y⟩ 32 (0, 0))], k4, k5, k11, k2, k3, [(b2, .cells ⟨pkN 0 0 zS (.slice none 0 0) (.slice none 0 0) (.slice none 0 0)⟩ 32 (0, 0))], [(b1, .cells ⟨pkN kind num ref nv ks cv⟩ 32 (0, 0))]]) Sub.refl <| Zq (M' := [(N61 0), (N61 1), (N61 2), (N61 3), (N61 4), (N61 5), (N61 6), (N61 7), (N61 8), (N61 9), (N61 10), (N61 11), [], (N61 13), (N61 14), [], [], (N61 17), (N61 18), (N61 15), [(b60, .cells ⟨ca59 ++ (([va59]) ++ cb59)⟩ 85 (0, 0))], [(b3, .cells ⟨pkN kind num ref u11 w y⟩ 32 (0, 0))], k4, k5, k11, k2, k3, [(b2, .cells ⟨pkN 0 0 zS (.slice none 0 0) (.slice none 0 0) (.slice none 0 0)⟩ 32 (0, 0))], [(b1, .cells ⟨pkN kind num ref nv ks cv⟩ 32 (0, 0))]]) (Sk (Sk (Sk (Sk (Sk (Sk (Sk (Sk (Sk (Sk (Sk (Sk (Sub.emp (Sd (Sk (Sk (Sub.emp (Sub.emp (Sd (Sd (Sk (Sk (Sk (Sk (Sk (Sk (Sk (Sk (Sk (Sk (Sk (Sk Sub.nil)))))))))))))))))))))))))))))))) <| Zg rfl Tryz.call26 rfl (fun hin => ih' _ (List.getElem_mem h58n) _ _ _ _ (RN.mono (Hle.hu _ _) hB59) (Yj p15 (by first | omega | (simp only [Yh, List.length_take, List.length_append]; omega)) (hin 19 _ rfl)) (hzc2 _ (List.getElem_mem h58n)).2 (by simp only [List.length_append]; omega)) rfl ?_
   rintro _ _ ⟨cs83, k83, rfl, rfl, hO83⟩
   refine Za ?_
   exact ⟨.agg ⟨cs83⟩, k83, rfl, (Sub.flat (M' := [(N61 0), (N61 1), (N61 2), (N61 3), (N61 4), (N61 5), (N61 6), (N61 7), (N61 8), (N61 9), (N61 10), (N61 11), [], (N61 13), (N61 14), [], [], (N61 17), (N61 18), k83, [(b60, .cells ⟨ca59 ++ (([va59]) ++ cb59)⟩ 85 (0, 0))], [(b3, .cells ⟨pkN kind num ref u11 w y⟩ 32 (0, 0))], k4, k5, k11, k2, k3, [(b2, .cells ⟨pkN 0 0 zS (.slice none 0 0) (.slice none 0 0) (.slice none 0 0)⟩ 32 (0, 0))], [(b1, .cells ⟨pkN kind num ref nv ks cv⟩ 32 (0, 0))]]) (Sub.cons 1 rfl (Sub.cons 1 rfl (Sub.cons 1 rfl (Sub.cons 1 rfl (Sub.cons 1 rfl (Sub.cons 1 rfl (Sub.cons 1 rfl (Sub.cons 1 rfl (Sub.cons 1 rfl (Sub.cons 1 rfl (Sub.cons 1 rfl (Sub.cons 1 rfl (Sub.emp (Sub.cons 2 rfl (Sub.cons 2 rfl (Sub.emp (Sub.emp (Sub.cons 4 rfl (Sub.cons 4 rfl (Sk (Sd (Sd (Sd (Sd (Sk (Sk (Sk (Sk (Sk (Sk (Sk (Sk (Sk Sub.nil))))))))))))))))))))))))))))))))) rfl), ⟨rfl, hO83⟩⟩
  ·intro ρ r61 N61 B hB hBa hBb hp hr hr0
   have p4 : (r61 4) = .agg ⟨(cel (r61 4))⟩ ∧ OP (cases[j].1) (cel (r61 4)) (N61 4) := hp 4 (by decide) rfl
   have p8 : Own 9 1 (r61 8) (ZP ((cases[j].2.1).map YS)) (N61 8) := hp 8 (by decide) rfl
   have p16 : (r61 16) = .agg ⟨(cel (r61 16))⟩ ∧ ON (reN YS (cases[j].2.2) (b ++ cases[j].2.1)) (cel (r61 16)) (N61 16) := hp 16 (by decide) rfl
   obtain ⟨ρ84, rfl⟩ := Zc (uc (show ρ 81 = .agg ⟨(cel (r61 4))⟩ from (hr 4 _ _ (by decide) rfl rfl rfl).trans p4.1) (uc (show ρ 85 = (r61 8) from (hr 8 _ _ (by decide) rfl rfl rfl)) (uc (show ρ 93 = .agg ⟨(cel (r61 16))⟩ from (hr 16 _ _ (by decide) rfl rfl rfl).trans p16.1) un)))
   refine JLq (.agg ⟨((cel (r61 4))) ++ (([(r61 8)]) ++ ((cel (r61 16))))⟩) (Pu.build (pv := [(0, .agg ⟨(cel (r61 4))⟩), (1, (r61 8)), (2, .agg ⟨(cel (r61 16))⟩)]) (l := ((cel (r61 4))) ++ (([(r61 8)]) ++ ((cel (r61 16))))) rfl (bldNC p4.2.len p8.one p16.2.len)) <| Za ?_
   exact ⟨.agg ⟨((cel (r61 4))) ++ (([(r61 8)]) ++ ((cel (r61 16))))⟩, [], rfl, (Sub.emp Sub.refl), rfl⟩
  ·intro ρ r61 N61 B hB hBa hBb hp hr hr0
   have p4 : (r61 4) = .agg ⟨(cel (r61 4))⟩ ∧ OP (cases[j].1) (cel (r61 4)) (N61 4) := hp 4 (by decide) rfl
   have p16 : (r61 16) = .agg ⟨(cel (r61 16))⟩ ∧ ON (reN YS (cases[j].2.2) (b ++ cases[j].2.1)) (cel (r61 16)) (N61 16) := hp 16 (by decide) rfl
   have p17 : (r61 17) = .agg ⟨((cel (r61 4))) ++ (([(r61 8)]) ++ ((cel (r61 16))))⟩ := hp 17 (by decide) rfl
   obtain ⟨ρ85, rfl⟩ := Zc (uc (show ρ 94 = .agg ⟨((cel (r61 4))) ++ (([(r61 8)]) ++ ((cel (r61 16))))⟩ from (hr 17 _ _ (by decide) rfl rfl rfl).trans p17) un)
   refine JLr (Zr (vs := [.agg ⟨((cel (r61 4))) ++ (([(r61 8)]) ++ ((cel (r61 16))))⟩]) [((cel (r61 4))) ++ (([(r61 8)]) ++ ((cel (r61 16))))] Tryz.runUnderlying30 el85 rfl rfl (by intro e he; simp only [List.mem_cons, List.not_mem_nil, or_false] at he; subst he; exact (ZN p4.2.len (ZN rfl p16.2.len))) rfl (by decide) fun b86 k86 ho86 hk86 => Za ?_)
   exact ⟨.slice (some ⟨b86, 0, none⟩) 1 1, k86, rfl, Sub.refl, ⟨rfl, hk86, ho86⟩⟩
  intro ρ r61 N61 hp hr hr0
  have p4 : (r61 4) = .agg ⟨(cel (r61 4))⟩ ∧ OP (cases[j].1) (cel (r61 4)) (N61 4) := hp 4 (by decide)
  have p8 : Own 9 1 (r61 8) (ZP ((cases[j].2.1).map YS)) (N61 8) := hp 8 (by decide)
  have p12 : Own 9 1 (r61 12) (ZP b) (N61 12) := hp 12 (by decide)
  have p15 : Own 9 1 (r61 15) (ZP (b ++ cases[j].2.1)) (N61 15) := hp 15 (by decide)
  have p16 : (r61 16) = .agg ⟨(cel (r61 16))⟩ ∧ ON (reN YS (cases[j].2.2) (b ++ cases[j].2.1)) (cel (r61 16)) (N61 16) := hp 16 (by decide)
  have p18 : (r61 18) = .slice (some ⟨(ZC (r61 18)), 0, none⟩) 1 1 ∧ (N61 18) = [(ZC (r61 18), .cells ⟨List.flatten [((cel (r61 4))) ++ (([(r61 8)]) ++ ((cel (r61 16))))]⟩ 85 (0, 0))] ∧ Own 85 73 (.slice (some ⟨(ZC (r61 18)), 0, none⟩) 1 1) [((cel (r61 4))) ++ (([(r61 8)]) ++ ((cel (r61 16))))] (N61 18) := hp 18 (by decide)
  obtain ⟨ρ87, rfl⟩ := Zc (uc (show ρ 1 = v from hr0 1 (by kernel_rfl)) (uc (show ρ 4 = .pointer (some ⟨b2, 0, none⟩) from hr0 4 (by kernel_rfl)) (uc (show ρ 5 = .func (.func 78) ⟨[]⟩ ⟨[]⟩ from hr0 5 (by kernel_rfl)) (uc (show ρ 6 = .pointer (some ⟨b3, 0, none⟩) from hr0 6 (by kernel_rfl)) (uc (show ρ 71 = cv from hr0 71 (by kernel_rfl)) (uc (show ρ 72 = .int .i64 ((cases.length : Int)) from hr0 72 (by kernel_rfl)) (uc (show ρ 73 = .int .i64 ((j : Int)) from hr0 73 (by kernel_rfl)) (uc (show ρ 78 = y from (hr 1 _ _ (by decide) rfl rfl).trans (hp 1 (by decide))) (uc (show ρ 95 = .slice (some ⟨(ZC (r61 18)), 0, none⟩) 1 1 from (hr 18 _ _ (by decide) rfl rfl).trans p18.1) un)))))))))
  have p61_4 := p4; have p61_8 := p8; have p61_12 := p12; have p61_15 := p15; have p61_16 := p16; have p61_18 := p18
  clear hp hr hr0 p4 p8 p12 p15 p16 p18
  refine Zq (M' := [(N61 0), (N61 1), (N61 2), (N61 3), (N61 4), (N61 5), (N61 6), (N61 7), (N61 8), (N61 9), (N61 10), (N61 11), [], (N61 13), (N61 14), [], [], (N61 17), (N61 18), (N61 16), [(b60, .cells ⟨ca59 ++ (([va59]) ++ cb59)⟩ 85 (0, 0))], [(b3, .cells ⟨pkN kind num ref u11 w y⟩ 32 (0, 0))], k4, k5, k11, k2, k3, [(b2, .cells ⟨pkN 0 0 zS (.slice none 0 0) (.slice none 0 0) (.slice none 0 0)⟩ 32 (0, 0))], [(b1, .cells ⟨pkN kind num ref nv ks cv⟩ 32 (0, 0))]]) Sub.refl <| Zq (M' := [(N61 4), (N61 8), (N61 18), (N61 16), [(b60, .cells ⟨ca59 ++ (([va59]) ++ cb59)⟩ 85 (0, 0))], [(b3, .cells ⟨pkN kind num ref u11 w y⟩ 32 (0, 0))], k4, k5, k11, k2, k3, [(b2, .cells ⟨pkN 0 0 zS (.slice none 0 0) (.slice none 0 0) (.slice none 0 0)⟩ 32 (0, 0))], [(b1, .cells ⟨pkN kind num ref nv ks cv⟩ 32 (0, 0))]]) (Sd (Sd (Sd (Sd (Sk (Sd (Sd (Sd (Sk (Sd (Sd (Sd (Sd (Sd (Sd (Sd (Sd (Sd (Sk (Sk (Sk (Sk (Sk (Sk (Sk (Sk (Sk (Sk (Sk Sub.nil))))))))))))))))))))))))))))) <| Zq (M' := [(N61 4), (N61 8), (N61 18), (N61 16), [(b60, .cells ⟨ca59 ++ (([va59]) ++ cb59)⟩ 85 (0, 0))], [(b3, .cells ⟨pkN kind num ref u11 w y⟩ 32 (0, 0))], k4, k5, k11, k2, k3, [(b2, .cells ⟨pkN 0 0 zS (.slice none 0 0) (.slice none 0 0) (.slice none 0 0)⟩ 32 (0, 0))], [(b1, .cells ⟨pkN kind num ref nv ks cv⟩ 32 (0, 0))]]) (Sub.flat Sub.refl (by simp)) ?_
  show JL _ _ _ [_, _, _] _ _ _
  have hlens88 : ∀ e ∈ ([((cel (r61 4))) ++ (([(r61 8)]) ++ ((cel (r61 16))))] : List (List Value)), List.length e = 73 := by
   intro e he; simp only [List.mem_cons, List.not_mem_nil, or_false] at he
   rcases he with rfl
   ·exact (ZN p61_4.2.len (ZN rfl p61_16.2.len))
  have hoks88 : ∀ e ∈ ([((cel (r61 4))) ++ (([(r61 8)]) ++ ((cel (r61 16))))] : List (List Value)), okc e := by
   intro e he; simp only [List.mem_cons, List.not_mem_nil, or_false] at he
   rcases he with rfl
   ·exact (Z3 p61_4.2.ok (Z3 (Zm p61_8.one Zv) p61_16.2.ok))
  refine JLr (ZH (i := 6) (n := 1) (es' := [((cel (r61 4))) ++ (([(r61 8)]) ++ ((cel (r61 16))))]) Tryz.runUnderlying30 Tryz.runUnderlying30 (Or.inl rfl) el85 rfl rfl rfl ho3 (fun F w m => Src.row (((At.k 2 rfl (by rw [p61_18.2.1]; exact List.mem_cons_self))).heap m) (Zx (ZG hlens88))) rfl hlens88 hoks88 (by decide) (by first | omega | (simp only [ZW, List.length_append]; omega)) fun v88 k88 ho88 => JLq (.pointer (some ⟨b3, 36, none⟩)) (fa32_5 rfl rfl) <| JLr (Ze 5 (vs := [v88]) (l := pkN kind num ref u11 w v88) ty30 rfl rfl rfl (ZO ho88.one) rfl (Zm ho88.one Zv) (pkN_s36 ..) <| Za <| Zb <| JLq (.int .i64 (((j + 1 : Nat) : Int))) (Pu.inc rfl rfl (by omega)) <| JLm (.int .i64 (((j + 1 : Nat) : Int))) <| Za <| ⟨_, ?_, (j + 1), v88, (es2 ++ [((cel (r61 4))) ++ (([(r61 8)]) ++ ((cel (r61 16))))]), k88, (k5 ++ (((N61 4)) ++ (((N61 8)) ++ ((N61 16))))), rfl, rfl, rfl, rfl, rfl, rfl, rfl, (Sub.cons 5 rfl (Sub.cons 5 rfl (Sub.join4 (Sub.cons 5 rfl (Sk (Sk (Sd (Sk (Sd (Sk (Sk (Sk (Sk (Sk Sub.nil)))))))))))))), ?_, ?_, ?_, rfl⟩))
  ·omega
  ·omega
  ·exact ho88
  rw [reCs_take YS b cases j h58n]; exact ONCs.snoc p61_4.2 p61_8 (by rw [List.length_map]; omega) p61_16.2 hopw
 replace h58 := df h58
 have h58n : cases.length ≤ j := by omega
 refine ZM _ rfl <| Zd <| Zb <| JLr (Zh Z6 rfl (At.bx 0 rfl) (pkN_a ..) <| JLr (Ze 6 (vs := pkN kind num ref u11 w y) (l := pkN kind num ref u11 w y) Z6 rfl rfl rfl rfl rfl (pkN_ok ho11.one ho2.one ho3.one) (pkN_s ..) <| Za <| Zl <| ⟨.agg ⟨pkN kind num ref u11 w y⟩, [k11 ++ (k2 ++ (k3 ++ (k4 ++ k5)))], Ret.one rfl (RV.cell Z6 rfl (At.bx 6 rfl) (pkN_a ..)), (Sub.join5 (Sd (Sub.cons 2 rfl (Sub.cons 2 rfl (Sub.cons 2 rfl (Sk (Sk Sub.nil))))))), ?_⟩))
 rw [List.take_of_length_le h58n] at hopw
 exact ⟨_, _, rfl, rfl, by rw [reN, if_neg hk1]; exact ON_mk.2 ⟨_, _, _, _, _, _, _, _, _, _, rfl, hk, hn, ho11, ho2, hop, ho3, hopw, rfl, by rw [List.length_map]; omega, by rw [reNs_len]; omega, by rw [reCs_len]; omega⟩⟩
end Go.Proofs.YtmophpgiaiemhaaGreat.Hs
/-! Walks, printed by a program of this session's own (gen.py). -/
namespace Go.Proofs.YtmophpgiaiemhaaGreat.Hs
open Go Go.Proofs
set_option maxRecDepth 100000
set_option linter.unusedVariables false
set_option linter.unusedSimpArgs false
attribute [local irreducible] JL J CT wlo
theorem idxNCp_ct (g : Nat) (fs cv : List Value) (hcall : ∀ args w, (callFunc g args).run Tryz.prog w = .ok (.enter g args) w) (pr : (Pt × List ByteArray × Nm) → Bool) (l : List (Pt × List ByteArray × Nm)) (v : Value) (H : Heap) (hl : Hs.rdS RNC 73 H v l) (hg : ∀ x ∈ l, ∀ a h, Hle H h → RNC h a x → CT Tryz.prog g ⟨fs ++ [.agg ⟨a⟩] ++ cv⟩ [] h (fun v N => v = .bool (pr x) ∧ N = [])) : CT Tryz.prog 93 ⟨[v, .func (.func g) ⟨fs⟩ ⟨cv⟩]⟩ [] H (fun v N => v = .int .i64 (fstA pr l 0) ∧ N = []) := by
 refine Zo Tryz.func93 rfl rfl <| Zd <| Zb <| JLa (.int .i64 0) <| Za <| Zd <| Zd <| Zb <| JLm v ?_
 obtain ⟨a1, cap1, hv1⟩ := hl.sl
 have hle1 := hl.le
 refine JLq (.int .i64 ((l.length : Int))) (Pu.lenSl Tryz.runUnderlying30 hv1) <| JLm (.int .i64 0) <| Za <| Zs <| ZU (fun k ρ M => ∃ (j : Nat), ρ 0 = v ∧ ρ 1 = .func (.func g) ⟨fs⟩ ⟨cv⟩ ∧ ρ 4 = .int .i64 0 ∧ ρ 7 = .int .i64 ((l.length : Int)) ∧ ρ 8 = .int .i64 ((j : Int)) ∧ Sub [] M ∧ j ≤ l.length ∧ fstA pr (l.drop j) j = fstA pr l 0 ∧ k = l.length - j) _ ⟨0, rfl, rfl, rfl, rfl, rfl, Sub.nil, Nat.zero_le _, rfl, rfl⟩ ?_
 rintro _ ρ2 _ ⟨j, e3, e4, e5, e6, e7, hm8, hj, hinv, rfl⟩
 obtain ⟨ρ9, rfl⟩ := Zc (uc e3 (uc e4 (uc e5 (uc e6 (uc e7 un)))))
 clear e3 e4 e5 e6 e7
 refine Z1 hm8 <| Zd <| Zb <| JLq (.bool (decide ((j : Int) < (l.length : Int)))) (Pu.lss rfl rfl) <| Za <| Zd <| Zi (b := decide ((j : Int) < (l.length : Int))) rfl (fun h10 => ?_) (fun h10 => ?_)
 ·replace h10 := dt h10
  have h10n : j < l.length := by omega
  have hlenl := hl.le
  refine Zp <| Zd <| Zs <| Zd <| Zb <| JLm (.int .i64 ((j : Int))) <| JLa (.int .i64 ((j : Int))) <| Za <| Zd <| Zb <| JLm (.func (.func g) ⟨fs⟩ ⟨cv⟩) <| JLm v <| JLm (.int .i64 ((j : Int))) ?_
  obtain ⟨b11, o11, cap11, row11, T11, fr11, cs11, hv11, hb11, hs11, hE11⟩ := hl.get j (by first | assumption | omega | decide | simp)
  obtain ⟨ca11, va11, cb11, rfl, hA11, hV11, hB11⟩ := hE11
  refine JLq (.pointer (some ⟨b11, o11 + j * 73, none⟩)) (Pu.idx j Tryz.runUnderlying30 ty85 hv11 rfl rfl (by first | assumption | omega | decide | simp)) <| JLr (Zh ty85 rfl (At.im hb11) hs11 <| Zg rfl hcall rfl (fun hin => hg _ (List.getElem_mem h10n) _ _ (Hle.hu _ _) (RNC.mono (Hle.hu _ _) (RNC_mk hA11 hV11 hB11))) rfl ?_)
  rintro _ _ ⟨rfl, rfl⟩
  refine Za <| Zi (b := pr (l[j])) rfl (fun h12 => ?_) (fun h12 => ?_)
  ·refine Zd <| Zb <| JLm (.int .i64 ((j : Int))) <| JLa (.int .i64 ((j : Int))) <| Za <| Zl <| ⟨.int .i64 ((j : Int)), [], Ret.one rfl (RV.tmp rfl), Sub.nil, ?_⟩
   exact ⟨by rw [← hinv, Yt h10n, fstA, if_pos h12], rfl⟩
  refine Zp <| Zb <| JLq (.int .i64 (((j + 1 : Nat) : Int))) (Pu.inc rfl rfl (by omega)) <| JLm (.int .i64 (((j + 1 : Nat) : Int))) <| Za <| ⟨_, ?_, (j + 1), rfl, rfl, rfl, rfl, rfl, Sub.nil, ?_, ?_, rfl⟩
  ·omega
  ·omega
  rw [Yt h10n, fstA, if_neg (by simp [h12])] at hinv; exact hinv
 replace h10 := df h10
 have h10n : l.length ≤ j := by omega
 refine ZM _ rfl <| Zd <| Zb <| JLa (.int .i64 (-1)) <| Za <| Zl <| ⟨.int .i64 (-1), [], Ret.one rfl (RV.tmp rfl), Sub.nil, ?_⟩
 exact ⟨by rw [← hinv, Xl h10n]; rfl, rfl⟩
theorem containsNCp_ct (g : Nat) (fs cv : List Value) (hcall : ∀ args w, (callFunc g args).run Tryz.prog w = .ok (.enter g args) w) (pr : (Pt × List ByteArray × Nm) → Bool) (l : List (Pt × List ByteArray × Nm)) (v : Value) (H : Heap) (hl : Hs.rdS RNC 73 H v l) (hg : ∀ x ∈ l, ∀ a h, Hle H h → RNC h a x → CT Tryz.prog g ⟨fs ++ [.agg ⟨a⟩] ++ cv⟩ [] h (fun v N => v = .bool (pr x) ∧ N = [])) : CT Tryz.prog 39 ⟨[v, .func (.func g) ⟨fs⟩ ⟨cv⟩]⟩ [] H (fun v N => v = .bool (l.any pr) ∧ N = []) := by
 refine Zo Tryz.func39 rfl rfl <| Zd <| Zb <| JLa (.bool false) <| Za <| Zd <| Zb <| JLm v <| JLm (.func (.func g) ⟨fs⟩ ⟨cv⟩) <| Zg rfl Tryz.call93 rfl (fun hin => idxNCp_ct g fs cv hcall pr _ _ _ (RNCs.mono (Hle.hu _ _) hl) (fun x hx a h hh ra => hg x hx a h (Hle.trans (Hle.hu _ _) hh) ra)) rfl ?_
 rintro _ _ ⟨rfl, rfl⟩
 refine JLq (.bool (decide (0 ≤ fstA pr l 0))) (Pu.geq rfl rfl) <| JLa (.bool (decide (0 ≤ fstA pr l 0))) <| Za <| Zl <| ⟨.bool (decide (0 ≤ fstA pr l 0)), [], Ret.one rfl (RV.tmp rfl), Sub.nil, ?_⟩
 exact ⟨by rw [← fstA_any pr l 0], rfl⟩
theorem every1NC_ct (g : Nat) (fs cv : List Value) (hcall : ∀ args w, (callFunc g args).run Tryz.prog w = .ok (.enter g args) w) (pr : (Pt × List ByteArray × Nm) → Bool) (x : Pt × List ByteArray × Nm) (a : List Value) (H : Heap) (bP : Nat) (hx : RNC H a x) (hP : H bP = some (.cells ⟨[.func (.func g) ⟨fs⟩ ⟨cv⟩]⟩ 89 (0, 0))) (hg : ∀ a h, Hle H h → RNC h a x → CT Tryz.prog g ⟨fs ++ [.agg ⟨a⟩] ++ cv⟩ [] h (fun v N => v = .bool (pr x) ∧ N = [])) : CT Tryz.prog 144 ⟨[.agg ⟨a⟩, .pointer (some ⟨bP, 0, none⟩)]⟩ [] H (fun v N => v = .bool (!pr x) ∧ N = []) := by
 refine Zo Tryz.func144 rfl rfl <| Zd <| Zb <| JLr (Zt (l := a) rfl rfl fun b1 => JLa (.bool false) <| Za <| Zd <| Zb <| JLr (Zf ty89 rfl (At.im hP) rfl <| JLr (Zh ty85 rfl (At.bx 0 rfl) (Zx (RNC_len hx)) <| Zg rfl hcall rfl (fun hin => hg _ _ (Hle.hu _ _) (RNC.mono (Hle.hu _ _) hx)) rfl ?_)))
 rintro _ _ ⟨rfl, rfl⟩
 refine JLq (.bool (!(pr x))) (Pu.not rfl) <| JLa (.bool (!(pr x))) <| Za <| Zl <| ⟨.bool (!(pr x)), [], Ret.one rfl (RV.tmp rfl), Sub.nil, ?_⟩
 exact ⟨rfl, rfl⟩
theorem everyNC_ct (g : Nat) (fs cv : List Value) (hcall : ∀ args w, (callFunc g args).run Tryz.prog w = .ok (.enter g args) w) (pr : (Pt × List ByteArray × Nm) → Bool) (l : List (Pt × List ByteArray × Nm)) (v : Value) (H : Heap) (hl : Hs.rdS RNC 73 H v l) (hg : ∀ x ∈ l, ∀ a h, Hle H h → RNC h a x → CT Tryz.prog g ⟨fs ++ [.agg ⟨a⟩] ++ cv⟩ [] h (fun v N => v = .bool (pr x) ∧ N = [])) : CT Tryz.prog 119 ⟨[v, .func (.func g) ⟨fs⟩ ⟨cv⟩]⟩ [] H (fun v N => v = .bool (l.all pr) ∧ N = []) := by
 refine Zo Tryz.func119 rfl rfl <| Zd <| Zb <| JLr (Zt (l := [.func (.func g) ⟨fs⟩ ⟨cv⟩]) rfl rfl fun b1 => JLa (.bool false) <| Za <| Zd <| Zb <| JLm v <| JLq (.func (.func 144) ⟨[]⟩ ⟨[.pointer (some ⟨b1, 0, none⟩)]⟩) (Pu.makeFunc rfl rfl) <| Zg rfl Tryz.call39 rfl (fun hin => containsNCp_ct 144 [] [.pointer (some ⟨b1, 0, none⟩)] Tryz.call144 (fun x => !pr x) _ _ _ (RNCs.mono (Hle.hu _ _) hl) (fun x hx a h hh ra => every1NC_ct g fs cv hcall pr x a h b1 ra (hh _ _ (hin 0 _ rfl _ _ List.mem_cons_self)) (fun a2 h2 hh2 ra2 => hg x hx a2 h2 (Hle.trans (Hle.trans (Hle.hu _ _) hh) hh2) ra2))) rfl ?_)
 rintro _ _ ⟨rfl, rfl⟩
 refine JLq (.bool (!(l.any (fun x => !pr x)))) (Pu.not rfl) <| JLa (.bool (!(l.any (fun x => !pr x)))) <| Za <| Zl <| ⟨.bool (!(l.any (fun x => !pr x))), [], Ret.one rfl (RV.tmp rfl), Sub.nil, ?_⟩
 exact ⟨by simp [List.not_any_eq_all_not], rfl⟩
theorem manyN_ct : ∀ (n : Nm) (cs : List Value) (H : Heap), RN H cs n → n.kids.length ≤ 1000000 → CT Tryz.prog 118 ⟨[.agg ⟨cs⟩]⟩ [] H (fun v N => v = .int .i64 (Yx n.kind n.kids.length) ∧ N = []) := by
 intro n cs H hn_ hkl
 obtain ⟨nv, ks, cv, rfl, hk, hn, hns, hks, hcv⟩ := RN_open hn_
 refine Zo Tryz.func118 rfl rfl <| Zd <| Zb <| JLr (Zt (l := pkN (n.kind) (n.num) (n.ref) nv ks cv) rfl rfl fun b1 => JLa (.int .i64 0) <| Za <| Zd <| Zd <| Zb <| JLq (.pointer (some ⟨b1, 35, none⟩)) (Xk rfl rfl) <| JLr (Zf ty29 rfl (At.bx 0 rfl) (pkN_35 ..) ?_))
 obtain ⟨a2, cap2, hv2⟩ := hks.sl
 have hle2 := hks.le
 refine JLq (.int .i64 (((n.kids).length : Int))) (Pu.lenSl Tryz.runUnderlying29 hv2) <| JLa (.int .i64 (((n.kids).length : Int))) <| Za <| Zs <| Zd <| Zd <| Zb <| JLq (.pointer (some ⟨b1, 0, none⟩)) (fa32_0 rfl rfl) <| JLr (Zf ty3 rfl (At.bx 0 rfl) (pkN_0 ..) <| JLq (.bool (decide (n.kind = 1))) (Pu.eql rfl rfl) <| JLa (.bool (decide (n.kind = 1))) <| Za <| Zi (b := decide (n.kind = 1)) rfl (fun h3 => ?_) (fun h3 => ?_))
 ·replace h3 := dt h3
  refine Zp <| Zi (b := decide (n.kind = 1)) rfl (fun _ => ?_) (fun h4 => absurd h3 (df h4))
  refine Zd <| Zb <| JLa (.int .i64 1) <| Za <| Zl <| ⟨.int .i64 1, [], Ret.one rfl (RV.tmp rfl), Sub.nil, ?_⟩
  exact ⟨congrArg (Value.int .i64) (by simp only [Yx]; (repeat' split) <;> first | rfl | omega | (exfalso; simp_all; done) | (exfalso; simp_all; omega)), rfl⟩
 replace h3 := df h3
 refine Zd <| Zb <| JLq (.pointer (some ⟨b1, 0, none⟩)) (fa32_0 rfl rfl) <| JLr (Zf ty3 rfl (At.bx 0 rfl) (pkN_0 ..) <| JLq (.bool (decide (n.kind = 3))) (Pu.eql rfl rfl) <| JLa (.bool (decide (n.kind = 3))) <| Za <| Zi (b := decide (n.kind = 3)) rfl (fun h5 => ?_) (fun h5 => ?_))
 ·replace h5 := dt h5
  refine Zp <| Zi (b := decide (n.kind = 3)) rfl (fun _ => ?_) (fun h6 => absurd h5 (df h6))
  refine Zd <| Zb <| JLa (.int .i64 1) <| Za <| Zl <| ⟨.int .i64 1, [], Ret.one rfl (RV.tmp rfl), Sub.nil, ?_⟩
  exact ⟨congrArg (Value.int .i64) (by simp only [Yx]; (repeat' split) <;> first | rfl | omega | (exfalso; simp_all; done) | (exfalso; simp_all; omega)), rfl⟩
 replace h5 := df h5
 refine Zb <| JLq (.pointer (some ⟨b1, 0, none⟩)) (fa32_0 rfl rfl) <| JLr (Zf ty3 rfl (At.bx 0 rfl) (pkN_0 ..) <| JLq (.bool (decide (n.kind = 5))) (Pu.eql rfl rfl) <| JLa (.bool (decide (n.kind = 5))) <| Za <| Zi (b := decide (n.kind = 5)) rfl (fun h7 => ?_) (fun h7 => ?_))
 ·replace h7 := dt h7
  refine Zd <| Zb <| JLa (.int .i64 1) <| Za <| Zl <| ⟨.int .i64 1, [], Ret.one rfl (RV.tmp rfl), Sub.nil, ?_⟩
  exact ⟨congrArg (Value.int .i64) (by simp only [Yx]; (repeat' split) <;> first | rfl | omega | (exfalso; simp_all; done) | (exfalso; simp_all; omega)), rfl⟩
 replace h7 := df h7
 refine Zd <| Zb <| JLq (.pointer (some ⟨b1, 0, none⟩)) (fa32_0 rfl rfl) <| JLr (Zf ty3 rfl (At.bx 0 rfl) (pkN_0 ..) <| JLq (.bool (decide (n.kind = 12))) (Pu.eql rfl rfl) <| JLm (.bool (decide (n.kind = 12))) ?_)
 cases h8 : (decide (n.kind = 12)) with
 | true =>
  replace h8 := dt h8
  refine JLm (.int .i64 (((n.kids).length : Int))) <| JLq (.bool (decide (1 < ((n.kids).length : Int)))) (Pu.gtr rfl rfl) <| JLq (.bool (decide (1 < ((n.kids).length : Int)))) (Pu.pickT rfl rfl) <| JLa (.bool (decide (1 < ((n.kids).length : Int)))) <| Za <| Zi (b := decide (1 < ((n.kids).length : Int))) rfl (fun h9 => ?_) (fun h9 => ?_)
  ·replace h9 := dt h9
   refine Zd <| Zb <| JLm (.int .i64 (((n.kids).length : Int))) <| JLq (.int .i64 (2 * ((n.kids).length : Int))) (Pu.arithM rfl rfl (w64 (by omega))) <| JLq (.int .i64 (2 * ((n.kids).length : Int) - 3)) (Pu.sub64 rfl rfl (by first | omega | (constructor <;> omega))) <| JLa (.int .i64 (2 * ((n.kids).length : Int) - 3)) <| Za <| Zl <| ⟨.int .i64 (2 * ((n.kids).length : Int) - 3), [], Ret.one rfl (RV.tmp rfl), Sub.nil, ?_⟩
   exact ⟨congrArg (Value.int .i64) (by simp only [Yx]; (repeat' split) <;> first | rfl | omega | (exfalso; simp_all; done) | (exfalso; simp_all; omega)), rfl⟩
  replace h9 := df h9
  refine Zp <| Zd <| Zb <| JLa (.int .i64 0) <| Za <| Zl <| ⟨.int .i64 0, [], Ret.one rfl (RV.tmp rfl), Sub.nil, ?_⟩
  exact ⟨congrArg (Value.int .i64) (by simp only [Yx]; (repeat' split) <;> first | rfl | omega | (exfalso; simp_all; done) | (exfalso; simp_all; omega)), rfl⟩
 | false =>
  replace h8 := df h8
  iterate 2 refine Zy rfl ?_
  refine JLq (.bool false) (Pu.pickF rfl rfl) <| JLa (.bool false) <| Za <| Zi (b := false) rfl (fun h => absurd h (by simp)) (fun _ => Zp <| Zd <| Zb <| JLa (.int .i64 0) <| Za <| Zl <| ⟨.int .i64 0, [], Ret.one rfl (RV.tmp rfl), Sub.nil, ?_⟩)
  exact ⟨congrArg (Value.int .i64) (by simp only [Yx]; (repeat' split) <;> first | rfl | omega | (exfalso; simp_all; done) | (exfalso; simp_all; omega)), rfl⟩
theorem fits_ct (c : Pt × List ByteArray × Nm) (ca cb : List Value) (va : Value) (H : Heap) (ra1 : RP H ca c.1) (ra2 : Hs.rdS RS 1 H va c.2.1) (ra3 : RN H cb c.2.2) (hb : binds c.1 ≤ 1000000) : CT Tryz.prog 117 ⟨[.agg ⟨ca ++ (([va]) ++ cb)⟩]⟩ [] H (fun v N => v = .bool (fitC c) ∧ N = []) := by
 refine Zo Tryz.func117 rfl rfl <| Zd <| Zb <| JLr (Zt (l := ca ++ (([va]) ++ cb)) rfl rfl fun b1 => JLa (.bool false) <| Za <| Zd ?_)
 obtain ⟨a3, cap3, hv3⟩ := ra2.sl
 have hle3 := ra2.le
 refine Ya mixed #[0, 1, 3, 0, 8, 24, 63, 127] 6 6 1 rfl (by kernel_rfl) (fun i r2 N2 => match i with | 0 => (r2 0) = .pointer (some ⟨b1, 35, none⟩) | 1 => (r2 1) = va | 2 => (r2 2) = .int .i64 (((c.2.1).length : Int)) | 3 => (r2 3) = .pointer (some ⟨b1, 0, none⟩) | 4 => (r2 4) = .agg ⟨ca⟩ | 5 => (r2 5) = .int .i64 ((binds (c.1) : Int)) | _ => True) ⟨?_, ?_, ?_, ?_, ?_, ?_, trivial⟩ ?_
 ·intro ρ r2 N2 B hB hBa hp hr hr0
  obtain ⟨ρ4, rfl⟩ := Zc (uc (show ρ 1 = .pointer (some ⟨b1, 0, none⟩) from hr0 1 (by kernel_rfl)) un)
  refine JLq (.pointer (some ⟨b1, 35, none⟩)) (fa85_1 rfl rfl) <| Za ?_
  exact ⟨.pointer (some ⟨b1, 35, none⟩), [], rfl, (Sub.emp Sub.refl), rfl⟩
 ·intro ρ r2 N2 B hB hBa hp hr hr0
  obtain ⟨ρ5, rfl⟩ := Zc (uc (show ρ 3 = .pointer (some ⟨b1, 35, none⟩) from (hr 0 _ _ (by decide) rfl rfl rfl).trans (hp 0 (by decide) rfl)) un)
  refine JLr (Zf YG rfl (At.bx 6 (Zn ((hB 0 (by decide)).trans rfl))) (get_r (n := 35) (i := 0) (ZJ ra1) rfl) <| Za ?_)
  exact ⟨va, [], rfl, (Sub.emp Sub.refl), rfl⟩
 ·intro ρ r2 N2 B hB hBa hp hr hr0
  obtain ⟨ρ6, rfl⟩ := Zc (uc (show ρ 4 = va from (hr 1 _ _ (by decide) rfl rfl rfl).trans (hp 1 (by decide) rfl)) un)
  refine JLq (.int .i64 (((c.2.1).length : Int))) (Pu.lenSl Tryz.runUnderlying28 hv3) <| Za ?_
  exact ⟨.int .i64 (((c.2.1).length : Int)), [], rfl, (Sub.emp Sub.refl), rfl⟩
 ·intro ρ r2 N2 B hB hBa hp hr hr0
  obtain ⟨ρ7, rfl⟩ := Zc (uc (show ρ 1 = .pointer (some ⟨b1, 0, none⟩) from hr0 1 (by kernel_rfl)) un)
  refine JLq (.pointer (some ⟨b1, 0, none⟩)) (fa85_0 rfl rfl) <| Za ?_
  exact ⟨.pointer (some ⟨b1, 0, none⟩), [], rfl, (Sub.emp Sub.refl), rfl⟩
 ·intro ρ r2 N2 B hB hBa hp hr hr0
  obtain ⟨ρ8, rfl⟩ := Zc (uc (show ρ 6 = .pointer (some ⟨b1, 0, none⟩) from (hr 3 _ _ (by decide) rfl rfl rfl).trans (hp 3 (by decide) rfl)) un)
  refine JLr (Zh Z5 rfl (At.bx 6 (Zn ((hB 0 (by decide)).trans rfl))) (sub_l (ZJ ra1)) <| Za ?_)
  exact ⟨.agg ⟨ca⟩, [], rfl, (Sub.emp Sub.refl), rfl⟩
 ·intro ρ r2 N2 B hB hBa hp hr hr0
  obtain ⟨ρ9, rfl⟩ := Zc (uc (show ρ 7 = .agg ⟨ca⟩ from (hr 4 _ _ (by decide) rfl rfl rfl).trans (hp 4 (by decide) rfl)) un)
  refine Zg rfl Tryz.call112 rfl (fun hin => binds_ct _ _ _ (RP.mono (Hle.hu _ _) ra1) (by omega)) rfl ?_
  rintro _ _ ⟨rfl, rfl⟩
  refine Za ?_
  exact ⟨.int .i64 ((binds (c.1) : Int)), [], rfl, (Sub.emp Sub.refl), rfl⟩
 intro ρ r2 N2 hp hr hr0
 obtain ⟨ρ10, rfl⟩ := Zc (uc (show ρ 2 = .bool false from hr0 2 (by kernel_rfl)) (uc (show ρ 5 = .int .i64 (((c.2.1).length : Int)) from (hr 2 _ _ (by decide) rfl rfl).trans (hp 2 (by decide))) (uc (show ρ 8 = .int .i64 ((binds (c.1) : Int)) from (hr 5 _ _ (by decide) rfl rfl).trans (hp 5 (by decide))) un)))
 clear hp hr hr0 
 refine Zq (M' := [(N2 0), (N2 1), (N2 2), (N2 3), (N2 4), (N2 5), [(b1, .cells ⟨ca ++ (([va]) ++ cb)⟩ 85 (0, 0))]]) Sub.refl <| Zq (M' := [[(b1, .cells ⟨ca ++ (([va]) ++ cb)⟩ 85 (0, 0))]]) (Sd (Sd (Sd (Sd (Sd (Sd (Sk Sub.nil))))))) ?_
 show JL _ _ _ [_, _] _ _ _
 refine JLq (.bool (decide (((c.2.1).length : Int) = (binds (c.1) : Int)))) (Pu.eql rfl rfl) <| JLa (.bool (decide (((c.2.1).length : Int) = (binds (c.1) : Int)))) <| Za <| Zl <| ⟨.bool (decide (((c.2.1).length : Int) = (binds (c.1) : Int))), [], Ret.one rfl (RV.tmp rfl), Sub.nil, ?_⟩
 exact ⟨by rw [fitC]; congr 1; rw [decide_eq_decide]; omega, rfl⟩
theorem idxSc_ct (l : List ByteArray) (x : ByteArray) (v : Value) (H : Heap) (hl : Hs.rdS RS 1 H v l) : CT Tryz.prog 120 ⟨[v, .string x]⟩ [] H (fun v N => v = .int .i64 (YL x l 0) ∧ N = []) := by
 refine Zo Tryz.func120 rfl rfl <| Zd <| Zb <| JLa (.int .i64 0) <| Za <| Zd <| Zd <| Zb <| JLm v ?_
 obtain ⟨a1, cap1, hv1⟩ := hl.sl
 have hle1 := hl.le
 refine JLq (.int .i64 ((l.length : Int))) (Pu.lenSl Tryz.runUnderlying111 hv1) <| JLm (.int .i64 0) <| Za <| Zs <| ZU (fun k ρ M => ∃ (j : Nat), ρ 0 = v ∧ ρ 1 = .string x ∧ ρ 4 = .int .i64 0 ∧ ρ 7 = .int .i64 ((l.length : Int)) ∧ ρ 8 = .int .i64 ((j : Int)) ∧ Sub [] M ∧ j ≤ l.length ∧ YL x (l.drop j) j = YL x l 0 ∧ k = l.length - j) _ ⟨0, rfl, rfl, rfl, rfl, rfl, Sub.nil, Nat.zero_le _, rfl, rfl⟩ ?_
 rintro _ ρ2 _ ⟨j, e3, e4, e5, e6, e7, hm8, hj, hinv, rfl⟩
 obtain ⟨ρ9, rfl⟩ := Zc (uc e3 (uc e4 (uc e5 (uc e6 (uc e7 un)))))
 clear e3 e4 e5 e6 e7
 refine Z1 hm8 <| Zd <| Zb <| JLq (.bool (decide ((j : Int) < (l.length : Int)))) (Pu.lss rfl rfl) <| Za <| Zd <| Zi (b := decide ((j : Int) < (l.length : Int))) rfl (fun h10 => ?_) (fun h10 => ?_)
 ·replace h10 := dt h10
  have h10n : j < l.length := by omega
  have hlenl := hl.le
  refine Zp <| Zd <| Zs <| Zd <| Zb <| JLm (.int .i64 ((j : Int))) <| JLa (.int .i64 ((j : Int))) <| Za <| Zd <| Zb <| JLm (.string x) <| JLm v <| JLm (.int .i64 ((j : Int))) ?_
  obtain ⟨b11, o11, cap11, row11, T11, fr11, cs11, hv11, hb11, hs11, hE11⟩ := hl.get j (by first | assumption | omega | decide | simp)
  refine JLq (.pointer (some ⟨b11, o11 + j * 1, none⟩)) (Pu.idx j Tryz.runUnderlying111 ty9 hv11 rfl rfl (by first | assumption | omega | decide | simp)) <| JLr (Zf ty9 rfl (At.im hb11) (Yp ((show cs11 = [Value.string (l[j])] from hE11) ▸ hs11)) <| JLq (.bool (decide (x = l[j]))) (Pu.eqlS rfl rfl) <| Za <| Zi (b := decide (x = l[j])) rfl (fun h12 => ?_) (fun h12 => ?_))
  ·replace h12 := dt h12
   refine Zd <| Zb <| JLm (.int .i64 ((j : Int))) <| JLa (.int .i64 ((j : Int))) <| Za <| Zl <| ⟨.int .i64 ((j : Int)), [], Ret.one rfl (RV.tmp rfl), Sub.nil, ?_⟩
   exact ⟨by rw [← hinv, Yt h10n, YL, if_pos h12], rfl⟩
  replace h12 := df h12
  refine Zp <| Zb <| JLq (.int .i64 (((j + 1 : Nat) : Int))) (Pu.inc rfl rfl (by omega)) <| JLm (.int .i64 (((j + 1 : Nat) : Int))) <| Za <| ⟨_, ?_, (j + 1), rfl, rfl, rfl, rfl, rfl, Sub.nil, ?_, ?_, rfl⟩
  ·omega
  ·omega
  rw [Yt h10n, YL, if_neg h12] at hinv; exact hinv
 replace h10 := df h10
 have h10n : l.length ≤ j := by omega
 refine ZM _ rfl <| Zd <| Zb <| JLa (.int .i64 (-1)) <| Za <| Zl <| ⟨.int .i64 (-1), [], Ret.one rfl (RV.tmp rfl), Sub.nil, ?_⟩
 exact ⟨by rw [← hinv, Xl h10n]; rfl, rfl⟩
end Go.Proofs.YtmophpgiaiemhaaGreat.Hs
/-! Walks, printed by a program of this session's own (gen.py). -/
namespace Go.Proofs.YtmophpgiaiemhaaGreat.Hs
open Go Go.Proofs
set_option maxRecDepth 100000
set_option linter.unusedVariables false
set_option linter.unusedSimpArgs false
attribute [local irreducible] JL J CT wlo
set_option maxHeartbeats 4000000 in
theorem namelessI_ct : ∀ (n : Nm) (s : List ByteArray) (cs : List Value) (v : Value) (H : Heap), RN H cs n → Hs.rdS RS 1 H v s → s.length + 2 * sizeT (skN n) ≤ 1000000 → CT Tryz.prog 67 ⟨[.agg ⟨cs⟩, v]⟩ [] H (fun r N => ∃ cs k, r = .tuple ⟨[.agg ⟨cs⟩, .int .i64 (nlT n s).2]⟩ ∧ N = [k] ∧ OT (nlT n s).1 cs k) := by
 intro n
 induction n using Nm.ind with
 | h kind num ref ns kids cases ih ih' =>
 intro s cs v H ht hs hz
 obtain ⟨nv, ks, cv, rfl, hk, hn, hns, hks, hcv⟩ := RN_mk.1 ht
 have hkl := len_sizeTs (skNs kids)
 have hcl := len_sizeCs (skNCs cases)
 rw [sk_len] at hkl
 rw [skC_len] at hcl
 rw [skN, sizeT] at hz
 refine Zo Tryz.func67 rfl rfl <| Zd <| Zb <| JLr (Zt (l := pkN kind num ref nv ks cv) rfl rfl fun b1 => JLr (Zj (l := pkT 0 0 zS (.slice none 0 0) (.slice none 0 0)) Tryz.zeroValue27 rfl fun b2 => JLa (.int .i64 0) <| Za <| Zd <| Zb <| JLa (.func (.func 117) ⟨[]⟩ ⟨[]⟩) <| Za <| Zd <| Zs ?_))
 refine Zd ?_
 cases h3 : (decide ((ns.length : Int) = Yx kind kids.length)) with
 | true =>
  replace h3 := dt h3
  obtain ⟨a5, cap5, hv5⟩ := hns.rd.sl
  have hle5 := hns.rd.le
  refine Ya mixed #[0, 1, 3, 0, 8, 31, 63, 127, 255, 127, 1023, 2047, 4095, 8191] 10 10 2 rfl (by kernel_rfl) (fun i r4 N4 => match i with | 0 => (r4 0) = .pointer (some ⟨b1, 34, none⟩) | 1 => (r4 1) = nv | 2 => (r4 2) = .int .i64 ((ns.length : Int)) | 3 => (r4 3) = .agg ⟨pkN kind num ref nv ks cv⟩ | 4 => (r4 4) = .int .i64 (Yx kind kids.length) | 5 => (r4 5) = .bool false | 6 => (r4 6) = .bool false | 7 => (r4 7) = .pointer (some ⟨b1, 36, none⟩) | 8 => (r4 8) = cv | 9 => (r4 9) = .func (.func 117) ⟨[]⟩ ⟨[]⟩ | _ => True) ⟨?_, ?_, ?_, ?_, ?_, ?_, ?_, ?_, ?_, ?_, trivial⟩ ?_
  ·intro ρ r4 N4 B hB hBa hp hr hr0
   obtain ⟨ρ6, rfl⟩ := Zc (uc (show ρ 2 = .pointer (some ⟨b1, 0, none⟩) from hr0 2 (by kernel_rfl)) un)
   refine JLq (.pointer (some ⟨b1, 34, none⟩)) (Yw rfl rfl) <| Za ?_
   exact ⟨.pointer (some ⟨b1, 34, none⟩), [], rfl, (Sub.emp Sub.refl), rfl⟩
  ·intro ρ r4 N4 B hB hBa hp hr hr0
   obtain ⟨ρ7, rfl⟩ := Zc (uc (show ρ 20 = .pointer (some ⟨b1, 34, none⟩) from (hr 0 _ _ (by decide) rfl rfl rfl).trans (hp 0 (by decide) rfl)) un)
   refine JLr (Zf YG rfl (At.bx 11 (Zn ((hB 1 (by decide)).trans rfl))) (pkN_34 ..) <| Za ?_)
   exact ⟨nv, [], rfl, (Sub.emp Sub.refl), rfl⟩
  ·intro ρ r4 N4 B hB hBa hp hr hr0
   obtain ⟨ρ8, rfl⟩ := Zc (uc (show ρ 21 = nv from (hr 1 _ _ (by decide) rfl rfl rfl).trans (hp 1 (by decide) rfl)) un)
   refine JLq (.int .i64 ((ns.length : Int))) (Pu.lenSl Tryz.runUnderlying28 hv5) <| Za ?_
   exact ⟨.int .i64 ((ns.length : Int)), [], rfl, (Sub.emp Sub.refl), rfl⟩
  ·intro ρ r4 N4 B hB hBa hp hr hr0
   obtain ⟨ρ9, rfl⟩ := Zc (uc (show ρ 2 = .pointer (some ⟨b1, 0, none⟩) from hr0 2 (by kernel_rfl)) un)
   refine JLr (Zh Z6 rfl (At.bx 11 (Zn ((hB 1 (by decide)).trans rfl))) (pkN_a ..) <| Za ?_)
   exact ⟨.agg ⟨pkN kind num ref nv ks cv⟩, [], rfl, (Sub.emp Sub.refl), rfl⟩
  ·intro ρ r4 N4 B hB hBa hp hr hr0
   obtain ⟨ρ10, rfl⟩ := Zc (uc (show ρ 23 = .agg ⟨pkN kind num ref nv ks cv⟩ from (hr 3 _ _ (by decide) rfl rfl rfl).trans (hp 3 (by decide) rfl)) un)
   refine Zg rfl Tryz.call118 rfl (fun hin => manyN_ct (.mk kind num ref ns kids cases) _ _ (RN.mono (Hle.hu _ _) (RN_mk.2 ⟨_, _, _, rfl, hk, hn, hns, hks, hcv⟩)) (show kids.length ≤ 1000000 by omega)) rfl ?_
   rintro _ _ ⟨rfl, rfl⟩
   refine Za ?_
   exact ⟨.int .i64 (Yx kind kids.length), [], rfl, (Sub.emp Sub.refl), rfl⟩
  ·intro ρ r4 N4 B hB hBa hp hr hr0
   obtain ⟨ρ11, rfl⟩ := Zc (uc (show ρ 22 = .int .i64 ((ns.length : Int)) from (hr 2 _ _ (by decide) rfl rfl rfl).trans (hp 2 (by decide) rfl)) (uc (show ρ 24 = .int .i64 (Yx kind kids.length) from (hr 4 _ _ (by decide) rfl rfl rfl).trans (hp 4 (by decide) rfl)) un))
   refine JLq (.bool false) ((Pu.neq rfl rfl).cast (by rw [decide_eq_true h3]; rfl)) <| Za ?_
   exact ⟨.bool false, [], rfl, (Sub.emp Sub.refl), rfl⟩
  ·intro ρ r4 N4 B hB hBa hp hr hr0
   obtain ⟨ρ12, rfl⟩ := Zc (uc (show ρ 25 = .bool false from (hr 5 _ _ (by decide) rfl rfl rfl).trans (hp 5 (by decide) rfl)) un)
   refine JLm (.bool false) <| Za ?_
   exact ⟨.bool false, [], rfl, (Sub.emp Sub.refl), rfl⟩
  ·intro ρ r4 N4 B hB hBa hp hr hr0
   obtain ⟨ρ13, rfl⟩ := Zc (uc (show ρ 2 = .pointer (some ⟨b1, 0, none⟩) from hr0 2 (by kernel_rfl)) (uc (show ρ 26 = .bool false from (hr 6 _ _ (by decide) rfl rfl rfl).trans (hp 6 (by decide) rfl)) un))
   refine JLq (.pointer (some ⟨b1, 36, none⟩)) (fa32_5 rfl rfl) <| Za ?_
   exact ⟨.pointer (some ⟨b1, 36, none⟩), [], rfl, (Sub.emp Sub.refl), rfl⟩
  ·intro ρ r4 N4 B hB hBa hp hr hr0
   obtain ⟨ρ14, rfl⟩ := Zc (uc (show ρ 26 = .bool false from (hr 6 _ _ (by decide) rfl rfl rfl).trans (hp 6 (by decide) rfl)) (uc (show ρ 27 = .pointer (some ⟨b1, 36, none⟩) from (hr 7 _ _ (by decide) rfl rfl rfl).trans (hp 7 (by decide) rfl)) un))
   refine JLr (Zf ty30 rfl (At.bx 11 (Zn ((hB 1 (by decide)).trans rfl))) (pkN_36 ..) <| Za ?_)
   exact ⟨cv, [], rfl, (Sub.emp Sub.refl), rfl⟩
  ·intro ρ r4 N4 B hB hBa hp hr hr0
   obtain ⟨ρ15, rfl⟩ := Zc (uc (show ρ 6 = .func (.func 117) ⟨[]⟩ ⟨[]⟩ from hr0 6 (by kernel_rfl)) (uc (show ρ 26 = .bool false from (hr 6 _ _ (by decide) rfl rfl rfl).trans (hp 6 (by decide) rfl)) un))
   refine JLm (.func (.func 117) ⟨[]⟩ ⟨[]⟩) <| Za ?_
   exact ⟨.func (.func 117) ⟨[]⟩ ⟨[]⟩, [], rfl, (Sub.emp Sub.refl), rfl⟩
  intro ρ r4 N4 hp hr hr0
  obtain ⟨ρ16, rfl⟩ := Zc (uc (show ρ 1 = v from hr0 1 (by kernel_rfl)) (uc (show ρ 2 = .pointer (some ⟨b1, 0, none⟩) from hr0 2 (by kernel_rfl)) (uc (show ρ 4 = .pointer (some ⟨b2, 0, none⟩) from hr0 4 (by kernel_rfl)) (uc (show ρ 5 = .int .i64 0 from hr0 5 (by kernel_rfl)) (uc (show ρ 26 = .bool false from (hr 6 _ _ (by decide) rfl rfl).trans (hp 6 (by decide))) (uc (show ρ 28 = cv from (hr 8 _ _ (by decide) rfl rfl).trans (hp 8 (by decide))) (uc (show ρ 29 = .func (.func 117) ⟨[]⟩ ⟨[]⟩ from (hr 9 _ _ (by decide) rfl rfl).trans (hp 9 (by decide))) un)))))))
  clear hp hr hr0 
  refine Zq (M' := [(N4 0), (N4 1), (N4 2), (N4 3), (N4 4), (N4 5), (N4 6), (N4 7), (N4 8), (N4 9), [(b2, .cells ⟨pkT 0 0 zS (.slice none 0 0) (.slice none 0 0)⟩ 27 (0, 0))], [(b1, .cells ⟨pkN kind num ref nv ks cv⟩ 32 (0, 0))]]) Sub.refl <| Zq (M' := [[(b2, .cells ⟨pkT 0 0 zS (.slice none 0 0) (.slice none 0 0)⟩ 27 (0, 0))], [(b1, .cells ⟨pkN kind num ref nv ks cv⟩ 32 (0, 0))]]) (Sd (Sd (Sd (Sd (Sd (Sd (Sd (Sd (Sd (Sd (Sk (Sk Sub.nil)))))))))))) ?_
  show JL _ _ _ [_, _, _, _] _ _ _
  refine Zg rfl Tryz.call119 rfl (fun hin => everyNC_ct 117 [] [] Tryz.call117 fitC _ _ _ (RNCs.mono (Hle.hu _ _) hcv) (fun x hx a h hh ra => by obtain ⟨ca, va, cb, rfl, q1, q2, q3⟩ := ra; exact fits_ct x ca cb va h q1 q2 q3 (by have e1 := skC_mem _ x hx; have e2 := YE x.1; omega))) rfl ?_
  rintro _ _ ⟨rfl, rfl⟩
  refine JLq (.bool (!(cases.all fitC))) (Pu.not rfl) <| JLq (.bool (!(cases.all fitC))) (Pu.pickF rfl rfl) <| JLa (.bool (!(cases.all fitC))) <| Za <| Zi (b := !(cases.all fitC)) rfl (fun h17 => ?_) (fun h17 => ?_)
  ·replace h17 := nt h17
   refine Zd <| Zb <| JLq (.agg ⟨pkT 0 0 zS (.slice none 0 0) (.slice none 0 0)⟩) (Pu.build (pv := []) (l := pkT 0 0 zS (.slice none 0 0) (.slice none 0 0)) rfl (YW )) <| JLr (Ze 0 (vs := pkT 0 0 zS (.slice none 0 0) (.slice none 0 0)) (l := pkT 0 0 zS (.slice none 0 0) (.slice none 0 0)) Zu rfl rfl rfl rfl rfl (ZI rfl rfl) (Z0 ..) <| JLa (.int .i64 2) <| Za <| Zl <| ⟨.tuple ⟨[.agg ⟨pkT 0 0 zS (.slice none 0 0) (.slice none 0 0)⟩, .int .i64 2]⟩, [[]], Ret.two rfl (RV.cell Zu rfl (At.bx 0 rfl) (ZZ ..)) (RV.tmp rfl), (Sub.emp Sub.nil), ?_⟩)
   have hx : nlT (.mk kind num ref ns kids cases) s = (zT, 2) := nl_e2b (by assumption)
   exact ⟨_, _, by rw [hx], rfl, by rw [hx]; exact Yy⟩
  replace h17 := nf h17
  refine Yo (fun ρ M => ρ 1 = v ∧ ρ 2 = .pointer (some ⟨b1, 0, none⟩) ∧ ρ 4 = .pointer (some ⟨b2, 0, none⟩) ∧ ρ 5 = .int .i64 0 ∧ ρ 34 = .bool ((decide (kind = 1)) && (!decide (num = 0))) ∧ M = [[(b2, .cells ⟨pkT 0 0 zS (.slice none 0 0) (.slice none 0 0)⟩ 27 (0, 0))], [(b1, .cells ⟨pkN kind num ref nv ks cv⟩ 32 (0, 0))]]) ?_ ?_
  ·refine Zb <| JLq (.pointer (some ⟨b1, 0, none⟩)) (fa32_0 rfl rfl) <| JLr (Zf ty3 rfl (At.bx 1 rfl) (pkN_0 ..) <| JLq (.bool (decide (kind = 1))) (Pu.eql rfl rfl) <| JLm (.bool (decide (kind = 1))) ?_)
   cases h18 : (decide (kind = 1)) with
   | true =>
    replace h18 := dt h18
    refine JLq (.pointer (some ⟨b1, 1, none⟩)) (fa32_1 rfl rfl) <| JLr (Zf ty3 rfl (At.bx 1 rfl) (pkN_1 ..) <| JLq (.bool (!decide (num = 0))) (Pu.neq rfl rfl) <| JLq (.bool (!decide (num = 0))) (Pu.pickT rfl rfl) <| JLa (.bool (!decide (num = 0))) <| Za ?_)
    first | exact ⟨rfl, rfl, rfl, rfl, rfl, rfl⟩ | (exfalso; omega)
   | false =>
    replace h18 := df h18
    iterate 3 refine Zy rfl ?_
    refine JLq (.bool false) (Pu.pickF rfl rfl) <| JLa (.bool false) <| Za ?_
    first | exact ⟨rfl, rfl, rfl, rfl, rfl, rfl⟩ | (exfalso; omega)
  rintro ρ19 _ ⟨e20, e21, e22, e23, e24, rfl⟩
  obtain ⟨ρ25, rfl⟩ := Zc (uc e20 (uc e21 (uc e22 (uc e23 (uc e24 un)))))
  clear e20 e21 e22 e23 e24
  refine Zi (b := (decide (kind = 1)) && (!decide (num = 0))) rfl (fun h26 => ?_) (fun h26 => ?_)
  ·obtain ⟨h26a, h26b⟩ := andT h26
   replace h26a := dt h26a
   replace h26b := nt h26b
   replace h26b := df h26b
   refine Zd <| Zb <| JLq (.agg ⟨pkT 0 0 zS (.slice none 0 0) (.slice none 0 0)⟩) (Pu.build (pv := []) (l := pkT 0 0 zS (.slice none 0 0) (.slice none 0 0)) rfl (YW )) <| JLr (Ze 0 (vs := pkT 0 0 zS (.slice none 0 0) (.slice none 0 0)) (l := pkT 0 0 zS (.slice none 0 0) (.slice none 0 0)) Zu rfl rfl rfl rfl rfl (ZI rfl rfl) (Z0 ..) <| JLa (.int .i64 7) <| Za <| Zl ?_)
   have hq1_ := h3
   have hq2_ : cases.all fitC = true := by assumption
   refine ⟨.tuple ⟨[.agg ⟨pkT 0 0 zS (.slice none 0 0) (.slice none 0 0)⟩, .int .i64 7]⟩, [[]], Ret.two rfl (RV.cell Zu rfl (At.bx 0 rfl) (ZZ ..)) (RV.tmp rfl), (Sub.emp Sub.nil), ?_⟩
   have hx : nlT (.mk kind num ref ns kids cases) s = (zT, 7) := nl_e7 hq1_ hq2_ (by have q := h26; simpa using q)
   exact ⟨_, _, by rw [hx], rfl, by rw [hx]; exact Yy⟩
  refine Zp <| Zd ?_
  have hq1 := h3
  have hq2 : cases.all fitC = true := by assumption
  have hq3 : ¬ (kind = 1 ∧ ¬ num = 0) := by intro q; have q2 := h26; simp [q.1, q.2] at q2
  refine Zb <| JLq (.pointer (some ⟨b1, 0, none⟩)) (fa32_0 rfl rfl) <| JLr (Zf ty3 rfl (At.bx 1 rfl) (pkN_0 ..) <| JLq (.pointer (some ⟨b1, 1, none⟩)) (fa32_1 rfl rfl) <| JLr (Zf ty3 rfl (At.bx 1 rfl) (pkN_1 ..) <| JLq (.pointer (some ⟨b1, 2, none⟩)) (fa32_2 rfl rfl) <| JLr (Zh Xb rfl (At.bx 1 rfl) (pkN_2 ..) <| JLq (.agg ⟨pkT kind num ref (.slice none 0 0) (.slice none 0 0)⟩) (Pu.build (pv := [(0, .int .i64 kind), (1, .int .i64 num), (2, .agg ⟨sC ref⟩)]) (l := pkT kind num ref (.slice none 0 0) (.slice none 0 0)) rfl (bld27_0_1_2 _ _ _)) <| JLr (Zj (l := pkT 0 0 zS (.slice none 0 0) (.slice none 0 0)) Tryz.zeroValue27 rfl fun b27 => JLr (Ze 0 (vs := pkT kind num ref (.slice none 0 0) (.slice none 0 0)) (l := pkT kind num ref (.slice none 0 0) (.slice none 0 0)) Zu rfl rfl rfl rfl rfl (ZI rfl rfl) (Z0 ..) <| Za <| Zd <| Zd ?_)))))
  refine Zb <| JLq (.pointer (some ⟨b1, 0, none⟩)) (fa32_0 rfl rfl) <| JLr (Zf ty3 rfl (At.bx 2 rfl) (pkN_0 ..) <| JLq (.bool (decide (kind = 1))) (Pu.eql rfl rfl) <| Za <| J_weak (N := fun ρ M => ∃ (qx : Int), (qx = (if kind = 1 then YL (ns.getD 0 ltr0) s 0 else num)) ∧ (¬ (kind = 1 ∧ YL (ns.getD 0 ltr0) s 0 < 0)) ∧ (inI qx) ∧ ρ 1 = v ∧ ρ 2 = .pointer (some ⟨b1, 0, none⟩) ∧ ρ 4 = .pointer (some ⟨b2, 0, none⟩) ∧ ρ 5 = .int .i64 0 ∧ ρ 7 = .pointer (some ⟨b27, 0, none⟩) ∧ M = [[(b27, .cells ⟨pkT kind qx ref (.slice none 0 0) (.slice none 0 0)⟩ 27 (0, 0))], [(b2, .cells ⟨pkT 0 0 zS (.slice none 0 0) (.slice none 0 0)⟩ 27 (0, 0))], [(b1, .cells ⟨pkN kind num ref nv ks cv⟩ 32 (0, 0))]]) ?_ ?_)
  ·refine Zi (b := decide (kind = 1)) rfl (fun h28 => ?_) (fun h28 => ?_)
   ·replace h28 := dt h28
    refine Zd ?_
    have hk1 : kind = 1 := h28
    have hns1 : 0 < ns.length := by rw [hk1, many_one] at hq1; omega
    have hg0 := getD0 hns1
    refine Zb <| JLm v <| JLq (.pointer (some ⟨b1, 34, none⟩)) (Yw rfl rfl) <| JLr (Zf YG rfl (At.bx 2 rfl) (pkN_34 ..) ?_)
    obtain ⟨b29, o29, cap29, row29, T29, fr29, cs29, hv29, hb29, hs29, hE29⟩ := hns.rd.get 0 (by first | assumption | omega | decide | simp)
    refine JLq (.pointer (some ⟨b29, o29 + 0 * 1, none⟩)) (Pu.idx 0 Tryz.runUnderlying28 ty9 hv29 rfl rfl (by first | assumption | omega | decide | simp)) <| JLr (Zf ty9 rfl (At.im hb29) (Yp ((show cs29 = [Value.string (ns[0])] from hE29) ▸ hs29)) <| Zg rfl Tryz.call120 rfl (fun hin => idxSc_ct _ _ _ _ (RSs.mono (Hle.hu _ _) hs)) rfl ?_)
    rintro _ _ ⟨rfl, rfl⟩
    refine JLq (.pointer (some ⟨b27, 1, none⟩)) (Z4 rfl rfl) <| JLr (Ze 0 (vs := [.int .i64 (YL (ns[0]) s 0)]) (l := pkT kind (YL (ns[0]) s 0) ref (.slice none 0 0) (.slice none 0 0)) ty3 rfl rfl rfl rfl rfl (Zm rfl Zv) (pkT_s1 ..) <| Za <| Zd <| Zb <| JLq (.pointer (some ⟨b27, 1, none⟩)) (Z4 rfl rfl) <| JLr (Zf ty3 rfl (At.bx 0 rfl) (Yn ..) <| JLq (.bool (decide (YL (ns[0]) s 0 < 0))) (Pu.lss rfl rfl) <| Za <| Zi (b := decide (YL (ns[0]) s 0 < 0)) rfl (fun h30 => ?_) (fun h30 => ?_)))
    ·replace h30 := dt h30
     refine Zd <| Zb <| JLq (.agg ⟨pkT 0 0 zS (.slice none 0 0) (.slice none 0 0)⟩) (Pu.build (pv := []) (l := pkT 0 0 zS (.slice none 0 0) (.slice none 0 0)) rfl (YW )) <| JLr (Ze 1 (vs := pkT 0 0 zS (.slice none 0 0) (.slice none 0 0)) (l := pkT 0 0 zS (.slice none 0 0) (.slice none 0 0)) Zu rfl rfl rfl rfl rfl (ZI rfl rfl) (Z0 ..) <| JLa (.int .i64 1) <| Za <| Zl <| ⟨.tuple ⟨[.agg ⟨pkT 0 0 zS (.slice none 0 0) (.slice none 0 0)⟩, .int .i64 1]⟩, [[]], Ret.two rfl (RV.cell Zu rfl (At.bx 1 rfl) (ZZ ..)) (RV.tmp rfl), (Sub.emp Sub.nil), ?_⟩)
     have hx : nlT (.mk kind num ref ns kids cases) s = (zT, 1) := nl_e1 hq1 hq2 hq3 ⟨hk1, by rw [hg0]; exact h30⟩
     exact ⟨_, _, by rw [hx], rfl, by rw [hx]; exact Yy⟩
    replace h30 := df h30
    refine Zp ?_
    exact ⟨(YL (ns[0]) s 0), (by rw [if_pos hk1, hg0]), (fun q => h30 (by rw [← hg0]; exact q.2)), (by have hfb := fstS_bound ns[0] s 0; unfold inI; omega), rfl, rfl, rfl, rfl, rfl, rfl⟩
   replace h28 := df h28
   refine Zp ?_
   exact ⟨num, (if_neg h28).symm, (fun q => h28 q.1), hn, rfl, rfl, rfl, rfl, rfl, rfl⟩
  rintro ρ31 _ ⟨qx, hqx, hq4, hnx, e32, e33, e34, e35, e36, rfl⟩
  obtain ⟨ρ37, rfl⟩ := Zc (uc e32 (uc e33 (uc e34 (uc e35 (uc e36 un)))))
  clear e32 e33 e34 e35 e36
  refine Zd <| Zb <| JLq (.pointer (some ⟨b1, 34, none⟩)) (Yw rfl rfl) <| JLr (Zf YG rfl (At.bx 2 rfl) (pkN_34 ..) <| JLa nv <| Za <| Zd <| Zd <| Zb <| JLq (.pointer (some ⟨b1, 35, none⟩)) (Xk rfl rfl) <| JLr (Zf ty29 rfl (At.bx 2 rfl) (pkN_35 ..) ?_))
  obtain ⟨a38, cap38, hv38⟩ := hks.sl
  have hle38 := hks.le
  refine JLq (.int .i64 ((kids.length : Int))) (Pu.lenSl Tryz.runUnderlying29 hv38) <| JLm (.int .i64 0) <| Za <| Zs <| ZU (fun k ρ M => ∃ (j : Nat) (nj : List ByteArray) (nw : Value) (ts : List Tm) (w : Value) (es : List (List Value)) (k1 k2 : Zk), ρ 1 = v ∧ ρ 2 = .pointer (some ⟨b1, 0, none⟩) ∧ ρ 4 = .pointer (some ⟨b2, 0, none⟩) ∧ ρ 5 = .int .i64 0 ∧ ρ 7 = .pointer (some ⟨b27, 0, none⟩) ∧ ρ 8 = nw ∧ ρ 68 = ks ∧ ρ 69 = .int .i64 ((kids.length : Int)) ∧ ρ 70 = .int .i64 ((j : Int)) ∧ Sub [[(b27, .cells ⟨pkT kind qx ref w (.slice none 0 0)⟩ 27 (0, 0))], k1, k2, [(b2, .cells ⟨pkT 0 0 zS (.slice none 0 0) (.slice none 0 0)⟩ 27 (0, 0))], [(b1, .cells ⟨pkN kind num ref nv ks cv⟩ 32 (0, 0))]] M ∧ j ≤ kids.length ∧ strR H nw nj ∧ Own 27 36 w es k1 ∧ OTs ts es k2 ∧ nlKs kind s ns 0 kids = (ts ++ (nlKs kind s nj j (kids.drop j)).1, (nlKs kind s nj j (kids.drop j)).2) ∧ ts.length = j ∧ k = kids.length - j) _ ⟨0, ns, nv, [], (.slice none 0 0), [], [], [], rfl, rfl, rfl, rfl, rfl, rfl, rfl, rfl, rfl, (Sk (Sub.emp (Sub.emp (Sk (Sk Sub.nil))))), Nat.zero_le _, hns, Own.nil, OTs.nil, rfl, rfl, rfl⟩ ?_
  rintro _ ρ39 _ ⟨j, nj, nw, ts, w, es, k1, k2, e40, e41, e42, e43, e44, e45, e46, e47, e48, hm49, hj, hnj, ho1, hop, hinv, hlt, rfl⟩
  obtain ⟨ρ50, rfl⟩ := Zc (uc e40 (uc e41 (uc e42 (uc e43 (uc e44 (uc e45 (uc e46 (uc e47 (uc e48 un)))))))))
  clear e40 e41 e42 e43 e44 e45 e46 e47 e48
  refine Z1 hm49 <| Zd <| Zb <| JLq (.bool (decide ((j : Int) < (kids.length : Int)))) (Pu.lss rfl rfl) <| Za <| Zd <| Zi (b := decide ((j : Int) < (kids.length : Int))) rfl (fun h51 => ?_) (fun h51 => ?_)
  ·replace h51 := dt h51
   have h51n : j < kids.length := by omega
   have hz1 := sk_mem _ _ (List.getElem_mem h51n)
   have hm1 := YR kind j
   have hel := OTs_len hop
   refine Zp <| Zd <| Zs <| Zd <| Zb <| JLm (.int .i64 ((j : Int))) ?_
   obtain ⟨b52, o52, cap52, row52, T52, fr52, cs52, hv52, hb52, hs52, hE52⟩ := hks.get j (by first | assumption | omega | decide | simp)
   refine JLq (.pointer (some ⟨b52, o52 + j * 37, none⟩)) (Pu.idx j Tryz.runUnderlying29 Z6 hv52 rfl rfl (by first | assumption | omega | decide | simp)) <| JLr (Zh Z6 rfl (At.im hb52) hs52 <| JLr (Zj (l := pkN 0 0 zS (.slice none 0 0) (.slice none 0 0) (.slice none 0 0)) Tryz.zeroValue32 rfl fun b53 => JLa (.int .i64 ((j : Int))) <| JLr (Ze 0 (vs := cs52) (l := cs52) Z6 rfl rfl rfl rfl (YQ hE52) (RN_ok hE52) (ZL (n := 37) rfl (YQ hE52)) <| Za <| Zd <| Zb <| JLm v <| JLa v <| Za <| Zd <| Zd ?_)))
   refine Zb <| JLq (.pointer (some ⟨b1, 0, none⟩)) (fa32_0 rfl rfl) <| JLr (Zf ty3 rfl (At.bx 5 rfl) (pkN_0 ..) <| JLm (.int .i64 ((j : Int))) <| Zg rfl Tryz.call111 rfl (fun hin => more_ct _ _ _) rfl ?_)
   rintro _ _ ⟨rfl, rfl⟩
   refine JLa (.int .i64 (more kind ((j : Int)))) <| Za <| Yo (fun ρ M => ρ 1 = v ∧ ρ 2 = .pointer (some ⟨b1, 0, none⟩) ∧ ρ 4 = .pointer (some ⟨b2, 0, none⟩) ∧ ρ 5 = .int .i64 0 ∧ ρ 7 = .pointer (some ⟨b27, 0, none⟩) ∧ ρ 8 = nw ∧ ρ 10 = .pointer (some ⟨b53, 0, none⟩) ∧ ρ 11 = v ∧ ρ 12 = .int .i64 (more kind ((j : Int))) ∧ ρ 68 = ks ∧ ρ 69 = .int .i64 ((kids.length : Int)) ∧ ρ 70 = .int .i64 ((j : Int)) ∧ ρ 87 = .bool ((decide (0 < more kind ((j : Int)))) && (decide (more kind ((j : Int)) ≤ (nj.length : Int)))) ∧ M = [[(b53, .cells ⟨cs52⟩ 32 (0, 0))], [(b27, .cells ⟨pkT kind qx ref w (.slice none 0 0)⟩ 27 (0, 0))], k1, k2, [(b2, .cells ⟨pkT 0 0 zS (.slice none 0 0) (.slice none 0 0)⟩ 27 (0, 0))], [(b1, .cells ⟨pkN kind num ref nv ks cv⟩ 32 (0, 0))]]) ?_ ?_
   ·refine Zb <| JLm (.int .i64 (more kind ((j : Int)))) <| JLq (.bool (decide (0 < more kind ((j : Int))))) (Pu.gtr rfl rfl) <| JLm (.bool (decide (0 < more kind ((j : Int))))) ?_
    cases h54 : (decide (0 < more kind ((j : Int)))) with
    | true =>
     replace h54 := dt h54
     refine JLm (.int .i64 (more kind ((j : Int)))) <| JLm nw ?_
     obtain ⟨a55, cap55, hv55⟩ := hnj.rd.sl
     have hle55 := hnj.rd.le
     refine JLq (.int .i64 ((nj.length : Int))) (Pu.lenSl Tryz.runUnderlying28 hv55) <| JLq (.bool (decide (more kind ((j : Int)) ≤ (nj.length : Int)))) (Pu.leq rfl rfl) <| JLq (.bool (decide (more kind ((j : Int)) ≤ (nj.length : Int)))) (Pu.pickT rfl rfl) <| Za ?_
     first | exact ⟨rfl, rfl, rfl, rfl, rfl, rfl, rfl, rfl, rfl, rfl, rfl, rfl, rfl, rfl⟩ | (exfalso; omega)
    | false =>
     replace h54 := df h54
     iterate 4 refine Zy rfl ?_
     refine JLq (.bool false) (Pu.pickF rfl rfl) <| Za ?_
     first | exact ⟨rfl, rfl, rfl, rfl, rfl, rfl, rfl, rfl, rfl, rfl, rfl, rfl, rfl, rfl⟩ | (exfalso; omega)
   rintro ρ56 _ ⟨e57, e58, e59, e60, e61, e62, e63, e64, e65, e66, e67, e68, e69, rfl⟩
   obtain ⟨ρ70, rfl⟩ := Zc (uc e57 (uc e58 (uc e59 (uc e60 (uc e61 (uc e62 (uc e63 (uc e64 (uc e65 (uc e66 (uc e67 (uc e68 (uc e69 un)))))))))))))
   clear e57 e58 e59 e60 e61 e62 e63 e64 e65 e66 e67 e68 e69
   refine Zi (b := (decide (0 < more kind ((j : Int)))) && (decide (more kind ((j : Int)) ≤ (nj.length : Int)))) rfl (fun h71 => ?_) (fun h71 => ?_)
   ·obtain ⟨h71a, h71b⟩ := andT h71
    replace h71a := dt h71a
    replace h71b := dt h71b
    refine Ya mixed #[0, 0, 0, 6, 15, 0, 0, 96, 31, 511] 9 9 6 rfl (by kernel_rfl) (fun i r72 N72 => match i with | 0 => (r72 0) = v | 1 => (r72 1) = nw | 2 => (r72 2) = .int .i64 (more kind ((j : Int))) | 3 => ∀ h, strR h nw nj → strR h (r72 3) (nj.take ((more kind (j : Int)).toNat)) | 4 => Own 9 1 (r72 4) (ZP (ZF s (nj.take ((more kind (j : Int)).toNat)))) (N72 4) | 5 => (r72 5) = nw | 6 => (r72 6) = .int .i64 (more kind ((j : Int))) | 7 => ∀ h, strR h nw nj → strR h (r72 7) (nj.drop ((more kind (j : Int)).toNat)) | 8 => (r72 8) = (r72 4) | _ => True) ⟨?_, ?_, ?_, ?_, ?_, ?_, ?_, ?_, ?_, trivial⟩ ?_
    ·intro ρ r72 N72 B hB hBa hp hr hr0
     obtain ⟨ρ73, rfl⟩ := Zc (uc (show ρ 1 = v from hr0 1 (by kernel_rfl)) un)
     refine JLm v <| Za ?_
     exact ⟨v, [], rfl, (Sub.emp Sub.refl), rfl⟩
    ·intro ρ r72 N72 B hB hBa hp hr hr0
     obtain ⟨ρ74, rfl⟩ := Zc (uc (show ρ 8 = nw from hr0 8 (by kernel_rfl)) un)
     refine JLm nw <| Za ?_
     exact ⟨nw, [], rfl, (Sub.emp Sub.refl), rfl⟩
    ·intro ρ r72 N72 B hB hBa hp hr hr0
     obtain ⟨ρ75, rfl⟩ := Zc (uc (show ρ 12 = .int .i64 (more kind ((j : Int))) from hr0 12 (by kernel_rfl)) un)
     refine JLm (.int .i64 (more kind ((j : Int)))) <| Za ?_
     exact ⟨.int .i64 (more kind ((j : Int))), [], rfl, (Sub.emp Sub.refl), rfl⟩
    ·intro ρ r72 N72 B hB hBa hp hr hr0
     obtain ⟨ρ76, rfl⟩ := Zc (uc (show ρ 89 = nw from (hr 1 _ _ (by decide) rfl rfl rfl).trans (hp 1 (by decide) rfl)) (uc (show ρ 90 = .int .i64 (more kind ((j : Int))) from (hr 2 _ _ (by decide) rfl rfl rfl).trans (hp 2 (by decide) rfl)) un))
     refine JLr (Runs_takeS (n := (more kind (j : Int)).toNat) hnj (by first | rfl | omega) (by omega) Tryz.runUnderlying28 Tryz.sizeOf9 rfl rfl fun u77 hu77 => ?_)
     have hr77 := hu77 _ hnj
     refine Za ?_
     exact ⟨u77, [], rfl, (Sub.emp Sub.refl), hu77⟩
    ·intro ρ r72 N72 B hB hBa hp hr hr0
     have p3 : ∀ h, strR h nw nj → strR h (r72 3) (nj.take ((more kind (j : Int)).toNat)) := hp 3 (by decide) rfl
     obtain ⟨ρ78, rfl⟩ := Zc (uc (show ρ 88 = v from (hr 0 _ _ (by decide) rfl rfl rfl).trans (hp 0 (by decide) rfl)) (uc (show ρ 91 = (r72 3) from (hr 3 _ _ (by decide) rfl rfl rfl)) un))
     refine Zg rfl Tryz.call121 rfl (fun hin => with_ct _ _ _ _ _ (RSs.mono (Hle.hu _ _) hs) (RSs.mono (Hle.hu _ _) (p3 _ hnj).rd) (by first | (rw [List.length_take]; omega) | (rw [fit_mem hq2 (List.getElem_mem ‹_›)]; omega) | omega)) rfl ?_
     rintro u79 _ ⟨_, k79, hu79, rfl, ho79⟩; subst hu79
     replace ho79 : Own 9 1 u79 (ZP (ZF s (nj.take ((more kind (j : Int)).toNat)))) k79 := ho79
     refine Za ?_
     exact ⟨u79, k79, rfl, Sub.refl, ho79⟩
    ·intro ρ r72 N72 B hB hBa hp hr hr0
     obtain ⟨ρ80, rfl⟩ := Zc (uc (show ρ 8 = nw from hr0 8 (by kernel_rfl)) un)
     refine JLm nw <| Za ?_
     exact ⟨nw, [], rfl, (Sub.emp Sub.refl), rfl⟩
    ·intro ρ r72 N72 B hB hBa hp hr hr0
     obtain ⟨ρ81, rfl⟩ := Zc (uc (show ρ 12 = .int .i64 (more kind ((j : Int))) from hr0 12 (by kernel_rfl)) un)
     refine JLm (.int .i64 (more kind ((j : Int)))) <| Za ?_
     exact ⟨.int .i64 (more kind ((j : Int))), [], rfl, (Sub.emp Sub.refl), rfl⟩
    ·intro ρ r72 N72 B hB hBa hp hr hr0
     obtain ⟨ρ82, rfl⟩ := Zc (uc (show ρ 93 = nw from (hr 5 _ _ (by decide) rfl rfl rfl).trans (hp 5 (by decide) rfl)) (uc (show ρ 94 = .int .i64 (more kind ((j : Int))) from (hr 6 _ _ (by decide) rfl rfl rfl).trans (hp 6 (by decide) rfl)) un))
     refine JLr (Runs_dropS (n := (more kind (j : Int)).toNat) hnj (by first | rfl | omega) (by omega) Tryz.runUnderlying28 Tryz.sizeOf9 rfl rfl fun u83 hu83 => ?_)
     have hr83 := hu83 _ hnj
     refine Za ?_
     exact ⟨u83, [], rfl, (Sub.emp Sub.refl), hu83⟩
    ·intro ρ r72 N72 B hB hBa hp hr hr0
     obtain ⟨ρ84, rfl⟩ := Zc (uc (show ρ 92 = (r72 4) from (hr 4 _ _ (by decide) rfl rfl rfl)) un)
     refine JLa ((r72 4)) <| Za ?_
     exact ⟨(r72 4), [], rfl, (Sub.emp Sub.refl), rfl⟩
    intro ρ r72 N72 hp hr hr0
    have p3 : ∀ h, strR h nw nj → strR h (r72 3) (nj.take ((more kind (j : Int)).toNat)) := hp 3 (by decide)
    have p4 : Own 9 1 (r72 4) (ZP (ZF s (nj.take ((more kind (j : Int)).toNat)))) (N72 4) := hp 4 (by decide)
    have p7 : ∀ h, strR h nw nj → strR h (r72 7) (nj.drop ((more kind (j : Int)).toNat)) := hp 7 (by decide)
    obtain ⟨ρ85, rfl⟩ := Zc (uc (show ρ 1 = v from hr0 1 (by kernel_rfl)) (uc (show ρ 2 = .pointer (some ⟨b1, 0, none⟩) from hr0 2 (by kernel_rfl)) (uc (show ρ 4 = .pointer (some ⟨b2, 0, none⟩) from hr0 4 (by kernel_rfl)) (uc (show ρ 5 = .int .i64 0 from hr0 5 (by kernel_rfl)) (uc (show ρ 7 = .pointer (some ⟨b27, 0, none⟩) from hr0 7 (by kernel_rfl)) (uc (show ρ 8 = nw from hr0 8 (by kernel_rfl)) (uc (show ρ 10 = .pointer (some ⟨b53, 0, none⟩) from hr0 10 (by kernel_rfl)) (uc (show ρ 11 = (r72 4) from (hr 8 _ _ (by decide) rfl rfl).trans (hp 8 (by decide))) (uc (show ρ 68 = ks from hr0 68 (by kernel_rfl)) (uc (show ρ 69 = .int .i64 ((kids.length : Int)) from hr0 69 (by kernel_rfl)) (uc (show ρ 70 = .int .i64 ((j : Int)) from hr0 70 (by kernel_rfl)) (uc (show ρ 95 = (r72 7) from (hr 7 _ _ (by decide) rfl rfl)) un))))))))))))
    have p72_3 := p3; have p72_4 := p4; have p72_7 := p7
    clear hp hr hr0 p3 p4 p7
    refine Zq (M' := [(N72 0), (N72 1), (N72 2), (N72 3), (N72 4), (N72 5), (N72 6), (N72 7), (N72 8), [(b53, .cells ⟨cs52⟩ 32 (0, 0))], [(b27, .cells ⟨pkT kind qx ref w (.slice none 0 0)⟩ 27 (0, 0))], k1, k2, [(b2, .cells ⟨pkT 0 0 zS (.slice none 0 0) (.slice none 0 0)⟩ 27 (0, 0))], [(b1, .cells ⟨pkN kind num ref nv ks cv⟩ 32 (0, 0))]]) Sub.refl <| Zq (M' := [(N72 4), [(b53, .cells ⟨cs52⟩ 32 (0, 0))], [(b27, .cells ⟨pkT kind qx ref w (.slice none 0 0)⟩ 27 (0, 0))], k1, k2, [(b2, .cells ⟨pkT 0 0 zS (.slice none 0 0) (.slice none 0 0)⟩ 27 (0, 0))], [(b1, .cells ⟨pkN kind num ref nv ks cv⟩ 32 (0, 0))]]) (Sd (Sd (Sd (Sd (Sk (Sd (Sd (Sd (Sd (Sk (Sk (Sk (Sk (Sk (Sk Sub.nil))))))))))))))) ?_
    show JL _ _ _ [_] _ _ _
    refine JLa ((r72 7)) <| Za <| Zd <| Zb <| JLr (Zh Z6 rfl (At.bx 1 rfl) (Zx (YQ hE52)) <| JLm ((r72 4)) <| Zg rfl Tryz.call67 rfl (fun hin => ih _ (List.getElem_mem h51n) _ _ _ _ (RN.mono (Hle.hu _ _) hE52) (Yj p72_4 (by first | omega | (simp only [Yh, List.length_take, List.length_append]; omega)) (hin 0 _ rfl)) (by rw [Yh, List.length_take]; omega)) rfl ?_)
    rintro _ _ ⟨cs86, k86, rfl, rfl, hO86⟩
    refine JLm (.tuple ⟨[.agg ⟨cs86⟩, .int .i64 ((nlT (kids[j]) (ZF s (nj.take ((more kind (j : Int)).toNat)))).2)]⟩) <| JLq (.agg ⟨cs86⟩) (Pu.extract rfl rfl) <| JLq (.int .i64 ((nlT (kids[j]) (ZF s (nj.take ((more kind (j : Int)).toNat)))).2)) (Pu.extract rfl rfl) <| JLr (Zj (l := pkT 0 0 zS (.slice none 0 0) (.slice none 0 0)) Tryz.zeroValue27 rfl fun b87 => JLr (Ze 0 (vs := cs86) (l := cs86) Zu rfl rfl rfl rfl hO86.len hO86.ok (ZL (n := 36) rfl hO86.len) <| JLa (.int .i64 ((nlT (kids[j]) (ZF s (nj.take ((more kind (j : Int)).toNat)))).2)) <| Za <| Zd <| Zd <| Zb <| JLm (.int .i64 ((nlT (kids[j]) (ZF s (nj.take ((more kind (j : Int)).toNat)))).2)) <| JLq (.bool (!decide ((nlT (kids[j]) (ZF s (nj.take ((more kind (j : Int)).toNat)))).2 = 0))) (Pu.neq rfl rfl) <| Za ?_))
    refine Zi (b := !decide ((nlT (kids[j]) (ZF s (nj.take ((more kind (j : Int)).toNat)))).2 = 0)) rfl (fun h88 => ?_) (fun h88 => ?_)
    ·replace h88 := nt h88
     replace h88 := df h88
     refine Zd <| Zb <| JLq (.agg ⟨pkT 0 0 zS (.slice none 0 0) (.slice none 0 0)⟩) (Pu.build (pv := []) (l := pkT 0 0 zS (.slice none 0 0) (.slice none 0 0)) rfl (YW )) <| JLm (.int .i64 ((nlT (kids[j]) (ZF s (nj.take ((more kind (j : Int)).toNat)))).2)) <| JLr (Ze 7 (vs := pkT 0 0 zS (.slice none 0 0) (.slice none 0 0)) (l := pkT 0 0 zS (.slice none 0 0) (.slice none 0 0)) Zu rfl rfl rfl rfl rfl (ZI rfl rfl) (Z0 ..) <| JLa (.int .i64 ((nlT (kids[j]) (ZF s (nj.take ((more kind (j : Int)).toNat)))).2)) <| Za <| Zl <| ⟨.tuple ⟨[.agg ⟨pkT 0 0 zS (.slice none 0 0) (.slice none 0 0)⟩, .int .i64 ((nlT (kids[j]) (ZF s (nj.take ((more kind (j : Int)).toNat)))).2)]⟩, [[]], Ret.two rfl (RV.cell Zu rfl (At.bx 7 rfl) (ZZ ..)) (RV.tmp rfl), (Sub.emp Sub.nil), ?_⟩)
     have hio := in_pos (k := kind) (s := s) (ns := nj) (i := j) (by omega) (by omega)
     rw [nlKs_cons h51n, hio.1, hio.2, if_pos (by assumption)] at hinv
     have hx := nl_eK (r := ref) hq1 hq2 hq3 hq4 (by rw [hinv]; assumption)
     rw [hinv] at hx
     exact ⟨_, _, by rw [hx], rfl, by rw [hx]; exact Yy⟩
    replace h88 := nf h88
    replace h88 := dt h88
    refine Zp <| Zb <| JLq (.pointer (some ⟨b27, 34, none⟩)) (Yq rfl rfl) <| JLr (Zf ty24 rfl (At.bx 4 rfl) (Yu ..) <| JLr (Zh Zu rfl (At.bx 0 rfl) (Zx hO86.len) <| JLr (Zr (vs := [.agg ⟨cs86⟩]) [cs86] Tryz.runUnderlying24 el27 rfl rfl (by intro e he; simp only [List.mem_cons, List.not_mem_nil, or_false] at he; subst he; exact hO86.len) rfl (by decide) fun b89 k89 ho89 hk89 => ?_)))
    have hlens90 : ∀ e ∈ ([cs86] : List (List Value)), List.length e = 36 := by
     intro e he; simp only [List.mem_cons, List.not_mem_nil, or_false] at he
     rcases he with rfl
     ·exact hO86.len
    have hoks90 : ∀ e ∈ ([cs86] : List (List Value)), okc e := by
     intro e he; simp only [List.mem_cons, List.not_mem_nil, or_false] at he
     rcases he with rfl
     ·exact hO86.ok
    refine JLr (ZH (i := 6) (n := 1) (es' := [cs86]) Tryz.runUnderlying24 Tryz.runUnderlying24 (Or.inl rfl) el27 rfl rfl rfl ho1 (fun F w m => Src.row (((At.k 0 rfl (by rw [hk89]; exact List.mem_cons_self))).heap m) (Zx (ZG hlens90))) rfl hlens90 hoks90 (by decide) (by omega) fun v90 k90 ho90 => JLq (.pointer (some ⟨b27, 34, none⟩)) (Yq rfl rfl) <| JLr (Ze 5 (vs := [v90]) (l := pkT kind qx ref v90 (.slice none 0 0)) ty24 rfl rfl rfl (ZO ho90.one) rfl (Zm ho90.one Zv) (pkT_s34 ..) <| Za <| Zb <| JLq (.int .i64 (((j + 1 : Nat) : Int))) (Pu.inc rfl rfl (by omega)) <| JLm (.int .i64 (((j + 1 : Nat) : Int))) <| Za <| ⟨_, ?_, (j + 1), (nj.drop ((more kind (j : Int)).toNat)), ((r72 7)), (ts ++ [(nlT (kids[j]) (ZF s (nj.take ((more kind (j : Int)).toNat)))).1]), v90, (es ++ [cs86]), k90, (k2 ++ k86), rfl, rfl, rfl, rfl, rfl, rfl, rfl, rfl, rfl, (Sd (Sd (Sub.cons 3 rfl (Sub.cons 3 rfl (Sub.join (Sub.cons 3 rfl (Sk (Sd (Sd (Sk (Sk Sub.nil))))))))))), ?_, ?_, ?_, ?_, ?_, ?_, rfl⟩))
    ·omega
    ·omega
    ·exact (p72_7 _ hnj)
    ·exact ho90
    ·exact OTs.snoc hO86 hop
    ·have hio := in_pos (k := kind) (s := s) (ns := nj) (i := j) (by omega) (by omega); rw [nlKs_cons h51n, hio.1, hio.2, if_neg (fun q => q (by assumption))] at hinv; rw [hinv]; simp
    simp [hlt]
   refine Zp <| Zd ?_
   have hng : ¬ (0 < more kind (j : Int) ∧ (more kind (j : Int)).toNat ≤ nj.length) := by rintro ⟨q1, q2⟩; have q3 : (more kind (j : Int)) ≤ (nj.length : Int) := (by omega); have q4 := h71; simp [q1, q3] at q4
   refine Zb <| JLr (Zh Z6 rfl (At.bx 0 rfl) (Zx (YQ hE52)) <| JLm v <| Zg rfl Tryz.call67 rfl (fun hin => ih _ (List.getElem_mem h51n) _ _ _ _ (RN.mono (Hle.hu _ _) hE52) (RSs.mono (Hle.hu _ _) hs) (by omega)) rfl ?_)
   rintro _ _ ⟨cs91, k91, rfl, rfl, hO91⟩
   refine JLm (.tuple ⟨[.agg ⟨cs91⟩, .int .i64 ((nlT (kids[j]) s).2)]⟩) <| JLq (.agg ⟨cs91⟩) (Pu.extract rfl rfl) <| JLq (.int .i64 ((nlT (kids[j]) s).2)) (Pu.extract rfl rfl) <| JLr (Zj (l := pkT 0 0 zS (.slice none 0 0) (.slice none 0 0)) Tryz.zeroValue27 rfl fun b92 => JLr (Ze 0 (vs := cs91) (l := cs91) Zu rfl rfl rfl rfl hO91.len hO91.ok (ZL (n := 36) rfl hO91.len) <| JLa (.int .i64 ((nlT (kids[j]) s).2)) <| Za <| Zd <| Zd <| Zb <| JLm (.int .i64 ((nlT (kids[j]) s).2)) <| JLq (.bool (!decide ((nlT (kids[j]) s).2 = 0))) (Pu.neq rfl rfl) <| Za ?_))
   refine Zi (b := !decide ((nlT (kids[j]) s).2 = 0)) rfl (fun h93 => ?_) (fun h93 => ?_)
   ·replace h93 := nt h93
    replace h93 := df h93
    refine Zd <| Zb <| JLq (.agg ⟨pkT 0 0 zS (.slice none 0 0) (.slice none 0 0)⟩) (Pu.build (pv := []) (l := pkT 0 0 zS (.slice none 0 0) (.slice none 0 0)) rfl (YW )) <| JLm (.int .i64 ((nlT (kids[j]) s).2)) <| JLr (Ze 6 (vs := pkT 0 0 zS (.slice none 0 0) (.slice none 0 0)) (l := pkT 0 0 zS (.slice none 0 0) (.slice none 0 0)) Zu rfl rfl rfl rfl rfl (ZI rfl rfl) (Z0 ..) <| JLa (.int .i64 ((nlT (kids[j]) s).2)) <| Za <| Zl <| ⟨.tuple ⟨[.agg ⟨pkT 0 0 zS (.slice none 0 0) (.slice none 0 0)⟩, .int .i64 ((nlT (kids[j]) s).2)]⟩, [[]], Ret.two rfl (RV.cell Zu rfl (At.bx 6 rfl) (ZZ ..)) (RV.tmp rfl), (Sub.emp Sub.nil), ?_⟩)
    have hio := in_neg (k := kind) (s := s) (ns := nj) (i := j) hng
    rw [nlKs_cons h51n, hio.1, hio.2, if_pos (by assumption)] at hinv
    have hx := nl_eK (r := ref) hq1 hq2 hq3 hq4 (by rw [hinv]; assumption)
    rw [hinv] at hx
    exact ⟨_, _, by rw [hx], rfl, by rw [hx]; exact Yy⟩
   replace h93 := nf h93
   replace h93 := dt h93
   refine Zp <| Zb <| JLq (.pointer (some ⟨b27, 34, none⟩)) (Yq rfl rfl) <| JLr (Zf ty24 rfl (At.bx 3 rfl) (Yu ..) <| JLr (Zh Zu rfl (At.bx 0 rfl) (Zx hO91.len) <| JLr (Zr (vs := [.agg ⟨cs91⟩]) [cs91] Tryz.runUnderlying24 el27 rfl rfl (by intro e he; simp only [List.mem_cons, List.not_mem_nil, or_false] at he; subst he; exact hO91.len) rfl (by decide) fun b94 k94 ho94 hk94 => ?_)))
   have hlens95 : ∀ e ∈ ([cs91] : List (List Value)), List.length e = 36 := by
    intro e he; simp only [List.mem_cons, List.not_mem_nil, or_false] at he
    rcases he with rfl
    ·exact hO91.len
   have hoks95 : ∀ e ∈ ([cs91] : List (List Value)), okc e := by
    intro e he; simp only [List.mem_cons, List.not_mem_nil, or_false] at he
    rcases he with rfl
    ·exact hO91.ok
   refine JLr (ZH (i := 5) (n := 1) (es' := [cs91]) Tryz.runUnderlying24 Tryz.runUnderlying24 (Or.inl rfl) el27 rfl rfl rfl ho1 (fun F w m => Src.row (((At.k 0 rfl (by rw [hk94]; exact List.mem_cons_self))).heap m) (Zx (ZG hlens95))) rfl hlens95 hoks95 (by decide) (by omega) fun v95 k95 ho95 => JLq (.pointer (some ⟨b27, 34, none⟩)) (Yq rfl rfl) <| JLr (Ze 4 (vs := [v95]) (l := pkT kind qx ref v95 (.slice none 0 0)) ty24 rfl rfl rfl (ZO ho95.one) rfl (Zm ho95.one Zv) (pkT_s34 ..) <| Za <| Zb <| JLq (.int .i64 (((j + 1 : Nat) : Int))) (Pu.inc rfl rfl (by omega)) <| JLm (.int .i64 (((j + 1 : Nat) : Int))) <| Za <| ⟨_, ?_, (j + 1), nj, nw, (ts ++ [(nlT (kids[j]) s).1]), v95, (es ++ [cs91]), k95, (k2 ++ k91), rfl, rfl, rfl, rfl, rfl, rfl, rfl, rfl, rfl, (Sd (Sd (Sub.cons 2 rfl (Sub.cons 2 rfl (Sub.join (Sub.cons 2 rfl (Sk (Sd (Sk (Sk Sub.nil)))))))))), ?_, ?_, ?_, ?_, ?_, ?_, rfl⟩))
   ·omega
   ·omega
   ·exact hnj
   ·exact ho95
   ·exact OTs.snoc hO91 hop
   ·have hio := in_neg (k := kind) (s := s) (ns := nj) (i := j) hng; rw [nlKs_cons h51n, hio.1, hio.2, if_neg (fun q => q (by assumption))] at hinv; rw [hinv]; simp
   simp [hlt]
  replace h51 := df h51
  have h51n : kids.length ≤ j := by omega
  refine ZM _ rfl <| Zd <| Zd <| Zb <| JLq (.pointer (some ⟨b1, 36, none⟩)) (fa32_5 rfl rfl) <| JLr (Zf ty30 rfl (At.bx 4 rfl) (pkN_36 ..) ?_)
  obtain ⟨a96, cap96, hv96⟩ := hcv.sl
  have hle96 := hcv.le
  refine JLq (.int .i64 ((cases.length : Int))) (Pu.lenSl Tryz.runUnderlying30 hv96) <| JLm (.int .i64 0) <| Za <| Zs ?_
  have hinvK : nlKs kind s ns 0 kids = (ts, 0) := by rw [hinv, Xl h51n, nlKs, List.append_nil]
  have htl : ts.length ≤ kids.length := by omega
  refine ZU (fun k ρ M => ∃ (j : Nat) (us : List (Pt × Tm)) (y : Value) (es2 : List (List Value)) (k3 k4 : Zk), ρ 1 = v ∧ ρ 4 = .pointer (some ⟨b2, 0, none⟩) ∧ ρ 5 = .int .i64 0 ∧ ρ 7 = .pointer (some ⟨b27, 0, none⟩) ∧ ρ 114 = cv ∧ ρ 115 = .int .i64 ((cases.length : Int)) ∧ ρ 116 = .int .i64 ((j : Int)) ∧ Sub [[(b27, .cells ⟨pkT kind qx ref w y⟩ 27 (0, 0))], k3, k4, k1, k2, [(b2, .cells ⟨pkT 0 0 zS (.slice none 0 0) (.slice none 0 0)⟩ 27 (0, 0))], [(b1, .cells ⟨pkN kind num ref nv ks cv⟩ 32 (0, 0))]] M ∧ j ≤ cases.length ∧ Own 80 71 y es2 k3 ∧ OCs us es2 k4 ∧ nlCs s cases = (us ++ (nlCs s (cases.drop j)).1, (nlCs s (cases.drop j)).2) ∧ us.length = j ∧ k = cases.length - j) _ ⟨0, [], (.slice none 0 0), [], [], [], rfl, rfl, rfl, rfl, rfl, rfl, rfl, (Sk (Sub.emp (Sub.emp (Sk (Sk (Sk (Sk Sub.nil))))))), Nat.zero_le _, Own.nil, OCs.nil, rfl, rfl, rfl⟩ ?_
  rintro _ ρ97 _ ⟨j, us, y, es2, k3, k4, e98, e99, e100, e101, e102, e103, e104, hm105, hj, ho3, hopw, hinv2, hul, rfl⟩
  obtain ⟨ρ106, rfl⟩ := Zc (uc e98 (uc e99 (uc e100 (uc e101 (uc e102 (uc e103 (uc e104 un)))))))
  clear e98 e99 e100 e101 e102 e103 e104
  refine Z1 hm105 <| Zd <| Zb <| JLq (.bool (decide ((j : Int) < (cases.length : Int)))) (Pu.lss rfl rfl) <| Za <| Zd <| Zi (b := decide ((j : Int) < (cases.length : Int))) rfl (fun h107 => ?_) (fun h107 => ?_)
  ·replace h107 := dt h107
   have h107n : j < cases.length := by omega
   have hz1 := skC_mem _ _ (List.getElem_mem h107n)
   have hm1 := YE (cases[j]).1
   have hel := OCs_len hopw
   have hfm := fit_mem hq2 (List.getElem_mem h107n)
   refine Zp <| Zd <| Zs <| Zd <| Zb ?_
   obtain ⟨b108, o108, cap108, row108, T108, fr108, cs108, hv108, hb108, hs108, hE108⟩ := hcv.get j (by first | assumption | omega | decide | simp)
   obtain ⟨ca108, va108, cb108, rfl, hA108, hV108, hB108⟩ := hE108
   refine JLq (.pointer (some ⟨b108, o108 + j * 73, none⟩)) (Pu.idx j Tryz.runUnderlying30 ty85 hv108 rfl rfl (by first | assumption | omega | decide | simp)) <| JLr (Zh ty85 rfl (At.im hb108) hs108 <| JLr (Zj (l := (pkP 0 0 zS (.slice none 0 0)) ++ (([.slice none 0 0]) ++ (pkN 0 0 zS (.slice none 0 0) (.slice none 0 0) (.slice none 0 0)))) Tryz.zeroValue85 rfl fun b109 => JLr (Ze 0 (vs := ca108 ++ (([va108]) ++ cb108)) (l := ca108 ++ (([va108]) ++ cb108)) ty85 rfl rfl rfl rfl (ZN (ZJ hA108) (ZN rfl (YQ hB108))) (Z3 (RP_ok hA108) (Z3 (Zm hV108.one Zv) (RN_ok hB108))) (ZL (n := 73) rfl (ZN (ZJ hA108) (ZN rfl (YQ hB108)))) <| Za <| Zd <| J_drawC mixed #[0, 1, 0, 0, 8, 28, 63, 127, 255, 255, 0, 1535, 4095] 12 11 10 rfl (by kernel_rfl) rfl rfl (by kernel_rfl) (by kernel_rfl) (fun i r110 N110 => match i with | 0 => (r110 0) = .pointer (some ⟨b109, 36, none⟩) | 1 => (r110 1) = .agg ⟨cb108⟩ | 2 => (r110 2) = v | 3 => (r110 3) = .pointer (some ⟨b109, 35, none⟩) | 4 => (r110 4) = va108 | 5 => Own 9 1 (r110 5) (ZP (ZF s (cases[j].2.1))) (N110 5) | 6 => (r110 6) = .tuple ⟨[.agg ⟨(Zz (r110 6))⟩, .int .i64 (nlT (cases[j].2.2) (ZF s (cases[j].2.1))).2]⟩ ∧ OT (nlT (cases[j].2.2) (ZF s (cases[j].2.1))).1 (Zz (r110 6)) (N110 6) | 7 => (r110 7) = .tuple ⟨[.agg ⟨(Zz (r110 6))⟩, .int .i64 ((nlT (cases[j].2.2) (ZF s (cases[j].2.1))).2)]⟩ | 8 => (r110 8) = .agg ⟨(Zz (r110 6))⟩ | 9 => (r110 9) = .int .i64 ((nlT (cases[j].2.2) (ZF s (cases[j].2.1))).2) | 10 => (r110 10) = .pointer (some ⟨(ZA (r110 10)), 0, none⟩) ∧ ∃ X : List Value, X.length = 36 ∧ (N110 10) = [((ZA (r110 10)), .cells ⟨X⟩ 27 (0, 0))] | 11 => (N110 10) = [((ZA (r110 10)), .cells ⟨(Zz (r110 6))⟩ 27 (0, 0))] | _ => True) ⟨?_, ?_, ?_, ?_, ?_, ?_, ?_, ?_, ?_, ?_, ?_, ?_, trivial⟩ ?_)))
   ·intro ρ r110 N110 hp hr hr0
    obtain ⟨ρ111, rfl⟩ := Zc (uc (show ρ 16 = .pointer (some ⟨b109, 0, none⟩) from hr0 16 (by kernel_rfl)) un)
    refine JLq (.pointer (some ⟨b109, 36, none⟩)) (fa85_2 rfl rfl) <| Za ?_
    exact ⟨.pointer (some ⟨b109, 36, none⟩), [], rfl, (Sub.emp Sub.refl), rfl, fun h => absurd h (by decide)⟩
   ·intro ρ r110 N110 hp hr hr0
    obtain ⟨ρ112, rfl⟩ := Zc (uc (show ρ 121 = .pointer (some ⟨b109, 36, none⟩) from (hr 0 _ _ (by decide) rfl rfl rfl).trans (hp 0 (by decide) rfl)) un)
    refine JLr (Zh Z6 rfl (At.bx 12 (Zn (j := 0) rfl)) (sub_app_r (n := 35) (i := 1) (ZJ hA108) (sub_r rfl (YQ hB108))) <| Za ?_)
    exact ⟨.agg ⟨cb108⟩, [], rfl, (Sub.emp Sub.refl), rfl, fun h => absurd h (by decide)⟩
   ·intro ρ r110 N110 hp hr hr0
    obtain ⟨ρ113, rfl⟩ := Zc (uc (show ρ 1 = v from hr0 1 (by kernel_rfl)) un)
    refine JLm v <| Za ?_
    exact ⟨v, [], rfl, (Sub.emp Sub.refl), rfl, fun h => absurd h (by decide)⟩
   ·intro ρ r110 N110 hp hr hr0
    obtain ⟨ρ114, rfl⟩ := Zc (uc (show ρ 16 = .pointer (some ⟨b109, 0, none⟩) from hr0 16 (by kernel_rfl)) un)
    refine JLq (.pointer (some ⟨b109, 35, none⟩)) (fa85_1 rfl rfl) <| Za ?_
    exact ⟨.pointer (some ⟨b109, 35, none⟩), [], rfl, (Sub.emp Sub.refl), rfl, fun h => absurd h (by decide)⟩
   ·intro ρ r110 N110 hp hr hr0
    obtain ⟨ρ115, rfl⟩ := Zc (uc (show ρ 124 = .pointer (some ⟨b109, 35, none⟩) from (hr 3 _ _ (by decide) rfl rfl rfl).trans (hp 3 (by decide) rfl)) un)
    refine JLr (Zf YG rfl (At.bx 12 (Zn (j := 0) rfl)) (get_r (n := 35) (i := 0) (ZJ hA108) rfl) <| Za ?_)
    exact ⟨va108, [], rfl, (Sub.emp Sub.refl), rfl, fun h => absurd h (by decide)⟩
   ·intro ρ r110 N110 hp hr hr0
    obtain ⟨ρ116, rfl⟩ := Zc (uc (show ρ 123 = v from (hr 2 _ _ (by decide) rfl rfl rfl).trans (hp 2 (by decide) rfl)) (uc (show ρ 125 = va108 from (hr 4 _ _ (by decide) rfl rfl rfl).trans (hp 4 (by decide) rfl)) un))
    refine Zg rfl Tryz.call121 rfl (fun hin => with_ct _ _ _ _ _ (RSs.mono (Hle.hu _ _) hs) (RSs.mono (Hle.hu _ _) hV108) (by first | (rw [List.length_take]; omega) | (rw [fit_mem hq2 (List.getElem_mem ‹_›)]; omega) | omega)) rfl ?_
    rintro u117 _ ⟨_, k117, hu117, rfl, ho117⟩; subst hu117
    replace ho117 : Own 9 1 u117 (ZP (ZF s (cases[j].2.1))) k117 := ho117
    refine Za ?_
    exact ⟨u117, k117, rfl, Sub.refl, ho117, fun h => absurd h (by decide)⟩
   ·intro ρ r110 N110 hp hr hr0
    have p5 : Own 9 1 (r110 5) (ZP (ZF s (cases[j].2.1))) (N110 5) := hp 5 (by decide) rfl
    obtain ⟨ρ118, rfl⟩ := Zc (uc (show ρ 122 = .agg ⟨cb108⟩ from (hr 1 _ _ (by decide) rfl rfl rfl).trans (hp 1 (by decide) rfl)) (uc (show ρ 126 = (r110 5) from (hr 5 _ _ (by decide) rfl rfl rfl)) un))
    refine Zg rfl Tryz.call67 rfl (fun hin => ih' _ (List.getElem_mem h107n) _ _ _ _ (RN.mono (Hle.hu _ _) hB108) (Yj p5 (by first | omega | (simp only [Yh, List.length_take, List.length_append]; omega)) (hin 5 _ (ZQ rfl rfl))) (by rw [Yh, fit_mem hq2 (List.getElem_mem h107n)]; omega)) rfl ?_
    rintro _ _ ⟨cs119, k119, rfl, rfl, hO119⟩
    refine Za ?_
    exact ⟨.tuple ⟨[.agg ⟨cs119⟩, .int .i64 ((nlT (cases[j].2.2) (ZF s (cases[j].2.1))).2)]⟩, k119, rfl, Sub.refl, ⟨rfl, hO119⟩, fun h => absurd h (by decide)⟩
   ·intro ρ r110 N110 hp hr hr0
    obtain ⟨ρ120, rfl⟩ := Zc (uc (show ρ 127 = .tuple ⟨[.agg ⟨(Zz (r110 6))⟩, .int .i64 ((nlT (cases[j].2.2) (ZF s (cases[j].2.1))).2)]⟩ from (hr 6 _ _ (by decide) rfl rfl rfl).trans (hp 6 (by decide) rfl).1) un)
    refine JLm (.tuple ⟨[.agg ⟨(Zz (r110 6))⟩, .int .i64 ((nlT (cases[j].2.2) (ZF s (cases[j].2.1))).2)]⟩) <| Za ?_
    exact ⟨.tuple ⟨[.agg ⟨(Zz (r110 6))⟩, .int .i64 ((nlT (cases[j].2.2) (ZF s (cases[j].2.1))).2)]⟩, [], rfl, (Sub.emp Sub.refl), rfl, fun h => absurd h (by decide)⟩
   ·intro ρ r110 N110 hp hr hr0
    obtain ⟨ρ121, rfl⟩ := Zc (uc (show ρ 120 = .tuple ⟨[.agg ⟨(Zz (r110 6))⟩, .int .i64 ((nlT (cases[j].2.2) (ZF s (cases[j].2.1))).2)]⟩ from (hr 7 _ _ (by decide) rfl rfl rfl).trans (hp 7 (by decide) rfl)) un)
    refine JLq (.agg ⟨(Zz (r110 6))⟩) (Pu.extract rfl rfl) <| Za ?_
    exact ⟨.agg ⟨(Zz (r110 6))⟩, [], rfl, (Sub.emp Sub.refl), rfl, fun h => absurd h (by decide)⟩
   ·intro ρ r110 N110 hp hr hr0
    obtain ⟨ρ122, rfl⟩ := Zc (uc (show ρ 120 = .tuple ⟨[.agg ⟨(Zz (r110 6))⟩, .int .i64 ((nlT (cases[j].2.2) (ZF s (cases[j].2.1))).2)]⟩ from (hr 7 _ _ (by decide) rfl rfl rfl).trans (hp 7 (by decide) rfl)) un)
    refine JLq (.int .i64 ((nlT (cases[j].2.2) (ZF s (cases[j].2.1))).2)) (Pu.extract rfl rfl) <| Za ?_
    exact ⟨.int .i64 ((nlT (cases[j].2.2) (ZF s (cases[j].2.1))).2), [], rfl, (Sub.emp Sub.refl), rfl, fun h => absurd h (by decide)⟩
   ·intro ρ r110 N110 hp hr hr0
    refine JLr (Zj (l := pkT 0 0 zS (.slice none 0 0) (.slice none 0 0)) Tryz.zeroValue27 rfl fun b123 => Za ?_)
    exact ⟨.pointer (some ⟨b123, 0, none⟩), [(b123, .cells ⟨pkT 0 0 zS (.slice none 0 0) (.slice none 0 0)⟩ 27 (0, 0))], rfl, Sub.refl, ⟨rfl, _, rfl, rfl⟩, fun h => absurd h (by decide)⟩
   ·intro ρ r110 N110 hp hr hr0
    have p6 : (r110 6) = .tuple ⟨[.agg ⟨(Zz (r110 6))⟩, .int .i64 (nlT (cases[j].2.2) (ZF s (cases[j].2.1))).2]⟩ ∧ OT (nlT (cases[j].2.2) (ZF s (cases[j].2.1))).1 (Zz (r110 6)) (N110 6) := hp 6 (by decide) rfl
    have p10 : (r110 10) = .pointer (some ⟨(ZA (r110 10)), 0, none⟩) ∧ ∃ X : List Value, X.length = 36 ∧ (N110 10) = [((ZA (r110 10)), .cells ⟨X⟩ 27 (0, 0))] := hp 10 (by decide) rfl
    obtain ⟨ρ124, rfl⟩ := Zc (uc (show ρ 17 = .pointer (some ⟨(ZA (r110 10)), 0, none⟩) from (hr 10 _ _ (by decide) rfl rfl rfl).trans p10.1) (uc (show ρ 128 = .agg ⟨(Zz (r110 6))⟩ from (hr 8 _ _ (by decide) rfl rfl rfl).trans (hp 8 (by decide) rfl)) un))
    obtain ⟨hrC, X, hX, hNC⟩ := p10
    refine JLr (Ze 10 (vs := (Zz (r110 6))) (l := (Zz (r110 6))) Zu rfl ((ZQ rfl rfl).trans (congrArg some hNC)) rfl rfl p6.2.len p6.2.ok (ZL (n := 36) hX p6.2.len) <| Za ?_)
    exact ⟨undef, [((ZA (r110 10)), .cells ⟨(Zz (r110 6))⟩ 27 (0, 0))], rfl, Sub.refl, rfl, fun _ => ⟨hrC, _, p6.2.len, rfl⟩⟩
   intro ρ r110 N110 hNa hp hr hr0
   have p5 : Own 9 1 (r110 5) (ZP (ZF s (cases[j].2.1))) (N110 5) := hp 5 (by decide)
   have p6 : (r110 6) = .tuple ⟨[.agg ⟨(Zz (r110 6))⟩, .int .i64 (nlT (cases[j].2.2) (ZF s (cases[j].2.1))).2]⟩ ∧ OT (nlT (cases[j].2.2) (ZF s (cases[j].2.1))).1 (Zz (r110 6)) (N110 6) := hp 6 (by decide)
   have p10 : (r110 10) = .pointer (some ⟨(ZA (r110 10)), 0, none⟩) ∧ ∃ X : List Value, X.length = 36 ∧ (N110 10) = [((ZA (r110 10)), .cells ⟨X⟩ 27 (0, 0))] := hp 10 (by decide)
   have p11 : (N110 10) = [((ZA (r110 10)), .cells ⟨(Zz (r110 6))⟩ 27 (0, 0))] := hp 11 (by decide)
   obtain ⟨ρ125, rfl⟩ := Zc (uc (show ρ 1 = v from hr0 1 (by kernel_rfl)) (uc (show ρ 4 = .pointer (some ⟨b2, 0, none⟩) from hr0 4 (by kernel_rfl)) (uc (show ρ 5 = .int .i64 0 from hr0 5 (by kernel_rfl)) (uc (show ρ 7 = .pointer (some ⟨b27, 0, none⟩) from hr0 7 (by kernel_rfl)) (uc (show ρ 16 = .pointer (some ⟨b109, 0, none⟩) from hr0 16 (by kernel_rfl)) (uc (show ρ 17 = .pointer (some ⟨(ZA (r110 10)), 0, none⟩) from (hr 10 _ _ (by decide) rfl rfl).trans p10.1) (uc (show ρ 114 = cv from hr0 114 (by kernel_rfl)) (uc (show ρ 115 = .int .i64 ((cases.length : Int)) from hr0 115 (by kernel_rfl)) (uc (show ρ 116 = .int .i64 ((j : Int)) from hr0 116 (by kernel_rfl)) (uc (show ρ 129 = .int .i64 ((nlT (cases[j].2.2) (ZF s (cases[j].2.1))).2) from (hr 9 _ _ (by decide) rfl rfl).trans (hp 9 (by decide))) un))))))))))
   have p110_5 := p5; have p110_6 := p6; have p110_10 := p10; have p110_11 := p11
   clear hp hr hr0 p5 p6 p10 p11
   refine Zq (M' := [(N110 0), (N110 1), (N110 2), (N110 3), (N110 4), (N110 5), (N110 6), (N110 7), (N110 8), (N110 9), (N110 10), (N110 11), [(b109, .cells ⟨ca108 ++ (([va108]) ++ cb108)⟩ 85 (0, 0))], [(b27, .cells ⟨pkT kind qx ref w y⟩ 27 (0, 0))], k3, k4, k1, k2, [(b2, .cells ⟨pkT 0 0 zS (.slice none 0 0) (.slice none 0 0)⟩ 27 (0, 0))], [(b1, .cells ⟨pkN kind num ref nv ks cv⟩ 32 (0, 0))]]) Sub.refl <| Zq (M' := [(N110 5), (N110 6), [((ZA (r110 10)), .cells ⟨(Zz (r110 6))⟩ 27 (0, 0))], [(b109, .cells ⟨ca108 ++ (([va108]) ++ cb108)⟩ 85 (0, 0))], [(b27, .cells ⟨pkT kind qx ref w y⟩ 27 (0, 0))], k3, k4, k1, k2, [(b2, .cells ⟨pkT 0 0 zS (.slice none 0 0) (.slice none 0 0)⟩ 27 (0, 0))], [(b1, .cells ⟨pkN kind num ref nv ks cv⟩ 32 (0, 0))]]) (Sd (Sd (Sd (Sd (Sd (Sk (Sk (Sd (Sd (Sd (Se p110_11 (Sd (Sk (Sk (Sk (Sk (Sk (Sk (Sk (Sk Sub.nil)))))))))))))))))))) ?_
   show JL _ _ _ [_] _ _ _
   refine JLa (.int .i64 ((nlT (cases[j].2.2) (ZF s (cases[j].2.1))).2)) <| Za <| Zd <| Zd <| Zb <| JLm (.int .i64 ((nlT (cases[j].2.2) (ZF s (cases[j].2.1))).2)) <| JLq (.bool (!decide ((nlT (cases[j].2.2) (ZF s (cases[j].2.1))).2 = 0))) (Pu.neq rfl rfl) <| Za <| Zi (b := !decide ((nlT (cases[j].2.2) (ZF s (cases[j].2.1))).2 = 0)) rfl (fun h126 => ?_) (fun h126 => ?_)
   ·replace h126 := nt h126
    replace h126 := df h126
    refine Zd <| Zb <| JLq (.agg ⟨pkT 0 0 zS (.slice none 0 0) (.slice none 0 0)⟩) (Pu.build (pv := []) (l := pkT 0 0 zS (.slice none 0 0) (.slice none 0 0)) rfl (YW )) <| JLm (.int .i64 ((nlT (cases[j].2.2) (ZF s (cases[j].2.1))).2)) <| JLr (Ze 9 (vs := pkT 0 0 zS (.slice none 0 0) (.slice none 0 0)) (l := pkT 0 0 zS (.slice none 0 0) (.slice none 0 0)) Zu rfl rfl rfl rfl rfl (ZI rfl rfl) (Z0 ..) <| JLa (.int .i64 ((nlT (cases[j].2.2) (ZF s (cases[j].2.1))).2)) <| Za <| Zl <| ⟨.tuple ⟨[.agg ⟨pkT 0 0 zS (.slice none 0 0) (.slice none 0 0)⟩, .int .i64 ((nlT (cases[j].2.2) (ZF s (cases[j].2.1))).2)]⟩, [[]], Ret.two rfl (RV.cell Zu rfl (At.bx 9 rfl) (ZZ ..)) (RV.tmp rfl), (Sub.emp Sub.nil), ?_⟩)
    rw [nlCs_cons h107n, if_pos (by assumption)] at hinv2
    have hx := nl_eC (r := ref) hq1 hq2 hq3 hq4 (by rw [hinvK]) (by rw [hinv2]; assumption)
    rw [hinv2] at hx
    exact ⟨_, _, by rw [hx], rfl, by rw [hx]; exact Yy⟩
   replace h126 := nf h126
   replace h126 := dt h126
   refine Zp <| Ya mixed #[0, 1, 0, 0, 8, 28, 0, 124, 252, 511, 1023, 2047] 9 9 11 rfl (by kernel_rfl) (fun i r127 N127 => match i with | 0 => (r127 0) = .pointer (some ⟨b27, 35, none⟩) | 1 => (r127 1) = y | 2 => (r127 2) = .agg ⟨[.func (.func 83) ⟨[]⟩ ⟨[]⟩, .func (.func 84) ⟨[]⟩ ⟨[]⟩]⟩ | 3 => (r127 3) = .pointer (some ⟨b109, 0, none⟩) | 4 => (r127 4) = .agg ⟨ca108⟩ | 5 => (r127 5) = .agg ⟨(cel (r127 5))⟩ ∧ OP (cases[j].1) (cel (r127 5)) (N127 5) | 6 => (r127 6) = .agg ⟨(Zz (r110 6))⟩ | 7 => (r127 7) = .agg ⟨((cel (r127 5))) ++ ((Zz (r110 6)))⟩ | 8 => (r127 8) = .slice (some ⟨(ZC (r127 8)), 0, none⟩) 1 1 ∧ (N127 8) = [(ZC (r127 8), .cells ⟨List.flatten [((cel (r127 5))) ++ ((Zz (r110 6)))]⟩ 80 (0, 0))] ∧ Own 80 71 (.slice (some ⟨(ZC (r127 8)), 0, none⟩) 1 1) [((cel (r127 5))) ++ ((Zz (r110 6)))] (N127 8) | _ => True) ⟨?_, ?_, ?_, ?_, ?_, ?_, ?_, ?_, ?_, trivial⟩ ?_
   ·intro ρ r127 N127 B hB hBa hp hr hr0
    obtain ⟨ρ128, rfl⟩ := Zc (uc (show ρ 7 = .pointer (some ⟨b27, 0, none⟩) from hr0 7 (by kernel_rfl)) un)
    refine JLq (.pointer (some ⟨b27, 35, none⟩)) (YP rfl rfl) <| Za ?_
    exact ⟨.pointer (some ⟨b27, 35, none⟩), [], rfl, (Sub.emp Sub.refl), rfl⟩
   ·intro ρ r127 N127 B hB hBa hp hr hr0
    obtain ⟨ρ129, rfl⟩ := Zc (uc (show ρ 134 = .pointer (some ⟨b27, 35, none⟩) from (hr 0 _ _ (by decide) rfl rfl rfl).trans (hp 0 (by decide) rfl)) un)
    refine JLr (Zf ty25 rfl (At.bx 13 (Zn ((hB 4 (by decide)).trans rfl))) (YI ..) <| Za ?_)
    exact ⟨y, [], rfl, (Sub.emp Sub.refl), rfl⟩
   ·intro ρ r127 N127 B hB hBa hp hr hr0
    refine JLq (.agg ⟨[.func (.func 83) ⟨[]⟩ ⟨[]⟩, .func (.func 84) ⟨[]⟩ ⟨[]⟩]⟩) (Pu.build (pv := [(0, .func (.func 83) ⟨[]⟩ ⟨[]⟩), (1, .func (.func 84) ⟨[]⟩ ⟨[]⟩)]) (l := [.func (.func 83) ⟨[]⟩ ⟨[]⟩, .func (.func 84) ⟨[]⟩ ⟨[]⟩]) rfl (bld136_0_1 _ _ _ _ _ _)) <| Za ?_
    exact ⟨.agg ⟨[.func (.func 83) ⟨[]⟩ ⟨[]⟩, .func (.func 84) ⟨[]⟩ ⟨[]⟩]⟩, [], rfl, (Sub.emp Sub.refl), rfl⟩
   ·intro ρ r127 N127 B hB hBa hp hr hr0
    obtain ⟨ρ130, rfl⟩ := Zc (uc (show ρ 16 = .pointer (some ⟨b109, 0, none⟩) from hr0 16 (by kernel_rfl)) un)
    refine JLq (.pointer (some ⟨b109, 0, none⟩)) (fa85_0 rfl rfl) <| Za ?_
    exact ⟨.pointer (some ⟨b109, 0, none⟩), [], rfl, (Sub.emp Sub.refl), rfl⟩
   ·intro ρ r127 N127 B hB hBa hp hr hr0
    obtain ⟨ρ131, rfl⟩ := Zc (uc (show ρ 137 = .pointer (some ⟨b109, 0, none⟩) from (hr 3 _ _ (by decide) rfl rfl rfl).trans (hp 3 (by decide) rfl)) un)
    refine JLr (Zh Z5 rfl (At.bx 12 (Zn ((hB 3 (by decide)).trans rfl))) (sub_l (ZJ hA108)) <| Za ?_)
    exact ⟨.agg ⟨ca108⟩, [], rfl, (Sub.emp Sub.refl), rfl⟩
   ·intro ρ r127 N127 B hB hBa hp hr hr0
    obtain ⟨ρ132, rfl⟩ := Zc (uc (show ρ 136 = .agg ⟨[.func (.func 83) ⟨[]⟩ ⟨[]⟩, .func (.func 84) ⟨[]⟩ ⟨[]⟩]⟩ from (hr 2 _ _ (by decide) rfl rfl rfl).trans (hp 2 (by decide) rfl)) (uc (show ρ 138 = .agg ⟨ca108⟩ from (hr 4 _ _ (by decide) rfl rfl rfl).trans (hp 4 (by decide) rfl)) un))
    refine Zg rfl Tryz.call113 rfl (fun hin => mapPatternP_ct _ _ _ (RP.mono (Hle.hu _ _) hA108) (by omega)) rfl ?_
    rintro _ _ ⟨cs133, k133, rfl, rfl, hO133⟩
    refine Za ?_
    exact ⟨.agg ⟨cs133⟩, k133, rfl, Sub.refl, ⟨rfl, hO133⟩⟩
   ·intro ρ r127 N127 B hB hBa hp hr hr0
    obtain ⟨ρ134, rfl⟩ := Zc (uc (show ρ 17 = .pointer (some ⟨(ZA (r110 10)), 0, none⟩) from hr0 17 (by kernel_rfl)) un)
    refine JLr (Zh Zu rfl (At.bx 11 (Zn ((hB 2 (by decide)).trans rfl))) (Zx p110_6.2.len) <| Za ?_)
    exact ⟨.agg ⟨(Zz (r110 6))⟩, [], rfl, (Sub.emp Sub.refl), rfl⟩
   ·intro ρ r127 N127 B hB hBa hp hr hr0
    have p5 : (r127 5) = .agg ⟨(cel (r127 5))⟩ ∧ OP (cases[j].1) (cel (r127 5)) (N127 5) := hp 5 (by decide) rfl
    obtain ⟨ρ135, rfl⟩ := Zc (uc (show ρ 139 = .agg ⟨(cel (r127 5))⟩ from (hr 5 _ _ (by decide) rfl rfl rfl).trans p5.1) (uc (show ρ 140 = .agg ⟨(Zz (r110 6))⟩ from (hr 6 _ _ (by decide) rfl rfl rfl).trans (hp 6 (by decide) rfl)) un))
    refine JLq (.agg ⟨((cel (r127 5))) ++ ((Zz (r110 6)))⟩) (Pu.build (pv := [(0, .agg ⟨(cel (r127 5))⟩), (1, .agg ⟨(Zz (r110 6))⟩)]) (l := ((cel (r127 5))) ++ ((Zz (r110 6)))) rfl (bld80_0_1 p5.2.len p110_6.2.len)) <| Za ?_
    exact ⟨.agg ⟨((cel (r127 5))) ++ ((Zz (r110 6)))⟩, [], rfl, (Sub.emp Sub.refl), rfl⟩
   ·intro ρ r127 N127 B hB hBa hp hr hr0
    have p5 : (r127 5) = .agg ⟨(cel (r127 5))⟩ ∧ OP (cases[j].1) (cel (r127 5)) (N127 5) := hp 5 (by decide) rfl
    obtain ⟨ρ136, rfl⟩ := Zc (uc (show ρ 141 = .agg ⟨((cel (r127 5))) ++ ((Zz (r110 6)))⟩ from (hr 7 _ _ (by decide) rfl rfl rfl).trans (hp 7 (by decide) rfl)) un)
    refine JLr (Zr (vs := [.agg ⟨((cel (r127 5))) ++ ((Zz (r110 6)))⟩]) [((cel (r127 5))) ++ ((Zz (r110 6)))] Tryz.runUnderlying25 el80 rfl rfl (by intro e he; simp only [List.mem_cons, List.not_mem_nil, or_false] at he; subst he; exact (ZN p5.2.len p110_6.2.len)) rfl (by decide) fun b137 k137 ho137 hk137 => Za ?_)
    exact ⟨.slice (some ⟨b137, 0, none⟩) 1 1, k137, rfl, Sub.refl, ⟨rfl, hk137, ho137⟩⟩
   intro ρ r127 N127 hp hr hr0
   have p5 : (r127 5) = .agg ⟨(cel (r127 5))⟩ ∧ OP (cases[j].1) (cel (r127 5)) (N127 5) := hp 5 (by decide)
   have p8 : (r127 8) = .slice (some ⟨(ZC (r127 8)), 0, none⟩) 1 1 ∧ (N127 8) = [(ZC (r127 8), .cells ⟨List.flatten [((cel (r127 5))) ++ ((Zz (r110 6)))]⟩ 80 (0, 0))] ∧ Own 80 71 (.slice (some ⟨(ZC (r127 8)), 0, none⟩) 1 1) [((cel (r127 5))) ++ ((Zz (r110 6)))] (N127 8) := hp 8 (by decide)
   obtain ⟨ρ138, rfl⟩ := Zc (uc (show ρ 1 = v from hr0 1 (by kernel_rfl)) (uc (show ρ 4 = .pointer (some ⟨b2, 0, none⟩) from hr0 4 (by kernel_rfl)) (uc (show ρ 5 = .int .i64 0 from hr0 5 (by kernel_rfl)) (uc (show ρ 7 = .pointer (some ⟨b27, 0, none⟩) from hr0 7 (by kernel_rfl)) (uc (show ρ 114 = cv from hr0 114 (by kernel_rfl)) (uc (show ρ 115 = .int .i64 ((cases.length : Int)) from hr0 115 (by kernel_rfl)) (uc (show ρ 116 = .int .i64 ((j : Int)) from hr0 116 (by kernel_rfl)) (uc (show ρ 135 = y from (hr 1 _ _ (by decide) rfl rfl).trans (hp 1 (by decide))) (uc (show ρ 142 = .slice (some ⟨(ZC (r127 8)), 0, none⟩) 1 1 from (hr 8 _ _ (by decide) rfl rfl).trans p8.1) un)))))))))
   have p127_5 := p5; have p127_8 := p8
   clear hp hr hr0 p5 p8
   refine Zq (M' := [(N127 0), (N127 1), (N127 2), (N127 3), (N127 4), (N127 5), (N127 6), (N127 7), (N127 8), (N110 5), (N110 6), [((ZA (r110 10)), .cells ⟨(Zz (r110 6))⟩ 27 (0, 0))], [(b109, .cells ⟨ca108 ++ (([va108]) ++ cb108)⟩ 85 (0, 0))], [(b27, .cells ⟨pkT kind qx ref w y⟩ 27 (0, 0))], k3, k4, k1, k2, [(b2, .cells ⟨pkT 0 0 zS (.slice none 0 0) (.slice none 0 0)⟩ 27 (0, 0))], [(b1, .cells ⟨pkN kind num ref nv ks cv⟩ 32 (0, 0))]]) Sub.refl <| Zq (M' := [(N127 5), (N127 8), (N110 5), (N110 6), [((ZA (r110 10)), .cells ⟨(Zz (r110 6))⟩ 27 (0, 0))], [(b109, .cells ⟨ca108 ++ (([va108]) ++ cb108)⟩ 85 (0, 0))], [(b27, .cells ⟨pkT kind qx ref w y⟩ 27 (0, 0))], k3, k4, k1, k2, [(b2, .cells ⟨pkT 0 0 zS (.slice none 0 0) (.slice none 0 0)⟩ 27 (0, 0))], [(b1, .cells ⟨pkN kind num ref nv ks cv⟩ 32 (0, 0))]]) (Sd (Sd (Sd (Sd (Sd (Sk (Sd (Sd (Sk (Sk (Sk (Sk (Sk (Sk (Sk (Sk (Sk (Sk (Sk (Sk Sub.nil)))))))))))))))))))) ?_
   show JL _ _ _ [_, _, _] _ _ _
   have hlens139 : ∀ e ∈ ([((cel (r127 5))) ++ ((Zz (r110 6)))] : List (List Value)), List.length e = 71 := by
    intro e he; simp only [List.mem_cons, List.not_mem_nil, or_false] at he
    rcases he with rfl
    ·exact (ZN p127_5.2.len p110_6.2.len)
   have hoks139 : ∀ e ∈ ([((cel (r127 5))) ++ ((Zz (r110 6)))] : List (List Value)), okc e := by
    intro e he; simp only [List.mem_cons, List.not_mem_nil, or_false] at he
    rcases he with rfl
    ·exact (Z3 p127_5.2.ok p110_6.2.ok)
   refine JLr (ZH (i := 7) (n := 1) (es' := [((cel (r127 5))) ++ ((Zz (r110 6)))]) Tryz.runUnderlying25 Tryz.runUnderlying25 (Or.inl rfl) el80 rfl rfl rfl ho3 (fun F w m => Src.row (((At.k 1 rfl (by rw [p127_8.2.1]; exact List.mem_cons_self))).heap m) (Zx (ZG hlens139))) rfl hlens139 hoks139 (by decide) (by omega) fun v139 k139 ho139 => JLq (.pointer (some ⟨b27, 35, none⟩)) (YP rfl rfl) <| JLr (Ze 6 (vs := [v139]) (l := pkT kind qx ref w v139) ty25 rfl rfl rfl (ZO ho139.one) rfl (Zm ho139.one Zv) (pkT_s35 ..) <| Za <| Zb <| JLq (.int .i64 (((j + 1 : Nat) : Int))) (Pu.inc rfl rfl (by omega)) <| JLm (.int .i64 (((j + 1 : Nat) : Int))) <| Za <| ⟨_, ?_, (j + 1), (us ++ [(cases[j].1, (nlT (cases[j].2.2) (ZF s (cases[j].2.1))).1)]), v139, (es2 ++ [((cel (r127 5))) ++ ((Zz (r110 6)))]), k139, (k4 ++ (((N127 5)) ++ ((N110 6)))), rfl, rfl, rfl, rfl, rfl, rfl, rfl, (Sub.cons 6 rfl (Sub.cons 6 rfl (Sub.join3 (Sub.cons 6 rfl (Sk (Sd (Sd (Sk (Sd (Sd (Sk (Sk (Sk (Sk Sub.nil)))))))))))))), ?_, ?_, ?_, ?_, ?_, rfl⟩))
   ·omega
   ·omega
   ·exact ho139
   ·exact OCs.snoc p127_5.2 p110_6.2 hopw
   ·rw [nlCs_cons h107n, if_neg (fun q => q (by assumption))] at hinv2; rw [hinv2]; simp
   simp [hul]
  replace h107 := df h107
  have h107n : cases.length ≤ j := by omega
  refine ZM _ rfl <| Zd <| Zb <| JLr (Zh Zu rfl (At.bx 0 rfl) (ZZ ..) <| JLr (Ze 5 (vs := pkT kind qx ref w y) (l := pkT kind qx ref w y) Zu rfl rfl rfl rfl rfl (ZI ho1.one ho3.one) (Z0 ..) <| JLa (.int .i64 0) <| Za <| Zl <| ⟨.tuple ⟨[.agg ⟨pkT kind qx ref w y⟩, .int .i64 0]⟩, [k1 ++ (k2 ++ (k3 ++ k4))], Ret.two rfl (RV.cell Zu rfl (At.bx 5 rfl) (ZZ ..)) (RV.tmp rfl), (Sub.join4 (Sd (Sub.cons 2 rfl (Sub.cons 2 rfl (Sk (Sk Sub.nil)))))), ?_⟩))
  have hinvC : nlCs s cases = (us, 0) := by rw [hinv2, Xl h107n, nlCs, List.append_nil]
  have hx := nl_ok (r := ref) hq1 hq2 hq3 hq4 (by rw [hinvK]) (by rw [hinvC])
  rw [hinvK, hinvC, ← hqx] at hx
  exact ⟨_, _, by rw [hx], rfl, by rw [hx]; exact OT_mk.2 ⟨_, _, _, _, _, _, _, _, rfl, hk, hnx, ho1, hop, ho3, hopw, rfl, (show ts.length ≤ 9223372036854775807 by omega), (show us.length ≤ 9223372036854775807 by omega)⟩⟩
 | false =>
  replace h3 := df h3
  obtain ⟨a141, cap141, hv141⟩ := hns.rd.sl
  have hle141 := hns.rd.le
  refine Ya mixed #[0, 1, 3, 0, 8, 31, 63, 127, 255, 127, 1023, 2047, 4095, 8191] 10 10 2 rfl (by kernel_rfl) (fun i r140 N140 => match i with | 0 => (r140 0) = .pointer (some ⟨b1, 34, none⟩) | 1 => (r140 1) = nv | 2 => (r140 2) = .int .i64 ((ns.length : Int)) | 3 => (r140 3) = .agg ⟨pkN kind num ref nv ks cv⟩ | 4 => (r140 4) = .int .i64 (Yx kind kids.length) | 5 => (r140 5) = .bool true | 6 => (r140 6) = .bool true | 7 => (r140 7) = undef | 8 => (r140 8) = undef | 9 => (r140 9) = undef | _ => True) ⟨?_, ?_, ?_, ?_, ?_, ?_, ?_, ?_, ?_, ?_, trivial⟩ ?_
  ·intro ρ r140 N140 B hB hBa hp hr hr0
   obtain ⟨ρ142, rfl⟩ := Zc (uc (show ρ 2 = .pointer (some ⟨b1, 0, none⟩) from hr0 2 (by kernel_rfl)) un)
   refine JLq (.pointer (some ⟨b1, 34, none⟩)) (Yw rfl rfl) <| Za ?_
   exact ⟨.pointer (some ⟨b1, 34, none⟩), [], rfl, (Sub.emp Sub.refl), rfl⟩
  ·intro ρ r140 N140 B hB hBa hp hr hr0
   obtain ⟨ρ143, rfl⟩ := Zc (uc (show ρ 20 = .pointer (some ⟨b1, 34, none⟩) from (hr 0 _ _ (by decide) rfl rfl rfl).trans (hp 0 (by decide) rfl)) un)
   refine JLr (Zf YG rfl (At.bx 11 (Zn ((hB 1 (by decide)).trans rfl))) (pkN_34 ..) <| Za ?_)
   exact ⟨nv, [], rfl, (Sub.emp Sub.refl), rfl⟩
  ·intro ρ r140 N140 B hB hBa hp hr hr0
   obtain ⟨ρ144, rfl⟩ := Zc (uc (show ρ 21 = nv from (hr 1 _ _ (by decide) rfl rfl rfl).trans (hp 1 (by decide) rfl)) un)
   refine JLq (.int .i64 ((ns.length : Int))) (Pu.lenSl Tryz.runUnderlying28 hv141) <| Za ?_
   exact ⟨.int .i64 ((ns.length : Int)), [], rfl, (Sub.emp Sub.refl), rfl⟩
  ·intro ρ r140 N140 B hB hBa hp hr hr0
   obtain ⟨ρ145, rfl⟩ := Zc (uc (show ρ 2 = .pointer (some ⟨b1, 0, none⟩) from hr0 2 (by kernel_rfl)) un)
   refine JLr (Zh Z6 rfl (At.bx 11 (Zn ((hB 1 (by decide)).trans rfl))) (pkN_a ..) <| Za ?_)
   exact ⟨.agg ⟨pkN kind num ref nv ks cv⟩, [], rfl, (Sub.emp Sub.refl), rfl⟩
  ·intro ρ r140 N140 B hB hBa hp hr hr0
   obtain ⟨ρ146, rfl⟩ := Zc (uc (show ρ 23 = .agg ⟨pkN kind num ref nv ks cv⟩ from (hr 3 _ _ (by decide) rfl rfl rfl).trans (hp 3 (by decide) rfl)) un)
   refine Zg rfl Tryz.call118 rfl (fun hin => manyN_ct (.mk kind num ref ns kids cases) _ _ (RN.mono (Hle.hu _ _) (RN_mk.2 ⟨_, _, _, rfl, hk, hn, hns, hks, hcv⟩)) (show kids.length ≤ 1000000 by omega)) rfl ?_
   rintro _ _ ⟨rfl, rfl⟩
   refine Za ?_
   exact ⟨.int .i64 (Yx kind kids.length), [], rfl, (Sub.emp Sub.refl), rfl⟩
  ·intro ρ r140 N140 B hB hBa hp hr hr0
   obtain ⟨ρ147, rfl⟩ := Zc (uc (show ρ 22 = .int .i64 ((ns.length : Int)) from (hr 2 _ _ (by decide) rfl rfl rfl).trans (hp 2 (by decide) rfl)) (uc (show ρ 24 = .int .i64 (Yx kind kids.length) from (hr 4 _ _ (by decide) rfl rfl rfl).trans (hp 4 (by decide) rfl)) un))
   refine JLq (.bool true) ((Pu.neq rfl rfl).cast (by rw [decide_eq_false h3]; rfl)) <| Za ?_
   exact ⟨.bool true, [], rfl, (Sub.emp Sub.refl), rfl⟩
  ·intro ρ r140 N140 B hB hBa hp hr hr0
   obtain ⟨ρ148, rfl⟩ := Zc (uc (show ρ 25 = .bool true from (hr 5 _ _ (by decide) rfl rfl rfl).trans (hp 5 (by decide) rfl)) un)
   refine JLm (.bool true) <| Za ?_
   exact ⟨.bool true, [], rfl, (Sub.emp Sub.refl), rfl⟩
  ·intro ρ r140 N140 B hB hBa hp hr hr0
   obtain ⟨ρ149, rfl⟩ := Zc (uc (show ρ 26 = .bool true from (hr 6 _ _ (by decide) rfl rfl rfl).trans (hp 6 (by decide) rfl)) un)
   refine Zy rfl <| Za ?_
   exact ⟨undef, [], rfl, (Sub.emp Sub.refl), rfl⟩
  ·intro ρ r140 N140 B hB hBa hp hr hr0
   obtain ⟨ρ150, rfl⟩ := Zc (uc (show ρ 26 = .bool true from (hr 6 _ _ (by decide) rfl rfl rfl).trans (hp 6 (by decide) rfl)) un)
   refine Zy rfl <| Za ?_
   exact ⟨undef, [], rfl, (Sub.emp Sub.refl), rfl⟩
  ·intro ρ r140 N140 B hB hBa hp hr hr0
   obtain ⟨ρ151, rfl⟩ := Zc (uc (show ρ 26 = .bool true from (hr 6 _ _ (by decide) rfl rfl rfl).trans (hp 6 (by decide) rfl)) un)
   refine Zy rfl <| Za ?_
   exact ⟨undef, [], rfl, (Sub.emp Sub.refl), rfl⟩
  intro ρ r140 N140 hp hr hr0
  obtain ⟨ρ152, rfl⟩ := Zc (uc (show ρ 1 = v from hr0 1 (by kernel_rfl)) (uc (show ρ 2 = .pointer (some ⟨b1, 0, none⟩) from hr0 2 (by kernel_rfl)) (uc (show ρ 4 = .pointer (some ⟨b2, 0, none⟩) from hr0 4 (by kernel_rfl)) (uc (show ρ 5 = .int .i64 0 from hr0 5 (by kernel_rfl)) (uc (show ρ 26 = .bool true from (hr 6 _ _ (by decide) rfl rfl).trans (hp 6 (by decide))) (uc (show ρ 28 = undef from (hr 8 _ _ (by decide) rfl rfl).trans (hp 8 (by decide))) (uc (show ρ 29 = undef from (hr 9 _ _ (by decide) rfl rfl).trans (hp 9 (by decide))) un)))))))
  clear hp hr hr0 
  refine Zq (M' := [(N140 0), (N140 1), (N140 2), (N140 3), (N140 4), (N140 5), (N140 6), (N140 7), (N140 8), (N140 9), [(b2, .cells ⟨pkT 0 0 zS (.slice none 0 0) (.slice none 0 0)⟩ 27 (0, 0))], [(b1, .cells ⟨pkN kind num ref nv ks cv⟩ 32 (0, 0))]]) Sub.refl <| Zq (M' := [[(b2, .cells ⟨pkT 0 0 zS (.slice none 0 0) (.slice none 0 0)⟩ 27 (0, 0))], [(b1, .cells ⟨pkN kind num ref nv ks cv⟩ 32 (0, 0))]]) (Sd (Sd (Sd (Sd (Sd (Sd (Sd (Sd (Sd (Sd (Sk (Sk Sub.nil)))))))))))) ?_
  show JL _ _ _ [_, _, _, _] _ _ _
  iterate 2 refine Zy rfl ?_
  refine JLq (.bool true) (Pu.pickT rfl rfl) <| JLa (.bool true) <| Za <| Zi (b := true) rfl (fun _ => ?_) (fun h => absurd h (by simp))
  refine Zd <| Zb <| JLq (.agg ⟨pkT 0 0 zS (.slice none 0 0) (.slice none 0 0)⟩) (Pu.build (pv := []) (l := pkT 0 0 zS (.slice none 0 0) (.slice none 0 0)) rfl (YW )) <| JLr (Ze 0 (vs := pkT 0 0 zS (.slice none 0 0) (.slice none 0 0)) (l := pkT 0 0 zS (.slice none 0 0) (.slice none 0 0)) Zu rfl rfl rfl rfl rfl (ZI rfl rfl) (Z0 ..) <| JLa (.int .i64 2) <| Za <| Zl <| ⟨.tuple ⟨[.agg ⟨pkT 0 0 zS (.slice none 0 0) (.slice none 0 0)⟩, .int .i64 2]⟩, [[]], Ret.two rfl (RV.cell Zu rfl (At.bx 0 rfl) (ZZ ..)) (RV.tmp rfl), (Sub.emp Sub.nil), ?_⟩)
  have hx : nlT (.mk kind num ref ns kids cases) s = (zT, 2) := nl_e2a h3
  exact ⟨_, _, by rw [hx], rfl, by rw [hx]; exact Yy⟩
end Go.Proofs.YtmophpgiaiemhaaGreat.Hs
/-! Walks, printed by a program of this session's own (gen.py). -/
namespace Go.Proofs.YtmophpgiaiemhaaGreat.Hs
open Go Go.Proofs
set_option maxRecDepth 100000
set_option linter.unusedVariables false
set_option linter.unusedSimpArgs false
attribute [local irreducible] JL J CT wlo
theorem idxN_ct (g : Nat) (fs cv : List Value) (hcall : ∀ args w, (callFunc g args).run Tryz.prog w = .ok (.enter g args) w) {σ : Type} (Sc : σ → Zk) (Inv : σ → Prop) (step : Nm → σ → Bool × σ) (l : List Nm) (v : Value) (H : Heap) (hl : rdS RN 37 H v l) (s0 : σ) (h0 : Inv s0) (hI : ∀ x ∈ l, ∀ s, Inv s → (step x s).1 = false → Inv (step x s).2) (hg : ∀ x ∈ l, ∀ s, Inv s → ∀ a h, Hle H h → RN h a x → CT Tryz.prog g ⟨fs ++ [.agg ⟨a⟩] ++ cv⟩ [Sc s] h (fun v N => v = .bool (step x s).1 ∧ N = [Sc (step x s).2])) : CT Tryz.prog 92 ⟨[v, .func (.func g) ⟨fs⟩ ⟨cv⟩]⟩ [Sc s0] H (fun v N => v = .int .i64 (idxS step l 0 s0).1 ∧ N = [Sc (idxS step l 0 s0).2]) := by
 refine Zo Tryz.func92 rfl rfl <| Zd <| Zb <| JLa (.int .i64 0) <| Za <| Zd <| Zd <| Zb <| JLm v ?_
 obtain ⟨a1, cap1, hv1⟩ := hl.sl
 have hle1 := hl.le
 refine JLq (.int .i64 ((l.length : Int))) (Pu.lenSl Tryz.runUnderlying29 hv1) <| JLm (.int .i64 0) <| Za <| Zs <| ZU (fun k ρ M => ∃ (j : Nat) (s : σ), ρ 0 = v ∧ ρ 1 = .func (.func g) ⟨fs⟩ ⟨cv⟩ ∧ ρ 4 = .int .i64 0 ∧ ρ 7 = .int .i64 ((l.length : Int)) ∧ ρ 8 = .int .i64 ((j : Int)) ∧ Sub [Sc s] M ∧ j ≤ l.length ∧ Inv s ∧ idxS step (l.drop j) j s = idxS step l 0 s0 ∧ k = l.length - j) _ ⟨0, s0, rfl, rfl, rfl, rfl, rfl, (Sk Sub.nil), Nat.zero_le _, h0, rfl, rfl⟩ ?_
 rintro _ ρ2 _ ⟨j, s, e3, e4, e5, e6, e7, hm8, hj, hs, hinv, rfl⟩
 obtain ⟨ρ9, rfl⟩ := Zc (uc e3 (uc e4 (uc e5 (uc e6 (uc e7 un)))))
 clear e3 e4 e5 e6 e7
 refine Z1 hm8 <| Zd <| Zb <| JLq (.bool (decide ((j : Int) < (l.length : Int)))) (Pu.lss rfl rfl) <| Za <| Zd <| Zi (b := decide ((j : Int) < (l.length : Int))) rfl (fun h10 => ?_) (fun h10 => ?_)
 ·replace h10 := dt h10
  have h10n : j < l.length := by omega
  have hlenl := hl.le
  refine Zp <| Zd <| Zs <| Zd <| Zb <| JLm (.int .i64 ((j : Int))) <| JLa (.int .i64 ((j : Int))) <| Za <| Zd <| Zb <| JLm (.func (.func g) ⟨fs⟩ ⟨cv⟩) <| JLm v <| JLm (.int .i64 ((j : Int))) ?_
  obtain ⟨b11, o11, cap11, row11, T11, fr11, cs11, hv11, hb11, hs11, hE11⟩ := hl.get j (by first | assumption | omega | decide | simp)
  refine JLq (.pointer (some ⟨b11, o11 + j * 37, none⟩)) (Pu.idx j Tryz.runUnderlying29 Z6 hv11 rfl rfl (by first | assumption | omega | decide | simp)) <| JLr (Zh Z6 rfl (At.im hb11) hs11 <| Zw 0 rfl hcall rfl rfl (fun hin => hg _ (List.getElem_mem h10n) _ hs _ _ (Hle.hu _ _) (RN.mono (Hle.hu _ _) hE11)) rfl ?_)
  rintro _ _ ⟨rfl, rfl⟩
  refine Za <| Zi (b := (step (l[j]) s).1) rfl (fun h12 => ?_) (fun h12 => ?_)
  ·refine Zd <| Zb <| JLm (.int .i64 ((j : Int))) <| JLa (.int .i64 ((j : Int))) <| Za <| Zl <| ⟨.int .i64 ((j : Int)), [Sc (step (l[j]) s).2], Ret.one rfl (RV.tmp rfl), (Sk Sub.nil), ?_⟩
   refine ⟨?_, ?_⟩ <;> rw [← hinv, Yt h10n, idxS, if_pos h12]
  refine Zp <| Zb <| JLq (.int .i64 (((j + 1 : Nat) : Int))) (Pu.inc rfl rfl (by omega)) <| JLm (.int .i64 (((j + 1 : Nat) : Int))) <| Za <| ⟨_, ?_, (j + 1), ((step (l[j]) s).2), rfl, rfl, rfl, rfl, rfl, (Sk Sub.nil), ?_, ?_, ?_, rfl⟩
  ·omega
  ·omega
  ·exact hI _ (List.getElem_mem h10n) s hs h12
  rw [Yt h10n, idxS, if_neg (by simp [h12])] at hinv; exact hinv
 replace h10 := df h10
 have h10n : l.length ≤ j := by omega
 refine ZM _ rfl <| Zd <| Zb <| JLa (.int .i64 (-1)) <| Za <| Zl <| ⟨.int .i64 (-1), [Sc s], Ret.one rfl (RV.tmp rfl), (Sk Sub.nil), ?_⟩
 refine ⟨?_, ?_⟩ <;> rw [← hinv, Xl h10n] <;> rfl
theorem idxNC_ct (g : Nat) (fs cv : List Value) (hcall : ∀ args w, (callFunc g args).run Tryz.prog w = .ok (.enter g args) w) {σ : Type} (Sc : σ → Zk) (Inv : σ → Prop) (step : (Pt × List ByteArray × Nm) → σ → Bool × σ) (l : List (Pt × List ByteArray × Nm)) (v : Value) (H : Heap) (hl : rdS RNC 73 H v l) (s0 : σ) (h0 : Inv s0) (hI : ∀ x ∈ l, ∀ s, Inv s → (step x s).1 = false → Inv (step x s).2) (hg : ∀ x ∈ l, ∀ s, Inv s → ∀ a h, Hle H h → RNC h a x → CT Tryz.prog g ⟨fs ++ [.agg ⟨a⟩] ++ cv⟩ [Sc s] h (fun v N => v = .bool (step x s).1 ∧ N = [Sc (step x s).2])) : CT Tryz.prog 93 ⟨[v, .func (.func g) ⟨fs⟩ ⟨cv⟩]⟩ [Sc s0] H (fun v N => v = .int .i64 (idxS step l 0 s0).1 ∧ N = [Sc (idxS step l 0 s0).2]) := by
 refine Zo Tryz.func93 rfl rfl <| Zd <| Zb <| JLa (.int .i64 0) <| Za <| Zd <| Zd <| Zb <| JLm v ?_
 obtain ⟨a1, cap1, hv1⟩ := hl.sl
 have hle1 := hl.le
 refine JLq (.int .i64 ((l.length : Int))) (Pu.lenSl Tryz.runUnderlying30 hv1) <| JLm (.int .i64 0) <| Za <| Zs <| ZU (fun k ρ M => ∃ (j : Nat) (s : σ), ρ 0 = v ∧ ρ 1 = .func (.func g) ⟨fs⟩ ⟨cv⟩ ∧ ρ 4 = .int .i64 0 ∧ ρ 7 = .int .i64 ((l.length : Int)) ∧ ρ 8 = .int .i64 ((j : Int)) ∧ Sub [Sc s] M ∧ j ≤ l.length ∧ Inv s ∧ idxS step (l.drop j) j s = idxS step l 0 s0 ∧ k = l.length - j) _ ⟨0, s0, rfl, rfl, rfl, rfl, rfl, (Sk Sub.nil), Nat.zero_le _, h0, rfl, rfl⟩ ?_
 rintro _ ρ2 _ ⟨j, s, e3, e4, e5, e6, e7, hm8, hj, hs, hinv, rfl⟩
 obtain ⟨ρ9, rfl⟩ := Zc (uc e3 (uc e4 (uc e5 (uc e6 (uc e7 un)))))
 clear e3 e4 e5 e6 e7
 refine Z1 hm8 <| Zd <| Zb <| JLq (.bool (decide ((j : Int) < (l.length : Int)))) (Pu.lss rfl rfl) <| Za <| Zd <| Zi (b := decide ((j : Int) < (l.length : Int))) rfl (fun h10 => ?_) (fun h10 => ?_)
 ·replace h10 := dt h10
  have h10n : j < l.length := by omega
  have hlenl := hl.le
  refine Zp <| Zd <| Zs <| Zd <| Zb <| JLm (.int .i64 ((j : Int))) <| JLa (.int .i64 ((j : Int))) <| Za <| Zd <| Zb <| JLm (.func (.func g) ⟨fs⟩ ⟨cv⟩) <| JLm v <| JLm (.int .i64 ((j : Int))) ?_
  obtain ⟨b11, o11, cap11, row11, T11, fr11, cs11, hv11, hb11, hs11, hE11⟩ := hl.get j (by first | assumption | omega | decide | simp)
  obtain ⟨ca11, va11, cb11, rfl, hA11, hV11, hB11⟩ := hE11
  refine JLq (.pointer (some ⟨b11, o11 + j * 73, none⟩)) (Pu.idx j Tryz.runUnderlying30 ty85 hv11 rfl rfl (by first | assumption | omega | decide | simp)) <| JLr (Zh ty85 rfl (At.im hb11) hs11 <| Zw 0 rfl hcall rfl rfl (fun hin => hg _ (List.getElem_mem h10n) _ hs _ _ (Hle.hu _ _) (RNC.mono (Hle.hu _ _) (RNC_mk hA11 hV11 hB11))) rfl ?_)
  rintro _ _ ⟨rfl, rfl⟩
  refine Za <| Zi (b := (step (l[j]) s).1) rfl (fun h12 => ?_) (fun h12 => ?_)
  ·refine Zd <| Zb <| JLm (.int .i64 ((j : Int))) <| JLa (.int .i64 ((j : Int))) <| Za <| Zl <| ⟨.int .i64 ((j : Int)), [Sc (step (l[j]) s).2], Ret.one rfl (RV.tmp rfl), (Sk Sub.nil), ?_⟩
   refine ⟨?_, ?_⟩ <;> rw [← hinv, Yt h10n, idxS, if_pos h12]
  refine Zp <| Zb <| JLq (.int .i64 (((j + 1 : Nat) : Int))) (Pu.inc rfl rfl (by omega)) <| JLm (.int .i64 (((j + 1 : Nat) : Int))) <| Za <| ⟨_, ?_, (j + 1), ((step (l[j]) s).2), rfl, rfl, rfl, rfl, rfl, (Sk Sub.nil), ?_, ?_, ?_, rfl⟩
  ·omega
  ·omega
  ·exact hI _ (List.getElem_mem h10n) s hs h12
  rw [Yt h10n, idxS, if_neg (by simp [h12])] at hinv; exact hinv
 replace h10 := df h10
 have h10n : l.length ≤ j := by omega
 refine ZM _ rfl <| Zd <| Zb <| JLa (.int .i64 (-1)) <| Za <| Zl <| ⟨.int .i64 (-1), [Sc s], Ret.one rfl (RV.tmp rfl), (Sk Sub.nil), ?_⟩
 refine ⟨?_, ?_⟩ <;> rw [← hinv, Xl h10n] <;> rfl
theorem containsN_ct (g : Nat) (fs cv : List Value) (hcall : ∀ args w, (callFunc g args).run Tryz.prog w = .ok (.enter g args) w) {σ : Type} (Sc : σ → Zk) (Inv : σ → Prop) (step : Nm → σ → Bool × σ) (l : List Nm) (v : Value) (H : Heap) (hl : rdS RN 37 H v l) (s0 : σ) (h0 : Inv s0) (hI : ∀ x ∈ l, ∀ s, Inv s → (step x s).1 = false → Inv (step x s).2) (hg : ∀ x ∈ l, ∀ s, Inv s → ∀ a h, Hle H h → RN h a x → CT Tryz.prog g ⟨fs ++ [.agg ⟨a⟩] ++ cv⟩ [Sc s] h (fun v N => v = .bool (step x s).1 ∧ N = [Sc (step x s).2])) : CT Tryz.prog 38 ⟨[v, .func (.func g) ⟨fs⟩ ⟨cv⟩]⟩ [Sc s0] H (fun v N => v = .bool (ZS step l s0).1 ∧ N = [Sc (ZS step l s0).2]) := by
 refine Zo Tryz.func38 rfl rfl <| Zd <| Zb <| JLa (.bool false) <| Za <| Zd <| Zb <| JLm v <| JLm (.func (.func g) ⟨fs⟩ ⟨cv⟩) <| Zw 0 rfl Tryz.call92 rfl rfl (fun hin => idxN_ct g fs cv hcall Sc Inv step _ _ _ (RNs.mono (Hle.hu _ _) hl) s0 h0 hI (fun x hx s hs a h hh ra => hg x hx s hs a h (Hle.trans (Hle.hu _ _) hh) ra)) rfl ?_
 rintro _ _ ⟨rfl, rfl⟩
 refine JLq (.bool (decide (0 ≤ (idxS step l 0 s0).1))) (Pu.geq rfl rfl) <| JLa (.bool (decide (0 ≤ (idxS step l 0 s0).1))) <| Za <| Zl <| ⟨.bool (decide (0 ≤ (idxS step l 0 s0).1)), [Sc (idxS step l 0 s0).2], Ret.one rfl (RV.tmp rfl), (Sk Sub.nil), ?_⟩
 exact ⟨by rw [(Y5 step l 0 s0).1], by rw [(Y5 step l 0 s0).2]⟩
theorem containsNC_ct (g : Nat) (fs cv : List Value) (hcall : ∀ args w, (callFunc g args).run Tryz.prog w = .ok (.enter g args) w) {σ : Type} (Sc : σ → Zk) (Inv : σ → Prop) (step : (Pt × List ByteArray × Nm) → σ → Bool × σ) (l : List (Pt × List ByteArray × Nm)) (v : Value) (H : Heap) (hl : rdS RNC 73 H v l) (s0 : σ) (h0 : Inv s0) (hI : ∀ x ∈ l, ∀ s, Inv s → (step x s).1 = false → Inv (step x s).2) (hg : ∀ x ∈ l, ∀ s, Inv s → ∀ a h, Hle H h → RNC h a x → CT Tryz.prog g ⟨fs ++ [.agg ⟨a⟩] ++ cv⟩ [Sc s] h (fun v N => v = .bool (step x s).1 ∧ N = [Sc (step x s).2])) : CT Tryz.prog 39 ⟨[v, .func (.func g) ⟨fs⟩ ⟨cv⟩]⟩ [Sc s0] H (fun v N => v = .bool (ZS step l s0).1 ∧ N = [Sc (ZS step l s0).2]) := by
 refine Zo Tryz.func39 rfl rfl <| Zd <| Zb <| JLa (.bool false) <| Za <| Zd <| Zb <| JLm v <| JLm (.func (.func g) ⟨fs⟩ ⟨cv⟩) <| Zw 0 rfl Tryz.call93 rfl rfl (fun hin => idxNC_ct g fs cv hcall Sc Inv step _ _ _ (RNCs.mono (Hle.hu _ _) hl) s0 h0 hI (fun x hx s hs a h hh ra => hg x hx s hs a h (Hle.trans (Hle.hu _ _) hh) ra)) rfl ?_
 rintro _ _ ⟨rfl, rfl⟩
 refine JLq (.bool (decide (0 ≤ (idxS step l 0 s0).1))) (Pu.geq rfl rfl) <| JLa (.bool (decide (0 ≤ (idxS step l 0 s0).1))) <| Za <| Zl <| ⟨.bool (decide (0 ≤ (idxS step l 0 s0).1)), [Sc (idxS step l 0 s0).2], Ret.one rfl (RV.tmp rfl), (Sk Sub.nil), ?_⟩
 exact ⟨by rw [(Y5 step l 0 s0).1], by rw [(Y5 step l 0 s0).2]⟩
end Go.Proofs.YtmophpgiaiemhaaGreat.Hs
/-! Walks, printed by a program of this session's own (gen.py). -/
namespace Go.Proofs.YtmophpgiaiemhaaGreat.Hs
open Go Go.Proofs
set_option maxRecDepth 100000
set_option linter.unusedVariables false
set_option linter.unusedSimpArgs false
attribute [local irreducible] JL J CT wlo
theorem longNK_ct : ∀ (x : Nm) (d s : Int) (a : List Value) (H : Heap) (bL bA bD : Nat), RN H a x → H bA = some (.cells ⟨[.pointer (some ⟨bL, 0, none⟩)]⟩ 112 (0, 0)) → H bD = some (.cells ⟨[.int .i64 d]⟩ 3 (0, 0)) → 0 ≤ d → d ≤ 100 → (∀ h a, Hle H h → RN h a x → CT Tryz.prog 66 ⟨[.pointer (some ⟨bL, 0, none⟩), .agg ⟨a⟩, .int .i64 (d + 1)]⟩ [[(bL, .cells ⟨[.int .i64 s]⟩ 114 (0, 0))]] h (fun v N => v = .bool (cnN stL (d + 1) x s).1 ∧ N = [[(bL, .cells ⟨[.int .i64 ((cnN stL (d + 1) x s).2)]⟩ 114 (0, 0))]])) → CT Tryz.prog 114 ⟨[.agg ⟨a⟩, .pointer (some ⟨bA, 0, none⟩), .pointer (some ⟨bD, 0, none⟩)]⟩ [[(bL, .cells ⟨[.int .i64 s]⟩ 114 (0, 0))]] H (fun v N => v = .bool (cnN stL (d + 1) x s).1 ∧ N = [[(bL, .cells ⟨[.int .i64 ((cnN stL (d + 1) x s).2)]⟩ 114 (0, 0))]]) := by
 intro x d s a H bL bA bD ra hH1 hH5 hd0 hd1 hg
 refine Zo Tryz.func114 rfl rfl <| Zd <| Zb <| JLr (Zt (l := a) rfl rfl fun b1 => JLa (.bool false) <| Za <| Zd <| Zb <| JLr (Zf ty112 rfl (At.im hH1) rfl <| JLr (Zh Z6 rfl (At.bx 0 rfl) (Zx (YQ ra)) <| JLr (Zf ty3 rfl (At.im hH5) rfl <| JLq (.int .i64 (d + 1)) (Pu.add64 rfl rfl (by first | omega | (constructor <;> omega))) <| Zw 1 rfl Tryz.call66 rfl rfl (fun hin => hg _ _ (Hle.hu _ _) (RN.mono (Hle.hu _ _) ra)) rfl ?_))))
 rintro _ _ ⟨rfl, rfl⟩
 refine JLa (.bool ((cnN stL (d + 1) x s).1)) <| Za <| Zl <| ⟨.bool ((cnN stL (d + 1) x s).1), [[(bL, .cells ⟨[.int .i64 ((cnN stL (d + 1) x s).2)]⟩ 114 (0, 0))]], Ret.one rfl (RV.tmp rfl), (Sk Sub.nil), ?_⟩
 exact ⟨rfl, rfl⟩
theorem longNC_ct : ∀ (c : Pt × List ByteArray × Nm) (d n : Int) (a : List Value) (H : Heap) (bL bA bD bK : Nat), RNC H a c → 0 ≤ n → n ≤ 300 → 0 ≤ d → d ≤ 60 → H bA = some (.cells ⟨[.pointer (some ⟨bL, 0, none⟩)]⟩ 112 (0, 0)) → H bD = some (.cells ⟨[.int .i64 d]⟩ 3 (0, 0)) → H bK = some (.cells ⟨[.func (.func 114) ⟨[]⟩ ⟨[.pointer (some ⟨bA, 0, none⟩), .pointer (some ⟨bD, 0, none⟩)]⟩]⟩ 34 (0, 0)) → (∀ s a h, Hle H h → RN h a c.2.2 → 0 ≤ s → s ≤ 300 → CT Tryz.prog 66 ⟨[.pointer (some ⟨bL, 0, none⟩), .agg ⟨a⟩, .int .i64 (d + 1)]⟩ [[(bL, .cells ⟨[.int .i64 s]⟩ 114 (0, 0))]] h (fun v N => v = .bool (cnN stL (d + 1) c.2.2 s).1 ∧ N = [[(bL, .cells ⟨[.int .i64 ((cnN stL (d + 1) c.2.2 s).2)]⟩ 114 (0, 0))]])) → CT Tryz.prog 115 ⟨[.agg ⟨a⟩, .pointer (some ⟨bA, 0, none⟩), .pointer (some ⟨bD, 0, none⟩), .pointer (some ⟨bK, 0, none⟩)]⟩ [[(bL, .cells ⟨[.int .i64 n]⟩ 114 (0, 0))]] H (fun v N => v = .bool (cnNC stL (d + 1) c n).1 ∧ N = [[(bL, .cells ⟨[.int .i64 ((cnNC stL (d + 1) c n).2)]⟩ 114 (0, 0))]]) := by
 intro c d n a H bL bA bD bK ⟨ca, va, cb, e1, ra1, ra2, ra3⟩ hn0 hn1 hd0 hd1 hH1 hH5 hH7 hg
 subst e1
 refine Zo Tryz.func115 rfl rfl <| Zd <| Zb <| JLr (Zt (l := ca ++ (([va]) ++ cb)) rfl rfl fun b1 => JLa (.bool false) <| Za <| Zd <| Zb <| JLr (Zf ty112 rfl (At.im hH1) rfl <| JLq (.pointer (some ⟨b1, 0, none⟩)) (fa85_0 rfl rfl) <| JLr (Zh Z5 rfl (At.bx 0 rfl) (sub_l (ZJ ra1)) <| JLr (Zf ty3 rfl (At.im hH5) rfl <| JLq (.int .i64 (d + 1)) (Pu.add64 rfl rfl (by first | omega | (constructor <;> omega))) ?_))))
 refine Zw 1 rfl Tryz.call116 rfl rfl (fun hin => longP_ct _ _ _ _ _ _ (RP.mono (Hle.hu _ _) ra1) (by omega) (by omega) (by omega) (by omega)) rfl ?_
 rintro _ _ ⟨rfl, rfl⟩
 refine JLm (.bool ((cnP stL (d + 1) (c.1) n).1)) ?_
 cases h3 : ((cnP stL (d + 1) (c.1) n).1) with
 | true =>
  iterate 4 refine Zy rfl ?_
  refine JLq (.bool true) (Pu.pickT rfl rfl) <| JLa (.bool true) <| Za <| Zl <| ⟨.bool true, [[(bL, .cells ⟨[.int .i64 ((cnP stL (d + 1) (c.1) n).2)]⟩ 114 (0, 0))]], Ret.one rfl (RV.tmp rfl), (Sk Sub.nil), ?_⟩
  refine ⟨?_, ?_⟩ <;> rw [cnNC, cnC, if_pos h3]
 | false =>
  refine JLr (Zf ty34 rfl (At.im hH7) rfl <| JLq (.pointer (some ⟨b1, 36, none⟩)) (fa85_2 rfl rfl) <| JLr (Zh Z6 rfl (At.bx 1 rfl) (sub_app_r (n := 35) (i := 1) (ZJ ra1) (sub_r rfl (YQ ra3))) <| Zw 0 rfl Tryz.call114 rfl rfl (fun hin => longNK_ct _ d _ _ _ bL bA bD (RN.mono (Hle.hu _ _) ra3) (Hle.hu _ _ _ _ hH1) (Hle.hu _ _ _ _ hH5) (by omega) (by omega) (fun h' a' hh' ra' => hg _ _ _ (Hle.trans (Hle.hu _ _) hh') ra' (cnP_keep stL_le _ _ _ hn0 h3).1 (cnP_keep stL_le _ _ _ hn0 h3).2)) rfl ?_))
  rintro _ _ ⟨rfl, rfl⟩
  refine JLq (.bool ((cnN stL (d + 1) (c.2.2) ((cnP stL (d + 1) (c.1) n).2)).1)) (Pu.pickF rfl rfl) <| JLa (.bool ((cnN stL (d + 1) (c.2.2) ((cnP stL (d + 1) (c.1) n).2)).1)) <| Za <| Zl <| ⟨.bool ((cnN stL (d + 1) (c.2.2) ((cnP stL (d + 1) (c.1) n).2)).1), [[(bL, .cells ⟨[.int .i64 ((cnN stL (d + 1) (c.2.2) ((cnP stL (d + 1) (c.1) n).2)).2)]⟩ 114 (0, 0))]], Ret.one rfl (RV.tmp rfl), (Sk Sub.nil), ?_⟩
  refine ⟨?_, ?_⟩ <;> rw [cnNC, cnC, if_neg (by simp [h3])] <;> rfl
theorem longN_ct : ∀ (t : Nm) (d n : Int) (cs : List Value) (H : Heap) (bL : Nat), RN H cs t → 0 ≤ n → n ≤ 300 → 0 ≤ d → d ≤ 61 → CT Tryz.prog 66 ⟨[.pointer (some ⟨bL, 0, none⟩), .agg ⟨cs⟩, .int .i64 d]⟩ [[(bL, .cells ⟨[.int .i64 n]⟩ 114 (0, 0))]] H (fun v N => v = .bool (cnN stL d t n).1 ∧ N = [[(bL, .cells ⟨[.int .i64 ((cnN stL d t n).2)]⟩ 114 (0, 0))]]) := by
 intro t
 induction t using Nm.ind with
 | h kind num ref ns kids cases ih ih' =>
 intro d n cs H bL ht hn0 hn1 hd0 hd1
 obtain ⟨nv, ks, cv, rfl, hk, hn, hns, hks, hcv⟩ := RN_mk.1 ht
 refine Zo Tryz.func66 rfl rfl <| Zd <| Zb <| JLr (Zt (l := [.pointer (some ⟨bL, 0, none⟩)]) rfl rfl fun b1 => JLr (Zt (l := pkN kind num ref nv ks cv) rfl rfl fun b2 => JLr (Zt (l := [.int .i64 d]) rfl rfl fun b3 => JLa (.bool false) <| Za <| Zd <| Zd <| Zb <| JLr (Zf ty112 rfl (At.bx 2 rfl) rfl <| JLq (.pointer (some ⟨bL, 0, none⟩)) (Pu.nilCheck rfl) ?_))))
 refine JLq (.pointer (some ⟨bL, 0, none⟩)) (fa114_0 rfl rfl) <| JLr (Zf ty3 rfl (At.bx 3 rfl) rfl <| JLq (.int .i64 (n + 1)) (Pu.add64 rfl rfl (by first | omega | (constructor <;> omega))) <| JLq (.pointer (some ⟨bL, 0, none⟩)) (Pu.nilCheck rfl) <| JLq (.pointer (some ⟨bL, 0, none⟩)) (fa114_0 rfl rfl) <| JLr (Ze 3 (vs := [.int .i64 (n + 1)]) (l := [.int .i64 (n + 1)]) ty3 rfl rfl rfl rfl rfl (Zm rfl Zv) rfl <| Za <| Yo (fun ρ M => ρ 3 = .pointer (some ⟨b1, 0, none⟩) ∧ ρ 4 = .pointer (some ⟨b2, 0, none⟩) ∧ ρ 5 = .pointer (some ⟨b3, 0, none⟩) ∧ ρ 6 = .bool false ∧ ρ 23 = .bool ((decide (300 < n + 1)) || (decide (60 < d))) ∧ M = [[(b3, .cells ⟨[.int .i64 d]⟩ 3 (0, 0))], [(b2, .cells ⟨pkN kind num ref nv ks cv⟩ 32 (0, 0))], [(b1, .cells ⟨[.pointer (some ⟨bL, 0, none⟩)]⟩ 112 (0, 0))], [(bL, .cells ⟨[.int .i64 (n + 1)]⟩ 114 (0, 0))]]) ?_ ?_))
 ·refine Zb <| JLr (Zf ty112 rfl (At.bx 2 rfl) rfl <| JLq (.pointer (some ⟨bL, 0, none⟩)) (Pu.nilCheck rfl) <| JLq (.pointer (some ⟨bL, 0, none⟩)) (fa114_0 rfl rfl) <| JLr (Zf ty3 rfl (At.bx 3 rfl) rfl <| JLq (.bool (decide (300 < n + 1))) (Pu.gtr rfl rfl) <| JLm (.bool (decide (300 < n + 1))) ?_))
  cases h4 : (decide (300 < n + 1)) with
  | true =>
   replace h4 := dt h4
   iterate 2 refine Zy rfl ?_
   refine JLq (.bool true) (Pu.pickT rfl rfl) <| Za ?_
   first | exact ⟨rfl, rfl, rfl, rfl, rfl, rfl⟩ | (exfalso; omega)
  | false =>
   replace h4 := df h4
   refine JLr (Zf ty3 rfl (At.bx 0 rfl) rfl <| JLq (.bool (decide (60 < d))) (Pu.gtr rfl rfl) <| JLq (.bool (decide (60 < d))) (Pu.pickF rfl rfl) <| Za ?_)
   first | exact ⟨rfl, rfl, rfl, rfl, rfl, rfl⟩ | (exfalso; omega)
 rintro ρ5 _ ⟨e6, e7, e8, e9, e10, rfl⟩
 obtain ⟨ρ11, rfl⟩ := Zc (uc e6 (uc e7 (uc e8 (uc e9 (uc e10 un)))))
 clear e6 e7 e8 e9 e10
 refine Zi (b := (decide (300 < n + 1)) || (decide (60 < d))) rfl (fun h12 => ?_) (fun h12 => ?_)
 ·refine Zd <| Zb <| JLa (.bool true) <| Za <| Zl <| ⟨.bool true, [[(bL, .cells ⟨[.int .i64 (n + 1)]⟩ 114 (0, 0))]], Ret.one rfl (RV.tmp rfl), (Sd (Sd (Sd (Sk Sub.nil)))), ?_⟩
  refine ⟨?_, ?_⟩ <;> rw [cnN_eq, if_pos (by simpa [stL] using h12)]
 obtain ⟨h12a, h12b⟩ := orF h12
 replace h12a := df h12a
 replace h12b := df h12b
 refine Zp <| Zd <| Zb <| JLq (.func (.func 114) ⟨[]⟩ ⟨[.pointer (some ⟨b1, 0, none⟩), .pointer (some ⟨b3, 0, none⟩)]⟩) (Pu.makeFunc rfl rfl) <| JLr (Zj (l := [.nilFunc]) Tryz.zeroValue34 rfl fun b13 => JLr (Ze 0 (vs := [.func (.func 114) ⟨[]⟩ ⟨[.pointer (some ⟨b1, 0, none⟩), .pointer (some ⟨b3, 0, none⟩)]⟩]) (l := [.func (.func 114) ⟨[]⟩ ⟨[.pointer (some ⟨b1, 0, none⟩), .pointer (some ⟨b3, 0, none⟩)]⟩]) ty34 rfl rfl rfl rfl rfl (Zm rfl Zv) rfl <| Za <| Zd <| Zb <| JLq (.pointer (some ⟨b2, 35, none⟩)) (Xk rfl rfl) <| JLr (Zf ty29 rfl (At.bx 2 rfl) (pkN_35 ..) <| JLr (Zf ty34 rfl (At.bx 0 rfl) rfl <| Zw 4 rfl Tryz.call38 rfl rfl (fun hin => containsN_ct 114 [] [.pointer (some ⟨b1, 0, none⟩), .pointer (some ⟨b3, 0, none⟩)] (fun _ _ => rfl) (fun n => [(bL, .cells ⟨[.int .i64 n]⟩ 114 (0, 0))]) (fun n => 0 ≤ n ∧ n ≤ 300) (cnN stL (d + 1)) _ _ _ (RNs.mono (Hle.hu _ _) hks) (n + 1) ⟨by omega, by omega⟩ (fun x hx s hs hf => cnN_keep stL_le x _ s hs.1 hf) (fun x hx s hs a h hh ra => longNK_ct x d s a h bL b1 b3 ra (hh _ _ (hin 3 _ rfl _ _ List.mem_cons_self)) (hh _ _ (hin 1 _ rfl _ _ List.mem_cons_self)) (by omega) (by omega) (fun h' a' hh' ra' => ih x hx (d + 1) s a' h' bL ra' hs.1 hs.2 (by omega) (by omega)))) rfl ?_))))
 rintro _ _ ⟨rfl, rfl⟩
 refine JLm (.bool ((ZS (cnN stL (d + 1)) kids (n + 1)).1)) ?_
 cases h15 : ((ZS (cnN stL (d + 1)) kids (n + 1)).1) with
 | true =>
  iterate 4 refine Zy rfl ?_
  refine JLq (.bool true) (Pu.pickT rfl rfl) <| JLa (.bool true) <| Za <| Zl <| ⟨.bool true, [[(bL, .cells ⟨[.int .i64 ((ZS (cnN stL (d + 1)) kids (n + 1)).2)]⟩ 114 (0, 0))]], Ret.one rfl (RV.tmp rfl), (Sk Sub.nil), ?_⟩
  refine ⟨?_, ?_⟩ <;> rw [cnN_eq, if_neg (by simp [stL]; omega), if_pos h15]
 | false =>
  refine JLq (.pointer (some ⟨b2, 36, none⟩)) (fa32_5 rfl rfl) <| JLr (Zf ty30 rfl (At.bx 3 rfl) (pkN_36 ..) <| JLq (.func (.func 115) ⟨[]⟩ ⟨[.pointer (some ⟨b1, 0, none⟩), .pointer (some ⟨b3, 0, none⟩), .pointer (some ⟨b13, 0, none⟩)]⟩) (Pu.makeFunc rfl rfl) <| Zw 0 rfl Tryz.call39 rfl rfl (fun hin => containsNC_ct 115 [] [.pointer (some ⟨b1, 0, none⟩), .pointer (some ⟨b3, 0, none⟩), .pointer (some ⟨b13, 0, none⟩)] (fun _ _ => rfl) (fun n => [(bL, .cells ⟨[.int .i64 n]⟩ 114 (0, 0))]) (fun n => 0 ≤ n ∧ n ≤ 300) (cnNC stL (d + 1)) _ _ _ (RNCs.mono (Hle.hu _ _) hcv) ((ZS (cnN stL (d + 1)) kids (n + 1)).2) (anyN_keep stL_le _ _ _ (by omega) (by omega) h15) (fun x hx s hs hf => cnNC_keep stL_le x _ s hs.1 hf) (fun x hx s hs a h hh ra => longNC_ct x d s a h bL b1 b3 b13 ra hs.1 hs.2 (by omega) (by omega) (hh _ _ (hin 3 _ rfl _ _ List.mem_cons_self)) (hh _ _ (hin 1 _ rfl _ _ List.mem_cons_self)) (hh _ _ (hin 0 _ rfl _ _ List.mem_cons_self)) (fun s' a' h' hh' ra' k1 k2 => ih' x hx (d + 1) s' a' h' bL ra' k1 k2 (by omega) (by omega)))) rfl ?_)
  rintro _ _ ⟨rfl, rfl⟩
  refine JLq (.bool ((ZS (cnNC stL (d + 1)) cases ((ZS (cnN stL (d + 1)) kids (n + 1)).2)).1)) (Pu.pickF rfl rfl) <| JLa (.bool ((ZS (cnNC stL (d + 1)) cases ((ZS (cnN stL (d + 1)) kids (n + 1)).2)).1)) <| Za <| Zl <| ⟨.bool ((ZS (cnNC stL (d + 1)) cases ((ZS (cnN stL (d + 1)) kids (n + 1)).2)).1), [[(bL, .cells ⟨[.int .i64 ((ZS (cnNC stL (d + 1)) cases ((ZS (cnN stL (d + 1)) kids (n + 1)).2)).2)]⟩ 114 (0, 0))]], Ret.one rfl (RV.tmp rfl), (Sk Sub.nil), ?_⟩
  refine ⟨?_, ?_⟩ <;> rw [cnN_eq, if_neg (by simp [stL]; omega), if_neg (by simp [h15])]
theorem nameF_ct (n : Int) (s : List ByteArray) (v : Value) (H : Heap) (bF : Nat) (hs : Hs.rdS RS 1 H v s) (hF : H bF = some (.cells ⟨[v]⟩ 28 (0, 0))) : CT Tryz.prog 64 ⟨[.int .i64 n, .pointer (some ⟨bF, 0, none⟩)]⟩ [] H (fun v N => v = .bool (decide (n < (s.length : Int))) ∧ N = []) := by
 refine Zo Tryz.func64 rfl rfl <| Zd <| Zb <| JLa (.bool false) <| Za <| Zd <| Zb <| JLm (.int .i64 n) <| JLr (Zf YG rfl (At.im hF) rfl ?_)
 obtain ⟨a1, cap1, hv1⟩ := hs.sl
 have hle1 := hs.le
 refine JLq (.int .i64 ((s.length : Int))) (Pu.lenSl Tryz.runUnderlying28 hv1) <| JLq (.bool (decide (n < (s.length : Int)))) (Pu.lss rfl rfl) <| JLa (.bool (decide (n < (s.length : Int)))) <| Za <| Zl <| ⟨.bool (decide (n < (s.length : Int))), [], Ret.one rfl (RV.tmp rfl), Sub.nil, ?_⟩
 exact ⟨rfl, rfl⟩
end Go.Proofs.YtmophpgiaiemhaaGreat.Hs
/-! Walks, printed by a program of this session's own (gen.py). -/
namespace Go.Proofs.YtmophpgiaiemhaaGreat.Hs
open Go Go.Proofs
set_option maxRecDepth 100000
set_option linter.unusedVariables false
set_option linter.unusedSimpArgs false
attribute [local irreducible] JL J CT wlo
theorem namelessE_ct (n : Nm) (s : List ByteArray) (cs : List Value) (v : Value) (H : Heap) (hn_ : RN H cs n) (hs : strR H v s) : CT Tryz.prog 18 ⟨[.agg ⟨cs⟩, v]⟩ [] H (fun v N => ∃ cs k, v = .tuple ⟨[.agg ⟨cs⟩, .int .i64 (Z9 n s).2]⟩ ∧ N = [k] ∧ OT (Z9 n s).1 cs k) := by
 refine Zo Tryz.func18 rfl rfl <| Zd <| Zb <| JLr (Zt (l := cs) rfl rfl fun b1 => JLr (Zj (l := pkT 0 0 zS (.slice none 0 0) (.slice none 0 0)) Tryz.zeroValue27 rfl fun b2 => JLa (.int .i64 0) <| Za <| Zd <| Zd <| Zb <| JLm v ?_))
 obtain ⟨a3, cap3, hv3⟩ := hs.rd.sl
 have hle3 := hs.rd.le
 refine JLq (.int .i64 ((s.length : Int))) (Pu.lenSl Tryz.runUnderlying28 hv3) <| JLq (.bool (decide (60 < (s.length : Int)))) (Pu.gtr rfl rfl) <| JLm (.bool (decide (60 < (s.length : Int)))) ?_
 cases h4 : (decide (60 < (s.length : Int))) with
 | true =>
  replace h4 := dt h4
  iterate 4 refine Zy rfl ?_
  refine JLq (.bool true) (Pu.pickT rfl rfl) <| Za <| Zi (b := true) rfl (fun _ => ?_) (fun h => absurd h (by simp))
  refine Zd <| Zb <| JLq (.agg ⟨pkT 0 0 zS (.slice none 0 0) (.slice none 0 0)⟩) (Pu.build (pv := []) (l := pkT 0 0 zS (.slice none 0 0) (.slice none 0 0)) rfl (YW )) <| JLr (Ze 0 (vs := pkT 0 0 zS (.slice none 0 0) (.slice none 0 0)) (l := pkT 0 0 zS (.slice none 0 0) (.slice none 0 0)) Zu rfl rfl rfl rfl rfl (ZI rfl rfl) (Z0 ..) <| JLa (.int .i64 11) <| Za <| Zl <| ⟨.tuple ⟨[.agg ⟨pkT 0 0 zS (.slice none 0 0) (.slice none 0 0)⟩, .int .i64 11]⟩, [[]], Ret.two rfl (RV.cell Zu rfl (At.bx 0 rfl) (ZZ ..)) (RV.tmp rfl), (Sub.emp Sub.nil), ?_⟩)
  have hx : Z9 n s = (zT, 11) := by rw [Z9, if_pos (by first | exact .inl (by omega) | exact .inr (by assumption))]
  exact ⟨_, _, by rw [hx], rfl, by rw [hx]; exact Yy⟩
 | false =>
  replace h4 := df h4
  refine JLq (.agg ⟨[.int .i64 0]⟩) (Pu.build (pv := []) (l := [.int .i64 0]) rfl bld114_) <| JLr (Zt (l := [.int .i64 0]) rfl rfl fun b5 => JLr (Zh Z6 rfl (At.bx 2 rfl) (Zx (YQ hn_)) <| Zw 0 rfl Tryz.call66 rfl rfl (fun hin => longN_ct _ _ _ _ _ _ (RN.mono (Hle.hu _ _) hn_) (by omega) (by omega) (by omega) (by omega)) rfl ?_))
  rintro _ _ ⟨rfl, rfl⟩
  refine JLq (.bool ((cnN stL 1 n 0).1)) (Pu.pickF rfl rfl) <| Za <| Zi (b := (cnN stL 1 n 0).1) rfl (fun h7 => ?_) (fun h7 => ?_)
  ·refine Zd <| Zb <| JLq (.agg ⟨pkT 0 0 zS (.slice none 0 0) (.slice none 0 0)⟩) (Pu.build (pv := []) (l := pkT 0 0 zS (.slice none 0 0) (.slice none 0 0)) rfl (YW )) <| JLr (Ze 1 (vs := pkT 0 0 zS (.slice none 0 0) (.slice none 0 0)) (l := pkT 0 0 zS (.slice none 0 0) (.slice none 0 0)) Zu rfl rfl rfl rfl rfl (ZI rfl rfl) (Z0 ..) <| JLa (.int .i64 11) <| Za <| Zl <| ⟨.tuple ⟨[.agg ⟨pkT 0 0 zS (.slice none 0 0) (.slice none 0 0)⟩, .int .i64 11]⟩, [[]], Ret.two rfl (RV.cell Zu rfl (At.bx 1 rfl) (ZZ ..)) (RV.tmp rfl), (Sub.emp Sub.nil), ?_⟩)
   have hx : Z9 n s = (zT, 11) := by rw [Z9, if_pos (by first | exact .inl (by omega) | exact .inr (by assumption))]
   exact ⟨_, _, by rw [hx], rfl, by rw [hx]; exact Yy⟩
  refine Zp <| Zd ?_
  have hq0 : ¬ (60 < s.length ∨ (cnN stL 1 n 0).1 = true) := by rintro (q | q); omega; simp_all
  refine Zb <| JLr (Zh Z6 rfl (At.bx 2 rfl) (Zx (YQ hn_)) <| JLm v <| Zg rfl Tryz.call67 rfl (fun hin => namelessI_ct _ _ _ _ _ (RN.mono (Hle.hu _ _) hn_) (RSs.mono (Hle.hu _ _) hs.rd) (by have := long_size ‹(cnN stL 1 n 0).1 = false›; omega)) rfl ?_)
  rintro _ _ ⟨cs8, k8, rfl, rfl, hO8⟩
  refine JLm (.tuple ⟨[.agg ⟨cs8⟩, .int .i64 ((nlT n s).2)]⟩) <| JLq (.agg ⟨cs8⟩) (Pu.extract rfl rfl) <| JLq (.int .i64 ((nlT n s).2)) (Pu.extract rfl rfl) <| JLr (Zj (l := pkT 0 0 zS (.slice none 0 0) (.slice none 0 0)) Tryz.zeroValue27 rfl fun b9 => JLr (Ze 0 (vs := cs8) (l := cs8) Zu rfl rfl rfl rfl hO8.len hO8.ok (ZL (n := 36) rfl hO8.len) <| JLa (.int .i64 ((nlT n s).2)) <| Za <| Zd <| Zd <| Zb <| JLm (.int .i64 ((nlT n s).2)) <| JLq (.bool (decide ((nlT n s).2 = 0))) (Pu.eql rfl rfl) <| Za ?_))
  refine Zi (b := decide ((nlT n s).2 = 0)) rfl (fun h10 => ?_) (fun h10 => ?_)
  ·replace h10 := dt h10
   refine Zb <| JLr (Zh Zu rfl (At.bx 0 rfl) (Zx hO8.len) <| JLr (Zr (vs := [.agg ⟨cs8⟩]) [cs8] Tryz.runUnderlying24 el27 rfl rfl (by intro e he; simp only [List.mem_cons, List.not_mem_nil, or_false] at he; subst he; exact hO8.len) rfl (by decide) fun b11 k11 ho11 hk11 => Zg rfl Tryz.call61 rfl (fun hin => right_ct _ _ _ (Own.rd1 ho11 (hin 0 _ rfl) (hO8.rd (hin 2 _ rfl)))) rfl ?_))
   rintro _ _ ⟨rfl, rfl⟩
   refine JLa (.int .i64 (ZE [(nlT n s).1])) <| Za <| Zd <| Zd <| Zb <| JLm (.int .i64 (ZE [(nlT n s).1])) <| JLq (.bool (!decide (ZE [(nlT n s).1] = 0))) (Pu.neq rfl rfl) <| Za <| Zi (b := !decide (ZE [(nlT n s).1] = 0)) rfl (fun h12 => ?_) (fun h12 => ?_)
   ·replace h12 := nt h12
    replace h12 := df h12
    refine Zd <| Zb <| JLq (.agg ⟨pkT 0 0 zS (.slice none 0 0) (.slice none 0 0)⟩) (Pu.build (pv := []) (l := pkT 0 0 zS (.slice none 0 0) (.slice none 0 0)) rfl (YW )) <| JLm (.int .i64 (ZE [(nlT n s).1])) <| JLr (Ze 4 (vs := pkT 0 0 zS (.slice none 0 0) (.slice none 0 0)) (l := pkT 0 0 zS (.slice none 0 0) (.slice none 0 0)) Zu rfl rfl rfl rfl rfl (ZI rfl rfl) (Z0 ..) <| JLa (.int .i64 (ZE [(nlT n s).1])) <| Za <| Zl <| ⟨.tuple ⟨[.agg ⟨pkT 0 0 zS (.slice none 0 0) (.slice none 0 0)⟩, .int .i64 (ZE [(nlT n s).1])]⟩, [[]], Ret.two rfl (RV.cell Zu rfl (At.bx 4 rfl) (ZZ ..)) (RV.tmp rfl), (Sub.emp Sub.nil), ?_⟩)
    have hx : Z9 n s = (zT, ZE [(nlT n s).1]) := by rw [Z9, if_neg hq0, if_neg (fun q => q (by assumption)), if_neg (by assumption)]
    exact ⟨_, _, by rw [hx], rfl, by rw [hx]; exact Yy⟩
   replace h12 := nf h12
   replace h12 := dt h12
   refine Zp <| Zd <| Zb <| JLr (Zh Zu rfl (At.bx 1 rfl) (Zx hO8.len) <| JLr (Ze 4 (vs := cs8) (l := cs8) Zu rfl rfl rfl rfl hO8.len hO8.ok (ZL (n := 36) rfl hO8.len) <| JLa (.int .i64 0) <| Za <| Zl <| ⟨.tuple ⟨[.agg ⟨cs8⟩, .int .i64 0]⟩, [k8], Ret.two rfl (RV.cell Zu rfl (At.bx 4 rfl) (Zx hO8.len)) (RV.tmp rfl), (Sd (Sd (Sk Sub.nil))), ?_⟩))
   have hx : Z9 n s = ((nlT n s).1, 0) := by rw [Z9, if_neg hq0, if_neg (fun q => q (by assumption)), if_pos (by assumption)]
   exact ⟨_, _, by rw [hx], rfl, by rw [hx]; exact hO8⟩
  replace h10 := df h10
  refine Zp <| Zd <| Zd <| Zb <| JLm (.int .i64 ((nlT n s).2)) <| JLq (.bool (!decide ((nlT n s).2 = 0))) (Pu.neq rfl rfl) <| Za <| Zi (b := !decide ((nlT n s).2 = 0)) rfl (fun h13 => ?_) (fun h13 => ?_)
  ·replace h13 := nt h13
   replace h13 := df h13
   refine Zd <| Zb <| JLq (.agg ⟨pkT 0 0 zS (.slice none 0 0) (.slice none 0 0)⟩) (Pu.build (pv := []) (l := pkT 0 0 zS (.slice none 0 0) (.slice none 0 0)) rfl (YW )) <| JLm (.int .i64 ((nlT n s).2)) <| JLr (Ze 3 (vs := pkT 0 0 zS (.slice none 0 0) (.slice none 0 0)) (l := pkT 0 0 zS (.slice none 0 0) (.slice none 0 0)) Zu rfl rfl rfl rfl rfl (ZI rfl rfl) (Z0 ..) <| JLa (.int .i64 ((nlT n s).2)) <| Za <| Zl <| ⟨.tuple ⟨[.agg ⟨pkT 0 0 zS (.slice none 0 0) (.slice none 0 0)⟩, .int .i64 ((nlT n s).2)]⟩, [[]], Ret.two rfl (RV.cell Zu rfl (At.bx 3 rfl) (ZZ ..)) (RV.tmp rfl), (Sub.emp Sub.nil), ?_⟩)
   have hx : Z9 n s = (zT, (nlT n s).2) := by rw [Z9, if_neg hq0, if_pos (by assumption)]
   exact ⟨_, _, by rw [hx], rfl, by rw [hx]; exact Yy⟩
  replace h13 := nf h13
  replace h13 := dt h13
  exfalso; omega
end Go.Proofs.YtmophpgiaiemhaaGreat.Hs
/-! Walks, printed by a program of this session's own (gen.py). -/
namespace Go.Proofs.YtmophpgiaiemhaaGreat.Hs
open Go Go.Proofs
set_option maxRecDepth 100000
set_option linter.unusedVariables false
set_option linter.unusedSimpArgs false
attribute [local irreducible] JL J CT wlo
theorem nameG2_ct (t : Tm) (s : List ByteArray) (cs : List Value) (v : Value) (H : Heap) (ht : RT H cs t) (hs : strR H v s) (hsl : s.length ≤ 1000) : CT Tryz.prog 17 ⟨[.agg ⟨cs⟩, v]⟩ [] H (fun r N => ∃ cs k, r = .tuple ⟨[.agg ⟨cs⟩, .int .i64 (nameE t s).2]⟩ ∧ N = [k] ∧ ON (nameE t s).1 cs k) := by
 refine Zo Tryz.func17 rfl rfl <| Zd <| Zb <| JLr (Zt (l := cs) rfl rfl fun b1 => JLr (Zt (l := [v]) rfl (ZO hs.one) fun b2 => JLr (Zj (l := pkN 0 0 zS (.slice none 0 0) (.slice none 0 0) (.slice none 0 0)) Tryz.zeroValue32 rfl fun b3 => JLa (.int .i64 0) <| Za <| Zd <| Zd <| Zb <| JLr (Zh Zu rfl (At.bx 2 rfl) (Zx (ZD ht)) <| JLr (Zr (vs := [.agg ⟨cs⟩]) [cs] Tryz.runUnderlying24 el27 rfl rfl (by intro e he; simp only [List.mem_cons, List.not_mem_nil, or_false] at he; subst he; exact (ZD ht)) rfl (by decide) fun b4 k4 ho4 hk4 => ?_)))))
 refine Zg rfl Tryz.call61 rfl (fun hin => right_ct _ _ _ (Own.rd1 ho4 (hin 0 _ rfl) (RT.mono (Hle.hu _ _) ht))) rfl ?_
 rintro _ _ ⟨rfl, rfl⟩
 refine JLa (.int .i64 (ZE [t])) <| Za <| Zd <| Zb <| JLm (.int .i64 (ZE [t])) <| JLq (.bool (!decide (ZE [t] = 0))) (Pu.neq rfl rfl) <| Za <| Zi (b := !decide (ZE [t] = 0)) rfl (fun h5 => ?_) (fun h5 => ?_)
 ·replace h5 := nt h5
  replace h5 := df h5
  refine Zd <| Zb <| JLq (.agg ⟨pkN 0 0 zS (.slice none 0 0) (.slice none 0 0) (.slice none 0 0)⟩) (Pu.build (pv := []) (l := pkN 0 0 zS (.slice none 0 0) (.slice none 0 0) (.slice none 0 0)) rfl (bld32_ )) <| JLm (.int .i64 (ZE [t])) <| JLr (Ze 1 (vs := pkN 0 0 zS (.slice none 0 0) (.slice none 0 0) (.slice none 0 0)) (l := pkN 0 0 zS (.slice none 0 0) (.slice none 0 0) (.slice none 0 0)) Z6 rfl rfl rfl rfl rfl (pkN_ok rfl rfl rfl) (pkN_s ..) <| JLa (.int .i64 (ZE [t])) <| Za <| Zl <| ⟨.tuple ⟨[.agg ⟨pkN 0 0 zS (.slice none 0 0) (.slice none 0 0) (.slice none 0 0)⟩, .int .i64 (ZE [t])]⟩, [[]], Ret.two rfl (RV.cell Z6 rfl (At.bx 1 rfl) (pkN_a ..)) (RV.tmp rfl), (Sub.emp Sub.nil), ?_⟩)
  have hx : nameE t s = (zN, ZE [t]) := by rw [nameE, if_pos (by assumption)]
  exact ⟨_, _, by rw [hx], rfl, by rw [hx]; exact ON_zero⟩
 replace h5 := nf h5
 replace h5 := dt h5
 refine Zp <| Zd <| Zd <| Zb <| JLr (Zf YG rfl (At.bx 2 rfl) rfl <| Zg rfl Tryz.call62 rfl (fun hin => Xm _ _ _ _ (RSs.mono (Hle.hu _ _) hs.rd)) rfl ?_)
 rintro _ _ ⟨rfl, rfl⟩
 refine Za <| Zi (b := s.any (fun y => decide (emS = y))) rfl (fun h6 => ?_) (fun h6 => ?_)
 ·refine Zd <| Zb <| JLq (.agg ⟨pkN 0 0 zS (.slice none 0 0) (.slice none 0 0) (.slice none 0 0)⟩) (Pu.build (pv := []) (l := pkN 0 0 zS (.slice none 0 0) (.slice none 0 0) (.slice none 0 0)) rfl (bld32_ )) <| JLr (Ze 1 (vs := pkN 0 0 zS (.slice none 0 0) (.slice none 0 0) (.slice none 0 0)) (l := pkN 0 0 zS (.slice none 0 0) (.slice none 0 0) (.slice none 0 0)) Z6 rfl rfl rfl rfl rfl (pkN_ok rfl rfl rfl) (pkN_s ..) <| JLa (.int .i64 4) <| Za <| Zl <| ⟨.tuple ⟨[.agg ⟨pkN 0 0 zS (.slice none 0 0) (.slice none 0 0) (.slice none 0 0)⟩, .int .i64 4]⟩, [[]], Ret.two rfl (RV.cell Z6 rfl (At.bx 1 rfl) (pkN_a ..)) (RV.tmp rfl), (Sub.emp Sub.nil), ?_⟩)
  have hx : nameE t s = (zN, 4) := by rw [nameE, if_neg (fun q => q (by assumption)), if_pos (by assumption)]
  exact ⟨_, _, by rw [hx], rfl, by rw [hx]; exact ON_zero⟩
 refine Zp <| Zd <| Zd <| Zb <| JLr (Zf YG rfl (At.bx 2 rfl) rfl ?_)
 obtain ⟨a7, cap7, hv7⟩ := hs.rd.sl
 have hle7 := hs.rd.le
 refine JLq (.int .i64 ((s.length : Int))) (Pu.lenSl Tryz.runUnderlying28 hv7) <| JLm (.int .i64 0) <| Za <| Zs <| ZU (fun k ρ M => ∃ (j : Nat), ρ 2 = .pointer (some ⟨b1, 0, none⟩) ∧ ρ 3 = .pointer (some ⟨b2, 0, none⟩) ∧ ρ 4 = .pointer (some ⟨b3, 0, none⟩) ∧ ρ 5 = .int .i64 0 ∧ ρ 21 = v ∧ ρ 22 = .int .i64 ((s.length : Int)) ∧ ρ 23 = .int .i64 ((j : Int)) ∧ Sub [k4, [(b3, .cells ⟨pkN 0 0 zS (.slice none 0 0) (.slice none 0 0) (.slice none 0 0)⟩ 32 (0, 0))], [(b2, .cells ⟨[v]⟩ 28 (0, 0))], [(b1, .cells ⟨cs⟩ 27 (0, 0))]] M ∧ j ≤ s.length ∧ (s.take j).Nodup ∧ k = s.length - j) _ ⟨0, rfl, rfl, rfl, rfl, rfl, rfl, rfl, (Sk (Sk (Sk (Sk Sub.nil)))), Nat.zero_le _, (by simp), rfl⟩ ?_
 rintro _ ρ8 _ ⟨j, e9, e10, e11, e12, e13, e14, e15, hm16, hj, hnd, rfl⟩
 obtain ⟨ρ17, rfl⟩ := Zc (uc e9 (uc e10 (uc e11 (uc e12 (uc e13 (uc e14 (uc e15 un)))))))
 clear e9 e10 e11 e12 e13 e14 e15
 refine Z1 hm16 <| Zd <| Zb <| JLq (.bool (decide ((j : Int) < (s.length : Int)))) (Pu.lss rfl rfl) <| Za <| Zd <| Zi (b := decide ((j : Int) < (s.length : Int))) rfl (fun h18 => ?_) (fun h18 => ?_)
 ·replace h18 := dt h18
  have h18n : j < s.length := by omega
  have hlenl := hs.rd.le
  refine Zp <| Zd <| Zs <| Zd <| Zb <| JLm (.int .i64 ((j : Int))) ?_
  obtain ⟨b19, o19, cap19, row19, T19, fr19, cs19, hv19, hb19, hs19, hE19⟩ := hs.rd.get j (by first | assumption | omega | decide | simp)
  refine JLq (.pointer (some ⟨b19, o19 + j * 1, none⟩)) (Pu.idx j Tryz.runUnderlying28 ty9 hv19 rfl rfl (by first | assumption | omega | decide | simp)) <| JLr (Zf ty9 rfl (At.im hb19) (Yp ((show cs19 = [Value.string (s[j])] from hE19) ▸ hs19)) <| JLa (.int .i64 ((j : Int))) <| JLa (.string (s[j])) <| Za <| Zd <| Zb <| JLr (Zf YG rfl (At.bx 2 rfl) rfl <| JLm (.int .i64 ((j : Int))) <| JLr (Runs_takeS (n := j) hs (by first | rfl | omega) (by omega) Tryz.runUnderlying28 Tryz.sizeOf9 rfl rfl fun u20 hu20 => ?_)))
  have hr20 := hu20 _ hs
  refine JLm (.string (s[j])) <| Zg rfl Tryz.call62 rfl (fun hin => Xm _ _ _ _ (RSs.mono (Hle.hu _ _) hr20.rd)) rfl ?_
  rintro _ _ ⟨rfl, rfl⟩
  refine Za <| Zi (b := (s.take j).any (fun y => decide (s[j] = y))) rfl (fun h21 => ?_) (fun h21 => ?_)
  ·refine Zd <| Zb <| JLq (.agg ⟨pkN 0 0 zS (.slice none 0 0) (.slice none 0 0) (.slice none 0 0)⟩) (Pu.build (pv := []) (l := pkN 0 0 zS (.slice none 0 0) (.slice none 0 0) (.slice none 0 0)) rfl (bld32_ )) <| JLr (Ze 1 (vs := pkN 0 0 zS (.slice none 0 0) (.slice none 0 0) (.slice none 0 0)) (l := pkN 0 0 zS (.slice none 0 0) (.slice none 0 0) (.slice none 0 0)) Z6 rfl rfl rfl rfl rfl (pkN_ok rfl rfl rfl) (pkN_s ..) <| JLa (.int .i64 5) <| Za <| Zl <| ⟨.tuple ⟨[.agg ⟨pkN 0 0 zS (.slice none 0 0) (.slice none 0 0) (.slice none 0 0)⟩, .int .i64 5]⟩, [[]], Ret.two rfl (RV.cell Z6 rfl (At.bx 1 rfl) (pkN_a ..)) (RV.tmp rfl), (Sub.emp Sub.nil), ?_⟩)
   have hx : nameE t s = (zN, 5) := by rw [nameE, if_neg (fun q => q (by assumption)), if_neg (by rw [show s.any (fun y => decide (emS = y)) = false by assumption]; decide), if_pos (dup_mem h18n h21)]
   exact ⟨_, _, by rw [hx], rfl, by rw [hx]; exact ON_zero⟩
  refine Zp <| Zb <| JLq (.int .i64 (((j + 1 : Nat) : Int))) (Pu.inc rfl rfl (by omega)) <| JLm (.int .i64 (((j + 1 : Nat) : Int))) <| Za <| ⟨_, ?_, (j + 1), rfl, rfl, rfl, rfl, rfl, rfl, rfl, (Sk (Sk (Sk (Sk Sub.nil)))), ?_, ?_, rfl⟩
  ·omega
  ·omega
  exact nodup_take h18n hnd h21
 replace h18 := df h18
 have h18n : s.length ≤ j := by omega
 refine ZM _ rfl <| Zd <| Zb <| JLr (Zh Zu rfl (At.bx 3 rfl) (Zx (ZD ht)) <| Zg rfl Tryz.call49 rfl (fun hin => freeE_ct _ _ _ (RT.mono (Hle.hu _ _) ht)) rfl ?_)
 rintro _ _ ⟨u22, e22, k22, rfl, rfl, ho22, rfl⟩
 have hfe22 : freeE t = (Xj t, 0) := by rw [freeE, if_pos (by assumption)]
 replace ho22 : Own 3 1 u22 (ints (Xj t)) k22 := by rw [hfe22] at ho22; exact ho22
 rw [hfe22]
 refine JLm (.tuple ⟨[u22, .int .i64 0]⟩) <| JLq u22 (Pu.extract rfl rfl) <| JLq (.int .i64 0) (Pu.extract rfl rfl) <| JLa u22 <| JLa (.int .i64 0) <| Za <| Zd <| Zd <| Zb <| JLm u22 <| JLq (.func (.func 64) ⟨[]⟩ ⟨[.pointer (some ⟨b2, 0, none⟩)]⟩) (Pu.makeFunc rfl rfl) <| Zg rfl Tryz.call63 rfl (fun hin => every_ct 64 [] [.pointer (some ⟨b2, 0, none⟩)] Tryz.call64 (fun n => decide (n < (s.length : Int))) _ _ _ (own_ints ho22 (by have := freeP_len t; omega) (hin 0 _ rfl)) (fun x hx h hh => nameF_ct x s v h b2 (RSs.mono (Hle.trans (Hle.hu _ _) hh) hs.rd) (hh _ _ (hin 3 _ rfl _ _ List.mem_cons_self)))) rfl ?_
 rintro _ _ ⟨rfl, rfl⟩
 refine JLq (.bool (!((Xj t).all (fun n => decide (n < (s.length : Int)))))) (Pu.not rfl) <| Za <| Zi (b := !((Xj t).all (fun n => decide (n < (s.length : Int))))) rfl (fun h23 => ?_) (fun h23 => ?_)
 ·replace h23 := nt h23
  refine Zd <| Zb <| JLq (.agg ⟨pkN 0 0 zS (.slice none 0 0) (.slice none 0 0) (.slice none 0 0)⟩) (Pu.build (pv := []) (l := pkN 0 0 zS (.slice none 0 0) (.slice none 0 0) (.slice none 0 0)) rfl (bld32_ )) <| JLr (Ze 2 (vs := pkN 0 0 zS (.slice none 0 0) (.slice none 0 0) (.slice none 0 0)) (l := pkN 0 0 zS (.slice none 0 0) (.slice none 0 0) (.slice none 0 0)) Z6 rfl rfl rfl rfl rfl (pkN_ok rfl rfl rfl) (pkN_s ..) <| JLa (.int .i64 1) <| Za <| Zl ?_)
  have hnd_ : s.Nodup := by rw [List.take_of_length_le h18n] at hnd; exact hnd
  refine ⟨.tuple ⟨[.agg ⟨pkN 0 0 zS (.slice none 0 0) (.slice none 0 0) (.slice none 0 0)⟩, .int .i64 1]⟩, [[]], Ret.two rfl (RV.cell Z6 rfl (At.bx 2 rfl) (pkN_a ..)) (RV.tmp rfl), (Sub.emp Sub.nil), ?_⟩
  have hx : nameE t s = (zN, 1) := by rw [nameE, if_neg (fun q => q (by assumption)), if_neg (by rw [show s.any (fun y => decide (emS = y)) = false by assumption]; decide), if_neg (fun q => q hnd_), if_neg (by rw [show (Xj t).all (fun n => decide (n < (s.length : Int))) = false by assumption]; decide)]
  exact ⟨_, _, by rw [hx], rfl, by rw [hx]; exact ON_zero⟩
 replace h23 := nf h23
 refine Zp <| Zd <| Zb <| JLr (Zh Zu rfl (At.bx 4 rfl) (Zx (ZD ht)) <| JLr (Zf YG rfl (At.bx 3 rfl) rfl <| Zg rfl Tryz.call65 rfl (fun hin => namedG_ct _ _ _ _ _ (RT.mono (Hle.hu _ _) ht) (RSs.mono (Hle.hu _ _) hs.rd) (free_sc (by assumption) h23) (by have := (Yl (Xd (t := t) (by assumption))).1; omega)) rfl ?_))
 rintro _ _ ⟨cs24, k24, rfl, rfl, hO24⟩
 refine JLr (Ze 3 (vs := cs24) (l := cs24) Z6 rfl rfl rfl rfl hO24.len hO24.ok (ZL (n := 37) rfl hO24.len) <| JLa (.int .i64 0) <| Za <| Zl ?_)
 have hnd_ : s.Nodup := by rw [List.take_of_length_le h18n] at hnd; exact hnd
 refine ⟨.tuple ⟨[.agg ⟨cs24⟩, .int .i64 0]⟩, [k24], Ret.two rfl (RV.cell Z6 rfl (At.bx 3 rfl) (Zx hO24.len)) (RV.tmp rfl), (Sk Sub.nil), ?_⟩
 have hx : nameE t s = (nmT t s, 0) := by rw [nameE, if_neg (fun q => q (by assumption)), if_neg (by rw [show s.any (fun y => decide (emS = y)) = false by assumption]; decide), if_neg (fun q => q hnd_), if_pos h23]
 exact ⟨_, _, by rw [hx], rfl, by rw [hx]; exact hO24⟩
end Go.Proofs.YtmophpgiaiemhaaGreat.Hs
/-! Walks, printed by a program of this session's own (gen.py). -/
namespace Go.Proofs.YtmophpgiaiemhaaGreat.Hs
open Go Go.Proofs
set_option maxRecDepth 100000
set_option linter.unusedVariables false
set_option linter.unusedSimpArgs false
attribute [local irreducible] JL J CT wlo
set_option maxHeartbeats 8000000 in
theorem named_law (v : Value) (l : List Int) (H : Heap) (hb : bytesR H v l) (hv : Hs.rdS RB 1 H v l) : CT Tryz.prog 4 ⟨[v]⟩ [] H (fun v N => v = .bool true ∧ N = []) := by
 refine Zo Tryz.func4 rfl rfl <| Zd <| Zb <| JLa (.bool false) <| Za <| Zd <| Zb <| JLm v <| Zg rfl Tryz.call23 rfl (fun hin => of_ct _ _ _ (bytesR.mono (Hle.hu _ _) hb) (RBs.mono (Hle.hu _ _) hv)) rfl ?_
 rintro _ _ ⟨bS1, u1, k1, s1, l1, rfl, rfl, hu1, hr1⟩
 refine JLa (.pointer (some ⟨bS1, 0, none⟩)) <| Za <| Zd <| Zb <| JLm (.pointer (some ⟨bS1, 0, none⟩)) <| Zw 0 rfl Tryz.call24 rfl rfl (fun hin => drawn_ct _ _ _ _ _ _ (hr1 _ (hin 0 _ rfl)) (by omega) (by omega) _ _ (by omega) (by omega) (by omega) (by omega) (by omega)) rfl ?_
 rintro _ _ ⟨t2, cs2, k2, a2, s2, rfl, rfl, hO2, hg2, ha2⟩
 refine JLm (.tuple ⟨[.agg ⟨cs2⟩, .bool true]⟩) <| JLq (.agg ⟨cs2⟩) (Pu.extract rfl rfl) <| JLq (.bool true) (Pu.extract rfl rfl) <| JLr (Zj (l := pkT 0 0 zS (.slice none 0 0) (.slice none 0 0)) Tryz.zeroValue27 rfl fun b3 => JLr (Ze 0 (vs := cs2) (l := cs2) Zu rfl rfl rfl rfl hO2.len hO2.ok (ZL (n := 36) rfl hO2.len) <| JLa (.bool true) <| Za <| Zd <| J_drawC mixed #[0, 0, 3, 7, 15, 15, 0, 95, 255] 8 7 6 rfl (by kernel_rfl) rfl rfl (by kernel_rfl) (by kernel_rfl) (fun i r4 N4 => match i with | 0 => (r4 0) = .agg ⟨cs2⟩ | 1 => Own 9 1 (r4 1) (ZP F4) (N4 1) | 2 => (r4 2) = .tuple ⟨[.agg ⟨(Zz (r4 2))⟩, .int .i64 0]⟩ ∧ ON (nmT t2 F4) (Zz (r4 2)) (N4 2) | 3 => (r4 3) = .tuple ⟨[.agg ⟨(Zz (r4 2))⟩, .int .i64 0]⟩ | 4 => (r4 4) = .agg ⟨(Zz (r4 2))⟩ | 5 => (r4 5) = .int .i64 0 | 6 => (r4 6) = .pointer (some ⟨(ZA (r4 6)), 0, none⟩) ∧ ∃ X : List Value, X.length = 37 ∧ (N4 6) = [((ZA (r4 6)), .cells ⟨X⟩ 32 (0, 0))] | 7 => (N4 6) = [((ZA (r4 6)), .cells ⟨(Zz (r4 2))⟩ 32 (0, 0))] | _ => True) ⟨?_, ?_, ?_, ?_, ?_, ?_, ?_, ?_, trivial⟩ ?_))
 ·intro ρ r4 N4 hp hr hr0
  obtain ⟨ρ5, rfl⟩ := Zc (uc (show ρ 4 = .pointer (some ⟨b3, 0, none⟩) from hr0 4 (by kernel_rfl)) un)
  refine JLr (Zh Zu rfl (At.bx 8 (Zn (j := 0) rfl)) (Zx hO2.len) <| Za ?_)
  exact ⟨.agg ⟨cs2⟩, [], rfl, (Sub.emp Sub.refl), rfl, fun h => absurd h (by decide)⟩
 ·intro ρ r4 N4 hp hr hr0
  refine Zg rfl Tryz.call25 rfl (fun hin => names_ct _) rfl ?_
  rintro u6 _ ⟨k6, rfl, ho6⟩
  refine Za ?_
  exact ⟨u6, k6, rfl, Sub.refl, ho6, fun h => absurd h (by decide)⟩
 ·intro ρ r4 N4 hp hr hr0
  have p1 : Own 9 1 (r4 1) (ZP F4) (N4 1) := hp 1 (by decide) rfl
  obtain ⟨ρ7, rfl⟩ := Zc (uc (show ρ 25 = .agg ⟨cs2⟩ from (hr 0 _ _ (by decide) rfl rfl rfl).trans (hp 0 (by decide) rfl)) (uc (show ρ 26 = (r4 1) from (hr 1 _ _ (by decide) rfl rfl rfl)) un))
  refine Zg rfl Tryz.call17 rfl (fun hin => nle_at (d := nmT t2 F4) (e := 0) (nameG2_ct _ F4 _ _ _ (hO2.rd (hin 10 _ (Zn (j := 2) rfl))) (strR.own p1 (by decide) (hin 1 _ (ZQ rfl rfl))) (by decide)) (tn_name hg2)) rfl ?_
  rintro _ _ ⟨cs8, k8, rfl, rfl, hO8⟩
  refine Za ?_
  exact ⟨.tuple ⟨[.agg ⟨cs8⟩, .int .i64 0]⟩, k8, rfl, Sub.refl, ⟨rfl, hO8⟩, fun h => absurd h (by decide)⟩
 ·intro ρ r4 N4 hp hr hr0
  obtain ⟨ρ9, rfl⟩ := Zc (uc (show ρ 27 = .tuple ⟨[.agg ⟨(Zz (r4 2))⟩, .int .i64 0]⟩ from (hr 2 _ _ (by decide) rfl rfl rfl).trans (hp 2 (by decide) rfl).1) un)
  refine JLm (.tuple ⟨[.agg ⟨(Zz (r4 2))⟩, .int .i64 0]⟩) <| Za ?_
  exact ⟨.tuple ⟨[.agg ⟨(Zz (r4 2))⟩, .int .i64 0]⟩, [], rfl, (Sub.emp Sub.refl), rfl, fun h => absurd h (by decide)⟩
 ·intro ρ r4 N4 hp hr hr0
  obtain ⟨ρ10, rfl⟩ := Zc (uc (show ρ 24 = .tuple ⟨[.agg ⟨(Zz (r4 2))⟩, .int .i64 0]⟩ from (hr 3 _ _ (by decide) rfl rfl rfl).trans (hp 3 (by decide) rfl)) un)
  refine JLq (.agg ⟨(Zz (r4 2))⟩) (Pu.extract rfl rfl) <| Za ?_
  exact ⟨.agg ⟨(Zz (r4 2))⟩, [], rfl, (Sub.emp Sub.refl), rfl, fun h => absurd h (by decide)⟩
 ·intro ρ r4 N4 hp hr hr0
  obtain ⟨ρ11, rfl⟩ := Zc (uc (show ρ 24 = .tuple ⟨[.agg ⟨(Zz (r4 2))⟩, .int .i64 0]⟩ from (hr 3 _ _ (by decide) rfl rfl rfl).trans (hp 3 (by decide) rfl)) un)
  refine JLq (.int .i64 0) (Pu.extract rfl rfl) <| Za ?_
  exact ⟨.int .i64 0, [], rfl, (Sub.emp Sub.refl), rfl, fun h => absurd h (by decide)⟩
 ·intro ρ r4 N4 hp hr hr0
  refine JLr (Zj (l := pkN 0 0 zS (.slice none 0 0) (.slice none 0 0) (.slice none 0 0)) Tryz.zeroValue32 rfl fun b12 => Za ?_)
  exact ⟨.pointer (some ⟨b12, 0, none⟩), [(b12, .cells ⟨pkN 0 0 zS (.slice none 0 0) (.slice none 0 0) (.slice none 0 0)⟩ 32 (0, 0))], rfl, Sub.refl, ⟨rfl, _, rfl, rfl⟩, fun h => absurd h (by decide)⟩
 ·intro ρ r4 N4 hp hr hr0
  have p2 : (r4 2) = .tuple ⟨[.agg ⟨(Zz (r4 2))⟩, .int .i64 0]⟩ ∧ ON (nmT t2 F4) (Zz (r4 2)) (N4 2) := hp 2 (by decide) rfl
  have p6 : (r4 6) = .pointer (some ⟨(ZA (r4 6)), 0, none⟩) ∧ ∃ X : List Value, X.length = 37 ∧ (N4 6) = [((ZA (r4 6)), .cells ⟨X⟩ 32 (0, 0))] := hp 6 (by decide) rfl
  obtain ⟨ρ13, rfl⟩ := Zc (uc (show ρ 6 = .pointer (some ⟨(ZA (r4 6)), 0, none⟩) from (hr 6 _ _ (by decide) rfl rfl rfl).trans p6.1) (uc (show ρ 28 = .agg ⟨(Zz (r4 2))⟩ from (hr 4 _ _ (by decide) rfl rfl rfl).trans (hp 4 (by decide) rfl)) un))
  obtain ⟨hrC, X, hX, hNC⟩ := p6
  refine JLr (Ze 6 (vs := (Zz (r4 2))) (l := (Zz (r4 2))) Z6 rfl ((ZQ rfl rfl).trans (congrArg some hNC)) rfl rfl p2.2.len p2.2.ok (ZL (n := 37) hX p2.2.len) <| Za ?_)
  exact ⟨undef, [((ZA (r4 6)), .cells ⟨(Zz (r4 2))⟩ 32 (0, 0))], rfl, Sub.refl, rfl, fun _ => ⟨hrC, _, p2.2.len, rfl⟩⟩
 intro ρ r4 N4 hNa hp hr hr0
 have p1 : Own 9 1 (r4 1) (ZP F4) (N4 1) := hp 1 (by decide)
 have p2 : (r4 2) = .tuple ⟨[.agg ⟨(Zz (r4 2))⟩, .int .i64 0]⟩ ∧ ON (nmT t2 F4) (Zz (r4 2)) (N4 2) := hp 2 (by decide)
 have p6 : (r4 6) = .pointer (some ⟨(ZA (r4 6)), 0, none⟩) ∧ ∃ X : List Value, X.length = 37 ∧ (N4 6) = [((ZA (r4 6)), .cells ⟨X⟩ 32 (0, 0))] := hp 6 (by decide)
 have p7 : (N4 6) = [((ZA (r4 6)), .cells ⟨(Zz (r4 2))⟩ 32 (0, 0))] := hp 7 (by decide)
 obtain ⟨ρ14, rfl⟩ := Zc (uc (show ρ 2 = .bool false from hr0 2 (by kernel_rfl)) (uc (show ρ 3 = .pointer (some ⟨bS1, 0, none⟩) from hr0 3 (by kernel_rfl)) (uc (show ρ 4 = .pointer (some ⟨b3, 0, none⟩) from hr0 4 (by kernel_rfl)) (uc (show ρ 5 = .bool true from hr0 5 (by kernel_rfl)) (uc (show ρ 6 = .pointer (some ⟨(ZA (r4 6)), 0, none⟩) from (hr 6 _ _ (by decide) rfl rfl).trans p6.1) (uc (show ρ 29 = .int .i64 0 from (hr 5 _ _ (by decide) rfl rfl).trans (hp 5 (by decide))) un))))))
 have p4_1 := p1; have p4_2 := p2; have p4_6 := p6; have p4_7 := p7
 clear hp hr hr0 p1 p2 p6 p7
 refine Zq (M' := [(N4 0), (N4 1), (N4 2), (N4 3), (N4 4), (N4 5), (N4 6), (N4 7), [(b3, .cells ⟨cs2⟩ 27 (0, 0))], [(bS1, .cells ⟨[u1, .int .i64 a2, .int .u64 s2]⟩ 128 (0, 0))], k2, k1]) Sub.refl <| Zq (M' := [(N4 1), (N4 2), [((ZA (r4 6)), .cells ⟨(Zz (r4 2))⟩ 32 (0, 0))], [(b3, .cells ⟨cs2⟩ 27 (0, 0))], [(bS1, .cells ⟨[u1, .int .i64 a2, .int .u64 s2]⟩ 128 (0, 0))], k2, k1]) (Sd (Sk (Sk (Sd (Sd (Sd (Se p4_7 (Sd (Sk (Sk (Sk (Sk Sub.nil)))))))))))) ?_
 show JL _ _ _ [_] _ _ _
 refine JLa (.int .i64 0) <| Za <| Zd <| J_drawC mixed #[0, 0, 3, 7, 15, 15, 0, 95, 255] 8 7 6 rfl (by kernel_rfl) rfl rfl (by kernel_rfl) (by kernel_rfl) (fun i r15 N15 => match i with | 0 => (r15 0) = .agg ⟨(Zz (r4 2))⟩ | 1 => Own 9 1 (r15 1) (ZP F4) (N15 1) | 2 => (r15 2) = .tuple ⟨[.agg ⟨(Zz (r15 2))⟩, .int .i64 0]⟩ ∧ OT t2 (Zz (r15 2)) (N15 2) | 3 => (r15 3) = .tuple ⟨[.agg ⟨(Zz (r15 2))⟩, .int .i64 0]⟩ | 4 => (r15 4) = .agg ⟨(Zz (r15 2))⟩ | 5 => (r15 5) = .int .i64 0 | 6 => (r15 6) = .pointer (some ⟨(ZA (r15 6)), 0, none⟩) ∧ ∃ X : List Value, X.length = 36 ∧ (N15 6) = [((ZA (r15 6)), .cells ⟨X⟩ 27 (0, 0))] | 7 => (N15 6) = [((ZA (r15 6)), .cells ⟨(Zz (r15 2))⟩ 27 (0, 0))] | _ => True) ⟨?_, ?_, ?_, ?_, ?_, ?_, ?_, ?_, trivial⟩ ?_
 ·intro ρ r15 N15 hp hr hr0
  obtain ⟨ρ16, rfl⟩ := Zc (uc (show ρ 6 = .pointer (some ⟨(ZA (r4 6)), 0, none⟩) from hr0 6 (by kernel_rfl)) un)
  refine JLr (Zh Z6 rfl (At.bx 10 (Zn (j := 2) rfl)) (Zx p4_2.2.len) <| Za ?_)
  exact ⟨.agg ⟨(Zz (r4 2))⟩, [], rfl, (Sub.emp Sub.refl), rfl, fun h => absurd h (by decide)⟩
 ·intro ρ r15 N15 hp hr hr0
  refine Zg rfl Tryz.call25 rfl (fun hin => names_ct _) rfl ?_
  rintro u17 _ ⟨k17, rfl, ho17⟩
  refine Za ?_
  exact ⟨u17, k17, rfl, Sub.refl, ho17, fun h => absurd h (by decide)⟩
 ·intro ρ r15 N15 hp hr hr0
  have p1 : Own 9 1 (r15 1) (ZP F4) (N15 1) := hp 1 (by decide) rfl
  obtain ⟨ρ18, rfl⟩ := Zc (uc (show ρ 31 = .agg ⟨(Zz (r4 2))⟩ from (hr 0 _ _ (by decide) rfl rfl rfl).trans (hp 0 (by decide) rfl)) (uc (show ρ 32 = (r15 1) from (hr 1 _ _ (by decide) rfl rfl rfl)) un))
  refine Zg rfl Tryz.call18 rfl (fun hin => ble_at (d := t2) (e := 0) (namelessE_ct _ F4 _ _ _ (p4_2.2.rd (hin 9 _ (Zn (j := 1) rfl))) (strR.own p1 (by decide) (hin 1 _ (ZQ rfl rfl)))) (tn_back hg2)) rfl ?_
  rintro _ _ ⟨cs19, k19, rfl, rfl, hO19⟩
  refine Za ?_
  exact ⟨.tuple ⟨[.agg ⟨cs19⟩, .int .i64 0]⟩, k19, rfl, Sub.refl, ⟨rfl, hO19⟩, fun h => absurd h (by decide)⟩
 ·intro ρ r15 N15 hp hr hr0
  obtain ⟨ρ20, rfl⟩ := Zc (uc (show ρ 33 = .tuple ⟨[.agg ⟨(Zz (r15 2))⟩, .int .i64 0]⟩ from (hr 2 _ _ (by decide) rfl rfl rfl).trans (hp 2 (by decide) rfl).1) un)
  refine JLm (.tuple ⟨[.agg ⟨(Zz (r15 2))⟩, .int .i64 0]⟩) <| Za ?_
  exact ⟨.tuple ⟨[.agg ⟨(Zz (r15 2))⟩, .int .i64 0]⟩, [], rfl, (Sub.emp Sub.refl), rfl, fun h => absurd h (by decide)⟩
 ·intro ρ r15 N15 hp hr hr0
  obtain ⟨ρ21, rfl⟩ := Zc (uc (show ρ 30 = .tuple ⟨[.agg ⟨(Zz (r15 2))⟩, .int .i64 0]⟩ from (hr 3 _ _ (by decide) rfl rfl rfl).trans (hp 3 (by decide) rfl)) un)
  refine JLq (.agg ⟨(Zz (r15 2))⟩) (Pu.extract rfl rfl) <| Za ?_
  exact ⟨.agg ⟨(Zz (r15 2))⟩, [], rfl, (Sub.emp Sub.refl), rfl, fun h => absurd h (by decide)⟩
 ·intro ρ r15 N15 hp hr hr0
  obtain ⟨ρ22, rfl⟩ := Zc (uc (show ρ 30 = .tuple ⟨[.agg ⟨(Zz (r15 2))⟩, .int .i64 0]⟩ from (hr 3 _ _ (by decide) rfl rfl rfl).trans (hp 3 (by decide) rfl)) un)
  refine JLq (.int .i64 0) (Pu.extract rfl rfl) <| Za ?_
  exact ⟨.int .i64 0, [], rfl, (Sub.emp Sub.refl), rfl, fun h => absurd h (by decide)⟩
 ·intro ρ r15 N15 hp hr hr0
  refine JLr (Zj (l := pkT 0 0 zS (.slice none 0 0) (.slice none 0 0)) Tryz.zeroValue27 rfl fun b23 => Za ?_)
  exact ⟨.pointer (some ⟨b23, 0, none⟩), [(b23, .cells ⟨pkT 0 0 zS (.slice none 0 0) (.slice none 0 0)⟩ 27 (0, 0))], rfl, Sub.refl, ⟨rfl, _, rfl, rfl⟩, fun h => absurd h (by decide)⟩
 ·intro ρ r15 N15 hp hr hr0
  have p2 : (r15 2) = .tuple ⟨[.agg ⟨(Zz (r15 2))⟩, .int .i64 0]⟩ ∧ OT t2 (Zz (r15 2)) (N15 2) := hp 2 (by decide) rfl
  have p6 : (r15 6) = .pointer (some ⟨(ZA (r15 6)), 0, none⟩) ∧ ∃ X : List Value, X.length = 36 ∧ (N15 6) = [((ZA (r15 6)), .cells ⟨X⟩ 27 (0, 0))] := hp 6 (by decide) rfl
  obtain ⟨ρ24, rfl⟩ := Zc (uc (show ρ 8 = .pointer (some ⟨(ZA (r15 6)), 0, none⟩) from (hr 6 _ _ (by decide) rfl rfl rfl).trans p6.1) (uc (show ρ 34 = .agg ⟨(Zz (r15 2))⟩ from (hr 4 _ _ (by decide) rfl rfl rfl).trans (hp 4 (by decide) rfl)) un))
  obtain ⟨hrC, X, hX, hNC⟩ := p6
  refine JLr (Ze 6 (vs := (Zz (r15 2))) (l := (Zz (r15 2))) Zu rfl ((ZQ rfl rfl).trans (congrArg some hNC)) rfl rfl p2.2.len p2.2.ok (ZL (n := 36) hX p2.2.len) <| Za ?_)
  exact ⟨undef, [((ZA (r15 6)), .cells ⟨(Zz (r15 2))⟩ 27 (0, 0))], rfl, Sub.refl, rfl, fun _ => ⟨hrC, _, p2.2.len, rfl⟩⟩
 intro ρ r15 N15 hNa hp hr hr0
 have p1 : Own 9 1 (r15 1) (ZP F4) (N15 1) := hp 1 (by decide)
 have p2 : (r15 2) = .tuple ⟨[.agg ⟨(Zz (r15 2))⟩, .int .i64 0]⟩ ∧ OT t2 (Zz (r15 2)) (N15 2) := hp 2 (by decide)
 have p6 : (r15 6) = .pointer (some ⟨(ZA (r15 6)), 0, none⟩) ∧ ∃ X : List Value, X.length = 36 ∧ (N15 6) = [((ZA (r15 6)), .cells ⟨X⟩ 27 (0, 0))] := hp 6 (by decide)
 have p7 : (N15 6) = [((ZA (r15 6)), .cells ⟨(Zz (r15 2))⟩ 27 (0, 0))] := hp 7 (by decide)
 obtain ⟨ρ25, rfl⟩ := Zc (uc (show ρ 2 = .bool false from hr0 2 (by kernel_rfl)) (uc (show ρ 3 = .pointer (some ⟨bS1, 0, none⟩) from hr0 3 (by kernel_rfl)) (uc (show ρ 4 = .pointer (some ⟨b3, 0, none⟩) from hr0 4 (by kernel_rfl)) (uc (show ρ 5 = .bool true from hr0 5 (by kernel_rfl)) (uc (show ρ 6 = .pointer (some ⟨(ZA (r4 6)), 0, none⟩) from hr0 6 (by kernel_rfl)) (uc (show ρ 7 = .int .i64 0 from hr0 7 (by kernel_rfl)) (uc (show ρ 8 = .pointer (some ⟨(ZA (r15 6)), 0, none⟩) from (hr 6 _ _ (by decide) rfl rfl).trans p6.1) (uc (show ρ 35 = .int .i64 0 from (hr 5 _ _ (by decide) rfl rfl).trans (hp 5 (by decide))) un))))))))
 have p15_1 := p1; have p15_2 := p2; have p15_6 := p6; have p15_7 := p7
 clear hp hr hr0 p1 p2 p6 p7
 refine Zq (M' := [(N15 0), (N15 1), (N15 2), (N15 3), (N15 4), (N15 5), (N15 6), (N15 7), (N4 1), (N4 2), [((ZA (r4 6)), .cells ⟨(Zz (r4 2))⟩ 32 (0, 0))], [(b3, .cells ⟨cs2⟩ 27 (0, 0))], [(bS1, .cells ⟨[u1, .int .i64 a2, .int .u64 s2]⟩ 128 (0, 0))], k2, k1]) Sub.refl <| Zq (M' := [(N15 1), (N15 2), [((ZA (r15 6)), .cells ⟨(Zz (r15 2))⟩ 27 (0, 0))], (N4 1), (N4 2), [((ZA (r4 6)), .cells ⟨(Zz (r4 2))⟩ 32 (0, 0))], [(b3, .cells ⟨cs2⟩ 27 (0, 0))], [(bS1, .cells ⟨[u1, .int .i64 a2, .int .u64 s2]⟩ 128 (0, 0))], k2, k1]) (Sd (Sk (Sk (Sd (Sd (Sd (Se p15_7 (Sd (Sk (Sk (Sk (Sk (Sk (Sk (Sk Sub.nil))))))))))))))) ?_
 show JL _ _ _ [_] _ _ _
 refine JLa (.int .i64 0) <| Za <| Zd <| Zb <| JLr (Zh Z6 rfl (At.bx 5 rfl) (Zx p4_2.2.len) <| Zg rfl Tryz.call26 rfl (fun hin => renamed_ct _ [] _ _ _ (p4_2.2.rd (hin 4 _ rfl)) rdS.nil (tn_z hg2) (tn_n hg2)) rfl ?_)
 rintro _ _ ⟨cs26, k26, rfl, rfl, hO26⟩
 refine Zg rfl Tryz.call25 rfl (fun hin => names_ct _) rfl ?_
 rintro u27 _ ⟨k27, rfl, ho27⟩
 refine Zg rfl Tryz.call18 rfl (fun hin => ble_at (d := t2) (e := 0) (namelessE_ct _ F4 _ _ _ (hO26.rd (hin 1 _ rfl)) (strR.own ho27 (by decide) (hin 0 _ rfl))) (tn_re hg2)) rfl ?_
 rintro _ _ ⟨cs28, k28, rfl, rfl, hO28⟩
 refine JLm (.tuple ⟨[.agg ⟨cs28⟩, .int .i64 0]⟩) <| JLq (.agg ⟨cs28⟩) (Pu.extract rfl rfl) <| JLq (.int .i64 0) (Pu.extract rfl rfl) <| JLr (Zj (l := pkT 0 0 zS (.slice none 0 0) (.slice none 0 0)) Tryz.zeroValue27 rfl fun b29 => JLr (Ze 0 (vs := cs28) (l := cs28) Zu rfl rfl rfl rfl hO28.len hO28.ok (ZL (n := 36) rfl hO28.len) <| JLa (.int .i64 0) <| Za <| Zd <| Yo (fun ρ M => ρ 2 = .bool false ∧ ρ 3 = .pointer (some ⟨bS1, 0, none⟩) ∧ ρ 4 = .pointer (some ⟨b3, 0, none⟩) ∧ ρ 68 = .bool false ∧ M = [[(b29, .cells ⟨cs28⟩ 27 (0, 0))], k28, k27, k26, (N15 1), (N15 2), [((ZA (r15 6)), .cells ⟨(Zz (r15 2))⟩ 27 (0, 0))], (N4 1), (N4 2), [((ZA (r4 6)), .cells ⟨(Zz (r4 2))⟩ 32 (0, 0))], [(b3, .cells ⟨cs2⟩ 27 (0, 0))], [(bS1, .cells ⟨[u1, .int .i64 a2, .int .u64 s2]⟩ 128 (0, 0))], k2, k1]) ?_ ?_))
 ·refine Zb <| JLm (.bool true) <| JLq (.bool false) (show Pu _ _ _ (.bool (!true)) from Pu.not rfl) <| JLm (.bool false) <| JLm (.int .i64 0) <| JLq (.bool false) (show Pu _ _ _ (.bool (!decide ((0 : Int) = 0))) from Pu.neq rfl rfl) <| JLq (.bool false) (Pu.pickF rfl rfl) <| JLm (.bool false) <| JLm (.int .i64 0) <| JLq (.bool false) (show Pu _ _ _ (.bool (!decide ((0 : Int) = 0))) from Pu.neq rfl rfl) <| JLq (.bool false) (Pu.pickF rfl rfl) <| JLm (.bool false) <| JLm (.int .i64 0) ?_
  refine JLq (.bool false) (show Pu _ _ _ (.bool (!decide ((0 : Int) = 0))) from Pu.neq rfl rfl) <| JLq (.bool false) (Pu.pickF rfl rfl) <| JLm (.bool false) <| JLr (Zh Zu rfl (At.bx 6 rfl) (Zx p15_2.2.len) <| JLr (Zh Zu rfl (At.bx 10 rfl) (Zx hO2.len) <| Zg rfl Tryz.call21 rfl (fun hin => bool_r (r := true) (Y8 _ _ _ _ _ (p15_2.2.rd (hin 5 _ rfl)) (hO2.rd (hin 12 _ rfl))) (decide_eq_true rfl)) rfl ?_))
  rintro _ _ ⟨rfl, rfl⟩
  refine JLq (.bool false) (show Pu _ _ _ (.bool (!true)) from Pu.not rfl) <| JLq (.bool false) (Pu.pickF rfl rfl) <| JLm (.bool false) <| JLr (Zh Zu rfl (At.bx 0 rfl) (Zx hO28.len) <| JLr (Zh Zu rfl (At.bx 10 rfl) (Zx hO2.len) <| Zg rfl Tryz.call21 rfl (fun hin => bool_r (r := true) (Y8 _ _ _ _ _ (hO28.rd (hin 1 _ rfl)) (hO2.rd (hin 12 _ rfl))) (decide_eq_true rfl)) rfl ?_))
  rintro _ _ ⟨rfl, rfl⟩
  refine JLq (.bool false) (show Pu _ _ _ (.bool (!true)) from Pu.not rfl) <| JLq (.bool false) (Pu.pickF rfl rfl) <| Za ?_
  first | exact ⟨rfl, rfl, rfl, rfl, rfl⟩ | (exfalso; omega)
 rintro ρ30 _ ⟨e31, e32, e33, e34, rfl⟩
 obtain ⟨ρ35, rfl⟩ := Zc (uc e31 (uc e32 (uc e33 (uc e34 un))))
 clear e31 e32 e33 e34
 refine Zi (b := false) rfl (fun h => absurd h (by simp)) (fun _ => Zp <| Zd <| Zb <| JLm (.pointer (some ⟨bS1, 0, none⟩)) <| Zw 11 rfl Tryz.call24 rfl rfl (fun hin => drawn_ct _ _ _ _ _ _ (hr1 _ (hin 12 _ rfl)) (by omega) (by omega) _ _ (by omega) (by omega) (by omega) (by omega) (by omega)) rfl ?_)
 rintro _ _ ⟨t36, cs36, k36, a36, s36, rfl, rfl, hO36, hg36, ha36⟩
 refine JLm (.tuple ⟨[.agg ⟨cs36⟩, .bool true]⟩) <| JLq (.agg ⟨cs36⟩) (Pu.extract rfl rfl) <| JLq (.bool true) (Pu.extract rfl rfl) <| JLr (Zj (l := pkT 0 0 zS (.slice none 0 0) (.slice none 0 0)) Tryz.zeroValue27 rfl fun b37 => JLr (Ze 0 (vs := cs36) (l := cs36) Zu rfl rfl rfl rfl hO36.len hO36.ok (ZL (n := 36) rfl hO36.len) <| JLa (.bool true) <| Za <| Zd ?_))
 cases h38 : (Yz (sbT 0 t36 t2)) with
 | true =>
  refine Zb <| JLr (Zh Zu rfl (At.bx 13 rfl) (Zx hO2.len) <| JLr (Zh Zu rfl (At.bx 0 rfl) (Zx hO36.len) <| Zg rfl Tryz.call27 rfl (fun hin => ble_at (d := zT) (e := 11) (substP_ct _ _ _ _ _ _ (hO2.rd (hin 14 _ rfl)) (hO36.rd (hin 2 _ rfl))) (substP_long (YV (by decide) (by decide) hg2) (YV (by decide) (by decide) hg36) (by decide) h38)) rfl ?_))
  rintro _ _ ⟨cs39, k39, rfl, rfl, hO39⟩
  refine JLm (.tuple ⟨[.agg ⟨cs39⟩, .int .i64 11]⟩) <| JLq (.agg ⟨cs39⟩) (Pu.extract rfl rfl) <| JLq (.int .i64 11) (Pu.extract rfl rfl) <| JLr (Zj (l := pkT 0 0 zS (.slice none 0 0) (.slice none 0 0)) Tryz.zeroValue27 rfl fun b40 => JLr (Ze 0 (vs := cs39) (l := cs39) Zu rfl rfl rfl rfl hO39.len hO39.ok (ZL (n := 36) rfl hO39.len) <| JLa (.int .i64 11) <| Za <| Zd <| Yo (fun ρ M => ρ 2 = .bool false ∧ ρ 7 = .int .i64 11 ∧ ρ 13 = .bool true ∧ ρ 14 = .pointer (some ⟨b40, 0, none⟩) ∧ ρ 85 = .bool true ∧ M = [[(b40, .cells ⟨cs39⟩ 27 (0, 0))], k39, [(b37, .cells ⟨cs36⟩ 27 (0, 0))], [(bS1, .cells ⟨[u1, .int .i64 a36, .int .u64 s36]⟩ 128 (0, 0))], k36, [(b29, .cells ⟨cs28⟩ 27 (0, 0))], k28, k27, k26, (N15 1), (N15 2), [((ZA (r15 6)), .cells ⟨(Zz (r15 2))⟩ 27 (0, 0))], (N4 1), (N4 2), [((ZA (r4 6)), .cells ⟨(Zz (r4 2))⟩ 32 (0, 0))], [(b3, .cells ⟨cs2⟩ 27 (0, 0))], k2, k1]) ?_ ?_))
  ·refine Zb <| JLm (.bool true) <| JLq (.bool false) (show Pu _ _ _ (.bool (!true)) from Pu.not rfl) <| JLm (.bool false) <| JLm (.int .i64 11) <| JLq (.bool true) (show Pu _ _ _ (.bool (!decide ((11 : Int) = 0))) from Pu.neq rfl rfl) <| JLq (.bool true) (Pu.pickF rfl rfl) <| Za ?_
   first | exact ⟨rfl, rfl, rfl, rfl, rfl, rfl⟩ | (exfalso; omega)
  rintro ρ41 _ ⟨e42, e43, e44, e45, e46, rfl⟩
  obtain ⟨ρ47, rfl⟩ := Zc (uc e42 (uc e43 (uc e44 (uc e45 (uc e46 un)))))
  clear e42 e43 e44 e45 e46
  refine Zi (b := true) rfl (fun _ => ?_) (fun h => absurd h (by simp))
  refine Yo (fun ρ M => ρ 2 = .bool true ∧ ρ 14 = .pointer (some ⟨b40, 0, none⟩) ∧ M = [[(b40, .cells ⟨cs39⟩ 27 (0, 0))], k39, [(b37, .cells ⟨cs36⟩ 27 (0, 0))], [(bS1, .cells ⟨[u1, .int .i64 a36, .int .u64 s36]⟩ 128 (0, 0))], k36, [(b29, .cells ⟨cs28⟩ 27 (0, 0))], k28, k27, k26, (N15 1), (N15 2), [((ZA (r15 6)), .cells ⟨(Zz (r15 2))⟩ 27 (0, 0))], (N4 1), (N4 2), [((ZA (r4 6)), .cells ⟨(Zz (r4 2))⟩ 32 (0, 0))], [(b3, .cells ⟨cs2⟩ 27 (0, 0))], k2, k1]) ?_ ?_
  ·refine Zb <| JLm (.bool true) <| JLm (.bool true) <| JLm (.int .i64 11) <| Zg rfl Tryz.call28 rfl (fun hin => bool_r (r := true) (big_ct _ _) (by decide)) rfl ?_
   rintro _ _ ⟨rfl, rfl⟩
   refine JLq (.bool true) (Pu.pickT rfl rfl) <| JLm (.bool true) <| Zg rfl Tryz.call9 rfl (fun hin => awake_ct _) rfl ?_
   rintro _ _ ⟨rfl, rfl⟩
   refine JLq (.bool true) (Pu.pickT rfl rfl) <| JLa (.bool true) <| Za ?_
   first | exact ⟨rfl, rfl, rfl⟩ | (exfalso; omega)
  rintro ρ48 _ ⟨e49, e50, rfl⟩
  obtain ⟨ρ51, rfl⟩ := Zc (uc e49 (uc e50 un))
  clear e49 e50
  refine Zl <| ⟨.bool true, [], Ret.one rfl (RV.tmp rfl), Sub.nil, ?_⟩
  exact ⟨rfl, rfl⟩
 | false =>
  refine Zb <| JLr (Zh Zu rfl (At.bx 13 rfl) (Zx hO2.len) <| JLr (Zh Zu rfl (At.bx 0 rfl) (Zx hO36.len) <| Zg rfl Tryz.call27 rfl (fun hin => ble_at (d := (sbT 0 t36 t2)) (e := 0) (substP_ct _ _ _ _ _ _ (hO2.rd (hin 14 _ rfl)) (hO36.rd (hin 2 _ rfl))) (substP_ok (YV (by decide) (by decide) hg2) (YV (by decide) (by decide) hg36) (by decide) h38)) rfl ?_))
  rintro _ _ ⟨cs52, k52, rfl, rfl, hO52⟩
  refine JLm (.tuple ⟨[.agg ⟨cs52⟩, .int .i64 0]⟩) <| JLq (.agg ⟨cs52⟩) (Pu.extract rfl rfl) <| JLq (.int .i64 0) (Pu.extract rfl rfl) <| JLr (Zj (l := pkT 0 0 zS (.slice none 0 0) (.slice none 0 0)) Tryz.zeroValue27 rfl fun b53 => JLr (Ze 0 (vs := cs52) (l := cs52) Zu rfl rfl rfl rfl hO52.len hO52.ok (ZL (n := 36) rfl hO52.len) <| JLa (.int .i64 0) <| Za <| Zd <| Yo (fun ρ M => ρ 2 = .bool false ∧ ρ 7 = .int .i64 0 ∧ ρ 13 = .bool true ∧ ρ 14 = .pointer (some ⟨b53, 0, none⟩) ∧ ρ 85 = .bool false ∧ M = [[(b53, .cells ⟨cs52⟩ 27 (0, 0))], k52, [(b37, .cells ⟨cs36⟩ 27 (0, 0))], [(bS1, .cells ⟨[u1, .int .i64 a36, .int .u64 s36]⟩ 128 (0, 0))], k36, [(b29, .cells ⟨cs28⟩ 27 (0, 0))], k28, k27, k26, (N15 1), (N15 2), [((ZA (r15 6)), .cells ⟨(Zz (r15 2))⟩ 27 (0, 0))], (N4 1), (N4 2), [((ZA (r4 6)), .cells ⟨(Zz (r4 2))⟩ 32 (0, 0))], [(b3, .cells ⟨cs2⟩ 27 (0, 0))], k2, k1]) ?_ ?_))
  ·refine Zb <| JLm (.bool true) <| JLq (.bool false) (show Pu _ _ _ (.bool (!true)) from Pu.not rfl) <| JLm (.bool false) <| JLm (.int .i64 0) <| JLq (.bool false) (show Pu _ _ _ (.bool (!decide ((0 : Int) = 0))) from Pu.neq rfl rfl) <| JLq (.bool false) (Pu.pickF rfl rfl) <| Za ?_
   first | exact ⟨rfl, rfl, rfl, rfl, rfl, rfl⟩ | (exfalso; omega)
  rintro ρ54 _ ⟨e55, e56, e57, e58, e59, rfl⟩
  obtain ⟨ρ60, rfl⟩ := Zc (uc e55 (uc e56 (uc e57 (uc e58 (uc e59 un)))))
  clear e55 e56 e57 e58 e59
  refine Zi (b := false) rfl (fun h => absurd h (by simp)) (fun _ => Zp <| Zd <| J_drawC mixed #[0, 0, 2, 7, 15, 31, 31, 0, 191, 511] 9 8 7 rfl (by kernel_rfl) rfl rfl (by kernel_rfl) (by kernel_rfl) (fun i r61 N61 => match i with | 0 => (r61 0) = .agg ⟨cs52⟩ | 1 => Own 9 1 (r61 1) (ZP F4) (N61 1) | 2 => ∀ h, strR h (r61 1) F4 → strR h (r61 2) (F4.take 3) | 3 => (r61 3) = .tuple ⟨[.agg ⟨(Zz (r61 3))⟩, .int .i64 0]⟩ ∧ ON (nmT (sbT 0 t36 t2) (F4.take 3)) (Zz (r61 3)) (N61 3) | 4 => (r61 4) = .tuple ⟨[.agg ⟨(Zz (r61 3))⟩, .int .i64 0]⟩ | 5 => (r61 5) = .agg ⟨(Zz (r61 3))⟩ | 6 => (r61 6) = .int .i64 0 | 7 => (r61 7) = .pointer (some ⟨(ZA (r61 7)), 0, none⟩) ∧ ∃ X : List Value, X.length = 37 ∧ (N61 7) = [((ZA (r61 7)), .cells ⟨X⟩ 32 (0, 0))] | 8 => (N61 7) = [((ZA (r61 7)), .cells ⟨(Zz (r61 3))⟩ 32 (0, 0))] | _ => True) ⟨?_, ?_, ?_, ?_, ?_, ?_, ?_, ?_, ?_, trivial⟩ ?_)
  ·intro ρ r61 N61 hp hr hr0
   obtain ⟨ρ62, rfl⟩ := Zc (uc (show ρ 14 = .pointer (some ⟨b53, 0, none⟩) from hr0 14 (by kernel_rfl)) un)
   refine JLr (Zh Zu rfl (At.bx 9 (Zn (j := 0) rfl)) (Zx hO52.len) <| Za ?_)
   exact ⟨.agg ⟨cs52⟩, [], rfl, (Sub.emp Sub.refl), rfl, fun h => absurd h (by decide)⟩
  ·intro ρ r61 N61 hp hr hr0
   refine Zg rfl Tryz.call25 rfl (fun hin => names_ct _) rfl ?_
   rintro u63 _ ⟨k63, rfl, ho63⟩
   refine Za ?_
   exact ⟨u63, k63, rfl, Sub.refl, ho63, fun h => absurd h (by decide)⟩
  ·intro ρ r61 N61 hp hr hr0
   have p1 : Own 9 1 (r61 1) (ZP F4) (N61 1) := hp 1 (by decide) rfl
   obtain ⟨ρ64, rfl⟩ := Zc (uc (show ρ 96 = (r61 1) from (hr 1 _ _ (by decide) rfl rfl rfl)) un)
   obtain ⟨hh65, hs65⟩ := strR.any H p1 (by decide)
   refine JLr (Runs_takeS (n := 3) hs65 rfl (by decide) Tryz.runUnderlying28 Tryz.sizeOf9 rfl rfl fun u65 hu65 => Za ?_)
   exact ⟨u65, [], rfl, (Sub.emp Sub.refl), hu65, fun h => absurd h (by decide)⟩
  ·intro ρ r61 N61 hp hr hr0
   have p1 : Own 9 1 (r61 1) (ZP F4) (N61 1) := hp 1 (by decide) rfl
   have p2 : ∀ h, strR h (r61 1) F4 → strR h (r61 2) (F4.take 3) := hp 2 (by decide) rfl
   obtain ⟨ρ66, rfl⟩ := Zc (uc (show ρ 95 = .agg ⟨cs52⟩ from (hr 0 _ _ (by decide) rfl rfl rfl).trans (hp 0 (by decide) rfl)) (uc (show ρ 97 = (r61 2) from (hr 2 _ _ (by decide) rfl rfl rfl)) un))
   refine Zg rfl Tryz.call17 rfl (fun hin => nle_at (d := nmT (sbT 0 t36 t2) (F4.take 3)) (e := 0) (nameG2_ct _ (F4.take 3) _ _ _ (hO52.rd (hin 10 _ (Zn (j := 1) rfl))) (p2 _ (strR.own p1 (by decide) (hin 1 _ (ZQ rfl rfl)))) (by decide)) (tn_name3 (tn_put hg2 hg36 h38))) rfl ?_
   rintro _ _ ⟨cs67, k67, rfl, rfl, hO67⟩
   refine Za ?_
   exact ⟨.tuple ⟨[.agg ⟨cs67⟩, .int .i64 0]⟩, k67, rfl, Sub.refl, ⟨rfl, hO67⟩, fun h => absurd h (by decide)⟩
  ·intro ρ r61 N61 hp hr hr0
   obtain ⟨ρ68, rfl⟩ := Zc (uc (show ρ 98 = .tuple ⟨[.agg ⟨(Zz (r61 3))⟩, .int .i64 0]⟩ from (hr 3 _ _ (by decide) rfl rfl rfl).trans (hp 3 (by decide) rfl).1) un)
   refine JLm (.tuple ⟨[.agg ⟨(Zz (r61 3))⟩, .int .i64 0]⟩) <| Za ?_
   exact ⟨.tuple ⟨[.agg ⟨(Zz (r61 3))⟩, .int .i64 0]⟩, [], rfl, (Sub.emp Sub.refl), rfl, fun h => absurd h (by decide)⟩
  ·intro ρ r61 N61 hp hr hr0
   obtain ⟨ρ69, rfl⟩ := Zc (uc (show ρ 94 = .tuple ⟨[.agg ⟨(Zz (r61 3))⟩, .int .i64 0]⟩ from (hr 4 _ _ (by decide) rfl rfl rfl).trans (hp 4 (by decide) rfl)) un)
   refine JLq (.agg ⟨(Zz (r61 3))⟩) (Pu.extract rfl rfl) <| Za ?_
   exact ⟨.agg ⟨(Zz (r61 3))⟩, [], rfl, (Sub.emp Sub.refl), rfl, fun h => absurd h (by decide)⟩
  ·intro ρ r61 N61 hp hr hr0
   obtain ⟨ρ70, rfl⟩ := Zc (uc (show ρ 94 = .tuple ⟨[.agg ⟨(Zz (r61 3))⟩, .int .i64 0]⟩ from (hr 4 _ _ (by decide) rfl rfl rfl).trans (hp 4 (by decide) rfl)) un)
   refine JLq (.int .i64 0) (Pu.extract rfl rfl) <| Za ?_
   exact ⟨.int .i64 0, [], rfl, (Sub.emp Sub.refl), rfl, fun h => absurd h (by decide)⟩
  ·intro ρ r61 N61 hp hr hr0
   refine JLr (Zj (l := pkN 0 0 zS (.slice none 0 0) (.slice none 0 0) (.slice none 0 0)) Tryz.zeroValue32 rfl fun b71 => Za ?_)
   exact ⟨.pointer (some ⟨b71, 0, none⟩), [(b71, .cells ⟨pkN 0 0 zS (.slice none 0 0) (.slice none 0 0) (.slice none 0 0)⟩ 32 (0, 0))], rfl, Sub.refl, ⟨rfl, _, rfl, rfl⟩, fun h => absurd h (by decide)⟩
  ·intro ρ r61 N61 hp hr hr0
   have p3 : (r61 3) = .tuple ⟨[.agg ⟨(Zz (r61 3))⟩, .int .i64 0]⟩ ∧ ON (nmT (sbT 0 t36 t2) (F4.take 3)) (Zz (r61 3)) (N61 3) := hp 3 (by decide) rfl
   have p7 : (r61 7) = .pointer (some ⟨(ZA (r61 7)), 0, none⟩) ∧ ∃ X : List Value, X.length = 37 ∧ (N61 7) = [((ZA (r61 7)), .cells ⟨X⟩ 32 (0, 0))] := hp 7 (by decide) rfl
   obtain ⟨ρ72, rfl⟩ := Zc (uc (show ρ 15 = .pointer (some ⟨(ZA (r61 7)), 0, none⟩) from (hr 7 _ _ (by decide) rfl rfl rfl).trans p7.1) (uc (show ρ 99 = .agg ⟨(Zz (r61 3))⟩ from (hr 5 _ _ (by decide) rfl rfl rfl).trans (hp 5 (by decide) rfl)) un))
   obtain ⟨hrC, X, hX, hNC⟩ := p7
   refine JLr (Ze 7 (vs := (Zz (r61 3))) (l := (Zz (r61 3))) Z6 rfl ((ZQ rfl rfl).trans (congrArg some hNC)) rfl rfl p3.2.len p3.2.ok (ZL (n := 37) hX p3.2.len) <| Za ?_)
   exact ⟨undef, [((ZA (r61 7)), .cells ⟨(Zz (r61 3))⟩ 32 (0, 0))], rfl, Sub.refl, rfl, fun _ => ⟨hrC, _, p3.2.len, rfl⟩⟩
  intro ρ r61 N61 hNa hp hr hr0
  have p1 : Own 9 1 (r61 1) (ZP F4) (N61 1) := hp 1 (by decide)
  have p2 : ∀ h, strR h (r61 1) F4 → strR h (r61 2) (F4.take 3) := hp 2 (by decide)
  have p3 : (r61 3) = .tuple ⟨[.agg ⟨(Zz (r61 3))⟩, .int .i64 0]⟩ ∧ ON (nmT (sbT 0 t36 t2) (F4.take 3)) (Zz (r61 3)) (N61 3) := hp 3 (by decide)
  have p7 : (r61 7) = .pointer (some ⟨(ZA (r61 7)), 0, none⟩) ∧ ∃ X : List Value, X.length = 37 ∧ (N61 7) = [((ZA (r61 7)), .cells ⟨X⟩ 32 (0, 0))] := hp 7 (by decide)
  have p8 : (N61 7) = [((ZA (r61 7)), .cells ⟨(Zz (r61 3))⟩ 32 (0, 0))] := hp 8 (by decide)
  obtain ⟨ρ73, rfl⟩ := Zc (uc (show ρ 2 = .bool false from hr0 2 (by kernel_rfl)) (uc (show ρ 14 = .pointer (some ⟨b53, 0, none⟩) from hr0 14 (by kernel_rfl)) (uc (show ρ 15 = .pointer (some ⟨(ZA (r61 7)), 0, none⟩) from (hr 7 _ _ (by decide) rfl rfl).trans p7.1) (uc (show ρ 100 = .int .i64 0 from (hr 6 _ _ (by decide) rfl rfl).trans (hp 6 (by decide))) un))))
  have p61_1 := p1; have p61_2 := p2; have p61_3 := p3; have p61_7 := p7; have p61_8 := p8
  clear hp hr hr0 p1 p2 p3 p7 p8
  refine Zq (M' := [(N61 0), (N61 1), (N61 2), (N61 3), (N61 4), (N61 5), (N61 6), (N61 7), (N61 8), [(b53, .cells ⟨cs52⟩ 27 (0, 0))], k52, [(b37, .cells ⟨cs36⟩ 27 (0, 0))], [(bS1, .cells ⟨[u1, .int .i64 a36, .int .u64 s36]⟩ 128 (0, 0))], k36, [(b29, .cells ⟨cs28⟩ 27 (0, 0))], k28, k27, k26, (N15 1), (N15 2), [((ZA (r15 6)), .cells ⟨(Zz (r15 2))⟩ 27 (0, 0))], (N4 1), (N4 2), [((ZA (r4 6)), .cells ⟨(Zz (r4 2))⟩ 32 (0, 0))], [(b3, .cells ⟨cs2⟩ 27 (0, 0))], k2, k1]) Sub.refl <| Zq (M' := [(N61 1), (N61 3), [((ZA (r61 7)), .cells ⟨(Zz (r61 3))⟩ 32 (0, 0))], [(b53, .cells ⟨cs52⟩ 27 (0, 0))], k52, [(b37, .cells ⟨cs36⟩ 27 (0, 0))], [(bS1, .cells ⟨[u1, .int .i64 a36, .int .u64 s36]⟩ 128 (0, 0))], k36, [(b29, .cells ⟨cs28⟩ 27 (0, 0))], k28, k27, k26, (N15 1), (N15 2), [((ZA (r15 6)), .cells ⟨(Zz (r15 2))⟩ 27 (0, 0))], (N4 1), (N4 2), [((ZA (r4 6)), .cells ⟨(Zz (r4 2))⟩ 32 (0, 0))], [(b3, .cells ⟨cs2⟩ 27 (0, 0))], k2, k1]) (Sd (Sk (Sd (Sk (Sd (Sd (Sd (Se p61_8 (Sd (Sk (Sk (Sk (Sk (Sk (Sk (Sk (Sk (Sk (Sk (Sk (Sk (Sk (Sk (Sk (Sk (Sk (Sk Sub.nil))))))))))))))))))))))))))) ?_
  show JL _ _ _ [_] _ _ _
  refine JLa (.int .i64 0) <| Za <| Zd <| J_drawC mixed #[0, 0, 2, 7, 15, 31, 31, 0, 191, 511] 9 8 7 rfl (by kernel_rfl) rfl rfl (by kernel_rfl) (by kernel_rfl) (fun i r74 N74 => match i with | 0 => (r74 0) = .agg ⟨(Zz (r61 3))⟩ | 1 => Own 9 1 (r74 1) (ZP F4) (N74 1) | 2 => ∀ h, strR h (r74 1) F4 → strR h (r74 2) (F4.take 3) | 3 => (r74 3) = .tuple ⟨[.agg ⟨(Zz (r74 3))⟩, .int .i64 0]⟩ ∧ OT ((sbT 0 t36 t2)) (Zz (r74 3)) (N74 3) | 4 => (r74 4) = .tuple ⟨[.agg ⟨(Zz (r74 3))⟩, .int .i64 0]⟩ | 5 => (r74 5) = .agg ⟨(Zz (r74 3))⟩ | 6 => (r74 6) = .int .i64 0 | 7 => (r74 7) = .pointer (some ⟨(ZA (r74 7)), 0, none⟩) ∧ ∃ X : List Value, X.length = 36 ∧ (N74 7) = [((ZA (r74 7)), .cells ⟨X⟩ 27 (0, 0))] | 8 => (N74 7) = [((ZA (r74 7)), .cells ⟨(Zz (r74 3))⟩ 27 (0, 0))] | _ => True) ⟨?_, ?_, ?_, ?_, ?_, ?_, ?_, ?_, ?_, trivial⟩ ?_
  ·intro ρ r74 N74 hp hr hr0
   obtain ⟨ρ75, rfl⟩ := Zc (uc (show ρ 15 = .pointer (some ⟨(ZA (r61 7)), 0, none⟩) from hr0 15 (by kernel_rfl)) un)
   refine JLr (Zh Z6 rfl (At.bx 11 (Zn (j := 2) rfl)) (Zx p61_3.2.len) <| Za ?_)
   exact ⟨.agg ⟨(Zz (r61 3))⟩, [], rfl, (Sub.emp Sub.refl), rfl, fun h => absurd h (by decide)⟩
  ·intro ρ r74 N74 hp hr hr0
   refine Zg rfl Tryz.call25 rfl (fun hin => names_ct _) rfl ?_
   rintro u76 _ ⟨k76, rfl, ho76⟩
   refine Za ?_
   exact ⟨u76, k76, rfl, Sub.refl, ho76, fun h => absurd h (by decide)⟩
  ·intro ρ r74 N74 hp hr hr0
   have p1 : Own 9 1 (r74 1) (ZP F4) (N74 1) := hp 1 (by decide) rfl
   obtain ⟨ρ77, rfl⟩ := Zc (uc (show ρ 103 = (r74 1) from (hr 1 _ _ (by decide) rfl rfl rfl)) un)
   obtain ⟨hh78, hs78⟩ := strR.any H p1 (by decide)
   refine JLr (Runs_takeS (n := 3) hs78 rfl (by decide) Tryz.runUnderlying28 Tryz.sizeOf9 rfl rfl fun u78 hu78 => Za ?_)
   exact ⟨u78, [], rfl, (Sub.emp Sub.refl), hu78, fun h => absurd h (by decide)⟩
  ·intro ρ r74 N74 hp hr hr0
   have p1 : Own 9 1 (r74 1) (ZP F4) (N74 1) := hp 1 (by decide) rfl
   have p2 : ∀ h, strR h (r74 1) F4 → strR h (r74 2) (F4.take 3) := hp 2 (by decide) rfl
   obtain ⟨ρ79, rfl⟩ := Zc (uc (show ρ 102 = .agg ⟨(Zz (r61 3))⟩ from (hr 0 _ _ (by decide) rfl rfl rfl).trans (hp 0 (by decide) rfl)) (uc (show ρ 104 = (r74 2) from (hr 2 _ _ (by decide) rfl rfl rfl)) un))
   refine Zg rfl Tryz.call18 rfl (fun hin => ble_at (d := (sbT 0 t36 t2)) (e := 0) (namelessE_ct _ (F4.take 3) _ _ _ (p61_3.2.rd (hin 10 _ (Zn (j := 1) rfl))) (p2 _ (strR.own p1 (by decide) (hin 1 _ (ZQ rfl rfl))))) (tn_back3 (tn_put hg2 hg36 h38))) rfl ?_
   rintro _ _ ⟨cs80, k80, rfl, rfl, hO80⟩
   refine Za ?_
   exact ⟨.tuple ⟨[.agg ⟨cs80⟩, .int .i64 0]⟩, k80, rfl, Sub.refl, ⟨rfl, hO80⟩, fun h => absurd h (by decide)⟩
  ·intro ρ r74 N74 hp hr hr0
   obtain ⟨ρ81, rfl⟩ := Zc (uc (show ρ 105 = .tuple ⟨[.agg ⟨(Zz (r74 3))⟩, .int .i64 0]⟩ from (hr 3 _ _ (by decide) rfl rfl rfl).trans (hp 3 (by decide) rfl).1) un)
   refine JLm (.tuple ⟨[.agg ⟨(Zz (r74 3))⟩, .int .i64 0]⟩) <| Za ?_
   exact ⟨.tuple ⟨[.agg ⟨(Zz (r74 3))⟩, .int .i64 0]⟩, [], rfl, (Sub.emp Sub.refl), rfl, fun h => absurd h (by decide)⟩
  ·intro ρ r74 N74 hp hr hr0
   obtain ⟨ρ82, rfl⟩ := Zc (uc (show ρ 101 = .tuple ⟨[.agg ⟨(Zz (r74 3))⟩, .int .i64 0]⟩ from (hr 4 _ _ (by decide) rfl rfl rfl).trans (hp 4 (by decide) rfl)) un)
   refine JLq (.agg ⟨(Zz (r74 3))⟩) (Pu.extract rfl rfl) <| Za ?_
   exact ⟨.agg ⟨(Zz (r74 3))⟩, [], rfl, (Sub.emp Sub.refl), rfl, fun h => absurd h (by decide)⟩
  ·intro ρ r74 N74 hp hr hr0
   obtain ⟨ρ83, rfl⟩ := Zc (uc (show ρ 101 = .tuple ⟨[.agg ⟨(Zz (r74 3))⟩, .int .i64 0]⟩ from (hr 4 _ _ (by decide) rfl rfl rfl).trans (hp 4 (by decide) rfl)) un)
   refine JLq (.int .i64 0) (Pu.extract rfl rfl) <| Za ?_
   exact ⟨.int .i64 0, [], rfl, (Sub.emp Sub.refl), rfl, fun h => absurd h (by decide)⟩
  ·intro ρ r74 N74 hp hr hr0
   refine JLr (Zj (l := pkT 0 0 zS (.slice none 0 0) (.slice none 0 0)) Tryz.zeroValue27 rfl fun b84 => Za ?_)
   exact ⟨.pointer (some ⟨b84, 0, none⟩), [(b84, .cells ⟨pkT 0 0 zS (.slice none 0 0) (.slice none 0 0)⟩ 27 (0, 0))], rfl, Sub.refl, ⟨rfl, _, rfl, rfl⟩, fun h => absurd h (by decide)⟩
  ·intro ρ r74 N74 hp hr hr0
   have p3 : (r74 3) = .tuple ⟨[.agg ⟨(Zz (r74 3))⟩, .int .i64 0]⟩ ∧ OT ((sbT 0 t36 t2)) (Zz (r74 3)) (N74 3) := hp 3 (by decide) rfl
   have p7 : (r74 7) = .pointer (some ⟨(ZA (r74 7)), 0, none⟩) ∧ ∃ X : List Value, X.length = 36 ∧ (N74 7) = [((ZA (r74 7)), .cells ⟨X⟩ 27 (0, 0))] := hp 7 (by decide) rfl
   obtain ⟨ρ85, rfl⟩ := Zc (uc (show ρ 16 = .pointer (some ⟨(ZA (r74 7)), 0, none⟩) from (hr 7 _ _ (by decide) rfl rfl rfl).trans p7.1) (uc (show ρ 106 = .agg ⟨(Zz (r74 3))⟩ from (hr 5 _ _ (by decide) rfl rfl rfl).trans (hp 5 (by decide) rfl)) un))
   obtain ⟨hrC, X, hX, hNC⟩ := p7
   refine JLr (Ze 7 (vs := (Zz (r74 3))) (l := (Zz (r74 3))) Zu rfl ((ZQ rfl rfl).trans (congrArg some hNC)) rfl rfl p3.2.len p3.2.ok (ZL (n := 36) hX p3.2.len) <| Za ?_)
   exact ⟨undef, [((ZA (r74 7)), .cells ⟨(Zz (r74 3))⟩ 27 (0, 0))], rfl, Sub.refl, rfl, fun _ => ⟨hrC, _, p3.2.len, rfl⟩⟩
  intro ρ r74 N74 hNa hp hr hr0
  have p1 : Own 9 1 (r74 1) (ZP F4) (N74 1) := hp 1 (by decide)
  have p2 : ∀ h, strR h (r74 1) F4 → strR h (r74 2) (F4.take 3) := hp 2 (by decide)
  have p3 : (r74 3) = .tuple ⟨[.agg ⟨(Zz (r74 3))⟩, .int .i64 0]⟩ ∧ OT ((sbT 0 t36 t2)) (Zz (r74 3)) (N74 3) := hp 3 (by decide)
  have p7 : (r74 7) = .pointer (some ⟨(ZA (r74 7)), 0, none⟩) ∧ ∃ X : List Value, X.length = 36 ∧ (N74 7) = [((ZA (r74 7)), .cells ⟨X⟩ 27 (0, 0))] := hp 7 (by decide)
  have p8 : (N74 7) = [((ZA (r74 7)), .cells ⟨(Zz (r74 3))⟩ 27 (0, 0))] := hp 8 (by decide)
  obtain ⟨ρ86, rfl⟩ := Zc (uc (show ρ 2 = .bool false from hr0 2 (by kernel_rfl)) (uc (show ρ 7 = .int .i64 0 from hr0 7 (by kernel_rfl)) (uc (show ρ 14 = .pointer (some ⟨b53, 0, none⟩) from hr0 14 (by kernel_rfl)) (uc (show ρ 16 = .pointer (some ⟨(ZA (r74 7)), 0, none⟩) from (hr 7 _ _ (by decide) rfl rfl).trans p7.1) (uc (show ρ 107 = .int .i64 0 from (hr 6 _ _ (by decide) rfl rfl).trans (hp 6 (by decide))) un)))))
  have p74_1 := p1; have p74_2 := p2; have p74_3 := p3; have p74_7 := p7; have p74_8 := p8
  clear hp hr hr0 p1 p2 p3 p7 p8
  refine Zq (M' := [(N74 0), (N74 1), (N74 2), (N74 3), (N74 4), (N74 5), (N74 6), (N74 7), (N74 8), (N61 1), (N61 3), [((ZA (r61 7)), .cells ⟨(Zz (r61 3))⟩ 32 (0, 0))], [(b53, .cells ⟨cs52⟩ 27 (0, 0))], k52, [(b37, .cells ⟨cs36⟩ 27 (0, 0))], [(bS1, .cells ⟨[u1, .int .i64 a36, .int .u64 s36]⟩ 128 (0, 0))], k36, [(b29, .cells ⟨cs28⟩ 27 (0, 0))], k28, k27, k26, (N15 1), (N15 2), [((ZA (r15 6)), .cells ⟨(Zz (r15 2))⟩ 27 (0, 0))], (N4 1), (N4 2), [((ZA (r4 6)), .cells ⟨(Zz (r4 2))⟩ 32 (0, 0))], [(b3, .cells ⟨cs2⟩ 27 (0, 0))], k2, k1]) Sub.refl <| Zq (M' := [(N74 1), (N74 3), [((ZA (r74 7)), .cells ⟨(Zz (r74 3))⟩ 27 (0, 0))], (N61 1), (N61 3), [((ZA (r61 7)), .cells ⟨(Zz (r61 3))⟩ 32 (0, 0))], [(b53, .cells ⟨cs52⟩ 27 (0, 0))], k52, [(b37, .cells ⟨cs36⟩ 27 (0, 0))], [(bS1, .cells ⟨[u1, .int .i64 a36, .int .u64 s36]⟩ 128 (0, 0))], k36, [(b29, .cells ⟨cs28⟩ 27 (0, 0))], k28, k27, k26, (N15 1), (N15 2), [((ZA (r15 6)), .cells ⟨(Zz (r15 2))⟩ 27 (0, 0))], (N4 1), (N4 2), [((ZA (r4 6)), .cells ⟨(Zz (r4 2))⟩ 32 (0, 0))], [(b3, .cells ⟨cs2⟩ 27 (0, 0))], k2, k1]) (Sd (Sk (Sd (Sk (Sd (Sd (Sd (Se p74_8 (Sd (Sk (Sk (Sk (Sk (Sk (Sk (Sk (Sk (Sk (Sk (Sk (Sk (Sk (Sk (Sk (Sk (Sk (Sk (Sk (Sk (Sk Sub.nil)))))))))))))))))))))))))))))) ?_
  show JL _ _ _ [_] _ _ _
  refine JLa (.int .i64 0) <| Za <| Yo (fun ρ M => ρ 2 = .bool true ∧ M = [(N74 1), (N74 3), [((ZA (r74 7)), .cells ⟨(Zz (r74 3))⟩ 27 (0, 0))], (N61 1), (N61 3), [((ZA (r61 7)), .cells ⟨(Zz (r61 3))⟩ 32 (0, 0))], [(b53, .cells ⟨cs52⟩ 27 (0, 0))], k52, [(b37, .cells ⟨cs36⟩ 27 (0, 0))], [(bS1, .cells ⟨[u1, .int .i64 a36, .int .u64 s36]⟩ 128 (0, 0))], k36, [(b29, .cells ⟨cs28⟩ 27 (0, 0))], k28, k27, k26, (N15 1), (N15 2), [((ZA (r15 6)), .cells ⟨(Zz (r15 2))⟩ 27 (0, 0))], (N4 1), (N4 2), [((ZA (r4 6)), .cells ⟨(Zz (r4 2))⟩ 32 (0, 0))], [(b3, .cells ⟨cs2⟩ 27 (0, 0))], k2, k1]) ?_ ?_
  ·refine Zb <| JLm (.int .i64 0) <| JLq (.bool true) (show Pu _ _ _ (.bool (decide ((0 : Int) = 0))) from Pu.eql rfl rfl) <| JLm (.bool true) <| JLm (.int .i64 0) <| JLq (.bool true) (show Pu _ _ _ (.bool (decide ((0 : Int) = 0))) from Pu.eql rfl rfl) <| JLq (.bool true) (Pu.pickT rfl rfl) <| JLm (.bool true) <| JLr (Zh Zu rfl (At.bx 2 rfl) (Zx p74_3.2.len) <| JLr (Zh Zu rfl (At.bx 6 rfl) (Zx hO52.len) <| Zg rfl Tryz.call21 rfl (fun hin => bool_r (r := true) (Y8 _ _ _ _ _ (p74_3.2.rd (hin 1 _ rfl)) (hO52.rd (hin 7 _ rfl))) (decide_eq_true rfl)) rfl ?_))
   rintro _ _ ⟨rfl, rfl⟩
   refine JLq (.bool true) (Pu.pickT rfl rfl) <| JLm (.bool true) <| JLr (Zh Zu rfl (At.bx 6 rfl) (Zx hO52.len) <| Zg rfl Tryz.call29 rfl (fun hin => int_r (r := 0) (check_ct _ _ _ _ _ (hO52.rd (hin 7 _ rfl))) (by rw [check_eq]; exact (tn_put hg2 hg36 h38))) rfl ?_)
   rintro _ _ ⟨rfl, rfl⟩
   refine JLq (.bool true) (show Pu _ _ _ (.bool (decide ((0 : Int) = 0))) from Pu.eql rfl rfl) <| JLq (.bool true) (Pu.pickT rfl rfl) <| JLm (.bool true) <| Zg rfl Tryz.call9 rfl (fun hin => awake_ct _) rfl ?_
   rintro _ _ ⟨rfl, rfl⟩
   refine JLq (.bool true) (Pu.pickT rfl rfl) <| JLa (.bool true) <| Za ?_
   first | exact ⟨rfl, rfl⟩ | (exfalso; omega)
  rintro ρ87 _ ⟨e88, rfl⟩
  obtain ⟨ρ89, rfl⟩ := Zc (uc e88 un)
  clear e88
  refine Zl <| ⟨.bool true, [], Ret.one rfl (RV.tmp rfl), Sub.nil, ?_⟩
  exact ⟨rfl, rfl⟩
end Go.Proofs.YtmophpgiaiemhaaGreat.Hs
