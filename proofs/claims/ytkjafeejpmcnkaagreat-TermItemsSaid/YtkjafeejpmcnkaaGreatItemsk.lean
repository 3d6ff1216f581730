import Derived.Test.YtkjafeejpmcnkaaGreatItemsj
import Derived.Laws.BytesArg
/-! Slices of bytes: their parts, their strings. -/
namespace Go.Proofs.YtkjafeejpmcnkaaGreat.Hs
open Go Go.Proofs
set_option maxRecDepth 100000
theorem Pu.castB {P : Program} {e : Operand → Value} {o : Oper} {b c : Bool} (h : Pu P e o (.bool b)) (q : b = c) : Pu P e o (.bool c) := q ▸ h
/-- a slice of bytes, with its room -/
def byR (H : Heap) (v : Value) (l : List Int) : Prop := ∃ a cap, v = .slice a l.length cap ∧ l.length ≤ cap ∧ Hs.rdS RB 1 H v l
theorem byR.rd {H : Heap} {v : Value} {l : List Int} (h : byR H v l) : Hs.rdS RB 1 H v l := by obtain ⟨_, _, _, _, h⟩ := h; exact h
theorem byR.one {H : Heap} {v : Value} {l : List Int} (h : byR H v l) : v.oneCell' = true := h.rd.one
theorem byR.mono {H H' : Heap} {v : Value} {l : List Int} (hh : Hle H H') (h : byR H v l) : byR H' v l := by obtain ⟨a, cap, e, h1, h⟩ := h; exact ⟨a, cap, e, h1, RBs.mono hh h⟩
theorem byR.cut {h : Heap} {a : Option Addr} {N cap : Nat} {l : List Int} (r : byR h (.slice a N cap) l) (n m : Nat) (hnm : n + m ≤ l.length) : Hs.rdS RB 1 h (.slice (if cap = n then a else a.map (·.add (n * 1))) m (cap - n)) ((l.drop n).take m) := by
  obtain ⟨a', c', e, h1, a2, c2, e2, h2, h0⟩ := r
  cases e; cases e2
  have hl : ((l.drop n).take m).length = m := by rw [List.length_take, List.length_drop]; omega
  refine ⟨_, _, by rw [hl], by rw [hl]; omega, ?_⟩
  by_cases hz : m = 0
  · exact .inl (by rw [hl]; exact hz)
  rcases h0 with h0 | ⟨b, o, row, T, fr, e1, e2, e3⟩
  · omega
  · right
    have hc : ¬ cap = n := by omega
    refine ⟨b, o + n * 1, row, T, fr, by rw [if_neg hc, e1]; simp [Addr.add], e2, rows.mk fun i hi => ?_⟩
    rw [hl] at hi
    obtain ⟨cs, h2, h3⟩ := e3.get (n + i) (by omega)
    exact ⟨cs, by rw [← h2]; congr 1; omega, by rw [List.getElem_take, List.getElem_drop]; exact h3⟩
section
variable {c : Cx} {H : Heap} {ρ : Nat → Value} {M : List Zi} {K : Value → List Zi → Prop} {d : Option Nat} {ot : TypeId} {pos : String} {af : Array Edge} {g : Option (Nat × Bool)} {x y z : Operand}
theorem run_toStr {P : Program} {H : Heap} {L : Zi} {w : World} {T T' el : TypeId} {v : Value} {l : List Int} (mm : Mem w L H) (hr : Hs.rdS RB 1 H v l) (hT : ∀ w, (underlying T).run P w = .ok (.slice el) w) (hel : ∀ w, (underlying el).run P w = .ok (.int .u8) w) (hT' : ∀ w, (underlying T').run P w = .ok .string w) :
    (convert T T' v).run P w = .ok (.string (bstr l)) w := by
  obtain ⟨a, cap, rfl, hn, h0⟩ := hr
  have e1 : (convert T T' (.slice a l.length cap)).run P w = (Conv.bytesToString (.slice a l.length cap)).run P w := by
    simp [convert, hT, hT', hel]
  rw [e1]
  cases a with
  | none =>
    rcases h0 with h0 | ⟨b, o, row, T2, fr, e2, _⟩
    · have : l = [] := List.eq_nil_of_length_eq_zero h0
      subst this
      simp [Conv.bytesToString, bstr]
      rfl
    · cases e2
  | some a =>
    have hl : (loadCells a l.length).run P w = .ok (l.map (Value.int .u8)).toArray w := by
      have := run_loadCells_list (P := P) w a (l.map (Value.int .u8)) (fun j u hj => by
        have hjl : j < l.length := by
          rcases Nat.lt_or_ge j l.length with h | h
          · exact h
          · simp [List.getElem?_eq_none (show (l.map (Value.int .u8)).length ≤ j by simpa using h)] at hj
        rcases h0 with h0 | ⟨b, o, row, T2, fr, e2, hb, hrow⟩
        · omega
        · cases e2
          obtain ⟨cs, q1, q2⟩ := hrow.get j hjl
          obtain ⟨q3, q4⟩ := Xw q1
          rw [addr_add, cell_of_row w b (o + j) _ _ _ (mm.imm _ _ hb)]
          simp [List.getElem?_eq_getElem hjl] at hj
          have q5 : row[o + j]? = some (.int .u8 l[j]) := by
            have e := q4.symm.trans q2
            have : ((row.drop (o + j * 1)).take 1)[0]? = some (.int .u8 l[j]) := by rw [e]; rfl
            rw [List.getElem?_take, if_pos (by omega), List.getElem?_drop] at this
            simpa using this
          rw [← hj]
          simpa using q5)
      simpa using this
    rw [run_bytesToString w a l.length cap l hl, foldl_push_bytes]
    simp [bstr]
end
section
variable {c : Cx} {H : Heap} {l : List Oper} {b : Array Nat} {k : Nat} {ds : List (Option Nat)} {cs : List (Nat × Nat)} {P : List (Nat × XH)} {ρ₀ : Nat → Value} {M₀ : List Zi} {Q : Post} {m : Nat} {os : List Oper} {r : Nat → Value} {N : Nat → List Zi}
  {d : Option Nat} {x : Operand} {ot : TypeId} {pos : String} {af : Array Edge} {g : Option (Nat × Bool)}
end
end Go.Proofs.YtkjafeejpmcnkaaGreat.Hs
/-! Walks, printed by a program of this session's own (gen.py). -/
namespace Go.Proofs.YtkjafeejpmcnkaaGreat.Hs
open Go Go.Proofs
set_option maxRecDepth 100000
set_option linter.unusedVariables false
set_option linter.unusedSimpArgs false
attribute [local irreducible] JL J CT wlo DT
theorem equalI_ct (l m : List Int) (v u : Value) (H : Heap) (hl : rdS RI 1 H v l) (hm : rdS RI 1 H u m) : CT Tryz.prog 32 ⟨[v, u]⟩ [] H (fun v N => v = .bool (eqL l m) ∧ N = []) := by
 refine Zm Tryz.func32 rfl rfl <| Zc <| Za <| JLA rfl <| Zb <| Zc <| Zc <| Za <| JLm v ?_
 obtain ⟨a1, cap1, hv1⟩ := hl.sl
 have hle1 := hl.le
 refine JLn (Pu.lenSl Tryz.runUnderlying59 hv1) <| JLm u ?_
 obtain ⟨a2, cap2, hv2⟩ := hm.sl
 have hle2 := hm.le
 refine JLn (Pu.lenSl Tryz.runUnderlying59 hv2) <| JLn (Pu.neq rfl rfl) <| Zb <| Zg rfl (fun h3 => ?_) (fun h3 => ?_)
 ·replace h3 := nt h3
  replace h3 := df h3
  refine Zc <| Za <| JLA rfl <| Zb <| Zl <| ⟨.bool false, [], Ret.one rfl (RV.tmp rfl), Sub.nil, ?_⟩
  exact ⟨by rw [eqL_false (fun e => by subst e; exact absurd rfl h3)], rfl⟩
 replace h3 := nf h3
 replace h3 := dt h3
 refine Zj <| Zc <| Zc <| Za <| JLm v ?_
 obtain ⟨a4, cap4, hv4⟩ := hl.sl
 have hle4 := hl.le
 refine JLn (Pu.lenSl Tryz.runUnderlying59 hv4) <| JLM rfl <| Zb <| Zn <| ZB (fun k ρ M => ∃ (j : Nat), ρ 0 = v ∧ ρ 1 = u ∧ ρ 4 = .bool false ∧ ρ 12 = iv ((l.length : Int)) ∧ ρ 13 = iv ((j : Int)) ∧ Sub [] M ∧ j ≤ l.length ∧ l.take j = m.take j ∧ k = l.length - j) _ ⟨0, rfl, rfl, rfl, rfl, rfl, Sub.nil, Nat.zero_le _, rfl, rfl⟩ ?_
 rintro _ ρ5 _ ⟨j, e6, e7, e8, e9, e10, hm11, hj, hinv, rfl⟩
 obtain ⟨ρ12, rfl⟩ := Zr (uc e6 (uc e7 (uc e8 (uc e9 (uc e10 un)))))
 clear e6 e7 e8 e9 e10
 refine ZG hm11 <| Zc <| Za <| JLn (Pu.lss rfl rfl) <| Zb <| Zc <| Zg rfl (fun h13 => ?_) (fun h13 => ?_)
 ·replace h13 := dt h13
  have h13n : j < l.length := by omega
  have hlenl := hl.le
  have hjm : j < m.length := by omega
  refine Zj <| Zc <| Zn <| Zc <| Za <| JLM rfl <| JLA rfl <| Zb <| Zc <| ZJ mixed #[0, 0, 3, 7, 0, 0, 48, 112, 255] 8 [some 16, some 17, some 18, some 19, some 20, some 21, some 22, some 23] [] [] rfl (by kernel_rfl) rfl (by kernel_rfl) <| Dm v <| DM (fun _ => rfl) ?_
  obtain ⟨b16, o16, cap16, row16, T16, fr16, cs16, hv16, hb16, hs16, hE16⟩ := hl.get j (by first | assumption | omega | decide | simp)
  refine Dq (pp b16 (o16 + j * 1)) (fun _ => Pu.idx j Tryz.runUnderlying59 ty3 hv16 rfl rfl (by first | assumption | omega | decide | simp)) <| Dl1 ty3 (At.im hb16) (YX ((show cs16 = [Value.int .i64 (l[j])] from hE16) ▸ hs16)) <| Dm u <| DM (fun _ => rfl) ?_
  obtain ⟨b17, o17, cap17, row17, T17, fr17, cs17, hv17, hb17, hs17, hE17⟩ := hm.get j (by first | assumption | omega | decide | simp)
  refine Dq (pp b17 (o17 + j * 1)) (fun _ => Pu.idx j Tryz.runUnderlying59 ty3 hv17 rfl rfl (by first | assumption | omega | decide | simp)) <| Dl1 ty3 (At.im hb17) (YX ((show cs17 = [Value.int .i64 (m[j])] from hE17) ▸ hs17)) <| ZV (M' := []) rfl ?_
  show JL _ _ _ [_] _ _ _
  refine JLn (Pu.neq rfl rfl) <| Zb <| Zg rfl (fun h18 => ?_) (fun h18 => ?_)
  ·replace h18 := nt h18
   replace h18 := df h18
   refine Zc <| Za <| JLA rfl <| Zb <| Zl <| ⟨.bool false, [], Ret.one rfl (RV.tmp rfl), Sub.nil, ?_⟩
   exact ⟨by rw [eqL_false (fun e => by subst e; exact h18 rfl)], rfl⟩
  replace h18 := nf h18
  replace h18 := dt h18
  refine Zj <| Za <| JLn (Pu.inc rfl rfl (by omega)) <| JLM rfl <| Zb <| ⟨_, ?_, (j + 1), rfl, rfl, rfl, rfl, rfl, Sub.nil, ?_, ?_, rfl⟩
  ·omega
  ·omega
  rw [List.take_succ_eq_append_getElem h13n, List.take_succ_eq_append_getElem hjm, hinv, h18]
 replace h13 := df h13
 have h13n : l.length ≤ j := by omega
 refine Zz _ rfl <| Zc <| Za <| JLA rfl <| Zb <| Zl <| ⟨.bool true, [], Ret.one rfl (RV.tmp rfl), Sub.nil, ?_⟩
 exact ⟨by rw [eqL_true (by rw [← List.take_of_length_le h13n, hinv, List.take_of_length_le (by omega)])], rfl⟩
theorem equalS_ct (l m : List ByteArray) (v u : Value) (H : Heap) (hl : rdS RS 1 H v l) (hm : rdS RS 1 H u m) : CT Tryz.prog 33 ⟨[v, u]⟩ [] H (fun v N => v = .bool (eqL l m) ∧ N = []) := by
 refine Zm Tryz.func33 rfl rfl <| Zc <| Za <| JLA rfl <| Zb <| Zc <| Zc <| Za <| JLm v ?_
 obtain ⟨a1, cap1, hv1⟩ := hl.sl
 have hle1 := hl.le
 refine JLn (Pu.lenSl Tryz.runUnderlying64 hv1) <| JLm u ?_
 obtain ⟨a2, cap2, hv2⟩ := hm.sl
 have hle2 := hm.le
 refine JLn (Pu.lenSl Tryz.runUnderlying64 hv2) <| JLn (Pu.neq rfl rfl) <| Zb <| Zg rfl (fun h3 => ?_) (fun h3 => ?_)
 ·replace h3 := nt h3
  replace h3 := df h3
  refine Zc <| Za <| JLA rfl <| Zb <| Zl <| ⟨.bool false, [], Ret.one rfl (RV.tmp rfl), Sub.nil, ?_⟩
  exact ⟨by rw [eqL_false (fun e => by subst e; exact absurd rfl h3)], rfl⟩
 replace h3 := nf h3
 replace h3 := dt h3
 refine Zj <| Zc <| Zc <| Za <| JLm v ?_
 obtain ⟨a4, cap4, hv4⟩ := hl.sl
 have hle4 := hl.le
 refine JLn (Pu.lenSl Tryz.runUnderlying64 hv4) <| JLM rfl <| Zb <| Zn <| ZB (fun k ρ M => ∃ (j : Nat), ρ 0 = v ∧ ρ 1 = u ∧ ρ 4 = .bool false ∧ ρ 12 = iv ((l.length : Int)) ∧ ρ 13 = iv ((j : Int)) ∧ Sub [] M ∧ j ≤ l.length ∧ l.take j = m.take j ∧ k = l.length - j) _ ⟨0, rfl, rfl, rfl, rfl, rfl, Sub.nil, Nat.zero_le _, rfl, rfl⟩ ?_
 rintro _ ρ5 _ ⟨j, e6, e7, e8, e9, e10, hm11, hj, hinv, rfl⟩
 obtain ⟨ρ12, rfl⟩ := Zr (uc e6 (uc e7 (uc e8 (uc e9 (uc e10 un)))))
 clear e6 e7 e8 e9 e10
 refine ZG hm11 <| Zc <| Za <| JLn (Pu.lss rfl rfl) <| Zb <| Zc <| Zg rfl (fun h13 => ?_) (fun h13 => ?_)
 ·replace h13 := dt h13
  have h13n : j < l.length := by omega
  have hlenl := hl.le
  have hjm : j < m.length := by omega
  refine Zj <| Zc <| Zn <| Zc <| Za <| JLM rfl <| JLA rfl <| Zb <| Zc <| ZJ mixed #[0, 0, 3, 7, 0, 0, 48, 112, 255] 8 [some 16, some 17, some 18, some 19, some 20, some 21, some 22, some 23] [] [] rfl (by kernel_rfl) rfl (by kernel_rfl) <| Dm v <| DM (fun _ => rfl) ?_
  obtain ⟨b16, o16, cap16, row16, T16, fr16, cs16, hv16, hb16, hs16, hE16⟩ := hl.get j (by first | assumption | omega | decide | simp)
  refine Dq (pp b16 (o16 + j * 1)) (fun _ => Pu.idx j Tryz.runUnderlying64 ty9 hv16 rfl rfl (by first | assumption | omega | decide | simp)) <| Dl1 ty9 (At.im hb16) (YX ((show cs16 = [Value.string (l[j])] from hE16) ▸ hs16)) <| Dm u <| DM (fun _ => rfl) ?_
  obtain ⟨b17, o17, cap17, row17, T17, fr17, cs17, hv17, hb17, hs17, hE17⟩ := hm.get j (by first | assumption | omega | decide | simp)
  refine Dq (pp b17 (o17 + j * 1)) (fun _ => Pu.idx j Tryz.runUnderlying64 ty9 hv17 rfl rfl (by first | assumption | omega | decide | simp)) <| Dl1 ty9 (At.im hb17) (YX ((show cs17 = [Value.string (m[j])] from hE17) ▸ hs17)) <| ZV (M' := []) rfl ?_
  show JL _ _ _ [_] _ _ _
  refine JLn (Pu.neqS rfl rfl) <| Zb <| Zg rfl (fun h18 => ?_) (fun h18 => ?_)
  ·replace h18 := nt h18
   replace h18 := df h18
   refine Zc <| Za <| JLA rfl <| Zb <| Zl <| ⟨.bool false, [], Ret.one rfl (RV.tmp rfl), Sub.nil, ?_⟩
   exact ⟨by rw [eqL_false (fun e => by subst e; exact h18 rfl)], rfl⟩
  replace h18 := nf h18
  replace h18 := dt h18
  refine Zj <| Za <| JLn (Pu.inc rfl rfl (by omega)) <| JLM rfl <| Zb <| ⟨_, ?_, (j + 1), rfl, rfl, rfl, rfl, rfl, Sub.nil, ?_, ?_, rfl⟩
  ·omega
  ·omega
  rw [List.take_succ_eq_append_getElem h13n, List.take_succ_eq_append_getElem hjm, hinv, h18]
 replace h13 := df h13
 have h13n : l.length ≤ j := by omega
 refine Zz _ rfl <| Zc <| Za <| JLA rfl <| Zb <| Zl <| ⟨.bool true, [], Ret.one rfl (RV.tmp rfl), Sub.nil, ?_⟩
 exact ⟨by rw [eqL_true (by rw [← List.take_of_length_le h13n, hinv, List.take_of_length_le (by omega)])], rfl⟩
theorem idxS_ct (l : List ByteArray) (x : ByteArray) (v : Value) (H : Heap) (hl : rdS RS 1 H v l) : CT Tryz.prog 110 ⟨[v, .string x]⟩ [] H (fun v N => v = iv (fstS x l 0) ∧ N = []) := by
 refine Zm Tryz.func110 rfl rfl <| Zc <| Za <| JLA rfl <| Zb <| Zc <| Zc <| Za <| JLm v ?_
 obtain ⟨a1, cap1, hv1⟩ := hl.sl
 have hle1 := hl.le
 refine JLn (Pu.lenSl Tryz.runUnderlying64 hv1) <| JLM rfl <| Zb <| Zn <| ZB (fun k ρ M => ∃ (j : Nat), ρ 0 = v ∧ ρ 1 = .string x ∧ ρ 4 = iv 0 ∧ ρ 7 = iv ((l.length : Int)) ∧ ρ 8 = iv ((j : Int)) ∧ Sub [] M ∧ j ≤ l.length ∧ fstS x (l.drop j) j = fstS x l 0 ∧ k = l.length - j) _ ⟨0, rfl, rfl, rfl, rfl, rfl, Sub.nil, Nat.zero_le _, rfl, rfl⟩ ?_
 rintro _ ρ2 _ ⟨j, e3, e4, e5, e6, e7, hm8, hj, hinv, rfl⟩
 obtain ⟨ρ9, rfl⟩ := Zr (uc e3 (uc e4 (uc e5 (uc e6 (uc e7 un)))))
 clear e3 e4 e5 e6 e7
 refine ZG hm8 <| Zc <| Za <| JLn (Pu.lss rfl rfl) <| Zb <| Zc <| Zg rfl (fun h10 => ?_) (fun h10 => ?_)
 ·replace h10 := dt h10
  have h10n : j < l.length := by omega
  have hlenl := hl.le
  refine Zj <| Zc <| Zn <| Zc <| Za <| JLM rfl <| JLA rfl <| Zb <| Zc <| Za <| JLM rfl <| JLm v <| JLM rfl ?_
  obtain ⟨b11, o11, cap11, row11, T11, fr11, cs11, hv11, hb11, hs11, hE11⟩ := hl.get j (by first | assumption | omega | decide | simp)
  refine JLq (pp b11 (o11 + j * 1)) (Pu.idx j Tryz.runUnderlying64 ty9 hv11 rfl rfl (by first | assumption | omega | decide | simp)) <| JLr (Zd ty9 rfl (At.im hb11) (YX ((show cs11 = [Value.string (l[j])] from hE11) ▸ hs11)) <| JLn (Pu.eqlS rfl rfl) <| Zb <| Zg rfl (fun h12 => ?_) (fun h12 => ?_))
  ·replace h12 := dt h12
   refine Zc <| Za <| JLM rfl <| JLA rfl <| Zb <| Zl <| ⟨iv ((j : Int)), [], Ret.one rfl (RV.tmp rfl), Sub.nil, ?_⟩
   exact ⟨by rw [← hinv, ZW h10n, fstS, if_pos h12], rfl⟩
  replace h12 := df h12
  refine Zj <| Za <| JLn (Pu.inc rfl rfl (by omega)) <| JLM rfl <| Zb <| ⟨_, ?_, (j + 1), rfl, rfl, rfl, rfl, rfl, Sub.nil, ?_, ?_, rfl⟩
  ·omega
  ·omega
  rw [ZW h10n, fstS, if_neg h12] at hinv; exact hinv
 replace h10 := df h10
 have h10n : l.length ≤ j := by omega
 refine Zz _ rfl <| Zc <| Za <| JLA rfl <| Zb <| Zl <| ⟨iv (-1), [], Ret.one rfl (RV.tmp rfl), Sub.nil, ?_⟩
 exact ⟨by rw [← hinv, YL h10n]; rfl, rfl⟩
theorem containsS_ct (l : List ByteArray) (x : ByteArray) (v : Value) (H : Heap) (hl : rdS RS 1 H v l) : CT Tryz.prog 74 ⟨[v, .string x]⟩ [] H (fun v N => v = .bool (l.any (fun y => decide (x = y))) ∧ N = []) := by
 refine Zm Tryz.func74 rfl rfl <| Zc <| Za <| JLA rfl <| Zb <| Zc <| Za <| JLm v <| JLM rfl <| Jc Tryz.call110 rfl (fun hin => idxS_ct _ _ _ _ (RSs.mono (Hle.hu _ _) hl)) rfl ?_
 rintro _ _ ⟨rfl, rfl⟩
 refine JLn (Pu.geq rfl rfl) <| JLA rfl <| Zb <| Zl <| ⟨.bool (decide (0 ≤ fstS x l 0)), [], Ret.one rfl (RV.tmp rfl), Sub.nil, ?_⟩
 exact ⟨by rw [← fstS_mem x l 0], rfl⟩
theorem number_ct (i : Nat) (H : Heap) (hi : i < 26) : CT Tryz.prog 156 ⟨[.string (ltr i)]⟩ [] H (fun v N => v = iv (i : Int) ∧ N = []) := by
 refine Zm Tryz.func156 rfl rfl <| Zc <| Za <| JLA rfl <| Zb <| Zc <| Za <| JLA rfl <| Zb <| Zc <| Zc <| Za <| JLM rfl ?_
 refine JLr (Runs_rangeS Tryz.underlying9 rfl fun r1 => Zb <| Zn <| Yu 2 <| Z0 <| Zc <| Za <| JLr (Runs_nextL (i := 0) rfl rfl hi <| JLn (Pu.extract rfl rfl) <| Zb <| Zc <| Zg (b := true) rfl (fun _ => ?_) (fun h => absurd h (by simp))))
 refine Zj <| Zn <| Zc <| Za <| JLn (Pu.extract rfl rfl) <| JLA rfl <| Zb <| Zc <| Zc <| Za <| JLM rfl <| JLn (Pu.lss rfl rfl) <| JLM rfl ?_
 refine Zv 2 [14, 15] [(15, cond (decide (97 + (i : Int) < 97)) undef (.bool (decide (122 < 97 + (i : Int)))))] ?_ fun f3 => ?_
 ·cases h2 : (decide (97 + (i : Int) < 97)) with
  | false =>
   replace h2 := df h2
   refine JLM rfl <| JLn (Pu.gtr rfl rfl) ?_
   exact Zb ⟨⟨rfl, trivial⟩, rfl⟩
  | true =>
   exact Zy rfl ⟨rfl, trivial⟩
 refine JLn (Pu.pickOr rfl rfl rfl) <| JLM rfl <| Zv 2 [18, 19] [(19, cond ((decide (97 + (i : Int) < 97)) || (decide (122 < 97 + (i : Int)))) undef (.bool false))] ?_ fun f5 => ?_
 ·cases h4 : ((decide (97 + (i : Int) < 97)) || (decide (122 < 97 + (i : Int)))) with
  | false =>
   obtain ⟨h4a, h4b⟩ := orF h4
   replace h4a := df h4a
   replace h4b := df h4b
   refine JLM rfl <| JLq (.bool false) (show Pu _ _ _ (.bool (decide ((1073741824 : Int) < -1))) from Pu.gtr rfl rfl) ?_
   exact Zb ⟨⟨rfl, trivial⟩, rfl⟩
  | true =>
   exact Zy rfl ⟨rfl, trivial⟩
 refine JLn (Pu.pickOr rfl rfl rfl) <| Zb <| Zg rfl (fun h6 => ?_) (fun h6 => ?_)
 ·exfalso; simp at h6; omega
 obtain ⟨h6a, h6b⟩ := orF h6
 obtain ⟨h6aa, h6ab⟩ := orF h6a
 replace h6aa := df h6aa
 replace h6ab := df h6ab
 refine Zj <| Za <| JLM rfl <| JLq (iv 0) (Pu.arith rfl rfl rfl) <| JLq (iv 0) (Pu.arithM rfl rfl rfl) <| JLM rfl <| JLq (.int .i32 ((i : Int))) (Pu.arithS rfl rfl ((w32 (by omega)).trans (by omega))) <| JLq (iv ((i : Int))) (Pu.conv Tryz.runUnderlying21 Tryz.runUnderlying3 rfl (w64 (by omega))) <| JLn (Pu.add64 rfl rfl (by first | omega | (constructor <;> omega))) <| JLA rfl <| Zb <| Z0 <| Zc ?_
 refine Za <| JLr (Runs_nextE (i := 0) rfl rfl (by rw [ltr_size]; decide) <| JLn (Pu.extract rfl rfl) <| Zb <| Zc <| Zg (b := false) rfl (fun h => absurd h (by simp)) (fun _ => Zz _ rfl <| Zc <| Za <| JLM rfl <| JLA rfl <| Zb <| Zl ?_))
 refine ⟨iv (0 + ((i : Int))), [], Ret.one rfl (RV.tmp rfl), Sub.nil, ?_⟩
 exact ⟨congrArg (Value.int .i64) (by omega), rfl⟩
theorem name_ct (i : Nat) (H : Heap) (hi : i < 26) : CT Tryz.prog 133 ⟨[iv ((i : Int))]⟩ [] H (fun v N => v = .string (ltr i) ∧ N = []) := by
 refine Zm Tryz.func133 rfl rfl <| Zc <| Za <| JLA rfl <| Zb <| Zc <| Zc <| Za <| JLM rfl <| JLn (Pu.lss rfl rfl) <| Zb <| Zg rfl (fun h1 => ?_) (fun h1 => ?_)
 ·replace h1 := dt h1
  have h1n : i < 26 := by omega
  refine Zc <| Za <| JLM rfl <| JLn (Pu.add64 rfl rfl (by first | omega | (constructor <;> omega))) <| JLq (.int .i32 (97 + ((i : Int)))) (Pu.conv Tryz.runUnderlying3 Tryz.runUnderlying21 rfl (w32 (by omega))) <| JLq (.string (ltr i)) (Pu.convS Tryz.runUnderlying21 Tryz.runUnderlying9 rfl (ltr_enc' i hi)) <| JLA rfl <| Zb <| Zl <| ⟨.string (ltr i), [], Ret.one rfl (RV.tmp rfl), Sub.nil, ?_⟩
  exact ⟨rfl, rfl⟩
 replace h1 := df h1
 have h1n : 26 ≤ i := by omega
 exfalso; omega
theorem mark_ct (i n : Nat) (l : List Bool) (bF : Nat) (H : Heap) (hi : i < 26) (hl : l.length = n) : CT Tryz.prog 131 ⟨[.slice (some ⟨bF, 0, none⟩) n n, .string (ltr i)]⟩ [(BX bF (bls l) 4)] H (fun v N => v = .tuple ⟨[]⟩ ∧ N = [(BX bF (bls (markL i l)) 4)]) := by
 refine Zm Tryz.func131 rfl rfl <| Zc <| Za <| JLM rfl <| Jc Tryz.call156 rfl (fun hin => number_ct i _ hi) rfl ?_
 rintro _ _ ⟨rfl, rfl⟩
 refine JLA rfl <| Zb <| Zc <| Za <| JLM rfl <| JLn (Pu.geq rfl rfl) <| JLM rfl ?_
 cases h1 : (decide (0 ≤ (i : Int))) with
 | true =>
  replace h1 := dt h1
  refine JLM rfl <| JLM rfl <| JLn (Pu.lenSl Tryz.runUnderlying195 rfl) <| JLn (Pu.lss rfl rfl) <| JLq (.bool (decide ((i : Int) < (n : Int)))) (Pu.pickT rfl rfl) <| Zb <| Zg rfl (fun h2 => ?_) (fun h2 => ?_)
  ·replace h2 := dt h2
   have h2n : i < n := by omega
   refine Za <| JLM rfl <| JLM rfl <| JLq (pp bF (0 + i * 1)) (Pu.idx i Tryz.runUnderlying195 ty4 rfl rfl (by omega) (by omega)) <| JLr (Ze 0 (vs := [.bool true]) (l := bls (l.set i true)) ty4 rfl rfl rfl rfl rfl (Zf rfl Zo) (bls_set1 (by have hbl : List.length l = n := hl; omega)) <| Zb <| ⟨.tuple ⟨[]⟩, [(BX bF (bls (l.set i true)) 4)], Ret.none rfl, (Sk Sub.nil), ?_⟩)
   exact ⟨rfl, by rw [markL, if_pos (by omega)]⟩
  replace h2 := df h2
  have h2n : n ≤ i := by omega
  refine Zj <| ⟨.tuple ⟨[]⟩, [(BX bF (bls l) 4)], Ret.none rfl, (Sk Sub.nil), ?_⟩
  exact ⟨rfl, by rw [markL, if_neg (by omega)] <;> rfl⟩
 | false =>
  replace h1 := df h1
  iterate 4 refine ZD rfl ?_
  refine JLq (.bool false) (Pu.pickF rfl rfl) <| Zb <| Zg (b := false) rfl (fun h => absurd h (by simp)) (fun _ => Zj <| ⟨.tuple ⟨[]⟩, [(BX bF (bls l) 4)], Ret.none rfl, (Sk Sub.nil), ?_⟩)
  exact ⟨rfl, by rw [markL, if_neg (by omega)] <;> rfl⟩
theorem idxB_ct (x : Bool) (l : List Bool) (bF n : Nat) (H : Heap) (hl : l.length = n) (hn : n ≤ 1000000) (hB : H bF = some (.cells ⟨bls l⟩ 4 (0, 0))) : CT Tryz.prog 132 ⟨[.slice (some ⟨bF, 0, none⟩) n n, .bool x]⟩ [] H (fun v N => v = iv (fstB x l 0) ∧ N = []) := by
 refine Zm Tryz.func132 rfl rfl <| Zc <| Za <| JLA rfl <| Zb <| Zc <| Zc <| Za <| JLM rfl <| JLn (Pu.lenSl Tryz.runUnderlying195 rfl) <| JLM rfl <| Zb <| Zn ?_
 refine ZB (fun k ρ M => ∃ (j : Nat), ρ 0 = .slice (some ⟨bF, 0, none⟩) n n ∧ ρ 1 = .bool x ∧ ρ 4 = iv 0 ∧ ρ 7 = iv ((n : Int)) ∧ ρ 8 = iv ((j : Int)) ∧ Sub [] M ∧ j ≤ l.length ∧ fstB x (l.drop j) j = fstB x l 0 ∧ k = l.length - j) _ ⟨0, rfl, rfl, rfl, rfl, rfl, Sub.nil, Nat.zero_le _, rfl, rfl⟩ ?_
 rintro _ ρ1 _ ⟨j, e2, e3, e4, e5, e6, hm7, hj, hinv, rfl⟩
 obtain ⟨ρ8, rfl⟩ := Zr (uc e2 (uc e3 (uc e4 (uc e5 (uc e6 un)))))
 clear e2 e3 e4 e5 e6
 refine ZG hm7 <| Zc <| Za <| JLn (Pu.lss rfl rfl) <| Zb <| Zc <| Zg rfl (fun h9 => ?_) (fun h9 => ?_)
 ·replace h9 := dt h9
  have h9n : j < n := by omega
  refine Zj <| Zc <| Zn <| Zc <| Za <| JLM rfl <| JLA rfl <| Zb <| Zc <| Za <| JLM rfl <| JLM rfl <| JLM rfl ?_
  refine JLq (pp bF (0 + j * 1)) (Pu.idx j Tryz.runUnderlying195 ty4 rfl rfl (by omega) (by omega)) <| JLr (Zd ty4 rfl (At.im hB) (bls_get1 (by omega)) <| JLn (Pu.eqlB Tryz.runUnderlying4 rfl rfl) <| Zb <| Zg rfl (fun h10 => ?_) (fun h10 => ?_))
  ·refine Zc <| Za <| JLM rfl <| JLA rfl <| Zb <| Zl <| ⟨iv ((j : Int)), [], Ret.one rfl (RV.tmp rfl), Sub.nil, ?_⟩
   exact ⟨by rw [← hinv, ZW (by omega : j < l.length), fstB, if_pos (by simpa [(by omega : j < l.length)] using h10)], rfl⟩
  refine Zj <| Za <| JLn (Pu.inc rfl rfl (by omega)) <| JLM rfl <| Zb <| ⟨_, ?_, (j + 1), rfl, rfl, rfl, rfl, rfl, Sub.nil, ?_, ?_, rfl⟩
  ·omega
  ·omega
  rw [ZW (by omega : j < l.length), fstB, if_neg (by simpa [(by omega : j < l.length)] using h10)] at hinv; exact hinv
 replace h9 := df h9
 have h9n : n ≤ j := by omega
 refine Zz _ rfl <| Zc <| Za <| JLA rfl <| Zb <| Zl <| ⟨iv (-1), [], Ret.one rfl (RV.tmp rfl), Sub.nil, ?_⟩
 exact ⟨by rw [← hinv, YL (by omega)]; rfl, rfl⟩
end Go.Proofs.YtkjafeejpmcnkaaGreat.Hs
/-! Walks, printed by a program of this session's own (gen.py). -/
namespace Go.Proofs.YtkjafeejpmcnkaaGreat.Hs
open Go Go.Proofs
set_option maxRecDepth 100000
set_option linter.unusedVariables false
set_option linter.unusedSimpArgs false
attribute [local irreducible] JL J CT wlo DT
theorem backward_ct (v : Value) (H : Heap) (hv : v.oneCell' = true) : CT Tryz.prog 157 ⟨[v]⟩ [] H (fun u N => ∃ b, u = .func (.func 161) ⟨[]⟩ ⟨[pp b 0]⟩ ∧ N = [(BX b [v] 64)]) := by
 refine Zm Tryz.func157 rfl rfl <| Zc <| Za <| JLr (Zq (l := [v]) rfl (ZH hv) fun b1 => JLa .nilFunc <| Zb <| Zc <| Za <| JLq (.func (.func 161) ⟨[]⟩ ⟨[pp b1 0]⟩) (Pu.makeFunc rfl rfl) <| JLA rfl <| Zb <| Zl <| ⟨.func (.func 161) ⟨[]⟩ ⟨[pp b1 0]⟩, [(BX b1 [v] 64)], Ret.one rfl (RV.tmp rfl), (Sk Sub.nil), ?_⟩)
 exact ⟨_, rfl, rfl⟩
theorem backward1_ct (L : List ByteArray) (v : Value) (H : Heap) (bK : Nat) (hl : rdS RS 1 H v L) (hK : H bK = some (.cells ⟨[v]⟩ 64 (0, 0))) (l : Nat) {σ : Type} (yc : σ → Zi) (Inv : Nat → σ → Prop) (s0 : σ) (h0 : Inv L.length s0) (hy : ∀ (i : Nat) (hi : i < L.length) (s : σ) (h : Heap), Inv (i + 1) s → Hle H h → YT Tryz.prog l ⟨[iv (i : Int), .string L[i]]⟩ [yc s] h (fun v N => ∃ s2, v = .bool true ∧ N = [yc s2] ∧ Inv i s2)) : CT Tryz.prog 161 ⟨[.func (.yield l) ⟨[]⟩ ⟨[]⟩, pp bK 0]⟩ [yc s0] H (fun _ N => ∃ s, N = [yc s] ∧ Inv 0 s) := by
 refine Zm Tryz.func161 rfl rfl <| Zc <| Za <| JLr (Zd ty64 rfl (At.im hK) rfl ?_)
 obtain ⟨a1, cap1, hv1⟩ := hl.sl
 have hle1 := hl.le
 refine JLn (Pu.lenSl Tryz.runUnderlying64 hv1) <| JLn (Pu.sub64 rfl rfl (by first | omega | (constructor <;> omega))) <| JLA rfl <| Zb <| Zn <| ZB (fun k ρ M => ∃ (e : Int) (s : σ), ρ 0 = .func (.yield l) ⟨[]⟩ ⟨[]⟩ ∧ ρ 1 = pp bK 0 ∧ ρ 3 = iv e ∧ Sub [yc s] M ∧ (-1 ≤ e ∧ e < (L.length : Int)) ∧ Inv (e + 1).toNat s ∧ k = (e + 1).toNat) _ ⟨((L.length : Int) - 1), s0, rfl, rfl, rfl, (Sk Sub.nil), ⟨by omega, by omega⟩, (by rw [show ((L.length : Int) - 1 + 1).toNat = L.length from by omega]; exact h0), rfl⟩ ?_
 rintro _ ρ2 _ ⟨e, s, e3, e4, e5, hm6, hb, hI, rfl⟩
 obtain ⟨ρ7, rfl⟩ := Zr (uc e3 (uc e4 (uc e5 un)))
 clear e3 e4 e5
 refine ZG hm6 <| Zc <| Zc <| Za <| JLM rfl <| JLn (Pu.geq rfl rfl) <| Zb <| Zg rfl (fun h8 => ?_) (fun h8 => ?_)
 ·replace h8 := dt h8
  obtain ⟨j, rfl⟩ := Int.eq_ofNat_of_zero_le h8
  have hjl : j < L.length := by omega
  refine Zj <| Zc <| Zn <| Zc <| Za <| JLM rfl <| JLM rfl <| JLr (Zd ty64 rfl (At.im hK) rfl <| JLM rfl ?_)
  obtain ⟨b9, o9, cap9, row9, T9, fr9, cs9, hv9, hb9, hs9, hE9⟩ := hl.get j (by first | assumption | omega | decide | simp)
  refine JLq (pp b9 (o9 + j * 1)) (Pu.idx j Tryz.runUnderlying64 ty9 hv9 rfl rfl (by first | assumption | omega | decide | simp)) <| JLr (Zd ty9 rfl (At.im hb9) (YX ((show cs9 = [Value.string (L[j])] from hE9) ▸ hs9)) <| JL_yield1 0 rfl rfl rfl (fun hin => hy j hjl s _ (by simpa using hI) (Hle.hu _ _)) rfl ?_)
  rintro _ _ ⟨s5, rfl, rfl, hI5⟩
  refine JLq (.bool false) (show Pu _ _ _ (.bool (!true)) from Pu.not rfl) <| Zb <| Zg (b := false) rfl (fun h => absurd h (by simp)) (fun _ => Zj <| Za <| JLM rfl <| JLn (Pu.sub64 rfl rfl (by first | omega | (constructor <;> omega))) <| JLA rfl <| Zb <| ⟨_, ?_, ((j : Int) - 1), s5, rfl, rfl, rfl, (Sk Sub.nil), ?_, ?_, rfl⟩)
  ·omega
  ·constructor <;> omega
  rw [show ((j : Int) - 1 + 1).toNat = j from by omega]; exact hI5
 replace h8 := df h8
 refine Zz _ rfl <| ⟨.tuple ⟨[]⟩, [yc s], Ret.none rfl, (Sk Sub.nil), ?_⟩
 exact ⟨s, rfl, by rw [show (e + 1).toNat = 0 from by omega] at hI; exact hI⟩
theorem with_ct (l m : List ByteArray) (v u : Value) (H : Heap) (hl : rdS RS 1 H v l) (hm : rdS RS 1 H u m) (hb : l.length + m.length ≤ 1000000) : CT Tryz.prog 134 ⟨[v, u]⟩ [] H (fun w N => ∃ u k, w = u ∧ N = [k] ∧ Own 9 1 u (YG (m.reverse ++ l)) k) := by
 refine Zm Tryz.func134 rfl rfl <| Zc <| Za <| JLA rfl <| Zb <| Zc <| Za <| JLr (Zp (vs := []) [] Tryz.runUnderlying123 el9 rfl rfl (by intro e he; cases he) rfl (by decide) fun b1 k1 ho1 hk1 => JLr (Zk (l := [nS]) Tryz.zeroValue123 rfl fun b2 => JLr (Ze 0 (vs := [.slice (some ⟨b1, 0, none⟩) 0 0]) (l := [.slice (some ⟨b1, 0, none⟩) 0 0]) ty123 rfl rfl rfl rfl rfl (Zf rfl Zo) rfl <| Zb <| Zc <| Zc ?_)))
 refine Za <| JLm u <| Jc Tryz.call157 rfl (fun hin => backward_ct _ _ hm.one) rfl ?_
 rintro _ _ ⟨bK3, rfl, rfl⟩
 refine Zb <| Zn <| ZG (Sub.cons 1 rfl (Sub.cons 1 rfl (Sk Sub.nil))) <| J_range (L := [(BX bK3 [u] 64)]) (fun s : Value × Zi => [(BX b2 [s.1] 123), s.2]) (fun _ => false) (.slice (some ⟨b1, 0, none⟩) 0 0, k1) (fun s => Own 9 1 s.1 (YG ((m.drop 0).reverse)) s.2) rfl rfl Tryz.call161 (List.Perm.of_eq (by simp)) ?_ ?_ ?_
 ·intro l yc hY hin
  refine CT.mono (backward1_ct m u _ bK3 (RSs.mono (Hle.hu _ _) hm) (hin 0 _ rfl _ _ List.mem_cons_self) l yc (fun i s => Own 9 1 s.1 (YG ((m.drop i).reverse)) s.2) (.slice (some ⟨b1, 0, none⟩) 0 0, k1) (by rw [List.drop_length]; exact ho1) ?_) (fun v N hN => hN)
  intro i hi s h hI hh
  refine YT.mono (hY s [_, _] h (fun s => Own 9 1 s.1 (YG ((m.drop i).reverse)) s.2) rfl rfl (RoundOk.mk ?_)) ?_
  ·show J _ _ _ _ [(BX b2 [s.1] 123), s.2] _
   refine Za <| JLA rfl <| Zb <| Zn <| Za <| JLr (Zd ty123 rfl (At.bx 0 rfl) rfl <| JLM rfl <| JLr (Zp (vs := [.string (m[i])]) [[.string (m[i])]] Tryz.runUnderlying123 el9 rfl rfl (by intro e he; simp only [List.mem_cons, List.not_mem_nil, or_false] at he; subst he; exact rfl) rfl (by decide) fun b4 k4 ho4 hk4 => ?_))
   have hlens5 : ∀ e ∈ ([[.string (m[i])]] : List (List Value)), List.length e = 1 := by
    intro e he; simp only [List.mem_cons, List.not_mem_nil, or_false] at he
    rcases he with rfl
    ·exact rfl
   have hoks5 : ∀ e ∈ ([[.string (m[i])]] : List (List Value)), okc e := by
    intro e he; simp only [List.mem_cons, List.not_mem_nil, or_false] at he
    rcases he with rfl
    ·exact (Zf rfl Zo)
   refine JLr (Zx (i := 2) (n := 1) (es' := [[.string (m[i])]]) Tryz.runUnderlying123 Tryz.runUnderlying123 (Or.inl rfl) el9 rfl rfl rfl hI (fun F w m => Src.row (((At.k 0 rfl (by rw [hk4]; exact List.mem_cons_self))).heap m) (Zs (Zw hlens5))) rfl hlens5 hoks5 (by decide) (by simp only [Y3, List.length_reverse, List.length_drop, List.length_append]; omega) fun v5 k5 ho5 => JLr (Ze 1 (vs := [v5]) (l := [v5]) ty123 rfl rfl rfl (ZH ho5.one) rfl (Zf ho5.one Zo) rfl <| Zb ?_))
   exact ⟨(v5, k5), rfl, (Sd (Sk (Sk Sub.nil))), (by rw [List.drop_eq_getElem_cons hi, List.reverse_cons, strs_snoc]; exact ho5)⟩
  rintro v N ⟨s2, rfl, rfl, h2⟩; exact ⟨s2, rfl, rfl, h2⟩
 ·rintro s hI hp
  have hIF := hI
  rw [List.drop_zero] at hIF
  refine Zc <| Za <| JLr (Zd ty123 rfl (At.bx 0 rfl) rfl <| JLm v <| JLr (Zx (i := 1) (n := l.length) (es' := YG l) Tryz.runUnderlying123 Tryz.runUnderlying123 (Or.inl rfl) el9 rfl rfl rfl hIF (fun F w m => strs_src hl w _ m) (Y3 _) (strs_len1 _) (strs_ok _) (by decide) (by simp only [Y3, List.length_reverse, List.length_drop, List.length_append]; omega) fun v6 k6 ho6 => ?_))
  rw [← strs_app] at ho6
  refine JLa v6 <| Zb <| Zl <| ⟨v6, [k6], Ret.one rfl (RV.tmp rfl), (Sd (Sk Sub.nil)), ?_⟩
  exact ⟨_, _, rfl, rfl, ho6⟩
 intro s _ hp; cases hp
end Go.Proofs.YtkjafeejpmcnkaaGreat.Hs
/-! Walks, printed by a program of this session's own (gen.py). -/
namespace Go.Proofs.YtkjafeejpmcnkaaGreat.Hs
open Go Go.Proofs
set_option maxRecDepth 100000
set_option linter.unusedVariables false
set_option linter.unusedSimpArgs false
attribute [local irreducible] JL J CT wlo DT
theorem chosen1_ct (v : Value) (H : Heap) (hl : rdS RS 1 H v [ltr 0]) : CT Tryz.prog 111 ⟨[v, iv 1]⟩ [] H (fun v N => ∃ u1 u2 k1 k2, v = .tuple ⟨[u1, u2]⟩ ∧ N = [k1, k2] ∧ Own 9 1 u1 (YG [ltr 1, ltr 0]) k1 ∧ Own 9 1 u2 (YG [ltr 1]) k2) := by
 refine Zm Tryz.func111 rfl rfl <| Zc <| Za <| JLA rfl <| JLA rfl <| Zb <| Zc <| Za <| JLm v ?_
 obtain ⟨a1, cap1, hv1⟩ := hl.sl
 have hle1 := hl.le
 refine JLn (Pu.lenSl Tryz.runUnderlying123 hv1) <| JLM rfl <| JLq (iv 2) (Pu.arith rfl rfl rfl) <| JLr (Runs_make 2 Tryz.runUnderlying195 el4 rfl rfl rfl rfl (by decide) (by decide) fun b2 k2 _ hk2 => ?_)
 obtain rfl : k2 = (BX b2 (bls (List.replicate 2 false)) 4) := hk2
 refine JLA rfl <| Zb <| Zc <| Za <| JLM rfl <| JLq (.func (.func 131) ⟨[.slice (some ⟨b2, 0, none⟩) 2 2]⟩ ⟨[]⟩) (Pu.makeFunc rfl rfl) <| JLA rfl <| Zb <| Zc <| Zc <| Za <| JLm v ?_
 obtain ⟨a3, cap3, hv3⟩ := hl.sl
 have hle3 := hl.le
 refine JLn (Pu.lenSl Tryz.runUnderlying123 hv3) <| JLM rfl <| Zb <| Zn <| Yu 2 <| Z0 <| Zc <| Za <| JLq (.bool true) (show Pu _ _ _ (.bool (decide ((0 : Int) < 1))) from Pu.lss rfl rfl) <| Zb <| Zc <| Zg (b := true) rfl (fun _ => ?_) (fun h => absurd h (by simp))
 refine Zj <| Zc <| Zn <| Zc <| Za ?_
 obtain ⟨b4, o4, cap4, row4, T4, fr4, cs4, hv4, hb4, hs4, hE4⟩ := hl.get 0 (by first | assumption | omega | decide | simp)
 refine JLq (pp b4 (o4 + 0 * 1)) (Pu.idx 0 Tryz.runUnderlying123 ty9 hv4 rfl rfl (by first | assumption | omega | decide | simp)) <| JLr (Zd ty9 rfl (At.im hb4) (YX ((show cs4 = [Value.string (ltr 0)] from hE4) ▸ hs4)) <| JLA rfl <| Zb <| Za <| JLM rfl <| JLM rfl <| ZA 0 rfl Tryz.call131 rfl rfl (fun hin => mark_ct 0 2 _ _ _ (by decide) (List.length_replicate ..)) rfl ?_)
 rintro _ _ ⟨rfl, rfl⟩
 refine Zb <| Za <| JLq (iv 1) (Pu.arith rfl rfl rfl) <| JLM rfl <| Zb <| Z0 <| Zc <| Za <| JLq (.bool false) (show Pu _ _ _ (.bool (decide ((1 : Int) < 1))) from Pu.lss rfl rfl) <| Zb <| Zc <| Zg (b := false) rfl (fun h => absurd h (by simp)) (fun _ => Zz _ rfl ?_)
 refine Zc <| Za <| JLA rfl <| Zb <| Zc <| Zc <| Za <| JLM rfl <| JLM rfl <| Zb <| Zn <| Yu 2 <| Z0 ?_
 refine Zc <| Za <| JLq (.bool true) (show Pu _ _ _ (.bool (decide ((0 : Int) < 1))) from Pu.lss rfl rfl) <| Zb <| Zc <| Zg (b := true) rfl (fun _ => ?_) (fun h => absurd h (by simp))
 refine Zj <| Zc <| Zn <| Zc <| Za <| JLM rfl <| Jc Tryz.call132 rfl (fun hin => int_r (r := 1) (idxB_ct false _ _ _ _ ((markL_len ..).trans (List.length_replicate ..)) (by decide) (hin 0 _ rfl _ _ List.mem_cons_self)) (by decide)) rfl ?_
 rintro _ _ ⟨rfl, rfl⟩
 refine JLA rfl <| Zb <| Zc <| Za <| JLM rfl <| JLM rfl <| Jc Tryz.call133 rfl (fun hin => name_ct 1 _ (by decide)) rfl ?_
 rintro _ _ ⟨rfl, rfl⟩
 refine JLr (Zp (vs := [.string (ltr 1)]) [[.string (ltr 1)]] Tryz.runUnderlying64 el9 rfl rfl (by intro e he; simp only [List.mem_cons, List.not_mem_nil, or_false] at he; subst he; exact rfl) rfl (by decide) fun b5 k5 ho5 hk5 => JL_sub (M' := [[], k5, (BX b2 (bls (markL 0 (List.replicate 2 false))) 4)]) (Sub.emp Sub.refl) ?_)
 have hlens6 : ∀ e ∈ ([[.string (ltr 1)]] : List (List Value)), List.length e = 1 := by
  intro e he; simp only [List.mem_cons, List.not_mem_nil, or_false] at he
  rcases he with rfl
  ·exact rfl
 have hoks6 : ∀ e ∈ ([[.string (ltr 1)]] : List (List Value)), okc e := by
  intro e he; simp only [List.mem_cons, List.not_mem_nil, or_false] at he
  rcases he with rfl
  ·exact (Zf rfl Zo)
 refine JLr (Zx (i := 0) (n := 1) (es' := [[.string (ltr 1)]]) Tryz.runUnderlying64 Tryz.runUnderlying64 (Or.inl rfl) el9 rfl rfl rfl (show Own _ _ _ (YG []) _ from Own.nil) (fun F w m => Src.row (((At.k 1 rfl (by rw [hk5]; exact List.mem_cons_self))).heap m) (Zs (Zw hlens6))) rfl hlens6 hoks6 (by decide) (by simp [YG]) fun v6 k6 ho6 => ?_)
 rw [← strs_snoc] at ho6
 refine JLa v6 <| Zb <| Za <| JLM rfl <| JLM rfl <| JLq (pp b2 (0 + 1 * 1)) (Pu.idx 1 Tryz.runUnderlying195 ty4 rfl rfl (by omega) (by omega)) <| JLr (Ze 2 (vs := [.bool true]) (l := bls ((markL 0 (List.replicate 2 false)).set 1 true)) ty4 rfl rfl rfl rfl rfl (Zf rfl Zo) (bls_set1 (by have hbl : List.length (markL 0 (List.replicate 2 false)) = 2 := ((markL_len ..).trans (List.length_replicate ..)); omega)) <| Zb <| Za <| JLq (iv 1) (Pu.arith rfl rfl rfl) <| JLM rfl <| Zb <| Z0 ?_)
 refine Zc <| Za <| JLq (.bool false) (show Pu _ _ _ (.bool (decide ((1 : Int) < 1))) from Pu.lss rfl rfl) <| Zb <| Zc <| Zg (b := false) rfl (fun h => absurd h (by simp)) (fun _ => Zz _ rfl <| Zc <| Za <| JLm v <| JLm v6 <| Jc Tryz.call134 rfl (fun hin => with_ct _ _ _ _ _ (RSs.mono (Hle.hu _ _) hl) (Xz ho6 (by simp) (hin 0 _ rfl)) (by simp)) rfl ?_)
 rintro u7 _ ⟨_, k7, hu7, rfl, ho7⟩; subst hu7
 refine JLm v6 <| JLa u7 <| JLa v6 <| Zb <| Zl <| ⟨.tuple ⟨[u7, v6]⟩, [k7, k6], Ret.two rfl (RV.tmp rfl) (RV.tmp rfl), (Sk (Sk Sub.nil)), ?_⟩
 exact ⟨_, _, _, _, rfl, rfl, ho7, ho6⟩
theorem chosen2_ct (v : Value) (H : Heap) (hl : rdS RS 1 H v [ltr 1, ltr 0]) : CT Tryz.prog 111 ⟨[v, iv 1]⟩ [] H (fun v N => ∃ u1 u2 k1 k2, v = .tuple ⟨[u1, u2]⟩ ∧ N = [k1, k2] ∧ Own 9 1 u1 (YG [ltr 2, ltr 1, ltr 0]) k1 ∧ Own 9 1 u2 (YG [ltr 2]) k2) := by
 refine Zm Tryz.func111 rfl rfl <| Zc <| Za <| JLA rfl <| JLA rfl <| Zb <| Zc <| Za <| JLm v ?_
 obtain ⟨a1, cap1, hv1⟩ := hl.sl
 have hle1 := hl.le
 refine JLn (Pu.lenSl Tryz.runUnderlying123 hv1) <| JLM rfl <| JLq (iv 3) (Pu.arith rfl rfl rfl) <| JLr (Runs_make 3 Tryz.runUnderlying195 el4 rfl rfl rfl rfl (by decide) (by decide) fun b2 k2 _ hk2 => ?_)
 obtain rfl : k2 = (BX b2 (bls (List.replicate 3 false)) 4) := hk2
 refine JLA rfl <| Zb <| Zc <| Za <| JLM rfl <| JLq (.func (.func 131) ⟨[.slice (some ⟨b2, 0, none⟩) 3 3]⟩ ⟨[]⟩) (Pu.makeFunc rfl rfl) <| JLA rfl <| Zb <| Zc <| Zc <| Za <| JLm v ?_
 obtain ⟨a3, cap3, hv3⟩ := hl.sl
 have hle3 := hl.le
 refine JLn (Pu.lenSl Tryz.runUnderlying123 hv3) <| JLM rfl <| Zb <| Zn <| Yu 3 <| Z0 <| Zc <| Za <| JLq (.bool true) (show Pu _ _ _ (.bool (decide ((0 : Int) < 2))) from Pu.lss rfl rfl) <| Zb <| Zc <| Zg (b := true) rfl (fun _ => ?_) (fun h => absurd h (by simp))
 refine Zj <| Zc <| Zn <| Zc <| Za ?_
 obtain ⟨b4, o4, cap4, row4, T4, fr4, cs4, hv4, hb4, hs4, hE4⟩ := hl.get 0 (by first | assumption | omega | decide | simp)
 refine JLq (pp b4 (o4 + 0 * 1)) (Pu.idx 0 Tryz.runUnderlying123 ty9 hv4 rfl rfl (by first | assumption | omega | decide | simp)) <| JLr (Zd ty9 rfl (At.im hb4) (YX ((show cs4 = [Value.string (ltr 1)] from hE4) ▸ hs4)) <| JLA rfl <| Zb <| Za <| JLM rfl <| JLM rfl <| ZA 0 rfl Tryz.call131 rfl rfl (fun hin => mark_ct 1 3 _ _ _ (by decide) (List.length_replicate ..)) rfl ?_)
 rintro _ _ ⟨rfl, rfl⟩
 refine Zb <| Za <| JLq (iv 1) (Pu.arith rfl rfl rfl) <| JLM rfl <| Zb <| Z0 <| Zc <| Za <| JLq (.bool true) (show Pu _ _ _ (.bool (decide ((1 : Int) < 2))) from Pu.lss rfl rfl) <| Zb <| Zc <| Zg (b := true) rfl (fun _ => ?_) (fun h => absurd h (by simp))
 refine Zj <| Zc <| Zn <| Zc <| Za ?_
 obtain ⟨b5, o5, cap5, row5, T5, fr5, cs5, hv5, hb5, hs5, hE5⟩ := hl.get 1 (by first | assumption | omega | decide | simp)
 refine JLq (pp b5 (o5 + 1 * 1)) (Pu.idx 1 Tryz.runUnderlying123 ty9 hv5 rfl rfl (by first | assumption | omega | decide | simp)) <| JLr (Zd ty9 rfl (At.im hb5) (YX ((show cs5 = [Value.string (ltr 0)] from hE5) ▸ hs5)) <| JLA rfl <| Zb <| Za <| JLM rfl <| JLM rfl <| ZA 0 rfl Tryz.call131 rfl rfl (fun hin => mark_ct 0 3 _ _ _ (by decide) ((markL_len ..).trans (List.length_replicate ..))) rfl ?_)
 rintro _ _ ⟨rfl, rfl⟩
 refine Zb <| Za <| JLq (iv 2) (Pu.arith rfl rfl rfl) <| JLM rfl <| Zb <| Z0 <| Zc <| Za <| JLq (.bool false) (show Pu _ _ _ (.bool (decide ((2 : Int) < 2))) from Pu.lss rfl rfl) <| Zb <| Zc <| Zg (b := false) rfl (fun h => absurd h (by simp)) (fun _ => Zz _ rfl ?_)
 refine Zc <| Za <| JLA rfl <| Zb <| Zc <| Zc <| Za <| JLM rfl <| JLM rfl <| Zb <| Zn <| Yu 2 <| Z0 ?_
 refine Zc <| Za <| JLq (.bool true) (show Pu _ _ _ (.bool (decide ((0 : Int) < 1))) from Pu.lss rfl rfl) <| Zb <| Zc <| Zg (b := true) rfl (fun _ => ?_) (fun h => absurd h (by simp))
 refine Zj <| Zc <| Zn <| Zc <| Za <| JLM rfl <| Jc Tryz.call132 rfl (fun hin => int_r (r := 2) (idxB_ct false _ _ _ _ ((markL_len ..).trans ((markL_len ..).trans (List.length_replicate ..))) (by decide) (hin 0 _ rfl _ _ List.mem_cons_self)) (by decide)) rfl ?_
 rintro _ _ ⟨rfl, rfl⟩
 refine JLA rfl <| Zb <| Zc <| Za <| JLM rfl <| JLM rfl <| Jc Tryz.call133 rfl (fun hin => name_ct 2 _ (by decide)) rfl ?_
 rintro _ _ ⟨rfl, rfl⟩
 refine JLr (Zp (vs := [.string (ltr 2)]) [[.string (ltr 2)]] Tryz.runUnderlying64 el9 rfl rfl (by intro e he; simp only [List.mem_cons, List.not_mem_nil, or_false] at he; subst he; exact rfl) rfl (by decide) fun b6 k6 ho6 hk6 => JL_sub (M' := [[], k6, (BX b2 (bls (markL 0 (markL 1 (List.replicate 3 false)))) 4)]) (Sub.emp Sub.refl) ?_)
 have hlens7 : ∀ e ∈ ([[.string (ltr 2)]] : List (List Value)), List.length e = 1 := by
  intro e he; simp only [List.mem_cons, List.not_mem_nil, or_false] at he
  rcases he with rfl
  ·exact rfl
 have hoks7 : ∀ e ∈ ([[.string (ltr 2)]] : List (List Value)), okc e := by
  intro e he; simp only [List.mem_cons, List.not_mem_nil, or_false] at he
  rcases he with rfl
  ·exact (Zf rfl Zo)
 refine JLr (Zx (i := 0) (n := 1) (es' := [[.string (ltr 2)]]) Tryz.runUnderlying64 Tryz.runUnderlying64 (Or.inl rfl) el9 rfl rfl rfl (show Own _ _ _ (YG []) _ from Own.nil) (fun F w m => Src.row (((At.k 1 rfl (by rw [hk6]; exact List.mem_cons_self))).heap m) (Zs (Zw hlens7))) rfl hlens7 hoks7 (by decide) (by simp [YG]) fun v7 k7 ho7 => ?_)
 rw [← strs_snoc] at ho7
 refine JLa v7 <| Zb <| Za <| JLM rfl <| JLM rfl <| JLq (pp b2 (0 + 2 * 1)) (Pu.idx 2 Tryz.runUnderlying195 ty4 rfl rfl (by omega) (by omega)) <| JLr (Ze 2 (vs := [.bool true]) (l := bls ((markL 0 (markL 1 (List.replicate 3 false))).set 2 true)) ty4 rfl rfl rfl rfl rfl (Zf rfl Zo) (bls_set1 (by have hbl : List.length (markL 0 (markL 1 (List.replicate 3 false))) = 3 := ((markL_len ..).trans ((markL_len ..).trans (List.length_replicate ..))); omega)) <| Zb <| Za <| JLq (iv 1) (Pu.arith rfl rfl rfl) <| JLM rfl <| Zb <| Z0 ?_)
 refine Zc <| Za <| JLq (.bool false) (show Pu _ _ _ (.bool (decide ((1 : Int) < 1))) from Pu.lss rfl rfl) <| Zb <| Zc <| Zg (b := false) rfl (fun h => absurd h (by simp)) (fun _ => Zz _ rfl <| Zc <| Za <| JLm v <| JLm v7 <| Jc Tryz.call134 rfl (fun hin => with_ct _ _ _ _ _ (RSs.mono (Hle.hu _ _) hl) (Xz ho7 (by simp) (hin 0 _ rfl)) (by simp)) rfl ?_)
 rintro u8 _ ⟨_, k8, hu8, rfl, ho8⟩; subst hu8
 refine JLm v7 <| JLa u8 <| JLa v7 <| Zb <| Zl <| ⟨.tuple ⟨[u8, v7]⟩, [k8, k7], Ret.two rfl (RV.tmp rfl) (RV.tmp rfl), (Sk (Sk Sub.nil)), ?_⟩
 exact ⟨_, _, _, _, rfl, rfl, ho8, ho7⟩
end Go.Proofs.YtkjafeejpmcnkaaGreat.Hs
/-! Walks, printed by a program of this session's own (gen.py). -/
namespace Go.Proofs.YtkjafeejpmcnkaaGreat.Hs
open Go Go.Proofs
set_option maxRecDepth 100000
set_option linter.unusedVariables false
set_option linter.unusedSimpArgs false
attribute [local irreducible] JL J CT wlo DT
set_option maxHeartbeats 1000000 in
theorem named_va : ∀ (cs : List Value) (v : Value) (H : Heap), RT H cs (Tm.mk 1 1 zS [] []) → rdS RS 1 H v [ltr 2, ltr 1, ltr 0] → CT Tryz.prog 76 ⟨[.agg ⟨cs⟩, v]⟩ [] H (fun v N => ∃ cs k, v = .agg ⟨cs⟩ ∧ N = [k] ∧ NC [] cs k) := by
 intro cs v H ht hl
 obtain ⟨ks, cv, rfl, _, _, hks, hcv⟩ := RT_mk.1 ht
 refine Zm Tryz.func76 rfl rfl <| Zc <| Za <| JLr (Zq (l := pkT 1 1 zS ks cv) rfl rfl fun b1 => JLr (Zk (l := (pkT 0 0 zS nS nS) ++ ([nS] : List Value)) Tryz.zeroValue68 rfl fun b2 => Zb <| Zc <| Za <| JLq (pp b1 0) (ZI rfl rfl) <| JLr (Zd ty3 rfl (At.bx 1 rfl) (ZZ ..) <| JLq (pp b1 1) (Z9 rfl rfl) <| JLr (Zd ty3 rfl (At.bx 1 rfl) (Yt ..) <| JLq (pp b1 2) (fa30_2 rfl rfl) ?_))))
 refine JLr (Zh YM rfl (At.bx 1 rfl) (pkT_2 ..) <| JLq (.agg ⟨(pkT 1 1 zS nS nS) ++ ([nS] : List Value)⟩) (Pu.build (pv := [(0, iv 1), (1, iv 1), (2, .agg ⟨sC zS⟩)]) (l := (pkT 1 1 zS nS nS) ++ ([nS] : List Value)) rfl (bld68_0_1_2 _ _ _)) <| JLr (Zk (l := (pkT 0 0 zS nS nS) ++ ([nS] : List Value)) Tryz.zeroValue68 rfl fun b3 => JLr (Ze 0 (vs := (pkT 1 1 zS nS nS) ++ ([nS] : List Value)) (l := (pkT 1 1 zS nS nS) ++ ([nS] : List Value)) ty68 rfl rfl rfl rfl rfl (Yg (ZS rfl rfl) (Zf rfl Zo)) (ZK (n := 37) rfl rfl) <| Zb <| Zc <| Zc <| Za <| JLq (pp b1 0) (ZI rfl rfl) <| JLr (Zd ty3 rfl (At.bx 2 rfl) (ZZ ..) <| JLq (.bool true) (show Pu _ _ _ (.bool (decide ((1 : Int) = 1))) from Pu.eql rfl rfl) <| Zb <| Zg (b := true) rfl (fun _ => ?_) (fun h => absurd h (by simp))))))
 refine ZJ mixed #[0, 0, 2, 7, 15, 31, 0, 64, 255, 511] 8 [some 24, some 25, some 26, some 27, some 28, some 29, some 30, none] [(7, 8)] [(5, fun _ _ vw qw => ∃ b k, vw = .slice (some ⟨b, 0, none⟩) 1 1 ∧ qw = [k] ∧ Own 9 1 (.slice (some ⟨b, 0, none⟩) 1 1) [[.string (ltr 1)]] k ∧ k = (BX b (List.flatten [[.string (ltr 1)]]) 9)), (7, fun _ _ vw qw => vw = undef ∧ qw = [(BX b3 ((pkT 1 0 zS nS nS) ++ ([nS] : List Value)) 68)])] rfl (by kernel_rfl) rfl (by kernel_rfl) <| Dm v <| Dq (pp b1 1) (fun _ => Z9 rfl rfl) <| Dl1 ty3 (At.bx 1 rfl) (Yt ..) ?_
 obtain ⟨b6, o6, cap6, row6, T6, fr6, cs6, hv6, hb6, hs6, hE6⟩ := hl.get 1 (by first | assumption | omega | decide | simp)
 refine Dq (pp b6 (o6 + 1 * 1)) (fun _ => Pu.idx 1 Tryz.runUnderlying123 ty9 hv6 rfl rfl (by first | assumption | omega | decide | simp)) <| Dl1 ty9 (At.im hb6) (YX ((show cs6 = [Value.string (ltr 1)] from hE6) ▸ hs6)) <| Dr rfl (fun _ => Zp (vs := [.string (ltr 1)]) [[.string (ltr 1)]] Tryz.runUnderlying64 el9 rfl rfl (by intro e he; simp only [List.mem_cons, List.not_mem_nil, or_false] at he; subst he; exact rfl) rfl (by decide) fun b k h1 h2 => ⟨[k], by rw [ZN rfl]; exact Sub.refl, b, k, rfl, rfl, h1, h2⟩) (fun _ _ ⟨b7, k7, e1, e2, ho7, hk7⟩ => ?_); subst e1 e2
 refine Dq (pp b3 1) (fun _ => fa68_1 rfl rfl) <| Dr rfl (fun _ => Ze 0 (vs := [iv 0]) (l := (pkT 1 0 zS nS nS) ++ ([nS] : List Value)) ty3 rfl rfl rfl rfl rfl (Zf rfl Zo) (spl_l (pkT_s1 ..)) ⟨[_], keptE (i := 0) rfl rfl, rfl, rfl⟩) ?_; rintro _ _ ⟨rfl, rfl⟩
 refine ZV (M' := [(BX b3 ((pkT 1 0 zS nS nS) ++ ([nS] : List Value)) 68), k7, (BX b2 ((pkT 0 0 zS nS nS) ++ ([nS] : List Value)) 68), (BX b1 (pkT 1 1 zS ks cv) 30)]) rfl ?_
 show JL _ _ _ [_, _] _ _ _
 refine JLq (pp b3 34) (fa68_3 rfl rfl) <| JLr (Ze 0 (vs := [.slice (some ⟨b7, 0, none⟩) 1 1]) (l := (pkT 1 0 zS (.slice (some ⟨b7, 0, none⟩) 1 1) nS) ++ ([nS] : List Value)) ty64 rfl rfl rfl rfl rfl (Zf rfl Zo) (spl_l (pkT_s34 ..)) <| Zb <| Zc <| Zc <| Za <| JLq (pp b1 34) (Z3 rfl rfl) <| JLr (Zd Y0 rfl (At.bx 3 rfl) (Z4 ..) ?_))
 obtain ⟨a8, cap8, hv8⟩ := hks.sl
 have hle8 := hks.le
 refine JLn (Pu.lenSl Tryz.runUnderlying27 hv8) <| JLM rfl <| Zb <| Zn <| Yu 1 <| Z0 <| Zc <| Za <| JLq (.bool false) (show Pu _ _ _ (.bool (decide ((0 : Int) < 0))) from Pu.lss rfl rfl) <| Zb <| Zc <| Zg (b := false) rfl (fun h => absurd h (by simp)) (fun _ => Zz _ rfl ?_)
 refine Zc <| Zc <| Za <| JLq (pp b1 35) (ZR rfl rfl) <| JLr (Zd YA rfl (At.bx 3 rfl) (ZT ..) ?_)
 obtain ⟨a9, cap9, hv9⟩ := hcv.sl
 have hle9 := hcv.le
 refine JLn (Pu.lenSl Tryz.runUnderlying28 hv9) <| JLM rfl <| Zb <| Zn <| Yu 1 <| Z0 <| Zc <| Za <| JLq (.bool false) (show Pu _ _ _ (.bool (decide ((0 : Int) < 0))) from Pu.lss rfl rfl) <| Zb <| Zc <| Zg (b := false) rfl (fun h => absurd h (by simp)) (fun _ => Zz _ rfl ?_)
 refine Zc <| Za <| JLr (Zh ty68 rfl (At.bx 0 rfl) (Zs rfl) <| JLr (Ze 2 (vs := (pkT 1 0 zS (.slice (some ⟨b7, 0, none⟩) 1 1) nS) ++ ([nS] : List Value)) (l := (pkT 1 0 zS (.slice (some ⟨b7, 0, none⟩) 1 1) nS) ++ ([nS] : List Value)) ty68 rfl rfl rfl rfl rfl (Yg (ZS rfl rfl) (Zf rfl Zo)) (ZK (n := 37) rfl rfl) <| Zb <| Zl <| ⟨.agg ⟨(pkT 1 0 zS (.slice (some ⟨b7, 0, none⟩) 1 1) nS) ++ ([nS] : List Value)⟩, [[]], Ret.one rfl (RV.cell ty68 rfl (At.bx 2 rfl) (Zs rfl)), (Sub.emp Sub.nil), ?_⟩))
 exact ⟨_, _, rfl, rfl, rfl, (Yg (ZS rfl rfl) (Zf rfl Zo))⟩
set_option maxHeartbeats 1000000 in
theorem named1_ct : ∀ (cs : List Value) (v : Value) (H : Heap), RT H cs (Tm.mk 3 0 zS [Tm.mk 1 1 zS [] []] []) → rdS RS 1 H v [ltr 1, ltr 0] → CT Tryz.prog 76 ⟨[.agg ⟨cs⟩, v]⟩ [] H (fun v N => ∃ cs k, v = .agg ⟨cs⟩ ∧ N = [k] ∧ NC [[ltr 2]] cs k) := by
 intro cs v H ht hl
 obtain ⟨ks, cv, rfl, _, _, hks, hcv⟩ := RT_mk.1 ht
 refine Zm Tryz.func76 rfl rfl <| Zc <| Za <| JLr (Zq (l := pkT 3 0 zS ks cv) rfl rfl fun b1 => JLr (Zk (l := (pkT 0 0 zS nS nS) ++ ([nS] : List Value)) Tryz.zeroValue68 rfl fun b2 => Zb <| Zc <| Za <| JLq (pp b1 0) (ZI rfl rfl) <| JLr (Zd ty3 rfl (At.bx 1 rfl) (ZZ ..) <| JLq (pp b1 1) (Z9 rfl rfl) <| JLr (Zd ty3 rfl (At.bx 1 rfl) (Yt ..) <| JLq (pp b1 2) (fa30_2 rfl rfl) ?_))))
 refine JLr (Zh YM rfl (At.bx 1 rfl) (pkT_2 ..) <| JLq (.agg ⟨(pkT 3 0 zS nS nS) ++ ([nS] : List Value)⟩) (Pu.build (pv := [(0, iv 3), (1, iv 0), (2, .agg ⟨sC zS⟩)]) (l := (pkT 3 0 zS nS nS) ++ ([nS] : List Value)) rfl (bld68_0_1_2 _ _ _)) <| JLr (Zk (l := (pkT 0 0 zS nS nS) ++ ([nS] : List Value)) Tryz.zeroValue68 rfl fun b3 => JLr (Ze 0 (vs := (pkT 3 0 zS nS nS) ++ ([nS] : List Value)) (l := (pkT 3 0 zS nS nS) ++ ([nS] : List Value)) ty68 rfl rfl rfl rfl rfl (Yg (ZS rfl rfl) (Zf rfl Zo)) (ZK (n := 37) rfl rfl) <| Zb <| Zc <| Zc <| Za <| JLq (pp b1 0) (ZI rfl rfl) <| JLr (Zd ty3 rfl (At.bx 2 rfl) (ZZ ..) <| JLq (.bool false) (show Pu _ _ _ (.bool (decide ((3 : Int) = 1))) from Pu.eql rfl rfl) <| Zb <| Zg (b := false) rfl (fun h => absurd h (by simp)) (fun _ => ?_)))))
 refine Zj <| Zc <| Zc <| Za <| JLq (pp b1 34) (Z3 rfl rfl) <| JLr (Zd Y0 rfl (At.bx 2 rfl) (Z4 ..) ?_)
 obtain ⟨a4, cap4, hv4⟩ := hks.sl
 have hle4 := hks.le
 refine JLn (Pu.lenSl Tryz.runUnderlying27 hv4) <| JLM rfl <| Zb <| Zn <| Yu 2 <| Z0 <| Zc <| Za <| JLq (.bool true) (show Pu _ _ _ (.bool (decide ((0 : Int) < 1))) from Pu.lss rfl rfl) <| Zb <| Zc <| Zg (b := true) rfl (fun _ => ?_) (fun h => absurd h (by simp))
 refine Zj <| Zc <| Zn <| Zc <| Za <| JLM rfl ?_
 obtain ⟨b5, o5, cap5, row5, T5, fr5, cs5, hv5, hb5, hs5, hE5⟩ := hks.get 0 (by first | assumption | omega | decide | simp)
 refine JLq (pp b5 (o5 + 0 * 36)) (Pu.idx 0 Tryz.runUnderlying27 Zt hv5 rfl rfl (by first | assumption | omega | decide | simp)) <| JLr (Zh Zt rfl (At.im hb5) hs5 <| JLr (Zk (l := pkT 0 0 zS nS nS) Tryz.zeroValue30 rfl fun b6 => JLA rfl <| JLr (Ze 0 (vs := cs5) (l := cs5) Zt rfl rfl rfl rfl (Zu hE5) (XG hE5) (ZK (n := 36) rfl (Zu hE5)) <| Zb <| Zc <| Za <| JLm v <| JLq (pp b1 0) (ZI rfl rfl) <| JLr (Zd ty3 rfl (At.bx 3 rfl) (ZZ ..) <| JLM rfl <| Jc Tryz.call105 rfl (fun hin => int_r (r := 1) (more_ct _ _ _) (by decide)) rfl ?_))))
 rintro _ _ ⟨rfl, rfl⟩
 refine Jc Tryz.call111 rfl (fun hin => chosen2_ct _ _ (RSs.mono (Hle.hu _ _) hl)) rfl ?_
 rintro _ _ ⟨ua7, ub7, ka7, kb7, rfl, rfl, hoa7, hob7⟩
 refine JLM rfl <| JLn (Pu.extract rfl rfl) <| JLn (Pu.extract rfl rfl) <| JLa ua7 <| JLa ub7 <| Zb <| Zc <| Za <| JLq (pp b3 34) (fa68_3 rfl rfl) <| JLr (Zd ty64 rfl (At.bx 3 rfl) (get_l (Z4 ..)) <| JLm ub7 <| JL_sub (M' := [[], ka7, kb7, (BX b6 cs5 30), (BX b3 ((pkT 3 0 zS nS nS) ++ ([nS] : List Value)) 68), (BX b2 ((pkT 0 0 zS nS nS) ++ ([nS] : List Value)) 68), (BX b1 (pkT 3 0 zS ks cv) 30)]) (Sub.emp Sub.refl) <| JLr (Zx (i := 0) (n := ([ltr 2]).length) (es' := YG ([ltr 2])) Tryz.runUnderlying64 Tryz.runUnderlying64 (Or.inl rfl) el9 rfl rfl rfl (show Own _ _ _ (YG []) _ from Own.nil) (own_src (i := 2) hob7 rfl) (Y3 _) (strs_len1 _) (strs_ok _) (by decide) (by simp [YG]) fun v8 k8 ho8 => ?_))
 rw [← strs_app] at ho8
 refine JLq (pp b3 34) (fa68_3 rfl rfl) <| JLr (Ze 4 (vs := [v8]) (l := (pkT 3 0 zS v8 nS) ++ ([nS] : List Value)) ty64 rfl rfl rfl (ZH ho8.one) rfl (Zf ho8.one Zo) (spl_l (pkT_s34 ..)) <| Zb <| ZJ mixed #[0, 1, 0, 0, 12, 28, 63, 127, 255] 6 [some 54, some 55, some 56, some 57, some 58, some 59] [] [(4, fun _ _ vw qw => ∃ cs k, vw = .agg ⟨cs⟩ ∧ qw = [k] ∧ NC ([]) cs k), (5, fun r _ vw qw => ∃ b k, vw = .slice (some ⟨b, 0, none⟩) 1 1 ∧ qw = [k] ∧ Own 68 37 (.slice (some ⟨b, 0, none⟩) 1 1) [(cel (r 4))] k ∧ k = (BX b (List.flatten [(cel (r 4))]) 68))] rfl (by kernel_rfl) rfl (by kernel_rfl) <| Dq (pp b3 35) (fun _ => fa68_4 rfl rfl) <| Dl1 ty65 (At.bx 4 rfl) (get_l (ZT ..)) <| Dl Zt (At.bx 3 rfl) (Zs (Zu hE5)) <| Dm ua7 <| Dc rfl Tryz.call76 (fun _ => rfl) (fun hin => named_va _ _ _ (RT.mono (Hle.hu _ _) hE5) (Xz hoa7 (by simp) (hin 1 _ rfl))) ?_)
 rintro _ _ ⟨cs11, k11, rfl, rfl, hO11⟩
 refine Dr rfl (fun _ => Zp (vs := [.agg ⟨cs11⟩]) [cs11] Tryz.runUnderlying65 el68 rfl rfl (by intro e he; simp only [List.mem_cons, List.not_mem_nil, or_false] at he; subst he; exact hO11.len) rfl (by decide) fun b k h1 h2 => ⟨[k], by rw [ZN rfl]; exact Sub.refl, b, k, rfl, rfl, h1, h2⟩) (fun _ _ ⟨b12, k12, e1, e2, ho12, hk12⟩ => ?_); subst e1 e2
 refine ZV (M' := [k12, k11, k8, ka7, kb7, (BX b6 cs5 30), (BX b3 ((pkT 3 0 zS v8 nS) ++ ([nS] : List Value)) 68), (BX b2 ((pkT 0 0 zS nS nS) ++ ([nS] : List Value)) 68), (BX b1 (pkT 3 0 zS ks cv) 30)]) rfl ?_
 show JL _ _ _ [_, _, _] _ _ _
 refine JL_sub (M' := [[], k12, k11, k8, ka7, kb7, (BX b6 cs5 30), (BX b3 ((pkT 3 0 zS v8 nS) ++ ([nS] : List Value)) 68), (BX b2 ((pkT 0 0 zS nS nS) ++ ([nS] : List Value)) 68), (BX b1 (pkT 3 0 zS ks cv) 30)]) (Sub.emp Sub.refl) ?_
 have hlens13 : ∀ e ∈ ([cs11] : List (List Value)), List.length e = 37 := by
  intro e he; simp only [List.mem_cons, List.not_mem_nil, or_false] at he
  rcases he with rfl
  ·exact hO11.len
 have hoks13 : ∀ e ∈ ([cs11] : List (List Value)), okc e := by
  intro e he; simp only [List.mem_cons, List.not_mem_nil, or_false] at he
  rcases he with rfl
  ·exact hO11.ok
 refine JLr (Zx (i := 0) (n := 1) (es' := [cs11]) Tryz.runUnderlying65 Tryz.runUnderlying65 (Or.inl rfl) el68 rfl rfl rfl Own.nil (fun F w m => Src.row (((At.k 1 rfl (by rw [hk12]; exact List.mem_cons_self))).heap m) (Zs (Zw hlens13))) rfl hlens13 hoks13 (by decide) (by simp [YG]) fun v13 k13 ho13 => JLq (pp b3 35) (fa68_4 rfl rfl) <| JLr (Ze 7 (vs := [v13]) (l := (pkT 3 0 zS v8 v13) ++ ([nS] : List Value)) ty65 rfl rfl rfl (ZH ho13.one) rfl (Zf ho13.one Zo) (spl_l (pkT_s35 ..)) <| Zb <| Za <| JLq (iv 1) (Pu.arith rfl rfl rfl) <| JLM rfl <| Zb <| Z0 <| Zc <| Za <| JLq (.bool false) (show Pu _ _ _ (.bool (decide ((1 : Int) < 1))) from Pu.lss rfl rfl) <| Zb ?_))
 refine Zc <| Zg (b := false) rfl (fun h => absurd h (by simp)) (fun _ => Zz _ rfl <| Zc <| Zc <| Za <| JLq (pp b1 35) (ZR rfl rfl) <| JLr (Zd YA rfl (At.bx 9 rfl) (ZT ..) ?_))
 obtain ⟨a14, cap14, hv14⟩ := hcv.sl
 have hle14 := hcv.le
 refine JLn (Pu.lenSl Tryz.runUnderlying28 hv14) <| JLM rfl <| Zb <| Zn <| Yu 1 <| Z0 <| Zc <| Za <| JLq (.bool false) (show Pu _ _ _ (.bool (decide ((0 : Int) < 0))) from Pu.lss rfl rfl) <| Zb <| Zc <| Zg (b := false) rfl (fun h => absurd h (by simp)) (fun _ => Zz _ rfl ?_)
 refine Zc <| Za <| JLr (Zh ty68 rfl (At.bx 7 rfl) (Zs rfl) <| JLr (Ze 8 (vs := (pkT 3 0 zS v8 v13) ++ ([nS] : List Value)) (l := (pkT 3 0 zS v8 v13) ++ ([nS] : List Value)) ty68 rfl rfl rfl rfl rfl (Yg (ZS ho8.one ho13.one) (Zf rfl Zo)) (ZK (n := 37) rfl rfl) <| Zb <| Zl <| ⟨.agg ⟨(pkT 3 0 zS v8 v13) ++ ([nS] : List Value)⟩, [k8 ++ (k13 ++ k11)], Ret.one rfl (RV.cell ty68 rfl (At.bx 8 rfl) (Zs rfl)), (Sub.join3 (Sub.cons 3 rfl (Sk (Sd (Sk Sub.nil))))), ?_⟩))
 exact ⟨_, _, rfl, rfl, ⟨_, _, _, _, _, _, _, _, _, _, rfl, rfl, ho8, ho13, hO11, rfl⟩⟩
set_option maxHeartbeats 1000000 in
theorem named0_ct : ∀ (cs : List Value) (v : Value) (H : Heap), RT H cs (Tm.mk 3 0 zS [(Tm.mk 3 0 zS [Tm.mk 1 1 zS [] []] [])] []) → rdS RS 1 H v [ltr 0] → CT Tryz.prog 76 ⟨[.agg ⟨cs⟩, v]⟩ [] H (fun v N => ∃ cs k, v = .agg ⟨cs⟩ ∧ N = [k] ∧ NC [[ltr 1], [ltr 2]] cs k) := by
 intro cs v H ht hl
 obtain ⟨ks, cv, rfl, _, _, hks, hcv⟩ := RT_mk.1 ht
 refine Zm Tryz.func76 rfl rfl <| Zc <| Za <| JLr (Zq (l := pkT 3 0 zS ks cv) rfl rfl fun b1 => JLr (Zk (l := (pkT 0 0 zS nS nS) ++ ([nS] : List Value)) Tryz.zeroValue68 rfl fun b2 => Zb <| Zc <| Za <| JLq (pp b1 0) (ZI rfl rfl) <| JLr (Zd ty3 rfl (At.bx 1 rfl) (ZZ ..) <| JLq (pp b1 1) (Z9 rfl rfl) <| JLr (Zd ty3 rfl (At.bx 1 rfl) (Yt ..) <| JLq (pp b1 2) (fa30_2 rfl rfl) ?_))))
 refine JLr (Zh YM rfl (At.bx 1 rfl) (pkT_2 ..) <| JLq (.agg ⟨(pkT 3 0 zS nS nS) ++ ([nS] : List Value)⟩) (Pu.build (pv := [(0, iv 3), (1, iv 0), (2, .agg ⟨sC zS⟩)]) (l := (pkT 3 0 zS nS nS) ++ ([nS] : List Value)) rfl (bld68_0_1_2 _ _ _)) <| JLr (Zk (l := (pkT 0 0 zS nS nS) ++ ([nS] : List Value)) Tryz.zeroValue68 rfl fun b3 => JLr (Ze 0 (vs := (pkT 3 0 zS nS nS) ++ ([nS] : List Value)) (l := (pkT 3 0 zS nS nS) ++ ([nS] : List Value)) ty68 rfl rfl rfl rfl rfl (Yg (ZS rfl rfl) (Zf rfl Zo)) (ZK (n := 37) rfl rfl) <| Zb <| Zc <| Zc <| Za <| JLq (pp b1 0) (ZI rfl rfl) <| JLr (Zd ty3 rfl (At.bx 2 rfl) (ZZ ..) <| JLq (.bool false) (show Pu _ _ _ (.bool (decide ((3 : Int) = 1))) from Pu.eql rfl rfl) <| Zb <| Zg (b := false) rfl (fun h => absurd h (by simp)) (fun _ => ?_)))))
 refine Zj <| Zc <| Zc <| Za <| JLq (pp b1 34) (Z3 rfl rfl) <| JLr (Zd Y0 rfl (At.bx 2 rfl) (Z4 ..) ?_)
 obtain ⟨a4, cap4, hv4⟩ := hks.sl
 have hle4 := hks.le
 refine JLn (Pu.lenSl Tryz.runUnderlying27 hv4) <| JLM rfl <| Zb <| Zn <| Yu 2 <| Z0 <| Zc <| Za <| JLq (.bool true) (show Pu _ _ _ (.bool (decide ((0 : Int) < 1))) from Pu.lss rfl rfl) <| Zb <| Zc <| Zg (b := true) rfl (fun _ => ?_) (fun h => absurd h (by simp))
 refine Zj <| Zc <| Zn <| Zc <| Za <| JLM rfl ?_
 obtain ⟨b5, o5, cap5, row5, T5, fr5, cs5, hv5, hb5, hs5, hE5⟩ := hks.get 0 (by first | assumption | omega | decide | simp)
 refine JLq (pp b5 (o5 + 0 * 36)) (Pu.idx 0 Tryz.runUnderlying27 Zt hv5 rfl rfl (by first | assumption | omega | decide | simp)) <| JLr (Zh Zt rfl (At.im hb5) hs5 <| JLr (Zk (l := pkT 0 0 zS nS nS) Tryz.zeroValue30 rfl fun b6 => JLA rfl <| JLr (Ze 0 (vs := cs5) (l := cs5) Zt rfl rfl rfl rfl (Zu hE5) (XG hE5) (ZK (n := 36) rfl (Zu hE5)) <| Zb <| Zc <| Za <| JLm v <| JLq (pp b1 0) (ZI rfl rfl) <| JLr (Zd ty3 rfl (At.bx 3 rfl) (ZZ ..) <| JLM rfl <| Jc Tryz.call105 rfl (fun hin => int_r (r := 1) (more_ct _ _ _) (by decide)) rfl ?_))))
 rintro _ _ ⟨rfl, rfl⟩
 refine Jc Tryz.call111 rfl (fun hin => chosen1_ct _ _ (RSs.mono (Hle.hu _ _) hl)) rfl ?_
 rintro _ _ ⟨ua7, ub7, ka7, kb7, rfl, rfl, hoa7, hob7⟩
 refine JLM rfl <| JLn (Pu.extract rfl rfl) <| JLn (Pu.extract rfl rfl) <| JLa ua7 <| JLa ub7 <| Zb <| Zc <| Za <| JLq (pp b3 34) (fa68_3 rfl rfl) <| JLr (Zd ty64 rfl (At.bx 3 rfl) (get_l (Z4 ..)) <| JLm ub7 <| JL_sub (M' := [[], ka7, kb7, (BX b6 cs5 30), (BX b3 ((pkT 3 0 zS nS nS) ++ ([nS] : List Value)) 68), (BX b2 ((pkT 0 0 zS nS nS) ++ ([nS] : List Value)) 68), (BX b1 (pkT 3 0 zS ks cv) 30)]) (Sub.emp Sub.refl) <| JLr (Zx (i := 0) (n := ([ltr 1]).length) (es' := YG ([ltr 1])) Tryz.runUnderlying64 Tryz.runUnderlying64 (Or.inl rfl) el9 rfl rfl rfl (show Own _ _ _ (YG []) _ from Own.nil) (own_src (i := 2) hob7 rfl) (Y3 _) (strs_len1 _) (strs_ok _) (by decide) (by simp [YG]) fun v8 k8 ho8 => ?_))
 rw [← strs_app] at ho8
 refine JLq (pp b3 34) (fa68_3 rfl rfl) <| JLr (Ze 4 (vs := [v8]) (l := (pkT 3 0 zS v8 nS) ++ ([nS] : List Value)) ty64 rfl rfl rfl (ZH ho8.one) rfl (Zf ho8.one Zo) (spl_l (pkT_s34 ..)) <| Zb <| ZJ mixed #[0, 1, 0, 0, 12, 28, 63, 127, 255] 6 [some 54, some 55, some 56, some 57, some 58, some 59] [] [(4, fun _ _ vw qw => ∃ cs k, vw = .agg ⟨cs⟩ ∧ qw = [k] ∧ NC ([[ltr 2]]) cs k), (5, fun r _ vw qw => ∃ b k, vw = .slice (some ⟨b, 0, none⟩) 1 1 ∧ qw = [k] ∧ Own 68 37 (.slice (some ⟨b, 0, none⟩) 1 1) [(cel (r 4))] k ∧ k = (BX b (List.flatten [(cel (r 4))]) 68))] rfl (by kernel_rfl) rfl (by kernel_rfl) <| Dq (pp b3 35) (fun _ => fa68_4 rfl rfl) <| Dl1 ty65 (At.bx 4 rfl) (get_l (ZT ..)) <| Dl Zt (At.bx 3 rfl) (Zs (Zu hE5)) <| Dm ua7 <| Dc rfl Tryz.call76 (fun _ => rfl) (fun hin => named1_ct _ _ _ (RT.mono (Hle.hu _ _) hE5) (Xz hoa7 (by simp) (hin 1 _ rfl))) ?_)
 rintro _ _ ⟨cs11, k11, rfl, rfl, hO11⟩
 refine Dr rfl (fun _ => Zp (vs := [.agg ⟨cs11⟩]) [cs11] Tryz.runUnderlying65 el68 rfl rfl (by intro e he; simp only [List.mem_cons, List.not_mem_nil, or_false] at he; subst he; exact hO11.len) rfl (by decide) fun b k h1 h2 => ⟨[k], by rw [ZN rfl]; exact Sub.refl, b, k, rfl, rfl, h1, h2⟩) (fun _ _ ⟨b12, k12, e1, e2, ho12, hk12⟩ => ?_); subst e1 e2
 refine ZV (M' := [k12, k11, k8, ka7, kb7, (BX b6 cs5 30), (BX b3 ((pkT 3 0 zS v8 nS) ++ ([nS] : List Value)) 68), (BX b2 ((pkT 0 0 zS nS nS) ++ ([nS] : List Value)) 68), (BX b1 (pkT 3 0 zS ks cv) 30)]) rfl ?_
 show JL _ _ _ [_, _, _] _ _ _
 refine JL_sub (M' := [[], k12, k11, k8, ka7, kb7, (BX b6 cs5 30), (BX b3 ((pkT 3 0 zS v8 nS) ++ ([nS] : List Value)) 68), (BX b2 ((pkT 0 0 zS nS nS) ++ ([nS] : List Value)) 68), (BX b1 (pkT 3 0 zS ks cv) 30)]) (Sub.emp Sub.refl) ?_
 have hlens13 : ∀ e ∈ ([cs11] : List (List Value)), List.length e = 37 := by
  intro e he; simp only [List.mem_cons, List.not_mem_nil, or_false] at he
  rcases he with rfl
  ·exact hO11.len
 have hoks13 : ∀ e ∈ ([cs11] : List (List Value)), okc e := by
  intro e he; simp only [List.mem_cons, List.not_mem_nil, or_false] at he
  rcases he with rfl
  ·exact hO11.ok
 refine JLr (Zx (i := 0) (n := 1) (es' := [cs11]) Tryz.runUnderlying65 Tryz.runUnderlying65 (Or.inl rfl) el68 rfl rfl rfl Own.nil (fun F w m => Src.row (((At.k 1 rfl (by rw [hk12]; exact List.mem_cons_self))).heap m) (Zs (Zw hlens13))) rfl hlens13 hoks13 (by decide) (by simp [YG]) fun v13 k13 ho13 => JLq (pp b3 35) (fa68_4 rfl rfl) <| JLr (Ze 7 (vs := [v13]) (l := (pkT 3 0 zS v8 v13) ++ ([nS] : List Value)) ty65 rfl rfl rfl (ZH ho13.one) rfl (Zf ho13.one Zo) (spl_l (pkT_s35 ..)) <| Zb <| Za <| JLq (iv 1) (Pu.arith rfl rfl rfl) <| JLM rfl <| Zb <| Z0 <| Zc <| Za <| JLq (.bool false) (show Pu _ _ _ (.bool (decide ((1 : Int) < 1))) from Pu.lss rfl rfl) <| Zb ?_))
 refine Zc <| Zg (b := false) rfl (fun h => absurd h (by simp)) (fun _ => Zz _ rfl <| Zc <| Zc <| Za <| JLq (pp b1 35) (ZR rfl rfl) <| JLr (Zd YA rfl (At.bx 9 rfl) (ZT ..) ?_))
 obtain ⟨a14, cap14, hv14⟩ := hcv.sl
 have hle14 := hcv.le
 refine JLn (Pu.lenSl Tryz.runUnderlying28 hv14) <| JLM rfl <| Zb <| Zn <| Yu 1 <| Z0 <| Zc <| Za <| JLq (.bool false) (show Pu _ _ _ (.bool (decide ((0 : Int) < 0))) from Pu.lss rfl rfl) <| Zb <| Zc <| Zg (b := false) rfl (fun h => absurd h (by simp)) (fun _ => Zz _ rfl ?_)
 refine Zc <| Za <| JLr (Zh ty68 rfl (At.bx 7 rfl) (Zs rfl) <| JLr (Ze 8 (vs := (pkT 3 0 zS v8 v13) ++ ([nS] : List Value)) (l := (pkT 3 0 zS v8 v13) ++ ([nS] : List Value)) ty68 rfl rfl rfl rfl rfl (Yg (ZS ho8.one ho13.one) (Zf rfl Zo)) (ZK (n := 37) rfl rfl) <| Zb <| Zl <| ⟨.agg ⟨(pkT 3 0 zS v8 v13) ++ ([nS] : List Value)⟩, [k8 ++ (k13 ++ k11)], Ret.one rfl (RV.cell ty68 rfl (At.bx 8 rfl) (Zs rfl)), (Sub.join3 (Sub.cons 3 rfl (Sk (Sd (Sk Sub.nil))))), ?_⟩))
 exact ⟨_, _, rfl, rfl, ⟨_, _, _, _, _, _, _, _, _, _, rfl, rfl, ho8, ho13, hO11, rfl⟩⟩
end Go.Proofs.YtkjafeejpmcnkaaGreat.Hs
/-! Walks, printed by a program of this session's own (gen.py). -/
namespace Go.Proofs.YtkjafeejpmcnkaaGreat.Hs
open Go Go.Proofs
set_option maxRecDepth 100000
set_option linter.unusedVariables false
set_option linter.unusedSimpArgs false
attribute [local irreducible] JL J CT wlo DT
theorem nameE_ct (cs : List Value) (v : Value) (H : Heap) (ht : RT H cs eLL) (hl : rdS RS 1 H v [ltr 0]) : CT Tryz.prog 31 ⟨[.agg ⟨cs⟩, v]⟩ [] H (fun v N => ∃ cs k, v = .tuple ⟨[.agg ⟨cs⟩, iv 0]⟩ ∧ N = [k] ∧ NC [[ltr 1], [ltr 2]] cs k) := by
 refine Zm Tryz.func31 rfl rfl <| Zc <| Za <| JLr (Zq (l := cs) rfl rfl fun b1 => JLr (Zq (l := [v]) rfl (ZH hl.one) fun b2 => JLr (Zk (l := (pkT 0 0 zS nS nS) ++ ([nS] : List Value)) Tryz.zeroValue68 rfl fun b3 => JLA rfl <| Zb <| Zc <| Zc <| Za <| JLr (Zh Zt rfl (At.bx 2 rfl) (Zs (Zu ht)) <| JLr (Zp (vs := [.agg ⟨cs⟩]) [cs] Tryz.runUnderlying27 el30 rfl rfl (by intro e he; simp only [List.mem_cons, List.not_mem_nil, or_false] at he; subst he; exact (Zu ht)) rfl (by decide) fun b4 k4 ho4 hk4 => ?_)))))
 refine Jc Tryz.call55 rfl (fun hin => int_r (r := 0) (right_ct [eLL] _ _ (Own.rd1 ho4 (hin 0 _ rfl) (RT.mono (Hle.hu _ _) ht))) right_ll) rfl ?_
 rintro _ _ ⟨rfl, rfl⟩
 refine JLA rfl <| Zb <| Zc <| Za <| JLM rfl <| JLq (.bool false) (show Pu _ _ _ (.bool (!decide ((0 : Int) = 0))) from Pu.neq rfl rfl) <| Zb <| Zg (b := false) rfl (fun h => absurd h (by simp)) (fun _ => Zj <| Zc <| Zc <| Za <| JLr (Zd ty64 rfl (At.bx 2 rfl) rfl ?_))
 refine Jc Tryz.call74 rfl (fun hin => bool_r (r := false) (containsS_ct _ _ _ _ (RSs.mono (Hle.hu _ _) hl)) (by decide)) rfl ?_
 rintro _ _ ⟨rfl, rfl⟩
 refine Zb <| Zg (b := false) rfl (fun h => absurd h (by simp)) (fun _ => Zj <| Zc <| Zc <| Za <| JLr (Zd ty64 rfl (At.bx 2 rfl) rfl ?_))
 obtain ⟨a5, cap5, hv5⟩ := hl.sl
 have hle5 := hl.le
 refine JLn (Pu.lenSl Tryz.runUnderlying64 hv5) <| JLM rfl <| Zb <| Zn <| Yu 2 <| Z0 <| Zc <| Za <| JLq (.bool true) (show Pu _ _ _ (.bool (decide ((0 : Int) < 1))) from Pu.lss rfl rfl) <| Zb <| Zc <| Zg (b := true) rfl (fun _ => ?_) (fun h => absurd h (by simp))
 refine Zj <| Zc <| Zn <| Zc <| Za <| JLM rfl ?_
 obtain ⟨b6, o6, cap6, row6, T6, fr6, cs6, hv6, hb6, hs6, hE6⟩ := hl.get 0 (by first | assumption | omega | decide | simp)
 refine JLq (pp b6 (o6 + 0 * 1)) (Pu.idx 0 Tryz.runUnderlying64 ty9 hv6 rfl rfl (by first | assumption | omega | decide | simp)) <| JLr (Zd ty9 rfl (At.im hb6) (YX ((show cs6 = [Value.string (ltr 0)] from hE6) ▸ hs6)) <| JLA rfl <| JLA rfl <| Zb <| Zc <| Za <| JLr (Zd ty64 rfl (At.bx 2 rfl) rfl <| JLM rfl ?_))
 obtain ⟨a7, cap7, hv7⟩ := hl.sl
 have hle7 := hl.le
 refine JLr (Runs_slice0 Tryz.runUnderlying64 Tryz.sizeOf9 hv7 rfl fun sa8 sc8 => JLM rfl <| Jc Tryz.call74 rfl (fun hin => bool_r (r := false) (containsS_ct _ _ _ _ (RSs.mono (Hle.hu _ _) (rdS.none : Hs.rdS RS 1 H (.slice sa8 0 sc8) []))) (by decide)) rfl ?_)
 rintro _ _ ⟨rfl, rfl⟩
 refine Zb <| Zg (b := false) rfl (fun h => absurd h (by simp)) (fun _ => Zj <| Za <| JLq (iv 1) (Pu.arith rfl rfl rfl) <| JLM rfl <| Zb <| Z0 <| Zc <| Za <| JLq (.bool false) (show Pu _ _ _ (.bool (decide ((1 : Int) < 1))) from Pu.lss rfl rfl) <| Zb <| Zc ?_)
 refine Zg (b := false) rfl (fun h => absurd h (by simp)) (fun _ => Zz _ rfl <| Zc <| Za <| JLr (Zh Zt rfl (At.bx 3 rfl) (Zs (Zu ht)) <| Jc Tryz.call27 rfl (fun hin => freeE_ct eLL _ _ (RT.mono (Hle.hu _ _) ht)) rfl ?_))
 rintro _ _ ⟨u9, e9, k9, rfl, rfl, ho9, he9⟩
 rw [free_ll] at ho9 he9
 replace ho9 : Own 3 1 u9 (ints ([])) k9 := ho9
 obtain rfl : e9 = 0 := he9
 refine JLM rfl <| JLn (Pu.extract rfl rfl) <| JLn (Pu.extract rfl rfl) <| JLa u9 <| JLA rfl <| Zb <| Zc <| Zc <| Za <| JLm u9 <| JLq (.func (.func 75) ⟨[]⟩ ⟨[pp b2 0]⟩) (Pu.makeFunc rfl rfl) <| Jc Tryz.call72 rfl (fun hin => bool_r (r := true) (every_ct 75 [] [pp b2 0] Tryz.call75 (fun _ => true) [] _ _ (own_ints ho9 (by simp) (hin 0 _ rfl)) (fun x hx => by cases hx)) rfl) rfl ?_
 rintro _ _ ⟨rfl, rfl⟩
 refine JLq (.bool false) (show Pu _ _ _ (.bool (!true)) from Pu.not rfl) <| Zb <| Zg (b := false) rfl (fun h => absurd h (by simp)) (fun _ => Zj <| Zc <| Za <| JLr (Zh Zt rfl (At.bx 4 rfl) (Zs (Zu ht)) <| JLr (Zd ty64 rfl (At.bx 3 rfl) rfl <| Jc Tryz.call76 rfl (fun hin => named0_ct _ _ _ (RT.mono (Hle.hu _ _) ht) (RSs.mono (Hle.hu _ _) hl)) rfl ?_)))
 rintro _ _ ⟨cs10, k10, rfl, rfl, hO10⟩
 refine JLr (Ze 3 (vs := cs10) (l := cs10) ty68 rfl rfl rfl rfl hO10.len hO10.ok (ZK (n := 37) rfl hO10.len) <| JLA rfl <| Zb <| Zl <| ⟨.tuple ⟨[.agg ⟨cs10⟩, iv 0]⟩, [k10], Ret.two rfl (RV.cell ty68 rfl (At.bx 3 rfl) (Zs hO10.len)) (RV.tmp rfl), (Sk Sub.nil), ?_⟩)
 exact ⟨_, _, rfl, rfl, hO10⟩
theorem nu_ct (n : Int) (H : Heap) (hb : inI n) : CT Tryz.prog 29 ⟨[iv n]⟩ [] H (fun v N => ∃ cs k, v = .agg ⟨cs⟩ ∧ N = [k] ∧ OT (.mk 2 n zS [] []) cs k) := by
 refine Zm Tryz.func29 rfl rfl <| Zc <| Za <| JLr (Zk (l := pkT 0 0 zS nS nS) Tryz.zeroValue30 rfl fun b1 => Zb <| Zc <| Za <| JLM rfl <| JLq (.agg ⟨pkT 2 n zS nS nS⟩) (Pu.build (pv := [(0, iv 2), (1, iv n)]) (l := pkT 2 n zS nS nS) rfl (bld30_0_1 _ _)) <| JLr (Ze 0 (vs := pkT 2 n zS nS nS) (l := pkT 2 n zS nS nS) Zt rfl rfl rfl rfl rfl (ZS rfl rfl) (YU ..) <| Zb <| Zl <| ⟨.agg ⟨pkT 2 n zS nS nS⟩, [[]], Ret.one rfl (RV.cell Zt rfl (At.bx 0 rfl) (Yz ..)), (Sub.emp Sub.nil), ?_⟩))
 exact ⟨_, _, rfl, rfl, OT_leaf (by unfold inI; omega) hb⟩
theorem va_ct (n : Int) (H : Heap) (hb : inI n) : CT Tryz.prog 26 ⟨[iv n]⟩ [] H (fun v N => ∃ cs k, v = .agg ⟨cs⟩ ∧ N = [k] ∧ OT (.mk 1 n zS [] []) cs k) := by
 refine Zm Tryz.func26 rfl rfl <| Zc <| Za <| JLr (Zk (l := pkT 0 0 zS nS nS) Tryz.zeroValue30 rfl fun b1 => Zb <| Zc <| Za <| JLM rfl <| JLq (.agg ⟨pkT 1 n zS nS nS⟩) (Pu.build (pv := [(0, iv 1), (1, iv n)]) (l := pkT 1 n zS nS nS) rfl (bld30_0_1 _ _)) <| JLr (Ze 0 (vs := pkT 1 n zS nS nS) (l := pkT 1 n zS nS nS) Zt rfl rfl rfl rfl rfl (ZS rfl rfl) (YU ..) <| Zb <| Zl <| ⟨.agg ⟨pkT 1 n zS nS nS⟩, [[]], Ret.one rfl (RV.cell Zt rfl (At.bx 0 rfl) (Yz ..)), (Sub.emp Sub.nil), ?_⟩))
 exact ⟨_, _, rfl, rfl, OT_leaf (by unfold inI; omega) hb⟩
theorem la_ct (H : Heap) (a : List Value) (hla : a.length = 36) (hka : okc a) : CT Tryz.prog 24 ⟨[.agg ⟨a⟩]⟩ [] H (fun v N => ∃ cs k, v = .agg ⟨cs⟩ ∧ N = [k] ∧ cs.length = 36 ∧ okc cs ∧ ∀ ta h, Has k h → RT h a ta → RT h cs (.mk 3 0 zS [ta] [])) := by
 refine Zm Tryz.func24 rfl rfl <| Zc <| Za <| JLr (Zq (l := a) rfl rfl fun b1 => JLr (Zk (l := pkT 0 0 zS nS nS) Tryz.zeroValue30 rfl fun b2 => Zb <| Zc <| Za <| JLr (Zh Zt rfl (At.bx 1 rfl) (Zs hla) <| JLr (Zp (vs := [.agg ⟨a⟩]) [a] Tryz.runUnderlying27 el30 rfl rfl (by intro e he; simp only [List.mem_cons, List.not_mem_nil, or_false] at he; subst he; exact hla) rfl (by decide) fun b3 k3 ho3 hk3 => JLq (.agg ⟨pkT 3 0 zS (.slice (some ⟨b3, 0, none⟩) 1 1) nS⟩) (Pu.build (pv := [(0, iv 3), (3, .slice (some ⟨b3, 0, none⟩) 1 1)]) (l := pkT 3 0 zS (.slice (some ⟨b3, 0, none⟩) 1 1) nS) rfl (bld30_0_3 _ _ _ _)) <| JLr (Ze 1 (vs := pkT 3 0 zS (.slice (some ⟨b3, 0, none⟩) 1 1) nS) (l := pkT 3 0 zS (.slice (some ⟨b3, 0, none⟩) 1 1) nS) Zt rfl rfl rfl rfl rfl (ZS rfl rfl) (YU ..) <| Zb ?_)))))
 refine Zl <| ⟨.agg ⟨pkT 3 0 zS (.slice (some ⟨b3, 0, none⟩) 1 1) nS⟩, [k3], Ret.one rfl (RV.cell Zt rfl (At.bx 1 rfl) (Yz ..)), (Sk Sub.nil), ?_⟩
 exact ⟨_, _, rfl, rfl, rfl, ZS rfl rfl, fun ta h hh hta => RT_mk.2 ⟨_, _, rfl, (by unfold inI; omega), (by unfold inI; omega), Own.rd1 ho3 hh hta, Hs.rdS.nil⟩⟩
theorem ap_ct (H : Heap) (a : List Value) (hla : a.length = 36) (hka : okc a) (b : List Value) (hlb : b.length = 36) (hkb : okc b) : CT Tryz.prog 25 ⟨[.agg ⟨a⟩, .agg ⟨b⟩]⟩ [] H (fun v N => ∃ cs k, v = .agg ⟨cs⟩ ∧ N = [k] ∧ cs.length = 36 ∧ okc cs ∧ ∀ ta tb h, Has k h → RT h a ta → RT h b tb → RT h cs (.mk 4 0 zS [ta, tb] [])) := by
 refine Zm Tryz.func25 rfl rfl <| Zc <| Za <| JLr (Zq (l := a) rfl rfl fun b1 => JLr (Zq (l := b) rfl rfl fun b2 => JLr (Zk (l := pkT 0 0 zS nS nS) Tryz.zeroValue30 rfl fun b3 => Zb <| Zc <| Za <| JLr (Zh Zt rfl (At.bx 2 rfl) (Zs hla) <| JLr (Zh Zt rfl (At.bx 1 rfl) (Zs hlb) <| JLr (Zp (vs := [.agg ⟨a⟩, .agg ⟨b⟩]) [a, b] Tryz.runUnderlying27 el30 rfl rfl (by intro e he; simp only [List.mem_cons, List.not_mem_nil, or_false] at he; rcases he with rfl | rfl <;> first | exact hla | exact hlb) rfl (by decide) fun b4 k4 ho4 hk4 => JLq (.agg ⟨pkT 4 0 zS (.slice (some ⟨b4, 0, none⟩) 2 2) nS⟩) (Pu.build (pv := [(0, iv 4), (3, .slice (some ⟨b4, 0, none⟩) 2 2)]) (l := pkT 4 0 zS (.slice (some ⟨b4, 0, none⟩) 2 2) nS) rfl (bld30_0_3 _ _ _ _)) ?_))))))
 refine JLr (Ze 1 (vs := pkT 4 0 zS (.slice (some ⟨b4, 0, none⟩) 2 2) nS) (l := pkT 4 0 zS (.slice (some ⟨b4, 0, none⟩) 2 2) nS) Zt rfl rfl rfl rfl rfl (ZS rfl rfl) (YU ..) <| Zb <| Zl <| ⟨.agg ⟨pkT 4 0 zS (.slice (some ⟨b4, 0, none⟩) 2 2) nS⟩, [k4], Ret.one rfl (RV.cell Zt rfl (At.bx 1 rfl) (Yz ..)), (Sk Sub.nil), ?_⟩)
 exact ⟨_, _, rfl, rfl, rfl, ZS rfl rfl, fun ta tb h hh hta htb => RT_mk.2 ⟨_, _, rfl, (by unfold inI; omega), (by unfold inI; omega), Own.rd2 ho4 hh hta htb, Hs.rdS.nil⟩⟩
theorem ha_ct (r : Sm) (a : Option Addr) (n c : Nat) (H : Heap) : CT Tryz.prog 35 ⟨[.agg ⟨sC r⟩, .slice a n c]⟩ [] H (fun v N => v = .agg ⟨pkT 12 0 r (.slice a n c) nS⟩ ∧ N = []) := by
 refine Zm Tryz.func35 rfl rfl <| Zc <| Za <| JLr (Zq (l := sC r) rfl rfl fun b1 => JLr (Zk (l := pkT 0 0 zS nS nS) Tryz.zeroValue30 rfl fun b2 => Zb <| Zc <| Za <| JLr (Zh YM rfl (At.bx 1 rfl) (Zs rfl) <| JLM rfl <| JLq (.agg ⟨pkT 12 0 r (.slice a n c) nS⟩) (Pu.build (pv := [(0, iv 12), (2, .agg ⟨sC r⟩), (3, .slice a n c)]) (l := pkT 12 0 r (.slice a n c) nS) rfl (bld30_0_2_3 _ _ _ _ _)) <| JLr (Ze 0 (vs := pkT 12 0 r (.slice a n c) nS) (l := pkT 12 0 r (.slice a n c) nS) Zt rfl rfl rfl rfl rfl (ZS rfl rfl) (YU ..) <| Zb ?_))))
 refine Zl <| ⟨.agg ⟨pkT 12 0 r (.slice a n c) nS⟩, [], Ret.one rfl (RV.cell Zt rfl (At.bx 0 rfl) (Yz ..)), Sub.nil, ?_⟩
 exact ⟨rfl, rfl⟩
end Go.Proofs.YtkjafeejpmcnkaaGreat.Hs
/-! Walks, printed by a program of this session's own (gen.py). -/
namespace Go.Proofs.YtkjafeejpmcnkaaGreat.Hs
open Go Go.Proofs
set_option maxRecDepth 100000
set_option linter.unusedVariables false
set_option linter.unusedSimpArgs false
attribute [local irreducible] JL J CT wlo DT
set_option maxHeartbeats 8000000 in
theorem awake_ct (H : Heap) : CT Tryz.prog 5 ⟨[]⟩ [] H (fun v N => v = .bool true ∧ N = []) := by
 refine Zm Tryz.func5 rfl rfl <| Zc <| Za <| JLA rfl <| Zb <| Zc <| Zg (b := false) rfl (fun h => absurd h (by simp)) (fun _ => Zj <| Zc <| Za <| Jc Tryz.call26 rfl (fun hin => va_ct _ _ (by unfold inI; omega)) rfl ?_)
 rintro _ _ ⟨cs1, k1, rfl, rfl, hO1⟩
 refine Jc Tryz.call26 rfl (fun hin => va_ct _ _ (by unfold inI; omega)) rfl ?_
 rintro _ _ ⟨cs2, k2, rfl, rfl, hO2⟩
 refine Jc Tryz.call25 rfl (fun hin => ap_ct _ _ hO1.len hO1.ok _ hO2.len hO2.ok) rfl ?_
 rintro _ _ ⟨cs3, k3, rfl, rfl, hC3⟩
 replace hC3 : (cs3.length = 36 ∧ okc cs3 ∧ ∀ h, Has k3 h → RT h cs1 (eVa 0) → RT h cs2 (eVa 1) → RT h cs3 (eAp (eVa 0) (eVa 1))) := ⟨hC3.1, hC3.2.1, hC3.2.2 (eVa 0) (eVa 1)⟩
 refine Jc Tryz.call24 rfl (fun hin => la_ct _ _ hC3.1 hC3.2.1) rfl ?_
 rintro _ _ ⟨cs4, k4, rfl, rfl, hC4⟩
 replace hC4 : (cs4.length = 36 ∧ okc cs4 ∧ ∀ h, Has k4 h → RT h cs3 (eAp (eVa 0) (eVa 1)) → RT h cs4 (eLa (eAp (eVa 0) (eVa 1)))) := ⟨hC4.1, hC4.2.1, hC4.2.2 (eAp (eVa 0) (eVa 1))⟩
 refine JLr (Zk (l := pkT 0 0 zS nS nS) Tryz.zeroValue30 rfl fun b5 => JLr (Ze 0 (vs := cs4) (l := cs4) Zt rfl rfl rfl rfl hC4.1 hC4.2.1 (ZK (n := 36) rfl hC4.1) <| Zb <| Zc <| Za <| JLr (Zh Zt rfl (At.bx 0 rfl) (Zs hC4.1) <| Jc Tryz.call27 rfl (fun hin => freeE_ct eLam _ _ (hC4.2.2 _ (hin 1 _ rfl) (hC3.2.2 _ (hin 2 _ rfl) (hO1.rd (hin 4 _ rfl)) (hO2.rd (hin 3 _ rfl))))) rfl ?_)))
 rintro _ _ ⟨u6, e6, k6, rfl, rfl, ho6, he6⟩
 rw [free_lam] at ho6 he6
 replace ho6 : Own 3 1 u6 (ints ([0])) k6 := ho6
 obtain rfl : e6 = 0 := he6
 refine JLM rfl <| JLn (Pu.extract rfl rfl) <| JLn (Pu.extract rfl rfl) <| JLa u6 <| JLA rfl <| Zb <| Zc <| ZJ mixed #[0, 0, 3, 7, 15, 15, 0, 95, 255] 8 [some 24, some 25, some 26, some 23, some 27, some 28, some 4, none] [(7, 6)] [(1, fun _ _ vw qw => ∃ cs k, vw = .agg ⟨cs⟩ ∧ qw = [k] ∧ OT (eNu 5) cs k), (2, fun _ _ vw qw => ∃ cs k, vw = .tuple ⟨[.agg ⟨cs⟩, iv 0]⟩ ∧ qw = [k] ∧ OT (eLa (eAp (eVa 0) (eNu 5))) cs k), (6, newP 30 (pkT 0 0 zS nS nS)), (7, fun r _ vw qw => vw = undef ∧ qw = [(BX (pblk (r 6)) ((tcel (r 2))) 30)])] rfl (by kernel_rfl) rfl (by kernel_rfl) <| Dl Zt (At.bx 1 rfl) (Zs hC4.1) ?_
 refine Dc rfl Tryz.call29 (fun _ => rfl) (fun hin => nu_ct _ _ (by unfold inI; omega)) ?_
 rintro _ _ ⟨cs10, k10, rfl, rfl, hO10⟩
 refine Dc rfl Tryz.call28 (fun _ => rfl) (fun hin => ble_at (substP_ct eLam 0 (eNu 5) _ _ _ (hC4.2.2 _ (hin 3 _ rfl) (hC3.2.2 _ (hin 4 _ rfl) (hO1.rd (hin 6 _ rfl)) (hO2.rd (hin 5 _ rfl)))) (hO10.rd (hin 0 _ rfl))) five_lam) ?_
 rintro _ _ ⟨cs11, k11, rfl, rfl, hO11⟩
 refine DM (fun _ => rfl) <| Dn (fun _ => Pu.extract rfl rfl) <| Dn (fun _ => Pu.extract rfl rfl) <| Da Tryz.zeroValue30 rfl fun b12 => Dr rfl (fun _ => Ze 0 (vs := cs11) (l := cs11) Zt rfl rfl rfl rfl hO11.len hO11.ok (ZK (n := 36) rfl hO11.len) ⟨[_], keptE (i := 0) rfl rfl, rfl, rfl⟩) ?_; rintro _ _ ⟨rfl, rfl⟩
 refine ZV (M' := [(BX b12 cs11 30), k11, k10, k6, (BX b5 cs4 30), k4, k3, k2, k1]) rfl ?_
 show JL _ _ _ [_] _ _ _
 refine JLA rfl <| Zb <| Zc <| ZJ mixed #[0, 0, 3, 7, 15, 15, 0, 95, 255] 8 [some 30, some 31, some 32, some 29, some 33, some 34, some 6, none] [(7, 6)] [(1, fun _ _ vw qw => ∃ cs k, vw = .agg ⟨cs⟩ ∧ qw = [k] ∧ OT (eVa 3) cs k), (2, fun _ _ vw qw => ∃ cs k, vw = .tuple ⟨[.agg ⟨cs⟩, iv 0]⟩ ∧ qw = [k] ∧ OT (eLa (eAp (eVa 0) (eVa 4))) cs k), (6, newP 30 (pkT 0 0 zS nS nS)), (7, fun r _ vw qw => vw = undef ∧ qw = [(BX (pblk (r 6)) ((tcel (r 2))) 30)])] rfl (by kernel_rfl) rfl (by kernel_rfl) <| Dl Zt (At.bx 4 rfl) (Zs hC4.1) ?_
 refine Dc rfl Tryz.call26 (fun _ => rfl) (fun hin => va_ct _ _ (by unfold inI; omega)) ?_
 rintro _ _ ⟨cs16, k16, rfl, rfl, hO16⟩
 refine Dc rfl Tryz.call28 (fun _ => rfl) (fun hin => ble_at (substP_ct eLam 0 (eVa 3) _ _ _ (hC4.2.2 _ (hin 6 _ rfl) (hC3.2.2 _ (hin 7 _ rfl) (hO1.rd (hin 9 _ rfl)) (hO2.rd (hin 8 _ rfl)))) (hO16.rd (hin 0 _ rfl))) three_lam) ?_
 rintro _ _ ⟨cs17, k17, rfl, rfl, hO17⟩
 refine DM (fun _ => rfl) <| Dn (fun _ => Pu.extract rfl rfl) <| Dn (fun _ => Pu.extract rfl rfl) <| Da Tryz.zeroValue30 rfl fun b18 => Dr rfl (fun _ => Ze 0 (vs := cs17) (l := cs17) Zt rfl rfl rfl rfl hO17.len hO17.ok (ZK (n := 36) rfl hO17.len) ⟨[_], keptE (i := 0) rfl rfl, rfl, rfl⟩) ?_; rintro _ _ ⟨rfl, rfl⟩
 refine ZV (M' := [(BX b18 cs17 30), k17, k16, (BX b12 cs11 30), k11, k10, k6, (BX b5 cs4 30), k4, k3, k2, k1]) rfl ?_
 show JL _ _ _ [_] _ _ _
 refine JLA rfl <| Zb <| Zc <| Za <| JLr (Zh Zt rfl (At.bx 7 rfl) (Zs hC4.1) <| Jc Tryz.call30 rfl (fun hin => ble_at (shiftP_ct eLam 2 0 _ _ (hC4.2.2 _ (hin 8 _ rfl) (hC3.2.2 _ (hin 9 _ rfl) (hO1.rd (hin 11 _ rfl)) (hO2.rd (hin 10 _ rfl))))) up_lam) rfl ?_)
 rintro _ _ ⟨cs19, k19, rfl, rfl, hO19⟩
 refine JLM rfl <| JLn (Pu.extract rfl rfl) <| JLn (Pu.extract rfl rfl) <| JLr (Zk (l := pkT 0 0 zS nS nS) Tryz.zeroValue30 rfl fun b20 => JLr (Ze 0 (vs := cs19) (l := cs19) Zt rfl rfl rfl rfl hO19.len hO19.ok (ZK (n := 36) rfl hO19.len) <| JLA rfl <| Zb <| Zc <| Za <| Jc Tryz.call26 rfl (fun hin => va_ct _ _ (by unfold inI; omega)) rfl ?_))
 rintro _ _ ⟨cs21, k21, rfl, rfl, hO21⟩
 refine Jc Tryz.call30 rfl (fun hin => ble_at (shiftP_ct (eVa 0) (-1) 0 _ _ (hO21.rd (hin 0 _ rfl))) down_va) rfl ?_
 rintro _ _ ⟨cs22, k22, rfl, rfl, hO22⟩
 refine JLM rfl <| JLn (Pu.extract rfl rfl) <| JLn (Pu.extract rfl rfl) <| JLr (Zk (l := pkT 0 0 zS nS nS) Tryz.zeroValue30 rfl fun b23 => JLr (Ze 0 (vs := cs22) (l := cs22) Zt rfl rfl rfl rfl hO22.len hO22.ok (ZK (n := 36) rfl hO22.len) <| JLA rfl <| Zb <| Zc <| Za <| Jc Tryz.call26 rfl (fun hin => va_ct _ _ (by unfold inI; omega)) rfl ?_))
 rintro _ _ ⟨cs24, k24, rfl, rfl, hO24⟩
 refine Jc Tryz.call24 rfl (fun hin => la_ct _ _ hO24.len hO24.ok) rfl ?_
 rintro _ _ ⟨cs25, k25, rfl, rfl, hC25⟩
 replace hC25 : (cs25.length = 36 ∧ okc cs25 ∧ ∀ h, Has k25 h → RT h cs24 (eVa 1) → RT h cs25 (eLa (eVa 1))) := ⟨hC25.1, hC25.2.1, hC25.2.2 (eVa 1)⟩
 refine Jc Tryz.call24 rfl (fun hin => la_ct _ _ hC25.1 hC25.2.1) rfl ?_
 rintro _ _ ⟨cs26, k26, rfl, rfl, hC26⟩
 replace hC26 : (cs26.length = 36 ∧ okc cs26 ∧ ∀ h, Has k26 h → RT h cs25 (eLa (eVa 1)) → RT h cs26 (eLa (eLa (eVa 1)))) := ⟨hC26.1, hC26.2.1, hC26.2.2 (eLa (eVa 1))⟩
 refine JLr (Zp (vs := [.string (ltr 0)]) [[.string (ltr 0)]] Tryz.runUnderlying64 el9 rfl rfl (by intro e he; simp only [List.mem_cons, List.not_mem_nil, or_false] at he; subst he; exact rfl) rfl (by decide) fun b27 k27 ho27 hk27 => Jc Tryz.call31 rfl (fun hin => nameE_ct _ _ _ (hC26.2.2 _ (hin 1 _ rfl) (hC25.2.2 _ (hin 2 _ rfl) (hO24.rd (hin 3 _ rfl)))) (Xz (l := [ltr 0]) ho27 (by simp) (hin 0 _ rfl))) rfl ?_)
 rintro _ _ ⟨_, _, rfl, rfl, nk28, nn28, nr28, ns28, nks28, ncv28, ne28, nk128, nk228, nk328, rfl, hone28, hon28, hok28, ⟨mk28, mn28, mr28, ms28, mks28, mcv28, me28, mk128, mk228, mk328, rfl, hmone28, hom28, hmk28, _, rfl⟩, rfl⟩
 refine JL_sub (M' := [nk128, nk228, mk128, mk228, mk328, k27, k26, k25, k24, (BX b23 cs22 30), k22, k21, (BX b20 cs19 30), k19, (BX b18 cs17 30), k17, k16, (BX b12 cs11 30), k11, k10, k6, (BX b5 cs4 30), k4, k3, k2, k1]) (Sub.flat Sub.refl (by simp)) <| JLM rfl <| JLn (Pu.extract rfl rfl) <| JLn (Pu.extract rfl rfl) <| JLr (Zk (l := (pkT 0 0 zS nS nS) ++ ([nS] : List Value)) Tryz.zeroValue68 rfl fun b29 => JLr (Ze 0 (vs := (pkT nk28 nn28 nr28 ns28 nks28) ++ ([ncv28] : List Value)) (l := (pkT nk28 nn28 nr28 ns28 nks28) ++ ([ncv28] : List Value)) ty68 rfl rfl rfl rfl rfl (Yg (ZS hon28.one hok28.one) (Zf hone28 Zo)) (ZK (n := 37) rfl rfl) <| JLA rfl <| Zb <| Zc <| ZJ mixed #[0, 1, 3, 7, 15, 31, 63, 127, 255, 511, 1023, 2047, 4095, 8191, 16383, 32767, 65535, 131071, 262143, 524287, 1048575, 2097151, 4194303, 8388607, 8388607, 33554431, 67108863, 134217727, 268435455, 268435455, 805306367, 1879048191, 4026531839, 8589934591, 17179869183, 34359738367, 68719476735, 68719476735, 206158430207, 481036337151, 1030792151039, 2199023255551, 4398046511103, 8796093022207, 17592186044415, 17592186044415, 52776558133247, 123145302310911, 263882790666239, 562949953421311, 1125899906842623, 2251799813685247, 4503599627370495, 9007199254740991, 4503599627370495, 36028797018963967, 72057594037927935, 144115188075855871, 288230376151711743, 576460752303423487, 1152921504606846975, 2305843009213693951, 4611686018427387903, 9223372036854775807, 18446744073709551615, 36893488147419103231, 73786976294838206463, 147573952589676412927, 295147905179352825855, 18446744073709551615, 1180591620717411303423, 2361183241434822606847, 4722366482869645213695, 9444732965739290427391, 9444732965739290427391, 28334198897217871282175, 66113130760175032991743, 151115727451828646838271, 302231454903657293676543, 604462909807314587353087, 1208925819614629174706175, 2417851639229258349412351, 4835703278458516698824703, 4835703278458516698824703, 14507109835375550096474111, 38685626227668133590597631, 77371252455336267181195263, 154742504910672534362390527, 309485009821345068724781055, 618970019642690137449562111] 85 [some 53, some 54, some 55, some 56, some 57, some 58, some 59, some 60, some 61, some 62, some 63, some 64, some 65, some 66, some 67, some 68, some 69, some 70, some 71, some 72, some 73, some 74, some 75, some 76, some 77, some 78, some 79, some 80, some 81, some 82, some 83, some 84, some 85, some 86, some 87, some 88, some 89, some 90, some 91, some 92, some 93, some 94, some 95, some 96, some 97, some 98, some 99, some 100, some 101, some 102, some 103, some 104, some 105, some 106, some 107, some 108, some 109, some 110, some 111, some 112, some 113, some 114, some 115, some 116, some 117, some 118, some 119, some 120, some 121, some 122, some 123, some 124, some 125, some 126, some 127, some 128, some 129, some 130, some 131, some 132, some 133, some 134, some 135, some 136, some 137] [] [(24, fun _ _ vw qw => ∃ b k, vw = .slice (some ⟨b, 0, none⟩) 1 1 ∧ qw = [k] ∧ Own 3 1 (.slice (some ⟨b, 0, none⟩) 1 1) [[iv 0]] k ∧ k = (BX b (List.flatten [[iv 0]]) 3)), (25, fun _ _ vw qw => vw = .bool true ∧ qw = []), (29, fun _ _ vw qw => ∃ cs k, vw = .agg ⟨cs⟩ ∧ qw = [k] ∧ OT (eVa 0) cs k), (30, fun _ _ vw qw => ∃ cs k, vw = .agg ⟨cs⟩ ∧ qw = [k] ∧ OT (eNu 5) cs k), (31, fun r _ vw qw => ∃ cs k, vw = .agg ⟨cs⟩ ∧ qw = [k] ∧ cs.length = 36 ∧ okc cs ∧ ∀ t0 t1 h, Has k h → RT h ((cel (r 29))) t0 → RT h ((cel (r 30))) t1 → RT h cs (.mk 4 0 zS [t0, t1] [])), (32, fun r _ vw qw => ∃ cs k, vw = .agg ⟨cs⟩ ∧ qw = [k] ∧ cs.length = 36 ∧ okc cs ∧ ∀ t0 h, Has k h → RT h ((cel (r 31))) t0 → RT h cs (.mk 3 0 zS [t0] [])), (33, fun _ _ vw qw => vw = .bool true ∧ qw = []), (37, fun _ _ vw qw => ∃ cs k, vw = .agg ⟨cs⟩ ∧ qw = [k] ∧ OT (eVa 0) cs k), (38, fun _ _ vw qw => ∃ cs k, vw = .agg ⟨cs⟩ ∧ qw = [k] ∧ OT (eVa 4) cs k), (39, fun r _ vw qw => ∃ cs k, vw = .agg ⟨cs⟩ ∧ qw = [k] ∧ cs.length = 36 ∧ okc cs ∧ ∀ t0 t1 h, Has k h → RT h ((cel (r 37))) t0 → RT h ((cel (r 38))) t1 → RT h cs (.mk 4 0 zS [t0, t1] [])), (40, fun r _ vw qw => ∃ cs k, vw = .agg ⟨cs⟩ ∧ qw = [k] ∧ cs.length = 36 ∧ okc cs ∧ ∀ t0 h, Has k h → RT h ((cel (r 39))) t0 → RT h cs (.mk 3 0 zS [t0] [])), (41, fun _ _ vw qw => vw = .bool true ∧ qw = []), (45, fun _ _ vw qw => ∃ cs k, vw = .agg ⟨cs⟩ ∧ qw = [k] ∧ OT (eVa 0) cs k), (46, fun _ _ vw qw => ∃ cs k, vw = .agg ⟨cs⟩ ∧ qw = [k] ∧ OT (eVa 3) cs k), (47, fun r _ vw qw => ∃ cs k, vw = .agg ⟨cs⟩ ∧ qw = [k] ∧ cs.length = 36 ∧ okc cs ∧ ∀ t0 t1 h, Has k h → RT h ((cel (r 45))) t0 → RT h ((cel (r 46))) t1 → RT h cs (.mk 4 0 zS [t0, t1] [])), (48, fun r _ vw qw => ∃ cs k, vw = .agg ⟨cs⟩ ∧ qw = [k] ∧ cs.length = 36 ∧ okc cs ∧ ∀ t0 h, Has k h → RT h ((cel (r 47))) t0 → RT h cs (.mk 3 0 zS [t0] [])), (49, fun _ _ vw qw => vw = .bool true ∧ qw = []), (54, fun _ _ vw qw => ∃ b k, vw = .slice (some ⟨b, 0, none⟩) 1 1 ∧ qw = [k] ∧ Own 9 1 (.slice (some ⟨b, 0, none⟩) 1 1) [[.string (ltr 1)]] k ∧ k = (BX b (List.flatten [[.string (ltr 1)]]) 9)), (55, fun _ _ vw qw => vw = .bool true ∧ qw = []), (69, fun _ _ vw qw => ∃ b k, vw = .slice (some ⟨b, 0, none⟩) 1 1 ∧ qw = [k] ∧ Own 9 1 (.slice (some ⟨b, 0, none⟩) 1 1) [[.string (ltr 2)]] k ∧ k = (BX b (List.flatten [[.string (ltr 2)]]) 9)), (70, fun _ _ vw qw => vw = .bool true ∧ qw = []), (74, fun _ _ vw qw => ∃ cs k, vw = .agg ⟨cs⟩ ∧ qw = [k] ∧ OT (eNu 1) cs k), (75, fun _ _ vw qw => ∃ cs k, vw = .agg ⟨cs⟩ ∧ qw = [k] ∧ OT (eVa 0) cs k), (76, fun r _ vw qw => ∃ b k, vw = .slice (some ⟨b, 0, none⟩) 2 2 ∧ qw = [k] ∧ Own 30 36 (.slice (some ⟨b, 0, none⟩) 2 2) [(cel (r 74)), (cel (r 75))] k ∧ k = (BX b (List.flatten [(cel (r 74)), (cel (r 75))]) 30)), (77, fun r _ vw qw => vw = .agg ⟨pkT 12 0 zS (.slice (some ⟨(sblk (r 76)), 0, none⟩) 2 2) nS⟩ ∧ qw = []), (78, fun _ _ vw qw => vw = iv 0 ∧ qw = []), (83, fun _ _ vw qw => ∃ cs k, vw = .agg ⟨cs⟩ ∧ qw = [k] ∧ OT (eNu 1) cs k), (84, fun r _ vw qw => ∃ b k, vw = .slice (some ⟨b, 0, none⟩) 1 1 ∧ qw = [k] ∧ Own 30 36 (.slice (some ⟨b, 0, none⟩) 1 1) [(cel (r 83))] k ∧ k = (BX b (List.flatten [(cel (r 83))]) 30))] rfl (by kernel_rfl) rfl (by kernel_rfl) <| DM (fun _ => rfl) <| Dq (.bool true) (fun _ => show Pu _ _ _ (.bool (decide ((0 : Int) = 0))) from Pu.eql rfl rfl) <| DM (fun _ => rfl) ?_))
 refine DM (fun _ => rfl) <| Dq (.bool true) (fun _ => show Pu _ _ _ (.bool (decide ((0 : Int) = 0))) from Pu.eql rfl rfl) <| Dq (.bool true) (fun _ => Pu.pickT rfl rfl) <| DM (fun _ => rfl) <| DM (fun _ => rfl) <| Dq (.bool true) (fun _ => show Pu _ _ _ (.bool (decide ((0 : Int) = 0))) from Pu.eql rfl rfl) <| Dq (.bool true) (fun _ => Pu.pickT rfl rfl) <| DM (fun _ => rfl) <| DM (fun _ => rfl) <| Dq (.bool true) (fun _ => show Pu _ _ _ (.bool (decide ((0 : Int) = 0))) from Pu.eql rfl rfl) <| Dq (.bool true) (fun _ => Pu.pickT rfl rfl) <| DM (fun _ => rfl) <| DM (fun _ => rfl) ?_
 refine Dq (.bool true) (fun _ => show Pu _ _ _ (.bool (decide ((1 : Int) = 1))) from Pu.eql rfl rfl) <| Dq (.bool true) (fun _ => Pu.pickT rfl rfl) <| DM (fun _ => rfl) <| DM (fun _ => rfl) <| Dq (.bool true) (fun _ => show Pu _ _ _ (.bool (decide ((0 : Int) = 0))) from Pu.eql rfl rfl) <| Dq (.bool true) (fun _ => Pu.pickT rfl rfl) <| DM (fun _ => rfl) <| Dm u6 <| Dr rfl (fun _ => Zp (vs := [iv 0]) [[iv 0]] Tryz.runUnderlying59 el3 rfl rfl (by intro e he; simp only [List.mem_cons, List.not_mem_nil, or_false] at he; subst he; exact rfl) rfl (by decide) fun b k h1 h2 => ⟨[k], by rw [ZN rfl]; exact Sub.refl, b, k, rfl, rfl, h1, h2⟩) (fun _ _ ⟨b52, k52, e1, e2, ho52, hk52⟩ => ?_); subst e1 e2
 refine Dc rfl Tryz.call32 (fun _ => rfl) (fun hin => bool_r (r := true) (equalI_ct _ _ _ _ _ (own_ints ho6 (by simp) (hin 22 _ rfl)) (own_ints (l := [0]) ho52 (by simp) (hin 0 _ rfl))) (eqL_true rfl)) ?_
 rintro _ _ ⟨rfl, rfl⟩
 refine Dq (.bool true) (fun _ => Pu.pickT rfl rfl) <| DM (fun _ => rfl) <| Dl Zt (At.bx 19 rfl) (Zs hO11.len) ?_
 refine Dc rfl Tryz.call26 (fun _ => rfl) (fun hin => va_ct _ _ (by unfold inI; omega)) ?_
 rintro _ _ ⟨cs53, k53, rfl, rfl, hO53⟩
 refine Dc rfl Tryz.call29 (fun _ => rfl) (fun hin => nu_ct _ _ (by unfold inI; omega)) ?_
 rintro _ _ ⟨cs54, k54, rfl, rfl, hO54⟩
 refine Dc rfl Tryz.call25 (fun _ => rfl) (fun hin => ap_ct _ _ hO53.len hO53.ok _ hO54.len hO54.ok) ?_
 rintro _ _ ⟨cs55, k55, rfl, rfl, hC55⟩
 replace hC55 : (cs55.length = 36 ∧ okc cs55 ∧ ∀ h, Has k55 h → RT h cs53 (eVa 0) → RT h cs54 (eNu 5) → RT h cs55 (eAp (eVa 0) (eNu 5))) := ⟨hC55.1, hC55.2.1, hC55.2.2 (eVa 0) (eNu 5)⟩
 refine Dc rfl Tryz.call24 (fun _ => rfl) (fun hin => la_ct _ _ hC55.1 hC55.2.1) ?_
 rintro _ _ ⟨cs56, k56, rfl, rfl, hC56⟩
 replace hC56 : (cs56.length = 36 ∧ okc cs56 ∧ ∀ h, Has k56 h → RT h cs55 (eAp (eVa 0) (eNu 5)) → RT h cs56 (eLa (eAp (eVa 0) (eNu 5)))) := ⟨hC56.1, hC56.2.1, hC56.2.2 (eAp (eVa 0) (eNu 5))⟩
 refine Dc rfl Tryz.call23 (fun _ => rfl) (fun hin => bool_r (r := true) (Xr _ _ _ _ _ (hO11.rd (hin 24 _ rfl)) (hC56.2.2 _ (hin 0 _ rfl) (hC55.2.2 _ (hin 1 _ rfl) (hO53.rd (hin 3 _ rfl)) (hO54.rd (hin 2 _ rfl))))) (decide_eq_true rfl)) ?_
 rintro _ _ ⟨rfl, rfl⟩
 refine Dq (.bool true) (fun _ => Pu.pickT rfl rfl) <| DM (fun _ => rfl) <| Dl Zt (At.bx 20 rfl) (Zs hO17.len) ?_
 refine Dc rfl Tryz.call26 (fun _ => rfl) (fun hin => va_ct _ _ (by unfold inI; omega)) ?_
 rintro _ _ ⟨cs57, k57, rfl, rfl, hO57⟩
 refine Dc rfl Tryz.call26 (fun _ => rfl) (fun hin => va_ct _ _ (by unfold inI; omega)) ?_
 rintro _ _ ⟨cs58, k58, rfl, rfl, hO58⟩
 refine Dc rfl Tryz.call25 (fun _ => rfl) (fun hin => ap_ct _ _ hO57.len hO57.ok _ hO58.len hO58.ok) ?_
 rintro _ _ ⟨cs59, k59, rfl, rfl, hC59⟩
 replace hC59 : (cs59.length = 36 ∧ okc cs59 ∧ ∀ h, Has k59 h → RT h cs57 (eVa 0) → RT h cs58 (eVa 4) → RT h cs59 (eAp (eVa 0) (eVa 4))) := ⟨hC59.1, hC59.2.1, hC59.2.2 (eVa 0) (eVa 4)⟩
 refine Dc rfl Tryz.call24 (fun _ => rfl) (fun hin => la_ct _ _ hC59.1 hC59.2.1) ?_
 rintro _ _ ⟨cs60, k60, rfl, rfl, hC60⟩
 replace hC60 : (cs60.length = 36 ∧ okc cs60 ∧ ∀ h, Has k60 h → RT h cs59 (eAp (eVa 0) (eVa 4)) → RT h cs60 (eLa (eAp (eVa 0) (eVa 4)))) := ⟨hC60.1, hC60.2.1, hC60.2.2 (eAp (eVa 0) (eVa 4))⟩
 refine Dc rfl Tryz.call23 (fun _ => rfl) (fun hin => bool_r (r := true) (Xr _ _ _ _ _ (hO17.rd (hin 25 _ rfl)) (hC60.2.2 _ (hin 0 _ rfl) (hC59.2.2 _ (hin 1 _ rfl) (hO57.rd (hin 3 _ rfl)) (hO58.rd (hin 2 _ rfl))))) (decide_eq_true rfl)) ?_
 rintro _ _ ⟨rfl, rfl⟩
 refine Dq (.bool true) (fun _ => Pu.pickT rfl rfl) <| DM (fun _ => rfl) <| Dl Zt (At.bx 22 rfl) (Zs hO19.len) ?_
 refine Dc rfl Tryz.call26 (fun _ => rfl) (fun hin => va_ct _ _ (by unfold inI; omega)) ?_
 rintro _ _ ⟨cs61, k61, rfl, rfl, hO61⟩
 refine Dc rfl Tryz.call26 (fun _ => rfl) (fun hin => va_ct _ _ (by unfold inI; omega)) ?_
 rintro _ _ ⟨cs62, k62, rfl, rfl, hO62⟩
 refine Dc rfl Tryz.call25 (fun _ => rfl) (fun hin => ap_ct _ _ hO61.len hO61.ok _ hO62.len hO62.ok) ?_
 rintro _ _ ⟨cs63, k63, rfl, rfl, hC63⟩
 replace hC63 : (cs63.length = 36 ∧ okc cs63 ∧ ∀ h, Has k63 h → RT h cs61 (eVa 0) → RT h cs62 (eVa 3) → RT h cs63 (eAp (eVa 0) (eVa 3))) := ⟨hC63.1, hC63.2.1, hC63.2.2 (eVa 0) (eVa 3)⟩
 refine Dc rfl Tryz.call24 (fun _ => rfl) (fun hin => la_ct _ _ hC63.1 hC63.2.1) ?_
 rintro _ _ ⟨cs64, k64, rfl, rfl, hC64⟩
 replace hC64 : (cs64.length = 36 ∧ okc cs64 ∧ ∀ h, Has k64 h → RT h cs63 (eAp (eVa 0) (eVa 3)) → RT h cs64 (eLa (eAp (eVa 0) (eVa 3)))) := ⟨hC64.1, hC64.2.1, hC64.2.2 (eAp (eVa 0) (eVa 3))⟩
 refine Dc rfl Tryz.call23 (fun _ => rfl) (fun hin => bool_r (r := true) (Xr _ _ _ _ _ (hO19.rd (hin 27 _ rfl)) (hC64.2.2 _ (hin 0 _ rfl) (hC63.2.2 _ (hin 1 _ rfl) (hO61.rd (hin 3 _ rfl)) (hO62.rd (hin 2 _ rfl))))) (decide_eq_true rfl)) ?_
 rintro _ _ ⟨rfl, rfl⟩
 refine Dq (.bool true) (fun _ => Pu.pickT rfl rfl) <| DM (fun _ => rfl) <| Dq (pp b29 34) (fun _ => fa68_3 rfl rfl) <| Dl1 ty64 (At.bx 13 rfl) (get_l (Z4 ..)) <| Dr rfl (fun _ => Zp (vs := [.string (ltr 1)]) [[.string (ltr 1)]] Tryz.runUnderlying64 el9 rfl rfl (by intro e he; simp only [List.mem_cons, List.not_mem_nil, or_false] at he; subst he; exact rfl) rfl (by decide) fun b k h1 h2 => ⟨[k], by rw [ZN rfl]; exact Sub.refl, b, k, rfl, rfl, h1, h2⟩) (fun _ _ ⟨b65, k65, e1, e2, ho65, hk65⟩ => ?_); subst e1 e2
 refine Dc rfl Tryz.call33 (fun _ => rfl) (fun hin => bool_r (r := true) (equalS_ct _ _ _ _ _ (Xz hon28 (by simp) (hin 15 _ rfl)) (Xz (l := [ltr 1]) ho65 (by simp) (hin 0 _ rfl))) (eqL_true rfl)) ?_
 rintro _ _ ⟨rfl, rfl⟩
 refine Dq (.bool true) (fun _ => Pu.pickT rfl rfl) <| DM (fun _ => rfl) <| Dq (pp b29 35) (fun _ => fa68_4 rfl rfl) <| Dl1 ty65 (At.bx 14 rfl) (get_l (ZT ..)) ?_
 obtain ⟨a66, cap66, hv66⟩ := hok28.sl
 rw [(rfl : List.length [_] = 1)] at hv66
 refine Dn (fun _ => Pu.lenSl Tryz.runUnderlying65 hv66) <| Dq (.bool true) (fun _ => show Pu _ _ _ (.bool (decide ((1 : Int) = 1))) from Pu.eql rfl rfl) <| Dq (.bool true) (fun _ => Pu.pickT rfl rfl) <| DM (fun _ => rfl) <| Dq (pp b29 35) (fun _ => fa68_4 rfl rfl) <| Dl1 ty65 (At.bx 14 rfl) (get_l (ZT ..)) ?_
 obtain ⟨b67, cap67, row67, hv67, hm67, hs67⟩ := hok28.at' (j := 0) rfl
 refine Dq (pp b67 (0 + 0 * 37)) (fun _ => Pu.idx 0 Tryz.runUnderlying65 ty68 hv67 rfl (by first | rfl | omega) (by simp)) <| Dq (pp b67 (0 + 0 * 37 + 34)) (fun _ => fa68_3 rfl rfl) <| Dl1 ty64 (At.k 16 rfl hm67) (sub_get hs67 (get_l (Z4 ..))) <| Dr rfl (fun _ => Zp (vs := [.string (ltr 2)]) [[.string (ltr 2)]] Tryz.runUnderlying64 el9 rfl rfl (by intro e he; simp only [List.mem_cons, List.not_mem_nil, or_false] at he; subst he; exact rfl) rfl (by decide) fun b k h1 h2 => ⟨[k], by rw [ZN rfl]; exact Sub.refl, b, k, rfl, rfl, h1, h2⟩) (fun _ _ ⟨b68, k68, e1, e2, ho68, hk68⟩ => ?_); subst e1 e2
 refine Dc rfl Tryz.call33 (fun _ => rfl) (fun hin => bool_r (r := true) (equalS_ct _ _ _ _ _ (Xz hom28 (by simp) (hin 18 _ rfl)) (Xz (l := [ltr 2]) ho68 (by simp) (hin 0 _ rfl))) (eqL_true rfl)) ?_
 rintro _ _ ⟨rfl, rfl⟩
 refine Dq (.bool true) (fun _ => Pu.pickT rfl rfl) <| DM (fun _ => rfl) <| Dq (.agg ⟨sC zS⟩) (fun _ => Pu.build (pv := []) (l := sC zS) rfl bld26_) ?_
 refine Dc rfl Tryz.call29 (fun _ => rfl) (fun hin => nu_ct _ _ (by unfold inI; omega)) ?_
 rintro _ _ ⟨cs69, k69, rfl, rfl, hO69⟩
 refine Dc rfl Tryz.call26 (fun _ => rfl) (fun hin => va_ct _ _ (by unfold inI; omega)) ?_
 rintro _ _ ⟨cs70, k70, rfl, rfl, hO70⟩
 refine Dr rfl (fun _ => Zp (vs := [.agg ⟨cs69⟩, .agg ⟨cs70⟩]) [cs69, cs70] Tryz.runUnderlying27 el30 rfl rfl (by intro e he; simp only [List.mem_cons, List.not_mem_nil, or_false] at he; rcases he with rfl | rfl <;> first | exact hO69.len | exact hO70.len) rfl (by decide) fun b k h1 h2 => ⟨[k], by rw [ZN rfl]; exact Sub.refl, b, k, rfl, rfl, h1, h2⟩) (fun _ _ ⟨b71, k71, e1, e2, ho71, hk71⟩ => ?_); subst e1 e2
 refine Dc rfl Tryz.call35 (fun _ => rfl) (fun hin => ha_ct _ _ _ _ _) ?_
 rintro _ _ ⟨rfl, rfl⟩
 refine Dc rfl Tryz.call34 (fun _ => rfl) (fun hin => int_r (r := 0) (check_ct (.mk 12 0 zS [eNu 1, eVa 0] []) 0 0 _ _ (RT_mk.2 ⟨_, _, rfl, (by unfold inI; omega), (by unfold inI; omega), (Own.rd2 ho71 (hin 0 _ rfl) (hO69.rd (hin 2 _ rfl)) (hO70.rd (hin 1 _ rfl))), Hs.rdS.nil⟩)) check_h2) ?_
 rintro _ _ ⟨rfl, rfl⟩
 refine Dq (.bool true) (fun _ => show Pu _ _ _ (.bool (decide ((0 : Int) = 0))) from Pu.eql rfl rfl) <| Dq (.bool true) (fun _ => Pu.pickT rfl rfl) <| DM (fun _ => rfl) <| Dq (.agg ⟨sC zS⟩) (fun _ => Pu.build (pv := []) (l := sC zS) rfl bld26_) ?_
 refine Dc rfl Tryz.call29 (fun _ => rfl) (fun hin => nu_ct _ _ (by unfold inI; omega)) ?_
 rintro _ _ ⟨cs72, k72, rfl, rfl, hO72⟩
 refine Dr rfl (fun _ => Zp (vs := [.agg ⟨cs72⟩]) [cs72] Tryz.runUnderlying27 el30 rfl rfl (by intro e he; simp only [List.mem_cons, List.not_mem_nil, or_false] at he; subst he; exact hO72.len) rfl (by decide) fun b k h1 h2 => ⟨[k], by rw [ZN rfl]; exact Sub.refl, b, k, rfl, rfl, h1, h2⟩) (fun _ _ ⟨b73, k73, e1, e2, ho73, hk73⟩ => ?_); subst e1 e2
 refine ZV (M' := [k73, k72, k71, k70, k69, k68, k65, k64, k63, k62, k61, k60, k59, k58, k57, k56, k55, k54, k53, k52, (BX b29 ((pkT nk28 nn28 nr28 ns28 nks28) ++ ([ncv28] : List Value)) 68), nk128, nk228, mk128, mk228, mk328, k27, k26, k25, k24, (BX b23 cs22 30), k22, k21, (BX b20 cs19 30), k19, (BX b18 cs17 30), k17, k16, (BX b12 cs11 30), k11, k10, k6, (BX b5 cs4 30), k4, k3, k2, k1]) rfl ?_
 show JL _ _ _ [_, _, _, _, _] _ _ _
 refine Jc Tryz.call35 rfl (fun hin => ha_ct _ _ _ _ _) rfl ?_
 rintro _ _ ⟨rfl, rfl⟩
 refine Jc Tryz.call34 rfl (fun hin => int_r (r := 2) (check_ct (.mk 12 0 zS [eNu 1] []) 0 0 _ _ (RT_mk.2 ⟨_, _, rfl, (by unfold inI; omega), (by unfold inI; omega), (Own.rd1 ho73 (hin 0 _ rfl) (hO72.rd (hin 1 _ rfl))), Hs.rdS.nil⟩)) check_h1) rfl ?_
 rintro _ _ ⟨rfl, rfl⟩
 refine JLq (.bool true) (show Pu _ _ _ (.bool (decide ((2 : Int) = 2))) from Pu.eql rfl rfl) <| JLq (.bool true) (Pu.pickT rfl rfl) <| JLA rfl <| Zb <| Zl <| ⟨.bool true, [], Ret.one rfl (RV.tmp rfl), Sub.nil, ?_⟩
 exact ⟨rfl, rfl⟩
end Go.Proofs.YtkjafeejpmcnkaaGreat.Hs
/-! Walks, printed by a program of this session's own (gen.py). -/
namespace Go.Proofs.YtkjafeejpmcnkaaGreat.Hs
open Go Go.Proofs
set_option maxRecDepth 100000
set_option linter.unusedVariables false
set_option linter.unusedSimpArgs false
attribute [local irreducible] JL J CT wlo DT
theorem told_ct (a b : Tm) (e w : Int) (cs ws : List Value) (k : Zi) (H : Heap) (hO : OT a cs k) (hb : RT H ws b) : CT Tryz.prog 9 ⟨[.agg ⟨cs⟩, .agg ⟨ws⟩, iv e, iv w]⟩ [k] H (fun v N => v = .bool (decide (e = w) && decide (a = b)) ∧ N = []) := by
 refine Zm Tryz.func9 rfl rfl <| Zc <| Za <| JLr (Zq (l := cs) rfl rfl fun b1 => JLr (Zq (l := ws) rfl rfl fun b2 => JLA rfl <| Zb <| Zc <| Za <| JLM rfl <| JLM rfl <| JLn (Pu.eql rfl rfl) <| JLM rfl ?_))
 cases h3 : (decide (e = w)) with
 | true =>
  replace h3 := dt h3
  refine JLr (Zh Zt rfl (At.bx 1 rfl) (Zs hO.len) <| JLr (Zh Zt rfl (At.bx 0 rfl) (Zs (Zu hb)) <| Jc Tryz.call23 rfl (fun hin => Xr _ _ _ _ _ (hO.rd (hin 2 _ rfl)) (RT.mono (Hle.hu _ _) hb)) rfl ?_))
  rintro _ _ ⟨rfl, rfl⟩
  refine JLq (.bool (decide (a = b))) (Pu.pickT rfl rfl) <| JLA rfl <| Zb <| Zc <| Za <| JLr (Zh Zt rfl (At.bx 1 rfl) (Zs hO.len) <| ZA 2 rfl Tryz.call38 rfl rfl (fun hin => spoil_ct _ _ _ _ hO) rfl ?_)
  rintro _ _ ⟨rfl, rfl⟩
  refine Zb <| Zc <| Za <| JLM rfl <| JLA rfl <| Zb <| Zl <| ⟨.bool (decide (a = b)), [], Ret.one rfl (RV.tmp rfl), Sub.nil, ?_⟩
  exact ⟨by simp_all, rfl⟩
 | false =>
  replace h3 := df h3
  iterate 3 refine ZD rfl ?_
  refine JLq (.bool false) (Pu.pickF rfl rfl) <| JLA rfl <| Zb <| Zc <| Za <| JLr (Zh Zt rfl (At.bx 1 rfl) (Zs hO.len) <| ZA 2 rfl Tryz.call38 rfl rfl (fun hin => spoil_ct _ _ _ _ hO) rfl ?_)
  rintro _ _ ⟨rfl, rfl⟩
  refine Zb <| Zc <| Za <| JLM rfl <| JLA rfl <| Zb <| Zl <| ⟨.bool false, [], Ret.one rfl (RV.tmp rfl), Sub.nil, ?_⟩
  exact ⟨by simp_all, rfl⟩
end Go.Proofs.YtkjafeejpmcnkaaGreat.Hs
/-! Bytes of arrays; what a call leaves alone. -/
namespace Go.Proofs.YtkjafeejpmcnkaaGreat.Hs
open Go Go.Proofs
set_option maxRecDepth 100000
/-- what else is owned stays as it is -/
theorem CT_fr {P : Program} {f : FuncId} {args : Array Value} {A K : Zi} {H : Heap} {post : Value → List Zi → Prop} (h : CT P f args [A] H post) : CT P f args [A ++ K] H (fun v N => ∃ N', post v N' ∧ N = [N'.flatten ++ K]) := fun F w m => by
  have m1 : Mem w ([A].flatten ++ (K ++ F)) H := m.perm (List.Perm.of_eq (by simp))
  refine (h (K ++ F) w m1).mono fun e w' ⟨v, M', he, hm, hp⟩ => ⟨v, [M'.flatten ++ K], he, ?_, M', hp, rfl⟩
  exact hm.perm (List.Perm.of_eq (by simp))
theorem CT_join {P : Program} {f : FuncId} {args : Array Value} {M : List Zi} {H : Heap} {post : Value → List Zi → Prop} (h : CT P f args M H post) : CT P f args M H (fun v N => ∃ N', post v N' ∧ N = [N'.flatten]) := fun F w m =>
  (h F w m).mono fun e w' ⟨v, M', he, hm, hp⟩ => ⟨v, [M'.flatten], he, hm.perm (List.Perm.of_eq (by simp)), M', hp, rfl⟩
theorem sC_set {r : Sm} {j : Nat} {x : Int} (hj : j < 32) (hx : 0 ≤ x ∧ x ≤ 255) : spl (sC r) (0 + j * 1) [.int .u8 x] = some (sC (r.setIfInBounds j (UInt8.ofNat x.toNat))) := by
  rw [spl_mk (by rw [sC_len]; simp; omega)]
  congr 1
  apply List.ext_getElem?
  intro i
  have e0 : 0 + j * 1 = j := by omega
  rw [e0]
  by_cases hi : i < 32
  · rw [sC_get _ i hi]
    by_cases hij : i < j
    · rw [List.getElem?_append_left (by rw [List.length_take, sC_len]; omega), List.getElem?_take, if_pos hij, sC_get _ i hi]
      rw [Vector.getElem_setIfInBounds_ne hi (by omega)]
    · rw [List.getElem?_append_right (by rw [List.length_take, sC_len]; omega), List.length_take, sC_len, Nat.min_eq_left (by omega)]
      by_cases he : i = j
      · subst he
        rw [Nat.sub_self]
        have e1 : (r.setIfInBounds i (UInt8.ofNat x.toNat))[i] = UInt8.ofNat x.toNat := by simp
        rw [e1]
        simp only [List.singleton_append, List.getElem?_cons_zero, Option.some.injEq, Value.int.injEq, true_and]
        rw [UInt8.toNat_ofNat']
        omega
      · obtain ⟨q, hq⟩ : ∃ q, i - j = q + 1 := ⟨i - j - 1, by omega⟩
        rw [hq]
        simp only [List.singleton_append, List.getElem?_cons_succ, List.length_cons, List.length_nil]
        rw [List.getElem?_drop, show j + (0 + 1) + q = i from by omega, sC_get _ i hi, Vector.getElem_setIfInBounds_ne hi (by omega)]
  · rw [List.getElem?_eq_none (by simp; rw [sC_len]; omega), List.getElem?_eq_none (by rw [sC_len]; omega)]
theorem dig_step {t : ByteArray} {l : List Int} (hls : l = sB t) {r : Sm} {j : Nat} (hj : j < 32) (hjl : j < l.length) (hr : ∀ (i : Nat) (hi : i < 32), i < j → r[i] = t.data.toList.getD i 0) :
    ∀ (i : Nat) (hi : i < 32), i < j + 1 → (r.setIfInBounds j (UInt8.ofNat (l[j]).toNat))[i] = t.data.toList.getD i 0 := by
  intro i hi h
  by_cases he : i = j
  · subst he
    have h2 : i < t.data.toList.length := by have : t.data.toList.length = t.size := rfl; rw [this, ← Y5, ← hls]; exact hjl
    have e1 : (r.setIfInBounds i (UInt8.ofNat (l[i]).toNat))[i] = UInt8.ofNat (l[i]).toNat := by simp
    rw [e1, List.getD_eq_getElem?_getD, List.getElem?_eq_getElem h2]
    subst hls
    simp [sB]
  · rw [Vector.getElem_setIfInBounds_ne hi (by omega)]
    exact hr i hi (by omega)
theorem dig_end {t : ByteArray} {r : Sm} (h : t.size = 32) (hr : ∀ (i : Nat) (hi : i < 32), i < 32 → r[i] = t.data.toList.getD i 0) : Y1 t = (r, true) := by
  unfold Y1
  rw [if_pos h]
  have e : smS t = r := by
    apply Vector.ext
    intro i hi
    rw [smS_get t i hi, hr i hi hi]
  rw [e]
section
variable {P : Program} {e : Operand → Value} {d : Option Nat} {T : TypeId} {ot : TypeId} {pos : String} {af : Array Edge} {g : Option (Nat × Bool)} {x y : Operand}
theorem Pu.sliceArr {n b : Nat} {elem : TypeId} (hT : ∀ w, (underlying T).run P w = .ok (.array n elem) w) (hsz : ∀ w, (sizeOf elem).run P w = .ok 1 w) (hx : e x = .pointer (some ⟨b, 0, none⟩)) : Pu P e ⟨d, .slice T x none none none, ot, pos, af, g⟩ (.slice (some ⟨b, 0, none⟩) n n) := fun w => by
  simp [execOp, Instr.sliceAt, Instr.sliceBounds, Instr.sureAddr, hx, hT, hsz, Result.andThen, Addr.add]
end
section
variable {c : Cx} {H : Heap} {ρ : Nat → Value} {M : List Zi} {K : Value → List Zi → Prop} {d : Option Nat} {ot : TypeId} {pos : String} {af : Array Edge} {g : Option (Nat × Bool)} {x y : Operand}
theorem Runs_copyStr {T T₂ el T' : TypeId} {b n i : Nat} {s : ByteArray} {old l : List Value} (hT : ∀ w, (underlying T).run c.P w = .ok (.slice el) w) (hsz : ∀ w, (sizeOf el).run c.P w = .ok 1 w)
    (hx : ev c.n ρ x = .slice (some ⟨b, 0, none⟩) n n) (hy : ev c.n ρ y = .string s) (hi : M[i]? = some [(b, .cells ⟨old⟩ T' (0, 0))]) (hn : s.size ≤ n) (hl : spl old 0 ((sB s).map (fun m => Value.int .u8 m)) = some l)
    (h : K (.int .i64 (s.size : Int)) (M.set i [(b, .cells ⟨l⟩ T' (0, 0))])) :
    Runs c H ⟨d, .call { callee := .builtin .copy, args := #[x, y], argTypes := #[T, T₂] }, ot, pos, af, g⟩ ρ M K := fun F w mm => by
  have hb : w.heap[b]? = some (.cells ⟨old⟩ T' (0, 0)) := (At.k (M := M) (H := H) i hi (by simp)).heap mm
  obtain ⟨hle, rfl⟩ := spl_some hl
  have hw := mm.write (l := old.take 0 ++ ((sB s).map (fun m => Value.int .u8 m) ++ old.drop (0 + ((sB s).map (fun m => Value.int .u8 m)).length))) (k₁ := []) (k₂ := []) hi rfl
  refine ⟨_, _, _, .inl ?_, hw, h⟩
  have hok : ∀ v ∈ (sB s).map (fun m => Value.int .u8 m), v.oneCell' = true := by
    intro v hv; obtain ⟨q, _, rfl⟩ := List.mem_map.1 hv; rfl
  have hst := run_storeCells_at c.P b 0 T' ((sB s).map (fun m => Value.int .u8 m)) 0 ⟨old⟩ w hb (by simpa using hle) hok
  have hlen : (Builtin.lenOf (.string s)).run c.P w = .ok s.size w := by simp [Builtin.lenOf]
  simp only [Nat.add_zero, Nat.zero_add, List.append_assoc] at hst
  simp only [execOp, resolve, invoke, builtin, Builtin.copy_]
  simp [hx, hy, hT, hlen, hsz, Result.andThen, Builtin.firstCells, Nat.min_eq_left hn, goInt]
  have e2 : List.take s.size (List.map (fun b => Value.int IntKind.u8 ↑b.toNat) s.data.toList) = (sB s).map (fun m => Value.int .u8 m) := by
    rw [List.take_of_length_le (by rw [List.length_map]; exact Nat.le_refl _)]
    unfold sB
    rw [List.map_map]
    rfl
  rw [e2, hst]
  simp
end
end Go.Proofs.YtkjafeejpmcnkaaGreat.Hs
/-! What the walks of FromItem use. -/
namespace Go.Proofs.YtkjafeejpmcnkaaGreat.Hs
open Go Go.Proofs
theorem wr30_inI (k : Int) : inI (Yr k) := by
  unfold Yr inI
  rw [show IntKind.i64.wrap (k - 30) = (k - 30 + 9223372036854775808) % 18446744073709551616 - 9223372036854775808 from by
    simp [IntKind.wrap, IntKind.bits, IntKind.signed]; split <;> omega]
  omega
section
variable {k m d n : Int} {t : ByteArray} {kids : List It} {w : Bool}
theorem ptG_far (h : (w || decide (600 < n + 1) || decide (62 < d)) = true) : ptG (.mk k m t kids) d (n, w) = (zPt, (n + 1, true)) := by
  rw [ptG, if_pos (by unfold farG; exact h)]
theorem ptG_near (h : (w || decide (600 < n + 1) || decide (62 < d)) = false) : ptG (.mk k m t kids) d (n, w) = (.mk (Yr k) m (Ys (decide (k = 33)) t) (Xp kids (d + 1) (n + 1, Yy (decide (k = 33)) t)).1, (Xp kids (d + 1) (n + 1, Yy (decide (k = 33)) t)).2) := by
  rw [ptG, if_neg (by unfold farG; simp only; rw [h]; decide)]
theorem tmG_far (h : (w || decide (600 < n + 1) || decide (62 < d)) = true) : tmG (.mk k m t kids) d (n, w) = (zT, (n + 1, true)) := by
  rw [tmG, if_pos (by unfold farG; exact h)]
theorem tmG_near (h : (w || decide (600 < n + 1) || decide (62 < d)) = false) : tmG (.mk k m t kids) d (n, w) = (.mk k m (Ys (ZF k) t) (Yx kids (d + 1) [] [] (n + 1, Yy (ZF k) t)).1.1 (Yx kids (d + 1) [] [] (n + 1, Yy (ZF k) t)).1.2, (Yx kids (d + 1) [] [] (n + 1, Yy (ZF k) t)).2) := by
  rw [tmG, if_neg (by unfold farG; simp only; rw [h]; decide)]
theorem fR_has (k : Int) : fR k = ZF k := by
  unfold fR ZF
  rw [Bool.eq_iff_iff]
  simp
  omega
end
theorem szIs_two {l : List It} (h : l.length = 2) : Z2 l = szI l[0] + szI l[1] := by
  match l, h with
  | [a, b], _ => rw [Z2, Z2, Z2]; rfl
end Go.Proofs.YtkjafeejpmcnkaaGreat.Hs
/-! What the walks of FromItem and Decode use. -/
namespace Go.Proofs.YtkjafeejpmcnkaaGreat.Hs
open Go Go.Proofs
theorem rp_sz (x : It) : sizeP (rpP x).1 ≤ szI x := by
  induction x using It.ind with
  | h k m t kids ih =>
    rw [rpP, sizeP, szI]
    have hK : ∀ (l : List It) (b : Bool), (∀ x ∈ l, sizeP (rpP x).1 ≤ szI x) → ZQ (Xu l b).1 ≤ Z2 l := by
      intro l
      induction l with
      | nil => intro b _; rw [Xu, ZQ, Z2]; omega
      | cons x l ihl =>
        intro b hl
        rw [Xu, Z2]
        split
        · rw [ZQ]
          have h1 := hl x (by simp)
          have h2 := ihl (rpP x).2 (fun y hy => hl y (by simp [hy]))
          omega
        · rw [ZQ]; omega
    have := hK kids (if Yr k = 3 then (Y1 t).2 else decide (t = ⟨#[]⟩)) ih
    omega
theorem sizeTs_app (a b : List Tm) : ZE (a ++ b) = ZE a + ZE b := by
  induction a with
  | nil => rw [ZE]; simp
  | cons x a ih => rw [List.cons_append, ZE, ZE, ih]; omega
theorem sizeCs_app (a b : List (Pt × Tm)) : ZL (a ++ b) = ZL a + ZL b := by
  induction a with
  | nil => rw [ZL]; simp
  | cons x a ih => obtain ⟨p, t⟩ := x; rw [List.cons_append, ZL, ZL, ih]; omega
theorem rt_sz (x : It) : sizeT (rtT x).1 ≤ szI x ∧ ∀ y ∈ x.kids, sizeT (rtT y).1 ≤ szI y := by
  induction x using It.ind with
  | h k m t kids ih =>
    refine ⟨?_, fun y hy => (ih y hy).1⟩
    rw [rtT, sizeT, szI]
    have hK : ∀ (nine : Bool) (l : List It) (late : Bool) (ks : List Tm) (cs : List (Pt × Tm)) (b : Bool), (∀ x ∈ l, sizeT (rtT x).1 ≤ szI x ∧ ∀ y ∈ x.kids, sizeT (rtT y).1 ≤ szI y) →
        ZE (YI nine late l ks cs b).1.1 + ZL (YI nine late l ks cs b).1.2 ≤ ZE ks + ZL cs + Z2 l := by
      intro nine l
      induction l with
      | nil => intro late ks cs b _; rw [YI, Z2]; simp
      | cons x l ihl =>
        intro late ks cs b hl
        rw [Z2]
        have hl' := fun y hy => hl y (List.mem_cons_of_mem x hy)
        have h1 := hl x (by simp)
        cases b with
        | false => rw [rtTs_no]; simp only; omega
        | true =>
          cases hn : (nine && late) with
          | false =>
            rw [rtTs_kid hn]
            have := ihl true (ks ++ [(rtT x).1]) cs (rtT x).2 hl'
            rw [sizeTs_app, ZE, ZE] at this
            omega
          | true =>
            by_cases hg : x.kind = 20 ∧ x.num = 0 ∧ x.text = ⟨#[]⟩ ∧ x.kids.length = 2
            · obtain ⟨g1, g2, g3, g4⟩ := hg
              rw [rtTs_case hn g1 g2 g3 g4]
              have := ihl true ks (cs ++ [((rpP x.kids[0]).1, (rtT x.kids[1]).1)]) ((rpP x.kids[0]).2 && (rtT x.kids[1]).2) hl'
              rw [sizeCs_app, ZL, ZL] at this
              have h2 := rp_sz x.kids[0]
              have h3 := h1.2 x.kids[1] (List.getElem_mem (by omega))
              have h4 := szIs_two g4
              have h5 : szI x = 1 + Z2 x.kids := by cases x; rw [szI]; rfl
              omega
            · rw [rtTs_bad hn hg]; simp only; omega
    have := hK (decide (k = 9)) kids false [] [] (if ZF k = true then (Y1 t).2 else decide (t = ⟨#[]⟩)) ih
    rw [ZE, ZL] at this
    omega
section
variable {x : It}
theorem fromP_w (h : (tmG x 1 (0, false)).2.2 = true) : fromP x = (zT, 4) := by unfold fromP; rw [if_pos (.inl h)]
theorem fromP_r (h : ¬ ZO [(tmG x 1 (0, false)).1] = 0) : fromP x = (zT, 4) := by unfold fromP; rw [if_pos (.inr (by rw [← rightT_one]; exact h))]
theorem fromP_ok (h : (tmG x 1 (0, false)).2.2 = false) (h1 : ZO [(tmG x 1 (0, false)).1] = 0) : fromP x = ((tmG x 1 (0, false)).1, 0) := by
  unfold fromP; rw [if_neg]; rintro (q | q)
  · rw [h] at q; cases q
  · rw [← rightT_one] at q; exact q h1
theorem fromR_l (h : 1000 < (exI 2000 x).1 ∨ 200 < (exI 2000 x).2) : fromR x = (zT, 4) := by unfold fromR; rw [if_pos h]
theorem fromR_w (h0 : ¬ (1000 < (exI 2000 x).1 ∨ 200 < (exI 2000 x).2)) (h : (rtT x).2 = false) : fromR x = (zT, 4) := by unfold fromR; rw [if_neg h0, if_pos (.inl (by rw [h]; decide))]
theorem fromR_r (h0 : ¬ (1000 < (exI 2000 x).1 ∨ 200 < (exI 2000 x).2)) (h : ¬ ZX 60 8 (rtT x).1 = 0) : fromR x = (zT, 4) := by unfold fromR; rw [if_neg h0, if_pos (.inr h)]
theorem fromR_ok (h0 : ¬ (1000 < (exI 2000 x).1 ∨ 200 < (exI 2000 x).2)) (h : (rtT x).2 = true) (h1 : ZX 60 8 (rtT x).1 = 0) : fromR x = ((rtT x).1, 0) := by
  unfold fromR; rw [if_neg h0, if_neg]; rintro (q | q)
  · exact q h
  · exact q h1
end
theorem exI_lv (x : It) : ∀ m : Int, (exI m x).2 ≤ (exI m x).1 := by
  induction x using It.ind with
  | h k n t kids ih =>
    intro m
    rw [exI]
    have hK : ∀ (l : List It) (n d : Int), (∀ x ∈ l, ∀ m : Int, (exI m x).2 ≤ (exI m x).1) → 1 ≤ n → d < n → (exIs m l n d).2 < (exIs m l n d).1 := by
      intro l
      induction l with
      | nil => intro n d _ _ hd; rw [exIs]; exact hd
      | cons x l ihl =>
        intro n d hl hn hd
        rw [exIs]
        have h1 := hl x (by simp) (m - 1)
        have h2 := exI_le x (m - 1)
        split
        · exact ihl _ _ (fun y hy => hl y (by simp [hy])) (by omega) (by omega)
        · exact hd
    have := hK kids 1 0 ih (by omega) (by omega)
    simp only
    omega
theorem rp_exit {kids : List It} {j : Nat} {b : Bool} (h : ((decide ((j : Int) < (kids.length : Int))) && b) = false) : Xu (kids.drop j) b = ([], b) := by
  cases b with
  | false =>
    cases hd : kids.drop j with
    | nil => rw [Xu]
    | cons x l => rw [Xu, if_neg (by decide)]
  | true =>
    have : ¬ (j : Int) < (kids.length : Int) := by simpa using h
    rw [YL (by omega), Xu]
theorem rp_step {kids : List It} {j : Nat} (hj : j < kids.length) : Xu (kids.drop j) true = ((rpP kids[j]).1 :: (Xu (kids.drop (j + 1)) (rpP kids[j]).2).1, (Xu (kids.drop (j + 1)) (rpP kids[j]).2).2) := by rw [ZW hj, Xu, if_pos rfl]
theorem rt_exit {nine late : Bool} {kids : List It} {j : Nat} {b : Bool} {ks : List Tm} {cs : List (Pt × Tm)} (h : ((decide ((j : Int) < (kids.length : Int))) && b) = false) : YI nine late (kids.drop j) ks cs b = ((ks, cs), b) := by
  cases b with
  | false => exact rtTs_no
  | true =>
    have : ¬ (j : Int) < (kids.length : Int) := by simpa using h
    rw [YL (by omega), YI]
theorem late_ne {nine : Bool} {j : Nat} (h : (nine && decide ((0 : Int) < (j : Int))) = false) : (nine && decide (0 < j)) = false := by
  rw [← h]; congr 1; apply decide_eq_decide.2; omega
theorem late_eq {nine : Bool} {j : Nat} (h : (nine && decide ((0 : Int) < (j : Int))) = true) : (nine && decide (0 < j)) = true := by
  rw [← h]; congr 1; apply decide_eq_decide.2; omega
theorem late_s (j : Nat) : decide (0 < j + 1) = true := by simp
end Go.Proofs.YtkjafeejpmcnkaaGreat.Hs
/-! Items written as bytes; items of right terms. -/
namespace Go.Proofs.YtkjafeejpmcnkaaGreat.Hs
open Go Go.Proofs
/-- a number as bytes -/
def Yo (n : Nat) : List Int := if n < 128 then [(n : Int)] else ((n % 128 + 128 : Nat) : Int) :: Yo (n / 128)
theorem numE_lt {n : Nat} (h : n < 128) : Yo n = [(n : Int)] := by rw [Yo, if_pos h]
theorem numE_ge {n : Nat} (h : ¬ n < 128) : Yo n = ((n % 128 + 128 : Nat) : Int) :: Yo (n / 128) := by rw [Yo, if_neg h]
theorem numE_len (k : Nat) : ∀ n : Nat, n < 128 ^ (k + 1) → 1 ≤ (Yo n).length ∧ (Yo n).length ≤ k + 1 := by
  induction k with
  | zero => intro n h; rw [numE_lt (by simpa using h)]; simp
  | succ k ih =>
    intro n h
    by_cases hn : n < 128
    · rw [numE_lt hn]; simp
    · rw [numE_ge hn, List.length_cons]
      have h2 : n / 128 < 128 ^ (k + 1) := by
        rw [Nat.pow_succ] at h
        exact Nat.div_lt_of_lt_mul (by rw [Nat.mul_comm]; exact h)
      have := ih (n / 128) h2
      omega
theorem numE_6 {n : Nat} (h : n ≤ 1099511627776) : 1 ≤ (Yo n).length ∧ (Yo n).length ≤ 6 := numE_len 5 n (by omega)
def txE (t : ByteArray) : List Int := if t = ⟨#[]⟩ then [] else Yo t.size ++ sB t
def hdE (k : Int) (t : ByteArray) (m : Nat) : Int := k + (if t = ⟨#[]⟩ then 0 else 64) + (if m = 0 then 0 else 128)
mutual
/-- an item as bytes -/
def Xe : It → List Int
  | .mk k n t kids => hdE k t kids.length :: (Yo n.toNat ++ (txE t ++ (if kids.length = 0 then [] else Yo kids.length ++ Yq kids)))
def Yq : List It → List Int
  | [] => []
  | x :: l => Xe x ++ Yq l
end
theorem encIs_snoc {l : List It} {j : Nat} (h : j < l.length) : Yq (l.take (j + 1)) = Yq (l.take j) ++ Xe l[j] := by
  induction l generalizing j with
  | nil => simp at h
  | cons x l ih =>
    cases j with
    | zero => simp [Yq]
    | succ j =>
      rw [List.take_succ_cons, List.take_succ_cons, Yq, Yq, ih (by simpa using h), List.append_assoc]
      rfl
theorem encIs_take (l : List It) (j : Nat) : (Yq (l.take j)).length ≤ (Yq l).length := by
  induction l generalizing j with
  | nil => simp [Yq]
  | cons x l ih =>
    cases j with
    | zero => simp [Yq]
    | succ j => rw [List.take_succ_cons, Yq, Yq, List.length_append, List.length_append]; have := ih j; omega
theorem encIs_take1 {l : List It} {j : Nat} (h : j < l.length) : (Yq (l.take j)).length + (Xe l[j]).length ≤ (Yq l).length := by
  have h1 := encIs_take l (j + 1)
  rw [encIs_snoc h, List.length_append] at h1
  exact h1
mutual
/-- an item whose fields are as they may be -/
def gdI : It → Prop
  | .mk k n t kids => (1 ≤ k ∧ k ≤ 63) ∧ (0 ≤ n ∧ n ≤ 1099511627776) ∧ t.size ≤ 32 ∧ YQ kids
def YQ : List It → Prop
  | [] => True
  | x :: l => gdI x ∧ YQ l
end
theorem gdIs_mem {l : List It} (h : YQ l) : ∀ x ∈ l, gdI x := by
  induction l with
  | nil => intro x hx; cases hx
  | cons y l ih =>
    rw [YQ] at h
    intro x hx
    rcases List.mem_cons.1 hx with rfl | hx
    · exact h.1
    · exact ih h.2 x hx
theorem gdIs_app {a b : List It} (ha : YQ a) (hb : YQ b) : YQ (a ++ b) := by
  induction a with
  | nil => exact hb
  | cons x a ih => rw [YQ] at ha; rw [List.cons_append, YQ]; exact ⟨ha.1, ih ha.2⟩
theorem txE_len {t : ByteArray} (h : t.size ≤ 32) : (txE t).length ≤ 38 := by
  unfold txE
  split
  · simp
  · rw [List.length_append, Y5]; have := numE_6 (n := t.size) (by omega); omega
theorem enc_len (x : It) : gdI x → szI x ≤ 1000000 → 2 ≤ (Xe x).length ∧ (Xe x).length ≤ 51 * szI x := by
  induction x using It.ind with
  | h k n t kids ih =>
    intro h hz
    rw [gdI] at h
    rw [Xe, szI]
    rw [szI] at hz
    have hK : ∀ l : List It, (∀ x ∈ l, gdI x → szI x ≤ 1000000 → 2 ≤ (Xe x).length ∧ (Xe x).length ≤ 51 * szI x) → YQ l → Z2 l ≤ 1000000 → (Yq l).length ≤ 51 * Z2 l := by
      intro l
      induction l with
      | nil => intro _ _ _; rw [Yq]; simp
      | cons x l ihl =>
        intro hl hg hz
        rw [YQ] at hg
        rw [Z2] at hz ⊢
        rw [Yq, List.length_append]
        have h1 := hl x (by simp) hg.1 (by omega)
        have h2 := ihl (fun y hy => hl y (by simp [hy])) hg.2 (by omega)
        omega
    have h1 := hK kids ih h.2.2.2 (by omega)
    have h2 := numE_6 (n := n.toNat) (by omega)
    have h3 := txE_len h.2.2.1
    have h5 := Y2 kids
    rw [List.length_cons, List.length_append, List.length_append]
    split
    · simp; omega
    · have h4 := numE_6 (n := kids.length) (by omega)
      rw [List.length_append]; omega
theorem encI_pos (x : It) : 1 ≤ (Xe x).length := by cases x; rw [Xe]; simp
theorem encIs_lenk {l : List It} (_ : YQ l) : l.length ≤ (Yq l).length := by
  induction l with
  | nil => simp
  | cons x l ih =>
    rename_i h
    rw [YQ] at h
    rw [Yq, List.length_append, List.length_cons]
    have := encI_pos x
    have := ih h.2
    omega
/-! the items of right terms -/
theorem txP_size (b : Prop) [Decidable b] (r : Sm) : (if b then txS r else (⟨#[]⟩ : ByteArray)).size ≤ 32 := by
  split
  · rw [txS_size]; omega
  · exact Nat.zero_le _
theorem pt_gd (p : Pt) : YY p = 0 → gdI (itP p) := by
  induction p using Pt.ind with
  | h k n r kids ih =>
    intro h
    rw [YY] at h
    split at h
    · rename_i hh
      have hK : ∀ (l : List Pt), (∀ x ∈ l, YY x = 0 → gdI (itP x)) → Xy l = 0 → YQ (YW l) := by
        intro l
        induction l with
        | nil => intro _ _; rw [YW, YQ]; trivial
        | cons x l ihl =>
          intro hl h
          rw [Xy] at h
          split at h
          · rename_i hx
            rw [YW, YQ]
            exact ⟨hl x (by simp) hx, ihl (fun y hy => hl y (by simp [hy])) h⟩
          · rename_i hx; exact absurd h hx
      rw [itP, gdI]
      unfold pHead at hh
      split at hh
      · cases hh
      · split at hh
        · cases hh
        · split at hh
          · cases hh
          · split at hh
            · cases hh
            · rename_i q1 q2 q3 q4
              refine ⟨by omega, by omega, txP_size _ r, hK kids ih h⟩
    · rename_i hh; exact absurd h hh
theorem tm_gd {D M : Int} (hM : M ≤ 1000000) (t : Tm) : ∀ b : Int, YP D M b t = 0 → vOK t → gdI (itT t) := by
  induction t using Tm.ind with
  | h k n r kids cases ih ih' =>
    intro b h hv
    obtain ⟨h1, h2, h3, h4⟩ := nErr_iff.1 h
    rw [vOK] at hv
    obtain ⟨v1, v2, v3⟩ := hv
    have hK : ∀ (l : List Tm) (i : Nat), (∀ x ∈ l, ∀ b : Int, YP D M b x = 0 → vOK x → gdI (itT x)) → Xf D M b k i l = 0 → vOKs l → YQ (Ym l) := by
      intro l
      induction l with
      | nil => intro i _ _ _; rw [Ym, YQ]; trivial
      | cons x l ihl =>
        intro i hl h hv
        rw [Xf] at h
        rw [vOKs] at hv
        split at h
        · rename_i hx
          rw [Ym, YQ]
          exact ⟨hl x (by simp) _ hx hv.1, ihl (i + 1) (fun y hy => hl y (by simp [hy])) h hv.2⟩
        · rename_i hx; exact absurd h hx
    have hC : ∀ (l : List (Pt × Tm)), (∀ c ∈ l, ∀ b : Int, YP D M b c.2 = 0 → vOK c.2 → gdI (itT c.2)) → Y6 l = 0 → Xs D M b l = 0 → vOKc l → YQ (Yp l) := by
      intro l
      induction l with
      | nil => intro _ _ _ _; rw [Yp, YQ]; trivial
      | cons c l ihl =>
        intro hl hp h hv
        obtain ⟨p, x⟩ := c
        rw [Xs] at h
        rw [Y6] at hp
        rw [vOKc] at hv
        split at hp
        · rename_i hpx
          split at h
          · rename_i hx
            rw [Yp, YQ, gdI, YQ, YQ, YQ]
            refine ⟨⟨by omega, by omega, by decide, pt_gd p hpx, hl (p, x) (by simp) _ hx hv.1, trivial⟩, ihl (fun y hy => hl y (by simp [hy])) hp h hv.2⟩
          · rename_i hx; exact absurd h hx
        · rename_i hpx; exact absurd hp hpx
    rw [itT, gdI]
    unfold Y7 at h1
    split at h1
    · cases h1
    · split at h1
      · cases h1
      · split at h1
        · cases h1
        · split at h1
          · cases h1
          · split at h1
            · cases h1
            · rename_i q1 q2 q3 q4 q5
              have hn : 0 ≤ n ∧ n ≤ 1099511627776 := by
                by_cases hb : Xd k = true
                · have hk : k = 1 ∨ k = 2 ∨ k = 7 ∨ k = 8 ∨ k = 10 ∨ k = 11 := by
                    unfold Xd at hb; simp at hb; omega
                  rcases hk with rfl | rfl | rfl | rfl | rfl | rfl
                  · have := v1 rfl; omega
                  · omega
                  · omega
                  · omega
                  · omega
                  · omega
                · have : n = 0 := Classical.byContradiction fun z => q2 (.inl (.inl ⟨by simpa using hb, z⟩))
                  omega
              refine ⟨by omega, hn, txP_size _ r, gdIs_app (hK kids 0 ih h3 v2) (hC cases ih' h2 h4 v3)⟩
theorem right_gd {t : Tm} (h : ZX 60 8 t = 0) : gdI (itT t) ∧ szI (itT t) ≤ 600 ∧ dpI (itT t) ≤ 120 ∧ (Xe (itT t)).length ≤ 31000 := by
  obtain ⟨h1, h2⟩ := checkR_iff.1 h
  have h3 : ¬ (300 < sizeT t ∨ 60 < depT t) := fun z => by rw [(longB_eq t).2 z] at h1; cases h1
  have h4 := szT_it t
  have h5 := tm_gd (by omega) t 0 h2 (checkR_ok h).2.1
  have h6 := enc_len _ h5 (by omega)
  exact ⟨h5, by omega, by omega, by omega⟩
end Go.Proofs.YtkjafeejpmcnkaaGreat.Hs
/-! Strings of bytes that are owned. -/
namespace Go.Proofs.YtkjafeejpmcnkaaGreat.Hs
open Go Go.Proofs
set_option maxRecDepth 100000
theorem bstr_of (s : ByteArray) : bstr (sB s) = s := by
  unfold bstr sB
  rw [List.map_map]
  apply ByteArray.ext
  apply Array.ext'
  simp only
  have : ((fun n : Int => UInt8.ofNat n.toNat) ∘ fun b : UInt8 => (b.toNat : Int)) = id := by funext b; simp
  rw [this]
  simp
theorem byts_snoc {l : List Int} {j : Nat} (h : j < l.length) : Yd (l.take j) ++ [[.int .u8 l[j]]] = Yd (l.take (j + 1)) := by
  unfold Yd
  rw [List.take_succ_eq_append_getElem h, List.map_append]
  rfl
theorem byts_app (a b : List Int) : Yd (a ++ b) = Yd a ++ Yd b := by unfold Yd; rw [List.map_append]
theorem byts_one (a : List Int) (x : Int) : Yd a ++ [[.int .u8 x]] = Yd (a ++ [x]) := by unfold Yd; rw [List.map_append]; rfl
theorem sC_getB {r : Sm} {l : List Int} (hl : l = sB (txS r)) {j : Nat} (h : j < l.length) : (sC r)[0 + j * 1]? = some (.int .u8 l[j]) := by
  subst hl
  rw [Y5, txS_size] at h
  rw [show 0 + j * 1 = j from by omega, sC_get r j h]
  have : (sB (txS r))[j]'(by rw [Y5, txS_size]; exact h) = ((r[j]).toNat : Int) := by simp [sB, txS]
  rw [this]
/-- what is owned as a heap -/
theorem hasK {M : List Zi} {F : Zi} {H : Heap} {w : World} (mm : Mem w (M.flatten ++ F) H) {i : Nat} {k : Zi} (hi : M[i]? = some k) : Has k (hu M.flatten H) := fun b o hb => by
  have hmem : (b, o) ∈ M.flatten := List.mem_flatten.2 ⟨k, List.mem_of_getElem? hi, hb⟩
  rw [Xn, mm.left.sep b o hmem]; exact Xm mm.left.nd hmem
section
variable {c : Cx} {H : Heap} {ρ : Nat → Value} {M : List Zi} {K : Value → List Zi → Prop} {d : Option Nat} {ot : TypeId} {pos : String} {af : Array Edge} {g : Option (Nat × Bool)} {x y z : Operand}
theorem Runs_toStrO {T T' el E : TypeId} {v : Value} {l : List Int} {k : Zi} (i : Nat) (hi : M[i]? = some k) (ho : Own E 1 v (Yd l) k) (hn : l.length ≤ 9223372036854775807) (hT : ∀ w, (underlying T).run c.P w = .ok (.slice el) w) (hel : ∀ w, (underlying el).run c.P w = .ok (.int .u8) w) (hT' : ∀ w, (underlying T').run c.P w = .ok .string w) (hx : ev c.n ρ x = v)
    (h : K (.string (bstr l)) M) : Runs c H ⟨d, .convert T T' x, ot, pos, af, g⟩ ρ M K := fun F w mm => by
  refine ⟨_, w, M, .inl ?_, mm, h⟩
  simp only [execOp, hx]
  simp [run_toStr mm.hu (own_byts ho hn (hasK mm hi)) hT hel hT']
theorem Runs_toStrB {T T' el E : TypeId} {r : Sm} {b : Nat} (i : Nat) (hi : M[i]? = some [(b, .cells ⟨sC r⟩ E (0, 0))]) (hT : ∀ w, (underlying T).run c.P w = .ok (.slice el) w) (hel : ∀ w, (underlying el).run c.P w = .ok (.int .u8) w) (hT' : ∀ w, (underlying T').run c.P w = .ok .string w) (hx : ev c.n ρ x = .slice (some ⟨b, 0, none⟩) 32 32)
    (h : K (.string (txS r)) M) : Runs c H ⟨d, .convert T T' x, ot, pos, af, g⟩ ρ M K := fun F w mm => by
  refine ⟨_, w, M, .inl ?_, mm, h⟩
  have hb : hu M.flatten H b = some (.cells ⟨sC r⟩ E (0, 0)) := hasK mm hi b _ (by simp)
  have hlen : (sB (txS r)).length = 32 := by rw [Y5, txS_size]
  have hr : Hs.rdS RB 1 (hu M.flatten H) (.slice (some ⟨b, 0, none⟩) 32 32) (sB (txS r)) := by
    refine ⟨some ⟨b, 0, none⟩, 32, by rw [hlen], by rw [hlen]; omega, .inr ⟨b, 0, sC r, E, (0, 0), rfl, hb, rows.mk fun i hi => ⟨[.int .u8 (sB (txS r))[i]], ?_, rfl⟩⟩⟩
    have h1 := sC_getB (r := r) rfl hi
    obtain ⟨h2, h3⟩ := List.getElem?_eq_some_iff.1 h1
    rw [sub_mk (by omega)]
    congr 1
    rw [List.drop_eq_getElem_cons h2, List.take_succ_cons, List.take_zero, h3]
  have := run_toStr mm.hu hr hT hel hT'
  rw [bstr_of] at this
  simp only [execOp, hx]
  simp [this]
end
end Go.Proofs.YtkjafeejpmcnkaaGreat.Hs
/-! Items that are made of terms. -/
namespace Go.Proofs.YtkjafeejpmcnkaaGreat.Hs
open Go Go.Proofs
set_option maxRecDepth 100000
theorem bld39_0_1 (k n : Int) : ∀ w, (Instr.build 39 ⟨[(0, .int .i64 k), (1, .int .i64 n)]⟩).run Tryz.prog w = .ok (.agg ⟨[.int .i64 k, .int .i64 n, .string ⟨#[]⟩, .slice none 0 0]⟩) w := ZY Tryz.zeroValue39 Tryz.runUnderlying39 pl39 (by kernel_rfl)
theorem bld39_0_1_2 (k n : Int) (t : ByteArray) : ∀ w, (Instr.build 39 ⟨[(0, .int .i64 k), (1, .int .i64 n), (2, .string t)]⟩).run Tryz.prog w = .ok (.agg ⟨[.int .i64 k, .int .i64 n, .string t, .slice none 0 0]⟩) w := ZY Tryz.zeroValue39 Tryz.runUnderlying39 pl39 (by kernel_rfl)
theorem bld39_0_3 (k : Int) (a : Option Addr) (n c : Nat) : ∀ w, (Instr.build 39 ⟨[(0, .int .i64 k), (3, .slice a n c)]⟩).run Tryz.prog w = .ok (.agg ⟨[.int .i64 k, .int .i64 0, .string ⟨#[]⟩, .slice a n c]⟩) w := ZY Tryz.zeroValue39 Tryz.runUnderlying39 pl39 (by kernel_rfl)
theorem itPs_snoc {l : List Pt} {j : Nat} (h : j < l.length) : YW (l.take (j + 1)) = YW (l.take j) ++ [itP l[j]] := by
  induction l generalizing j with
  | nil => simp at h
  | cons x l ih =>
    cases j with
    | zero => simp [YW]
    | succ j => rw [List.take_succ_cons, List.take_succ_cons, YW, YW, ih (by simpa using h)]; rfl
theorem itTs_snoc {l : List Tm} {j : Nat} (h : j < l.length) : Ym (l.take (j + 1)) = Ym (l.take j) ++ [itT l[j]] := by
  induction l generalizing j with
  | nil => simp at h
  | cons x l ih =>
    cases j with
    | zero => simp [Ym]
    | succ j => rw [List.take_succ_cons, List.take_succ_cons, Ym, Ym, ih (by simpa using h)]; rfl
theorem itCs_snoc {l : List (Pt × Tm)} {j : Nat} (h : j < l.length) : Yp (l.take (j + 1)) = Yp (l.take j) ++ [.mk 20 0 ⟨#[]⟩ [itP l[j].1, itT l[j].2]] := by
  induction l generalizing j with
  | nil => simp at h
  | cons x l ih =>
    obtain ⟨p, t⟩ := x
    cases j with
    | zero => simp [Yp]
    | succ j => rw [List.take_succ_cons, List.take_succ_cons, Yp, Yp, ih (by simpa using h)]; rfl
theorem itPs_len (l : List Pt) : (YW l).length = l.length := by
  induction l with
  | nil => rw [YW]; rfl
  | cons x l ih => rw [YW, List.length_cons, ih, List.length_cons]
theorem itTs_len (l : List Tm) : (Ym l).length = l.length := by
  induction l with
  | nil => rw [Ym]; rfl
  | cons x l ih => rw [Ym, List.length_cons, ih, List.length_cons]
theorem itCs_len (l : List (Pt × Tm)) : (Yp l).length = l.length := by
  induction l with
  | nil => rw [Yp]; rfl
  | cons x l ih => obtain ⟨p, t⟩ := x; rw [Yp, List.length_cons, ih, List.length_cons]
theorem itPs_mem {l : List Pt} (h : YQ (YW l)) {j : Nat} (hj : j < l.length) : gdI (itP l[j]) := by
  induction l generalizing j with
  | nil => simp at hj
  | cons x l ih =>
    rw [YW, YQ] at h
    cases j with
    | zero => exact h.1
    | succ j => exact ih h.2 (by simpa using hj)
theorem gdIs_left {a b : List It} (h : YQ (a ++ b)) : YQ a ∧ YQ b := by
  induction a with
  | nil => exact ⟨by rw [YQ]; trivial, h⟩
  | cons x a ih => rw [List.cons_append, YQ] at h; rw [YQ]; have := ih h.2; exact ⟨⟨h.1, this.1⟩, this.2⟩
theorem itTs_mem {l : List Tm} (h : YQ (Ym l)) {j : Nat} (hj : j < l.length) : gdI (itT l[j]) := by
  induction l generalizing j with
  | nil => simp at hj
  | cons x l ih =>
    rw [Ym, YQ] at h
    cases j with
    | zero => exact h.1
    | succ j => exact ih h.2 (by simpa using hj)
theorem itCs_mem {l : List (Pt × Tm)} (h : YQ (Yp l)) {j : Nat} (hj : j < l.length) : gdI (itP l[j].1) ∧ gdI (itT l[j].2) := by
  induction l generalizing j with
  | nil => simp at hj
  | cons x l ih =>
    obtain ⟨p, t⟩ := x
    rw [Yp, YQ, gdI, YQ, YQ] at h
    cases j with
    | zero => exact ⟨h.1.2.2.2.1, h.1.2.2.2.2.1⟩
    | succ j => exact ih h.2 (by simpa using hj)
theorem OIt_case {a b : It} {v : Value} {c1 c2 : List Value} {kr k1 k2 : Zi} (ho : Own 39 4 v [c1, c2] kr) (h1 : OIt a c1 k1) (h2 : OIt b c2 k2) : OIt (.mk 20 0 ⟨#[]⟩ [a, b]) (pkI 20 0 ⟨#[]⟩ v) (kr ++ (k1 ++ k2)) := by
  refine OIt_mk.2 ⟨v, [c1, c2], kr, k1 ++ k2, rfl, by unfold inI; omega, by unfold inI; omega, ho, ?_, rfl, by simp⟩
  have := OIts.snoc h2 (OIts.snoc h1 OIts.nil)
  simpa using this
theorem dpIs_mem {l : List It} : ∀ {x : It}, x ∈ l → dpI x ≤ dpIs l := by
  induction l with
  | nil => intro x hx; cases hx
  | cons y l ih =>
    intro x hx
    rw [dpIs]
    rcases List.mem_cons.1 hx with rfl | hx
    · omega
    · have := ih hx; omega
theorem Own.rdI1 {T : TypeId} {v : Value} {e : List Value} {k : Zi} {h : Heap} {x : It} (o : Own T 4 v [e] k) (hk : Has k h) (hx : RIt h e x) : Hs.rdS RIt 4 h v [x] :=
  o.rdS rfl (by simp) hk fun i h1 _ => by
    have : i = 0 := by simpa using h1
    subst this; exact hx
theorem tx_cond (b : Bool) (s : ByteArray) : cond b s (⟨#[]⟩ : ByteArray) = if b = true then s else ⟨#[]⟩ := by cases b <;> rfl
theorem tx_dec (p : Prop) [Decidable p] (s : ByteArray) : cond (decide p) s (⟨#[]⟩ : ByteArray) = if p then s else ⟨#[]⟩ := by by_cases h : p <;> simp [h]
end Go.Proofs.YtkjafeejpmcnkaaGreat.Hs
/-! Both answers are the same for every item of numbers of 64 bits: what is right has kinds from which 30 can be taken. -/
namespace Go.Proofs.YtkjafeejpmcnkaaGreat.Hs
open Go Go.Proofs
mutual
def kdI : It → Prop
  | .mk k _ _ kids => inI k ∧ kdIs kids
def kdIs : List It → Prop
  | [] => True
  | x :: l => kdI x ∧ kdIs l
end
theorem kdIs_of {l : List It} (h : ∀ x ∈ l, kdI x) : kdIs l := by
  induction l with
  | nil => rw [kdIs]; trivial
  | cons x l ih => rw [kdIs]; exact ⟨h x (by simp), ih fun y hy => h y (by simp [hy])⟩
theorem kdIs_mem {l : List It} (h : kdIs l) : ∀ x ∈ l, kdI x := by
  induction l with
  | nil => intro x hx; cases hx
  | cons y l ih =>
    rw [kdIs] at h
    intro x hx
    rcases List.mem_cons.1 hx with rfl | hx
    · exact h.1
    · exact ih h.2 x hx
theorem RIt_kd {h : Heap} {x : It} : ∀ {cs : List Value}, RIt h cs x → kdI x := by
  induction x using It.ind with
  | h k m t kids ih =>
    intro cs r
    obtain ⟨ks, rfl, hk, _, hks⟩ := RIt_mk.1 r
    rw [kdI]
    refine ⟨hk, kdIs_of fun y hy => ?_⟩
    obtain ⟨i, hi, rfl⟩ := List.getElem_of_mem hy
    obtain ⟨b, o, cap, row, T, fr, cs, _, _, _, q⟩ := hks.get i hi
    exact ih _ hy q
mutual
def smP : Pt → Prop
  | .mk k _ _ kids => (-1000 ≤ k ∧ k ≤ 1000) ∧ smPs kids
def smPs : List Pt → Prop
  | [] => True
  | p :: l => smP p ∧ smPs l
end
mutual
def smT : Tm → Prop
  | .mk k _ _ kids cases => (-1000 ≤ k ∧ k ≤ 1000) ∧ smTs kids ∧ smCs cases
def smTs : List Tm → Prop
  | [] => True
  | t :: l => smT t ∧ smTs l
def smCs : List (Pt × Tm) → Prop
  | [] => True
  | (p, t) :: l => (smP p ∧ smT t) ∧ smCs l
end
theorem smTs_app {a b : List Tm} : smTs (a ++ b) ↔ smTs a ∧ smTs b := by
  induction a with
  | nil => rw [smTs]; simp
  | cons x a ih => rw [List.cons_append, smTs, smTs, ih, and_assoc]
theorem smCs_app {a b : List (Pt × Tm)} : smCs (a ++ b) ↔ smCs a ∧ smCs b := by
  induction a with
  | nil => rw [smCs]; simp
  | cons x a ih => obtain ⟨p, t⟩ := x; rw [List.cons_append, smCs, smCs, ih]; exact and_assoc.symm
theorem pt_sm (p : Pt) : YY p = 0 → smP p := by
  induction p using Pt.ind with
  | h k n r kids ih =>
    intro h
    rw [YY] at h
    split at h
    · rename_i hh
      have hK : ∀ (l : List Pt), (∀ x ∈ l, YY x = 0 → smP x) → Xy l = 0 → smPs l := by
        intro l
        induction l with
        | nil => intro _ _; rw [smPs]; trivial
        | cons x l ihl =>
          intro hl h
          rw [Xy] at h
          split at h
          · rename_i hx
            rw [smPs]
            exact ⟨hl x (by simp) hx, ihl (fun y hy => hl y (by simp [hy])) h⟩
          · rename_i hx; exact absurd h hx
      rw [smP]
      unfold pHead at hh
      split at hh
      · cases hh
      · split at hh
        · cases hh
        · exact ⟨by omega, hK kids ih h⟩
    · rename_i hh; exact absurd h hh
theorem tm_sm {D M : Int} (t : Tm) : ∀ b : Int, YP D M b t = 0 → smT t := by
  induction t using Tm.ind with
  | h k n r kids cases ih ih' =>
    intro b h
    obtain ⟨h1, h2, h3, h4⟩ := nErr_iff.1 h
    have hK : ∀ (l : List Tm) (i : Nat), (∀ x ∈ l, ∀ b : Int, YP D M b x = 0 → smT x) → Xf D M b k i l = 0 → smTs l := by
      intro l
      induction l with
      | nil => intro i _ _; rw [smTs]; trivial
      | cons x l ihl =>
        intro i hl h
        rw [Xf] at h
        split at h
        · rename_i hx
          rw [smTs]
          exact ⟨hl x (by simp) _ hx, ihl (i + 1) (fun y hy => hl y (by simp [hy])) h⟩
        · rename_i hx; exact absurd h hx
    have hC : ∀ (l : List (Pt × Tm)), (∀ c ∈ l, ∀ b : Int, YP D M b c.2 = 0 → smT c.2) → Y6 l = 0 → Xs D M b l = 0 → smCs l := by
      intro l
      induction l with
      | nil => intro _ _ _; rw [smCs]; trivial
      | cons c l ihl =>
        intro hl hp h
        obtain ⟨p, x⟩ := c
        rw [Xs] at h
        rw [Y6] at hp
        split at hp
        · rename_i hpx
          split at h
          · rename_i hx
            rw [smCs]
            exact ⟨⟨pt_sm p hpx, hl (p, x) (by simp) _ hx⟩, ihl (fun y hy => hl y (by simp [hy])) hp h⟩
          · rename_i hx; exact absurd h hx
        · rename_i hpx; exact absurd hp hpx
    rw [smT]
    unfold Y7 at h1
    split at h1
    · cases h1
    · split at h1
      · cases h1
      · exact ⟨by omega, hK kids 0 ih h3, hC cases ih' h2 h4⟩
theorem right_sm {t : Tm} (h : ZX 60 8 t = 0) : smT t := tm_sm t 0 (checkR_iff.1 h).2
theorem wr30_sm {k : Int} (hk : inI k) (h : -1000 ≤ Yr k ∧ Yr k ≤ 1000) : -9223372036854775778 ≤ k ∧ k ≤ 9223372036854775807 := by
  unfold Yr at h
  unfold inI at hk
  rw [show IntKind.i64.wrap (k - 30) = (k - 30 + 9223372036854775808) % 18446744073709551616 - 9223372036854775808 from by
    simp [IntKind.wrap, IntKind.bits, IntKind.signed]; split <;> omega] at h
  omega
theorem ptG_ok (x : It) : ∀ (d : Int) (σ : Int × Bool), (ptG x d σ).2.2 = false → kdI x → smP (ptG x d σ).1 → okI x := by
  induction x using It.ind with
  | h k m t kids ih =>
    intro d σ h hk hs
    rw [kdI] at hk
    rw [ptG] at h hs
    by_cases hf : farG d σ = true
    · rw [if_pos hf] at h; cases h
    · rw [if_neg hf] at h hs
      have hK : ∀ (l : List It) (σ : Int × Bool), (∀ x ∈ l, ∀ (d : Int) (σ : Int × Bool), (ptG x d σ).2.2 = false → kdI x → smP (ptG x d σ).1 → okI x) → kdIs l → (Xp l (d + 1) σ).2.2 = false → smPs (Xp l (d + 1) σ).1 → Xh l := by
        intro l
        induction l with
        | nil => intro σ _ _ _ _; rw [Xh]; trivial
        | cons x l ihl =>
          intro σ hl ho h hs
          rw [kdIs] at ho
          rw [Xp] at h hs
          rw [smPs] at hs
          have h1 : (ptG x (d + 1) σ).2.2 = false := by
            cases e : (ptG x (d + 1) σ).2.2 with
            | false => rfl
            | true => simp only at h; rw [ptGs_stay _ _ _ e] at h; cases h
          rw [Xh]
          exact ⟨hl x (by simp) _ _ h1 ho.1 hs.1, ihl _ (fun y hy => hl y (by simp [hy])) ho.2 h hs.2⟩
      rw [smP] at hs
      rw [okI]
      exact ⟨wr30_sm hk.1 hs.1, hK kids _ ih hk.2 h hs.2⟩
def tmO (x : It) : Prop := ∀ (d : Int) (σ : Int × Bool), (tmG x d σ).2.2 = false → kdI x → smT (tmG x d σ).1 → okI x
theorem tmGs_ok (l : List It) : ∀ (d : Int) (ks : List Tm) (cs : List (Pt × Tm)) (σ : Int × Bool), (∀ x ∈ l, tmO x) → (∀ x ∈ l, ∀ y ∈ x.kids, tmO y) → kdIs l → (Yx l d ks cs σ).2.2 = false → smTs (Yx l d ks cs σ).1.1 → smCs (Yx l d ks cs σ).1.2 → Xh l ∧ smTs ks ∧ smCs cs := by
  induction l with
  | nil => intro d ks cs σ _ _ _ _ h1 h2; rw [Yx] at h1 h2; exact ⟨by rw [Xh]; trivial, h1, h2⟩
  | cons y l ihl =>
    intro d ks cs σ h1 h2 ho h s1 s2
    rw [kdIs] at ho
    have h1' : ∀ x ∈ l, tmO x := fun x hx => h1 x (by simp [hx])
    have h2' : ∀ x ∈ l, ∀ y ∈ x.kids, tmO y := fun x hx => h2 x (by simp [hx])
    by_cases hc : ∃ t a b, y = .mk 20 0 t [a, b]
    · obtain ⟨t, a, b, rfl⟩ := hc
      rw [tmGs_case] at h s1 s2
      by_cases ht : t = ⟨#[]⟩
      · rw [if_neg (fun z => z ht)] at h s1 s2
        have hb : (tmG b d (ptG a d σ).2).2.2 = false := by
          cases e : (tmG b d (ptG a d σ).2).2.2 with
          | false => rfl
          | true => rw [Xb _ _ _ _ _ e] at h; cases h
        have ha : (ptG a d σ).2.2 = false := by
          cases e : (ptG a d σ).2.2 with
          | false => rfl
          | true => rw [tmG_stay _ _ _ e] at hb; cases hb
        have ho1 := ho.1
        rw [kdI] at ho1
        obtain ⟨r1, r2, r3⟩ := ihl _ _ _ _ h1' h2' ho.2 h s1 s2
        rw [smCs_app, smCs] at r3
        have ea := ptG_ok a d σ ha (kdIs_mem ho1.2 a (by simp)) r3.2.1.1
        have eb := h2 (.mk 20 0 t [a, b]) List.mem_cons_self b (by simp [It.kids]) d _ hb (kdIs_mem ho1.2 b (by simp)) r3.2.1.2
        refine ⟨?_, r2, r3.1⟩
        rw [Xh, okI, Xh, Xh, Xh]
        exact ⟨⟨by omega, ea, eb, trivial⟩, r1⟩
      · rw [if_pos ht] at h
        rw [Xb _ _ _ _ _ rfl] at h
        cases h
    · have hy := fun t a b e => hc ⟨t, a, b, e⟩
      rw [tmGs_kid hy] at h s1 s2
      by_cases hk : y.kind = 20
      · rw [if_neg (fun z => z hk)] at h
        rw [Xb _ _ _ _ _ rfl] at h
        cases h
      · rw [if_pos hk] at h s1 s2
        have hb : (tmG y d (σ.1, σ.2 || decide (0 < cs.length))).2.2 = false := by
          cases e : (tmG y d (σ.1, σ.2 || decide (0 < cs.length))).2.2 with
          | false => rfl
          | true => rw [Xb _ _ _ _ _ e] at h; cases h
        obtain ⟨r1, r2, r3⟩ := ihl _ _ _ _ h1' h2' ho.2 h s1 s2
        rw [smTs_app, smTs] at r2
        refine ⟨?_, r2.1, r3⟩
        rw [Xh]
        exact ⟨h1 y (by simp) _ _ hb ho.1 r2.2.1, r1⟩
theorem tm_o (x : It) : tmO x ∧ ∀ y ∈ x.kids, tmO y := by
  induction x using It.ind with
  | h k m t kids ih =>
    refine ⟨?_, fun y hy => (ih y hy).1⟩
    intro d σ h hk hs
    rw [kdI] at hk
    rw [tmG] at h hs
    by_cases hf : farG d σ = true
    · rw [if_pos hf] at h; cases h
    · rw [if_neg hf] at h hs
      rw [smT] at hs
      rw [okI]
      exact ⟨by omega, (tmGs_ok kids _ _ _ _ (fun y hy => (ih y hy).1) (fun y hy => (ih y hy).2) hk.2 h hs.2.1 hs.2.2).1⟩
/-! the reference -/
theorem rp_ok (x : It) : (rpP x).2 = true → kdI x → smP (rpP x).1 → okI x := by
  induction x using It.ind with
  | h k m t kids ih =>
    intro h hk hs
    rw [kdI] at hk
    rw [rpP] at h hs
    have hK : ∀ (l : List It) (b : Bool), (∀ x ∈ l, (rpP x).2 = true → kdI x → smP (rpP x).1 → okI x) → kdIs l → (Xu l b).2 = true → smPs (Xu l b).1 → Xh l := by
      intro l
      induction l with
      | nil => intro b _ _ _ _; rw [Xh]; trivial
      | cons x l ihl =>
        intro b hl ho h hs
        rw [kdIs] at ho
        cases b with
        | false => rw [rpPs_no] at h; cases h
        | true =>
          rw [Xu, if_pos rfl] at h hs
          rw [smPs] at hs
          have h1 : (rpP x).2 = true := by
            cases e : (rpP x).2 with
            | true => rfl
            | false => simp only at h; rw [e, rpPs_no] at h; cases h
          rw [Xh]
          exact ⟨hl x (by simp) h1 ho.1 hs.1, ihl _ (fun y hy => hl y (by simp [hy])) ho.2 h hs.2⟩
    rw [smP] at hs
    rw [okI]
    exact ⟨wr30_sm hk.1 hs.1, hK kids _ ih hk.2 h hs.2⟩
def rtO (x : It) : Prop := (rtT x).2 = true → kdI x → smT (rtT x).1 → okI x
theorem rtTs_ok {nine : Bool} (l : List It) : ∀ (late : Bool) (ks : List Tm) (cs : List (Pt × Tm)) (b : Bool), (∀ x ∈ l, rtO x) → (∀ x ∈ l, ∀ y ∈ x.kids, rtO y) → kdIs l → (YI nine late l ks cs b).2 = true → smTs (YI nine late l ks cs b).1.1 → smCs (YI nine late l ks cs b).1.2 → Xh l ∧ smTs ks ∧ smCs cs := by
  induction l with
  | nil => intro late ks cs b _ _ _ _ h1 h2; rw [YI] at h1 h2; exact ⟨by rw [Xh]; trivial, h1, h2⟩
  | cons y l ihl =>
    intro late ks cs b h1 h2 ho h s1 s2
    rw [kdIs] at ho
    have h1' : ∀ x ∈ l, rtO x := fun x hx => h1 x (by simp [hx])
    have h2' : ∀ x ∈ l, ∀ y ∈ x.kids, rtO y := fun x hx => h2 x (by simp [hx])
    cases b with
    | false => rw [rtTs_no] at h; cases h
    | true =>
      cases hn : (nine && late) with
      | false =>
        rw [rtTs_kid hn] at h s1 s2
        have hy : (rtT y).2 = true := by
          cases e : (rtT y).2 with
          | true => rfl
          | false => rw [e, rtTs_no] at h; cases h
        obtain ⟨r1, r2, r3⟩ := ihl _ _ _ _ h1' h2' ho.2 h s1 s2
        rw [smTs_app, smTs] at r2
        refine ⟨?_, r2.1, r3⟩
        rw [Xh]
        exact ⟨h1 y (by simp) hy ho.1 r2.2.1, r1⟩
      | true =>
        by_cases hg : y.kind = 20 ∧ y.num = 0 ∧ y.text = ⟨#[]⟩ ∧ y.kids.length = 2
        · obtain ⟨g1, g2, g3, g4⟩ := hg
          rw [rtTs_case hn g1 g2 g3 g4] at h s1 s2
          have hb : ((rpP y.kids[0]).2 && (rtT y.kids[1]).2) = true := by
            cases e : ((rpP y.kids[0]).2 && (rtT y.kids[1]).2) with
            | true => rfl
            | false => rw [e, rtTs_no] at h; cases h
          rw [Bool.and_eq_true] at hb
          have ey := it_case g1 g2 g3 g4
          have hoy := ho.1
          have hok : kdIs y.kids := by cases y; rw [kdI] at hoy; exact hoy.2
          obtain ⟨r1, r2, r3⟩ := ihl _ _ _ _ h1' h2' ho.2 h s1 s2
          rw [smCs_app, smCs] at r3
          have ea := rp_ok _ hb.1 (kdIs_mem hok _ (List.getElem_mem (by omega))) r3.2.1.1
          have eb := h2 y (by simp) y.kids[1] (List.getElem_mem (by omega)) hb.2 (kdIs_mem hok _ (List.getElem_mem (by omega))) r3.2.1.2
          refine ⟨?_, r2, r3.1⟩
          rw [Xh, ey, okI, Xh, Xh, Xh]
          exact ⟨⟨by omega, ea, eb, trivial⟩, r1⟩
        · rw [rtTs_bad hn hg] at h; cases h
theorem rt_o (x : It) : rtO x ∧ ∀ y ∈ x.kids, rtO y := by
  induction x using It.ind with
  | h k m t kids ih =>
    refine ⟨?_, fun y hy => (ih y hy).1⟩
    intro h hk hs
    rw [kdI] at hk
    rw [rtT] at h hs
    rw [smT] at hs
    rw [okI]
    exact ⟨by omega, (rtTs_ok kids _ _ _ _ (fun y hy => (ih y hy).1) (fun y hy => (ih y hy).2) hk.2 h hs.2.1 hs.2.2).1⟩
theorem from_all {x : It} (hk : kdI x) : fromR x = fromP x := by
  by_cases ho : okI x
  · exact from_eq ho
  · have e1 : fromP x = (zT, 4) := by
      unfold fromP
      rw [if_pos (Classical.byContradiction fun z => ho ?_)]
      rw [not_or] at z
      have h1 : (tmG x 1 (0, false)).2.2 = false := by simpa using z.1
      exact (tm_o x).1 1 (0, false) h1 hk (right_sm (Classical.byContradiction z.2))
    have e2 : fromR x = (zT, 4) := by
      unfold fromR
      by_cases hh : 1000 < (exI 2000 x).1 ∨ 200 < (exI 2000 x).2
      · rw [if_pos hh]
      · rw [if_neg hh, if_pos (Classical.byContradiction fun z => ho ?_)]
        rw [not_or] at z
        exact (rt_o x).1 (Classical.byContradiction z.1) hk (right_sm (Classical.byContradiction z.2))
    rw [e1, e2]
end Go.Proofs.YtkjafeejpmcnkaaGreat.Hs
/-! Walks, printed by a program of this session's own (gen.py). -/
namespace Go.Proofs.YtkjafeejpmcnkaaGreat.Hs
open Go Go.Proofs
set_option maxRecDepth 100000
set_option linter.unusedVariables false
set_option linter.unusedSimpArgs false
attribute [local irreducible] JL J CT wlo DT
theorem digest_ct (t : ByteArray) (H : Heap) : CT Tryz.prog 90 ⟨[.string t]⟩ [] H (fun r N => r = .tuple ⟨[.agg ⟨sC (Y1 t).1⟩, .bool (Y1 t).2]⟩ ∧ N = []) := by
 obtain ⟨l, hls⟩ : ∃ l, l = sB t := ⟨_, rfl⟩
 have hsz : l.length = t.size := by rw [hls, Y5]
 refine Zm Tryz.func90 rfl rfl <| Zc <| Za <| JLr (Zk (l := sC zS) Tryz.zeroValue26 rfl fun b1 => JLA rfl <| Zb <| Zc <| Za <| JLr (Zk (l := sC zS) Tryz.zeroValue26 rfl fun b2 => Zb <| Zc <| Zc <| Za ?_))
 refine JLM rfl <| JLn (Pu.lenS Tryz.runUnderlying9 rfl) <| JLn (Pu.neq rfl rfl) <| Zb <| Zg rfl (fun h3 => ?_) (fun h3 => ?_)
 ·replace h3 := nt h3
  replace h3 := df h3
  refine Zc <| Za <| JLr (Zh YM rfl (At.bx 0 rfl) (Zs rfl) <| JLr (Ze 1 (vs := sC zS) (l := sC zS) YM rfl rfl rfl rfl rfl (sC_ok _) (ZK rfl rfl) <| JLA rfl <| Zb <| Zl <| ⟨.tuple ⟨[.agg ⟨sC zS⟩, .bool false]⟩, [], Ret.two rfl (RV.cell YM rfl (At.bx 1 rfl) (Zs rfl)) (RV.tmp rfl), Sub.nil, ?_⟩))
  have hx : Y1 t = (zS, false) := by unfold Y1; rw [if_neg (by omega)]
  exact ⟨by rw [hx], rfl⟩
 replace h3 := nf h3
 replace h3 := dt h3
 refine Zj <| Zc <| Zc <| Za <| JLA rfl <| Zb <| Zn <| ZB (fun k ρ M => ∃ (j : Nat) (r : Sm), ρ 0 = .string t ∧ ρ 2 = pp b1 0 ∧ ρ 3 = .bool false ∧ ρ 4 = pp b2 0 ∧ ρ 5 = iv ((j : Int)) ∧ Sub [(BX b2 (sC r) 26), (BX b1 (sC zS) 26)] M ∧ j ≤ 32 ∧ (∀ (i : Nat) (hi : i < 32), i < j → r[i] = t.data.toList.getD i 0) ∧ k = 32 - j) _ ⟨0, zS, rfl, rfl, rfl, rfl, rfl, (Sk (Sk Sub.nil)), (by decide), (fun i hi h => absurd h (by omega)), rfl⟩ ?_
 rintro _ ρ4 _ ⟨j, r, e5, e6, e7, e8, e9, hm10, hj, hr, rfl⟩
 obtain ⟨ρ11, rfl⟩ := Zr (uc e5 (uc e6 (uc e7 (uc e8 (uc e9 un)))))
 clear e5 e6 e7 e8 e9
 refine ZG hm10 <| Zc <| Zc <| Za <| JLM rfl <| JLn (Pu.lss rfl rfl) <| Zb <| Zg rfl (fun h12 => ?_) (fun h12 => ?_)
 ·replace h12 := dt h12
  have h12n : j < 32 := by omega
  refine Zj <| Zc <| Zn ?_
  have hjl : j < l.length := by omega
  have hx8 : 0 ≤ l[j] ∧ l[j] ≤ 255 := by subst hls; exact sB_8 t _ (List.getElem_mem hjl)
  refine Za <| JLM rfl <| JLM rfl <| JLM rfl <| JLq (.int .u8 (l[j])) (Pu.idxB j Tryz.runUnderlying9 rfl rfl rfl hls hjl) <| JLq (pp b2 (0 + j * 1)) (Pu.idxA j Tryz.runUnderlying26 ty5 rfl rfl rfl (by omega)) <| JLr (Ze 0 (vs := [.int .u8 (l[j])]) (l := sC (Vector.setIfInBounds r j (UInt8.ofNat (l[j]).toNat))) ty5 rfl rfl rfl rfl rfl (Zf rfl Zo) (sC_set (by omega) (by omega)) <| Zb <| Za <| JLM rfl <| JLn (Pu.inc rfl rfl (by omega)) <| JLA rfl <| Zb ?_)
  refine ⟨_, ?_, (j + 1), (Vector.setIfInBounds r j (UInt8.ofNat (l[j]).toNat)), rfl, rfl, rfl, rfl, rfl, (Sk (Sk Sub.nil)), ?_, ?_, rfl⟩
  ·omega
  ·omega
  exact dig_step hls (by omega) hjl hr
 replace h12 := df h12
 have h12n : 32 ≤ j := by omega
 refine Zz _ rfl <| Zc <| Za <| JLr (Zh YM rfl (At.bx 0 rfl) (Zs rfl) <| JLr (Ze 1 (vs := sC r) (l := sC r) YM rfl rfl rfl rfl rfl (sC_ok _) (ZK rfl rfl) <| JLA rfl <| Zb <| Zl <| ⟨.tuple ⟨[.agg ⟨sC r⟩, .bool true]⟩, [], Ret.two rfl (RV.cell YM rfl (At.bx 1 rfl) (Zs rfl)) (RV.tmp rfl), Sub.nil, ?_⟩))
 obtain rfl : j = 32 := by omega
 have hx := dig_end (by omega) hr
 exact ⟨by rw [hx], rfl⟩
theorem ref_ct (t : ByteArray) (has : Bool) (H : Heap) (bG : Nat) (n : Int) : CT Tryz.prog 99 ⟨[pp bG 0, .bool has, .string t]⟩ [(BX bG [iv n, .bool false] 104)] H (fun r N => r = .agg ⟨sC (Ys has t)⟩ ∧ N = [(BX bG [iv n, .bool (Yy has t)] 104)]) := by
 refine Zm Tryz.func99 rfl rfl <| Zc <| Za <| JLr (Zk (l := sC zS) Tryz.zeroValue26 rfl fun b1 => Zb <| Zc <| Za <| JLr (Zk (l := sC zS) Tryz.zeroValue26 rfl fun b2 => Zb <| Zc <| Zc <| Za <| JLM rfl ?_))
 refine JLM rfl <| JLq (pp bG 0) (Pu.nilCheck rfl) <| JLq (pp bG 1) (YZ rfl rfl) <| JLr (Zd ty4 rfl (At.bx 2 rfl) rfl <| JLM rfl <| JLM rfl <| JLM rfl <| Zv 3 [16, 17, 18] [(18, cond has (.bool (!decide ((t.size : Int) = 32))) undef)] ?_ fun f4 => ?_)
 ·cases h3 : has with
  | true =>
   refine JLM rfl <| JLn (Pu.lenS Tryz.runUnderlying9 rfl) <| JLn (Pu.neq rfl rfl) ?_
   exact Zb ⟨⟨rfl, trivial⟩, rfl⟩
  | false =>
   exact Zy rfl ⟨rfl, trivial⟩
 refine JLn (Pu.pickAnd rfl rfl rfl) <| JLq (.bool (has && (!decide ((t.size : Int) = 32)))) (Pu.pickF rfl rfl) <| JLM rfl <| Zv 6 [22, 23, 24, 25, 26, 27] [(27, cond (has && (!decide ((t.size : Int) = 32))) undef (.bool ((!(has)) && (!decide (t = ⟨#[]⟩)))))] ?_ fun f8 => ?_
 ·cases h5 : (has && (!decide ((t.size : Int) = 32))) with
  | false =>
   refine JLM rfl <| JLn (Pu.not rfl) <| JLM rfl <| Zv 2 [25, 26] [(26, cond (!(has)) (.bool (!decide (t = ⟨#[]⟩))) undef)] ?_ fun f7 => ?_
   ·cases h6 : (!(has)) with
    | true =>
     replace h6 := nt h6
     refine JLM rfl <| JLn (Pu.neqS rfl rfl) ?_
     exact Zb ⟨⟨rfl, trivial⟩, rfl⟩
    | false =>
     exact Zy rfl ⟨rfl, trivial⟩
   refine JLn (Pu.pickAnd rfl rfl rfl) ?_
   exact Zb ⟨⟨rfl, trivial⟩, rfl⟩
  | true =>
   exact Zy rfl ⟨rfl, trivial⟩
 refine JLn (Pu.pickOr rfl rfl rfl) <| JLq (pp bG 0) (Pu.nilCheck rfl) <| JLq (pp bG 1) (YZ rfl rfl) <| JLr (Ze 2 (vs := [.bool ((has && (!decide ((t.size : Int) = 32))) || ((!(has)) && (!decide (t = ⟨#[]⟩))))]) (l := [iv n, .bool ((has && (!decide ((t.size : Int) = 32))) || ((!(has)) && (!decide (t = ⟨#[]⟩))))]) ty4 rfl rfl rfl rfl rfl (Zf rfl Zo) rfl <| Zb <| Zc <| Za <| JLM rfl <| JLq (pp bG 0) (Pu.nilCheck rfl) <| JLq (pp bG 1) (YZ rfl rfl) <| JLr (Zd ty4 rfl (At.bx 2 rfl) rfl <| JLn (Pu.not rfl) <| Zb ?_))
 refine Zg rfl (fun h9 => ?_) (fun h9 => ?_)
 ·replace h9 := nt h9
  obtain ⟨h9a, h9b⟩ := orF h9
  have hrw : Yy has t = false := (refW_eq has t).symm.trans h9
  refine Za <| JLq (.slice (some ⟨b2, 0, none⟩) 32 32) (Pu.sliceArr Tryz.runUnderlying26 Tryz.sizeOf5 rfl) <| JLM rfl <| JLr (Runs_copyStr (i := 0) Tryz.runUnderlying22 Tryz.sizeOf5 rfl rfl rfl (refV_ok hrw).1 (refV_ok hrw).2 <| Zb <| Zc <| Za <| JLr (Zh YM rfl (At.bx 0 rfl) (Zs rfl) <| JLr (Ze 1 (vs := sC (Ys has t)) (l := sC (Ys has t)) YM rfl rfl rfl rfl rfl (sC_ok _) (ZK rfl rfl) <| Zb <| Zl <| ⟨.agg ⟨sC (Ys has t)⟩, [(BX bG [iv n, .bool ((has && (!decide ((t.size : Int) = 32))) || ((!(has)) && (!decide (t = ⟨#[]⟩))))] 104)], Ret.one rfl (RV.cell YM rfl (At.bx 1 rfl) (Zs rfl)), (Sd (Sd (Sk Sub.nil))), ?_⟩)))
  rw [refW_eq]
  exact ⟨rfl, rfl⟩
 replace h9 := nf h9
 refine Zj <| Zc <| Za <| JLr (Zh YM rfl (At.bx 0 rfl) (Zs rfl) <| JLr (Ze 1 (vs := sC zS) (l := sC zS) YM rfl rfl rfl rfl rfl (sC_ok _) (ZK rfl rfl) <| Zb <| Zl <| ⟨.agg ⟨sC zS⟩, [(BX bG [iv n, .bool ((has && (!decide ((t.size : Int) = 32))) || ((!(has)) && (!decide (t = ⟨#[]⟩))))] 104)], Ret.one rfl (RV.cell YM rfl (At.bx 1 rfl) (Zs rfl)), (Sd (Sd (Sk Sub.nil))), ?_⟩))
 have hrw : Yy has t = true := (refW_eq has t).symm.trans h9
 rw [refW_eq, refV_w hrw]
 exact ⟨rfl, rfl⟩
end Go.Proofs.YtkjafeejpmcnkaaGreat.Hs
/-! Walks, printed by a program of this session's own (gen.py). -/
namespace Go.Proofs.YtkjafeejpmcnkaaGreat.Hs
open Go Go.Proofs
set_option maxRecDepth 100000
set_option linter.unusedVariables false
set_option linter.unusedSimpArgs false
attribute [local irreducible] JL J CT wlo DT
set_option maxHeartbeats 2000000 in
theorem rp_ct : ∀ (x : It) (cs : List Value) (H : Heap), RIt H cs x → szI x ≤ 1000000 → CT Tryz.prog 91 ⟨[.agg ⟨cs⟩]⟩ [] H (fun r N => ∃ cs k, r = .tuple ⟨[.agg ⟨cs⟩, .bool (rpP x).2]⟩ ∧ N = [k] ∧ OP (rpP x).1 cs k) := by
 intro x
 induction x using It.ind with
 | h kd nm tx kids ih =>
 intro cs H ht hz
 obtain ⟨kv, rfl, hk, hm, hks⟩ := RIt_mk.1 ht
 rw [szI] at hz
 have hle := hks.le
 have hlk0 := Y2 kids
 refine Zm Tryz.func91 rfl rfl <| Zc <| Za <| JLr (Zq (l := [iv kd, iv nm, .string tx, kv]) rfl rfl fun b1 => JLr (Zk (l := pkP 0 0 zS nS) Tryz.zeroValue81 rfl fun b2 => JLA rfl <| Zb <| Zc <| Za <| JLq (pp b1 0) (YR rfl rfl) <| JLr (Zd ty3 rfl (At.bx 1 rfl) rfl <| JLq (iv (Yr kd)) (Pu.arithS rfl rfl rfl) <| JLq (pp b1 1) (XB rfl rfl) ?_)))
 refine JLr (Zd ty3 rfl (At.bx 1 rfl) rfl <| JLq (.agg ⟨pkP (Yr kd) nm zS nS⟩) (Pu.build (pv := [(0, iv (Yr kd)), (1, iv nm)]) (l := pkP (Yr kd) nm zS nS) rfl (bld81_0_1 _ _)) <| JLr (Zk (l := pkP 0 0 zS nS) Tryz.zeroValue81 rfl fun b3 => JLr (Ze 0 (vs := pkP (Yr kd) nm zS nS) (l := pkP (Yr kd) nm zS nS) Z1 rfl rfl rfl rfl rfl (pkP_ok rfl) (pkP_s ..) <| Zb <| Zc <| Za <| JLq (pp b3 0) (Yl rfl rfl) <| JLr (Zd ty3 rfl (At.bx 0 rfl) (YK ..) <| JLn (Pu.eql rfl rfl) <| JLM rfl <| Zv 3 [19, 20, 21] [(21, cond (decide (Yr kd = 3)) undef (.bool (decide (tx = ⟨#[]⟩))))] ?_ fun f5 => ?_))))
 ·cases h4 : (decide (Yr kd = 3)) with
  | false =>
   replace h4 := df h4
   refine JLq (pp b1 2) (YB rfl rfl) <| JLr (Zd ty9 rfl (At.bx 2 rfl) rfl <| JLn (Pu.eqlS rfl rfl) ?_)
   exact Zb ⟨⟨rfl, trivial⟩, rfl⟩
  | true =>
   exact Zy rfl ⟨rfl, trivial⟩
 refine JLn (Pu.pickOr rfl rfl rfl) <| JLA rfl <| Zb <| Zc <| Zc <| Za <| JLq (pp b3 0) (Yl rfl rfl) <| JLr (Zd ty3 rfl (At.bx 0 rfl) (YK ..) <| JLn (Pu.eql rfl rfl) <| Zb <| Xq (N := fun ρ M => ∃ (rx : Sm) (bx : Bool), (rx = if Yr kd = 3 then (Y1 tx).1 else zS) ∧ (bx = if Yr kd = 3 then (Y1 tx).2 else decide (tx = ⟨#[]⟩)) ∧ ρ 1 = pp b1 0 ∧ ρ 2 = pp b2 0 ∧ ρ 3 = .bool false ∧ ρ 4 = pp b3 0 ∧ ρ 5 = .bool bx ∧ M = [(BX b3 (pkP (Yr kd) nm rx nS) 81), (BX b2 (pkP 0 0 zS nS) 81), (BX b1 [iv kd, iv nm, .string tx, kv] 39)]) ?_ ?_)
 ·refine Zg rfl (fun h6 => ?_) (fun h6 => ?_)
  ·replace h6 := dt h6
   refine Za <| JLq (pp b1 2) (YB rfl rfl) <| JLr (Zd ty9 rfl (At.bx 2 rfl) rfl <| Jc Tryz.call90 rfl (fun hin => digest_ct _ _) rfl ?_)
   rintro _ _ ⟨rfl, rfl⟩
   refine JLM rfl <| JLn (Pu.extract rfl rfl) <| JLn (Pu.extract rfl rfl) <| JLq (pp b3 2) (fa81_2 rfl rfl) <| JLr (Ze 0 (vs := sC ((Y1 tx).1)) (l := pkP (Yr kd) nm ((Y1 tx).1) nS) YM rfl rfl rfl rfl rfl (sC_ok _) (pkP_s2 ..) <| JLA rfl <| Zb ?_)
   exact ⟨((Y1 tx).1), ((Y1 tx).2), (if_pos h6).symm, (if_pos h6).symm, rfl, rfl, rfl, rfl, rfl, rfl⟩
  replace h6 := df h6
  refine Zj ?_
  exact ⟨zS, ((decide (Yr kd = 3)) || (decide (tx = ⟨#[]⟩))), (if_neg h6).symm, (by rw [if_neg h6]; have z := h6; simp [z]), rfl, rfl, rfl, rfl, rfl, rfl⟩
 rintro ρ7 _ ⟨rx, bx, hrx, hbx, e8, e9, e10, e11, e12, rfl⟩
 obtain ⟨ρ13, rfl⟩ := Zr (uc e8 (uc e9 (uc e10 (uc e11 (uc e12 un)))))
 clear e8 e9 e10 e11 e12
 refine Zc <| Zc <| Za <| JLA rfl <| Zb <| Zn <| ZB (fun k ρ M => ∃ (j : Nat) (ps : List Pt) (y : Value) (es : List (List Value)) (q1 q2 : Zi) (bb : Bool), ρ 1 = pp b1 0 ∧ ρ 2 = pp b2 0 ∧ ρ 3 = .bool false ∧ ρ 4 = pp b3 0 ∧ ρ 5 = .bool bb ∧ ρ 6 = iv ((j : Int)) ∧ Sub [(BX b3 (pkP (Yr kd) nm rx y) 81), q1, q2, (BX b2 (pkP 0 0 zS nS) 81), (BX b1 [iv kd, iv nm, .string tx, kv] 39)] M ∧ j ≤ kids.length ∧ Own 81 35 y es q1 ∧ OPs ps es q2 ∧ Xu kids bx = (ps ++ (Xu (kids.drop j) bb).1, (Xu (kids.drop j) bb).2) ∧ ps.length = j ∧ k = kids.length - j) _ ⟨0, [], nS, [], [], [], bx, rfl, rfl, rfl, rfl, rfl, rfl, (Sk (Sub.emp (Sub.emp (Sk (Sk Sub.nil))))), Nat.zero_le _, Own.nil, OPs.nil, rfl, rfl, rfl⟩ ?_
 rintro _ ρ14 _ ⟨j, ps, y, es, q1, q2, bb, e15, e16, e17, e18, e19, e20, hm21, hj, hown, hop, hinv, hpl, rfl⟩
 obtain ⟨ρ22, rfl⟩ := Zr (uc e15 (uc e16 (uc e17 (uc e18 (uc e19 (uc e20 un))))))
 clear e15 e16 e17 e18 e19 e20
 refine ZG hm21 <| Zc <| Zc <| Za <| JLM rfl <| JLq (pp b1 3) (ZP rfl rfl) <| JLr (Zd Yw rfl (At.bx 4 rfl) rfl ?_)
 obtain ⟨a23, cap23, hv23⟩ := hks.sl
 have hle23 := hks.le
 refine JLn (Pu.lenSl Tryz.runUnderlying37 hv23) <| JLn (Pu.lss rfl rfl) <| JLM rfl <| Zv 1 [39] [(39, cond (decide ((j : Int) < (kids.length : Int))) (.bool bb) undef)] ?_ fun f25 => ?_
 ·cases h24 : (decide ((j : Int) < (kids.length : Int))) with
  | true =>
   replace h24 := dt h24
   have h24n : j < kids.length := by omega
   have hz1 := Xl (List.getElem_mem h24n)
   have hlk := Y2 kids
   have hel := OPs_len hop
   refine JLM rfl ?_
   exact Zb ⟨⟨rfl, trivial⟩, rfl⟩
  | false =>
   exact Zy rfl ⟨rfl, trivial⟩
 refine JLn (Pu.pickAnd rfl rfl rfl) <| Zb <| Zg rfl (fun h26 => ?_) (fun h26 => ?_)
 ·obtain ⟨h26a, h26b⟩ := YC h26
  replace h26a := dt h26a
  have h26an : j < kids.length := by omega
  have hz1 := Xl (List.getElem_mem h26an)
  have hlk := Y2 kids
  have hel := OPs_len hop
  refine Zj <| Zc <| Zn <| Zc <| Za <| JLq (pp b1 3) (ZP rfl rfl) <| JLr (Zd Yw rfl (At.bx 4 rfl) rfl <| JLM rfl ?_)
  obtain ⟨b27, o27, cap27, row27, T27, fr27, cs27, hv27, hb27, hs27, hE27⟩ := hks.get j (by first | assumption | omega | decide | simp)
  obtain ⟨ki27, rfl, hik27, hin27, hks27⟩ := Yb hE27
  refine JLq (pp b27 (o27 + j * 4)) (Pu.idx j Tryz.runUnderlying37 ZM hv27 rfl rfl (by first | assumption | omega | decide | simp)) <| JLr (Zh ZM rfl (At.im hb27) hs27 <| Jc Tryz.call91 rfl (fun hin => ih _ (List.getElem_mem h26an) _ _ (RIt.mono (Hle.hu _ _) (Yi hik27 hin27 hks27)) (by omega)) rfl ?_)
  rintro _ _ ⟨cs28, k28, rfl, rfl, hO28⟩
  refine JLM rfl <| JLn (Pu.extract rfl rfl) <| JLn (Pu.extract rfl rfl) <| JLr (Zk (l := pkP 0 0 zS nS) Tryz.zeroValue81 rfl fun b29 => JLr (Ze 0 (vs := cs28) (l := cs28) Z1 rfl rfl rfl rfl hO28.len hO28.ok (ZK (n := 35) rfl hO28.len) <| JLA rfl <| Zb <| Za <| JLq (pp b3 34) (Z5 rfl rfl) <| JLr (Zd Xa rfl (At.bx 2 rfl) (Yf ..) <| JLr (Zh Z1 rfl (At.bx 0 rfl) (Zs hO28.len) <| JLr (Zp (vs := [.agg ⟨cs28⟩]) [cs28] Tryz.runUnderlying79 el81 rfl rfl (by intro e he; simp only [List.mem_cons, List.not_mem_nil, or_false] at he; subst he; exact hO28.len) rfl (by decide) fun b30 k30 ho30 hk30 => ?_)))))
  have hlens31 : ∀ e ∈ ([cs28] : List (List Value)), List.length e = 35 := by
   intro e he; simp only [List.mem_cons, List.not_mem_nil, or_false] at he
   rcases he with rfl
   ·exact hO28.len
  have hoks31 : ∀ e ∈ ([cs28] : List (List Value)), okc e := by
   intro e he; simp only [List.mem_cons, List.not_mem_nil, or_false] at he
   rcases he with rfl
   ·exact hO28.ok
  refine JLr (Zx (i := 4) (n := 1) (es' := [cs28]) Tryz.runUnderlying79 Tryz.runUnderlying79 (Or.inl rfl) el81 rfl rfl rfl hown (fun F w m => Src.row (((At.k 0 rfl (by rw [hk30]; exact List.mem_cons_self))).heap m) (Zs (Zw hlens31))) rfl hlens31 hoks31 (by decide) (by omega) fun v31 k31 ho31 => JLM rfl <| JLq (pp b3 34) (Z5 rfl rfl) <| JLr (Ze 3 (vs := [v31]) (l := pkP (Yr kd) nm rx v31) Xa rfl rfl rfl (ZH ho31.one) rfl (Zf ho31.one Zo) (pkP_s34 ..) <| JLA rfl <| Zb <| Za <| JLM rfl <| JLn (Pu.inc rfl rfl (by omega)) <| JLA rfl <| Zb <| ⟨_, ?_, (j + 1), (ps ++ [(rpP (kids[j])).1]), v31, (es ++ [cs28]), k31, (q2 ++ k28), ((rpP (kids[j])).2), rfl, rfl, rfl, rfl, rfl, rfl, (Sd (Sd (Sub.cons 1 rfl (Sub.cons 1 rfl (Sub.join (Sub.cons 1 rfl (Sk (Sk (Sk Sub.nil))))))))), ?_, ?_, ?_, ?_, ?_, rfl⟩))
  ·omega
  ·omega
  ·exact ho31
  ·exact OPs.snoc hO28 hop
  ·rw [h26b, rp_step h26an] at hinv; rw [hinv]; simp
  simp [hpl]
 refine Zz _ rfl <| Zc <| Za <| JLr (Zh Z1 rfl (At.bx 0 rfl) (pkP_a ..) <| JLM rfl <| JLr (Ze 3 (vs := pkP (Yr kd) nm rx y) (l := pkP (Yr kd) nm rx y) Z1 rfl rfl rfl rfl rfl (pkP_ok hown.one) (pkP_s ..) <| JLA rfl <| Zb <| Zl <| ⟨.tuple ⟨[.agg ⟨pkP (Yr kd) nm rx y⟩, .bool bb]⟩, [q1 ++ q2], Ret.two rfl (RV.cell Z1 rfl (At.bx 3 rfl) (pkP_a ..)) (RV.tmp rfl), (Sub.join (Sd (Sk (Sk Sub.nil)))), ?_⟩))
 have hx : rpP (.mk kd nm tx kids) = (.mk (Yr kd) nm rx ps, bb) := by rw [rpP, ← hrx, ← hbx, hinv, rp_exit h26, List.append_nil]
 exact ⟨_, _, by rw [hx], rfl, by rw [hx]; exact OP_mk.2 ⟨_, _, _, _, rfl, wr30_inI _, hm, hown, hop, rfl, (show ps.length ≤ 9223372036854775807 by omega)⟩⟩
theorem exI_ct : ∀ (x : It) (m : Int) (cs : List Value) (H : Heap), RIt H cs x → szI x ≤ 1000000000 → szI x ≤ m + 2000000000 → m ≤ 2000000000 → CT Tryz.prog 53 ⟨[.agg ⟨cs⟩, iv m]⟩ [] H (fun v N => v = .tuple ⟨[iv (exI m x).1, iv (exI m x).2]⟩ ∧ N = []) := by
 intro x
 induction x using It.ind with
 | h kd nm tx kids ih =>
 intro m cs H ht hz1 hz2 hz3
 obtain ⟨kv, rfl, hk, hm, hks⟩ := RIt_mk.1 ht
 rw [szI] at hz1 hz2
 have hle := hks.le
 refine Zm Tryz.func53 rfl rfl <| Zc <| Za <| JLr (Zq (l := [iv kd, iv nm, .string tx, kv]) rfl rfl fun b1 => JLA rfl <| JLA rfl <| Zb <| Zc <| Za <| JLA rfl <| JLA rfl <| Zb <| Zc ?_)
 refine Zc <| Za <| JLA rfl <| Zb <| Zn <| ZB (fun k ρ M => ∃ (j : Nat) (n d : Int), ρ 1 = iv m ∧ ρ 2 = pp b1 0 ∧ ρ 4 = iv 0 ∧ ρ 5 = iv 0 ∧ ρ 6 = iv n ∧ ρ 7 = iv d ∧ ρ 8 = iv ((j : Int)) ∧ Sub [(BX b1 [iv kd, iv nm, .string tx, kv] 39)] M ∧ j ≤ kids.length ∧ exIs m (kids.drop j) n d = exIs m kids 1 0 ∧ 0 ≤ d ∧ d < n ∧ n + Z2 (kids.drop j) ≤ 1 + Z2 kids ∧ k = kids.length - j) _ ⟨0, 1, 0, rfl, rfl, rfl, rfl, rfl, rfl, rfl, (Sk Sub.nil), Nat.zero_le _, rfl, (by omega), (by omega), (by simp), rfl⟩ ?_
 rintro _ ρ2 _ ⟨j, n, d, e3, e4, e5, e6, e7, e8, e9, hm10, hj, hinv, hd0, hdn, hnn, rfl⟩
 obtain ⟨ρ11, rfl⟩ := Zr (uc e3 (uc e4 (uc e5 (uc e6 (uc e7 (uc e8 (uc e9 un)))))))
 clear e3 e4 e5 e6 e7 e8 e9
 refine ZG hm10 ?_
 have hlen := hks.le
 refine Zc <| Zc <| Za <| JLM rfl <| JLq (pp b1 3) (ZP rfl rfl) <| JLr (Zd Yw rfl (At.bx 0 rfl) rfl ?_)
 obtain ⟨a12, cap12, hv12⟩ := hks.sl
 have hle12 := hks.le
 refine JLn (Pu.lenSl Tryz.runUnderlying37 hv12) <| JLn (Pu.lss rfl rfl) <| JLM rfl <| Zv 3 [17, 18, 19] [(19, cond (decide ((j : Int) < (kids.length : Int))) (.bool (decide (n ≤ m))) undef)] ?_ fun f14 => ?_
 ·cases h13 : (decide ((j : Int) < (kids.length : Int))) with
  | true =>
   replace h13 := dt h13
   have h13n : j < kids.length := by omega
   have hs1 := Xl (List.getElem_mem h13n)
   have hs2 := szIs_drop h13n
   have hs3 := exI_le kids[j] (m - 1)
   have hs4 := exI_lv kids[j] (m - 1)
   refine JLM rfl <| JLM rfl <| JLn (Pu.leq rfl rfl) ?_
   exact Zb ⟨⟨rfl, trivial⟩, rfl⟩
  | false =>
   exact Zy rfl ⟨rfl, trivial⟩
 refine JLn (Pu.pickAnd rfl rfl rfl) <| Zb <| Zg rfl (fun h15 => ?_) (fun h15 => ?_)
 ·obtain ⟨h15a, h15b⟩ := YC h15
  replace h15a := dt h15a
  have h15an : j < kids.length := by omega
  have hs1 := Xl (List.getElem_mem h15an)
  have hs2 := szIs_drop h15an
  have hs3 := exI_le kids[j] (m - 1)
  have hs4 := exI_lv kids[j] (m - 1)
  replace h15b := dt h15b
  refine Zj <| Zc <| Zn <| Zc <| Za <| JLq (pp b1 3) (ZP rfl rfl) <| JLr (Zd Yw rfl (At.bx 0 rfl) rfl <| JLM rfl ?_)
  obtain ⟨b16, o16, cap16, row16, T16, fr16, cs16, hv16, hb16, hs16, hE16⟩ := hks.get j (by first | assumption | omega | decide | simp)
  obtain ⟨ki16, rfl, hik16, hin16, hks16⟩ := Yb hE16
  refine JLq (pp b16 (o16 + j * 4)) (Pu.idx j Tryz.runUnderlying37 ZM hv16 rfl rfl (by first | assumption | omega | decide | simp)) <| JLr (Zh ZM rfl (At.im hb16) hs16 <| JLM rfl <| JLn (Pu.sub64 rfl rfl (by first | omega | (constructor <;> omega))) <| Jc Tryz.call53 rfl (fun hin => ih _ (List.getElem_mem h15an) _ _ _ (RIt.mono (Hle.hu _ _) (Yi hik16 hin16 hks16)) (by omega) (by omega) (by omega)) rfl ?_)
  rintro _ _ ⟨rfl, rfl⟩
  refine JLM rfl <| JLn (Pu.extract rfl rfl) <| JLn (Pu.extract rfl rfl) <| JLA rfl <| JLA rfl <| Zb <| Za <| JLM rfl <| JLM rfl <| JLn (Pu.add64 rfl rfl (by first | omega | (constructor <;> omega))) <| JLM rfl <| JLM rfl <| JLq (iv (max d ((exI (m - 1) (kids[j])).2))) (Pu.max2 rfl rfl) ?_
  refine JLA rfl <| JLA rfl <| Zb <| Za <| JLM rfl <| JLn (Pu.inc rfl rfl (by omega)) <| JLA rfl <| Zb <| ⟨_, ?_, (j + 1), (n + ((exI (m - 1) (kids[j])).1)), (max d ((exI (m - 1) (kids[j])).2)), rfl, rfl, rfl, rfl, rfl, rfl, rfl, (Sk Sub.nil), ?_, ?_, ?_, ?_, ?_, rfl⟩
  ·omega
  ·omega
  ·rw [ZW h15an, exIs, if_pos (by omega)] at hinv; exact hinv
  ·omega
  ·omega
  omega
 refine Zz _ rfl <| Zc <| Za <| JLM rfl <| JLM rfl <| JLn (Pu.add64 rfl rfl (by first | omega | (constructor <;> omega))) <| JLA rfl <| JLA rfl <| Zb <| Zl <| ⟨.tuple ⟨[iv n, iv (d + 1)]⟩, [], Ret.two rfl (RV.tmp rfl) (RV.tmp rfl), Sub.nil, ?_⟩
 have hf : ¬ ((j : Int) < (kids.length : Int) ∧ n ≤ m) := by
  intro ⟨hx1, hx2⟩
  have := h15
  simp [hx1, hx2] at this
  try omega
 have hr : exIs m kids 1 0 = (n, d) := by
  rw [← hinv]; rcases Nat.lt_or_ge j kids.length with hl | hl
  ·have hnm : ¬ n ≤ m := fun hle => hf ⟨by omega, hle⟩
   rw [ZW hl, exIs, if_neg hnm]
  ·rw [YL hl, exIs]
 exact ⟨by rw [exI, hr], rfl⟩
end Go.Proofs.YtkjafeejpmcnkaaGreat.Hs
/-! Walks, printed by a program of this session's own (gen.py). -/
namespace Go.Proofs.YtkjafeejpmcnkaaGreat.Hs
open Go Go.Proofs
set_option maxRecDepth 100000
set_option linter.unusedVariables false
set_option linter.unusedSimpArgs false
attribute [local irreducible] JL J CT wlo DT
set_option maxHeartbeats 4000000 in
theorem rt0_ct : ∀ (x : It), (∀ (cs : List Value) (H : Heap), RIt H cs x → szI x ≤ 1000000 → CT Tryz.prog 54 ⟨[.agg ⟨cs⟩]⟩ [] H (fun r N => ∃ cs k, r = .tuple ⟨[.agg ⟨cs⟩, .bool (rtT x).2]⟩ ∧ N = [k] ∧ OT (rtT x).1 cs k)) ∧ ∀ y ∈ x.kids, (∀ (cs : List Value) (H : Heap), RIt H cs y → szI y ≤ 1000000 → CT Tryz.prog 54 ⟨[.agg ⟨cs⟩]⟩ [] H (fun r N => ∃ cs k, r = .tuple ⟨[.agg ⟨cs⟩, .bool (rtT y).2]⟩ ∧ N = [k] ∧ OT (rtT y).1 cs k)) := by
 intro x
 induction x using It.ind with
 | h kd nm tx kids ih =>
 refine ⟨?_, fun y hy => (ih y hy).1⟩
 intro cs H ht hz
 obtain ⟨kv, rfl, hk, hm, hks⟩ := RIt_mk.1 ht
 rw [szI] at hz
 have hle := hks.le
 have hlk0 := Y2 kids
 refine Zm Tryz.func54 rfl rfl <| Zc <| Za <| JLr (Zq (l := [iv kd, iv nm, .string tx, kv]) rfl rfl fun b1 => JLr (Zk (l := pkT 0 0 zS nS nS) Tryz.zeroValue30 rfl fun b2 => JLA rfl <| Zb <| Zc <| Za <| JLq (pp b1 0) (YR rfl rfl) <| JLr (Zd ty3 rfl (At.bx 1 rfl) rfl <| JLq (pp b1 1) (XB rfl rfl) <| JLr (Zd ty3 rfl (At.bx 1 rfl) rfl ?_))))
 refine JLq (.agg ⟨pkT kd nm zS nS nS⟩) (Pu.build (pv := [(0, iv kd), (1, iv nm)]) (l := pkT kd nm zS nS nS) rfl (bld30_0_1 _ _)) <| JLr (Zk (l := pkT 0 0 zS nS nS) Tryz.zeroValue30 rfl fun b3 => JLr (Ze 0 (vs := pkT kd nm zS nS nS) (l := pkT kd nm zS nS nS) Zt rfl rfl rfl rfl rfl (ZS rfl rfl) (YU ..) <| Zb <| Zc <| Za <| JLq (pp b1 0) (YR rfl rfl) <| JLr (Zd ty3 rfl (At.bx 2 rfl) rfl <| Jc Tryz.call49 rfl (fun hin => hasRef_ct _ _) rfl ?_)))
 rintro _ _ ⟨rfl, rfl⟩
 refine JLM rfl <| Zv 3 [23, 24, 25] [(25, cond (ZF kd) undef (.bool (decide (tx = ⟨#[]⟩))))] ?_ fun f5 => ?_
 ·cases h4 : (ZF kd) with
  | false =>
   refine JLq (pp b1 2) (YB rfl rfl) <| JLr (Zd ty9 rfl (At.bx 2 rfl) rfl <| JLn (Pu.eqlS rfl rfl) ?_)
   exact Zb ⟨⟨rfl, trivial⟩, rfl⟩
  | true =>
   exact Zy rfl ⟨rfl, trivial⟩
 refine JLn (Pu.pickOr rfl rfl rfl) <| JLA rfl <| Zb <| Zc <| Zc <| Za <| JLq (pp b1 0) (YR rfl rfl) <| JLr (Zd ty3 rfl (At.bx 2 rfl) rfl <| Jc Tryz.call49 rfl (fun hin => hasRef_ct _ _) rfl ?_)
 rintro _ _ ⟨rfl, rfl⟩
 refine Zb <| Xq (N := fun ρ M => ∃ (rx : Sm) (bx : Bool), (rx = if ZF kd = true then (Y1 tx).1 else zS) ∧ (bx = if ZF kd = true then (Y1 tx).2 else decide (tx = ⟨#[]⟩)) ∧ ρ 1 = pp b1 0 ∧ ρ 2 = pp b2 0 ∧ ρ 3 = .bool false ∧ ρ 4 = pp b3 0 ∧ ρ 5 = .bool bx ∧ M = [(BX b3 (pkT kd nm rx nS nS) 30), (BX b2 (pkT 0 0 zS nS nS) 30), (BX b1 [iv kd, iv nm, .string tx, kv] 39)]) ?_ ?_
 ·refine Zg rfl (fun h6 => ?_) (fun h6 => ?_)
  ·refine Za <| JLq (pp b1 2) (YB rfl rfl) <| JLr (Zd ty9 rfl (At.bx 2 rfl) rfl <| Jc Tryz.call90 rfl (fun hin => digest_ct _ _) rfl ?_)
   rintro _ _ ⟨rfl, rfl⟩
   refine JLM rfl <| JLn (Pu.extract rfl rfl) <| JLn (Pu.extract rfl rfl) <| JLq (pp b3 2) (fa30_2 rfl rfl) <| JLr (Ze 0 (vs := sC ((Y1 tx).1)) (l := pkT kd nm ((Y1 tx).1) nS nS) YM rfl rfl rfl rfl rfl (sC_ok _) (pkT_s2 ..) <| JLA rfl <| Zb ?_)
   exact ⟨((Y1 tx).1), ((Y1 tx).2), (if_pos h6).symm, (if_pos h6).symm, rfl, rfl, rfl, rfl, rfl, rfl⟩
  refine Zj ?_
  exact ⟨zS, ((ZF kd) || (decide (tx = ⟨#[]⟩))), (if_neg (show ¬ ZF kd = true by rw [h6]; decide)).symm, (by rw [if_neg (show ¬ ZF kd = true by rw [h6]; decide)]; have z := h6; simp [z]), rfl, rfl, rfl, rfl, rfl, rfl⟩
 rintro ρ7 _ ⟨rx, bx, hrx, hbx, e8, e9, e10, e11, e12, rfl⟩
 obtain ⟨ρ13, rfl⟩ := Zr (uc e8 (uc e9 (uc e10 (uc e11 (uc e12 un)))))
 clear e8 e9 e10 e11 e12
 refine Zc <| Zc <| Za <| JLA rfl <| Zb <| Zn <| ZB (fun k ρ M => ∃ (j : Nat) (ts : List Tm) (us : List (Pt × Tm)) (y : Value) (es : List (List Value)) (q1 q2 : Zi) (z : Value) (fs : List (List Value)) (q3 q4 : Zi) (bb : Bool), ρ 1 = pp b1 0 ∧ ρ 2 = pp b2 0 ∧ ρ 3 = .bool false ∧ ρ 4 = pp b3 0 ∧ ρ 5 = .bool bb ∧ ρ 6 = iv ((j : Int)) ∧ Sub [(BX b3 (pkT kd nm rx y z) 30), q1, q2, q3, q4, (BX b2 (pkT 0 0 zS nS nS) 30), (BX b1 [iv kd, iv nm, .string tx, kv] 39)] M ∧ j ≤ kids.length ∧ Own 30 36 y es q1 ∧ OTs ts es q2 ∧ Own 86 71 z fs q3 ∧ OCs us fs q4 ∧ YI (decide (kd = 9)) false kids [] [] bx = YI (decide (kd = 9)) (decide (0 < j)) (kids.drop j) ts us bb ∧ ts.length + us.length ≤ j ∧ k = kids.length - j) _ ⟨0, [], [], nS, [], [], [], nS, [], [], [], bx, rfl, rfl, rfl, rfl, rfl, rfl, (Sk (Sub.emp (Sub.emp (Sub.emp (Sub.emp (Sk (Sk Sub.nil))))))), Nat.zero_le _, Own.nil, OTs.nil, Own.nil, OCs.nil, rfl, (by simp), rfl⟩ ?_
 rintro _ ρ14 _ ⟨j, ts, us, y, es, q1, q2, z, fs, q3, q4, bb, e15, e16, e17, e18, e19, e20, hm21, hj, hown, hop, hown2, hop2, hinv, hpl, rfl⟩
 obtain ⟨ρ22, rfl⟩ := Zr (uc e15 (uc e16 (uc e17 (uc e18 (uc e19 (uc e20 un))))))
 clear e15 e16 e17 e18 e19 e20
 refine ZG hm21 <| Zc <| Zc <| Za <| JLM rfl <| JLq (pp b1 3) (ZP rfl rfl) <| JLr (Zd Yw rfl (At.bx 6 rfl) rfl ?_)
 obtain ⟨a23, cap23, hv23⟩ := hks.sl
 have hle23 := hks.le
 refine JLn (Pu.lenSl Tryz.runUnderlying37 hv23) <| JLn (Pu.lss rfl rfl) <| JLM rfl <| Zv 1 [43] [(43, cond (decide ((j : Int) < (kids.length : Int))) (.bool bb) undef)] ?_ fun f25 => ?_
 ·cases h24 : (decide ((j : Int) < (kids.length : Int))) with
  | true =>
   replace h24 := dt h24
   have h24n : j < kids.length := by omega
   have hz1 := Xl (List.getElem_mem h24n)
   have hlk := Y2 kids
   have hel := OTs_len hop
   have hel2 := OCs_len hop2
   have hszk : szI kids[j] = 1 + Z2 kids[j].kids := by cases kids[j]; rw [szI]; rfl
   refine JLM rfl ?_
   exact Zb ⟨⟨rfl, trivial⟩, rfl⟩
  | false =>
   exact Zy rfl ⟨rfl, trivial⟩
 refine JLn (Pu.pickAnd rfl rfl rfl) <| Zb <| Zg rfl (fun h26 => ?_) (fun h26 => ?_)
 ·obtain ⟨h26a, h26b⟩ := YC h26
  replace h26a := dt h26a
  have h26an : j < kids.length := by omega
  have hz1 := Xl (List.getElem_mem h26an)
  have hlk := Y2 kids
  have hel := OTs_len hop
  have hel2 := OCs_len hop2
  have hszk : szI kids[j] = 1 + Z2 kids[j].kids := by cases kids[j]; rw [szI]; rfl
  refine Zj <| Zc <| Zn <| Zc <| Za <| JLq (pp b1 3) (ZP rfl rfl) <| JLr (Zd Yw rfl (At.bx 6 rfl) rfl <| JLM rfl ?_)
  obtain ⟨b27, o27, cap27, row27, T27, fr27, cs27, hv27, hb27, hs27, hE27⟩ := hks.get j (by first | assumption | omega | decide | simp)
  obtain ⟨ki27, rfl, hik27, hin27, hks27⟩ := Yb hE27
  refine JLq (pp b27 (o27 + j * 4)) (Pu.idx j Tryz.runUnderlying37 ZM hv27 rfl rfl (by first | assumption | omega | decide | simp)) <| JLr (Zh ZM rfl (At.im hb27) hs27 <| JLr (Zk (l := [iv 0, iv 0, .string (⟨#[]⟩), nS]) Tryz.zeroValue39 rfl fun b28 => JLr (Ze 0 (vs := [iv ((kids[j]).kind), iv ((kids[j]).num), .string ((kids[j]).text), ki27]) (l := [iv ((kids[j]).kind), iv ((kids[j]).num), .string ((kids[j]).text), ki27]) ZM rfl rfl rfl rfl rfl (Zf rfl (Zf rfl (Zf rfl (Zf hks27.one Zo)))) rfl <| Zb <| Zc <| Zc <| Za <| JLq (pp b1 0) (YR rfl rfl) <| JLr (Zd ty3 rfl (At.bx 7 rfl) rfl <| JLn (Pu.eql rfl rfl) <| JLM rfl <| Zv 2 [56, 57] [(57, cond (decide (kd = 9)) (.bool (decide (0 < (j : Int)))) undef)] ?_ fun f30 => ?_))))
  ·cases h29 : (decide (kd = 9)) with
   | true =>
    replace h29 := dt h29
    refine JLM rfl <| JLn (Pu.gtr rfl rfl) ?_
    exact Zb ⟨⟨rfl, trivial⟩, rfl⟩
   | false =>
    exact Zy rfl ⟨rfl, trivial⟩
  refine JLn (Pu.pickAnd rfl rfl rfl) <| Zb <| Zg rfl (fun h31 => ?_) (fun h31 => ?_)
  ·obtain ⟨h31a, h31b⟩ := YC h31
   replace h31a := dt h31a
   replace h31b := dt h31b
   refine Zc <| Zc <| Za <| JLq (pp b28 0) (YR rfl rfl) <| JLr (Zd ty3 rfl (At.bx 0 rfl) rfl <| JLn (Pu.neq rfl rfl) <| JLM rfl <| Zv 3 [63, 64, 65] [(65, cond (!decide ((kids[j]).kind = 20)) undef (.bool (!decide ((kids[j]).num = 0))))] ?_ fun f33 => ?_)
   ·cases h32 : (!decide ((kids[j]).kind = 20)) with
    | false =>
     replace h32 := nf h32
     replace h32 := dt h32
     refine JLq (pp b28 1) (XB rfl rfl) <| JLr (Zd ty3 rfl (At.bx 0 rfl) rfl <| JLn (Pu.neq rfl rfl) ?_)
     exact Zb ⟨⟨rfl, trivial⟩, rfl⟩
    | true =>
     exact Zy rfl ⟨rfl, trivial⟩
   refine JLn (Pu.pickOr rfl rfl rfl) <| JLM rfl <| Zv 3 [68, 69, 70] [(70, cond ((!decide ((kids[j]).kind = 20)) || (!decide ((kids[j]).num = 0))) undef (.bool (!decide ((kids[j]).text = ⟨#[]⟩))))] ?_ fun f35 => ?_
   ·cases h34 : ((!decide ((kids[j]).kind = 20)) || (!decide ((kids[j]).num = 0))) with
    | false =>
     obtain ⟨h34a, h34b⟩ := orF h34
     replace h34a := nf h34a
     replace h34a := dt h34a
     replace h34b := nf h34b
     replace h34b := dt h34b
     refine JLq (pp b28 2) (YB rfl rfl) <| JLr (Zd ty9 rfl (At.bx 0 rfl) rfl <| JLn (Pu.neqS rfl rfl) ?_)
     exact Zb ⟨⟨rfl, trivial⟩, rfl⟩
    | true =>
     exact Zy rfl ⟨rfl, trivial⟩
   refine JLn (Pu.pickOr rfl rfl rfl) <| JLM rfl <| Zv 4 [73, 74, 75, 76] [(76, cond (((!decide ((kids[j]).kind = 20)) || (!decide ((kids[j]).num = 0))) || (!decide ((kids[j]).text = ⟨#[]⟩))) undef (.bool (!decide ((((kids[j]).kids).length : Int) = 2))))] ?_ fun f38 => ?_
   ·cases h36 : (((!decide ((kids[j]).kind = 20)) || (!decide ((kids[j]).num = 0))) || (!decide ((kids[j]).text = ⟨#[]⟩))) with
    | false =>
     obtain ⟨h36a, h36b⟩ := orF h36
     obtain ⟨h36aa, h36ab⟩ := orF h36a
     replace h36aa := nf h36aa
     replace h36aa := dt h36aa
     replace h36ab := nf h36ab
     replace h36ab := dt h36ab
     replace h36b := nf h36b
     replace h36b := dt h36b
     refine JLq (pp b28 3) (ZP rfl rfl) <| JLr (Zd Yw rfl (At.bx 0 rfl) rfl ?_)
     obtain ⟨a37, cap37, hv37⟩ := hks27.sl
     have hle37 := hks27.le
     refine JLn (Pu.lenSl Tryz.runUnderlying37 hv37) <| JLn (Pu.neq rfl rfl) ?_
     exact Zb ⟨⟨rfl, trivial⟩, rfl⟩
    | true =>
     exact Zy rfl ⟨rfl, trivial⟩
   refine JLn (Pu.pickOr rfl rfl rfl) <| Zb <| Zg rfl (fun h39 => ?_) (fun h39 => ?_)
   ·refine Zc <| Za <| JLr (Zh Zt rfl (At.bx 1 rfl) (Yz ..) <| JLr (Ze 6 (vs := pkT kd nm rx y z) (l := pkT kd nm rx y z) Zt rfl rfl rfl rfl rfl (ZS hown.one hown2.one) (YU ..) <| JLA rfl <| Zb <| Zl <| ⟨.tuple ⟨[.agg ⟨pkT kd nm rx y z⟩, .bool false]⟩, [q1 ++ (q2 ++ (q3 ++ q4))], Ret.two rfl (RV.cell Zt rfl (At.bx 6 rfl) (Yz ..)) (RV.tmp rfl), (Sub.join4 (Sd (Sd (Sk (Sk (Sk (Sk Sub.nil))))))), ?_⟩))
    have hx : rtT (.mk kd nm tx kids) = (.mk kd nm rx ts us, false) := by rw [rtT, ← hrx, ← hbx, hinv, h26b, ZW h26an, rtTs_bad (late_eq h31) (fun q => by have z := h39; simp [q.1, q.2.1, q.2.2.1, q.2.2.2] at z)]
    exact ⟨_, _, by rw [hx], rfl, by rw [hx]; exact OT_mk.2 ⟨_, _, _, _, _, _, _, _, rfl, hk, hm, hown, hop, hown2, hop2, rfl, (show ts.length ≤ 9223372036854775807 by omega), (show us.length ≤ 9223372036854775807 by omega)⟩⟩
   obtain ⟨h39a, h39b⟩ := orF h39
   obtain ⟨h39aa, h39ab⟩ := orF h39a
   obtain ⟨h39aaa, h39aab⟩ := orF h39aa
   replace h39aaa := nf h39aaa
   replace h39aaa := dt h39aaa
   replace h39aab := nf h39aab
   replace h39aab := dt h39aab
   replace h39ab := nf h39ab
   replace h39ab := dt h39ab
   replace h39b := nf h39b
   replace h39b := dt h39b
   refine Zj <| Zc ?_
   have hy2 : ((kids[j]).kids).length = 2 := by omega
   have hs2 := szIs_two hy2
   refine Za <| JLq (pp b28 3) (ZP rfl rfl) <| JLr (Zd Yw rfl (At.bx 0 rfl) rfl ?_)
   obtain ⟨b40, o40, cap40, row40, T40, fr40, cs40, hv40, hb40, hs40, hE40⟩ := hks27.get 0 (by first | assumption | omega | decide | simp)
   obtain ⟨ki40, rfl, hik40, hin40, hks40⟩ := Yb hE40
   refine JLq (pp b40 (o40 + 0 * 4)) (Pu.idx 0 Tryz.runUnderlying37 ZM hv40 rfl rfl (by first | assumption | omega | decide | simp)) <| JLr (Zh ZM rfl (At.im hb40) hs40 <| Jc Tryz.call91 rfl (fun hin => rp_ct _ _ _ (RIt.mono (Hle.hu _ _) (Yi hik40 hin40 hks40)) (by omega)) rfl ?_)
   rintro _ _ ⟨cs41, k41, rfl, rfl, hO41⟩
   refine JLM rfl <| JLn (Pu.extract rfl rfl) <| JLn (Pu.extract rfl rfl) <| JLr (Zk (l := pkP 0 0 zS nS) Tryz.zeroValue81 rfl fun b42 => JLr (Ze 0 (vs := cs41) (l := cs41) Z1 rfl rfl rfl rfl hO41.len hO41.ok (ZK (n := 35) rfl hO41.len) <| JLA rfl <| Zb <| Zc <| Za <| JLq (pp b28 3) (ZP rfl rfl) <| JLr (Zd Yw rfl (At.bx 2 rfl) rfl ?_)))
   obtain ⟨b43, o43, cap43, row43, T43, fr43, cs43, hv43, hb43, hs43, hE43⟩ := hks27.get 1 (by first | assumption | omega | decide | simp)
   obtain ⟨ki43, rfl, hik43, hin43, hks43⟩ := Yb hE43
   refine JLq (pp b43 (o43 + 1 * 4)) (Pu.idx 1 Tryz.runUnderlying37 ZM hv43 rfl rfl (by first | assumption | omega | decide | simp)) <| JLr (Zh ZM rfl (At.im hb43) hs43 <| Jc Tryz.call54 rfl (fun hin => (ih _ (List.getElem_mem h26an)).2 _ (List.getElem_mem (by omega)) _ _ (RIt.mono (Hle.hu _ _) (Yi hik43 hin43 hks43)) (by omega)) rfl ?_)
   rintro _ _ ⟨cs44, k44, rfl, rfl, hO44⟩
   refine JLM rfl <| JLn (Pu.extract rfl rfl) <| JLn (Pu.extract rfl rfl) <| JLr (Zk (l := pkT 0 0 zS nS nS) Tryz.zeroValue30 rfl fun b45 => JLr (Ze 0 (vs := cs44) (l := cs44) Zt rfl rfl rfl rfl hO44.len hO44.ok (ZK (n := 36) rfl hO44.len) <| JLA rfl <| Zb <| Zc <| Za <| JLq (pp b3 35) (ZR rfl rfl) <| JLr (Zd YA rfl (At.bx 5 rfl) (ZT ..) <| JLr (Zh Z1 rfl (At.bx 2 rfl) (Zs hO41.len) <| JLr (Zh Zt rfl (At.bx 0 rfl) (Zs hO44.len) ?_)))))
   refine JLq (.agg ⟨cs41 ++ cs44⟩) (Pu.build (pv := [(0, .agg ⟨cs41⟩), (1, .agg ⟨cs44⟩)]) (l := cs41 ++ cs44) rfl (bld86_0_1 hO41.len hO44.len)) <| JLr (Zp (vs := [.agg ⟨cs41 ++ cs44⟩]) [cs41 ++ cs44] Tryz.runUnderlying28 el86 rfl rfl (by intro e he; simp only [List.mem_cons, List.not_mem_nil, or_false] at he; subst he; exact (Z6 hO41.len hO44.len)) rfl (by decide) fun b46 k46 ho46 hk46 => ?_)
   have hlens47 : ∀ e ∈ ([cs41 ++ cs44] : List (List Value)), List.length e = 71 := by
    intro e he; simp only [List.mem_cons, List.not_mem_nil, or_false] at he
    rcases he with rfl
    ·exact (Z6 hO41.len hO44.len)
   have hoks47 : ∀ e ∈ ([cs41 ++ cs44] : List (List Value)), okc e := by
    intro e he; simp only [List.mem_cons, List.not_mem_nil, or_false] at he
    rcases he with rfl
    ·exact (Yg hO41.ok hO44.ok)
   refine JLr (Zx (i := 9) (n := 1) (es' := [cs41 ++ cs44]) Tryz.runUnderlying28 Tryz.runUnderlying28 (Or.inl rfl) el86 rfl rfl rfl hown2 (fun F w m => Src.row (((At.k 0 rfl (by rw [hk46]; exact List.mem_cons_self))).heap m) (Zs (Zw hlens47))) rfl hlens47 hoks47 (by decide) (by omega) fun v47 k47 ho47 => JLM rfl <| JLM rfl <| Zv 1 [104] [(104, cond ((rpP (((kids[j]).kids)[0])).2) (.bool ((rtT (((kids[j]).kids)[1])).2)) undef)] ?_ fun f49 => ?_)
   ·cases h48 : ((rpP (((kids[j]).kids)[0])).2) with
    | true =>
     refine JLM rfl ?_
     exact Zb ⟨⟨rfl, trivial⟩, rfl⟩
    | false =>
     exact Zy rfl ⟨rfl, trivial⟩
   refine JLn (Pu.pickAnd rfl rfl rfl) <| JLq (pp b3 35) (ZR rfl rfl) <| JLr (Ze 6 (vs := [v47]) (l := pkT kd nm rx y v47) YA rfl rfl rfl (ZH ho47.one) rfl (Zf ho47.one Zo) (pkT_s35 ..) <| JLA rfl <| Zb <| Zz _ rfl <| Za <| JLM rfl <| JLn (Pu.inc rfl rfl (by omega)) <| JLA rfl <| Zb <| ⟨_, ?_, (j + 1), ts, (us ++ [((rpP (((kids[j]).kids)[0])).1, (rtT (((kids[j]).kids)[1])).1)]), y, es, q1, q2, v47, (fs ++ [cs41 ++ cs44]), k47, (q4 ++ (k41 ++ k44)), (((rpP (((kids[j]).kids)[0])).2) && ((rtT (((kids[j]).kids)[1])).2)), rfl, rfl, rfl, rfl, rfl, rfl, (Sd (Sd (Sub.cons 4 rfl (Sub.cons 4 rfl (Sub.cons 4 rfl (Sub.cons 4 rfl (Sub.join3 (Sub.cons 4 rfl (Sub.cons 2 rfl (Sk (Sd (Sd (Sk (Sk Sub.nil)))))))))))))), ?_, ?_, ?_, ?_, ?_, ?_, ?_, rfl⟩)
   ·omega
   ·omega
   ·exact hown
   ·exact hop
   ·exact ho47
   ·exact OCs.snoc hO41 hO44 hop2
   ·rw [h26b, ZW h26an, rtTs_case (late_eq h31) (by omega) (by omega) (by have z := h39; simp at z; exact z.1.2) (by omega)] at hinv; rw [late_s]; exact hinv
   simp; omega
  refine Zj <| Zc <| Za <| JLr (Zh ZM rfl (At.bx 0 rfl) rfl <| Jc Tryz.call54 rfl (fun hin => (ih _ (List.getElem_mem h26an)).1 _ _ (RIt.mono (Hle.hu _ _) (Yi hik27 hin27 hks27)) (by omega)) rfl ?_)
  rintro _ _ ⟨cs50, k50, rfl, rfl, hO50⟩
  refine JLM rfl <| JLn (Pu.extract rfl rfl) <| JLn (Pu.extract rfl rfl) <| JLr (Zk (l := pkT 0 0 zS nS nS) Tryz.zeroValue30 rfl fun b51 => JLr (Ze 0 (vs := cs50) (l := cs50) Zt rfl rfl rfl rfl hO50.len hO50.ok (ZK (n := 36) rfl hO50.len) <| JLA rfl <| Zb <| Za <| JLq (pp b3 34) (Z3 rfl rfl) <| JLr (Zd Y0 rfl (At.bx 3 rfl) (Z4 ..) <| JLr (Zh Zt rfl (At.bx 0 rfl) (Zs hO50.len) <| JLr (Zp (vs := [.agg ⟨cs50⟩]) [cs50] Tryz.runUnderlying27 el30 rfl rfl (by intro e he; simp only [List.mem_cons, List.not_mem_nil, or_false] at he; subst he; exact hO50.len) rfl (by decide) fun b52 k52 ho52 hk52 => ?_)))))
  have hlens53 : ∀ e ∈ ([cs50] : List (List Value)), List.length e = 36 := by
   intro e he; simp only [List.mem_cons, List.not_mem_nil, or_false] at he
   rcases he with rfl
   ·exact hO50.len
  have hoks53 : ∀ e ∈ ([cs50] : List (List Value)), okc e := by
   intro e he; simp only [List.mem_cons, List.not_mem_nil, or_false] at he
   rcases he with rfl
   ·exact hO50.ok
  refine JLr (Zx (i := 5) (n := 1) (es' := [cs50]) Tryz.runUnderlying27 Tryz.runUnderlying27 (Or.inl rfl) el30 rfl rfl rfl hown (fun F w m => Src.row (((At.k 0 rfl (by rw [hk52]; exact List.mem_cons_self))).heap m) (Zs (Zw hlens53))) rfl hlens53 hoks53 (by decide) (by omega) fun v53 k53 ho53 => JLM rfl <| JLq (pp b3 34) (Z3 rfl rfl) <| JLr (Ze 4 (vs := [v53]) (l := pkT kd nm rx v53 z) Y0 rfl rfl rfl (ZH ho53.one) rfl (Zf ho53.one Zo) (pkT_s34 ..) <| JLA rfl <| Zb <| Za <| JLM rfl <| JLn (Pu.inc rfl rfl (by omega)) <| JLA rfl <| Zb <| ⟨_, ?_, (j + 1), (ts ++ [(rtT (kids[j])).1]), us, v53, (es ++ [cs50]), k53, (q2 ++ k50), z, fs, q3, q4, ((rtT (kids[j])).2), rfl, rfl, rfl, rfl, rfl, rfl, (Sd (Sd (Sub.cons 2 rfl (Sub.cons 2 rfl (Sub.join (Sub.cons 2 rfl (Sk (Sd (Sk (Sk (Sk (Sk Sub.nil)))))))))))), ?_, ?_, ?_, ?_, ?_, ?_, ?_, rfl⟩))
  ·omega
  ·omega
  ·exact ho53
  ·exact OTs.snoc hO50 hop
  ·exact hown2
  ·exact hop2
  ·rw [h26b, ZW h26an, rtTs_kid (late_ne h31)] at hinv; rw [late_s]; exact hinv
  simp; omega
 refine Zz _ rfl <| Zc <| Za <| JLr (Zh Zt rfl (At.bx 0 rfl) (Yz ..) <| JLM rfl <| JLr (Ze 5 (vs := pkT kd nm rx y z) (l := pkT kd nm rx y z) Zt rfl rfl rfl rfl rfl (ZS hown.one hown2.one) (YU ..) <| JLA rfl <| Zb <| Zl <| ⟨.tuple ⟨[.agg ⟨pkT kd nm rx y z⟩, .bool bb]⟩, [q1 ++ (q2 ++ (q3 ++ q4))], Ret.two rfl (RV.cell Zt rfl (At.bx 5 rfl) (Yz ..)) (RV.tmp rfl), (Sub.join4 (Sd (Sk (Sk (Sk (Sk Sub.nil)))))), ?_⟩))
 have hx : rtT (.mk kd nm tx kids) = (.mk kd nm rx ts us, bb) := by rw [rtT, ← hrx, ← hbx, hinv, rt_exit h26]
 exact ⟨_, _, by rw [hx], rfl, by rw [hx]; exact OT_mk.2 ⟨_, _, _, _, _, _, _, _, rfl, hk, hm, hown, hop, hown2, hop2, rfl, (show ts.length ≤ 9223372036854775807 by omega), (show us.length ≤ 9223372036854775807 by omega)⟩⟩
end Go.Proofs.YtkjafeejpmcnkaaGreat.Hs
/-! Walks, printed by a program of this session's own (gen.py). -/
namespace Go.Proofs.YtkjafeejpmcnkaaGreat.Hs
open Go Go.Proofs
set_option maxRecDepth 100000
set_option linter.unusedVariables false
set_option linter.unusedSimpArgs false
attribute [local irreducible] JL J CT wlo DT
theorem fromR_ct (x : It) (cs : List Value) (H : Heap) (ht : RIt H cs x) (hz : szI x ≤ 10000) : CT Tryz.prog 17 ⟨[.agg ⟨cs⟩]⟩ [] H (fun r N => ∃ cs k, r = .tuple ⟨[.agg ⟨cs⟩, iv (fromR x).2]⟩ ∧ N = [k] ∧ OT (fromR x).1 cs k) := by
 have hrs := (rt_sz x).1
 refine Zm Tryz.func17 rfl rfl <| Zc <| Za <| JLr (Zq (l := cs) rfl rfl fun b1 => JLr (Zk (l := pkT 0 0 zS nS nS) Tryz.zeroValue30 rfl fun b2 => JLA rfl <| Zb <| Zc <| Za <| JLr (Zh ZM rfl (At.bx 1 rfl) (Zs (YE ht)) <| Jc Tryz.call53 rfl (fun hin => exI_ct _ _ _ _ (RIt.mono (Hle.hu _ _) ht) (by omega) (by omega) (by omega)) rfl ?_)))
 rintro _ _ ⟨rfl, rfl⟩
 refine JLM rfl <| JLn (Pu.extract rfl rfl) <| JLn (Pu.extract rfl rfl) <| JLA rfl <| JLA rfl <| Zb <| Zc <| Zc <| Za <| JLM rfl <| JLn (Pu.gtr rfl rfl) <| JLM rfl <| Zv 2 [16, 17] [(17, cond (decide (1000 < (exI 2000 x).1)) undef (.bool (decide (200 < (exI 2000 x).2))))] ?_ fun f4 => ?_
 ·cases h3 : (decide (1000 < (exI 2000 x).1)) with
  | false =>
   replace h3 := df h3
   refine JLM rfl <| JLn (Pu.gtr rfl rfl) ?_
   exact Zb ⟨⟨rfl, trivial⟩, rfl⟩
  | true =>
   exact Zy rfl ⟨rfl, trivial⟩
 refine JLn (Pu.pickOr rfl rfl rfl) <| Zb <| Zg rfl (fun h5 => ?_) (fun h5 => ?_)
 ·refine Zc <| Za <| JLq (.agg ⟨pkT 0 0 zS nS nS⟩) (Pu.build (pv := []) (l := pkT 0 0 zS nS nS) rfl (bld30_ )) <| JLr (Ze 0 (vs := pkT 0 0 zS nS nS) (l := pkT 0 0 zS nS nS) Zt rfl rfl rfl rfl rfl (ZS rfl rfl) (YU ..) <| JLA rfl <| Zb <| Zl <| ⟨.tuple ⟨[.agg ⟨pkT 0 0 zS nS nS⟩, iv 4]⟩, [[]], Ret.two rfl (RV.cell Zt rfl (At.bx 0 rfl) (Yz ..)) (RV.tmp rfl), (Sub.emp Sub.nil), ?_⟩)
  have hx : fromR x = (zT, 4) := by exact fromR_l (by have z := h5; simpa using z)
  exact ⟨_, _, by rw [hx], rfl, by rw [hx]; exact XI⟩
 obtain ⟨h5a, h5b⟩ := orF h5
 replace h5a := df h5a
 replace h5b := df h5b
 refine Zj <| Zc <| Za <| JLr (Zh ZM rfl (At.bx 1 rfl) (Zs (YE ht)) <| Jc Tryz.call54 rfl (fun hin => (rt0_ct x).1 _ _ (RIt.mono (Hle.hu _ _) ht) (by omega)) rfl ?_)
 rintro _ _ ⟨cs6, k6, rfl, rfl, hO6⟩
 refine JLM rfl <| JLn (Pu.extract rfl rfl) <| JLn (Pu.extract rfl rfl) <| JLr (Zk (l := pkT 0 0 zS nS nS) Tryz.zeroValue30 rfl fun b7 => JLr (Ze 0 (vs := cs6) (l := cs6) Zt rfl rfl rfl rfl hO6.len hO6.ok (ZK (n := 36) rfl hO6.len) <| JLA rfl <| Zb <| Zc <| Zc <| Za <| JLM rfl <| JLn (Pu.not rfl) <| JLM rfl ?_))
 refine Zv 3 [28, 29, 30] [(30, cond (!((rtT x).2)) undef (.bool (!decide (ZX 60 8 ((rtT x).1) = 0))))] ?_ fun f9 => ?_
 ·cases h8 : (!((rtT x).2)) with
  | false =>
   replace h8 := nf h8
   refine JLr (Zh Zt rfl (At.bx 0 rfl) (Zs hO6.len) <| Jc Tryz.call48 rfl (fun hin => rightR_ct _ _ _ (hO6.rd (hin 1 _ rfl)) (by omega)) rfl ?_)
   rintro _ _ ⟨rfl, rfl⟩
   refine JLn (Pu.neq rfl rfl) ?_
   exact Zb ⟨⟨rfl, trivial⟩, rfl⟩
  | true =>
   exact Zy rfl ⟨rfl, trivial⟩
 refine JLn (Pu.pickOr rfl rfl rfl) <| Zb <| Zg rfl (fun h10 => ?_) (fun h10 => ?_)
 ·refine Zc <| Za <| JLq (.agg ⟨pkT 0 0 zS nS nS⟩) (Pu.build (pv := []) (l := pkT 0 0 zS nS nS) rfl (bld30_ )) <| JLr (Ze 2 (vs := pkT 0 0 zS nS nS) (l := pkT 0 0 zS nS nS) Zt rfl rfl rfl rfl rfl (ZS rfl rfl) (YU ..) <| JLA rfl <| Zb <| Zl <| ⟨.tuple ⟨[.agg ⟨pkT 0 0 zS nS nS⟩, iv 4]⟩, [[]], Ret.two rfl (RV.cell Zt rfl (At.bx 2 rfl) (Yz ..)) (RV.tmp rfl), (Sub.emp Sub.nil), ?_⟩)
  have hx : fromR x = (zT, 4) := by by_cases hb : (rtT x).2 = true; (exact fromR_r (fun q => by omega) (fun q => by have z := h10; simp [hb, q] at z)); (exact fromR_w (fun q => by omega) (by simpa using hb))
  exact ⟨_, _, by rw [hx], rfl, by rw [hx]; exact XI⟩
 obtain ⟨h10a, h10b⟩ := orF h10
 replace h10a := nf h10a
 replace h10b := nf h10b
 replace h10b := dt h10b
 refine Zj <| Zc <| Za <| JLr (Zh Zt rfl (At.bx 0 rfl) (Zs hO6.len) <| JLr (Ze 2 (vs := cs6) (l := cs6) Zt rfl rfl rfl rfl hO6.len hO6.ok (ZK (n := 36) rfl hO6.len) <| JLA rfl <| Zb <| Zl <| ⟨.tuple ⟨[.agg ⟨cs6⟩, iv 0]⟩, [k6], Ret.two rfl (RV.cell Zt rfl (At.bx 2 rfl) (Zs hO6.len)) (RV.tmp rfl), (Sd (Sk Sub.nil)), ?_⟩))
 have hx := fromR_ok (x := x) (fun q => by omega) (by have z := h10; simp at z; exact z.1) (by have z := h10; simp at z; exact z.2)
 exact ⟨_, _, by rw [hx], rfl, by rw [hx]; exact hO6⟩
end Go.Proofs.YtkjafeejpmcnkaaGreat.Hs
/-! Walks, printed by a program of this session's own (gen.py). -/
namespace Go.Proofs.YtkjafeejpmcnkaaGreat.Hs
open Go Go.Proofs
set_option maxRecDepth 100000
set_option linter.unusedVariables false
set_option linter.unusedSimpArgs false
attribute [local irreducible] JL J CT wlo DT
set_option maxHeartbeats 2000000 in
theorem ptG_ct : ∀ (x : It) (cs : List Value) (H : Heap) (bG : Nat) (d n : Int) (w : Bool), RIt H cs x → 0 ≤ n → n + szI x ≤ 1000000 → 0 ≤ d → d + szI x ≤ 1000000 → CT Tryz.prog 100 ⟨[pp bG 0, .agg ⟨cs⟩, iv d]⟩ [(BX bG [iv n, .bool w] 104)] H (fun r N => ∃ cs k, r = .agg ⟨cs⟩ ∧ N = [(BX bG [iv ((ptG x d (n, w)).2.1), .bool ((ptG x d (n, w)).2.2)] 104), k] ∧ OP (ptG x d (n, w)).1 cs k) := by
 intro x
 induction x using It.ind with
 | h kd nm tx kids ih =>
 intro cs H bG d n w ht hn hnz hd hdz
 obtain ⟨kv, rfl, hk, hm, hks⟩ := RIt_mk.1 ht
 rw [szI] at hnz hdz
 have hle := hks.le
 refine Zm Tryz.func100 rfl rfl <| Zc <| Za <| JLr (Zq (l := [iv kd, iv nm, .string tx, kv]) rfl rfl fun b1 => JLr (Zk (l := pkP 0 0 zS nS) Tryz.zeroValue81 rfl fun b2 => Zb <| Zc <| Zc <| Za <| JLM rfl <| JLM rfl <| ZA 2 rfl Tryz.call98 rfl rfl (fun hin => far_ct _ _ n d w (by omega) (by omega)) rfl ?_))
 rintro _ _ ⟨rfl, rfl⟩
 refine Zb <| Zg rfl (fun h3 => ?_) (fun h3 => ?_)
 ·refine Zc <| Za <| JLq (.agg ⟨pkP 0 0 zS nS⟩) (Pu.build (pv := []) (l := pkP 0 0 zS nS) rfl (bld81_ )) <| JLr (Ze 1 (vs := pkP 0 0 zS nS) (l := pkP 0 0 zS nS) Z1 rfl rfl rfl rfl rfl (pkP_ok rfl) (pkP_s ..) <| Zb <| Zl <| ⟨.agg ⟨pkP 0 0 zS nS⟩, [(BX bG [iv (n + 1), .bool ((w || decide (600 < n + 1)) || decide (62 < d))] 104), []], Ret.one rfl (RV.cell Z1 rfl (At.bx 1 rfl) (pkP_a ..)), (Sk (Sub.emp Sub.nil)), ?_⟩)
  have hx := ptG_far (k := kd) (m := nm) (t := tx) (kids := kids) h3
  exact ⟨_, _, rfl, by rw [hx, show ((w || decide (600 < n + 1)) || decide (62 < d)) = true from h3], by rw [hx]; exact OP_leaf (by unfold inI; omega) (by unfold inI; omega)⟩
 obtain ⟨h3a, h3b⟩ := orF h3
 replace h3b := df h3b
 refine Zj <| Zc <| ZG (M' := [(BX bG [iv (n + 1), .bool false] 104), (BX b2 (pkP 0 0 zS nS) 81), (BX b1 [iv kd, iv nm, .string tx, kv] 39)]) (by rw [show ((w || decide (600 < n + 1)) || decide (62 < d)) = false from h3]; exact Sub.refl) <| ZJ mixed #[0, 1, 3, 0, 8, 0, 0, 64, 192, 0, 512, 2016, 4095, 0, 16383] 14 [some 14, some 15, some 16, some 17, some 18, some 19, some 20, some 21, some 22, some 23, some 24, some 25, some 26, some 7] [(11, 14)] [(11, fun _ _ vw qw => vw = .agg ⟨sC (Ys (decide (kd = 33)) tx)⟩ ∧ qw = [(BX bG [iv (n + 1), .bool (Yy (decide (kd = 33)) tx)] 104)]), (13, newP 81 (pkP 0 0 zS nS))] rfl (by kernel_rfl) rfl (by kernel_rfl) <| Dq (pp b1 0) (fun _ => YR rfl rfl) <| Dl1 ty3 (At.bx 1 rfl) rfl <| Dq (iv (Yr kd)) (fun _ => Pu.arithS rfl rfl rfl) <| Dq (pp b1 1) (fun _ => XB rfl rfl) <| Dl1 ty3 (At.bx 1 rfl) rfl <| DM (fun _ => rfl) <| Dq (pp b1 0) (fun _ => YR rfl rfl) <| Dl1 ty3 (At.bx 2 rfl) rfl <| Dn (fun _ => Pu.eql rfl rfl) ?_
 refine Dq (pp b1 2) (fun _ => YB rfl rfl) <| Dl1 ty9 (At.bx 2 rfl) rfl <| XK 0 rfl rfl (fun _ => rfl) Tryz.call99 (fun _ => rfl) rfl (fun hin => ref_ct tx (decide (kd = 33)) _ _ _) (fun _ => rfl) ?_
 rintro _ _ ⟨rfl, rfl⟩
 refine Dq (.agg ⟨pkP (Yr kd) nm (Ys (decide (kd = 33)) tx) nS⟩) (fun _ => Pu.build (pv := [(0, iv (Yr kd)), (1, iv nm), (2, .agg ⟨sC (Ys (decide (kd = 33)) tx)⟩)]) (l := pkP (Yr kd) nm (Ys (decide (kd = 33)) tx) nS) rfl (bld81_0_1_2 _ _ _)) <| Da Tryz.zeroValue81 rfl fun b5 => ZV (M' := [(BX b5 (pkP 0 0 zS nS) 81), (BX bG [iv (n + 1), .bool (Yy (decide (kd = 33)) tx)] 104), (BX b2 (pkP 0 0 zS nS) 81), (BX b1 [iv kd, iv nm, .string tx, kv] 39)]) rfl ?_
 show JL _ _ _ [_] _ _ _
 refine JLr (Ze 0 (vs := pkP (Yr kd) nm (Ys (decide (kd = 33)) tx) nS) (l := pkP (Yr kd) nm (Ys (decide (kd = 33)) tx) nS) Z1 rfl rfl rfl rfl rfl (pkP_ok rfl) (pkP_s ..) <| Zb <| Zc <| Zc <| Za <| JLq (pp b1 3) (ZP rfl rfl) <| JLr (Zd Yw rfl (At.bx 3 rfl) rfl ?_))
 obtain ⟨a6, cap6, hv6⟩ := hks.sl
 have hle6 := hks.le
 refine JLn (Pu.lenSl Tryz.runUnderlying37 hv6) <| JLM rfl <| Zb <| Zn <| ZB (fun k ρ M => ∃ (j : Nat) (ps : List Pt) (y : Value) (es : List (List Value)) (q1 q2 : Zi) (nn : Int) (ww : Bool), ρ 0 = pp bG 0 ∧ ρ 2 = iv d ∧ ρ 6 = pp b2 0 ∧ ρ 7 = pp b5 0 ∧ ρ 28 = kv ∧ ρ 29 = iv ((kids.length : Int)) ∧ ρ 30 = iv ((j : Int)) ∧ Sub [(BX b5 (pkP (Yr kd) nm (Ys (decide (kd = 33)) tx) y) 81), q1, q2, (BX bG [iv nn, .bool ww] 104), (BX b2 (pkP 0 0 zS nS) 81), (BX b1 [iv kd, iv nm, .string tx, kv] 39)] M ∧ j ≤ kids.length ∧ Own 81 35 y es q1 ∧ OPs ps es q2 ∧ Xp kids (d + 1) (n + 1, Yy (decide (kd = 33)) tx) = (ps ++ (Xp (kids.drop j) (d + 1) (nn, ww)).1, (Xp (kids.drop j) (d + 1) (nn, ww)).2) ∧ 0 ≤ nn ∧ nn + Z2 (kids.drop j) ≤ n + 1 + Z2 kids ∧ ps.length = j ∧ k = kids.length - j) _ ⟨0, [], nS, [], [], [], n + 1, (Yy (decide (kd = 33)) tx), rfl, rfl, rfl, rfl, rfl, rfl, rfl, (Sk (Sub.emp (Sub.emp (Sk (Sk (Sk Sub.nil)))))), Nat.zero_le _, Own.nil, OPs.nil, rfl, (by omega), (by simp), rfl, rfl⟩ ?_
 rintro _ ρ7 _ ⟨j, ps, y, es, q1, q2, nn, ww, e8, e9, e10, e11, e12, e13, e14, hm15, hj, hown, hop, hinv, hnn, hnl, hpl, rfl⟩
 obtain ⟨ρ16, rfl⟩ := Zr (uc e8 (uc e9 (uc e10 (uc e11 (uc e12 (uc e13 (uc e14 un)))))))
 clear e8 e9 e10 e11 e12 e13 e14
 refine ZG hm15 <| Zc <| Za <| JLn (Pu.lss rfl rfl) <| Zb <| Zc <| Zg rfl (fun h17 => ?_) (fun h17 => ?_)
 ·replace h17 := dt h17
  have h17n : j < kids.length := by omega
  have hz1 := Xl (List.getElem_mem h17n)
  have hsd := szIs_drop h17n
  have hct := ptG_cnt (kids[j]) (d + 1) (nn, ww)
  have hlk := Y2 kids
  have hel := OPs_len hop
  simp only at hct
  refine Zj <| Zc <| Zn <| Zc <| Za ?_
  obtain ⟨b18, o18, cap18, row18, T18, fr18, cs18, hv18, hb18, hs18, hE18⟩ := hks.get j (by first | assumption | omega | decide | simp)
  obtain ⟨ki18, rfl, hik18, hin18, hks18⟩ := Yb hE18
  refine JLq (pp b18 (o18 + j * 4)) (Pu.idx j Tryz.runUnderlying37 ZM hv18 rfl rfl (by first | assumption | omega | decide | simp)) <| JLr (Zh ZM rfl (At.im hb18) hs18 <| JLr (Zk (l := [iv 0, iv 0, .string (⟨#[]⟩), nS]) Tryz.zeroValue39 rfl fun b19 => JLr (Ze 0 (vs := [iv ((kids[j]).kind), iv ((kids[j]).num), .string ((kids[j]).text), ki18]) (l := [iv ((kids[j]).kind), iv ((kids[j]).num), .string ((kids[j]).text), ki18]) ZM rfl rfl rfl rfl rfl (Zf rfl (Zf rfl (Zf rfl (Zf hks18.one Zo)))) rfl <| Zb <| ZJ mixed #[0, 1, 0, 0, 0, 16, 60, 124, 255, 511, 1023] 8 [some 34, some 35, some 36, some 37, some 38, some 39, some 40, some 41] [(6, 12)] [(6, fun _ _ vw qw => ∃ cs k, vw = .agg ⟨cs⟩ ∧ qw = [(BX bG [iv ((ptG (kids[j]) (d + 1) (nn, ww)).2.1), .bool ((ptG (kids[j]) (d + 1) (nn, ww)).2.2)] 104), k] ∧ OP (ptG (kids[j]) (d + 1) (nn, ww)).1 cs k), (7, fun r _ vw qw => ∃ b k, vw = .slice (some ⟨b, 0, none⟩) 1 1 ∧ qw = [k] ∧ Own 81 35 (.slice (some ⟨b, 0, none⟩) 1 1) [(cel (r 6))] k ∧ k = (BX b (List.flatten [(cel (r 6))]) 81))] rfl (by kernel_rfl) rfl (by kernel_rfl) <| Dq (pp b5 34) (fun _ => Z5 rfl rfl) <| Dl1 Xa (At.bx 1 rfl) (Yf ..) <| DM (fun _ => rfl) <| Dl ZM (At.bx 0 rfl) rfl <| DM (fun _ => rfl) ?_)))
  refine Dn (fun _ => Pu.add64 rfl rfl (by first | omega | (constructor <;> omega))) ?_
  refine XK 4 rfl rfl (fun _ => rfl) Tryz.call100 (fun _ => rfl) rfl (fun hin => ih _ (List.getElem_mem h17n) _ _ _ _ _ _ (RIt.mono (Hle.hu _ _) (Yi hik18 hin18 hks18)) (by omega) (by omega) (by omega) (by omega)) (fun _ => rfl) ?_
  rintro _ _ ⟨cs22, k22, rfl, rfl, hO22⟩
  refine Dr rfl (fun _ => Zp (vs := [.agg ⟨cs22⟩]) [cs22] Tryz.runUnderlying79 el81 rfl rfl (by intro e he; simp only [List.mem_cons, List.not_mem_nil, or_false] at he; subst he; exact hO22.len) rfl (by decide) fun b k h1 h2 => ⟨[k], by rw [ZN rfl]; exact Sub.refl, b, k, rfl, rfl, h1, h2⟩) (fun _ _ ⟨b23, k23, e1, e2, ho23, hk23⟩ => ?_); subst e1 e2
  refine ZV (M' := [k23, (BX bG [iv ((ptG (kids[j]) (d + 1) (nn, ww)).2.1), .bool ((ptG (kids[j]) (d + 1) (nn, ww)).2.2)] 104), k22, (BX b19 [iv ((kids[j]).kind), iv ((kids[j]).num), .string ((kids[j]).text), ki18] 39), (BX b5 (pkP (Yr kd) nm (Ys (decide (kd = 33)) tx) y) 81), q1, q2, (BX b2 (pkP 0 0 zS nS) 81), (BX b1 [iv kd, iv nm, .string tx, kv] 39)]) rfl ?_
  show JL _ _ _ [_, _, _] _ _ _
  have hlens24 : ∀ e ∈ ([cs22] : List (List Value)), List.length e = 35 := by
   intro e he; simp only [List.mem_cons, List.not_mem_nil, or_false] at he
   rcases he with rfl
   ·exact hO22.len
  have hoks24 : ∀ e ∈ ([cs22] : List (List Value)), okc e := by
   intro e he; simp only [List.mem_cons, List.not_mem_nil, or_false] at he
   rcases he with rfl
   ·exact hO22.ok
  refine JLr (Zx (i := 5) (n := 1) (es' := [cs22]) Tryz.runUnderlying79 Tryz.runUnderlying79 (Or.inl rfl) el81 rfl rfl rfl hown (fun F w m => Src.row (((At.k 0 rfl (by rw [hk23]; exact List.mem_cons_self))).heap m) (Zs (Zw hlens24))) rfl hlens24 hoks24 (by decide) (by omega) fun v24 k24 ho24 => JLq (pp b5 34) (Z5 rfl rfl) <| JLr (Ze 4 (vs := [v24]) (l := pkP (Yr kd) nm (Ys (decide (kd = 33)) tx) v24) Xa rfl rfl rfl (ZH ho24.one) rfl (Zf ho24.one Zo) (pkP_s34 ..) <| Zb <| Za <| JLn (Pu.inc rfl rfl (by omega)) <| JLM rfl <| Zb <| ⟨_, ?_, (j + 1), (ps ++ [(ptG (kids[j]) (d + 1) (nn, ww)).1]), v24, (es ++ [cs22]), k24, (q2 ++ k22), (ptG (kids[j]) (d + 1) (nn, ww)).2.1, ((ptG (kids[j]) (d + 1) (nn, ww)).2.2), rfl, rfl, rfl, rfl, rfl, rfl, rfl, (Sd (Sub.cons 3 rfl (Sub.cons 3 rfl (Sub.join (Sub.cons 3 rfl (Sub.cons 1 rfl (Sk (Sd (Sk (Sk Sub.nil)))))))))), ?_, ?_, ?_, ?_, ?_, ?_, ?_, rfl⟩))
  ·omega
  ·omega
  ·exact ho24
  ·exact OPs.snoc hO22 hop
  ·rw [ptGs_cons h17n] at hinv; rw [hinv]; simp
  ·omega
  ·omega
  simp [hpl]
 replace h17 := df h17
 have h17n : kids.length ≤ j := by omega
 refine Zz _ rfl <| Zc <| Za <| JLr (Zh Z1 rfl (At.bx 0 rfl) (pkP_a ..) <| JLr (Ze 4 (vs := pkP (Yr kd) nm (Ys (decide (kd = 33)) tx) y) (l := pkP (Yr kd) nm (Ys (decide (kd = 33)) tx) y) Z1 rfl rfl rfl rfl rfl (pkP_ok hown.one) (pkP_s ..) <| Zb <| Zl <| ⟨.agg ⟨pkP (Yr kd) nm (Ys (decide (kd = 33)) tx) y⟩, [(BX bG [iv nn, .bool ww] 104), q1 ++ q2], Ret.one rfl (RV.cell Z1 rfl (At.bx 4 rfl) (pkP_a ..)), (Sd (Sub.cons 2 rfl (Sub.join (Sk (Sk Sub.nil))))), ?_⟩))
 have hx := ptG_near (k := kd) (m := nm) (t := tx) (kids := kids) h3
 rw [YL h17n, Xp, List.append_nil] at hinv
 rw [hinv] at hx
 exact ⟨_, _, rfl, by rw [hx], by rw [hx]; exact OP_mk.2 ⟨_, _, _, _, rfl, wr30_inI _, hm, hown, hop, rfl, (show ps.length ≤ 9223372036854775807 by have := Y2 kids; omega)⟩⟩
end Go.Proofs.YtkjafeejpmcnkaaGreat.Hs
/-! Walks, printed by a program of this session's own (gen.py). -/
namespace Go.Proofs.YtkjafeejpmcnkaaGreat.Hs
open Go Go.Proofs
set_option maxRecDepth 100000
set_option linter.unusedVariables false
set_option linter.unusedSimpArgs false
attribute [local irreducible] JL J CT wlo DT
set_option maxHeartbeats 4000000 in
theorem tmG0_ct : ∀ (x : It), (∀ (cs : List Value) (H : Heap) (bG : Nat) (d n : Int) (w : Bool), RIt H cs x → 0 ≤ n → n + szI x ≤ 1000000 → 0 ≤ d → d + szI x ≤ 1000000 → CT Tryz.prog 58 ⟨[pp bG 0, .agg ⟨cs⟩, iv d]⟩ [(BX bG [iv n, .bool w] 104)] H (fun r N => ∃ cs k, r = .agg ⟨cs⟩ ∧ N = [(BX bG [iv ((tmG x d (n, w)).2.1), .bool ((tmG x d (n, w)).2.2)] 104), k] ∧ OT (tmG x d (n, w)).1 cs k)) ∧ ∀ y ∈ x.kids, (∀ (cs : List Value) (H : Heap) (bG : Nat) (d n : Int) (w : Bool), RIt H cs y → 0 ≤ n → n + szI y ≤ 1000000 → 0 ≤ d → d + szI y ≤ 1000000 → CT Tryz.prog 58 ⟨[pp bG 0, .agg ⟨cs⟩, iv d]⟩ [(BX bG [iv n, .bool w] 104)] H (fun r N => ∃ cs k, r = .agg ⟨cs⟩ ∧ N = [(BX bG [iv ((tmG y d (n, w)).2.1), .bool ((tmG y d (n, w)).2.2)] 104), k] ∧ OT (tmG y d (n, w)).1 cs k)) := by
 intro x
 induction x using It.ind with
 | h kd nm tx kids ih =>
 refine ⟨?_, fun y hy => (ih y hy).1⟩
 intro cs H bG d n w ht hn hnz hd hdz
 obtain ⟨kv, rfl, hk, hm, hks⟩ := RIt_mk.1 ht
 rw [szI] at hnz hdz
 have hle := hks.le
 refine Zm Tryz.func58 rfl rfl <| Zc <| Za <| JLr (Zq (l := [iv kd, iv nm, .string tx, kv]) rfl rfl fun b1 => JLr (Zk (l := pkT 0 0 zS nS nS) Tryz.zeroValue30 rfl fun b2 => Zb <| Zc <| Zc <| Za <| JLM rfl <| JLM rfl <| ZA 2 rfl Tryz.call98 rfl rfl (fun hin => far_ct _ _ n d w (by omega) (by omega)) rfl ?_))
 rintro _ _ ⟨rfl, rfl⟩
 refine Zb <| Zg rfl (fun h3 => ?_) (fun h3 => ?_)
 ·refine Zc <| Za <| JLq (.agg ⟨pkT 0 0 zS nS nS⟩) (Pu.build (pv := []) (l := pkT 0 0 zS nS nS) rfl (bld30_ )) <| JLr (Ze 1 (vs := pkT 0 0 zS nS nS) (l := pkT 0 0 zS nS nS) Zt rfl rfl rfl rfl rfl (ZS rfl rfl) (YU ..) <| Zb <| Zl <| ⟨.agg ⟨pkT 0 0 zS nS nS⟩, [(BX bG [iv (n + 1), .bool ((w || decide (600 < n + 1)) || decide (62 < d))] 104), []], Ret.one rfl (RV.cell Zt rfl (At.bx 1 rfl) (Yz ..)), (Sk (Sub.emp Sub.nil)), ?_⟩)
  have hx := tmG_far (k := kd) (m := nm) (t := tx) (kids := kids) h3
  exact ⟨_, _, rfl, by rw [hx, show ((w || decide (600 < n + 1)) || decide (62 < d)) = true from h3], by rw [hx]; exact XI⟩
 obtain ⟨h3a, h3b⟩ := orF h3
 replace h3b := df h3b
 refine Zj <| Zc <| ZG (M' := [(BX bG [iv (n + 1), .bool false] 104), (BX b2 (pkT 0 0 zS nS nS) 30), (BX b1 [iv kd, iv nm, .string tx, kv] 39)]) (by rw [show ((w || decide (600 < n + 1)) || decide (62 < d)) = false from h3]; exact Sub.refl) <| ZJ mixed #[0, 1, 0, 4, 0, 0, 32, 96, 224, 0, 512, 2032, 4095, 0, 16383] 14 [some 14, some 15, some 16, some 17, some 18, some 19, some 20, some 21, some 22, some 23, some 24, some 25, some 26, some 7] [(11, 14)] [(7, fun _ _ vw qw => vw = .agg ⟨[.bool (fN kd), .bool (fR kd), .bool (fC kd)]⟩ ∧ qw = []), (11, fun _ _ vw qw => vw = .agg ⟨sC (Ys (fR kd) tx)⟩ ∧ qw = [(BX bG [iv (n + 1), .bool (Yy (fR kd) tx)] 104)]), (13, newP 30 (pkT 0 0 zS nS nS))] rfl (by kernel_rfl) rfl (by kernel_rfl) <| Dq (pp b1 0) (fun _ => YR rfl rfl) <| Dl1 ty3 (At.bx 1 rfl) rfl <| Dq (pp b1 1) (fun _ => XB rfl rfl) <| Dl1 ty3 (At.bx 1 rfl) rfl <| DM (fun _ => rfl) <| Dq (pp b1 0) (fun _ => YR rfl rfl) <| Dl1 ty3 (At.bx 2 rfl) rfl <| Dc rfl Tryz.call93 (fun _ => rfl) (fun hin => fields_ct _ _) ?_
 rintro _ _ ⟨rfl, rfl⟩
 refine Dq (.bool (fR kd)) (fun _ => Pu.idxV 1 Tryz.runUnderlying152 ty4 rfl rfl rfl (by decide) rfl) <| Dq (pp b1 2) (fun _ => YB rfl rfl) <| Dl1 ty9 (At.bx 2 rfl) rfl <| XK 0 rfl rfl (fun _ => rfl) Tryz.call99 (fun _ => rfl) rfl (fun hin => ref_ct tx (fR kd) _ _ _) (fun _ => rfl) ?_
 rintro _ _ ⟨rfl, rfl⟩
 refine Dq (.agg ⟨pkT kd nm (Ys (fR kd) tx) nS nS⟩) (fun _ => Pu.build (pv := [(0, iv kd), (1, iv nm), (2, .agg ⟨sC (Ys (fR kd) tx)⟩)]) (l := pkT kd nm (Ys (fR kd) tx) nS nS) rfl (bld30_0_1_2 _ _ _)) <| Da Tryz.zeroValue30 rfl fun b5 => ZV (M' := [(BX b5 (pkT 0 0 zS nS nS) 30), (BX bG [iv (n + 1), .bool (Yy (fR kd) tx)] 104), (BX b2 (pkT 0 0 zS nS nS) 30), (BX b1 [iv kd, iv nm, .string tx, kv] 39)]) rfl ?_
 show JL _ _ _ [_] _ _ _
 refine JLr (Ze 0 (vs := pkT kd nm (Ys (fR kd) tx) nS nS) (l := pkT kd nm (Ys (fR kd) tx) nS nS) Zt rfl rfl rfl rfl rfl (ZS rfl rfl) (YU ..) <| Zb <| Zc <| Zc <| Za <| JLq (pp b1 3) (ZP rfl rfl) <| JLr (Zd Yw rfl (At.bx 3 rfl) rfl ?_))
 obtain ⟨a6, cap6, hv6⟩ := hks.sl
 have hle6 := hks.le
 refine JLn (Pu.lenSl Tryz.runUnderlying37 hv6) <| JLM rfl <| Zb <| Zn <| ZB (fun k ρ M => ∃ (j : Nat) (ts : List Tm) (us : List (Pt × Tm)) (y : Value) (es : List (List Value)) (q1 q2 : Zi) (z : Value) (fs : List (List Value)) (q3 q4 : Zi) (nn : Int) (ww : Bool), ρ 0 = pp bG 0 ∧ ρ 2 = iv d ∧ ρ 6 = pp b2 0 ∧ ρ 7 = pp b5 0 ∧ ρ 28 = kv ∧ ρ 29 = iv ((kids.length : Int)) ∧ ρ 30 = iv ((j : Int)) ∧ Sub [(BX b5 (pkT kd nm (Ys (fR kd) tx) y z) 30), q1, q2, q3, q4, (BX bG [iv nn, .bool ww] 104), (BX b2 (pkT 0 0 zS nS nS) 30), (BX b1 [iv kd, iv nm, .string tx, kv] 39)] M ∧ j ≤ kids.length ∧ Own 30 36 y es q1 ∧ OTs ts es q2 ∧ Own 86 71 z fs q3 ∧ OCs us fs q4 ∧ Yx kids (d + 1) [] [] (n + 1, Yy (fR kd) tx) = Yx (kids.drop j) (d + 1) ts us (nn, ww) ∧ 0 ≤ nn ∧ nn + Z2 (kids.drop j) ≤ n + 1 + Z2 kids ∧ ts.length + us.length ≤ j ∧ k = kids.length - j) _ ⟨0, [], [], nS, [], [], [], nS, [], [], [], n + 1, (Yy (fR kd) tx), rfl, rfl, rfl, rfl, rfl, rfl, rfl, (Sk (Sub.emp (Sub.emp (Sub.emp (Sub.emp (Sk (Sk (Sk Sub.nil)))))))), Nat.zero_le _, Own.nil, OTs.nil, Own.nil, OCs.nil, rfl, (by omega), (by simp), (by simp), rfl⟩ ?_
 rintro _ ρ7 _ ⟨j, ts, us, y, es, q1, q2, z, fs, q3, q4, nn, ww, e8, e9, e10, e11, e12, e13, e14, hm15, hj, hown, hop, hown2, hop2, hinv, hnn, hnl, hpl, rfl⟩
 obtain ⟨ρ16, rfl⟩ := Zr (uc e8 (uc e9 (uc e10 (uc e11 (uc e12 (uc e13 (uc e14 un)))))))
 clear e8 e9 e10 e11 e12 e13 e14
 refine ZG hm15 <| Zc <| Za <| JLn (Pu.lss rfl rfl) <| Zb <| Zc <| Zg rfl (fun h17 => ?_) (fun h17 => ?_)
 ·replace h17 := dt h17
  have h17n : j < kids.length := by omega
  have hz1 := Xl (List.getElem_mem h17n)
  have hsd := szIs_drop h17n
  have hct := (tmG_cnt (kids[j])).1 (d + 1)
  have hlk := Y2 kids
  have hel := OTs_len hop
  have hel2 := OCs_len hop2
  have hszk : szI kids[j] = 1 + Z2 kids[j].kids := by cases kids[j]; rw [szI]; rfl
  refine Zj <| Zc <| Zn <| Zc <| Za ?_
  obtain ⟨b18, o18, cap18, row18, T18, fr18, cs18, hv18, hb18, hs18, hE18⟩ := hks.get j (by first | assumption | omega | decide | simp)
  obtain ⟨ki18, rfl, hik18, hin18, hks18⟩ := Yb hE18
  refine JLq (pp b18 (o18 + j * 4)) (Pu.idx j Tryz.runUnderlying37 ZM hv18 rfl rfl (by first | assumption | omega | decide | simp)) <| JLr (Zh ZM rfl (At.im hb18) hs18 <| JLr (Zk (l := [iv 0, iv 0, .string (⟨#[]⟩), nS]) Tryz.zeroValue39 rfl fun b19 => JLr (Ze 0 (vs := [iv ((kids[j]).kind), iv ((kids[j]).num), .string ((kids[j]).text), ki18]) (l := [iv ((kids[j]).kind), iv ((kids[j]).num), .string ((kids[j]).text), ki18]) ZM rfl rfl rfl rfl rfl (Zf rfl (Zf rfl (Zf rfl (Zf hks18.one Zo)))) rfl <| Zb <| Zn <| Zc <| Za <| JLq (pp b19 0) (YR rfl rfl) <| JLr (Zd ty3 rfl (At.bx 0 rfl) rfl <| JLn (Pu.neq rfl rfl) <| JLA rfl <| Zb ?_))))
  refine Zg rfl (fun h20 => ?_) (fun h20 => ?_)
  ·replace h20 := nt h20
   replace h20 := df h20
   refine Zc <| Za <| JLM rfl <| JLM rfl <| JLq (pp bG 0) (Pu.nilCheck rfl) <| JLq (pp bG 1) (YZ rfl rfl) <| JLr (Zd ty4 rfl (At.bx 6 rfl) rfl <| JLM rfl <| Zv 4 [66, 67, 68, 69] [(69, cond ww undef (.bool (decide (0 < (us.length : Int)))))] ?_ fun f23 => ?_)
   ·cases h21 : ww with
    | false =>
     refine JLq (pp b5 35) (ZR rfl rfl) <| JLr (Zd YA rfl (At.bx 1 rfl) (ZT ..) ?_)
     obtain ⟨a22, cap22, hv22⟩ := hown2.sl
     rw [hel2] at hv22
     refine JLn (Pu.lenSl Tryz.runUnderlying28 hv22) <| JLn (Pu.gtr rfl rfl) ?_
     exact Zb ⟨⟨rfl, trivial⟩, rfl⟩
    | true =>
     exact Zy rfl ⟨rfl, trivial⟩
   refine JLn (Pu.pickOr rfl rfl rfl) <| JLq (pp bG 0) (Pu.nilCheck rfl) <| JLq (pp bG 1) (YZ rfl rfl) <| JLr (Ze 6 (vs := [.bool (ww || (decide (0 < (us.length : Int))))]) (l := [iv nn, .bool (ww || (decide (0 < (us.length : Int))))]) ty4 rfl rfl rfl rfl rfl (Zf rfl Zo) rfl <| Zb <| ZJ mixed #[0, 1, 0, 0, 0, 16, 60, 124, 255, 511, 1023] 8 [some 73, some 74, some 75, some 76, some 77, some 78, some 79, some 80] [(6, 14)] [(6, fun _ _ vw qw => ∃ cs k, vw = .agg ⟨cs⟩ ∧ qw = [(BX bG [iv ((tmG (kids[j]) (d + 1) (nn, ww || (decide (0 < (us.length : Int))))).2.1), .bool ((tmG (kids[j]) (d + 1) (nn, ww || (decide (0 < (us.length : Int))))).2.2)] 104), k] ∧ OT (tmG (kids[j]) (d + 1) (nn, ww || (decide (0 < (us.length : Int))))).1 cs k), (7, fun r _ vw qw => ∃ b k, vw = .slice (some ⟨b, 0, none⟩) 1 1 ∧ qw = [k] ∧ Own 30 36 (.slice (some ⟨b, 0, none⟩) 1 1) [(cel (r 6))] k ∧ k = (BX b (List.flatten [(cel (r 6))]) 30))] rfl (by kernel_rfl) rfl (by kernel_rfl) <| Dq (pp b5 34) (fun _ => Z3 rfl rfl) <| Dl1 Y0 (At.bx 1 rfl) (Z4 ..) <| DM (fun _ => rfl) <| Dl ZM (At.bx 0 rfl) rfl <| DM (fun _ => rfl) ?_)
   refine Dn (fun _ => Pu.add64 rfl rfl (by first | omega | (constructor <;> omega))) ?_
   refine XK 6 rfl rfl (fun _ => rfl) Tryz.call58 (fun _ => rfl) rfl (fun hin => (ih _ (List.getElem_mem h17n)).1 _ _ _ _ _ _ (RIt.mono (Hle.hu _ _) (Yi hik18 hin18 hks18)) (by omega) (by omega) (by omega) (by omega)) (fun _ => rfl) ?_
   rintro _ _ ⟨cs26, k26, rfl, rfl, hO26⟩
   refine Dr rfl (fun _ => Zp (vs := [.agg ⟨cs26⟩]) [cs26] Tryz.runUnderlying27 el30 rfl rfl (by intro e he; simp only [List.mem_cons, List.not_mem_nil, or_false] at he; subst he; exact hO26.len) rfl (by decide) fun b k h1 h2 => ⟨[k], by rw [ZN rfl]; exact Sub.refl, b, k, rfl, rfl, h1, h2⟩) (fun _ _ ⟨b27, k27, e1, e2, ho27, hk27⟩ => ?_); subst e1 e2
   refine ZV (M' := [k27, (BX bG [iv ((tmG (kids[j]) (d + 1) (nn, ww || (decide (0 < (us.length : Int))))).2.1), .bool ((tmG (kids[j]) (d + 1) (nn, ww || (decide (0 < (us.length : Int))))).2.2)] 104), k26, (BX b19 [iv ((kids[j]).kind), iv ((kids[j]).num), .string ((kids[j]).text), ki18] 39), (BX b5 (pkT kd nm (Ys (fR kd) tx) y z) 30), q1, q2, q3, q4, (BX b2 (pkT 0 0 zS nS nS) 30), (BX b1 [iv kd, iv nm, .string tx, kv] 39)]) rfl ?_
   show JL _ _ _ [_, _, _] _ _ _
   have hlens28 : ∀ e ∈ ([cs26] : List (List Value)), List.length e = 36 := by
    intro e he; simp only [List.mem_cons, List.not_mem_nil, or_false] at he
    rcases he with rfl
    ·exact hO26.len
   have hoks28 : ∀ e ∈ ([cs26] : List (List Value)), okc e := by
    intro e he; simp only [List.mem_cons, List.not_mem_nil, or_false] at he
    rcases he with rfl
    ·exact hO26.ok
   refine JLr (Zx (i := 5) (n := 1) (es' := [cs26]) Tryz.runUnderlying27 Tryz.runUnderlying27 (Or.inl rfl) el30 rfl rfl rfl hown (fun F w m => Src.row (((At.k 0 rfl (by rw [hk27]; exact List.mem_cons_self))).heap m) (Zs (Zw hlens28))) rfl hlens28 hoks28 (by decide) (by omega) fun v28 k28 ho28 => JLq (pp b5 34) (Z3 rfl rfl) <| JLr (Ze 4 (vs := [v28]) (l := pkT kd nm (Ys (fR kd) tx) v28 z) Y0 rfl rfl rfl (ZH ho28.one) rfl (Zf ho28.one Zo) (pkT_s34 ..) <| Zb <| Za <| JLn (Pu.inc rfl rfl (by omega)) <| JLM rfl <| Zb <| ⟨_, ?_, (j + 1), (ts ++ [(tmG (kids[j]) (d + 1) (nn, ww || (decide (0 < (us.length : Int))))).1]), us, v28, (es ++ [cs26]), k28, (q2 ++ k26), z, fs, q3, q4, (tmG (kids[j]) (d + 1) (nn, ww || (decide (0 < (us.length : Int))))).2.1, ((tmG (kids[j]) (d + 1) (nn, ww || (decide (0 < (us.length : Int))))).2.2), rfl, rfl, rfl, rfl, rfl, rfl, rfl, (Sd (Sub.cons 3 rfl (Sub.cons 3 rfl (Sub.join (Sub.cons 3 rfl (Sub.cons 1 rfl (Sub.cons 2 rfl (Sub.cons 2 rfl (Sk (Sd (Sk (Sk Sub.nil)))))))))))), ?_, ?_, ?_, ?_, ?_, ?_, ?_, ?_, ?_, rfl⟩))
   ·omega
   ·omega
   ·exact ho28
   ·exact OTs.snoc hO26 hop
   ·exact hown2
   ·exact hop2
   ·rw [ZW h17n, tmGs_k h20] at hinv; rw [hinv]; congr 1 <;> first | rfl | (rw [show (decide (0 < (us.length : Nat))) = decide ((0 : Int) < (us.length : Int)) from by apply decide_eq_decide.2; omega])
   ·have hk1 := (tmG_cnt (kids[j])).1 (d + 1) (nn, ww || (decide (0 < (us.length : Int)))); simp only at hk1; omega
   ·have hk1 := (tmG_cnt (kids[j])).1 (d + 1) (nn, ww || (decide (0 < (us.length : Int)))); simp only at hk1; omega
   simp; omega
  replace h20 := nf h20
  replace h20 := dt h20
  refine Zc <| Za <| JLq (pp b19 1) (XB rfl rfl) <| JLr (Zd ty3 rfl (At.bx 0 rfl) rfl <| JLn (Pu.neq rfl rfl) <| JLM rfl <| Zv 3 [88, 89, 90] [(90, cond (!decide ((kids[j]).num = 0)) undef (.bool (!decide ((kids[j]).text = ⟨#[]⟩))))] ?_ fun f30 => ?_)
  ·cases h29 : (!decide ((kids[j]).num = 0)) with
   | false =>
    replace h29 := nf h29
    replace h29 := dt h29
    refine JLq (pp b19 2) (YB rfl rfl) <| JLr (Zd ty9 rfl (At.bx 0 rfl) rfl <| JLn (Pu.neqS rfl rfl) ?_)
    exact Zb ⟨⟨rfl, trivial⟩, rfl⟩
   | true =>
    exact Zy rfl ⟨rfl, trivial⟩
  refine JLn (Pu.pickOr rfl rfl rfl) <| JLM rfl <| Zv 4 [93, 94, 95, 96] [(96, cond ((!decide ((kids[j]).num = 0)) || (!decide ((kids[j]).text = ⟨#[]⟩))) undef (.bool (!decide ((((kids[j]).kids).length : Int) = 2))))] ?_ fun f33 => ?_
  ·cases h31 : ((!decide ((kids[j]).num = 0)) || (!decide ((kids[j]).text = ⟨#[]⟩))) with
   | false =>
    obtain ⟨h31a, h31b⟩ := orF h31
    replace h31a := nf h31a
    replace h31a := dt h31a
    replace h31b := nf h31b
    replace h31b := dt h31b
    refine JLq (pp b19 3) (ZP rfl rfl) <| JLr (Zd Yw rfl (At.bx 0 rfl) rfl ?_)
    obtain ⟨a32, cap32, hv32⟩ := hks18.sl
    have hle32 := hks18.le
    refine JLn (Pu.lenSl Tryz.runUnderlying37 hv32) <| JLn (Pu.neq rfl rfl) ?_
    exact Zb ⟨⟨rfl, trivial⟩, rfl⟩
   | true =>
    exact Zy rfl ⟨rfl, trivial⟩
  refine JLn (Pu.pickOr rfl rfl rfl) <| JLA rfl <| Zb <| Zg rfl (fun h34 => ?_) (fun h34 => ?_)
  ·refine Za <| JLM rfl <| JLq (pp bG 0) (Pu.nilCheck rfl) <| JLq (pp bG 1) (YZ rfl rfl) <| JLr (Ze 6 (vs := [.bool true]) (l := [iv nn, .bool true]) ty4 rfl rfl rfl rfl rfl (Zf rfl Zo) rfl <| Zb <| Za <| JLn (Pu.inc rfl rfl (by omega)) <| JLM rfl <| Zb <| ⟨_, ?_, (j + 1), ts, us, y, es, q1, q2, z, fs, q3, q4, nn, true, rfl, rfl, rfl, rfl, rfl, rfl, rfl, (Sd (Sk (Sk (Sk (Sk (Sk (Sk (Sk (Sk Sub.nil))))))))), ?_, ?_, ?_, ?_, ?_, ?_, ?_, ?_, ?_, rfl⟩)
   ·omega
   ·omega
   ·exact hown
   ·exact hop
   ·exact hown2
   ·exact hop2
   ·rw [ZW h17n, tmGs_w (by have z := h20; simpa using z) (fun q => by have z := h34; simp [q.1, q.2.1, q.2.2] at z)] at hinv; exact hinv
   ·omega
   ·omega
   omega
  obtain ⟨h34a, h34b⟩ := orF h34
  obtain ⟨h34aa, h34ab⟩ := orF h34a
  replace h34aa := nf h34aa
  replace h34aa := dt h34aa
  replace h34ab := nf h34ab
  replace h34ab := dt h34ab
  replace h34b := nf h34b
  replace h34b := dt h34b
  have hy2 : ((kids[j]).kids).length = 2 := by omega
  have hs2 := szIs_two hy2
  have hp0 := ptG_cnt (((kids[j]).kids)[0]) (d + 1) (nn, ww)
  have ht1 := (tmG_cnt (kids[j])).2 (((kids[j]).kids)[1]) (List.getElem_mem (by omega)) (d + 1) ((ptG (((kids[j]).kids)[0]) (d + 1) (nn, ww)).2.1, (ptG (((kids[j]).kids)[0]) (d + 1) (nn, ww)).2.2)
  simp only at hp0 ht1
  refine ZJ mixed #[0, 1, 0, 0, 8, 24, 56, 0, 128, 508, 0, 0, 2048, 6144, 14336, 0, 32768, 131068, 262140, 524284, 1048575, 2097151, 4194303] 20 [some 34, some 35, some 36, some 37, some 38, some 39, some 40, some 41, some 42, some 43, some 44, some 45, some 46, some 47, some 48, some 49, some 50, some 51, some 52, some 53] [(9, 26), (17, 9)] [(9, fun _ _ vw qw => ∃ cs k, vw = .agg ⟨cs⟩ ∧ qw = [((BX bG [iv ((ptG (((kids[j]).kids)[0]) (d + 1) (nn, ww)).2.1), .bool ((ptG (((kids[j]).kids)[0]) (d + 1) (nn, ww)).2.2)] 104)) ++ k] ∧ OP (ptG (((kids[j]).kids)[0]) (d + 1) (nn, ww)).1 cs k), (17, fun r _ vw qw => ∃ cs k k2, vw = .agg ⟨cs⟩ ∧ qw = [((BX bG [iv ((tmG (((kids[j]).kids)[1]) (d + 1) ((ptG (((kids[j]).kids)[0]) (d + 1) (nn, ww)).2.1, (ptG (((kids[j]).kids)[0]) (d + 1) (nn, ww)).2.2)).2.1), .bool ((tmG (((kids[j]).kids)[1]) (d + 1) ((ptG (((kids[j]).kids)[0]) (d + 1) (nn, ww)).2.1, (ptG (((kids[j]).kids)[0]) (d + 1) (nn, ww)).2.2)).2.2)] 104) ++ k) ++ k2] ∧ OT (tmG (((kids[j]).kids)[1]) (d + 1) ((ptG (((kids[j]).kids)[0]) (d + 1) (nn, ww)).2.1, (ptG (((kids[j]).kids)[0]) (d + 1) (nn, ww)).2.2)).1 cs k ∧ OP ((ptG (((kids[j]).kids)[0]) (d + 1) (nn, ww)).1) (cel (r 9)) k2), (19, fun r _ vw qw => ∃ b k, vw = .slice (some ⟨b, 0, none⟩) 1 1 ∧ qw = [k] ∧ Own 86 71 (.slice (some ⟨b, 0, none⟩) 1 1) [((cel (r 9))) ++ ((cel (r 17)))] k ∧ k = (BX b (List.flatten [((cel (r 9))) ++ ((cel (r 17)))]) 86))] rfl (by kernel_rfl) rfl (by kernel_rfl) <| Dq (pp b5 35) (fun _ => ZR rfl rfl) <| Dl1 YA (At.bx 1 rfl) (ZT ..) <| DM (fun _ => rfl) <| Dq (pp b19 3) (fun _ => ZP rfl rfl) <| Dl1 Yw (At.bx 0 rfl) rfl ?_
  obtain ⟨b41, o41, cap41, row41, T41, fr41, cs41, hv41, hb41, hs41, hE41⟩ := hks18.get 0 (by first | assumption | omega | decide | simp)
  obtain ⟨ki41, rfl, hik41, hin41, hks41⟩ := Yb hE41
  refine Dq (pp b41 (o41 + 0 * 4)) (fun _ => Pu.idx 0 Tryz.runUnderlying37 ZM hv41 rfl rfl (by first | assumption | omega | decide | simp)) <| Dl ZM (At.im hb41) hs41 <| DM (fun _ => rfl) ?_
  refine Dn (fun _ => Pu.add64 rfl rfl (by first | omega | (constructor <;> omega))) ?_
  refine XK 6 rfl rfl (fun _ => rfl) Tryz.call100 (fun _ => rfl) rfl (fun hin => (CT_join (ptG_ct _ _ _ _ _ _ _ (RIt.mono (Hle.hu _ _) (Yi hik41 hin41 hks41)) (by omega) (by omega) (by omega) (by omega))).mono fun v N ⟨N2, hp2, e2⟩ => by obtain ⟨c2, k2, e3, e4, h5⟩ := hp2; subst e2 e4; exact ⟨c2, k2, e3, by simp, h5⟩) (fun _ => rfl) ?_
  rintro _ _ ⟨cs42, k42, rfl, rfl, hO42⟩
  refine DM (fun _ => rfl) <| Dq (pp b19 3) (fun _ => ZP rfl rfl) <| Dl1 Yw (At.bx 0 rfl) rfl ?_
  obtain ⟨b43, o43, cap43, row43, T43, fr43, cs43, hv43, hb43, hs43, hE43⟩ := hks18.get 1 (by first | assumption | omega | decide | simp)
  obtain ⟨ki43, rfl, hik43, hin43, hks43⟩ := Yb hE43
  refine Dq (pp b43 (o43 + 1 * 4)) (fun _ => Pu.idx 1 Tryz.runUnderlying37 ZM hv43 rfl rfl (by first | assumption | omega | decide | simp)) <| Dl ZM (At.im hb43) hs43 <| DM (fun _ => rfl) ?_
  refine Dn (fun _ => Pu.add64 rfl rfl (by first | omega | (constructor <;> omega))) ?_
  refine XK 0 rfl rfl (fun _ => rfl) Tryz.call58 (fun _ => rfl) rfl (fun hin => (CT_fr ((ih _ (List.getElem_mem h17n)).2 _ (List.getElem_mem (by omega)) _ _ _ _ _ _ (RIt.mono (Hle.hu _ _) (Yi hik43 hin43 hks43)) (by omega) (by omega) (by omega) (by omega))).mono fun v N ⟨N2, hp2, e2⟩ => by obtain ⟨c2, k2, e3, e4, h5⟩ := hp2; subst e2 e4; exact ⟨c2, k2, _, e3, by simp, h5, hO42⟩) (fun _ => rfl) ?_
  rintro _ _ ⟨cs44, k44, k45, rfl, rfl, hO44, hO45⟩
  refine Dq (.agg ⟨cs42 ++ cs44⟩) (fun _ => Pu.build (pv := [(0, .agg ⟨cs42⟩), (1, .agg ⟨cs44⟩)]) (l := cs42 ++ cs44) rfl (bld86_0_1 hO45.len hO44.len)) <| Dr rfl (fun _ => Zp (vs := [.agg ⟨cs42 ++ cs44⟩]) [cs42 ++ cs44] Tryz.runUnderlying28 el86 rfl rfl (by intro e he; simp only [List.mem_cons, List.not_mem_nil, or_false] at he; subst he; exact (Z6 hO45.len hO44.len)) rfl (by decide) fun b k h1 h2 => ⟨[k], by rw [ZN rfl]; exact Sub.refl, b, k, rfl, rfl, h1, h2⟩) (fun _ _ ⟨b46, k46, e1, e2, ho46, hk46⟩ => ?_); subst e1 e2
  refine ZV (M' := [k46, (((BX bG [iv ((tmG (((kids[j]).kids)[1]) (d + 1) ((ptG (((kids[j]).kids)[0]) (d + 1) (nn, ww)).2.1, (ptG (((kids[j]).kids)[0]) (d + 1) (nn, ww)).2.2)).2.1), .bool ((tmG (((kids[j]).kids)[1]) (d + 1) ((ptG (((kids[j]).kids)[0]) (d + 1) (nn, ww)).2.1, (ptG (((kids[j]).kids)[0]) (d + 1) (nn, ww)).2.2)).2.2)] 104)) ++ k44) ++ k45, (BX b19 [iv ((kids[j]).kind), iv ((kids[j]).num), .string ((kids[j]).text), ki18] 39), (BX b5 (pkT kd nm (Ys (fR kd) tx) y z) 30), q1, q2, q3, q4, (BX b2 (pkT 0 0 zS nS nS) 30), (BX b1 [iv kd, iv nm, .string tx, kv] 39)]) rfl ?_
  show JL _ _ _ [_, _, _] _ _ _
  have hlens47 : ∀ e ∈ ([cs42 ++ cs44] : List (List Value)), List.length e = 71 := by
   intro e he; simp only [List.mem_cons, List.not_mem_nil, or_false] at he
   rcases he with rfl
   ·exact (Z6 hO45.len hO44.len)
  have hoks47 : ∀ e ∈ ([cs42 ++ cs44] : List (List Value)), okc e := by
   intro e he; simp only [List.mem_cons, List.not_mem_nil, or_false] at he
   rcases he with rfl
   ·exact (Yg hO45.ok hO44.ok)
  refine JLr (Zx (i := 6) (n := 1) (es' := [cs42 ++ cs44]) Tryz.runUnderlying28 Tryz.runUnderlying28 (Or.inl rfl) el86 rfl rfl rfl hown2 (fun F w m => Src.row (((At.k 0 rfl (by rw [hk46]; exact List.mem_cons_self))).heap m) (Zs (Zw hlens47))) rfl hlens47 hoks47 (by decide) (by omega) fun v47 k47 ho47 => JLq (pp b5 35) (ZR rfl rfl) <| JLr (Ze 3 (vs := [v47]) (l := pkT kd nm (Ys (fR kd) tx) y v47) YA rfl rfl rfl (ZH ho47.one) rfl (Zf ho47.one Zo) (pkT_s35 ..) <| Zb <| ZG (M' := [k46, (BX bG [iv ((tmG (((kids[j]).kids)[1]) (d + 1) ((ptG (((kids[j]).kids)[0]) (d + 1) (nn, ww)).2.1, (ptG (((kids[j]).kids)[0]) (d + 1) (nn, ww)).2.2)).2.1), .bool ((tmG (((kids[j]).kids)[1]) (d + 1) ((ptG (((kids[j]).kids)[0]) (d + 1) (nn, ww)).2.1, (ptG (((kids[j]).kids)[0]) (d + 1) (nn, ww)).2.2)).2.2)] 104), k44, k45, (BX b19 [iv ((kids[j]).kind), iv ((kids[j]).num), .string ((kids[j]).text), ki18] 39), (BX b5 (pkT kd nm (Ys (fR kd) tx) y v47) 30), q1, q2, k47, q4, (BX b2 (pkT 0 0 zS nS nS) 30), (BX b1 [iv kd, iv nm, .string tx, kv] 39)]) (Sub.flat Sub.refl (by simp)) <| Za <| JLn (Pu.inc rfl rfl (by omega)) <| JLM rfl <| Zb <| ⟨_, ?_, (j + 1), ts, (us ++ [((ptG (((kids[j]).kids)[0]) (d + 1) (nn, ww)).1, (tmG (((kids[j]).kids)[1]) (d + 1) ((ptG (((kids[j]).kids)[0]) (d + 1) (nn, ww)).2.1, (ptG (((kids[j]).kids)[0]) (d + 1) (nn, ww)).2.2)).1)]), y, es, q1, q2, v47, (fs ++ [cs42 ++ cs44]), k47, (q4 ++ (k45 ++ k44)), (tmG (((kids[j]).kids)[1]) (d + 1) ((ptG (((kids[j]).kids)[0]) (d + 1) (nn, ww)).2.1, (ptG (((kids[j]).kids)[0]) (d + 1) (nn, ww)).2.2)).2.1, ((tmG (((kids[j]).kids)[1]) (d + 1) ((ptG (((kids[j]).kids)[0]) (d + 1) (nn, ww)).2.1, (ptG (((kids[j]).kids)[0]) (d + 1) (nn, ww)).2.2)).2.2), rfl, rfl, rfl, rfl, rfl, rfl, rfl, (Sd (Sub.cons 4 rfl (Sub.cons 4 rfl (Sub.cons 4 rfl (Sub.cons 4 rfl (Sub.join3 (Sub.cons 4 rfl (Sub.cons 2 rfl (Sub.cons 1 rfl (Sk (Sd (Sk (Sk Sub.nil))))))))))))), ?_, ?_, ?_, ?_, ?_, ?_, ?_, ?_, ?_, rfl⟩))
  ·omega
  ·omega
  ·exact hown
  ·exact hop
  ·exact ho47
  ·exact OCs.snoc hO45 hO44 hop2
  ·rw [ZW h17n, tmGs_c (by have z := h20; simpa using z) (by omega) (by have z := h34; simp at z; exact z.1.2) (by omega)] at hinv; exact hinv
  ·omega
  ·omega
  simp; omega
 replace h17 := df h17
 have h17n : kids.length ≤ j := by omega
 refine Zz _ rfl <| Zc <| Za <| JLr (Zh Zt rfl (At.bx 0 rfl) (Yz ..) <| JLr (Ze 6 (vs := pkT kd nm (Ys (fR kd) tx) y z) (l := pkT kd nm (Ys (fR kd) tx) y z) Zt rfl rfl rfl rfl rfl (ZS hown.one hown2.one) (YU ..) <| Zb <| Zl <| ⟨.agg ⟨pkT kd nm (Ys (fR kd) tx) y z⟩, [(BX bG [iv nn, .bool ww] 104), q1 ++ (q2 ++ (q3 ++ q4))], Ret.one rfl (RV.cell Zt rfl (At.bx 6 rfl) (Yz ..)), (Sd (Sub.cons 4 rfl (Sub.join4 (Sk (Sk (Sk (Sk Sub.nil))))))), ?_⟩))
 have hx := tmG_near (k := kd) (m := nm) (t := tx) (kids := kids) h3
 rw [YL h17n, Yx] at hinv
 rw [← fR_has] at hx
 rw [hinv] at hx
 have hlk := Y2 kids
 exact ⟨_, _, rfl, by rw [hx], by rw [hx]; exact OT_mk.2 ⟨_, _, _, _, _, _, _, _, rfl, hk, hm, hown, hop, hown2, hop2, rfl, (show ts.length ≤ 9223372036854775807 by omega), (show us.length ≤ 9223372036854775807 by omega)⟩⟩
end Go.Proofs.YtkjafeejpmcnkaaGreat.Hs
/-! Walks, printed by a program of this session's own (gen.py). -/
namespace Go.Proofs.YtkjafeejpmcnkaaGreat.Hs
open Go Go.Proofs
set_option maxRecDepth 100000
set_option linter.unusedVariables false
set_option linter.unusedSimpArgs false
attribute [local irreducible] JL J CT wlo DT
theorem fromP_ct (x : It) (cs : List Value) (H : Heap) (ht : RIt H cs x) (hz : szI x ≤ 10000) : CT Tryz.prog 20 ⟨[.agg ⟨cs⟩]⟩ [] H (fun r N => ∃ cs k, r = .tuple ⟨[.agg ⟨cs⟩, iv (fromP x).2]⟩ ∧ N = [k] ∧ OT (fromP x).1 cs k) := by
 refine Zm Tryz.func20 rfl rfl <| Zc <| Za <| JLr (Zq (l := cs) rfl rfl fun b1 => JLr (Zk (l := pkT 0 0 zS nS nS) Tryz.zeroValue30 rfl fun b2 => JLA rfl <| Zb <| Zc <| Za <| JLq (.agg ⟨[iv 0, .bool false]⟩) (Pu.build (pv := []) (l := [iv 0, .bool false]) rfl bld104_) <| JLr (Zq (l := [iv 0, .bool false]) rfl rfl fun b3 => JLA rfl <| Zb ?_)))
 refine Zc <| Za <| JLM rfl <| JLr (Zh ZM rfl (At.bx 2 rfl) (Zs (YE ht)) <| ZA 0 rfl Tryz.call58 rfl rfl (fun hin => (tmG0_ct x).1 _ _ _ _ _ _ (RIt.mono (Hle.hu _ _) ht) (by omega) (by omega) (by omega) (by omega)) rfl ?_)
 rintro _ _ ⟨cs4, k4, rfl, rfl, hO4⟩
 refine JLr (Zk (l := pkT 0 0 zS nS nS) Tryz.zeroValue30 rfl fun b5 => JLr (Ze 0 (vs := cs4) (l := cs4) Zt rfl rfl rfl rfl hO4.len hO4.ok (ZK (n := 36) rfl hO4.len) <| Zb <| Zc <| Zc <| Za <| JLM rfl <| JLq (pp b3 0) (Pu.nilCheck rfl) <| JLq (pp b3 1) (YZ rfl rfl) <| JLr (Zd ty4 rfl (At.bx 1 rfl) rfl <| JLM rfl ?_)))
 cases h6 : ((tmG x 1 (0, false)).2.2) with
 | true =>
  iterate 4 refine ZD rfl ?_
  refine JLq (.bool true) (Pu.pickT rfl rfl) <| Zb <| Zg (b := true) rfl (fun _ => ?_) (fun h => absurd h (by simp))
  refine Zc <| Za <| JLq (.agg ⟨pkT 0 0 zS nS nS⟩) (Pu.build (pv := []) (l := pkT 0 0 zS nS nS) rfl (bld30_ )) <| JLr (Ze 3 (vs := pkT 0 0 zS nS nS) (l := pkT 0 0 zS nS nS) Zt rfl rfl rfl rfl rfl (ZS rfl rfl) (YU ..) <| JLA rfl <| Zb <| Zl <| ⟨.tuple ⟨[.agg ⟨pkT 0 0 zS nS nS⟩, iv 4]⟩, [[]], Ret.two rfl (RV.cell Zt rfl (At.bx 3 rfl) (Yz ..)) (RV.tmp rfl), (Sub.emp Sub.nil), ?_⟩)
  have hx : fromP x = (zT, 4) := by first | exact fromP_w (by assumption) | exact fromP_r (by assumption)
  exact ⟨_, _, by rw [hx], rfl, by rw [hx]; exact XI⟩
 | false =>
  refine JLr (Zh Zt rfl (At.bx 0 rfl) (Zs hO4.len) <| JLr (Zp (vs := [.agg ⟨cs4⟩]) [cs4] Tryz.runUnderlying27 el30 rfl rfl (by intro e he; simp only [List.mem_cons, List.not_mem_nil, or_false] at he; subst he; exact hO4.len) rfl (by decide) fun b7 k7 ho7 hk7 => Jc Tryz.call55 rfl (fun hin => right_ct _ _ _ (Own.rd1 ho7 (hin 0 _ rfl) (hO4.rd (hin 3 _ rfl)))) rfl ?_))
  rintro _ _ ⟨rfl, rfl⟩
  refine JLn (Pu.neq rfl rfl) <| JLq (.bool (!decide (ZO [(tmG x 1 (0, false)).1] = 0))) (Pu.pickF rfl rfl) <| Zb <| Zg rfl (fun h8 => ?_) (fun h8 => ?_)
  ·replace h8 := nt h8
   replace h8 := df h8
   refine Zc <| Za <| JLq (.agg ⟨pkT 0 0 zS nS nS⟩) (Pu.build (pv := []) (l := pkT 0 0 zS nS nS) rfl (bld30_ )) <| JLr (Ze 4 (vs := pkT 0 0 zS nS nS) (l := pkT 0 0 zS nS nS) Zt rfl rfl rfl rfl rfl (ZS rfl rfl) (YU ..) <| JLA rfl <| Zb <| Zl <| ⟨.tuple ⟨[.agg ⟨pkT 0 0 zS nS nS⟩, iv 4]⟩, [[]], Ret.two rfl (RV.cell Zt rfl (At.bx 4 rfl) (Yz ..)) (RV.tmp rfl), (Sub.emp Sub.nil), ?_⟩)
   have hx : fromP x = (zT, 4) := by first | exact fromP_w (by assumption) | exact fromP_r (by assumption)
   exact ⟨_, _, by rw [hx], rfl, by rw [hx]; exact XI⟩
  replace h8 := nf h8
  replace h8 := dt h8
  refine Zj <| Zc <| Za <| JLr (Zh Zt rfl (At.bx 1 rfl) (Zs hO4.len) <| JLr (Ze 4 (vs := cs4) (l := cs4) Zt rfl rfl rfl rfl hO4.len hO4.ok (ZK (n := 36) rfl hO4.len) <| JLA rfl <| Zb <| Zl <| ⟨.tuple ⟨[.agg ⟨cs4⟩, iv 0]⟩, [k4], Ret.two rfl (RV.cell Zt rfl (At.bx 4 rfl) (Zs hO4.len)) (RV.tmp rfl), (Sd (Sd (Sd (Sk Sub.nil)))), ?_⟩))
  have hx := fromP_ok (by assumption) (by assumption)
  exact ⟨_, _, by rw [hx], rfl, by rw [hx]; exact hO4⟩
end Go.Proofs.YtkjafeejpmcnkaaGreat.Hs
/-! Walks, printed by a program of this session's own (gen.py). -/
namespace Go.Proofs.YtkjafeejpmcnkaaGreat.Hs
open Go Go.Proofs
set_option maxRecDepth 100000
set_option linter.unusedVariables false
set_option linter.unusedSimpArgs false
attribute [local irreducible] JL J CT wlo DT
theorem text_ct (s : Sm) (H : Heap) : CT Tryz.prog 50 ⟨[.agg ⟨sC s⟩]⟩ [] H (fun r N => r = .string (txS s) ∧ N = []) := by
 obtain ⟨l, hls⟩ : ∃ l, l = sB (txS s) := ⟨_, rfl⟩
 have hsz : l.length = 32 := by rw [hls, Y5, txS_size]
 refine Zm Tryz.func50 rfl rfl <| Zc <| Za <| JLr (Zq (l := sC s) rfl rfl fun b1 => JLA rfl <| Zb <| Zc <| Za <| JLA rfl <| Zb <| Zc <| Zc <| Za ?_)
 refine JLA rfl <| Zb <| Zn <| ZB (fun k ρ M => ∃ (j : Nat) (y : Value) (q1 : Zi), ρ 1 = pp b1 0 ∧ ρ 2 = .string (⟨#[]⟩) ∧ ρ 3 = y ∧ ρ 4 = iv ((j : Int)) ∧ Sub [q1, (BX b1 (sC s) 26)] M ∧ j ≤ 32 ∧ Own 5 1 y (Yd (l.take j)) q1 ∧ k = 32 - j) _ ⟨0, nS, [], rfl, rfl, rfl, rfl, (Sub.emp (Sk Sub.nil)), (by decide), (by simpa [Yd] using Own.nil), rfl⟩ ?_
 rintro _ ρ2 _ ⟨j, y, q1, e3, e4, e5, e6, hm7, hj, hown, rfl⟩
 obtain ⟨ρ8, rfl⟩ := Zr (uc e3 (uc e4 (uc e5 (uc e6 un))))
 clear e3 e4 e5 e6
 refine ZG hm7 <| Zc <| Zc <| Za <| JLM rfl <| JLn (Pu.lss rfl rfl) <| Zb <| Zg rfl (fun h9 => ?_) (fun h9 => ?_)
 ·replace h9 := dt h9
  have h9n : j < 32 := by omega
  refine Zj <| Zc <| Zn ?_
  have hjl : j < l.length := by omega
  refine Za <| JLm y <| JLM rfl <| JLq (pp b1 (0 + j * 1)) (Pu.idxA j Tryz.runUnderlying26 ty5 rfl rfl rfl (by omega)) <| JLr (Zd ty5 rfl (At.bx 1 rfl) (sC_getB hls hjl) <| JLr (Zp (vs := [.int .u8 (l[j])]) [[.int .u8 (l[j])]] Tryz.runUnderlying22 el5 rfl rfl (by intro e he; simp only [List.mem_cons, List.not_mem_nil, or_false] at he; subst he; exact rfl) rfl (by decide) fun b10 k10 ho10 hk10 => ?_))
  have hlens11 : ∀ e ∈ ([[.int .u8 (l[j])]] : List (List Value)), List.length e = 1 := by
   intro e he; simp only [List.mem_cons, List.not_mem_nil, or_false] at he
   rcases he with rfl
   ·exact rfl
  have hoks11 : ∀ e ∈ ([[.int .u8 (l[j])]] : List (List Value)), okc e := by
   intro e he; simp only [List.mem_cons, List.not_mem_nil, or_false] at he
   rcases he with rfl
   ·exact (Zf rfl Zo)
  refine JLr (Zx (i := 1) (n := 1) (es' := [[.int .u8 (l[j])]]) Tryz.runUnderlying22 Tryz.runUnderlying22 (Or.inl rfl) el5 rfl rfl rfl hown (fun F w m => Src.row (((At.k 0 rfl (by rw [hk10]; exact List.mem_cons_self))).heap m) (Zs (Zw hlens11))) rfl hlens11 hoks11 (by decide) (by rw [Yh]; simp; omega) fun v11 k11 ho11 => JLa v11 <| Zb <| Za <| JLM rfl <| JLn (Pu.inc rfl rfl (by omega)) <| JLA rfl <| Zb <| ⟨_, ?_, (j + 1), v11, k11, rfl, rfl, rfl, rfl, (Sd (Sk (Sk Sub.nil))), ?_, ?_, rfl⟩)
  ·omega
  ·omega
  have z := ho11; rw [byts_snoc hjl] at z; exact z
 replace h9 := df h9
 have h9n : 32 ≤ j := by omega
 refine Zz _ rfl <| Zc <| Za <| JLm y <| JLr (Runs_toStrO 0 rfl hown (by simp; omega) Tryz.runUnderlying22 Tryz.runUnderlying5 Tryz.runUnderlying9 rfl <| JLA rfl <| Zb <| Zl <| ⟨.string (bstr (l.take j)), [], Ret.one rfl (RV.tmp rfl), Sub.nil, ?_⟩)
 obtain rfl : j = 32 := by omega
 exact ⟨by rw [List.take_of_length_le (by omega), hls, bstr_of], rfl⟩
theorem refText_ct (has : Bool) (s : Sm) (H : Heap) : CT Tryz.prog 92 ⟨[.bool has, .agg ⟨sC s⟩]⟩ [] H (fun r N => r = .string (cond has (txS s) ⟨#[]⟩) ∧ N = []) := by
 refine Zm Tryz.func92 rfl rfl <| Zc <| Za <| JLr (Zq (l := sC s) rfl rfl fun b1 => JLA rfl <| Zb <| Zc <| Zc <| Za <| JLM rfl <| JLn (Pu.not rfl) <| Zb <| Zg rfl (fun h2 => ?_) (fun h2 => ?_))
 ·replace h2 := nt h2
  refine Zc <| Za <| JLA rfl <| Zb <| Zl <| ⟨.string (⟨#[]⟩), [], Ret.one rfl (RV.tmp rfl), Sub.nil, ?_⟩
  exact ⟨by rw [h2]; rfl, rfl⟩
 replace h2 := nf h2
 refine Zj <| Zc <| Za <| JLq (.slice (some ⟨b1, 0, none⟩) 32 32) (Pu.sliceArr Tryz.runUnderlying26 Tryz.sizeOf5 rfl) <| JLr (Runs_toStrB 0 rfl Tryz.runUnderlying22 Tryz.runUnderlying5 Tryz.runUnderlying9 rfl <| JLA rfl <| Zb <| Zl <| ⟨.string (txS s), [], Ret.one rfl (RV.tmp rfl), Sub.nil, ?_⟩)
 exact ⟨by rw [h2]; rfl, rfl⟩
end Go.Proofs.YtkjafeejpmcnkaaGreat.Hs
/-! Walks, printed by a program of this session's own (gen.py). -/
namespace Go.Proofs.YtkjafeejpmcnkaaGreat.Hs
open Go Go.Proofs
set_option maxRecDepth 100000
set_option linter.unusedVariables false
set_option linter.unusedSimpArgs false
attribute [local irreducible] JL J CT wlo DT
set_option maxHeartbeats 2000000 in
theorem pItem_ct : ∀ (p : Pt) (cs : List Value) (H : Heap), RP H cs p → sizeP p ≤ 1000000 → gdI (itP p) → CT Tryz.prog 94 ⟨[.agg ⟨cs⟩]⟩ [] H (fun r N => ∃ cs k, r = .agg ⟨cs⟩ ∧ N = [k] ∧ OIt (itP p) cs k) := by
 intro p
 induction p using Pt.ind with
 | h kind num ref kids ih =>
 intro cs H hp hz hg
 obtain ⟨ks, rfl, hk, hn, hks⟩ := RP_mk.1 hp
 rw [sizeP] at hz
 rw [itP, gdI] at hg
 have hle := hks.le
 have hkl := len_sizePs kids
 refine Zm Tryz.func94 rfl rfl <| Zc <| Za <| JLr (Zq (l := pkP kind num ref ks) rfl rfl fun b1 => JLr (Zk (l := [iv 0, iv 0, .string (⟨#[]⟩), nS]) Tryz.zeroValue39 rfl fun b2 => Zb <| Zc <| ZJ mixed #[0, 1, 3, 0, 8, 0, 32, 96, 0, 256, 992, 2047, 0, 8191] 13 [some 6, some 7, some 8, some 9, some 10, some 11, some 12, some 13, some 14, some 15, some 16, some 17, some 3] [] [(10, fun _ _ vw qw => vw = .string (cond (decide (kind = 3)) (txS ref) ⟨#[]⟩) ∧ qw = []), (12, newP 39 ([iv 0, iv 0, .string (⟨#[]⟩), nS]))] rfl (by kernel_rfl) rfl (by kernel_rfl) <| Dq (pp b1 0) (fun _ => Yl rfl rfl) <| Dl1 ty3 (At.bx 1 rfl) (YK ..) ?_))
 refine Dn (fun _ => Pu.add64 rfl rfl (by first | omega | (constructor <;> omega))) <| Dq (pp b1 1) (fun _ => XA rfl rfl) <| Dl1 ty3 (At.bx 1 rfl) (pkP_1 ..) <| Dq (pp b1 0) (fun _ => Yl rfl rfl) <| Dl1 ty3 (At.bx 1 rfl) (YK ..) <| Dn (fun _ => Pu.eql rfl rfl) <| Dq (pp b1 2) (fun _ => fa81_2 rfl rfl) <| Dl YM (At.bx 1 rfl) (pkP_2 ..) <| Dc rfl Tryz.call92 (fun _ => rfl) (fun hin => refText_ct _ _ _) ?_
 rintro _ _ ⟨rfl, rfl⟩
 refine Dq (.agg ⟨[iv (30 + kind), iv num, .string (cond (decide (kind = 3)) (txS ref) ⟨#[]⟩), nS]⟩) (fun _ => Pu.build (pv := [(0, iv (30 + kind)), (1, iv num), (2, .string (cond (decide (kind = 3)) (txS ref) ⟨#[]⟩))]) (l := [iv (30 + kind), iv num, .string (cond (decide (kind = 3)) (txS ref) ⟨#[]⟩), nS]) rfl (bld39_0_1_2 _ _ _)) <| Da Tryz.zeroValue39 rfl fun b4 => ZV (M' := [(BX b4 [iv 0, iv 0, .string (⟨#[]⟩), nS] 39), (BX b2 [iv 0, iv 0, .string (⟨#[]⟩), nS] 39), (BX b1 (pkP kind num ref ks) 81)]) rfl ?_
 show JL _ _ _ [_] _ _ _
 refine JLr (Ze 0 (vs := [iv (30 + kind), iv num, .string (cond (decide (kind = 3)) (txS ref) ⟨#[]⟩), nS]) (l := [iv (30 + kind), iv num, .string (cond (decide (kind = 3)) (txS ref) ⟨#[]⟩), nS]) ZM rfl rfl rfl rfl rfl (Zf rfl (Zf rfl (Zf rfl (Zf rfl Zo)))) rfl <| Zb <| Zc <| Zc <| Za <| JLq (pp b1 34) (Z5 rfl rfl) <| JLr (Zd Xa rfl (At.bx 2 rfl) (Yf ..) ?_))
 obtain ⟨a5, cap5, hv5⟩ := hks.sl
 have hle5 := hks.le
 refine JLn (Pu.lenSl Tryz.runUnderlying79 hv5) <| JLM rfl <| Zb <| Zn <| ZB (fun k ρ M => ∃ (j : Nat) (y1y : Value) (es1s : List (List Value)) (q1a q1b : Zi), ρ 2 = pp b2 0 ∧ ρ 3 = pp b4 0 ∧ ρ 19 = ks ∧ ρ 20 = iv ((kids.length : Int)) ∧ ρ 21 = iv ((j : Int)) ∧ Sub [(BX b4 [iv (30 + kind), iv num, .string (cond (decide (kind = 3)) (txS ref) ⟨#[]⟩), y1y] 39), q1a, q1b, (BX b2 [iv 0, iv 0, .string (⟨#[]⟩), nS] 39), (BX b1 (pkP kind num ref ks) 81)] M ∧ j ≤ kids.length ∧ Own 39 4 y1y es1s q1a ∧ OIts (YW (kids.take j)) es1s q1b ∧ k = kids.length - j) _ ⟨0, nS, [], [], [], rfl, rfl, rfl, rfl, rfl, (Sk (Sub.emp (Sub.emp (Sk (Sk Sub.nil))))), Nat.zero_le _, Own.nil, (by simpa [YW, Ym] using OIts.nil), rfl⟩ ?_
 rintro _ ρ6 _ ⟨j, y1y, es1s, q1a, q1b, e7, e8, e9, e10, e11, hm12, hj, how1w, hop1p, rfl⟩
 obtain ⟨ρ13, rfl⟩ := Zr (uc e7 (uc e8 (uc e9 (uc e10 (uc e11 un)))))
 clear e7 e8 e9 e10 e11
 refine ZG hm12 <| Zc <| Za <| JLn (Pu.lss rfl rfl) <| Zb <| Zc <| Zg rfl (fun h14 => ?_) (fun h14 => ?_)
 ·replace h14 := dt h14
  have h14n : j < kids.length := by omega
  have hs1 := sizePs_mem _ (List.getElem_mem h14n)
  have hel := XJ hop1p
  have hgj := itPs_mem hg.2.2.2 h14n
  rw [itPs_len, List.length_take, Nat.min_eq_left (by omega)] at hel
  refine Zj <| Zc <| Zn <| Zc <| Za ?_
  obtain ⟨b15, o15, cap15, row15, T15, fr15, cs15, hv15, hb15, hs15, hE15⟩ := hks.get j (by first | assumption | omega | decide | simp)
  refine JLq (pp b15 (o15 + j * 35)) (Pu.idx j Tryz.runUnderlying79 Z1 hv15 rfl rfl (by first | assumption | omega | decide | simp)) <| JLr (Zh Z1 rfl (At.im hb15) hs15 <| JLr (Zk (l := pkP 0 0 zS nS) Tryz.zeroValue81 rfl fun b16 => JLr (Ze 0 (vs := cs15) (l := cs15) Z1 rfl rfl rfl rfl (ZC hE15) (RP_ok hE15) (ZK (n := 35) rfl (ZC hE15)) <| Zb <| ZJ mixed #[0, 1, 0, 4, 12, 31, 63, 127] 5 [some 25, some 26, some 27, some 28, some 29] [] [(3, fun _ _ vw qw => ∃ cs k, vw = .agg ⟨cs⟩ ∧ qw = [k] ∧ OIt (itP (kids[j])) cs k), (4, fun r _ vw qw => ∃ b k, vw = .slice (some ⟨b, 0, none⟩) 1 1 ∧ qw = [k] ∧ Own 39 4 (.slice (some ⟨b, 0, none⟩) 1 1) [(cel (r 3))] k ∧ k = (BX b (List.flatten [(cel (r 3))]) 39))] rfl (by kernel_rfl) rfl (by kernel_rfl) <| Dq (pp b4 3) (fun _ => ZP rfl rfl) <| Dl1 Yw (At.bx 1 rfl) rfl <| Dl Z1 (At.bx 0 rfl) (Zs (ZC hE15)) ?_)))
  refine Dc rfl Tryz.call94 (fun _ => rfl) (fun hin => ih _ (List.getElem_mem h14n) _ _ (RP.mono (Hle.hu _ _) hE15) (by omega) hgj) ?_
  rintro _ _ ⟨cs19, k19, rfl, rfl, hO19⟩
  refine Dr rfl (fun _ => Zp (vs := [.agg ⟨cs19⟩]) [cs19] Tryz.runUnderlying37 el39 rfl rfl (by intro e he; simp only [List.mem_cons, List.not_mem_nil, or_false] at he; subst he; exact hO19.len) rfl (by decide) fun b k h1 h2 => ⟨[k], by rw [ZN rfl]; exact Sub.refl, b, k, rfl, rfl, h1, h2⟩) (fun _ _ ⟨b20, k20, e1, e2, ho20, hk20⟩ => ?_); subst e1 e2
  refine ZV (M' := [k20, k19, (BX b16 cs15 81), (BX b4 [iv (30 + kind), iv num, .string (cond (decide (kind = 3)) (txS ref) ⟨#[]⟩), y1y] 39), q1a, q1b, (BX b2 [iv 0, iv 0, .string (⟨#[]⟩), nS] 39), (BX b1 (pkP kind num ref ks) 81)]) rfl ?_
  show JL _ _ _ [_, _, _] _ _ _
  have hlens21 : ∀ e ∈ ([cs19] : List (List Value)), List.length e = 4 := by
   intro e he; simp only [List.mem_cons, List.not_mem_nil, or_false] at he
   rcases he with rfl
   ·exact hO19.len
  have hoks21 : ∀ e ∈ ([cs19] : List (List Value)), okc e := by
   intro e he; simp only [List.mem_cons, List.not_mem_nil, or_false] at he
   rcases he with rfl
   ·exact hO19.ok
  refine JLr (Zx (i := 4) (n := 1) (es' := [cs19]) Tryz.runUnderlying37 Tryz.runUnderlying37 (Or.inl rfl) el39 rfl rfl rfl how1w (fun F w m => Src.row (((At.k 0 rfl (by rw [hk20]; exact List.mem_cons_self))).heap m) (Zs (Zw hlens21))) rfl hlens21 hoks21 (by decide) (by omega) fun v21 k21 ho21 => JLq (pp b4 3) (ZP rfl rfl) <| JLr (Ze 3 (vs := [v21]) (l := [iv (30 + kind), iv num, .string (cond (decide (kind = 3)) (txS ref) ⟨#[]⟩), v21]) Yw rfl rfl rfl (ZH ho21.one) rfl (Zf ho21.one Zo) rfl <| Zb <| Za <| JLn (Pu.inc rfl rfl (by omega)) <| JLM rfl <| Zb <| ⟨_, ?_, (j + 1), v21, (es1s ++ [cs19]), k21, (q1b ++ k19), rfl, rfl, rfl, rfl, rfl, (Sd (Sub.cons 2 rfl (Sub.cons 2 rfl (Sub.join (Sub.cons 2 rfl (Sk (Sd (Sk (Sk Sub.nil))))))))), ?_, ?_, ?_, rfl⟩))
  ·omega
  ·omega
  ·exact ho21
  rw [itPs_snoc h14n]; exact OIts.snoc hO19 hop1p
 replace h14 := df h14
 have h14n : kids.length ≤ j := by omega
 refine Zz _ rfl <| Zc <| Za <| JLr (Zh ZM rfl (At.bx 0 rfl) rfl <| JLr (Ze 3 (vs := [iv (30 + kind), iv num, .string (cond (decide (kind = 3)) (txS ref) ⟨#[]⟩), y1y]) (l := [iv (30 + kind), iv num, .string (cond (decide (kind = 3)) (txS ref) ⟨#[]⟩), y1y]) ZM rfl rfl rfl rfl rfl (Zf rfl (Zf rfl (Zf rfl (Zf how1w.one Zo)))) rfl <| Zb <| Zl <| ⟨.agg ⟨[iv (30 + kind), iv num, .string (cond (decide (kind = 3)) (txS ref) ⟨#[]⟩), y1y]⟩, [q1a ++ q1b], Ret.one rfl (RV.cell ZM rfl (At.bx 3 rfl) rfl), (Sub.join (Sd (Sk (Sk Sub.nil)))), ?_⟩))
 rw [List.take_of_length_le h14n] at hop1p
 exact ⟨_, _, rfl, rfl, by rw [itP]; (first | rw [← tx_dec] | skip); exact OIt_mk.2 ⟨_, _, _, _, rfl, by unfold inI; omega, hn, how1w, hop1p, rfl, by rw [itPs_len]; omega⟩⟩
end Go.Proofs.YtkjafeejpmcnkaaGreat.Hs
/-! Walks, printed by a program of this session's own (gen.py). -/
namespace Go.Proofs.YtkjafeejpmcnkaaGreat.Hs
open Go Go.Proofs
set_option maxRecDepth 100000
set_option linter.unusedVariables false
set_option linter.unusedSimpArgs false
attribute [local irreducible] JL J CT wlo DT
set_option maxHeartbeats 4000000 in
theorem tItem_ct : ∀ (t : Tm) (cs : List Value) (H : Heap), RT H cs t → sizeT t ≤ 1000000 → gdI (itT t) → CT Tryz.prog 56 ⟨[.agg ⟨cs⟩]⟩ [] H (fun r N => ∃ cs k, r = .agg ⟨cs⟩ ∧ N = [k] ∧ OIt (itT t) cs k) := by
 intro t
 induction t using Tm.ind with
 | h kind num ref kids cases ih ih' =>
 intro cs H hp hz hg
 obtain ⟨ks, cv, rfl, hk, hn, hks, hcv⟩ := RT_mk.1 hp
 rw [sizeT] at hz
 rw [itT, gdI] at hg
 obtain ⟨hg1, hg2⟩ := gdIs_left hg.2.2.2
 have hle := hks.le
 have hle2 := hcv.le
 have hkl := len_sizeTs kids
 have hcl := len_sizeCs cases
 refine Zm Tryz.func56 rfl rfl <| Zc <| Za <| JLr (Zq (l := pkT kind num ref ks cv) rfl rfl fun b1 => JLr (Zk (l := [iv 0, iv 0, .string (⟨#[]⟩), nS]) Tryz.zeroValue39 rfl fun b2 => Zb <| Zc <| ZJ mixed #[0, 1, 0, 4, 0, 16, 48, 112, 0, 256, 1008, 2047, 0, 8191] 13 [some 8, some 9, some 10, some 11, some 12, some 13, some 14, some 15, some 16, some 17, some 18, some 19, some 3] [] [(6, fun _ _ vw qw => vw = .agg ⟨[.bool (fN kind), .bool (fR kind), .bool (fC kind)]⟩ ∧ qw = []), (10, fun _ _ vw qw => vw = .string (cond (fR kind) (txS ref) ⟨#[]⟩) ∧ qw = []), (12, newP 39 ([iv 0, iv 0, .string (⟨#[]⟩), nS]))] rfl (by kernel_rfl) rfl (by kernel_rfl) <| Dq (pp b1 0) (fun _ => ZI rfl rfl) <| Dl1 ty3 (At.bx 1 rfl) (ZZ ..) <| Dq (pp b1 1) (fun _ => Z9 rfl rfl) <| Dl1 ty3 (At.bx 1 rfl) (Yt ..) <| Dq (pp b1 0) (fun _ => ZI rfl rfl) ?_))
 refine Dl1 ty3 (At.bx 1 rfl) (ZZ ..) <| Dc rfl Tryz.call93 (fun _ => rfl) (fun hin => fields_ct _ _) ?_
 rintro _ _ ⟨rfl, rfl⟩
 refine Dq (.bool (fR kind)) (fun _ => Pu.idxV 1 Tryz.runUnderlying152 ty4 rfl rfl rfl (by decide) rfl) <| Dq (pp b1 2) (fun _ => fa30_2 rfl rfl) <| Dl YM (At.bx 1 rfl) (pkT_2 ..) <| Dc rfl Tryz.call92 (fun _ => rfl) (fun hin => refText_ct _ _ _) ?_
 rintro _ _ ⟨rfl, rfl⟩
 refine Dq (.agg ⟨[iv kind, iv num, .string (cond (fR kind) (txS ref) ⟨#[]⟩), nS]⟩) (fun _ => Pu.build (pv := [(0, iv kind), (1, iv num), (2, .string (cond (fR kind) (txS ref) ⟨#[]⟩))]) (l := [iv kind, iv num, .string (cond (fR kind) (txS ref) ⟨#[]⟩), nS]) rfl (bld39_0_1_2 _ _ _)) <| Da Tryz.zeroValue39 rfl fun b4 => ZV (M' := [(BX b4 [iv 0, iv 0, .string (⟨#[]⟩), nS] 39), (BX b2 [iv 0, iv 0, .string (⟨#[]⟩), nS] 39), (BX b1 (pkT kind num ref ks cv) 30)]) rfl ?_
 show JL _ _ _ [_] _ _ _
 refine JLr (Ze 0 (vs := [iv kind, iv num, .string (cond (fR kind) (txS ref) ⟨#[]⟩), nS]) (l := [iv kind, iv num, .string (cond (fR kind) (txS ref) ⟨#[]⟩), nS]) ZM rfl rfl rfl rfl rfl (Zf rfl (Zf rfl (Zf rfl (Zf rfl Zo)))) rfl <| Zb <| Zc <| Zc <| Za <| JLq (pp b1 34) (Z3 rfl rfl) <| JLr (Zd Y0 rfl (At.bx 2 rfl) (Z4 ..) ?_))
 obtain ⟨a5, cap5, hv5⟩ := hks.sl
 have hle5 := hks.le
 refine JLn (Pu.lenSl Tryz.runUnderlying27 hv5) <| JLM rfl <| Zb <| Zn <| ZB (fun k ρ M => ∃ (j : Nat) (y1y : Value) (es1s : List (List Value)) (q1a q1b : Zi), ρ 1 = pp b1 0 ∧ ρ 2 = pp b2 0 ∧ ρ 3 = pp b4 0 ∧ ρ 21 = ks ∧ ρ 22 = iv ((kids.length : Int)) ∧ ρ 23 = iv ((j : Int)) ∧ Sub [(BX b4 [iv kind, iv num, .string (cond (fR kind) (txS ref) ⟨#[]⟩), y1y] 39), q1a, q1b, (BX b2 [iv 0, iv 0, .string (⟨#[]⟩), nS] 39), (BX b1 (pkT kind num ref ks cv) 30)] M ∧ j ≤ kids.length ∧ Own 39 4 y1y es1s q1a ∧ OIts (Ym (kids.take j)) es1s q1b ∧ k = kids.length - j) _ ⟨0, nS, [], [], [], rfl, rfl, rfl, rfl, rfl, rfl, (Sk (Sub.emp (Sub.emp (Sk (Sk Sub.nil))))), Nat.zero_le _, Own.nil, (by simpa [YW, Ym] using OIts.nil), rfl⟩ ?_
 rintro _ ρ6 _ ⟨j, y1y, es1s, q1a, q1b, e7, e8, e9, e10, e11, e12, hm13, hj, how1w, hop1p, rfl⟩
 obtain ⟨ρ14, rfl⟩ := Zr (uc e7 (uc e8 (uc e9 (uc e10 (uc e11 (uc e12 un))))))
 clear e7 e8 e9 e10 e11 e12
 refine ZG hm13 <| Zc <| Za <| JLn (Pu.lss rfl rfl) <| Zb <| Zc <| Zg rfl (fun h15 => ?_) (fun h15 => ?_)
 ·replace h15 := dt h15
  have h15n : j < kids.length := by omega
  have hs1 := Y4 _ (List.getElem_mem h15n)
  have hel := XJ hop1p
  have hgj := itTs_mem hg1 h15n
  rw [itTs_len, List.length_take, Nat.min_eq_left (by omega)] at hel
  refine Zj <| Zc <| Zn <| Zc <| Za ?_
  obtain ⟨b16, o16, cap16, row16, T16, fr16, cs16, hv16, hb16, hs16, hE16⟩ := hks.get j (by first | assumption | omega | decide | simp)
  refine JLq (pp b16 (o16 + j * 36)) (Pu.idx j Tryz.runUnderlying27 Zt hv16 rfl rfl (by first | assumption | omega | decide | simp)) <| JLr (Zh Zt rfl (At.im hb16) hs16 <| JLr (Zk (l := pkT 0 0 zS nS nS) Tryz.zeroValue30 rfl fun b17 => JLr (Ze 0 (vs := cs16) (l := cs16) Zt rfl rfl rfl rfl (Zu hE16) (XG hE16) (ZK (n := 36) rfl (Zu hE16)) <| Zb <| ZJ mixed #[0, 1, 0, 4, 12, 31, 63, 127] 5 [some 27, some 28, some 29, some 30, some 31] [] [(3, fun _ _ vw qw => ∃ cs k, vw = .agg ⟨cs⟩ ∧ qw = [k] ∧ OIt (itT (kids[j])) cs k), (4, fun r _ vw qw => ∃ b k, vw = .slice (some ⟨b, 0, none⟩) 1 1 ∧ qw = [k] ∧ Own 39 4 (.slice (some ⟨b, 0, none⟩) 1 1) [(cel (r 3))] k ∧ k = (BX b (List.flatten [(cel (r 3))]) 39))] rfl (by kernel_rfl) rfl (by kernel_rfl) <| Dq (pp b4 3) (fun _ => ZP rfl rfl) <| Dl1 Yw (At.bx 1 rfl) rfl <| Dl Zt (At.bx 0 rfl) (Zs (Zu hE16)) ?_)))
  refine Dc rfl Tryz.call56 (fun _ => rfl) (fun hin => ih _ (List.getElem_mem h15n) _ _ (RT.mono (Hle.hu _ _) hE16) (by omega) hgj) ?_
  rintro _ _ ⟨cs20, k20, rfl, rfl, hO20⟩
  refine Dr rfl (fun _ => Zp (vs := [.agg ⟨cs20⟩]) [cs20] Tryz.runUnderlying37 el39 rfl rfl (by intro e he; simp only [List.mem_cons, List.not_mem_nil, or_false] at he; subst he; exact hO20.len) rfl (by decide) fun b k h1 h2 => ⟨[k], by rw [ZN rfl]; exact Sub.refl, b, k, rfl, rfl, h1, h2⟩) (fun _ _ ⟨b21, k21, e1, e2, ho21, hk21⟩ => ?_); subst e1 e2
  refine ZV (M' := [k21, k20, (BX b17 cs16 30), (BX b4 [iv kind, iv num, .string (cond (fR kind) (txS ref) ⟨#[]⟩), y1y] 39), q1a, q1b, (BX b2 [iv 0, iv 0, .string (⟨#[]⟩), nS] 39), (BX b1 (pkT kind num ref ks cv) 30)]) rfl ?_
  show JL _ _ _ [_, _, _] _ _ _
  have hlens22 : ∀ e ∈ ([cs20] : List (List Value)), List.length e = 4 := by
   intro e he; simp only [List.mem_cons, List.not_mem_nil, or_false] at he
   rcases he with rfl
   ·exact hO20.len
  have hoks22 : ∀ e ∈ ([cs20] : List (List Value)), okc e := by
   intro e he; simp only [List.mem_cons, List.not_mem_nil, or_false] at he
   rcases he with rfl
   ·exact hO20.ok
  refine JLr (Zx (i := 4) (n := 1) (es' := [cs20]) Tryz.runUnderlying37 Tryz.runUnderlying37 (Or.inl rfl) el39 rfl rfl rfl how1w (fun F w m => Src.row (((At.k 0 rfl (by rw [hk21]; exact List.mem_cons_self))).heap m) (Zs (Zw hlens22))) rfl hlens22 hoks22 (by decide) (by omega) fun v22 k22 ho22 => JLq (pp b4 3) (ZP rfl rfl) <| JLr (Ze 3 (vs := [v22]) (l := [iv kind, iv num, .string (cond (fR kind) (txS ref) ⟨#[]⟩), v22]) Yw rfl rfl rfl (ZH ho22.one) rfl (Zf ho22.one Zo) rfl <| Zb <| Za <| JLn (Pu.inc rfl rfl (by omega)) <| JLM rfl <| Zb <| ⟨_, ?_, (j + 1), v22, (es1s ++ [cs20]), k22, (q1b ++ k20), rfl, rfl, rfl, rfl, rfl, rfl, (Sd (Sub.cons 2 rfl (Sub.cons 2 rfl (Sub.join (Sub.cons 2 rfl (Sk (Sd (Sk (Sk Sub.nil))))))))), ?_, ?_, ?_, rfl⟩))
  ·omega
  ·omega
  ·exact ho22
  rw [itTs_snoc h15n]; exact OIts.snoc hO20 hop1p
 replace h15 := df h15
 have h15n : kids.length ≤ j := by omega
 refine Zz _ rfl <| Zc <| Zc <| Za <| JLq (pp b1 35) (ZR rfl rfl) <| JLr (Zd YA rfl (At.bx 4 rfl) (ZT ..) ?_)
 obtain ⟨a23, cap23, hv23⟩ := hcv.sl
 have hle23 := hcv.le
 refine JLn (Pu.lenSl Tryz.runUnderlying28 hv23) <| JLM rfl <| Zb <| Zn <| ZB (fun k ρ M => ∃ (j : Nat) (y2y : Value) (es2s : List (List Value)) (q2a q2b : Zi), ρ 2 = pp b2 0 ∧ ρ 3 = pp b4 0 ∧ ρ 36 = cv ∧ ρ 37 = iv ((cases.length : Int)) ∧ ρ 38 = iv ((j : Int)) ∧ Sub [(BX b4 [iv kind, iv num, .string (cond (fR kind) (txS ref) ⟨#[]⟩), y2y] 39), q2a, q2b, (BX b2 [iv 0, iv 0, .string (⟨#[]⟩), nS] 39), (BX b1 (pkT kind num ref ks cv) 30)] M ∧ j ≤ cases.length ∧ Own 39 4 y2y es2s q2a ∧ OIts (Ym kids ++ Yp (cases.take j)) es2s q2b ∧ k = cases.length - j) _ ⟨0, y1y, es1s, q1a, q1b, rfl, rfl, rfl, rfl, rfl, (Sk (Sk (Sk (Sk (Sk Sub.nil))))), Nat.zero_le _, how1w, (by rw [List.take_of_length_le h15n] at hop1p; simpa [Yp] using hop1p), rfl⟩ ?_
 rintro _ ρ24 _ ⟨j, y2y, es2s, q2a, q2b, e25, e26, e27, e28, e29, hm30, hj, how2w, hop2p, rfl⟩
 obtain ⟨ρ31, rfl⟩ := Zr (uc e25 (uc e26 (uc e27 (uc e28 (uc e29 un)))))
 clear e25 e26 e27 e28 e29
 refine ZG hm30 <| Zc <| Za <| JLn (Pu.lss rfl rfl) <| Zb <| Zc <| Zg rfl (fun h32 => ?_) (fun h32 => ?_)
 ·replace h32 := dt h32
  have h32n : j < cases.length := by omega
  have hs1 := YN _ (List.getElem_mem h32n)
  have hel := XJ hop2p
  have hgj := itCs_mem hg2 h32n
  rw [List.length_append, itTs_len, itCs_len, List.length_take, Nat.min_eq_left (by omega)] at hel
  refine Zj <| Zc <| Zn <| Zc <| Za ?_
  obtain ⟨b33, o33, cap33, row33, T33, fr33, cs33, hv33, hb33, hs33, hE33⟩ := hcv.get j (by first | assumption | omega | decide | simp)
  obtain ⟨ca33, cb33, rfl, hA33, hB33⟩ := hE33
  refine JLq (pp b33 (o33 + j * 71)) (Pu.idx j Tryz.runUnderlying28 YV hv33 rfl rfl (by first | assumption | omega | decide | simp)) <| JLr (Zh YV rfl (At.im hb33) hs33 <| JLr (Zk (l := (pkP 0 0 zS nS) ++ (pkT 0 0 zS nS nS)) Tryz.zeroValue86 rfl fun b34 => JLr (Ze 0 (vs := ca33 ++ cb33) (l := ca33 ++ cb33) YV rfl rfl rfl rfl (Z6 (ZC hA33) (Zu hB33)) (Yg (RP_ok hA33) (XG hB33)) (ZK (n := 71) rfl (Z6 (ZC hA33) (Zu hB33))) <| Zb <| ZJ mixed #[0, 1, 0, 4, 12, 0, 32, 124, 252, 508, 1020, 2047, 4095, 8191] 11 [some 42, some 43, some 44, some 45, some 46, some 47, some 48, some 49, some 50, some 51, some 52] [] [(4, fun _ _ vw qw => ∃ cs k, vw = .agg ⟨cs⟩ ∧ qw = [k] ∧ OIt (itP (cases[j].1)) cs k), (7, fun _ _ vw qw => ∃ cs k, vw = .agg ⟨cs⟩ ∧ qw = [k] ∧ OIt (itT (cases[j].2)) cs k), (8, fun r _ vw qw => ∃ b k, vw = .slice (some ⟨b, 0, none⟩) 2 2 ∧ qw = [k] ∧ Own 39 4 (.slice (some ⟨b, 0, none⟩) 2 2) [(cel (r 4)), (cel (r 7))] k ∧ k = (BX b (List.flatten [(cel (r 4)), (cel (r 7))]) 39)), (10, fun r _ vw qw => ∃ b k, vw = .slice (some ⟨b, 0, none⟩) 1 1 ∧ qw = [k] ∧ Own 39 4 (.slice (some ⟨b, 0, none⟩) 1 1) [[iv 20, iv 0, .string (⟨#[]⟩), .slice (some ⟨(sblk (r 8)), 0, none⟩) 2 2]] k ∧ k = (BX b (List.flatten [[iv 20, iv 0, .string (⟨#[]⟩), .slice (some ⟨(sblk (r 8)), 0, none⟩) 2 2]]) 39))] rfl (by kernel_rfl) rfl (by kernel_rfl) <| Dq (pp b4 3) (fun _ => ZP rfl rfl) <| Dl1 Yw (At.bx 1 rfl) rfl <| Dq (pp b34 0) (fun _ => Xi rfl rfl) <| Dl Z1 (At.bx 0 rfl) (sub_l (ZC hA33)) ?_)))
  refine Dc rfl Tryz.call94 (fun _ => rfl) (fun hin => pItem_ct _ _ _ (RP.mono (Hle.hu _ _) hA33) (by omega) hgj.1) ?_
  rintro _ _ ⟨cs39, k39, rfl, rfl, hO39⟩
  refine Dq (pp b34 35) (fun _ => fa86_1 rfl rfl) <| Dl Zt (At.bx 0 rfl) (sub_r (ZC hA33) (Zu hB33)) ?_
  refine Dc rfl Tryz.call56 (fun _ => rfl) (fun hin => ih' _ (List.getElem_mem h32n) _ _ (RT.mono (Hle.hu _ _) hB33) (by omega) hgj.2) ?_
  rintro _ _ ⟨cs40, k40, rfl, rfl, hO40⟩
  refine Dr rfl (fun _ => Zp (vs := [.agg ⟨cs39⟩, .agg ⟨cs40⟩]) [cs39, cs40] Tryz.runUnderlying37 el39 rfl rfl (by intro e he; simp only [List.mem_cons, List.not_mem_nil, or_false] at he; rcases he with rfl | rfl <;> first | exact hO39.len | exact hO40.len) rfl (by decide) fun b k h1 h2 => ⟨[k], by rw [ZN rfl]; exact Sub.refl, b, k, rfl, rfl, h1, h2⟩) (fun _ _ ⟨b41, k41, e1, e2, ho41, hk41⟩ => ?_); subst e1 e2
  refine Dq (.agg ⟨[iv 20, iv 0, .string (⟨#[]⟩), .slice (some ⟨b41, 0, none⟩) 2 2]⟩) (fun _ => Pu.build (pv := [(0, iv 20), (3, .slice (some ⟨b41, 0, none⟩) 2 2)]) (l := [iv 20, iv 0, .string (⟨#[]⟩), .slice (some ⟨b41, 0, none⟩) 2 2]) rfl (bld39_0_3 _ _ _ _)) <| Dr rfl (fun _ => Zp (vs := [.agg ⟨[iv 20, iv 0, .string (⟨#[]⟩), .slice (some ⟨b41, 0, none⟩) 2 2]⟩]) [[iv 20, iv 0, .string (⟨#[]⟩), .slice (some ⟨b41, 0, none⟩) 2 2]] Tryz.runUnderlying37 el39 rfl rfl (by intro e he; simp only [List.mem_cons, List.not_mem_nil, or_false] at he; subst he; exact rfl) rfl (by decide) fun b k h1 h2 => ⟨[k], by rw [ZN rfl]; exact Sub.refl, b, k, rfl, rfl, h1, h2⟩) (fun _ _ ⟨b42, k42, e1, e2, ho42, hk42⟩ => ?_); subst e1 e2
  refine ZV (M' := [k42, k41, k40, k39, (BX b34 (ca33 ++ cb33) 86), (BX b4 [iv kind, iv num, .string (cond (fR kind) (txS ref) ⟨#[]⟩), y2y] 39), q2a, q2b, (BX b2 [iv 0, iv 0, .string (⟨#[]⟩), nS] 39), (BX b1 (pkT kind num ref ks cv) 30)]) rfl ?_
  show JL _ _ _ [_, _, _] _ _ _
  have hlens43 : ∀ e ∈ ([[iv 20, iv 0, .string (⟨#[]⟩), .slice (some ⟨b41, 0, none⟩) 2 2]] : List (List Value)), List.length e = 4 := by
   intro e he; simp only [List.mem_cons, List.not_mem_nil, or_false] at he
   rcases he with rfl
   ·exact rfl
  have hoks43 : ∀ e ∈ ([[iv 20, iv 0, .string (⟨#[]⟩), .slice (some ⟨b41, 0, none⟩) 2 2]] : List (List Value)), okc e := by
   intro e he; simp only [List.mem_cons, List.not_mem_nil, or_false] at he
   rcases he with rfl
   ·exact (Zf rfl (Zf rfl (Zf rfl (Zf rfl Zo))))
  refine JLr (Zx (i := 6) (n := 1) (es' := [[iv 20, iv 0, .string (⟨#[]⟩), .slice (some ⟨b41, 0, none⟩) 2 2]]) Tryz.runUnderlying37 Tryz.runUnderlying37 (Or.inl rfl) el39 rfl rfl rfl how2w (fun F w m => Src.row (((At.k 0 rfl (by rw [hk42]; exact List.mem_cons_self))).heap m) (Zs (Zw hlens43))) rfl hlens43 hoks43 (by decide) (by omega) fun v43 k43 ho43 => JLq (pp b4 3) (ZP rfl rfl) <| JLr (Ze 5 (vs := [v43]) (l := [iv kind, iv num, .string (cond (fR kind) (txS ref) ⟨#[]⟩), v43]) Yw rfl rfl rfl (ZH ho43.one) rfl (Zf ho43.one Zo) rfl <| Zb <| Za <| JLn (Pu.inc rfl rfl (by omega)) <| JLM rfl <| Zb <| ⟨_, ?_, (j + 1), v43, (es2s ++ [[iv 20, iv 0, .string (⟨#[]⟩), .slice (some ⟨b41, 0, none⟩) 2 2]]), k43, (q2b ++ (k41 ++ (k39 ++ k40))), rfl, rfl, rfl, rfl, rfl, (Sd (Sub.cons 4 rfl (Sub.cons 4 rfl (Sub.join4 (Sub.cons 4 rfl (Sk (Sub.cons 1 rfl (Sk (Sd (Sk (Sk Sub.nil))))))))))), ?_, ?_, ?_, rfl⟩))
  ·omega
  ·omega
  ·exact ho43
  rw [itCs_snoc h32n, ← List.append_assoc]; exact OIts.snoc (OIt_case ho41 hO39 hO40) hop2p
 replace h32 := df h32
 have h32n : cases.length ≤ j := by omega
 refine Zz _ rfl <| Zc <| Za <| JLr (Zh ZM rfl (At.bx 0 rfl) rfl <| JLr (Ze 3 (vs := [iv kind, iv num, .string (cond (fR kind) (txS ref) ⟨#[]⟩), y2y]) (l := [iv kind, iv num, .string (cond (fR kind) (txS ref) ⟨#[]⟩), y2y]) ZM rfl rfl rfl rfl rfl (Zf rfl (Zf rfl (Zf rfl (Zf how2w.one Zo)))) rfl <| Zb <| Zl <| ⟨.agg ⟨[iv kind, iv num, .string (cond (fR kind) (txS ref) ⟨#[]⟩), y2y]⟩, [q2a ++ q2b], Ret.one rfl (RV.cell ZM rfl (At.bx 3 rfl) rfl), (Sub.join (Sd (Sk (Sk Sub.nil)))), ?_⟩))
 rw [List.take_of_length_le h32n] at hop2p
 exact ⟨_, _, rfl, rfl, by rw [itT, ← fR_has, ← tx_cond]; exact OIt_mk.2 ⟨_, _, _, _, rfl, hk, hn, how2w, hop2p, rfl, by rw [List.length_append, itTs_len, itCs_len]; omega⟩⟩
end Go.Proofs.YtkjafeejpmcnkaaGreat.Hs
/-! Walks, printed by a program of this session's own (gen.py). -/
namespace Go.Proofs.YtkjafeejpmcnkaaGreat.Hs
open Go Go.Proofs
set_option maxRecDepth 100000
set_option linter.unusedVariables false
set_option linter.unusedSimpArgs false
attribute [local irreducible] JL J CT wlo DT
theorem itemE_ct (t : Tm) (cs : List Value) (H : Heap) (ht : RT H cs t) : CT Tryz.prog 18 ⟨[.agg ⟨cs⟩]⟩ [] H (fun r N => ∃ cs k, r = .tuple ⟨[.agg ⟨cs⟩, iv (ZO [t])]⟩ ∧ N = [k] ∧ OIt (if ZO [t] = 0 then itT t else zI) cs k) := by
 refine Zm Tryz.func18 rfl rfl <| Zc <| Za <| JLr (Zq (l := cs) rfl rfl fun b1 => JLr (Zk (l := [iv 0, iv 0, .string (⟨#[]⟩), nS]) Tryz.zeroValue39 rfl fun b2 => JLA rfl <| Zb <| Zc <| Zc <| Za <| JLr (Zh Zt rfl (At.bx 1 rfl) (Zs (Zu ht)) <| JLr (Zp (vs := [.agg ⟨cs⟩]) [cs] Tryz.runUnderlying27 el30 rfl rfl (by intro e he; simp only [List.mem_cons, List.not_mem_nil, or_false] at he; subst he; exact (Zu ht)) rfl (by decide) fun b3 k3 ho3 hk3 => Jc Tryz.call55 rfl (fun hin => right_ct _ _ _ (Own.rd1 ho3 (hin 0 _ rfl) (RT.mono (Hle.hu _ _) ht))) rfl ?_))))
 rintro _ _ ⟨rfl, rfl⟩
 refine JLA rfl <| Zb <| Zc <| Za <| JLM rfl <| JLn (Pu.neq rfl rfl) <| Zb <| Zg rfl (fun h4 => ?_) (fun h4 => ?_)
 ·replace h4 := nt h4
  replace h4 := df h4
  refine Zc <| Za <| JLq (.agg ⟨[iv 0, iv 0, .string (⟨#[]⟩), nS]⟩) (Pu.build (pv := []) (l := [iv 0, iv 0, .string (⟨#[]⟩), nS]) rfl bld39_) <| JLM rfl <| JLr (Ze 1 (vs := [iv 0, iv 0, .string (⟨#[]⟩), nS]) (l := [iv 0, iv 0, .string (⟨#[]⟩), nS]) ZM rfl rfl rfl rfl rfl (Zf rfl (Zf rfl (Zf rfl (Zf rfl Zo)))) rfl <| JLA rfl <| Zb <| Zl <| ⟨.tuple ⟨[.agg ⟨[iv 0, iv 0, .string (⟨#[]⟩), nS]⟩, iv (ZO [t])]⟩, [[]], Ret.two rfl (RV.cell ZM rfl (At.bx 1 rfl) rfl) (RV.tmp rfl), (Sub.emp Sub.nil), ?_⟩)
  exact ⟨_, _, rfl, rfl, by rw [if_neg (by omega)]; exact OIt_zero⟩
 replace h4 := nf h4
 replace h4 := dt h4
 refine Zj <| Zc ?_
 have hr0 : ZO [t] = 0 := by omega
 have hck : ZX 60 8 t = 0 := by rw [← rightT_one]; exact hr0
 have hsz := (checkR_ok hck).1
 refine Za <| JLr (Zh Zt rfl (At.bx 2 rfl) (Zs (Zu ht)) <| Jc Tryz.call56 rfl (fun hin => tItem_ct _ _ _ (RT.mono (Hle.hu _ _) ht) (by omega) (right_gd hck).1) rfl ?_)
 rintro _ _ ⟨cs5, k5, rfl, rfl, hO5⟩
 refine JLr (Ze 2 (vs := cs5) (l := cs5) ZM rfl rfl rfl rfl hO5.len hO5.ok (ZK (n := 4) rfl hO5.len) <| JLA rfl <| Zb <| Zl <| ⟨.tuple ⟨[.agg ⟨cs5⟩, iv 0]⟩, [k5], Ret.two rfl (RV.cell ZM rfl (At.bx 2 rfl) (Zs hO5.len)) (RV.tmp rfl), (Sk Sub.nil), ?_⟩)
 exact ⟨_, _, by rw [hr0], rfl, by rw [if_pos hr0]; exact hO5⟩
end Go.Proofs.YtkjafeejpmcnkaaGreat.Hs
/-! Walks, printed by a program of this session's own (gen.py). -/
namespace Go.Proofs.YtkjafeejpmcnkaaGreat.Hs
open Go Go.Proofs
set_option maxRecDepth 100000
set_option linter.unusedVariables false
set_option linter.unusedSimpArgs false
attribute [local irreducible] JL J CT wlo DT
set_option maxHeartbeats 2000000 in
theorem pItemR_ct : ∀ (p : Pt) (cs : List Value) (H : Heap), RP H cs p → sizeP p ≤ 1000000 → gdI (itP p) → CT Tryz.prog 51 ⟨[.agg ⟨cs⟩]⟩ [] H (fun r N => ∃ cs k, r = .agg ⟨cs⟩ ∧ N = [k] ∧ OIt (itP p) cs k) := by
 intro p
 induction p using Pt.ind with
 | h kind num ref kids ih =>
 intro cs H hp hz hg
 obtain ⟨ks, rfl, hk, hn, hks⟩ := RP_mk.1 hp
 rw [sizeP] at hz
 rw [itP, gdI] at hg
 have hle := hks.le
 have hkl := len_sizePs kids
 refine Zm Tryz.func51 rfl rfl <| Zc <| Za <| JLr (Zq (l := pkP kind num ref ks) rfl rfl fun b1 => JLr (Zk (l := [iv 0, iv 0, .string (⟨#[]⟩), nS]) Tryz.zeroValue39 rfl fun b2 => Zb <| Zc <| Za <| JLq (pp b1 0) (Yl rfl rfl) <| JLr (Zd ty3 rfl (At.bx 1 rfl) (YK ..) <| JLn (Pu.add64 rfl rfl (by first | omega | (constructor <;> omega))) <| JLq (pp b1 1) (XA rfl rfl) <| JLr (Zd ty3 rfl (At.bx 1 rfl) (pkP_1 ..) ?_))))
 refine JLq (.agg ⟨[iv (30 + kind), iv num, .string (⟨#[]⟩), nS]⟩) (Pu.build (pv := [(0, iv (30 + kind)), (1, iv num)]) (l := [iv (30 + kind), iv num, .string (⟨#[]⟩), nS]) rfl (bld39_0_1 _ _)) <| JLr (Zk (l := [iv 0, iv 0, .string (⟨#[]⟩), nS]) Tryz.zeroValue39 rfl fun b3 => JLr (Ze 0 (vs := [iv (30 + kind), iv num, .string (⟨#[]⟩), nS]) (l := [iv (30 + kind), iv num, .string (⟨#[]⟩), nS]) ZM rfl rfl rfl rfl rfl (Zf rfl (Zf rfl (Zf rfl (Zf rfl Zo)))) rfl <| Zb <| Zc <| Zc <| Za <| JLq (pp b1 0) (Yl rfl rfl) <| JLr (Zd ty3 rfl (At.bx 2 rfl) (YK ..) <| JLn (Pu.eql rfl rfl) <| Zb <| Xq (N := fun ρ M => ∃ (tx : ByteArray), (tx = if kind = 3 then txS ref else ⟨#[]⟩) ∧ ρ 1 = pp b1 0 ∧ ρ 2 = pp b2 0 ∧ ρ 3 = pp b3 0 ∧ M = [(BX b3 [iv (30 + kind), iv num, .string tx, nS] 39), (BX b2 [iv 0, iv 0, .string (⟨#[]⟩), nS] 39), (BX b1 (pkP kind num ref ks) 81)]) ?_ ?_)))
 ·refine Zg rfl (fun h4 => ?_) (fun h4 => ?_)
  ·replace h4 := dt h4
   refine Za <| JLq (pp b1 2) (fa81_2 rfl rfl) <| JLr (Zh YM rfl (At.bx 2 rfl) (pkP_2 ..) <| Jc Tryz.call50 rfl (fun hin => text_ct _ _) rfl ?_)
   rintro _ _ ⟨rfl, rfl⟩
   refine JLq (pp b3 2) (YB rfl rfl) <| JLr (Ze 0 (vs := [.string (txS ref)]) (l := [iv (30 + kind), iv num, .string (txS ref), nS]) ty9 rfl rfl rfl rfl rfl (Zf rfl Zo) rfl <| Zb ?_)
   exact ⟨(txS ref), (if_pos h4).symm, rfl, rfl, rfl, rfl⟩
  replace h4 := df h4
  refine Zj ?_
  exact ⟨(⟨#[]⟩), (if_neg h4).symm, rfl, rfl, rfl, rfl⟩
 rintro ρ5 _ ⟨tx, htx, e6, e7, e8, rfl⟩
 obtain ⟨ρ9, rfl⟩ := Zr (uc e6 (uc e7 (uc e8 un)))
 clear e6 e7 e8
 refine Zc <| Zc <| Za <| JLA rfl <| Zb <| Zn <| ZB (fun k ρ M => ∃ (j : Nat) (y1y : Value) (es1s : List (List Value)) (q1a q1b : Zi), ρ 1 = pp b1 0 ∧ ρ 2 = pp b2 0 ∧ ρ 3 = pp b3 0 ∧ ρ 4 = iv ((j : Int)) ∧ Sub [(BX b3 [iv (30 + kind), iv num, .string tx, y1y] 39), q1a, q1b, (BX b2 [iv 0, iv 0, .string (⟨#[]⟩), nS] 39), (BX b1 (pkP kind num ref ks) 81)] M ∧ j ≤ kids.length ∧ Own 39 4 y1y es1s q1a ∧ OIts (YW (kids.take j)) es1s q1b ∧ k = kids.length - j) _ ⟨0, nS, [], [], [], rfl, rfl, rfl, rfl, (Sk (Sub.emp (Sub.emp (Sk (Sk Sub.nil))))), Nat.zero_le _, Own.nil, (by simpa [YW, Ym] using OIts.nil), rfl⟩ ?_
 rintro _ ρ10 _ ⟨j, y1y, es1s, q1a, q1b, e11, e12, e13, e14, hm15, hj, how1w, hop1p, rfl⟩
 obtain ⟨ρ16, rfl⟩ := Zr (uc e11 (uc e12 (uc e13 (uc e14 un))))
 clear e11 e12 e13 e14
 refine ZG hm15 <| Zc <| Zc <| Za <| JLM rfl <| JLq (pp b1 34) (Z5 rfl rfl) <| JLr (Zd Xa rfl (At.bx 4 rfl) (Yf ..) ?_)
 obtain ⟨a17, cap17, hv17⟩ := hks.sl
 have hle17 := hks.le
 refine JLn (Pu.lenSl Tryz.runUnderlying79 hv17) <| JLn (Pu.lss rfl rfl) <| Zb <| Zg rfl (fun h18 => ?_) (fun h18 => ?_)
 ·replace h18 := dt h18
  have h18n : j < kids.length := by omega
  have hs1 := sizePs_mem _ (List.getElem_mem h18n)
  have hel := XJ hop1p
  have hgj := itPs_mem hg.2.2.2 h18n
  rw [itPs_len, List.length_take, Nat.min_eq_left (by omega)] at hel
  refine Zj <| Zc <| Zn <| ZJ mixed #[0, 1, 0, 4, 0, 28, 60, 124, 252, 511, 1023, 2047] 9 [some 25, some 26, some 27, some 28, some 29, some 30, some 31, some 32, some 33] [] [(7, fun _ _ vw qw => ∃ cs k, vw = .agg ⟨cs⟩ ∧ qw = [k] ∧ OIt (itP (kids[j])) cs k), (8, fun r _ vw qw => ∃ b k, vw = .slice (some ⟨b, 0, none⟩) 1 1 ∧ qw = [k] ∧ Own 39 4 (.slice (some ⟨b, 0, none⟩) 1 1) [(cel (r 7))] k ∧ k = (BX b (List.flatten [(cel (r 7))]) 39))] rfl (by kernel_rfl) rfl (by kernel_rfl) <| Dq (pp b3 3) (fun _ => ZP rfl rfl) <| Dl1 Yw (At.bx 0 rfl) rfl <| Dq (pp b1 34) (fun _ => Z5 rfl rfl) <| Dl1 Xa (At.bx 4 rfl) (Yf ..) <| DM (fun _ => rfl) ?_
  obtain ⟨b22, o22, cap22, row22, T22, fr22, cs22, hv22, hb22, hs22, hE22⟩ := hks.get j (by first | assumption | omega | decide | simp)
  refine Dq (pp b22 (o22 + j * 35)) (fun _ => Pu.idx j Tryz.runUnderlying79 Z1 hv22 rfl rfl (by first | assumption | omega | decide | simp)) <| Dl Z1 (At.im hb22) hs22 ?_
  refine Dc rfl Tryz.call51 (fun _ => rfl) (fun hin => ih _ (List.getElem_mem h18n) _ _ (RP.mono (Hle.hu _ _) hE22) (by omega) hgj) ?_
  rintro _ _ ⟨cs23, k23, rfl, rfl, hO23⟩
  refine Dr rfl (fun _ => Zp (vs := [.agg ⟨cs23⟩]) [cs23] Tryz.runUnderlying37 el39 rfl rfl (by intro e he; simp only [List.mem_cons, List.not_mem_nil, or_false] at he; subst he; exact hO23.len) rfl (by decide) fun b k h1 h2 => ⟨[k], by rw [ZN rfl]; exact Sub.refl, b, k, rfl, rfl, h1, h2⟩) (fun _ _ ⟨b24, k24, e1, e2, ho24, hk24⟩ => ?_); subst e1 e2
  refine ZV (M' := [k24, k23, (BX b3 [iv (30 + kind), iv num, .string tx, y1y] 39), q1a, q1b, (BX b2 [iv 0, iv 0, .string (⟨#[]⟩), nS] 39), (BX b1 (pkP kind num ref ks) 81)]) rfl ?_
  show JL _ _ _ [_, _, _] _ _ _
  have hlens25 : ∀ e ∈ ([cs23] : List (List Value)), List.length e = 4 := by
   intro e he; simp only [List.mem_cons, List.not_mem_nil, or_false] at he
   rcases he with rfl
   ·exact hO23.len
  have hoks25 : ∀ e ∈ ([cs23] : List (List Value)), okc e := by
   intro e he; simp only [List.mem_cons, List.not_mem_nil, or_false] at he
   rcases he with rfl
   ·exact hO23.ok
  refine JLr (Zx (i := 3) (n := 1) (es' := [cs23]) Tryz.runUnderlying37 Tryz.runUnderlying37 (Or.inl rfl) el39 rfl rfl rfl how1w (fun F w m => Src.row (((At.k 0 rfl (by rw [hk24]; exact List.mem_cons_self))).heap m) (Zs (Zw hlens25))) rfl hlens25 hoks25 (by decide) (by omega) fun v25 k25 ho25 => JLq (pp b3 3) (ZP rfl rfl) <| JLr (Ze 2 (vs := [v25]) (l := [iv (30 + kind), iv num, .string tx, v25]) Yw rfl rfl rfl (ZH ho25.one) rfl (Zf ho25.one Zo) rfl <| Zb <| Za <| JLM rfl <| JLn (Pu.inc rfl rfl (by omega)) <| JLA rfl <| Zb <| ⟨_, ?_, (j + 1), v25, (es1s ++ [cs23]), k25, (q1b ++ k23), rfl, rfl, rfl, rfl, (Sd (Sub.cons 1 rfl (Sub.cons 1 rfl (Sub.join (Sub.cons 1 rfl (Sk (Sk (Sk Sub.nil)))))))), ?_, ?_, ?_, rfl⟩))
  ·omega
  ·omega
  ·exact ho25
  rw [itPs_snoc h18n]; exact OIts.snoc hO23 hop1p
 replace h18 := df h18
 have h18n : kids.length ≤ j := by omega
 refine Zz _ rfl <| Zc <| Za <| JLr (Zh ZM rfl (At.bx 0 rfl) rfl <| JLr (Ze 3 (vs := [iv (30 + kind), iv num, .string tx, y1y]) (l := [iv (30 + kind), iv num, .string tx, y1y]) ZM rfl rfl rfl rfl rfl (Zf rfl (Zf rfl (Zf rfl (Zf how1w.one Zo)))) rfl <| Zb <| Zl <| ⟨.agg ⟨[iv (30 + kind), iv num, .string tx, y1y]⟩, [q1a ++ q1b], Ret.one rfl (RV.cell ZM rfl (At.bx 3 rfl) rfl), (Sub.join (Sd (Sk (Sk Sub.nil)))), ?_⟩))
 rw [List.take_of_length_le h18n] at hop1p
 exact ⟨_, _, rfl, rfl, by rw [itP, ← htx]; exact OIt_mk.2 ⟨_, _, _, _, rfl, by unfold inI; omega, hn, how1w, hop1p, rfl, by rw [itPs_len]; omega⟩⟩
end Go.Proofs.YtkjafeejpmcnkaaGreat.Hs
/-! Walks, printed by a program of this session's own (gen.py). -/
namespace Go.Proofs.YtkjafeejpmcnkaaGreat.Hs
open Go Go.Proofs
set_option maxRecDepth 100000
set_option linter.unusedVariables false
set_option linter.unusedSimpArgs false
attribute [local irreducible] JL J CT wlo DT
set_option maxHeartbeats 4000000 in
theorem tItemR_ct : ∀ (t : Tm) (cs : List Value) (H : Heap), RT H cs t → sizeT t ≤ 1000000 → gdI (itT t) → CT Tryz.prog 15 ⟨[.agg ⟨cs⟩]⟩ [] H (fun r N => ∃ cs k, r = .agg ⟨cs⟩ ∧ N = [k] ∧ OIt (itT t) cs k) := by
 intro t
 induction t using Tm.ind with
 | h kind num ref kids cases ih ih' =>
 intro cs H hp hz hg
 obtain ⟨ks, cv, rfl, hk, hn, hks, hcv⟩ := RT_mk.1 hp
 rw [sizeT] at hz
 rw [itT, gdI] at hg
 obtain ⟨hg1, hg2⟩ := gdIs_left hg.2.2.2
 have hle := hks.le
 have hle2 := hcv.le
 have hkl := len_sizeTs kids
 have hcl := len_sizeCs cases
 refine Zm Tryz.func15 rfl rfl <| Zc <| Za <| JLr (Zq (l := pkT kind num ref ks cv) rfl rfl fun b1 => JLr (Zk (l := [iv 0, iv 0, .string (⟨#[]⟩), nS]) Tryz.zeroValue39 rfl fun b2 => Zb <| Zc <| Za <| JLq (pp b1 0) (ZI rfl rfl) <| JLr (Zd ty3 rfl (At.bx 1 rfl) (ZZ ..) <| JLq (pp b1 1) (Z9 rfl rfl) <| JLr (Zd ty3 rfl (At.bx 1 rfl) (Yt ..) <| JLq (.agg ⟨[iv kind, iv num, .string (⟨#[]⟩), nS]⟩) (Pu.build (pv := [(0, iv kind), (1, iv num)]) (l := [iv kind, iv num, .string (⟨#[]⟩), nS]) rfl (bld39_0_1 _ _)) ?_))))
 refine JLr (Zk (l := [iv 0, iv 0, .string (⟨#[]⟩), nS]) Tryz.zeroValue39 rfl fun b3 => JLr (Ze 0 (vs := [iv kind, iv num, .string (⟨#[]⟩), nS]) (l := [iv kind, iv num, .string (⟨#[]⟩), nS]) ZM rfl rfl rfl rfl rfl (Zf rfl (Zf rfl (Zf rfl (Zf rfl Zo)))) rfl <| Zb <| Zc <| Zc <| Za <| JLq (pp b1 0) (ZI rfl rfl) <| JLr (Zd ty3 rfl (At.bx 2 rfl) (ZZ ..) <| Jc Tryz.call49 rfl (fun hin => hasRef_ct _ _) rfl ?_)))
 rintro _ _ ⟨rfl, rfl⟩
 refine Zb <| Xq (N := fun ρ M => ∃ (tx : ByteArray), (tx = if ZF kind = true then txS ref else ⟨#[]⟩) ∧ ρ 1 = pp b1 0 ∧ ρ 2 = pp b2 0 ∧ ρ 3 = pp b3 0 ∧ M = [(BX b3 [iv kind, iv num, .string tx, nS] 39), (BX b2 [iv 0, iv 0, .string (⟨#[]⟩), nS] 39), (BX b1 (pkT kind num ref ks cv) 30)]) ?_ ?_
 ·refine Zg rfl (fun h4 => ?_) (fun h4 => ?_)
  ·refine Za <| JLq (pp b1 2) (fa30_2 rfl rfl) <| JLr (Zh YM rfl (At.bx 2 rfl) (pkT_2 ..) <| Jc Tryz.call50 rfl (fun hin => text_ct _ _) rfl ?_)
   rintro _ _ ⟨rfl, rfl⟩
   refine JLq (pp b3 2) (YB rfl rfl) <| JLr (Ze 0 (vs := [.string (txS ref)]) (l := [iv kind, iv num, .string (txS ref), nS]) ty9 rfl rfl rfl rfl rfl (Zf rfl Zo) rfl <| Zb ?_)
   exact ⟨(txS ref), (if_pos h4).symm, rfl, rfl, rfl, rfl⟩
  refine Zj ?_
  exact ⟨(⟨#[]⟩), (if_neg (show ¬ ZF kind = true by rw [h4]; decide)).symm, rfl, rfl, rfl, rfl⟩
 rintro ρ5 _ ⟨tx, htx, e6, e7, e8, rfl⟩
 obtain ⟨ρ9, rfl⟩ := Zr (uc e6 (uc e7 (uc e8 un)))
 clear e6 e7 e8
 refine Zc <| Zc <| Za <| JLA rfl <| Zb <| Zn <| ZB (fun k ρ M => ∃ (j : Nat) (y1y : Value) (es1s : List (List Value)) (q1a q1b : Zi), ρ 1 = pp b1 0 ∧ ρ 2 = pp b2 0 ∧ ρ 3 = pp b3 0 ∧ ρ 4 = iv ((j : Int)) ∧ Sub [(BX b3 [iv kind, iv num, .string tx, y1y] 39), q1a, q1b, (BX b2 [iv 0, iv 0, .string (⟨#[]⟩), nS] 39), (BX b1 (pkT kind num ref ks cv) 30)] M ∧ j ≤ kids.length ∧ Own 39 4 y1y es1s q1a ∧ OIts (Ym (kids.take j)) es1s q1b ∧ k = kids.length - j) _ ⟨0, nS, [], [], [], rfl, rfl, rfl, rfl, (Sk (Sub.emp (Sub.emp (Sk (Sk Sub.nil))))), Nat.zero_le _, Own.nil, (by simpa [YW, Ym] using OIts.nil), rfl⟩ ?_
 rintro _ ρ10 _ ⟨j, y1y, es1s, q1a, q1b, e11, e12, e13, e14, hm15, hj, how1w, hop1p, rfl⟩
 obtain ⟨ρ16, rfl⟩ := Zr (uc e11 (uc e12 (uc e13 (uc e14 un))))
 clear e11 e12 e13 e14
 refine ZG hm15 <| Zc <| Zc <| Za <| JLM rfl <| JLq (pp b1 34) (Z3 rfl rfl) <| JLr (Zd Y0 rfl (At.bx 4 rfl) (Z4 ..) ?_)
 obtain ⟨a17, cap17, hv17⟩ := hks.sl
 have hle17 := hks.le
 refine JLn (Pu.lenSl Tryz.runUnderlying27 hv17) <| JLn (Pu.lss rfl rfl) <| Zb <| Zg rfl (fun h18 => ?_) (fun h18 => ?_)
 ·replace h18 := dt h18
  have h18n : j < kids.length := by omega
  have hs1 := Y4 _ (List.getElem_mem h18n)
  have hel := XJ hop1p
  have hgj := itTs_mem hg1 h18n
  rw [itTs_len, List.length_take, Nat.min_eq_left (by omega)] at hel
  refine Zj <| Zc <| Zn <| ZJ mixed #[0, 1, 0, 4, 0, 28, 60, 124, 252, 511, 1023, 2047] 9 [some 25, some 26, some 27, some 28, some 29, some 30, some 31, some 32, some 33] [] [(7, fun _ _ vw qw => ∃ cs k, vw = .agg ⟨cs⟩ ∧ qw = [k] ∧ OIt (itT (kids[j])) cs k), (8, fun r _ vw qw => ∃ b k, vw = .slice (some ⟨b, 0, none⟩) 1 1 ∧ qw = [k] ∧ Own 39 4 (.slice (some ⟨b, 0, none⟩) 1 1) [(cel (r 7))] k ∧ k = (BX b (List.flatten [(cel (r 7))]) 39))] rfl (by kernel_rfl) rfl (by kernel_rfl) <| Dq (pp b3 3) (fun _ => ZP rfl rfl) <| Dl1 Yw (At.bx 0 rfl) rfl <| Dq (pp b1 34) (fun _ => Z3 rfl rfl) <| Dl1 Y0 (At.bx 4 rfl) (Z4 ..) <| DM (fun _ => rfl) ?_
  obtain ⟨b22, o22, cap22, row22, T22, fr22, cs22, hv22, hb22, hs22, hE22⟩ := hks.get j (by first | assumption | omega | decide | simp)
  refine Dq (pp b22 (o22 + j * 36)) (fun _ => Pu.idx j Tryz.runUnderlying27 Zt hv22 rfl rfl (by first | assumption | omega | decide | simp)) <| Dl Zt (At.im hb22) hs22 ?_
  refine Dc rfl Tryz.call15 (fun _ => rfl) (fun hin => ih _ (List.getElem_mem h18n) _ _ (RT.mono (Hle.hu _ _) hE22) (by omega) hgj) ?_
  rintro _ _ ⟨cs23, k23, rfl, rfl, hO23⟩
  refine Dr rfl (fun _ => Zp (vs := [.agg ⟨cs23⟩]) [cs23] Tryz.runUnderlying37 el39 rfl rfl (by intro e he; simp only [List.mem_cons, List.not_mem_nil, or_false] at he; subst he; exact hO23.len) rfl (by decide) fun b k h1 h2 => ⟨[k], by rw [ZN rfl]; exact Sub.refl, b, k, rfl, rfl, h1, h2⟩) (fun _ _ ⟨b24, k24, e1, e2, ho24, hk24⟩ => ?_); subst e1 e2
  refine ZV (M' := [k24, k23, (BX b3 [iv kind, iv num, .string tx, y1y] 39), q1a, q1b, (BX b2 [iv 0, iv 0, .string (⟨#[]⟩), nS] 39), (BX b1 (pkT kind num ref ks cv) 30)]) rfl ?_
  show JL _ _ _ [_, _, _] _ _ _
  have hlens25 : ∀ e ∈ ([cs23] : List (List Value)), List.length e = 4 := by
   intro e he; simp only [List.mem_cons, List.not_mem_nil, or_false] at he
   rcases he with rfl
   ·exact hO23.len
  have hoks25 : ∀ e ∈ ([cs23] : List (List Value)), okc e := by
   intro e he; simp only [List.mem_cons, List.not_mem_nil, or_false] at he
   rcases he with rfl
   ·exact hO23.ok
  refine JLr (Zx (i := 3) (n := 1) (es' := [cs23]) Tryz.runUnderlying37 Tryz.runUnderlying37 (Or.inl rfl) el39 rfl rfl rfl how1w (fun F w m => Src.row (((At.k 0 rfl (by rw [hk24]; exact List.mem_cons_self))).heap m) (Zs (Zw hlens25))) rfl hlens25 hoks25 (by decide) (by omega) fun v25 k25 ho25 => JLq (pp b3 3) (ZP rfl rfl) <| JLr (Ze 2 (vs := [v25]) (l := [iv kind, iv num, .string tx, v25]) Yw rfl rfl rfl (ZH ho25.one) rfl (Zf ho25.one Zo) rfl <| Zb <| Za <| JLM rfl <| JLn (Pu.inc rfl rfl (by omega)) <| JLA rfl <| Zb <| ⟨_, ?_, (j + 1), v25, (es1s ++ [cs23]), k25, (q1b ++ k23), rfl, rfl, rfl, rfl, (Sd (Sub.cons 1 rfl (Sub.cons 1 rfl (Sub.join (Sub.cons 1 rfl (Sk (Sk (Sk Sub.nil)))))))), ?_, ?_, ?_, rfl⟩))
  ·omega
  ·omega
  ·exact ho25
  rw [itTs_snoc h18n]; exact OIts.snoc hO23 hop1p
 replace h18 := df h18
 have h18n : kids.length ≤ j := by omega
 refine Zz _ rfl <| Zc <| Zc <| Za <| JLA rfl <| Zb <| Zn <| ZB (fun k ρ M => ∃ (j : Nat) (y2y : Value) (es2s : List (List Value)) (q2a q2b : Zi), ρ 1 = pp b1 0 ∧ ρ 2 = pp b2 0 ∧ ρ 3 = pp b3 0 ∧ ρ 5 = iv ((j : Int)) ∧ Sub [(BX b3 [iv kind, iv num, .string tx, y2y] 39), q2a, q2b, (BX b2 [iv 0, iv 0, .string (⟨#[]⟩), nS] 39), (BX b1 (pkT kind num ref ks cv) 30)] M ∧ j ≤ cases.length ∧ Own 39 4 y2y es2s q2a ∧ OIts (Ym kids ++ Yp (cases.take j)) es2s q2b ∧ k = cases.length - j) _ ⟨0, y1y, es1s, q1a, q1b, rfl, rfl, rfl, rfl, (Sk (Sk (Sk (Sk (Sk Sub.nil))))), Nat.zero_le _, how1w, (by rw [List.take_of_length_le h18n] at hop1p; simpa [Yp] using hop1p), rfl⟩ ?_
 rintro _ ρ26 _ ⟨j, y2y, es2s, q2a, q2b, e27, e28, e29, e30, hm31, hj, how2w, hop2p, rfl⟩
 obtain ⟨ρ32, rfl⟩ := Zr (uc e27 (uc e28 (uc e29 (uc e30 un))))
 clear e27 e28 e29 e30
 refine ZG hm31 <| Zc <| Zc <| Za <| JLM rfl <| JLq (pp b1 35) (ZR rfl rfl) <| JLr (Zd YA rfl (At.bx 4 rfl) (ZT ..) ?_)
 obtain ⟨a33, cap33, hv33⟩ := hcv.sl
 have hle33 := hcv.le
 refine JLn (Pu.lenSl Tryz.runUnderlying28 hv33) <| JLn (Pu.lss rfl rfl) <| Zb <| Zg rfl (fun h34 => ?_) (fun h34 => ?_)
 ·replace h34 := dt h34
  have h34n : j < cases.length := by omega
  have hs1 := YN _ (List.getElem_mem h34n)
  have hel := XJ hop2p
  have hgj := itCs_mem hg2 h34n
  rw [List.length_append, itTs_len, itCs_len, List.length_take, Nat.min_eq_left (by omega)] at hel
  refine Zj <| Zc <| Zn <| ZJ mixed #[0, 1, 0, 4, 0, 28, 60, 124, 252, 0, 512, 0, 3584, 7680, 15872, 32764, 65532, 131068, 262140, 524287, 1048575, 2097151] 19 [some 43, some 44, some 45, some 46, some 47, some 48, some 49, some 50, some 51, some 52, some 53, some 54, some 55, some 56, some 57, some 58, some 59, some 60, some 61] [] [(8, fun _ _ vw qw => ∃ cs k, vw = .agg ⟨cs⟩ ∧ qw = [k] ∧ OIt (itP (cases[j].1)) cs k), (15, fun _ _ vw qw => ∃ cs k, vw = .agg ⟨cs⟩ ∧ qw = [k] ∧ OIt (itT (cases[j].2)) cs k), (16, fun r _ vw qw => ∃ b k, vw = .slice (some ⟨b, 0, none⟩) 2 2 ∧ qw = [k] ∧ Own 39 4 (.slice (some ⟨b, 0, none⟩) 2 2) [(cel (r 8)), (cel (r 15))] k ∧ k = (BX b (List.flatten [(cel (r 8)), (cel (r 15))]) 39)), (18, fun r _ vw qw => ∃ b k, vw = .slice (some ⟨b, 0, none⟩) 1 1 ∧ qw = [k] ∧ Own 39 4 (.slice (some ⟨b, 0, none⟩) 1 1) [[iv 20, iv 0, .string (⟨#[]⟩), .slice (some ⟨(sblk (r 16)), 0, none⟩) 2 2]] k ∧ k = (BX b (List.flatten [[iv 20, iv 0, .string (⟨#[]⟩), .slice (some ⟨(sblk (r 16)), 0, none⟩) 2 2]]) 39))] rfl (by kernel_rfl) rfl (by kernel_rfl) <| Dq (pp b3 3) (fun _ => ZP rfl rfl) <| Dl1 Yw (At.bx 0 rfl) rfl <| Dq (pp b1 35) (fun _ => ZR rfl rfl) <| Dl1 YA (At.bx 4 rfl) (ZT ..) <| DM (fun _ => rfl) ?_
  obtain ⟨b41, o41, cap41, row41, T41, fr41, cs41, hv41, hb41, hs41, hE41⟩ := hcv.get j (by first | assumption | omega | decide | simp)
  obtain ⟨ca41, cb41, rfl, hA41, hB41⟩ := hE41
  refine Dq (pp b41 (o41 + j * 71)) (fun _ => Pu.idx j Tryz.runUnderlying28 YV hv41 rfl rfl (by first | assumption | omega | decide | simp)) <| Dq (pp b41 (o41 + j * 71)) (fun _ => Xi rfl rfl) <| Dl Z1 (At.im hb41) (sub_sub0 hs41 (sub_l (ZC hA41))) ?_
  refine Dc rfl Tryz.call51 (fun _ => rfl) (fun hin => pItemR_ct _ _ _ (RP.mono (Hle.hu _ _) hA41) (by omega) hgj.1) ?_
  rintro _ _ ⟨cs42, k42, rfl, rfl, hO42⟩
  refine Dq (pp b1 35) (fun _ => ZR rfl rfl) <| Dl1 YA (At.bx 4 rfl) (ZT ..) <| DM (fun _ => rfl) ?_
  obtain ⟨b43, o43, cap43, row43, T43, fr43, cs43, hv43, hb43, hs43, hE43⟩ := hcv.get j (by first | assumption | omega | decide | simp)
  obtain ⟨ca43, cb43, rfl, hA43, hB43⟩ := hE43
  refine Dq (pp b43 (o43 + j * 71)) (fun _ => Pu.idx j Tryz.runUnderlying28 YV hv43 rfl rfl (by first | assumption | omega | decide | simp)) <| Dq (pp b43 (o43 + j * 71 + 35)) (fun _ => fa86_1 rfl rfl) <| Dl Zt (At.im hb43) (sub_sub hs43 (sub_r (ZC hA43) (Zu hB43))) ?_
  refine Dc rfl Tryz.call15 (fun _ => rfl) (fun hin => ih' _ (List.getElem_mem h34n) _ _ (RT.mono (Hle.hu _ _) hB43) (by omega) hgj.2) ?_
  rintro _ _ ⟨cs44, k44, rfl, rfl, hO44⟩
  refine Dr rfl (fun _ => Zp (vs := [.agg ⟨cs42⟩, .agg ⟨cs44⟩]) [cs42, cs44] Tryz.runUnderlying37 el39 rfl rfl (by intro e he; simp only [List.mem_cons, List.not_mem_nil, or_false] at he; rcases he with rfl | rfl <;> first | exact hO42.len | exact hO44.len) rfl (by decide) fun b k h1 h2 => ⟨[k], by rw [ZN rfl]; exact Sub.refl, b, k, rfl, rfl, h1, h2⟩) (fun _ _ ⟨b45, k45, e1, e2, ho45, hk45⟩ => ?_); subst e1 e2
  refine Dq (.agg ⟨[iv 20, iv 0, .string (⟨#[]⟩), .slice (some ⟨b45, 0, none⟩) 2 2]⟩) (fun _ => Pu.build (pv := [(0, iv 20), (3, .slice (some ⟨b45, 0, none⟩) 2 2)]) (l := [iv 20, iv 0, .string (⟨#[]⟩), .slice (some ⟨b45, 0, none⟩) 2 2]) rfl (bld39_0_3 _ _ _ _)) <| Dr rfl (fun _ => Zp (vs := [.agg ⟨[iv 20, iv 0, .string (⟨#[]⟩), .slice (some ⟨b45, 0, none⟩) 2 2]⟩]) [[iv 20, iv 0, .string (⟨#[]⟩), .slice (some ⟨b45, 0, none⟩) 2 2]] Tryz.runUnderlying37 el39 rfl rfl (by intro e he; simp only [List.mem_cons, List.not_mem_nil, or_false] at he; subst he; exact rfl) rfl (by decide) fun b k h1 h2 => ⟨[k], by rw [ZN rfl]; exact Sub.refl, b, k, rfl, rfl, h1, h2⟩) (fun _ _ ⟨b46, k46, e1, e2, ho46, hk46⟩ => ?_); subst e1 e2
  refine ZV (M' := [k46, k45, k44, k42, (BX b3 [iv kind, iv num, .string tx, y2y] 39), q2a, q2b, (BX b2 [iv 0, iv 0, .string (⟨#[]⟩), nS] 39), (BX b1 (pkT kind num ref ks cv) 30)]) rfl ?_
  show JL _ _ _ [_, _, _] _ _ _
  have hlens47 : ∀ e ∈ ([[iv 20, iv 0, .string (⟨#[]⟩), .slice (some ⟨b45, 0, none⟩) 2 2]] : List (List Value)), List.length e = 4 := by
   intro e he; simp only [List.mem_cons, List.not_mem_nil, or_false] at he
   rcases he with rfl
   ·exact rfl
  have hoks47 : ∀ e ∈ ([[iv 20, iv 0, .string (⟨#[]⟩), .slice (some ⟨b45, 0, none⟩) 2 2]] : List (List Value)), okc e := by
   intro e he; simp only [List.mem_cons, List.not_mem_nil, or_false] at he
   rcases he with rfl
   ·exact (Zf rfl (Zf rfl (Zf rfl (Zf rfl Zo))))
  refine JLr (Zx (i := 5) (n := 1) (es' := [[iv 20, iv 0, .string (⟨#[]⟩), .slice (some ⟨b45, 0, none⟩) 2 2]]) Tryz.runUnderlying37 Tryz.runUnderlying37 (Or.inl rfl) el39 rfl rfl rfl how2w (fun F w m => Src.row (((At.k 0 rfl (by rw [hk46]; exact List.mem_cons_self))).heap m) (Zs (Zw hlens47))) rfl hlens47 hoks47 (by decide) (by omega) fun v47 k47 ho47 => JLq (pp b3 3) (ZP rfl rfl) <| JLr (Ze 4 (vs := [v47]) (l := [iv kind, iv num, .string tx, v47]) Yw rfl rfl rfl (ZH ho47.one) rfl (Zf ho47.one Zo) rfl <| Zb <| Za <| JLM rfl <| JLn (Pu.inc rfl rfl (by omega)) <| JLA rfl <| Zb <| ⟨_, ?_, (j + 1), v47, (es2s ++ [[iv 20, iv 0, .string (⟨#[]⟩), .slice (some ⟨b45, 0, none⟩) 2 2]]), k47, (q2b ++ (k45 ++ (k42 ++ k44))), rfl, rfl, rfl, rfl, (Sd (Sub.cons 3 rfl (Sub.cons 3 rfl (Sub.join4 (Sub.cons 3 rfl (Sk (Sub.cons 1 rfl (Sk (Sk (Sk Sub.nil)))))))))), ?_, ?_, ?_, rfl⟩))
  ·omega
  ·omega
  ·exact ho47
  rw [itCs_snoc h34n, ← List.append_assoc]; exact OIts.snoc (OIt_case ho45 hO42 hO44) hop2p
 replace h34 := df h34
 have h34n : cases.length ≤ j := by omega
 refine Zz _ rfl <| Zc <| Za <| JLr (Zh ZM rfl (At.bx 0 rfl) rfl <| JLr (Ze 3 (vs := [iv kind, iv num, .string tx, y2y]) (l := [iv kind, iv num, .string tx, y2y]) ZM rfl rfl rfl rfl rfl (Zf rfl (Zf rfl (Zf rfl (Zf how2w.one Zo)))) rfl <| Zb <| Zl <| ⟨.agg ⟨[iv kind, iv num, .string tx, y2y]⟩, [q2a ++ q2b], Ret.one rfl (RV.cell ZM rfl (At.bx 3 rfl) rfl), (Sub.join (Sd (Sk (Sk Sub.nil)))), ?_⟩))
 rw [List.take_of_length_le h34n] at hop2p
 exact ⟨_, _, rfl, rfl, by rw [itT, ← htx]; exact OIt_mk.2 ⟨_, _, _, _, rfl, hk, hn, how2w, hop2p, rfl, by rw [List.length_append, itTs_len, itCs_len]; omega⟩⟩
end Go.Proofs.YtkjafeejpmcnkaaGreat.Hs
