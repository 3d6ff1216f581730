import Derived.Test.YtmdifonjepggcaaTwicej
/-! Walks, printed by a program of this session's own (gen.py). -/
namespace Go.Proofs.Ytmdifonjepggcaa.Hs
open Go Go.Proofs
set_option maxRecDepth 100000
set_option linter.unusedVariables false
set_option linter.unusedSimpArgs false
attribute [local irreducible] JL J CT wlo
theorem equalI_ct (l m : List Int) (v u : Value) (H : Heap) (hl : rdS RI 1 H v l) (hm : rdS RI 1 H u m) : CT Try.prog 36 ⟨[v, u]⟩ [] H (fun v N => v = .bool (eqL l m) ∧ N = []) := by
 refine CT_enter Try.func36 rfl rfl ?_
 refine J_seq ?_
 refine J_region ?_
 refine JL_pure (v := .bool (false)) rfl (Pu.assign rfl) ?_
 refine JL_nil ?_
 refine J_seq ?_
 refine J_seq ?_
 refine J_region ?_
 refine JL_pure (v := v) rfl (Pu.move rfl) ?_
 obtain ⟨a1, cap1, hv1⟩ := hl.sl
 have hle1 := hl.le
 refine JL_pure (v := .int .i64 (((l).length : Int))) rfl (Pu.lenSl Try.runUnderlying52 hv1) ?_
 refine JL_pure (v := u) rfl (Pu.move rfl) ?_
 obtain ⟨a2, cap2, hv2⟩ := hm.sl
 have hle2 := hm.le
 refine JL_pure (v := .int .i64 (((m).length : Int))) rfl (Pu.lenSl Try.runUnderlying52 hv2) ?_
 refine JL_pure (v := .bool (!decide (((l).length : Int) = ((m).length : Int)))) rfl (Pu.neq rfl rfl) ?_
 refine JL_nil ?_
 refine J_cond (b := !decide (((l).length : Int) = ((m).length : Int))) rfl (fun h3 => ?_) (fun h3 => ?_)
 ·skip
  replace h3 := nt h3
  replace h3 := df h3
  refine J_seq ?_
  refine J_region ?_
  refine JL_pure (v := .bool (false)) rfl (Pu.assign rfl) ?_
  refine JL_nil ?_
  refine J_ret ?_
  refine ⟨.bool (false), [], Ret.one rfl (RV.tmp rfl), Sub.nil, ?_⟩
  exact ⟨by rw [eqL_false (fun e => by subst e; exact absurd rfl h3)], rfl⟩
 ·skip
  replace h3 := nf h3
  replace h3 := dt h3
  refine J_skip ?_
  refine J_seq ?_
  refine J_seq ?_
  refine J_region ?_
  refine JL_pure (v := v) rfl (Pu.move rfl) ?_
  obtain ⟨a4, cap4, hv4⟩ := hl.sl
  have hle4 := hl.le
  refine JL_pure (v := .int .i64 (((l).length : Int))) rfl (Pu.lenSl Try.runUnderlying52 hv4) ?_
  refine JL_pure (v := .int .i64 (0)) rfl (Pu.move rfl) ?_
  refine JL_nil ?_
  refine J_block ?_
  refine J_loop (fun k ρ M => ∃ (j : Nat), ρ 0 = v ∧ ρ 1 = u ∧ ρ 4 = .bool (false) ∧ ρ 12 = .int .i64 (((l).length : Int)) ∧ ρ 13 = .int .i64 ((j : Int)) ∧ Sub [] M ∧ j ≤ (l).length ∧ l.take j = m.take j ∧ k = (l).length - j) _ ⟨0, rfl, rfl, rfl, rfl, rfl, Sub.nil, Nat.zero_le _, rfl, rfl⟩ ?_
  rintro _ ρ5 _ ⟨j, e6, e7, e8, e9, e10, hm11, hj, hinv, rfl⟩
  obtain ⟨ρ12, rfl⟩ := reopen_ex (uc e6 (uc e7 (uc e8 (uc e9 (uc e10 un)))))
  clear e6 e7 e8 e9 e10
  refine J_sub hm11 ?_
  refine J_seq ?_
  refine J_region ?_
  refine JL_pure (v := .bool (decide ((j : Int) < ((l).length : Int)))) rfl (Pu.lss rfl rfl) ?_
  refine JL_nil ?_
  refine J_seq ?_
  refine J_cond (b := decide ((j : Int) < ((l).length : Int))) rfl (fun h13 => ?_) (fun h13 => ?_)
  ·skip
   replace h13 := dt h13
   have h13n : j < (l).length := by omega
   have hlenl := hl.le
   have hjm : j < m.length := by omega
   refine J_skip ?_
   refine J_seq ?_
   refine J_block ?_
   refine J_seq ?_
   refine J_region ?_
   refine JL_pure (v := .int .i64 ((j : Int))) rfl (Pu.move rfl) ?_
   refine JL_pure (v := .int .i64 ((j : Int))) rfl (Pu.assign rfl) ?_
   refine JL_nil ?_
   refine J_seq ?_
   obtain ⟨b15, o15, cap15, row15, T15, fr15, cs15, hv15, hb15, hs15, hE15⟩ := hl.get j (by first | assumption | omega | decide | simp)
   obtain ⟨b16, o16, cap16, row16, T16, fr16, cs16, hv16, hb16, hs16, hE16⟩ := hm.get j (by first | assumption | omega | decide | simp)
   refine J_draw mixed #[0, 0, 3, 7, 0, 0, 48, 112, 255] 8 8 0 rfl (by kernel_rfl) (fun i r14 N14 => match i with | 0 => (r14 0) = v | 1 => (r14 1) = .int .i64 ((j : Int)) | 2 => (r14 2) = .pointer (some ⟨b15, o15 + j * 1, none⟩) | 3 => (r14 3) = .int .i64 ((l)[j]) | 4 => (r14 4) = u | 5 => (r14 5) = .int .i64 ((j : Int)) | 6 => (r14 6) = .pointer (some ⟨b16, o16 + j * 1, none⟩) | 7 => (r14 7) = .int .i64 ((m)[j]) | _ => True) ⟨?_, ?_, ?_, ?_, ?_, ?_, ?_, ?_, trivial⟩ ?_
   ·intro ρ r14 N14 B hB hBa hp hr hr0
    have q0 : ρ 0 = v := hr0 0 (by kernel_rfl)
    obtain ⟨ρ17, rfl⟩ := reopen_ex (uc q0 un)
    clear q0
    refine JL_pure (v := v) rfl (Pu.move rfl) ?_
    refine JL_nil ?_
    exact ⟨v, [], rfl, (Sub.emp Sub.refl), rfl⟩
   ·intro ρ r14 N14 B hB hBa hp hr hr0
    have q5 : ρ 5 = .int .i64 ((j : Int)) := hr0 5 (by kernel_rfl)
    obtain ⟨ρ18, rfl⟩ := reopen_ex (uc q5 un)
    clear q5
    refine JL_pure (v := .int .i64 ((j : Int))) rfl (Pu.move rfl) ?_
    refine JL_nil ?_
    exact ⟨.int .i64 ((j : Int)), [], rfl, (Sub.emp Sub.refl), rfl⟩
   ·intro ρ r14 N14 B hB hBa hp hr hr0
    have q16 : ρ 16 = v := (hr 0 _ _ (by decide) rfl rfl rfl).trans (hp 0 (by decide) rfl)
    have q17 : ρ 17 = .int .i64 ((j : Int)) := (hr 1 _ _ (by decide) rfl rfl rfl).trans (hp 1 (by decide) rfl)
    obtain ⟨ρ19, rfl⟩ := reopen_ex (uc q16 (uc q17 un))
    clear q16 q17
    refine JL_pure (v := .pointer (some ⟨b15, o15 + j * 1, none⟩)) rfl (Pu.idx j Try.runUnderlying52 ty3 hv15 rfl rfl (by first | assumption | omega | decide | simp)) ?_
    refine JL_nil ?_
    exact ⟨.pointer (some ⟨b15, o15 + j * 1, none⟩), [], rfl, (Sub.emp Sub.refl), rfl⟩
   ·intro ρ r14 N14 B hB hBa hp hr hr0
    have q18 : ρ 18 = .pointer (some ⟨b15, o15 + j * 1, none⟩) := (hr 2 _ _ (by decide) rfl rfl rfl).trans (hp 2 (by decide) rfl)
    obtain ⟨ρ20, rfl⟩ := reopen_ex (uc q18 un)
    clear q18
    refine JL_run rfl (Pu_load1 ty3 rfl (At.im hb15) (sub_one ((show cs15 = [Value.int .i64 ((l)[j])] from hE15) ▸ hs15)) ?_)
    refine JL_nil ?_
    exact ⟨.int .i64 ((l)[j]), [], rfl, (Sub.emp Sub.refl), rfl⟩
   ·intro ρ r14 N14 B hB hBa hp hr hr0
    have q1 : ρ 1 = u := hr0 1 (by kernel_rfl)
    obtain ⟨ρ21, rfl⟩ := reopen_ex (uc q1 un)
    clear q1
    refine JL_pure (v := u) rfl (Pu.move rfl) ?_
    refine JL_nil ?_
    exact ⟨u, [], rfl, (Sub.emp Sub.refl), rfl⟩
   ·intro ρ r14 N14 B hB hBa hp hr hr0
    have q5 : ρ 5 = .int .i64 ((j : Int)) := hr0 5 (by kernel_rfl)
    obtain ⟨ρ22, rfl⟩ := reopen_ex (uc q5 un)
    clear q5
    refine JL_pure (v := .int .i64 ((j : Int))) rfl (Pu.move rfl) ?_
    refine JL_nil ?_
    exact ⟨.int .i64 ((j : Int)), [], rfl, (Sub.emp Sub.refl), rfl⟩
   ·intro ρ r14 N14 B hB hBa hp hr hr0
    have q20 : ρ 20 = u := (hr 4 _ _ (by decide) rfl rfl rfl).trans (hp 4 (by decide) rfl)
    have q21 : ρ 21 = .int .i64 ((j : Int)) := (hr 5 _ _ (by decide) rfl rfl rfl).trans (hp 5 (by decide) rfl)
    obtain ⟨ρ23, rfl⟩ := reopen_ex (uc q20 (uc q21 un))
    clear q20 q21
    refine JL_pure (v := .pointer (some ⟨b16, o16 + j * 1, none⟩)) rfl (Pu.idx j Try.runUnderlying52 ty3 hv16 rfl rfl (by first | assumption | omega | decide | simp)) ?_
    refine JL_nil ?_
    exact ⟨.pointer (some ⟨b16, o16 + j * 1, none⟩), [], rfl, (Sub.emp Sub.refl), rfl⟩
   ·intro ρ r14 N14 B hB hBa hp hr hr0
    have q22 : ρ 22 = .pointer (some ⟨b16, o16 + j * 1, none⟩) := (hr 6 _ _ (by decide) rfl rfl rfl).trans (hp 6 (by decide) rfl)
    obtain ⟨ρ24, rfl⟩ := reopen_ex (uc q22 un)
    clear q22
    refine JL_run rfl (Pu_load1 ty3 rfl (At.im hb16) (sub_one ((show cs16 = [Value.int .i64 ((m)[j])] from hE16) ▸ hs16)) ?_)
    refine JL_nil ?_
    exact ⟨.int .i64 ((m)[j]), [], rfl, (Sub.emp Sub.refl), rfl⟩
   ·intro ρ r14 N14 hp hr hr0
    have q0 : ρ 0 = v := hr0 0 (by kernel_rfl)
    have q1 : ρ 1 = u := hr0 1 (by kernel_rfl)
    have q4 : ρ 4 = .bool (false) := hr0 4 (by kernel_rfl)
    have q12 : ρ 12 = .int .i64 (((l).length : Int)) := hr0 12 (by kernel_rfl)
    have q13 : ρ 13 = .int .i64 ((j : Int)) := hr0 13 (by kernel_rfl)
    have q19 : ρ 19 = .int .i64 ((l)[j]) := (hr 3 _ _ (by decide) rfl rfl).trans (hp 3 (by decide))
    have q23 : ρ 23 = .int .i64 ((m)[j]) := (hr 7 _ _ (by decide) rfl rfl).trans (hp 7 (by decide))
    obtain ⟨ρ25, rfl⟩ := reopen_ex (uc q0 (uc q1 (uc q4 (uc q12 (uc q13 (uc q19 (uc q23 un)))))))
    clear q0 q1 q4 q12 q13 q19 q23
    clear hp hr hr0 
    refine JL_sub (M' := [(N14 0), (N14 1), (N14 2), (N14 3), (N14 4), (N14 5), (N14 6), (N14 7)]) Sub.refl ?_
    refine JL_sub (M' := []) Sub.nil ?_
    show JL _ _ _ [_] _ _ _
    refine JL_pure (v := .bool (!decide ((l)[j] = (m)[j]))) rfl (Pu.neq rfl rfl) ?_
    refine JL_nil ?_
    refine J_cond (b := !decide ((l)[j] = (m)[j])) rfl (fun h26 => ?_) (fun h26 => ?_)
    ·skip
     replace h26 := nt h26
     replace h26 := df h26
     refine J_seq ?_
     refine J_region ?_
     refine JL_pure (v := .bool (false)) rfl (Pu.assign rfl) ?_
     refine JL_nil ?_
     refine J_ret ?_
     refine ⟨.bool (false), [], Ret.one rfl (RV.tmp rfl), Sub.nil, ?_⟩
     exact ⟨by rw [eqL_false (fun e => by subst e; exact h26 rfl)], rfl⟩
    ·skip
     replace h26 := nf h26
     replace h26 := dt h26
     refine J_skip ?_
     refine J_region ?_
     refine JL_pure (v := .int .i64 (((j + 1 : Nat) : Int))) rfl (Pu.inc rfl rfl (by omega)) ?_
     refine JL_pure (v := .int .i64 (((j + 1 : Nat) : Int))) rfl (Pu.move rfl) ?_
     refine JL_nil ?_
     refine ⟨_, ?_, (j + 1), rfl, rfl, rfl, rfl, rfl, Sub.nil, ?_, ?_, rfl⟩
     ·omega
     ·omega
     ·rw [List.take_succ_eq_append_getElem h13n, List.take_succ_eq_append_getElem hjm, hinv, h26]
  ·skip
   replace h13 := df h13
   have h13n : (l).length ≤ j := by omega
   refine J_exit _ rfl ?_
   refine J_seq ?_
   refine J_region ?_
   refine JL_pure (v := .bool (true)) rfl (Pu.assign rfl) ?_
   refine JL_nil ?_
   refine J_ret ?_
   refine ⟨.bool (true), [], Ret.one rfl (RV.tmp rfl), Sub.nil, ?_⟩
   exact ⟨by rw [eqL_true (by rw [← List.take_of_length_le h13n, hinv, List.take_of_length_le (by omega)])], rfl⟩
theorem equalS_ct (l m : List ByteArray) (v u : Value) (H : Heap) (hl : rdS RS 1 H v l) (hm : rdS RS 1 H u m) : CT Try.prog 37 ⟨[v, u]⟩ [] H (fun v N => v = .bool (eqL l m) ∧ N = []) := by
 refine CT_enter Try.func37 rfl rfl ?_
 refine J_seq ?_
 refine J_region ?_
 refine JL_pure (v := .bool (false)) rfl (Pu.assign rfl) ?_
 refine JL_nil ?_
 refine J_seq ?_
 refine J_seq ?_
 refine J_region ?_
 refine JL_pure (v := v) rfl (Pu.move rfl) ?_
 obtain ⟨a1, cap1, hv1⟩ := hl.sl
 have hle1 := hl.le
 refine JL_pure (v := .int .i64 (((l).length : Int))) rfl (Pu.lenSl Try.runUnderlying75 hv1) ?_
 refine JL_pure (v := u) rfl (Pu.move rfl) ?_
 obtain ⟨a2, cap2, hv2⟩ := hm.sl
 have hle2 := hm.le
 refine JL_pure (v := .int .i64 (((m).length : Int))) rfl (Pu.lenSl Try.runUnderlying75 hv2) ?_
 refine JL_pure (v := .bool (!decide (((l).length : Int) = ((m).length : Int)))) rfl (Pu.neq rfl rfl) ?_
 refine JL_nil ?_
 refine J_cond (b := !decide (((l).length : Int) = ((m).length : Int))) rfl (fun h3 => ?_) (fun h3 => ?_)
 ·skip
  replace h3 := nt h3
  replace h3 := df h3
  refine J_seq ?_
  refine J_region ?_
  refine JL_pure (v := .bool (false)) rfl (Pu.assign rfl) ?_
  refine JL_nil ?_
  refine J_ret ?_
  refine ⟨.bool (false), [], Ret.one rfl (RV.tmp rfl), Sub.nil, ?_⟩
  exact ⟨by rw [eqL_false (fun e => by subst e; exact absurd rfl h3)], rfl⟩
 ·skip
  replace h3 := nf h3
  replace h3 := dt h3
  refine J_skip ?_
  refine J_seq ?_
  refine J_seq ?_
  refine J_region ?_
  refine JL_pure (v := v) rfl (Pu.move rfl) ?_
  obtain ⟨a4, cap4, hv4⟩ := hl.sl
  have hle4 := hl.le
  refine JL_pure (v := .int .i64 (((l).length : Int))) rfl (Pu.lenSl Try.runUnderlying75 hv4) ?_
  refine JL_pure (v := .int .i64 (0)) rfl (Pu.move rfl) ?_
  refine JL_nil ?_
  refine J_block ?_
  refine J_loop (fun k ρ M => ∃ (j : Nat), ρ 0 = v ∧ ρ 1 = u ∧ ρ 4 = .bool (false) ∧ ρ 12 = .int .i64 (((l).length : Int)) ∧ ρ 13 = .int .i64 ((j : Int)) ∧ Sub [] M ∧ j ≤ (l).length ∧ l.take j = m.take j ∧ k = (l).length - j) _ ⟨0, rfl, rfl, rfl, rfl, rfl, Sub.nil, Nat.zero_le _, rfl, rfl⟩ ?_
  rintro _ ρ5 _ ⟨j, e6, e7, e8, e9, e10, hm11, hj, hinv, rfl⟩
  obtain ⟨ρ12, rfl⟩ := reopen_ex (uc e6 (uc e7 (uc e8 (uc e9 (uc e10 un)))))
  clear e6 e7 e8 e9 e10
  refine J_sub hm11 ?_
  refine J_seq ?_
  refine J_region ?_
  refine JL_pure (v := .bool (decide ((j : Int) < ((l).length : Int)))) rfl (Pu.lss rfl rfl) ?_
  refine JL_nil ?_
  refine J_seq ?_
  refine J_cond (b := decide ((j : Int) < ((l).length : Int))) rfl (fun h13 => ?_) (fun h13 => ?_)
  ·skip
   replace h13 := dt h13
   have h13n : j < (l).length := by omega
   have hlenl := hl.le
   have hjm : j < m.length := by omega
   refine J_skip ?_
   refine J_seq ?_
   refine J_block ?_
   refine J_seq ?_
   refine J_region ?_
   refine JL_pure (v := .int .i64 ((j : Int))) rfl (Pu.move rfl) ?_
   refine JL_pure (v := .int .i64 ((j : Int))) rfl (Pu.assign rfl) ?_
   refine JL_nil ?_
   refine J_seq ?_
   obtain ⟨b15, o15, cap15, row15, T15, fr15, cs15, hv15, hb15, hs15, hE15⟩ := hl.get j (by first | assumption | omega | decide | simp)
   obtain ⟨b16, o16, cap16, row16, T16, fr16, cs16, hv16, hb16, hs16, hE16⟩ := hm.get j (by first | assumption | omega | decide | simp)
   refine J_draw mixed #[0, 0, 3, 7, 0, 0, 48, 112, 255] 8 8 0 rfl (by kernel_rfl) (fun i r14 N14 => match i with | 0 => (r14 0) = v | 1 => (r14 1) = .int .i64 ((j : Int)) | 2 => (r14 2) = .pointer (some ⟨b15, o15 + j * 1, none⟩) | 3 => (r14 3) = .string ((l)[j]) | 4 => (r14 4) = u | 5 => (r14 5) = .int .i64 ((j : Int)) | 6 => (r14 6) = .pointer (some ⟨b16, o16 + j * 1, none⟩) | 7 => (r14 7) = .string ((m)[j]) | _ => True) ⟨?_, ?_, ?_, ?_, ?_, ?_, ?_, ?_, trivial⟩ ?_
   ·intro ρ r14 N14 B hB hBa hp hr hr0
    have q0 : ρ 0 = v := hr0 0 (by kernel_rfl)
    obtain ⟨ρ17, rfl⟩ := reopen_ex (uc q0 un)
    clear q0
    refine JL_pure (v := v) rfl (Pu.move rfl) ?_
    refine JL_nil ?_
    exact ⟨v, [], rfl, (Sub.emp Sub.refl), rfl⟩
   ·intro ρ r14 N14 B hB hBa hp hr hr0
    have q5 : ρ 5 = .int .i64 ((j : Int)) := hr0 5 (by kernel_rfl)
    obtain ⟨ρ18, rfl⟩ := reopen_ex (uc q5 un)
    clear q5
    refine JL_pure (v := .int .i64 ((j : Int))) rfl (Pu.move rfl) ?_
    refine JL_nil ?_
    exact ⟨.int .i64 ((j : Int)), [], rfl, (Sub.emp Sub.refl), rfl⟩
   ·intro ρ r14 N14 B hB hBa hp hr hr0
    have q16 : ρ 16 = v := (hr 0 _ _ (by decide) rfl rfl rfl).trans (hp 0 (by decide) rfl)
    have q17 : ρ 17 = .int .i64 ((j : Int)) := (hr 1 _ _ (by decide) rfl rfl rfl).trans (hp 1 (by decide) rfl)
    obtain ⟨ρ19, rfl⟩ := reopen_ex (uc q16 (uc q17 un))
    clear q16 q17
    refine JL_pure (v := .pointer (some ⟨b15, o15 + j * 1, none⟩)) rfl (Pu.idx j Try.runUnderlying75 ty9 hv15 rfl rfl (by first | assumption | omega | decide | simp)) ?_
    refine JL_nil ?_
    exact ⟨.pointer (some ⟨b15, o15 + j * 1, none⟩), [], rfl, (Sub.emp Sub.refl), rfl⟩
   ·intro ρ r14 N14 B hB hBa hp hr hr0
    have q18 : ρ 18 = .pointer (some ⟨b15, o15 + j * 1, none⟩) := (hr 2 _ _ (by decide) rfl rfl rfl).trans (hp 2 (by decide) rfl)
    obtain ⟨ρ20, rfl⟩ := reopen_ex (uc q18 un)
    clear q18
    refine JL_run rfl (Pu_load1 ty9 rfl (At.im hb15) (sub_one ((show cs15 = [Value.string ((l)[j])] from hE15) ▸ hs15)) ?_)
    refine JL_nil ?_
    exact ⟨.string ((l)[j]), [], rfl, (Sub.emp Sub.refl), rfl⟩
   ·intro ρ r14 N14 B hB hBa hp hr hr0
    have q1 : ρ 1 = u := hr0 1 (by kernel_rfl)
    obtain ⟨ρ21, rfl⟩ := reopen_ex (uc q1 un)
    clear q1
    refine JL_pure (v := u) rfl (Pu.move rfl) ?_
    refine JL_nil ?_
    exact ⟨u, [], rfl, (Sub.emp Sub.refl), rfl⟩
   ·intro ρ r14 N14 B hB hBa hp hr hr0
    have q5 : ρ 5 = .int .i64 ((j : Int)) := hr0 5 (by kernel_rfl)
    obtain ⟨ρ22, rfl⟩ := reopen_ex (uc q5 un)
    clear q5
    refine JL_pure (v := .int .i64 ((j : Int))) rfl (Pu.move rfl) ?_
    refine JL_nil ?_
    exact ⟨.int .i64 ((j : Int)), [], rfl, (Sub.emp Sub.refl), rfl⟩
   ·intro ρ r14 N14 B hB hBa hp hr hr0
    have q20 : ρ 20 = u := (hr 4 _ _ (by decide) rfl rfl rfl).trans (hp 4 (by decide) rfl)
    have q21 : ρ 21 = .int .i64 ((j : Int)) := (hr 5 _ _ (by decide) rfl rfl rfl).trans (hp 5 (by decide) rfl)
    obtain ⟨ρ23, rfl⟩ := reopen_ex (uc q20 (uc q21 un))
    clear q20 q21
    refine JL_pure (v := .pointer (some ⟨b16, o16 + j * 1, none⟩)) rfl (Pu.idx j Try.runUnderlying75 ty9 hv16 rfl rfl (by first | assumption | omega | decide | simp)) ?_
    refine JL_nil ?_
    exact ⟨.pointer (some ⟨b16, o16 + j * 1, none⟩), [], rfl, (Sub.emp Sub.refl), rfl⟩
   ·intro ρ r14 N14 B hB hBa hp hr hr0
    have q22 : ρ 22 = .pointer (some ⟨b16, o16 + j * 1, none⟩) := (hr 6 _ _ (by decide) rfl rfl rfl).trans (hp 6 (by decide) rfl)
    obtain ⟨ρ24, rfl⟩ := reopen_ex (uc q22 un)
    clear q22
    refine JL_run rfl (Pu_load1 ty9 rfl (At.im hb16) (sub_one ((show cs16 = [Value.string ((m)[j])] from hE16) ▸ hs16)) ?_)
    refine JL_nil ?_
    exact ⟨.string ((m)[j]), [], rfl, (Sub.emp Sub.refl), rfl⟩
   ·intro ρ r14 N14 hp hr hr0
    have q0 : ρ 0 = v := hr0 0 (by kernel_rfl)
    have q1 : ρ 1 = u := hr0 1 (by kernel_rfl)
    have q4 : ρ 4 = .bool (false) := hr0 4 (by kernel_rfl)
    have q12 : ρ 12 = .int .i64 (((l).length : Int)) := hr0 12 (by kernel_rfl)
    have q13 : ρ 13 = .int .i64 ((j : Int)) := hr0 13 (by kernel_rfl)
    have q19 : ρ 19 = .string ((l)[j]) := (hr 3 _ _ (by decide) rfl rfl).trans (hp 3 (by decide))
    have q23 : ρ 23 = .string ((m)[j]) := (hr 7 _ _ (by decide) rfl rfl).trans (hp 7 (by decide))
    obtain ⟨ρ25, rfl⟩ := reopen_ex (uc q0 (uc q1 (uc q4 (uc q12 (uc q13 (uc q19 (uc q23 un)))))))
    clear q0 q1 q4 q12 q13 q19 q23
    clear hp hr hr0 
    refine JL_sub (M' := [(N14 0), (N14 1), (N14 2), (N14 3), (N14 4), (N14 5), (N14 6), (N14 7)]) Sub.refl ?_
    refine JL_sub (M' := []) Sub.nil ?_
    show JL _ _ _ [_] _ _ _
    refine JL_pure (v := .bool (!decide ((l)[j] = (m)[j]))) rfl (Pu.neqS rfl rfl) ?_
    refine JL_nil ?_
    refine J_cond (b := !decide ((l)[j] = (m)[j])) rfl (fun h26 => ?_) (fun h26 => ?_)
    ·skip
     replace h26 := nt h26
     replace h26 := df h26
     refine J_seq ?_
     refine J_region ?_
     refine JL_pure (v := .bool (false)) rfl (Pu.assign rfl) ?_
     refine JL_nil ?_
     refine J_ret ?_
     refine ⟨.bool (false), [], Ret.one rfl (RV.tmp rfl), Sub.nil, ?_⟩
     exact ⟨by rw [eqL_false (fun e => by subst e; exact h26 rfl)], rfl⟩
    ·skip
     replace h26 := nf h26
     replace h26 := dt h26
     refine J_skip ?_
     refine J_region ?_
     refine JL_pure (v := .int .i64 (((j + 1 : Nat) : Int))) rfl (Pu.inc rfl rfl (by omega)) ?_
     refine JL_pure (v := .int .i64 (((j + 1 : Nat) : Int))) rfl (Pu.move rfl) ?_
     refine JL_nil ?_
     refine ⟨_, ?_, (j + 1), rfl, rfl, rfl, rfl, rfl, Sub.nil, ?_, ?_, rfl⟩
     ·omega
     ·omega
     ·rw [List.take_succ_eq_append_getElem h13n, List.take_succ_eq_append_getElem hjm, hinv, h26]
  ·skip
   replace h13 := df h13
   have h13n : (l).length ≤ j := by omega
   refine J_exit _ rfl ?_
   refine J_seq ?_
   refine J_region ?_
   refine JL_pure (v := .bool (true)) rfl (Pu.assign rfl) ?_
   refine JL_nil ?_
   refine J_ret ?_
   refine ⟨.bool (true), [], Ret.one rfl (RV.tmp rfl), Sub.nil, ?_⟩
   exact ⟨by rw [eqL_true (by rw [← List.take_of_length_le h13n, hinv, List.take_of_length_le (by omega)])], rfl⟩
theorem idxS_ct (l : List ByteArray) (x : ByteArray) (v : Value) (H : Heap) (hl : rdS RS 1 H v l) : CT Try.prog 78 ⟨[v, .string (x)]⟩ [] H (fun v N => v = .int .i64 (fstS x l 0) ∧ N = []) := by
 refine CT_enter Try.func78 rfl rfl ?_
 refine J_seq ?_
 refine J_region ?_
 refine JL_pure (v := .int .i64 (0)) rfl (Pu.assign rfl) ?_
 refine JL_nil ?_
 refine J_seq ?_
 refine J_seq ?_
 refine J_region ?_
 refine JL_pure (v := v) rfl (Pu.move rfl) ?_
 obtain ⟨a1, cap1, hv1⟩ := hl.sl
 have hle1 := hl.le
 refine JL_pure (v := .int .i64 (((l).length : Int))) rfl (Pu.lenSl Try.runUnderlying75 hv1) ?_
 refine JL_pure (v := .int .i64 (0)) rfl (Pu.move rfl) ?_
 refine JL_nil ?_
 refine J_block ?_
 refine J_loop (fun k ρ M => ∃ (j : Nat), ρ 0 = v ∧ ρ 1 = .string (x) ∧ ρ 4 = .int .i64 (0) ∧ ρ 7 = .int .i64 (((l).length : Int)) ∧ ρ 8 = .int .i64 ((j : Int)) ∧ Sub [] M ∧ j ≤ (l).length ∧ fstS x (l.drop j) j = fstS x l 0 ∧ k = (l).length - j) _ ⟨0, rfl, rfl, rfl, rfl, rfl, Sub.nil, Nat.zero_le _, rfl, rfl⟩ ?_
 rintro _ ρ2 _ ⟨j, e3, e4, e5, e6, e7, hm8, hj, hinv, rfl⟩
 obtain ⟨ρ9, rfl⟩ := reopen_ex (uc e3 (uc e4 (uc e5 (uc e6 (uc e7 un)))))
 clear e3 e4 e5 e6 e7
 refine J_sub hm8 ?_
 refine J_seq ?_
 refine J_region ?_
 refine JL_pure (v := .bool (decide ((j : Int) < ((l).length : Int)))) rfl (Pu.lss rfl rfl) ?_
 refine JL_nil ?_
 refine J_seq ?_
 refine J_cond (b := decide ((j : Int) < ((l).length : Int))) rfl (fun h10 => ?_) (fun h10 => ?_)
 ·skip
  replace h10 := dt h10
  have h10n : j < (l).length := by omega
  have hlenl := hl.le
  refine J_skip ?_
  refine J_seq ?_
  refine J_block ?_
  refine J_seq ?_
  refine J_region ?_
  refine JL_pure (v := .int .i64 ((j : Int))) rfl (Pu.move rfl) ?_
  refine JL_pure (v := .int .i64 ((j : Int))) rfl (Pu.assign rfl) ?_
  refine JL_nil ?_
  refine J_seq ?_
  refine J_region ?_
  refine JL_pure (v := .string (x)) rfl (Pu.move rfl) ?_
  refine JL_pure (v := v) rfl (Pu.move rfl) ?_
  refine JL_pure (v := .int .i64 ((j : Int))) rfl (Pu.move rfl) ?_
  obtain ⟨b11, o11, cap11, row11, T11, fr11, cs11, hv11, hb11, hs11, hE11⟩ := hl.get j (by first | assumption | omega | decide | simp)
  refine JL_pure (v := .pointer (some ⟨b11, o11 + j * 1, none⟩)) rfl (Pu.idx j Try.runUnderlying75 ty9 hv11 rfl rfl (by first | assumption | omega | decide | simp)) ?_
  refine JL_run rfl (Pu_load1 ty9 rfl (At.im hb11) (sub_one ((show cs11 = [Value.string ((l)[j])] from hE11) ▸ hs11)) ?_)
  refine JL_pure (v := .bool (decide (x = (l)[j]))) rfl (Pu.eqlS rfl rfl) ?_
  refine JL_nil ?_
  refine J_cond (b := decide (x = (l)[j])) rfl (fun h12 => ?_) (fun h12 => ?_)
  ·skip
   replace h12 := dt h12
   refine J_seq ?_
   refine J_region ?_
   refine JL_pure (v := .int .i64 ((j : Int))) rfl (Pu.move rfl) ?_
   refine JL_pure (v := .int .i64 ((j : Int))) rfl (Pu.assign rfl) ?_
   refine JL_nil ?_
   refine J_ret ?_
   refine ⟨.int .i64 ((j : Int)), [], Ret.one rfl (RV.tmp rfl), Sub.nil, ?_⟩
   exact ⟨by rw [← hinv, dropc h10n, fstS, if_pos h12], rfl⟩
  ·skip
   replace h12 := df h12
   refine J_skip ?_
   refine J_region ?_
   refine JL_pure (v := .int .i64 (((j + 1 : Nat) : Int))) rfl (Pu.inc rfl rfl (by omega)) ?_
   refine JL_pure (v := .int .i64 (((j + 1 : Nat) : Int))) rfl (Pu.move rfl) ?_
   refine JL_nil ?_
   refine ⟨_, ?_, (j + 1), rfl, rfl, rfl, rfl, rfl, Sub.nil, ?_, ?_, rfl⟩
   ·omega
   ·omega
   ·rw [dropc h10n, fstS, if_neg h12] at hinv; exact hinv
 ·skip
  replace h10 := df h10
  have h10n : (l).length ≤ j := by omega
  refine J_exit _ rfl ?_
  refine J_seq ?_
  refine J_region ?_
  refine JL_pure (v := .int .i64 (-1)) rfl (Pu.assign rfl) ?_
  refine JL_nil ?_
  refine J_ret ?_
  refine ⟨.int .i64 (-1), [], Ret.one rfl (RV.tmp rfl), Sub.nil, ?_⟩
  exact ⟨by rw [← hinv, dropn h10n]; rfl, rfl⟩
theorem containsS_ct (l : List ByteArray) (x : ByteArray) (v : Value) (H : Heap) (hl : rdS RS 1 H v l) : CT Try.prog 52 ⟨[v, .string (x)]⟩ [] H (fun v N => v = .bool (l.any (fun y => decide (x = y))) ∧ N = []) := by
 refine CT_enter Try.func52 rfl rfl ?_
 refine J_seq ?_
 refine J_region ?_
 refine JL_pure (v := .bool (false)) rfl (Pu.assign rfl) ?_
 refine JL_nil ?_
 refine J_seq ?_
 refine J_region ?_
 refine JL_pure (v := v) rfl (Pu.move rfl) ?_
 refine JL_pure (v := .string (x)) rfl (Pu.move rfl) ?_
 refine JL_call rfl Try.call78 rfl (fun hin => idxS_ct _ _ _ _ (RSs.mono (Hle.hu _ _) hl)) rfl ?_
 rintro _ _ ⟨rfl, rfl⟩
 refine JL_pure (v := .bool (decide (0 ≤ fstS (x) (l) 0))) rfl (Pu.geq rfl rfl) ?_
 refine JL_pure (v := .bool (decide (0 ≤ fstS (x) (l) 0))) rfl (Pu.assign rfl) ?_
 refine JL_nil ?_
 refine J_ret ?_
 refine ⟨.bool (decide (0 ≤ fstS (x) (l) 0)), [], Ret.one rfl (RV.tmp rfl), Sub.nil, ?_⟩
 exact ⟨by rw [← fstS_mem x l 0], rfl⟩
theorem number_ct (i : Nat) (H : Heap) (hi : i < 26) : CT Try.prog 99 ⟨[.string (ltr i)]⟩ [] H (fun v N => v = .int .i64 (i : Int) ∧ N = []) := by
 refine CT_enter Try.func99 rfl rfl ?_
 refine J_seq ?_
 refine J_region ?_
 refine JL_pure (v := .int .i64 (0)) rfl (Pu.assign rfl) ?_
 refine JL_nil ?_
 refine J_seq ?_
 refine J_region ?_
 refine JL_pure (v := .int .i64 (-1)) rfl (Pu.assign rfl) ?_
 refine JL_nil ?_
 refine J_seq ?_
 refine J_seq ?_
 refine J_region ?_
 refine JL_pure (v := .string (ltr i)) rfl (Pu.move rfl) ?_
 refine JL_run rfl (Runs_rangeS Try.underlying9 rfl fun r1 => ?_)
 refine JL_nil ?_
 refine J_block ?_
 refine J_rounds 2 ?_
 refine JR_succ ?_
 refine J_seq ?_
 refine J_region ?_
 refine JL_run rfl (Runs_nextL (i := 0) rfl rfl hi ?_)
 refine JL_pure (v := .bool (true)) rfl (Pu.extract rfl rfl) ?_
 refine JL_nil ?_
 refine J_seq ?_
 refine J_cond (b := true) rfl (fun _ => ?_) (fun h => absurd h (by simp))
 refine J_skip ?_
 refine J_block ?_
 refine J_seq ?_
 refine J_region ?_
 refine JL_pure (v := .int .i32 (97 + (i : Int))) rfl (Pu.extract rfl rfl) ?_
 refine JL_pure (v := .int .i32 (97 + (i : Int))) rfl (Pu.assign rfl) ?_
 refine JL_nil ?_
 refine J_seq ?_
 refine J_cut (fun ρ M => ρ 2 = .int .i64 (0) ∧ ρ 3 = .int .i64 (-1) ∧ ρ 5 = .int .i32 (97 + (i : Int)) ∧ ρ 7 = .pointer (some ⟨r1, 0, none⟩) ∧ ρ 20 = .bool (((decide (97 + (i : Int) < 97)) || (decide (122 < 97 + (i : Int)))) && (true)) ∧ M = [itC r1 (ltr i) 1]) ?_ ?_
 ·refine J_region ?_
  refine JL_pure (v := .int .i32 (97 + (i : Int))) rfl (Pu.move rfl) ?_
  refine JL_pure (v := .bool (decide (97 + (i : Int) < 97))) rfl (Pu.lss rfl rfl) ?_
  refine JL_pure (v := .bool (decide (97 + (i : Int) < 97))) rfl (Pu.move rfl) ?_
  cases h2 : (decide (97 + (i : Int) < 97)) with
  | true =>
   replace h2 := dt h2
   refine JL_skip rfl ?_
   refine JL_skip rfl ?_
   refine JL_pure (v := .bool (true)) rfl (Pu.pickT rfl rfl) ?_
   refine JL_pure (v := .bool (true)) rfl (Pu.move rfl) ?_
   refine JL_skip rfl ?_
   refine JL_skip rfl ?_
   refine JL_pure (v := .bool (true)) rfl (Pu.pickT rfl rfl) ?_
   refine JL_nil ?_
   first | exact ⟨rfl, rfl, rfl, rfl, rfl, rfl⟩ | (exfalso; omega)
  | false =>
   replace h2 := df h2
   refine JL_pure (v := .int .i32 (97 + (i : Int))) rfl (Pu.move rfl) ?_
   refine JL_pure (v := .bool (decide (122 < 97 + (i : Int)))) rfl (Pu.gtr rfl rfl) ?_
   refine JL_pure (v := .bool (decide (122 < 97 + (i : Int)))) rfl (Pu.pickF rfl rfl) ?_
   refine JL_pure (v := .bool (decide (122 < 97 + (i : Int)))) rfl (Pu.move rfl) ?_
   cases h3 : (decide (122 < 97 + (i : Int))) with
   | true =>
    replace h3 := dt h3
    refine JL_skip rfl ?_
    refine JL_skip rfl ?_
    refine JL_pure (v := .bool (true)) rfl (Pu.pickT rfl rfl) ?_
    refine JL_nil ?_
    first | exact ⟨rfl, rfl, rfl, rfl, rfl, rfl⟩ | (exfalso; omega)
   | false =>
    replace h3 := df h3
    refine JL_pure (v := .int .i64 (-1)) rfl (Pu.move rfl) ?_
    refine JL_pure (v := .bool (false)) rfl (show Pu _ _ _ (.bool (decide ((1073741824 : Int) < -1))) from Pu.gtr rfl rfl) ?_
    refine JL_pure (v := .bool (false)) rfl (Pu.pickF rfl rfl) ?_
    refine JL_nil ?_
    first | exact ⟨rfl, rfl, rfl, rfl, rfl, rfl⟩ | (exfalso; omega)
 ·rintro ρ4 _ ⟨e5, e6, e7, e8, e9, rfl⟩
  obtain ⟨ρ10, rfl⟩ := reopen_ex (uc e5 (uc e6 (uc e7 (uc e8 (uc e9 un)))))
  clear e5 e6 e7 e8 e9
  refine J_cond (b := ((decide (97 + (i : Int) < 97)) || (decide (122 < 97 + (i : Int)))) && (true)) rfl (fun h11 => ?_) (fun h11 => ?_)
  ·skip
   obtain ⟨h11a, h11b⟩ := andT h11
   exfalso; simp at h11; omega
  ·skip
   refine J_skip ?_
   refine J_region ?_
   refine JL_pure (v := .int .i64 (-1)) rfl (Pu.move rfl) ?_
   refine JL_pure (v := .int .i64 (0)) rfl (Pu.arith rfl rfl rfl) ?_
   refine JL_pure (v := .int .i64 (0)) rfl (Pu.arithM rfl rfl rfl) ?_
   refine JL_pure (v := .int .i32 (97 + (i : Int))) rfl (Pu.move rfl) ?_
   refine JL_pure (v := .int .i32 ((i : Int))) rfl (Pu.arithS rfl rfl ((w32 (by omega)).trans (by omega))) ?_
   refine JL_pure (v := .int .i64 ((i : Int))) rfl (Pu.conv Try.runUnderlying21 Try.runUnderlying3 rfl (w64 (by omega))) ?_
   refine JL_pure (v := .int .i64 (0 + ((i : Int)))) rfl (Pu.add64 rfl rfl (by first | omega | (constructor <;> omega))) ?_
   refine JL_pure (v := .int .i64 (0 + ((i : Int)))) rfl (Pu.assign rfl) ?_
   refine JL_nil ?_
   refine JR_succ ?_
   refine J_seq ?_
   refine J_region ?_
   refine JL_run rfl (Runs_nextE (i := 0) rfl rfl (by rw [ltr_size]; decide) ?_)
   refine JL_pure (v := .bool (false)) rfl (Pu.extract rfl rfl) ?_
   refine JL_nil ?_
   refine J_seq ?_
   refine J_cond (b := false) rfl (fun h => absurd h (by simp)) (fun _ => ?_)
   refine J_exit _ rfl ?_
   refine J_seq ?_
   refine J_region ?_
   refine JL_pure (v := .int .i64 (0 + ((i : Int)))) rfl (Pu.move rfl) ?_
   refine JL_pure (v := .int .i64 (0 + ((i : Int)))) rfl (Pu.assign rfl) ?_
   refine JL_nil ?_
   refine J_ret ?_
   refine ⟨.int .i64 (0 + ((i : Int))), [], Ret.one rfl (RV.tmp rfl), Sub.nil, ?_⟩
   exact ⟨congrArg (Value.int .i64) (by omega), rfl⟩
theorem name_ct (i : Nat) (H : Heap) (hi : i < 26) : CT Try.prog 95 ⟨[.int .i64 ((i : Int))]⟩ [] H (fun v N => v = .string (ltr i) ∧ N = []) := by
 refine CT_enter Try.func95 rfl rfl ?_
 refine J_seq ?_
 refine J_region ?_
 refine JL_pure (v := .string (⟨#[]⟩)) rfl (Pu.assign rfl) ?_
 refine JL_nil ?_
 refine J_seq ?_
 refine J_seq ?_
 refine J_region ?_
 refine JL_pure (v := .int .i64 ((i : Int))) rfl (Pu.move rfl) ?_
 refine JL_pure (v := .bool (decide ((i : Int) < 26))) rfl (Pu.lss rfl rfl) ?_
 refine JL_nil ?_
 refine J_cond (b := decide ((i : Int) < 26)) rfl (fun h1 => ?_) (fun h1 => ?_)
 ·skip
  replace h1 := dt h1
  have h1n : i < 26 := by omega
  refine J_seq ?_
  refine J_region ?_
  refine JL_pure (v := .int .i64 ((i : Int))) rfl (Pu.move rfl) ?_
  refine JL_pure (v := .int .i64 (97 + ((i : Int)))) rfl (Pu.add64 rfl rfl (by first | omega | (constructor <;> omega))) ?_
  refine JL_pure (v := .int .i32 (97 + ((i : Int)))) rfl (Pu.conv Try.runUnderlying3 Try.runUnderlying21 rfl (w32 (by omega))) ?_
  refine JL_pure (v := .string (ltr i)) rfl (Pu.convS Try.runUnderlying21 Try.runUnderlying9 rfl (ltr_enc' i hi)) ?_
  refine JL_pure (v := .string (ltr i)) rfl (Pu.assign rfl) ?_
  refine JL_nil ?_
  refine J_ret ?_
  refine ⟨.string (ltr i), [], Ret.one rfl (RV.tmp rfl), Sub.nil, ?_⟩
  exact ⟨rfl, rfl⟩
 ·skip
  replace h1 := df h1
  have h1n : 26 ≤ i := by omega
  exfalso; omega
theorem mark_ct (i n : Nat) (l : List Bool) (bF : Nat) (H : Heap) (hi : i < 26) (hl : l.length = n) : CT Try.prog 93 ⟨[.slice (some ⟨bF, 0, none⟩) n n, .string (ltr i)]⟩ [[(bF, .cells ⟨bls (l)⟩ 4 (0, 0))]] H (fun v N => v = .tuple ⟨[]⟩ ∧ N = [[(bF, .cells ⟨bls (markL i l)⟩ 4 (0, 0))]]) := by
 refine CT_enter Try.func93 rfl rfl ?_
 refine J_seq ?_
 refine J_region ?_
 refine JL_pure (v := .string (ltr i)) rfl (Pu.move rfl) ?_
 refine JL_call rfl Try.call99 rfl (fun hin => number_ct i _ hi) rfl ?_
 rintro _ _ ⟨rfl, rfl⟩
 refine JL_pure (v := .int .i64 ((i : Int))) rfl (Pu.assign rfl) ?_
 refine JL_nil ?_
 refine J_seq ?_
 refine J_region ?_
 refine JL_pure (v := .int .i64 ((i : Int))) rfl (Pu.move rfl) ?_
 refine JL_pure (v := .bool (decide (0 ≤ (i : Int)))) rfl (Pu.geq rfl rfl) ?_
 refine JL_pure (v := .bool (decide (0 ≤ (i : Int)))) rfl (Pu.move rfl) ?_
 cases h1 : (decide (0 ≤ (i : Int))) with
 | true =>
  replace h1 := dt h1
  refine JL_pure (v := .int .i64 ((i : Int))) rfl (Pu.move rfl) ?_
  refine JL_pure (v := .slice (some ⟨bF, 0, none⟩) n n) rfl (Pu.move rfl) ?_
  refine JL_pure (v := .int .i64 ((n : Int))) rfl (Pu.lenSl Try.runUnderlying144 rfl) ?_
  refine JL_pure (v := .bool (decide ((i : Int) < (n : Int)))) rfl (Pu.lss rfl rfl) ?_
  refine JL_pure (v := .bool (decide ((i : Int) < (n : Int)))) rfl (Pu.pickT rfl rfl) ?_
  refine JL_nil ?_
  refine J_cond (b := decide ((i : Int) < (n : Int))) rfl (fun h2 => ?_) (fun h2 => ?_)
  ·skip
   replace h2 := dt h2
   have h2n : i < n := by omega
   refine J_region ?_
   refine JL_pure (v := .slice (some ⟨bF, 0, none⟩) n n) rfl (Pu.move rfl) ?_
   refine JL_pure (v := .int .i64 ((i : Int))) rfl (Pu.move rfl) ?_
   refine JL_pure (v := .pointer (some ⟨bF, 0 + i * 1, none⟩)) rfl (Pu.idx i Try.runUnderlying144 ty4 rfl rfl (by omega) (by omega)) ?_
   refine JL_run rfl (Runs_storeB 0 (vs := [.bool (true)]) (l := bls ((l).set i true)) ty4 rfl rfl rfl rfl rfl (okc_cons rfl okc_nil) (bls_set1 (by have hbl : List.length (l) = n := hl; omega)) ?_)
   refine JL_nil ?_
   refine ⟨.tuple ⟨[]⟩, [[(bF, .cells ⟨bls ((l).set i true)⟩ 4 (0, 0))]], Ret.none rfl, (Sk Sub.nil), ?_⟩
   exact ⟨rfl, by rw [markL, if_pos (by omega)]⟩
  ·skip
   replace h2 := df h2
   have h2n : n ≤ i := by omega
   refine J_skip ?_
   refine ⟨.tuple ⟨[]⟩, [[(bF, .cells ⟨bls (l)⟩ 4 (0, 0))]], Ret.none rfl, (Sk Sub.nil), ?_⟩
   exact ⟨rfl, by rw [markL, if_neg (by omega)] <;> rfl⟩
 | false =>
  replace h1 := df h1
  refine JL_skip rfl ?_
  refine JL_skip rfl ?_
  refine JL_skip rfl ?_
  refine JL_skip rfl ?_
  refine JL_pure (v := .bool (false)) rfl (Pu.pickF rfl rfl) ?_
  refine JL_nil ?_
  refine J_cond (b := false) rfl (fun h => absurd h (by simp)) (fun _ => ?_)
  refine J_skip ?_
  refine ⟨.tuple ⟨[]⟩, [[(bF, .cells ⟨bls (l)⟩ 4 (0, 0))]], Ret.none rfl, (Sk Sub.nil), ?_⟩
  exact ⟨rfl, by rw [markL, if_neg (by omega)] <;> rfl⟩
theorem idxB_ct (x : Bool) (l : List Bool) (bF n : Nat) (H : Heap) (hl : l.length = n) (hn : n ≤ 1000000) (hB : H bF = some (.cells ⟨bls l⟩ 4 (0, 0))) : CT Try.prog 94 ⟨[.slice (some ⟨bF, 0, none⟩) n n, .bool (x)]⟩ [] H (fun v N => v = .int .i64 (fstB x l 0) ∧ N = []) := by
 refine CT_enter Try.func94 rfl rfl ?_
 refine J_seq ?_
 refine J_region ?_
 refine JL_pure (v := .int .i64 (0)) rfl (Pu.assign rfl) ?_
 refine JL_nil ?_
 refine J_seq ?_
 refine J_seq ?_
 refine J_region ?_
 refine JL_pure (v := .slice (some ⟨bF, 0, none⟩) n n) rfl (Pu.move rfl) ?_
 refine JL_pure (v := .int .i64 ((n : Int))) rfl (Pu.lenSl Try.runUnderlying144 rfl) ?_
 refine JL_pure (v := .int .i64 (0)) rfl (Pu.move rfl) ?_
 refine JL_nil ?_
 refine J_block ?_
 refine J_loop (fun k ρ M => ∃ (j : Nat), ρ 0 = .slice (some ⟨bF, 0, none⟩) n n ∧ ρ 1 = .bool (x) ∧ ρ 4 = .int .i64 (0) ∧ ρ 7 = .int .i64 ((n : Int)) ∧ ρ 8 = .int .i64 ((j : Int)) ∧ Sub [] M ∧ j ≤ (l).length ∧ fstB x (l.drop j) j = fstB x l 0 ∧ k = (l).length - j) _ ⟨0, rfl, rfl, rfl, rfl, rfl, Sub.nil, Nat.zero_le _, rfl, rfl⟩ ?_
 rintro _ ρ1 _ ⟨j, e2, e3, e4, e5, e6, hm7, hj, hinv, rfl⟩
 obtain ⟨ρ8, rfl⟩ := reopen_ex (uc e2 (uc e3 (uc e4 (uc e5 (uc e6 un)))))
 clear e2 e3 e4 e5 e6
 refine J_sub hm7 ?_
 refine J_seq ?_
 refine J_region ?_
 refine JL_pure (v := .bool (decide ((j : Int) < (n : Int)))) rfl (Pu.lss rfl rfl) ?_
 refine JL_nil ?_
 refine J_seq ?_
 refine J_cond (b := decide ((j : Int) < (n : Int))) rfl (fun h9 => ?_) (fun h9 => ?_)
 ·skip
  replace h9 := dt h9
  have h9n : j < n := by omega
  refine J_skip ?_
  refine J_seq ?_
  refine J_block ?_
  refine J_seq ?_
  refine J_region ?_
  refine JL_pure (v := .int .i64 ((j : Int))) rfl (Pu.move rfl) ?_
  refine JL_pure (v := .int .i64 ((j : Int))) rfl (Pu.assign rfl) ?_
  refine JL_nil ?_
  refine J_seq ?_
  refine J_region ?_
  refine JL_pure (v := .bool (x)) rfl (Pu.move rfl) ?_
  refine JL_pure (v := .slice (some ⟨bF, 0, none⟩) n n) rfl (Pu.move rfl) ?_
  refine JL_pure (v := .int .i64 ((j : Int))) rfl (Pu.move rfl) ?_
  refine JL_pure (v := .pointer (some ⟨bF, 0 + j * 1, none⟩)) rfl (Pu.idx j Try.runUnderlying144 ty4 rfl rfl (by omega) (by omega)) ?_
  refine JL_run rfl (Pu_load1 ty4 rfl (At.im hB) (bls_get1 (by omega)) ?_)
  refine JL_pure (v := .bool ((x) == (l.getD j false))) rfl (Pu.eqlB Try.runUnderlying4 rfl rfl) ?_
  refine JL_nil ?_
  refine J_cond (b := (x) == (l.getD j false)) rfl (fun h10 => ?_) (fun h10 => ?_)
  ·skip
   refine J_seq ?_
   refine J_region ?_
   refine JL_pure (v := .int .i64 ((j : Int))) rfl (Pu.move rfl) ?_
   refine JL_pure (v := .int .i64 ((j : Int))) rfl (Pu.assign rfl) ?_
   refine JL_nil ?_
   refine J_ret ?_
   refine ⟨.int .i64 ((j : Int)), [], Ret.one rfl (RV.tmp rfl), Sub.nil, ?_⟩
   exact ⟨by rw [← hinv, dropc (by omega : j < l.length), fstB, if_pos (by simpa [(by omega : j < l.length)] using h10)], rfl⟩
  ·skip
   refine J_skip ?_
   refine J_region ?_
   refine JL_pure (v := .int .i64 (((j + 1 : Nat) : Int))) rfl (Pu.inc rfl rfl (by omega)) ?_
   refine JL_pure (v := .int .i64 (((j + 1 : Nat) : Int))) rfl (Pu.move rfl) ?_
   refine JL_nil ?_
   refine ⟨_, ?_, (j + 1), rfl, rfl, rfl, rfl, rfl, Sub.nil, ?_, ?_, rfl⟩
   ·omega
   ·omega
   ·rw [dropc (by omega : j < l.length), fstB, if_neg (by simpa [(by omega : j < l.length)] using h10)] at hinv; exact hinv
 ·skip
  replace h9 := df h9
  have h9n : n ≤ j := by omega
  refine J_exit _ rfl ?_
  refine J_seq ?_
  refine J_region ?_
  refine JL_pure (v := .int .i64 (-1)) rfl (Pu.assign rfl) ?_
  refine JL_nil ?_
  refine J_ret ?_
  refine ⟨.int .i64 (-1), [], Ret.one rfl (RV.tmp rfl), Sub.nil, ?_⟩
  exact ⟨by rw [← hinv, dropn (by omega)]; rfl, rfl⟩
end Go.Proofs.Ytmdifonjepggcaa.Hs
/-! Walks, printed by a program of this session's own (gen.py). -/
namespace Go.Proofs.Ytmdifonjepggcaa.Hs
open Go Go.Proofs
set_option maxRecDepth 100000
set_option linter.unusedVariables false
set_option linter.unusedSimpArgs false
attribute [local irreducible] JL J CT wlo
theorem backward_ct (v : Value) (H : Heap) (hv : v.oneCell' = true) : CT Try.prog 100 ⟨[v]⟩ [] H (fun u N => ∃ b, u = .func (.func 101) ⟨[]⟩ ⟨[.pointer (some ⟨b, 0, none⟩)]⟩ ∧ N = [[(b, .cells ⟨[v]⟩ 75 (0, 0))]]) := by
 refine CT_enter Try.func100 rfl rfl ?_
 refine J_seq ?_
 refine J_region ?_
 refine JL_run rfl (Runs_box (l := [v]) rfl (cells_one hv) fun b1 => ?_)
 refine JL_pure (v := .nilFunc) rfl (Pu.assign rfl) ?_
 refine JL_nil ?_
 refine J_seq ?_
 refine J_region ?_
 refine JL_pure (v := .func (.func 101) ⟨[]⟩ ⟨[.pointer (some ⟨b1, 0, none⟩)]⟩) rfl (Pu.makeFunc rfl rfl) ?_
 refine JL_pure (v := .func (.func 101) ⟨[]⟩ ⟨[.pointer (some ⟨b1, 0, none⟩)]⟩) rfl (Pu.assign rfl) ?_
 refine JL_nil ?_
 refine J_ret ?_
 refine ⟨.func (.func 101) ⟨[]⟩ ⟨[.pointer (some ⟨b1, 0, none⟩)]⟩, [[(b1, .cells ⟨[v]⟩ 75 (0, 0))]], Ret.one rfl (RV.tmp rfl), (Sk Sub.nil), ?_⟩
 exact ⟨_, rfl, rfl⟩
theorem backward1_ct (L : List ByteArray) (v : Value) (H : Heap) (bK : Nat) (hl : rdS RS 1 H v L) (hK : H bK = some (.cells ⟨[v]⟩ 75 (0, 0))) (l : Nat) {σ : Type} (yc : σ → Chunk) (Inv : Nat → σ → Prop) (s0 : σ) (h0 : Inv L.length s0) (hy : ∀ (i : Nat) (hi : i < L.length) (s : σ) (h : Heap), Inv (i + 1) s → Hle H h → YT Try.prog l ⟨[.int .i64 (i : Int), .string L[i]]⟩ [yc s] h (fun v N => ∃ s2, v = .bool true ∧ N = [yc s2] ∧ Inv i s2)) : CT Try.prog 101 ⟨[.func (.yield l) ⟨[]⟩ ⟨[]⟩, .pointer (some ⟨bK, 0, none⟩)]⟩ [yc s0] H (fun _ N => ∃ s, N = [yc s] ∧ Inv 0 s) := by
 refine CT_enter Try.func101 rfl rfl ?_
 refine J_seq ?_
 refine J_region ?_
 refine JL_run rfl (Pu_load1 ty75 rfl (At.im hK) rfl ?_)
 obtain ⟨a1, cap1, hv1⟩ := hl.sl
 have hle1 := hl.le
 refine JL_pure (v := .int .i64 (((L).length : Int))) rfl (Pu.lenSl Try.runUnderlying75 hv1) ?_
 refine JL_pure (v := .int .i64 (((L).length : Int) - 1)) rfl (Pu.sub64 rfl rfl (by first | omega | (constructor <;> omega))) ?_
 refine JL_pure (v := .int .i64 (((L).length : Int) - 1)) rfl (Pu.assign rfl) ?_
 refine JL_nil ?_
 refine J_block ?_
 refine J_loop (fun k ρ M => ∃ (e : Int) (s : σ), ρ 0 = .func (.yield l) ⟨[]⟩ ⟨[]⟩ ∧ ρ 1 = .pointer (some ⟨bK, 0, none⟩) ∧ ρ 3 = .int .i64 (e) ∧ Sub [yc s] M ∧ (-1 ≤ e ∧ e < (L.length : Int)) ∧ Inv (e + 1).toNat s ∧ k = (e + 1).toNat) _ ⟨((L.length : Int) - 1), s0, rfl, rfl, rfl, (Sk Sub.nil), ⟨by omega, by omega⟩, (by rw [show ((L.length : Int) - 1 + 1).toNat = L.length from by omega]; exact h0), rfl⟩ ?_
 rintro _ ρ2 _ ⟨e, s, e3, e4, e5, hm6, hb, hI, rfl⟩
 obtain ⟨ρ7, rfl⟩ := reopen_ex (uc e3 (uc e4 (uc e5 un)))
 clear e3 e4 e5
 refine J_sub hm6 ?_
 refine J_seq ?_
 refine J_seq ?_
 refine J_region ?_
 refine JL_pure (v := .int .i64 (e)) rfl (Pu.move rfl) ?_
 refine JL_pure (v := .bool (decide (0 ≤ e))) rfl (Pu.geq rfl rfl) ?_
 refine JL_nil ?_
 refine J_cond (b := decide (0 ≤ e)) rfl (fun h8 => ?_) (fun h8 => ?_)
 ·skip
  replace h8 := dt h8
  obtain ⟨j, rfl⟩ := Int.eq_ofNat_of_zero_le h8
  have hjl : j < L.length := by omega
  refine J_skip ?_
  refine J_seq ?_
  refine J_block ?_
  refine J_seq ?_
  refine J_region ?_
  refine JL_pure (v := .func (.yield l) ⟨[]⟩ ⟨[]⟩) rfl (Pu.move rfl) ?_
  refine JL_pure (v := .int .i64 ((j : Int))) rfl (Pu.move rfl) ?_
  refine JL_run rfl (Pu_load1 ty75 rfl (At.im hK) rfl ?_)
  refine JL_pure (v := .int .i64 ((j : Int))) rfl (Pu.move rfl) ?_
  obtain ⟨b9, o9, cap9, row9, T9, fr9, cs9, hv9, hb9, hs9, hE9⟩ := hl.get j (by first | assumption | omega | decide | simp)
  refine JL_pure (v := .pointer (some ⟨b9, o9 + j * 1, none⟩)) rfl (Pu.idx j Try.runUnderlying75 ty9 hv9 rfl rfl (by first | assumption | omega | decide | simp)) ?_
  refine JL_run rfl (Pu_load1 ty9 rfl (At.im hb9) (sub_one ((show cs9 = [Value.string ((L)[j])] from hE9) ▸ hs9)) ?_)
  refine JL_yield1 0 rfl rfl rfl (fun hin => hy j hjl s _ (by simpa using hI) (Hle.hu _ _)) rfl ?_
  rintro _ _ ⟨s5, rfl, rfl, hI5⟩
  refine JL_pure (v := .bool (false)) rfl (show Pu _ _ _ (.bool (!true)) from Pu.not rfl) ?_
  refine JL_nil ?_
  refine J_cond (b := false) rfl (fun h => absurd h (by simp)) (fun _ => ?_)
  refine J_skip ?_
  refine J_region ?_
  refine JL_pure (v := .int .i64 ((j : Int))) rfl (Pu.move rfl) ?_
  refine JL_pure (v := .int .i64 ((j : Int) - 1)) rfl (Pu.sub64 rfl rfl (by first | omega | (constructor <;> omega))) ?_
  refine JL_pure (v := .int .i64 ((j : Int) - 1)) rfl (Pu.assign rfl) ?_
  refine JL_nil ?_
  refine ⟨_, ?_, ((j : Int) - 1), s5, rfl, rfl, rfl, (Sk Sub.nil), ?_, ?_, rfl⟩
  ·omega
  ·constructor <;> omega
  ·rw [show ((j : Int) - 1 + 1).toNat = j from by omega]; exact hI5
 ·skip
  replace h8 := df h8
  refine J_exit _ rfl ?_
  refine ⟨.tuple ⟨[]⟩, [yc s], Ret.none rfl, (Sk Sub.nil), ?_⟩
  exact ⟨s, rfl, by rw [show (e + 1).toNat = 0 from by omega] at hI; exact hI⟩
theorem with_ct (l m : List ByteArray) (v u : Value) (H : Heap) (hl : rdS RS 1 H v l) (hm : rdS RS 1 H u m) (hb : l.length + m.length ≤ 1000000) : CT Try.prog 96 ⟨[v, u]⟩ [] H (fun w N => ∃ u k, w = u ∧ N = [k] ∧ Own 9 1 u (strs (m.reverse ++ l)) k) := by
 refine CT_enter Try.func96 rfl rfl ?_
 refine J_seq ?_
 refine J_region ?_
 refine JL_pure (v := .slice none 0 0) rfl (Pu.assign rfl) ?_
 refine JL_nil ?_
 refine J_seq ?_
 refine J_region ?_
 refine JL_run rfl (Runs_buildSlice (vs := []) [] Try.runUnderlying104 el9 rfl rfl (by intro e he; cases he) rfl (by decide) fun b1 k1 ho1 hk1 => ?_)
 refine JL_run rfl (Runs_alloc (l := [.slice none 0 0]) Try.zeroValue104 rfl fun b2 => ?_)
 refine JL_run rfl (Runs_storeB 0 (vs := [.slice (some ⟨b1, 0, none⟩) 0 0]) (l := [.slice (some ⟨b1, 0, none⟩) 0 0]) ty104 rfl rfl rfl rfl rfl (okc_cons rfl okc_nil) rfl ?_)
 refine JL_nil ?_
 refine J_seq ?_
 refine J_seq ?_
 refine J_region ?_
 refine JL_pure (v := u) rfl (Pu.move rfl) ?_
 refine JL_call rfl Try.call100 rfl (fun hin => backward_ct _ _ hm.one) rfl ?_
 rintro _ _ ⟨bK3, rfl, rfl⟩
 refine JL_nil ?_
 refine J_block ?_
 refine J_sub (M' := [[(b2, .cells ⟨[.slice (some ⟨b1, 0, none⟩) 0 0]⟩ 104 (0, 0))], k1, [(bK3, .cells ⟨[u]⟩ 75 (0, 0))]]) (Sub.cons 1 rfl (Sub.cons 1 rfl (Sk Sub.nil))) ?_
 refine J_range (L := [[(bK3, .cells ⟨[u]⟩ 75 (0, 0))]]) (fun s : Value × Chunk => [[(b2, .cells ⟨[s.1]⟩ 104 (0, 0))], s.2]) (fun _ => false) (.slice (some ⟨b1, 0, none⟩) 0 0, k1) (fun s => Own 9 1 s.1 (strs ((m.drop (0)).reverse)) s.2) rfl rfl Try.call101 (List.Perm.of_eq (by simp)) ?_ ?_ ?_
 ·intro l yc hY hin
  refine CT.mono (backward1_ct m u _ bK3 (RSs.mono (Hle.hu _ _) hm) (hin 0 _ rfl _ _ List.mem_cons_self) l yc (fun i s => Own 9 1 s.1 (strs ((m.drop (i)).reverse)) s.2) (.slice (some ⟨b1, 0, none⟩) 0 0, k1) (by rw [List.drop_length]; exact ho1) ?_) (fun v N hN => hN)
  intro i hi s h hI hh
  refine YT.mono (hY s [_, _] h (fun s => Own 9 1 s.1 (strs ((m.drop (i)).reverse)) s.2) rfl rfl (RoundOk.mk ?_)) ?_
  ·show J _ _ _ _ [[(b2, .cells ⟨[s.1]⟩ 104 (0, 0))], s.2] _
   refine J_region ?_
   refine JL_pure (v := .string (m[i])) rfl (Pu.assign rfl) ?_
   refine JL_nil ?_
   refine J_block ?_
   refine J_region ?_
   refine JL_run rfl (Pu_load1 ty104 rfl (At.bx 0 rfl) rfl ?_)
   refine JL_pure (v := .string (m[i])) rfl (Pu.move rfl) ?_
   refine JL_run rfl (Runs_buildSlice (vs := [.string (m[i])]) [[.string (m[i])]] Try.runUnderlying104 el9 rfl rfl (by intro e he; simp only [List.mem_cons, List.not_mem_nil, or_false] at he; subst he; exact rfl) rfl (by decide) fun b4 k4 ho4 hk4 => ?_)
   have hlens5 : ∀ e ∈ ([[.string (m[i])]] : List (List Value)), List.length e = 1 := by
    intro e he; simp only [List.mem_cons, List.not_mem_nil, or_false] at he
    rcases he with rfl
    ·exact rfl
   have hoks5 : ∀ e ∈ ([[.string (m[i])]] : List (List Value)), okc e := by
    intro e he; simp only [List.mem_cons, List.not_mem_nil, or_false] at he
    rcases he with rfl
    ·exact (okc_cons rfl okc_nil)
   refine JL_run rfl (Runs_append (i := 2) (n := 1) (es' := [[.string (m[i])]]) Try.runUnderlying104 Try.runUnderlying104 (Or.inl rfl) el9 rfl rfl rfl hI (fun F w m => Src.row (((At.k 0 rfl (by rw [hk4]; exact List.mem_cons_self))).heap m) (sub_a (flatten_len hlens5))) rfl hlens5 hoks5 (by decide) (by simp only [strs_len, List.length_reverse, List.length_drop, List.length_append]; omega) fun v5 k5 ho5 => ?_)
   refine JL_run rfl (Runs_storeB 1 (vs := [v5]) (l := [v5]) ty104 rfl rfl rfl (cells_one ho5.one) rfl (okc_cons ho5.one okc_nil) rfl ?_)
   refine JL_nil ?_
   exact ⟨(v5, k5), rfl, (Sd (Sk (Sk Sub.nil))), (by rw [List.drop_eq_getElem_cons hi, List.reverse_cons, strs_snoc]; exact ho5)⟩
  ·rintro v N ⟨s2, rfl, rfl, h2⟩; exact ⟨s2, rfl, rfl, h2⟩
 ·rintro s hI hp
  have hIF := hI
  rw [List.drop_zero] at hIF
  refine J_seq ?_
  refine J_region ?_
  refine JL_run rfl (Pu_load1 ty104 rfl (At.bx 0 rfl) rfl ?_)
  refine JL_pure (v := v) rfl (Pu.move rfl) ?_
  refine JL_run rfl (Runs_append (i := 1) (n := (l).length) (es' := strs (l)) Try.runUnderlying104 Try.runUnderlying104 (Or.inl rfl) el9 rfl rfl rfl hIF (fun F w m => strs_src hl w _ m) (strs_len _) (strs_len1 _) (strs_ok _) (by decide) (by simp only [strs_len, List.length_reverse, List.length_drop, List.length_append]; omega) fun v6 k6 ho6 => ?_)
  rw [← strs_app] at ho6
  refine JL_pure (v := v6) rfl (Pu.assign rfl) ?_
  refine JL_nil ?_
  refine J_ret ?_
  refine ⟨v6, [k6], Ret.one rfl (RV.tmp rfl), (Sd (Sk Sub.nil)), ?_⟩
  exact ⟨_, _, rfl, rfl, ho6⟩
 ·intro s _ hp; cases hp
end Go.Proofs.Ytmdifonjepggcaa.Hs
/-! Walks, printed by a program of this session's own (gen.py). -/
namespace Go.Proofs.Ytmdifonjepggcaa.Hs
open Go Go.Proofs
set_option maxRecDepth 100000
set_option linter.unusedVariables false
set_option linter.unusedSimpArgs false
attribute [local irreducible] JL J CT wlo
theorem chosen1_ct (v : Value) (H : Heap) (hl : rdS RS 1 H v [ltr 0]) : CT Try.prog 79 ⟨[v, .int .i64 (1)]⟩ [] H (fun v N => ∃ u1 u2 k1 k2, v = .tuple ⟨[u1, u2]⟩ ∧ N = [k1, k2] ∧ Own 9 1 u1 (strs [ltr 1, ltr 0]) k1 ∧ Own 9 1 u2 (strs [ltr 1]) k2) := by
 refine CT_enter Try.func79 rfl rfl ?_
 refine J_seq ?_
 refine J_region ?_
 refine JL_pure (v := .slice none 0 0) rfl (Pu.assign rfl) ?_
 refine JL_pure (v := .slice none 0 0) rfl (Pu.assign rfl) ?_
 refine JL_nil ?_
 refine J_seq ?_
 refine J_region ?_
 refine JL_pure (v := v) rfl (Pu.move rfl) ?_
 obtain ⟨a1, cap1, hv1⟩ := hl.sl
 have hle1 := hl.le
 refine JL_pure (v := .int .i64 (1)) rfl (Pu.lenSl Try.runUnderlying104 hv1) ?_
 refine JL_pure (v := .int .i64 (1)) rfl (Pu.move rfl) ?_
 refine JL_pure (v := .int .i64 (2)) rfl (Pu.arith rfl rfl rfl) ?_
 refine JL_run rfl (Runs_make 2 Try.runUnderlying144 el4 rfl rfl rfl rfl (by decide) (by decide) fun b2 k2 _ hk2 => ?_)
 obtain rfl : k2 = [(b2, .cells ⟨bls (List.replicate 2 false)⟩ 4 (0, 0))] := hk2
 refine JL_pure (v := .slice (some ⟨b2, 0, none⟩) 2 2) rfl (Pu.assign rfl) ?_
 refine JL_nil ?_
 refine J_seq ?_
 refine J_region ?_
 refine JL_pure (v := .slice (some ⟨b2, 0, none⟩) 2 2) rfl (Pu.move rfl) ?_
 refine JL_pure (v := .func (.func 93) ⟨[.slice (some ⟨b2, 0, none⟩) 2 2]⟩ ⟨[]⟩) rfl (Pu.makeFunc rfl rfl) ?_
 refine JL_pure (v := .func (.func 93) ⟨[.slice (some ⟨b2, 0, none⟩) 2 2]⟩ ⟨[]⟩) rfl (Pu.assign rfl) ?_
 refine JL_nil ?_
 refine J_seq ?_
 refine J_seq ?_
 refine J_region ?_
 refine JL_pure (v := v) rfl (Pu.move rfl) ?_
 obtain ⟨a3, cap3, hv3⟩ := hl.sl
 have hle3 := hl.le
 refine JL_pure (v := .int .i64 (1)) rfl (Pu.lenSl Try.runUnderlying104 hv3) ?_
 refine JL_pure (v := .int .i64 (0)) rfl (Pu.move rfl) ?_
 refine JL_nil ?_
 refine J_block ?_
 refine J_rounds 2 ?_
 refine JR_succ ?_
 refine J_seq ?_
 refine J_region ?_
 refine JL_pure (v := .bool (true)) rfl (show Pu _ _ _ (.bool (decide ((0 : Int) < 1))) from Pu.lss rfl rfl) ?_
 refine JL_nil ?_
 refine J_seq ?_
 refine J_cond (b := true) rfl (fun _ => ?_) (fun h => absurd h (by simp))
 refine J_skip ?_
 refine J_seq ?_
 refine J_block ?_
 refine J_seq ?_
 refine J_region ?_
 obtain ⟨b4, o4, cap4, row4, T4, fr4, cs4, hv4, hb4, hs4, hE4⟩ := hl.get 0 (by first | assumption | omega | decide | simp)
 refine JL_pure (v := .pointer (some ⟨b4, o4 + 0 * 1, none⟩)) rfl (Pu.idx 0 Try.runUnderlying104 ty9 hv4 rfl rfl (by first | assumption | omega | decide | simp)) ?_
 refine JL_run rfl (Pu_load1 ty9 rfl (At.im hb4) (sub_one ((show cs4 = [Value.string (ltr 0)] from hE4) ▸ hs4)) ?_)
 refine JL_pure (v := .string (ltr 0)) rfl (Pu.assign rfl) ?_
 refine JL_nil ?_
 refine J_region ?_
 refine JL_pure (v := .func (.func 93) ⟨[.slice (some ⟨b2, 0, none⟩) 2 2]⟩ ⟨[]⟩) rfl (Pu.move rfl) ?_
 refine JL_pure (v := .string (ltr 0)) rfl (Pu.move rfl) ?_
 refine JL_call1 0 rfl Try.call93 rfl rfl (fun hin => mark_ct 0 2 _ _ _ (by decide) (List.length_replicate ..)) rfl ?_
 rintro _ _ ⟨rfl, rfl⟩
 refine JL_nil ?_
 refine J_region ?_
 refine JL_pure (v := .int .i64 (1)) rfl (Pu.arith rfl rfl rfl) ?_
 refine JL_pure (v := .int .i64 (1)) rfl (Pu.move rfl) ?_
 refine JL_nil ?_
 refine JR_succ ?_
 refine J_seq ?_
 refine J_region ?_
 refine JL_pure (v := .bool (false)) rfl (show Pu _ _ _ (.bool (decide ((1 : Int) < 1))) from Pu.lss rfl rfl) ?_
 refine JL_nil ?_
 refine J_seq ?_
 refine J_cond (b := false) rfl (fun h => absurd h (by simp)) (fun _ => ?_)
 refine J_exit _ rfl ?_
 refine J_seq ?_
 refine J_region ?_
 refine JL_pure (v := .slice none 0 0) rfl (Pu.assign rfl) ?_
 refine JL_nil ?_
 refine J_seq ?_
 refine J_seq ?_
 refine J_region ?_
 refine JL_pure (v := .int .i64 (1)) rfl (Pu.move rfl) ?_
 refine JL_pure (v := .int .i64 (0)) rfl (Pu.move rfl) ?_
 refine JL_nil ?_
 refine J_block ?_
 refine J_rounds 2 ?_
 refine JR_succ ?_
 refine J_seq ?_
 refine J_region ?_
 refine JL_pure (v := .bool (true)) rfl (show Pu _ _ _ (.bool (decide ((0 : Int) < 1))) from Pu.lss rfl rfl) ?_
 refine JL_nil ?_
 refine J_seq ?_
 refine J_cond (b := true) rfl (fun _ => ?_) (fun h => absurd h (by simp))
 refine J_skip ?_
 refine J_seq ?_
 refine J_block ?_
 refine J_seq ?_
 refine J_region ?_
 refine JL_pure (v := .slice (some ⟨b2, 0, none⟩) 2 2) rfl (Pu.move rfl) ?_
 refine JL_call rfl Try.call94 rfl (fun hin => int_r (r := 1) (idxB_ct false _ _ _ _ ((markL_len ..).trans (List.length_replicate ..)) (by decide) (hin 0 _ rfl _ _ List.mem_cons_self)) (by decide)) rfl ?_
 rintro _ _ ⟨rfl, rfl⟩
 refine JL_pure (v := .int .i64 (1)) rfl (Pu.assign rfl) ?_
 refine JL_nil ?_
 refine J_seq ?_
 refine J_region ?_
 refine JL_pure (v := .slice none 0 0) rfl (Pu.move rfl) ?_
 refine JL_pure (v := .int .i64 (1)) rfl (Pu.move rfl) ?_
 refine JL_call rfl Try.call95 rfl (fun hin => name_ct 1 _ (by decide)) rfl ?_
 rintro _ _ ⟨rfl, rfl⟩
 refine JL_run rfl (Runs_buildSlice (vs := [.string (ltr 1)]) [[.string (ltr 1)]] Try.runUnderlying75 el9 rfl rfl (by intro e he; simp only [List.mem_cons, List.not_mem_nil, or_false] at he; subst he; exact rfl) rfl (by decide) fun b5 k5 ho5 hk5 => ?_)
 refine JL_sub (M' := [[], k5, [(b2, .cells ⟨bls (markL 0 (List.replicate 2 false))⟩ 4 (0, 0))]]) (Sub.emp Sub.refl) ?_
 have hlens6 : ∀ e ∈ ([[.string (ltr 1)]] : List (List Value)), List.length e = 1 := by
  intro e he; simp only [List.mem_cons, List.not_mem_nil, or_false] at he
  rcases he with rfl
  ·exact rfl
 have hoks6 : ∀ e ∈ ([[.string (ltr 1)]] : List (List Value)), okc e := by
  intro e he; simp only [List.mem_cons, List.not_mem_nil, or_false] at he
  rcases he with rfl
  ·exact (okc_cons rfl okc_nil)
 refine JL_run rfl (Runs_append (i := 0) (n := 1) (es' := [[.string (ltr 1)]]) Try.runUnderlying75 Try.runUnderlying75 (Or.inl rfl) el9 rfl rfl rfl (show Own _ _ _ (strs []) _ from Own.nil) (fun F w m => Src.row (((At.k 1 rfl (by rw [hk5]; exact List.mem_cons_self))).heap m) (sub_a (flatten_len hlens6))) rfl hlens6 hoks6 (by decide) (by simp [strs]) fun v6 k6 ho6 => ?_)
 rw [← strs_snoc] at ho6
 refine JL_pure (v := v6) rfl (Pu.assign rfl) ?_
 refine JL_nil ?_
 refine J_region ?_
 refine JL_pure (v := .slice (some ⟨b2, 0, none⟩) 2 2) rfl (Pu.move rfl) ?_
 refine JL_pure (v := .int .i64 (1)) rfl (Pu.move rfl) ?_
 refine JL_pure (v := .pointer (some ⟨b2, 0 + 1 * 1, none⟩)) rfl (Pu.idx 1 Try.runUnderlying144 ty4 rfl rfl (by omega) (by omega)) ?_
 refine JL_run rfl (Runs_storeB 2 (vs := [.bool (true)]) (l := bls ((markL 0 (List.replicate 2 false)).set 1 true)) ty4 rfl rfl rfl rfl rfl (okc_cons rfl okc_nil) (bls_set1 (by have hbl : List.length (markL 0 (List.replicate 2 false)) = 2 := ((markL_len ..).trans (List.length_replicate ..)); omega)) ?_)
 refine JL_nil ?_
 refine J_region ?_
 refine JL_pure (v := .int .i64 (1)) rfl (Pu.arith rfl rfl rfl) ?_
 refine JL_pure (v := .int .i64 (1)) rfl (Pu.move rfl) ?_
 refine JL_nil ?_
 refine JR_succ ?_
 refine J_seq ?_
 refine J_region ?_
 refine JL_pure (v := .bool (false)) rfl (show Pu _ _ _ (.bool (decide ((1 : Int) < 1))) from Pu.lss rfl rfl) ?_
 refine JL_nil ?_
 refine J_seq ?_
 refine J_cond (b := false) rfl (fun h => absurd h (by simp)) (fun _ => ?_)
 refine J_exit _ rfl ?_
 refine J_seq ?_
 refine J_region ?_
 refine JL_pure (v := v) rfl (Pu.move rfl) ?_
 refine JL_pure (v := v6) rfl (Pu.move rfl) ?_
 refine JL_call rfl Try.call96 rfl (fun hin => with_ct _ _ _ _ _ (RSs.mono (Hle.hu _ _) hl) (own_strs ho6 (by simp) (hin 0 _ rfl)) (by simp)) rfl ?_
 rintro u7 _ ⟨_, k7, hu7, rfl, ho7⟩; subst hu7
 refine JL_pure (v := v6) rfl (Pu.move rfl) ?_
 refine JL_pure (v := u7) rfl (Pu.assign rfl) ?_
 refine JL_pure (v := v6) rfl (Pu.assign rfl) ?_
 refine JL_nil ?_
 refine J_ret ?_
 refine ⟨.tuple ⟨[u7, v6]⟩, [k7, k6], Ret.two rfl (RV.tmp rfl) (RV.tmp rfl), (Sk (Sk Sub.nil)), ?_⟩
 exact ⟨_, _, _, _, rfl, rfl, ho7, ho6⟩
theorem chosen2_ct (v : Value) (H : Heap) (hl : rdS RS 1 H v [ltr 1, ltr 0]) : CT Try.prog 79 ⟨[v, .int .i64 (1)]⟩ [] H (fun v N => ∃ u1 u2 k1 k2, v = .tuple ⟨[u1, u2]⟩ ∧ N = [k1, k2] ∧ Own 9 1 u1 (strs [ltr 2, ltr 1, ltr 0]) k1 ∧ Own 9 1 u2 (strs [ltr 2]) k2) := by
 refine CT_enter Try.func79 rfl rfl ?_
 refine J_seq ?_
 refine J_region ?_
 refine JL_pure (v := .slice none 0 0) rfl (Pu.assign rfl) ?_
 refine JL_pure (v := .slice none 0 0) rfl (Pu.assign rfl) ?_
 refine JL_nil ?_
 refine J_seq ?_
 refine J_region ?_
 refine JL_pure (v := v) rfl (Pu.move rfl) ?_
 obtain ⟨a1, cap1, hv1⟩ := hl.sl
 have hle1 := hl.le
 refine JL_pure (v := .int .i64 (2)) rfl (Pu.lenSl Try.runUnderlying104 hv1) ?_
 refine JL_pure (v := .int .i64 (1)) rfl (Pu.move rfl) ?_
 refine JL_pure (v := .int .i64 (3)) rfl (Pu.arith rfl rfl rfl) ?_
 refine JL_run rfl (Runs_make 3 Try.runUnderlying144 el4 rfl rfl rfl rfl (by decide) (by decide) fun b2 k2 _ hk2 => ?_)
 obtain rfl : k2 = [(b2, .cells ⟨bls (List.replicate 3 false)⟩ 4 (0, 0))] := hk2
 refine JL_pure (v := .slice (some ⟨b2, 0, none⟩) 3 3) rfl (Pu.assign rfl) ?_
 refine JL_nil ?_
 refine J_seq ?_
 refine J_region ?_
 refine JL_pure (v := .slice (some ⟨b2, 0, none⟩) 3 3) rfl (Pu.move rfl) ?_
 refine JL_pure (v := .func (.func 93) ⟨[.slice (some ⟨b2, 0, none⟩) 3 3]⟩ ⟨[]⟩) rfl (Pu.makeFunc rfl rfl) ?_
 refine JL_pure (v := .func (.func 93) ⟨[.slice (some ⟨b2, 0, none⟩) 3 3]⟩ ⟨[]⟩) rfl (Pu.assign rfl) ?_
 refine JL_nil ?_
 refine J_seq ?_
 refine J_seq ?_
 refine J_region ?_
 refine JL_pure (v := v) rfl (Pu.move rfl) ?_
 obtain ⟨a3, cap3, hv3⟩ := hl.sl
 have hle3 := hl.le
 refine JL_pure (v := .int .i64 (2)) rfl (Pu.lenSl Try.runUnderlying104 hv3) ?_
 refine JL_pure (v := .int .i64 (0)) rfl (Pu.move rfl) ?_
 refine JL_nil ?_
 refine J_block ?_
 refine J_rounds 3 ?_
 refine JR_succ ?_
 refine J_seq ?_
 refine J_region ?_
 refine JL_pure (v := .bool (true)) rfl (show Pu _ _ _ (.bool (decide ((0 : Int) < 2))) from Pu.lss rfl rfl) ?_
 refine JL_nil ?_
 refine J_seq ?_
 refine J_cond (b := true) rfl (fun _ => ?_) (fun h => absurd h (by simp))
 refine J_skip ?_
 refine J_seq ?_
 refine J_block ?_
 refine J_seq ?_
 refine J_region ?_
 obtain ⟨b4, o4, cap4, row4, T4, fr4, cs4, hv4, hb4, hs4, hE4⟩ := hl.get 0 (by first | assumption | omega | decide | simp)
 refine JL_pure (v := .pointer (some ⟨b4, o4 + 0 * 1, none⟩)) rfl (Pu.idx 0 Try.runUnderlying104 ty9 hv4 rfl rfl (by first | assumption | omega | decide | simp)) ?_
 refine JL_run rfl (Pu_load1 ty9 rfl (At.im hb4) (sub_one ((show cs4 = [Value.string (ltr 1)] from hE4) ▸ hs4)) ?_)
 refine JL_pure (v := .string (ltr 1)) rfl (Pu.assign rfl) ?_
 refine JL_nil ?_
 refine J_region ?_
 refine JL_pure (v := .func (.func 93) ⟨[.slice (some ⟨b2, 0, none⟩) 3 3]⟩ ⟨[]⟩) rfl (Pu.move rfl) ?_
 refine JL_pure (v := .string (ltr 1)) rfl (Pu.move rfl) ?_
 refine JL_call1 0 rfl Try.call93 rfl rfl (fun hin => mark_ct 1 3 _ _ _ (by decide) (List.length_replicate ..)) rfl ?_
 rintro _ _ ⟨rfl, rfl⟩
 refine JL_nil ?_
 refine J_region ?_
 refine JL_pure (v := .int .i64 (1)) rfl (Pu.arith rfl rfl rfl) ?_
 refine JL_pure (v := .int .i64 (1)) rfl (Pu.move rfl) ?_
 refine JL_nil ?_
 refine JR_succ ?_
 refine J_seq ?_
 refine J_region ?_
 refine JL_pure (v := .bool (true)) rfl (show Pu _ _ _ (.bool (decide ((1 : Int) < 2))) from Pu.lss rfl rfl) ?_
 refine JL_nil ?_
 refine J_seq ?_
 refine J_cond (b := true) rfl (fun _ => ?_) (fun h => absurd h (by simp))
 refine J_skip ?_
 refine J_seq ?_
 refine J_block ?_
 refine J_seq ?_
 refine J_region ?_
 obtain ⟨b5, o5, cap5, row5, T5, fr5, cs5, hv5, hb5, hs5, hE5⟩ := hl.get 1 (by first | assumption | omega | decide | simp)
 refine JL_pure (v := .pointer (some ⟨b5, o5 + 1 * 1, none⟩)) rfl (Pu.idx 1 Try.runUnderlying104 ty9 hv5 rfl rfl (by first | assumption | omega | decide | simp)) ?_
 refine JL_run rfl (Pu_load1 ty9 rfl (At.im hb5) (sub_one ((show cs5 = [Value.string (ltr 0)] from hE5) ▸ hs5)) ?_)
 refine JL_pure (v := .string (ltr 0)) rfl (Pu.assign rfl) ?_
 refine JL_nil ?_
 refine J_region ?_
 refine JL_pure (v := .func (.func 93) ⟨[.slice (some ⟨b2, 0, none⟩) 3 3]⟩ ⟨[]⟩) rfl (Pu.move rfl) ?_
 refine JL_pure (v := .string (ltr 0)) rfl (Pu.move rfl) ?_
 refine JL_call1 0 rfl Try.call93 rfl rfl (fun hin => mark_ct 0 3 _ _ _ (by decide) ((markL_len ..).trans (List.length_replicate ..))) rfl ?_
 rintro _ _ ⟨rfl, rfl⟩
 refine JL_nil ?_
 refine J_region ?_
 refine JL_pure (v := .int .i64 (2)) rfl (Pu.arith rfl rfl rfl) ?_
 refine JL_pure (v := .int .i64 (2)) rfl (Pu.move rfl) ?_
 refine JL_nil ?_
 refine JR_succ ?_
 refine J_seq ?_
 refine J_region ?_
 refine JL_pure (v := .bool (false)) rfl (show Pu _ _ _ (.bool (decide ((2 : Int) < 2))) from Pu.lss rfl rfl) ?_
 refine JL_nil ?_
 refine J_seq ?_
 refine J_cond (b := false) rfl (fun h => absurd h (by simp)) (fun _ => ?_)
 refine J_exit _ rfl ?_
 refine J_seq ?_
 refine J_region ?_
 refine JL_pure (v := .slice none 0 0) rfl (Pu.assign rfl) ?_
 refine JL_nil ?_
 refine J_seq ?_
 refine J_seq ?_
 refine J_region ?_
 refine JL_pure (v := .int .i64 (1)) rfl (Pu.move rfl) ?_
 refine JL_pure (v := .int .i64 (0)) rfl (Pu.move rfl) ?_
 refine JL_nil ?_
 refine J_block ?_
 refine J_rounds 2 ?_
 refine JR_succ ?_
 refine J_seq ?_
 refine J_region ?_
 refine JL_pure (v := .bool (true)) rfl (show Pu _ _ _ (.bool (decide ((0 : Int) < 1))) from Pu.lss rfl rfl) ?_
 refine JL_nil ?_
 refine J_seq ?_
 refine J_cond (b := true) rfl (fun _ => ?_) (fun h => absurd h (by simp))
 refine J_skip ?_
 refine J_seq ?_
 refine J_block ?_
 refine J_seq ?_
 refine J_region ?_
 refine JL_pure (v := .slice (some ⟨b2, 0, none⟩) 3 3) rfl (Pu.move rfl) ?_
 refine JL_call rfl Try.call94 rfl (fun hin => int_r (r := 2) (idxB_ct false _ _ _ _ ((markL_len ..).trans ((markL_len ..).trans (List.length_replicate ..))) (by decide) (hin 0 _ rfl _ _ List.mem_cons_self)) (by decide)) rfl ?_
 rintro _ _ ⟨rfl, rfl⟩
 refine JL_pure (v := .int .i64 (2)) rfl (Pu.assign rfl) ?_
 refine JL_nil ?_
 refine J_seq ?_
 refine J_region ?_
 refine JL_pure (v := .slice none 0 0) rfl (Pu.move rfl) ?_
 refine JL_pure (v := .int .i64 (2)) rfl (Pu.move rfl) ?_
 refine JL_call rfl Try.call95 rfl (fun hin => name_ct 2 _ (by decide)) rfl ?_
 rintro _ _ ⟨rfl, rfl⟩
 refine JL_run rfl (Runs_buildSlice (vs := [.string (ltr 2)]) [[.string (ltr 2)]] Try.runUnderlying75 el9 rfl rfl (by intro e he; simp only [List.mem_cons, List.not_mem_nil, or_false] at he; subst he; exact rfl) rfl (by decide) fun b6 k6 ho6 hk6 => ?_)
 refine JL_sub (M' := [[], k6, [(b2, .cells ⟨bls (markL 0 (markL 1 (List.replicate 3 false)))⟩ 4 (0, 0))]]) (Sub.emp Sub.refl) ?_
 have hlens7 : ∀ e ∈ ([[.string (ltr 2)]] : List (List Value)), List.length e = 1 := by
  intro e he; simp only [List.mem_cons, List.not_mem_nil, or_false] at he
  rcases he with rfl
  ·exact rfl
 have hoks7 : ∀ e ∈ ([[.string (ltr 2)]] : List (List Value)), okc e := by
  intro e he; simp only [List.mem_cons, List.not_mem_nil, or_false] at he
  rcases he with rfl
  ·exact (okc_cons rfl okc_nil)
 refine JL_run rfl (Runs_append (i := 0) (n := 1) (es' := [[.string (ltr 2)]]) Try.runUnderlying75 Try.runUnderlying75 (Or.inl rfl) el9 rfl rfl rfl (show Own _ _ _ (strs []) _ from Own.nil) (fun F w m => Src.row (((At.k 1 rfl (by rw [hk6]; exact List.mem_cons_self))).heap m) (sub_a (flatten_len hlens7))) rfl hlens7 hoks7 (by decide) (by simp [strs]) fun v7 k7 ho7 => ?_)
 rw [← strs_snoc] at ho7
 refine JL_pure (v := v7) rfl (Pu.assign rfl) ?_
 refine JL_nil ?_
 refine J_region ?_
 refine JL_pure (v := .slice (some ⟨b2, 0, none⟩) 3 3) rfl (Pu.move rfl) ?_
 refine JL_pure (v := .int .i64 (2)) rfl (Pu.move rfl) ?_
 refine JL_pure (v := .pointer (some ⟨b2, 0 + 2 * 1, none⟩)) rfl (Pu.idx 2 Try.runUnderlying144 ty4 rfl rfl (by omega) (by omega)) ?_
 refine JL_run rfl (Runs_storeB 2 (vs := [.bool (true)]) (l := bls ((markL 0 (markL 1 (List.replicate 3 false))).set 2 true)) ty4 rfl rfl rfl rfl rfl (okc_cons rfl okc_nil) (bls_set1 (by have hbl : List.length (markL 0 (markL 1 (List.replicate 3 false))) = 3 := ((markL_len ..).trans ((markL_len ..).trans (List.length_replicate ..))); omega)) ?_)
 refine JL_nil ?_
 refine J_region ?_
 refine JL_pure (v := .int .i64 (1)) rfl (Pu.arith rfl rfl rfl) ?_
 refine JL_pure (v := .int .i64 (1)) rfl (Pu.move rfl) ?_
 refine JL_nil ?_
 refine JR_succ ?_
 refine J_seq ?_
 refine J_region ?_
 refine JL_pure (v := .bool (false)) rfl (show Pu _ _ _ (.bool (decide ((1 : Int) < 1))) from Pu.lss rfl rfl) ?_
 refine JL_nil ?_
 refine J_seq ?_
 refine J_cond (b := false) rfl (fun h => absurd h (by simp)) (fun _ => ?_)
 refine J_exit _ rfl ?_
 refine J_seq ?_
 refine J_region ?_
 refine JL_pure (v := v) rfl (Pu.move rfl) ?_
 refine JL_pure (v := v7) rfl (Pu.move rfl) ?_
 refine JL_call rfl Try.call96 rfl (fun hin => with_ct _ _ _ _ _ (RSs.mono (Hle.hu _ _) hl) (own_strs ho7 (by simp) (hin 0 _ rfl)) (by simp)) rfl ?_
 rintro u8 _ ⟨_, k8, hu8, rfl, ho8⟩; subst hu8
 refine JL_pure (v := v7) rfl (Pu.move rfl) ?_
 refine JL_pure (v := u8) rfl (Pu.assign rfl) ?_
 refine JL_pure (v := v7) rfl (Pu.assign rfl) ?_
 refine JL_nil ?_
 refine J_ret ?_
 refine ⟨.tuple ⟨[u8, v7]⟩, [k8, k7], Ret.two rfl (RV.tmp rfl) (RV.tmp rfl), (Sk (Sk Sub.nil)), ?_⟩
 exact ⟨_, _, _, _, rfl, rfl, ho8, ho7⟩
end Go.Proofs.Ytmdifonjepggcaa.Hs
/-! Walks, printed by a program of this session's own (gen.py). -/
namespace Go.Proofs.Ytmdifonjepggcaa.Hs
open Go Go.Proofs
set_option maxRecDepth 100000
set_option linter.unusedVariables false
set_option linter.unusedSimpArgs false
attribute [local irreducible] JL J CT wlo
set_option maxHeartbeats 1000000 in
theorem named_va : ∀ (cs : List Value) (v : Value) (H : Heap), RT H cs (Tm.mk 1 1 zS [] []) → rdS RS 1 H v [ltr 2, ltr 1, ltr 0] → CT Try.prog 54 ⟨[.agg ⟨cs⟩, v]⟩ [] H (fun v N => ∃ cs k, v = .agg ⟨cs⟩ ∧ N = [k] ∧ NC [] cs k) := by
 intro cs v H ht hl
 obtain ⟨ks, cv, rfl, _, _, hks, hcv⟩ := RT_mk.1 ht
 refine CT_enter Try.func54 rfl rfl ?_
 refine J_seq ?_
 refine J_region ?_
 refine JL_run rfl (Runs_box (l := pkT (1) (1) (zS) (ks) (cv)) rfl rfl fun b1 => ?_)
 refine JL_run rfl (Runs_alloc (l := (pkT (0) (0) (zS) (.slice none 0 0) (.slice none 0 0)) ++ ([.slice none 0 0] : List Value)) Try.zeroValue79 rfl fun b2 => ?_)
 refine JL_nil ?_
 refine J_seq ?_
 refine J_region ?_
 refine JL_pure (v := .pointer (some ⟨b1, 0, none⟩)) rfl (fa30_0 rfl rfl) ?_
 refine JL_run rfl (Pu_load1 ty3 rfl (At.bx 1 rfl) (pkT_0 ..) ?_)
 refine JL_pure (v := .pointer (some ⟨b1, 1, none⟩)) rfl (fa30_1 rfl rfl) ?_
 refine JL_run rfl (Pu_load1 ty3 rfl (At.bx 1 rfl) (pkT_1 ..) ?_)
 refine JL_pure (v := .pointer (some ⟨b1, 2, none⟩)) rfl (fa30_2 rfl rfl) ?_
 refine JL_run rfl (Pu_load ty26 rfl (At.bx 1 rfl) (pkT_2 ..) ?_)
 refine JL_pure (v := .agg ⟨(pkT (1) (1) (zS) (.slice none 0 0) (.slice none 0 0)) ++ ([.slice none 0 0] : List Value)⟩) rfl (Pu.build (pv := [(0, .int .i64 (1)), (1, .int .i64 (1)), (2, .agg ⟨sC (zS)⟩)]) (l := (pkT (1) (1) (zS) (.slice none 0 0) (.slice none 0 0)) ++ ([.slice none 0 0] : List Value)) rfl (bld79_0_1_2 _ _ _)) ?_
 refine JL_run rfl (Runs_alloc (l := (pkT (0) (0) (zS) (.slice none 0 0) (.slice none 0 0)) ++ ([.slice none 0 0] : List Value)) Try.zeroValue79 rfl fun b3 => ?_)
 refine JL_run rfl (Runs_storeB 0 (vs := (pkT (1) (1) (zS) (.slice none 0 0) (.slice none 0 0)) ++ ([.slice none 0 0] : List Value)) (l := (pkT (1) (1) (zS) (.slice none 0 0) (.slice none 0 0)) ++ ([.slice none 0 0] : List Value)) ty79 rfl rfl rfl rfl rfl (okc_app (pkT_ok rfl rfl) (okc_cons rfl okc_nil)) (spl_a (n := 37) rfl rfl) ?_)
 refine JL_nil ?_
 refine J_seq ?_
 refine J_seq ?_
 refine J_region ?_
 refine JL_pure (v := .pointer (some ⟨b1, 0, none⟩)) rfl (fa30_0 rfl rfl) ?_
 refine JL_run rfl (Pu_load1 ty3 rfl (At.bx 2 rfl) (pkT_0 ..) ?_)
 refine JL_pure (v := .bool (true)) rfl (show Pu _ _ _ (.bool (decide ((1 : Int) = 1))) from Pu.eql rfl rfl) ?_
 refine JL_nil ?_
 refine J_cond (b := true) rfl (fun _ => ?_) (fun h => absurd h (by simp))
 obtain ⟨b5, o5, cap5, row5, T5, fr5, cs5, hv5, hb5, hs5, hE5⟩ := hl.get 1 (by first | assumption | omega | decide | simp)
 refine J_draw mixed #[0, 0, 2, 7, 15, 31, 0, 64, 255, 511] 8 7 0 rfl (by kernel_rfl) (fun i r4 N4 => match i with | 0 => (r4 0) = v | 1 => (r4 1) = .pointer (some ⟨b1, 1, none⟩) | 2 => (r4 2) = .int .i64 (1) | 3 => (r4 3) = .pointer (some ⟨b5, o5 + 1 * 1, none⟩) | 4 => (r4 4) = .string (ltr 1) | 5 => (r4 5) = .slice (some ⟨(sblk (r4 5)), 0, none⟩) 1 1 ∧ (N4 5) = [(sblk (r4 5), .cells ⟨List.flatten [[.string (ltr 1)]]⟩ 9 (0, 0))] ∧ Own 9 1 (.slice (some ⟨(sblk (r4 5)), 0, none⟩) 1 1) [[.string (ltr 1)]] (N4 5) | 6 => (r4 6) = .pointer (some ⟨b3, 1, none⟩) | 7 => (N4 7) = [(b3, .cells ⟨(pkT (1) (0) (zS) (.slice none 0 0) (.slice none 0 0)) ++ ([.slice none 0 0] : List Value)⟩ 79 (0, 0))] | _ => True) ⟨?_, ?_, ?_, ?_, ?_, ?_, ?_, ?_, trivial⟩ ?_
 ·intro ρ r4 N4 B hB hBa hp hr hr0
  have q1 : ρ 1 = v := hr0 1 (by kernel_rfl)
  obtain ⟨ρ6, rfl⟩ := reopen_ex (uc q1 un)
  clear q1
  refine JL_pure (v := v) rfl (Pu.move rfl) ?_
  refine JL_nil ?_
  exact ⟨v, [], rfl, (Sub.emp Sub.refl), rfl⟩
 ·intro ρ r4 N4 B hB hBa hp hr hr0
  have q2 : ρ 2 = .pointer (some ⟨b1, 0, none⟩) := hr0 2 (by kernel_rfl)
  obtain ⟨ρ7, rfl⟩ := reopen_ex (uc q2 un)
  clear q2
  refine JL_pure (v := .pointer (some ⟨b1, 1, none⟩)) rfl (fa30_1 rfl rfl) ?_
  refine JL_nil ?_
  exact ⟨.pointer (some ⟨b1, 1, none⟩), [], rfl, (Sub.emp Sub.refl), rfl⟩
 ·intro ρ r4 N4 B hB hBa hp hr hr0
  have q25 : ρ 25 = .pointer (some ⟨b1, 1, none⟩) := (hr 1 _ _ (by decide) rfl rfl rfl).trans (hp 1 (by decide) rfl)
  obtain ⟨ρ8, rfl⟩ := reopen_ex (uc q25 un)
  clear q25
  refine JL_run rfl (Pu_load1 ty3 rfl (At.bx 10 (made_old ((hB 2 (by decide)).trans rfl))) (pkT_1 ..) ?_)
  refine JL_nil ?_
  exact ⟨.int .i64 (1), [], rfl, (Sub.emp Sub.refl), rfl⟩
 ·intro ρ r4 N4 B hB hBa hp hr hr0
  have q24 : ρ 24 = v := (hr 0 _ _ (by decide) rfl rfl rfl).trans (hp 0 (by decide) rfl)
  have q26 : ρ 26 = .int .i64 (1) := (hr 2 _ _ (by decide) rfl rfl rfl).trans (hp 2 (by decide) rfl)
  obtain ⟨ρ9, rfl⟩ := reopen_ex (uc q24 (uc q26 un))
  clear q24 q26
  refine JL_pure (v := .pointer (some ⟨b5, o5 + 1 * 1, none⟩)) rfl (Pu.idx 1 Try.runUnderlying104 ty9 hv5 rfl rfl (by first | assumption | omega | decide | simp)) ?_
  refine JL_nil ?_
  exact ⟨.pointer (some ⟨b5, o5 + 1 * 1, none⟩), [], rfl, (Sub.emp Sub.refl), rfl⟩
 ·intro ρ r4 N4 B hB hBa hp hr hr0
  have q27 : ρ 27 = .pointer (some ⟨b5, o5 + 1 * 1, none⟩) := (hr 3 _ _ (by decide) rfl rfl rfl).trans (hp 3 (by decide) rfl)
  obtain ⟨ρ10, rfl⟩ := reopen_ex (uc q27 un)
  clear q27
  refine JL_run rfl (Pu_load1 ty9 rfl (At.im hb5) (sub_one ((show cs5 = [Value.string (ltr 1)] from hE5) ▸ hs5)) ?_)
  refine JL_nil ?_
  exact ⟨.string (ltr 1), [], rfl, (Sub.emp Sub.refl), rfl⟩
 ·intro ρ r4 N4 B hB hBa hp hr hr0
  have q28 : ρ 28 = .string (ltr 1) := (hr 4 _ _ (by decide) rfl rfl rfl).trans (hp 4 (by decide) rfl)
  obtain ⟨ρ11, rfl⟩ := reopen_ex (uc q28 un)
  clear q28
  refine JL_run rfl (Runs_buildSlice (vs := [.string (ltr 1)]) [[.string (ltr 1)]] Try.runUnderlying75 el9 rfl rfl (by intro e he; simp only [List.mem_cons, List.not_mem_nil, or_false] at he; subst he; exact rfl) rfl (by decide) fun b12 k12 ho12 hk12 => ?_)
  refine JL_nil ?_
  exact ⟨.slice (some ⟨b12, 0, none⟩) 1 1, k12, rfl, Sub.refl, ⟨rfl, hk12, ho12⟩⟩
 ·intro ρ r4 N4 B hB hBa hp hr hr0
  have q5 : ρ 5 = .pointer (some ⟨b3, 0, none⟩) := hr0 5 (by kernel_rfl)
  obtain ⟨ρ13, rfl⟩ := reopen_ex (uc q5 un)
  clear q5
  refine JL_pure (v := .pointer (some ⟨b3, 1, none⟩)) rfl (fa79_1 rfl rfl) ?_
  refine JL_nil ?_
  exact ⟨.pointer (some ⟨b3, 1, none⟩), [], rfl, (Sub.emp Sub.refl), rfl⟩
 ·intro ρ r4 N4 B hB hBa hp hr hr0
  have q30 : ρ 30 = .pointer (some ⟨b3, 1, none⟩) := (hr 6 _ _ (by decide) rfl rfl rfl).trans (hp 6 (by decide) rfl)
  obtain ⟨ρ14, rfl⟩ := reopen_ex (uc q30 un)
  clear q30
  obtain rfl := hBa rfl
  refine JL_run rfl (Runs_storeB 8 (vs := [.int .i64 (0)]) (l := (pkT (1) (0) (zS) (.slice none 0 0) (.slice none 0 0)) ++ ([.slice none 0 0] : List Value)) ty3 rfl rfl rfl rfl rfl (okc_cons rfl okc_nil) (spl_l (pkT_s1 ..)) ?_)
  refine JL_nil ?_
  exact ⟨undef, [(b3, .cells ⟨(pkT (1) (0) (zS) (.slice none 0 0) (.slice none 0 0)) ++ ([.slice none 0 0] : List Value)⟩ 79 (0, 0))], rfl, (Sub_setB (k := 8) (a := 7) (p := 0)), rfl⟩
 ·intro ρ r4 N4 hp hr hr0
  have p5 : (r4 5) = .slice (some ⟨(sblk (r4 5)), 0, none⟩) 1 1 ∧ (N4 5) = [(sblk (r4 5), .cells ⟨List.flatten [[.string (ltr 1)]]⟩ 9 (0, 0))] ∧ Own 9 1 (.slice (some ⟨(sblk (r4 5)), 0, none⟩) 1 1) [[.string (ltr 1)]] (N4 5) := hp 5 (by decide)
  have p7 : (N4 7) = [(b3, .cells ⟨(pkT (1) (0) (zS) (.slice none 0 0) (.slice none 0 0)) ++ ([.slice none 0 0] : List Value)⟩ 79 (0, 0))] := hp 7 (by decide)
  have q1 : ρ 1 = v := hr0 1 (by kernel_rfl)
  have q2 : ρ 2 = .pointer (some ⟨b1, 0, none⟩) := hr0 2 (by kernel_rfl)
  have q4 : ρ 4 = .pointer (some ⟨b2, 0, none⟩) := hr0 4 (by kernel_rfl)
  have q5 : ρ 5 = .pointer (some ⟨b3, 0, none⟩) := hr0 5 (by kernel_rfl)
  have q29 : ρ 29 = .slice (some ⟨(sblk (r4 5)), 0, none⟩) 1 1 := (hr 5 _ _ (by decide) rfl rfl).trans p5.1
  obtain ⟨ρ15, rfl⟩ := reopen_ex (uc q1 (uc q2 (uc q4 (uc q5 (uc q29 un)))))
  clear q1 q2 q4 q5 q29
  have p4_5 := p5; have p4_7 := p7
  clear hp hr hr0 p5 p7
  refine JL_sub (M' := [(N4 0), (N4 1), (N4 2), (N4 3), (N4 4), (N4 5), (N4 6), [], (N4 7), [(b2, .cells ⟨(pkT (0) (0) (zS) (.slice none 0 0) (.slice none 0 0)) ++ ([.slice none 0 0] : List Value)⟩ 79 (0, 0))], [(b1, .cells ⟨pkT (1) (1) (zS) (ks) (cv)⟩ 30 (0, 0))]]) Sub.refl ?_
  refine JL_sub (M' := [(N4 5), [(b3, .cells ⟨(pkT (1) (0) (zS) (.slice none 0 0) (.slice none 0 0)) ++ ([.slice none 0 0] : List Value)⟩ 79 (0, 0))], [(b2, .cells ⟨(pkT (0) (0) (zS) (.slice none 0 0) (.slice none 0 0)) ++ ([.slice none 0 0] : List Value)⟩ 79 (0, 0))], [(b1, .cells ⟨pkT (1) (1) (zS) (ks) (cv)⟩ 30 (0, 0))]]) (Sd (Sd (Sd (Sd (Sd (Sk (Sd (Sd (Se p4_7 (Sk (Sk Sub.nil))))))))))) ?_
  show JL _ _ _ [_, _] _ _ _
  refine JL_pure (v := .pointer (some ⟨b3, 34, none⟩)) rfl (fa79_3 rfl rfl) ?_
  refine JL_run rfl (Runs_storeB 1 (vs := [.slice (some ⟨(sblk (r4 5)), 0, none⟩) 1 1]) (l := (pkT (1) (0) (zS) (.slice (some ⟨(sblk (r4 5)), 0, none⟩) 1 1) (.slice none 0 0)) ++ ([.slice none 0 0] : List Value)) ty75 rfl rfl rfl rfl rfl (okc_cons rfl okc_nil) (spl_l (pkT_s34 ..)) ?_)
  refine JL_nil ?_
  refine J_seq ?_
  refine J_seq ?_
  refine J_region ?_
  refine JL_pure (v := .pointer (some ⟨b1, 34, none⟩)) rfl (fa30_3 rfl rfl) ?_
  refine JL_run rfl (Pu_load1 ty27 rfl (At.bx 3 rfl) (pkT_34 ..) ?_)
  obtain ⟨a16, cap16, hv16⟩ := hks.sl
  have hle16 := hks.le
  refine JL_pure (v := .int .i64 (0)) rfl (Pu.lenSl Try.runUnderlying27 hv16) ?_
  refine JL_pure (v := .int .i64 (0)) rfl (Pu.move rfl) ?_
  refine JL_nil ?_
  refine J_block ?_
  refine J_rounds 1 ?_
  refine JR_succ ?_
  refine J_seq ?_
  refine J_region ?_
  refine JL_pure (v := .bool (false)) rfl (show Pu _ _ _ (.bool (decide ((0 : Int) < 0))) from Pu.lss rfl rfl) ?_
  refine JL_nil ?_
  refine J_seq ?_
  refine J_cond (b := false) rfl (fun h => absurd h (by simp)) (fun _ => ?_)
  refine J_exit _ rfl ?_
  refine J_seq ?_
  refine J_seq ?_
  refine J_region ?_
  refine JL_pure (v := .pointer (some ⟨b1, 35, none⟩)) rfl (fa30_4 rfl rfl) ?_
  refine JL_run rfl (Pu_load1 ty28 rfl (At.bx 3 rfl) (pkT_35 ..) ?_)
  obtain ⟨a17, cap17, hv17⟩ := hcv.sl
  have hle17 := hcv.le
  refine JL_pure (v := .int .i64 (0)) rfl (Pu.lenSl Try.runUnderlying28 hv17) ?_
  refine JL_pure (v := .int .i64 (0)) rfl (Pu.move rfl) ?_
  refine JL_nil ?_
  refine J_block ?_
  refine J_rounds 1 ?_
  refine JR_succ ?_
  refine J_seq ?_
  refine J_region ?_
  refine JL_pure (v := .bool (false)) rfl (show Pu _ _ _ (.bool (decide ((0 : Int) < 0))) from Pu.lss rfl rfl) ?_
  refine JL_nil ?_
  refine J_seq ?_
  refine J_cond (b := false) rfl (fun h => absurd h (by simp)) (fun _ => ?_)
  refine J_exit _ rfl ?_
  refine J_seq ?_
  refine J_region ?_
  refine JL_run rfl (Pu_load ty79 rfl (At.bx 1 rfl) (sub_a rfl) ?_)
  refine JL_run rfl (Runs_storeB 2 (vs := (pkT (1) (0) (zS) (.slice (some ⟨(sblk (r4 5)), 0, none⟩) 1 1) (.slice none 0 0)) ++ ([.slice none 0 0] : List Value)) (l := (pkT (1) (0) (zS) (.slice (some ⟨(sblk (r4 5)), 0, none⟩) 1 1) (.slice none 0 0)) ++ ([.slice none 0 0] : List Value)) ty79 rfl rfl rfl rfl rfl (okc_app (pkT_ok rfl rfl) (okc_cons rfl okc_nil)) (spl_a (n := 37) rfl rfl) ?_)
  refine JL_nil ?_
  refine J_ret ?_
  refine ⟨.agg ⟨(pkT (1) (0) (zS) (.slice (some ⟨(sblk (r4 5)), 0, none⟩) 1 1) (.slice none 0 0)) ++ ([.slice none 0 0] : List Value)⟩, [[]], Ret.one rfl (RV.cell ty79 rfl (At.bx 2 rfl) (sub_a rfl)), (Sub.emp Sub.nil), ?_⟩
  exact ⟨_, _, rfl, rfl, rfl, (okc_app (pkT_ok rfl rfl) (okc_cons rfl okc_nil))⟩
set_option maxHeartbeats 1000000 in
theorem named1_ct : ∀ (cs : List Value) (v : Value) (H : Heap), RT H cs (Tm.mk 3 0 zS [Tm.mk 1 1 zS [] []] []) → rdS RS 1 H v [ltr 1, ltr 0] → CT Try.prog 54 ⟨[.agg ⟨cs⟩, v]⟩ [] H (fun v N => ∃ cs k, v = .agg ⟨cs⟩ ∧ N = [k] ∧ NC [[ltr 2]] cs k) := by
 intro cs v H ht hl
 obtain ⟨ks, cv, rfl, _, _, hks, hcv⟩ := RT_mk.1 ht
 refine CT_enter Try.func54 rfl rfl ?_
 refine J_seq ?_
 refine J_region ?_
 refine JL_run rfl (Runs_box (l := pkT (3) (0) (zS) (ks) (cv)) rfl rfl fun b1 => ?_)
 refine JL_run rfl (Runs_alloc (l := (pkT (0) (0) (zS) (.slice none 0 0) (.slice none 0 0)) ++ ([.slice none 0 0] : List Value)) Try.zeroValue79 rfl fun b2 => ?_)
 refine JL_nil ?_
 refine J_seq ?_
 refine J_region ?_
 refine JL_pure (v := .pointer (some ⟨b1, 0, none⟩)) rfl (fa30_0 rfl rfl) ?_
 refine JL_run rfl (Pu_load1 ty3 rfl (At.bx 1 rfl) (pkT_0 ..) ?_)
 refine JL_pure (v := .pointer (some ⟨b1, 1, none⟩)) rfl (fa30_1 rfl rfl) ?_
 refine JL_run rfl (Pu_load1 ty3 rfl (At.bx 1 rfl) (pkT_1 ..) ?_)
 refine JL_pure (v := .pointer (some ⟨b1, 2, none⟩)) rfl (fa30_2 rfl rfl) ?_
 refine JL_run rfl (Pu_load ty26 rfl (At.bx 1 rfl) (pkT_2 ..) ?_)
 refine JL_pure (v := .agg ⟨(pkT (3) (0) (zS) (.slice none 0 0) (.slice none 0 0)) ++ ([.slice none 0 0] : List Value)⟩) rfl (Pu.build (pv := [(0, .int .i64 (3)), (1, .int .i64 (0)), (2, .agg ⟨sC (zS)⟩)]) (l := (pkT (3) (0) (zS) (.slice none 0 0) (.slice none 0 0)) ++ ([.slice none 0 0] : List Value)) rfl (bld79_0_1_2 _ _ _)) ?_
 refine JL_run rfl (Runs_alloc (l := (pkT (0) (0) (zS) (.slice none 0 0) (.slice none 0 0)) ++ ([.slice none 0 0] : List Value)) Try.zeroValue79 rfl fun b3 => ?_)
 refine JL_run rfl (Runs_storeB 0 (vs := (pkT (3) (0) (zS) (.slice none 0 0) (.slice none 0 0)) ++ ([.slice none 0 0] : List Value)) (l := (pkT (3) (0) (zS) (.slice none 0 0) (.slice none 0 0)) ++ ([.slice none 0 0] : List Value)) ty79 rfl rfl rfl rfl rfl (okc_app (pkT_ok rfl rfl) (okc_cons rfl okc_nil)) (spl_a (n := 37) rfl rfl) ?_)
 refine JL_nil ?_
 refine J_seq ?_
 refine J_seq ?_
 refine J_region ?_
 refine JL_pure (v := .pointer (some ⟨b1, 0, none⟩)) rfl (fa30_0 rfl rfl) ?_
 refine JL_run rfl (Pu_load1 ty3 rfl (At.bx 2 rfl) (pkT_0 ..) ?_)
 refine JL_pure (v := .bool (false)) rfl (show Pu _ _ _ (.bool (decide ((3 : Int) = 1))) from Pu.eql rfl rfl) ?_
 refine JL_nil ?_
 refine J_cond (b := false) rfl (fun h => absurd h (by simp)) (fun _ => ?_)
 refine J_skip ?_
 refine J_seq ?_
 refine J_seq ?_
 refine J_region ?_
 refine JL_pure (v := .pointer (some ⟨b1, 34, none⟩)) rfl (fa30_3 rfl rfl) ?_
 refine JL_run rfl (Pu_load1 ty27 rfl (At.bx 2 rfl) (pkT_34 ..) ?_)
 obtain ⟨a4, cap4, hv4⟩ := hks.sl
 have hle4 := hks.le
 refine JL_pure (v := .int .i64 (1)) rfl (Pu.lenSl Try.runUnderlying27 hv4) ?_
 refine JL_pure (v := .int .i64 (0)) rfl (Pu.move rfl) ?_
 refine JL_nil ?_
 refine J_block ?_
 refine J_rounds 2 ?_
 refine JR_succ ?_
 refine J_seq ?_
 refine J_region ?_
 refine JL_pure (v := .bool (true)) rfl (show Pu _ _ _ (.bool (decide ((0 : Int) < 1))) from Pu.lss rfl rfl) ?_
 refine JL_nil ?_
 refine J_seq ?_
 refine J_cond (b := true) rfl (fun _ => ?_) (fun h => absurd h (by simp))
 refine J_skip ?_
 refine J_seq ?_
 refine J_block ?_
 refine J_seq ?_
 refine J_region ?_
 refine JL_pure (v := .int .i64 (0)) rfl (Pu.move rfl) ?_
 obtain ⟨b5, o5, cap5, row5, T5, fr5, cs5, hv5, hb5, hs5, hE5⟩ := hks.get 0 (by first | assumption | omega | decide | simp)
 refine JL_pure (v := .pointer (some ⟨b5, o5 + 0 * 36, none⟩)) rfl (Pu.idx 0 Try.runUnderlying27 ty30 hv5 rfl rfl (by first | assumption | omega | decide | simp)) ?_
 refine JL_run rfl (Pu_load ty30 rfl (At.im hb5) hs5 ?_)
 refine JL_run rfl (Runs_alloc (l := pkT (0) (0) (zS) (.slice none 0 0) (.slice none 0 0)) Try.zeroValue30 rfl fun b6 => ?_)
 refine JL_pure (v := .int .i64 (0)) rfl (Pu.assign rfl) ?_
 refine JL_run rfl (Runs_storeB 0 (vs := cs5) (l := cs5) ty30 rfl rfl rfl rfl (RT_len hE5) (RT_ok hE5) (spl_a (n := 36) rfl (RT_len hE5)) ?_)
 refine JL_nil ?_
 refine J_seq ?_
 refine J_region ?_
 refine JL_pure (v := v) rfl (Pu.move rfl) ?_
 refine JL_pure (v := .pointer (some ⟨b1, 0, none⟩)) rfl (fa30_0 rfl rfl) ?_
 refine JL_run rfl (Pu_load1 ty3 rfl (At.bx 3 rfl) (pkT_0 ..) ?_)
 refine JL_pure (v := .int .i64 (0)) rfl (Pu.move rfl) ?_
 refine JL_call rfl Try.call47 rfl (fun hin => int_r (r := 1) (more_ct _ _ _) (by decide)) rfl ?_
 rintro _ _ ⟨rfl, rfl⟩
 refine JL_call rfl Try.call79 rfl (fun hin => chosen2_ct _ _ (RSs.mono (Hle.hu _ _) hl)) rfl ?_
 rintro _ _ ⟨ua7, ub7, ka7, kb7, rfl, rfl, hoa7, hob7⟩
 refine JL_pure (v := .tuple ⟨[ua7, ub7]⟩) rfl (Pu.move rfl) ?_
 refine JL_pure (v := ua7) rfl (Pu.extract rfl rfl) ?_
 refine JL_pure (v := ub7) rfl (Pu.extract rfl rfl) ?_
 refine JL_pure (v := ua7) rfl (Pu.assign rfl) ?_
 refine JL_pure (v := ub7) rfl (Pu.assign rfl) ?_
 refine JL_nil ?_
 refine J_seq ?_
 refine J_region ?_
 refine JL_pure (v := .pointer (some ⟨b3, 34, none⟩)) rfl (fa79_3 rfl rfl) ?_
 refine JL_run rfl (Pu_load1 ty75 rfl (At.bx 3 rfl) (get_l (pkT_34 ..)) ?_)
 refine JL_pure (v := ub7) rfl (Pu.move rfl) ?_
 refine JL_sub (M' := [[], ka7, kb7, [(b6, .cells ⟨cs5⟩ 30 (0, 0))], [(b3, .cells ⟨(pkT (3) (0) (zS) (.slice none 0 0) (.slice none 0 0)) ++ ([.slice none 0 0] : List Value)⟩ 79 (0, 0))], [(b2, .cells ⟨(pkT (0) (0) (zS) (.slice none 0 0) (.slice none 0 0)) ++ ([.slice none 0 0] : List Value)⟩ 79 (0, 0))], [(b1, .cells ⟨pkT (3) (0) (zS) (ks) (cv)⟩ 30 (0, 0))]]) (Sub.emp Sub.refl) ?_
 refine JL_run rfl (Runs_append (i := 0) (n := ([ltr 2]).length) (es' := strs ([ltr 2])) Try.runUnderlying75 Try.runUnderlying75 (Or.inl rfl) el9 rfl rfl rfl (show Own _ _ _ (strs []) _ from Own.nil) (own_src (i := 2) hob7 rfl) (strs_len _) (strs_len1 _) (strs_ok _) (by decide) (by simp [strs]) fun v8 k8 ho8 => ?_)
 rw [← strs_app] at ho8
 refine JL_pure (v := .pointer (some ⟨b3, 34, none⟩)) rfl (fa79_3 rfl rfl) ?_
 refine JL_run rfl (Runs_storeB 4 (vs := [v8]) (l := (pkT (3) (0) (zS) (v8) (.slice none 0 0)) ++ ([.slice none 0 0] : List Value)) ty75 rfl rfl rfl (cells_one ho8.one) rfl (okc_cons ho8.one okc_nil) (spl_l (pkT_s34 ..)) ?_)
 refine JL_nil ?_
 refine J_draw mixed #[0, 1, 0, 0, 12, 28, 63, 127, 255] 6 6 7 rfl (by kernel_rfl) (fun i r9 N9 => match i with | 0 => (r9 0) = .pointer (some ⟨b3, 35, none⟩) | 1 => (r9 1) = .slice none 0 0 | 2 => (r9 2) = .agg ⟨cs5⟩ | 3 => (r9 3) = ua7 | 4 => (r9 4) = .agg ⟨(cel (r9 4))⟩ ∧ NC ([]) (cel (r9 4)) (N9 4) | 5 => (r9 5) = .slice (some ⟨(sblk (r9 5)), 0, none⟩) 1 1 ∧ (N9 5) = [(sblk (r9 5), .cells ⟨List.flatten [(cel (r9 4))]⟩ 79 (0, 0))] ∧ Own 79 37 (.slice (some ⟨(sblk (r9 5)), 0, none⟩) 1 1) [(cel (r9 4))] (N9 5) | _ => True) ⟨?_, ?_, ?_, ?_, ?_, ?_, trivial⟩ ?_
 ·intro ρ r9 N9 B hB hBa hp hr hr0
  have q5 : ρ 5 = .pointer (some ⟨b3, 0, none⟩) := hr0 5 (by kernel_rfl)
  obtain ⟨ρ10, rfl⟩ := reopen_ex (uc q5 un)
  clear q5
  refine JL_pure (v := .pointer (some ⟨b3, 35, none⟩)) rfl (fa79_4 rfl rfl) ?_
  refine JL_nil ?_
  exact ⟨.pointer (some ⟨b3, 35, none⟩), [], rfl, (Sub.emp Sub.refl), rfl⟩
 ·intro ρ r9 N9 B hB hBa hp hr hr0
  have q54 : ρ 54 = .pointer (some ⟨b3, 35, none⟩) := (hr 0 _ _ (by decide) rfl rfl rfl).trans (hp 0 (by decide) rfl)
  obtain ⟨ρ11, rfl⟩ := reopen_ex (uc q54 un)
  clear q54
  refine JL_run rfl (Pu_load1 ty76 rfl (At.bx 10 (made_old ((hB 4 (by decide)).trans rfl))) (get_l (pkT_35 ..)) ?_)
  refine JL_nil ?_
  exact ⟨.slice none 0 0, [], rfl, (Sub.emp Sub.refl), rfl⟩
 ·intro ρ r9 N9 B hB hBa hp hr hr0
  have q7 : ρ 7 = .pointer (some ⟨b6, 0, none⟩) := hr0 7 (by kernel_rfl)
  obtain ⟨ρ12, rfl⟩ := reopen_ex (uc q7 un)
  clear q7
  refine JL_run rfl (Pu_load ty30 rfl (At.bx 9 (made_old ((hB 3 (by decide)).trans rfl))) (sub_a (RT_len hE5)) ?_)
  refine JL_nil ?_
  exact ⟨.agg ⟨cs5⟩, [], rfl, (Sub.emp Sub.refl), rfl⟩
 ·intro ρ r9 N9 B hB hBa hp hr hr0
  have q8 : ρ 8 = ua7 := hr0 8 (by kernel_rfl)
  obtain ⟨ρ13, rfl⟩ := reopen_ex (uc q8 un)
  clear q8
  refine JL_pure (v := ua7) rfl (Pu.move rfl) ?_
  refine JL_nil ?_
  exact ⟨ua7, [], rfl, (Sub.emp Sub.refl), rfl⟩
 ·intro ρ r9 N9 B hB hBa hp hr hr0
  have q56 : ρ 56 = .agg ⟨cs5⟩ := (hr 2 _ _ (by decide) rfl rfl rfl).trans (hp 2 (by decide) rfl)
  have q57 : ρ 57 = ua7 := (hr 3 _ _ (by decide) rfl rfl rfl).trans (hp 3 (by decide) rfl)
  obtain ⟨ρ14, rfl⟩ := reopen_ex (uc q56 (uc q57 un))
  clear q56 q57
  refine JL_call rfl Try.call54 rfl (fun hin => named_va _ _ _ (RT.mono (Hle.hu _ _) hE5) (own_strs hoa7 (by simp) (hin 7 _ (made_old ((hB 1 (by decide)).trans rfl))))) rfl ?_
  rintro _ _ ⟨cs15, k15, rfl, rfl, hO15⟩
  refine JL_nil ?_
  exact ⟨.agg ⟨cs15⟩, k15, rfl, Sub.refl, ⟨rfl, hO15⟩⟩
 ·intro ρ r9 N9 B hB hBa hp hr hr0
  have p4 : (r9 4) = .agg ⟨(cel (r9 4))⟩ ∧ NC ([]) (cel (r9 4)) (N9 4) := hp 4 (by decide) rfl
  have q58 : ρ 58 = .agg ⟨(cel (r9 4))⟩ := (hr 4 _ _ (by decide) rfl rfl rfl).trans p4.1
  obtain ⟨ρ16, rfl⟩ := reopen_ex (uc q58 un)
  clear q58
  refine JL_run rfl (Runs_buildSlice (vs := [.agg ⟨(cel (r9 4))⟩]) [(cel (r9 4))] Try.runUnderlying76 el79 rfl rfl (by intro e he; simp only [List.mem_cons, List.not_mem_nil, or_false] at he; subst he; exact p4.2.len) rfl (by decide) fun b17 k17 ho17 hk17 => ?_)
  refine JL_nil ?_
  exact ⟨.slice (some ⟨b17, 0, none⟩) 1 1, k17, rfl, Sub.refl, ⟨rfl, hk17, ho17⟩⟩
 ·intro ρ r9 N9 hp hr hr0
  have p4 : (r9 4) = .agg ⟨(cel (r9 4))⟩ ∧ NC ([]) (cel (r9 4)) (N9 4) := hp 4 (by decide)
  have p5 : (r9 5) = .slice (some ⟨(sblk (r9 5)), 0, none⟩) 1 1 ∧ (N9 5) = [(sblk (r9 5), .cells ⟨List.flatten [(cel (r9 4))]⟩ 79 (0, 0))] ∧ Own 79 37 (.slice (some ⟨(sblk (r9 5)), 0, none⟩) 1 1) [(cel (r9 4))] (N9 5) := hp 5 (by decide)
  have q1 : ρ 1 = v := hr0 1 (by kernel_rfl)
  have q2 : ρ 2 = .pointer (some ⟨b1, 0, none⟩) := hr0 2 (by kernel_rfl)
  have q4 : ρ 4 = .pointer (some ⟨b2, 0, none⟩) := hr0 4 (by kernel_rfl)
  have q5 : ρ 5 = .pointer (some ⟨b3, 0, none⟩) := hr0 5 (by kernel_rfl)
  have q33 : ρ 33 = ks := hr0 33 (by kernel_rfl)
  have q34 : ρ 34 = .int .i64 (1) := hr0 34 (by kernel_rfl)
  have q35 : ρ 35 = .int .i64 (0) := hr0 35 (by kernel_rfl)
  have q55 : ρ 55 = .slice none 0 0 := (hr 1 _ _ (by decide) rfl rfl).trans (hp 1 (by decide))
  have q59 : ρ 59 = .slice (some ⟨(sblk (r9 5)), 0, none⟩) 1 1 := (hr 5 _ _ (by decide) rfl rfl).trans p5.1
  obtain ⟨ρ18, rfl⟩ := reopen_ex (uc q1 (uc q2 (uc q4 (uc q5 (uc q33 (uc q34 (uc q35 (uc q55 (uc q59 un)))))))))
  clear q1 q2 q4 q5 q33 q34 q35 q55 q59
  have p9_4 := p4; have p9_5 := p5
  clear hp hr hr0 p4 p5
  refine JL_sub (M' := [(N9 0), (N9 1), (N9 2), (N9 3), (N9 4), (N9 5), k8, ka7, kb7, [(b6, .cells ⟨cs5⟩ 30 (0, 0))], [(b3, .cells ⟨(pkT (3) (0) (zS) (v8) (.slice none 0 0)) ++ ([.slice none 0 0] : List Value)⟩ 79 (0, 0))], [(b2, .cells ⟨(pkT (0) (0) (zS) (.slice none 0 0) (.slice none 0 0)) ++ ([.slice none 0 0] : List Value)⟩ 79 (0, 0))], [(b1, .cells ⟨pkT (3) (0) (zS) (ks) (cv)⟩ 30 (0, 0))]]) Sub.refl ?_
  refine JL_sub (M' := [(N9 4), (N9 5), k8, ka7, kb7, [(b6, .cells ⟨cs5⟩ 30 (0, 0))], [(b3, .cells ⟨(pkT (3) (0) (zS) (v8) (.slice none 0 0)) ++ ([.slice none 0 0] : List Value)⟩ 79 (0, 0))], [(b2, .cells ⟨(pkT (0) (0) (zS) (.slice none 0 0) (.slice none 0 0)) ++ ([.slice none 0 0] : List Value)⟩ 79 (0, 0))], [(b1, .cells ⟨pkT (3) (0) (zS) (ks) (cv)⟩ 30 (0, 0))]]) (Sd (Sd (Sd (Sd (Sk (Sk (Sk (Sk (Sk (Sk (Sk (Sk (Sk Sub.nil))))))))))))) ?_
  show JL _ _ _ [_, _, _] _ _ _
  refine JL_sub (M' := [[], (N9 4), (N9 5), k8, ka7, kb7, [(b6, .cells ⟨cs5⟩ 30 (0, 0))], [(b3, .cells ⟨(pkT (3) (0) (zS) (v8) (.slice none 0 0)) ++ ([.slice none 0 0] : List Value)⟩ 79 (0, 0))], [(b2, .cells ⟨(pkT (0) (0) (zS) (.slice none 0 0) (.slice none 0 0)) ++ ([.slice none 0 0] : List Value)⟩ 79 (0, 0))], [(b1, .cells ⟨pkT (3) (0) (zS) (ks) (cv)⟩ 30 (0, 0))]]) (Sub.emp Sub.refl) ?_
  have hlens19 : ∀ e ∈ ([(cel (r9 4))] : List (List Value)), List.length e = 37 := by
   intro e he; simp only [List.mem_cons, List.not_mem_nil, or_false] at he
   rcases he with rfl
   ·exact p9_4.2.len
  have hoks19 : ∀ e ∈ ([(cel (r9 4))] : List (List Value)), okc e := by
   intro e he; simp only [List.mem_cons, List.not_mem_nil, or_false] at he
   rcases he with rfl
   ·exact p9_4.2.ok
  refine JL_run rfl (Runs_append (i := 0) (n := 1) (es' := [(cel (r9 4))]) Try.runUnderlying76 Try.runUnderlying76 (Or.inl rfl) el79 rfl rfl rfl Own.nil (fun F w m => Src.row (((At.k 2 rfl (by rw [p9_5.2.1]; exact List.mem_cons_self))).heap m) (sub_a (flatten_len hlens19))) rfl hlens19 hoks19 (by decide) (by simp [strs]) fun v19 k19 ho19 => ?_)
  refine JL_pure (v := .pointer (some ⟨b3, 35, none⟩)) rfl (fa79_4 rfl rfl) ?_
  refine JL_run rfl (Runs_storeB 7 (vs := [v19]) (l := (pkT (3) (0) (zS) (v8) (v19)) ++ ([.slice none 0 0] : List Value)) ty76 rfl rfl rfl (cells_one ho19.one) rfl (okc_cons ho19.one okc_nil) (spl_l (pkT_s35 ..)) ?_)
  refine JL_nil ?_
  refine J_region ?_
  refine JL_pure (v := .int .i64 (1)) rfl (Pu.arith rfl rfl rfl) ?_
  refine JL_pure (v := .int .i64 (1)) rfl (Pu.move rfl) ?_
  refine JL_nil ?_
  refine JR_succ ?_
  refine J_seq ?_
  refine J_region ?_
  refine JL_pure (v := .bool (false)) rfl (show Pu _ _ _ (.bool (decide ((1 : Int) < 1))) from Pu.lss rfl rfl) ?_
  refine JL_nil ?_
  refine J_seq ?_
  refine J_cond (b := false) rfl (fun h => absurd h (by simp)) (fun _ => ?_)
  refine J_exit _ rfl ?_
  refine J_seq ?_
  refine J_seq ?_
  refine J_region ?_
  refine JL_pure (v := .pointer (some ⟨b1, 35, none⟩)) rfl (fa30_4 rfl rfl) ?_
  refine JL_run rfl (Pu_load1 ty28 rfl (At.bx 9 rfl) (pkT_35 ..) ?_)
  obtain ⟨a20, cap20, hv20⟩ := hcv.sl
  have hle20 := hcv.le
  refine JL_pure (v := .int .i64 (0)) rfl (Pu.lenSl Try.runUnderlying28 hv20) ?_
  refine JL_pure (v := .int .i64 (0)) rfl (Pu.move rfl) ?_
  refine JL_nil ?_
  refine J_block ?_
  refine J_rounds 1 ?_
  refine JR_succ ?_
  refine J_seq ?_
  refine J_region ?_
  refine JL_pure (v := .bool (false)) rfl (show Pu _ _ _ (.bool (decide ((0 : Int) < 0))) from Pu.lss rfl rfl) ?_
  refine JL_nil ?_
  refine J_seq ?_
  refine J_cond (b := false) rfl (fun h => absurd h (by simp)) (fun _ => ?_)
  refine J_exit _ rfl ?_
  refine J_seq ?_
  refine J_region ?_
  refine JL_run rfl (Pu_load ty79 rfl (At.bx 7 rfl) (sub_a rfl) ?_)
  refine JL_run rfl (Runs_storeB 8 (vs := (pkT (3) (0) (zS) (v8) (v19)) ++ ([.slice none 0 0] : List Value)) (l := (pkT (3) (0) (zS) (v8) (v19)) ++ ([.slice none 0 0] : List Value)) ty79 rfl rfl rfl rfl rfl (okc_app (pkT_ok ho8.one ho19.one) (okc_cons rfl okc_nil)) (spl_a (n := 37) rfl rfl) ?_)
  refine JL_nil ?_
  refine J_ret ?_
  refine ⟨.agg ⟨(pkT (3) (0) (zS) (v8) (v19)) ++ ([.slice none 0 0] : List Value)⟩, [(k8) ++ ((k19) ++ ((N9 4)))], Ret.one rfl (RV.cell ty79 rfl (At.bx 8 rfl) (sub_a rfl)), (Sub.join3 (Sub.cons 3 rfl (Sk (Sk Sub.nil)))), ?_⟩
  exact ⟨_, _, rfl, rfl, ⟨_, _, _, _, _, _, _, _, _, _, rfl, rfl, ho8, ho19, p9_4.2, rfl⟩⟩
set_option maxHeartbeats 1000000 in
theorem named0_ct : ∀ (cs : List Value) (v : Value) (H : Heap), RT H cs (Tm.mk 3 0 zS [(Tm.mk 3 0 zS [Tm.mk 1 1 zS [] []] [])] []) → rdS RS 1 H v [ltr 0] → CT Try.prog 54 ⟨[.agg ⟨cs⟩, v]⟩ [] H (fun v N => ∃ cs k, v = .agg ⟨cs⟩ ∧ N = [k] ∧ NC [[ltr 1], [ltr 2]] cs k) := by
 intro cs v H ht hl
 obtain ⟨ks, cv, rfl, _, _, hks, hcv⟩ := RT_mk.1 ht
 refine CT_enter Try.func54 rfl rfl ?_
 refine J_seq ?_
 refine J_region ?_
 refine JL_run rfl (Runs_box (l := pkT (3) (0) (zS) (ks) (cv)) rfl rfl fun b1 => ?_)
 refine JL_run rfl (Runs_alloc (l := (pkT (0) (0) (zS) (.slice none 0 0) (.slice none 0 0)) ++ ([.slice none 0 0] : List Value)) Try.zeroValue79 rfl fun b2 => ?_)
 refine JL_nil ?_
 refine J_seq ?_
 refine J_region ?_
 refine JL_pure (v := .pointer (some ⟨b1, 0, none⟩)) rfl (fa30_0 rfl rfl) ?_
 refine JL_run rfl (Pu_load1 ty3 rfl (At.bx 1 rfl) (pkT_0 ..) ?_)
 refine JL_pure (v := .pointer (some ⟨b1, 1, none⟩)) rfl (fa30_1 rfl rfl) ?_
 refine JL_run rfl (Pu_load1 ty3 rfl (At.bx 1 rfl) (pkT_1 ..) ?_)
 refine JL_pure (v := .pointer (some ⟨b1, 2, none⟩)) rfl (fa30_2 rfl rfl) ?_
 refine JL_run rfl (Pu_load ty26 rfl (At.bx 1 rfl) (pkT_2 ..) ?_)
 refine JL_pure (v := .agg ⟨(pkT (3) (0) (zS) (.slice none 0 0) (.slice none 0 0)) ++ ([.slice none 0 0] : List Value)⟩) rfl (Pu.build (pv := [(0, .int .i64 (3)), (1, .int .i64 (0)), (2, .agg ⟨sC (zS)⟩)]) (l := (pkT (3) (0) (zS) (.slice none 0 0) (.slice none 0 0)) ++ ([.slice none 0 0] : List Value)) rfl (bld79_0_1_2 _ _ _)) ?_
 refine JL_run rfl (Runs_alloc (l := (pkT (0) (0) (zS) (.slice none 0 0) (.slice none 0 0)) ++ ([.slice none 0 0] : List Value)) Try.zeroValue79 rfl fun b3 => ?_)
 refine JL_run rfl (Runs_storeB 0 (vs := (pkT (3) (0) (zS) (.slice none 0 0) (.slice none 0 0)) ++ ([.slice none 0 0] : List Value)) (l := (pkT (3) (0) (zS) (.slice none 0 0) (.slice none 0 0)) ++ ([.slice none 0 0] : List Value)) ty79 rfl rfl rfl rfl rfl (okc_app (pkT_ok rfl rfl) (okc_cons rfl okc_nil)) (spl_a (n := 37) rfl rfl) ?_)
 refine JL_nil ?_
 refine J_seq ?_
 refine J_seq ?_
 refine J_region ?_
 refine JL_pure (v := .pointer (some ⟨b1, 0, none⟩)) rfl (fa30_0 rfl rfl) ?_
 refine JL_run rfl (Pu_load1 ty3 rfl (At.bx 2 rfl) (pkT_0 ..) ?_)
 refine JL_pure (v := .bool (false)) rfl (show Pu _ _ _ (.bool (decide ((3 : Int) = 1))) from Pu.eql rfl rfl) ?_
 refine JL_nil ?_
 refine J_cond (b := false) rfl (fun h => absurd h (by simp)) (fun _ => ?_)
 refine J_skip ?_
 refine J_seq ?_
 refine J_seq ?_
 refine J_region ?_
 refine JL_pure (v := .pointer (some ⟨b1, 34, none⟩)) rfl (fa30_3 rfl rfl) ?_
 refine JL_run rfl (Pu_load1 ty27 rfl (At.bx 2 rfl) (pkT_34 ..) ?_)
 obtain ⟨a4, cap4, hv4⟩ := hks.sl
 have hle4 := hks.le
 refine JL_pure (v := .int .i64 (1)) rfl (Pu.lenSl Try.runUnderlying27 hv4) ?_
 refine JL_pure (v := .int .i64 (0)) rfl (Pu.move rfl) ?_
 refine JL_nil ?_
 refine J_block ?_
 refine J_rounds 2 ?_
 refine JR_succ ?_
 refine J_seq ?_
 refine J_region ?_
 refine JL_pure (v := .bool (true)) rfl (show Pu _ _ _ (.bool (decide ((0 : Int) < 1))) from Pu.lss rfl rfl) ?_
 refine JL_nil ?_
 refine J_seq ?_
 refine J_cond (b := true) rfl (fun _ => ?_) (fun h => absurd h (by simp))
 refine J_skip ?_
 refine J_seq ?_
 refine J_block ?_
 refine J_seq ?_
 refine J_region ?_
 refine JL_pure (v := .int .i64 (0)) rfl (Pu.move rfl) ?_
 obtain ⟨b5, o5, cap5, row5, T5, fr5, cs5, hv5, hb5, hs5, hE5⟩ := hks.get 0 (by first | assumption | omega | decide | simp)
 refine JL_pure (v := .pointer (some ⟨b5, o5 + 0 * 36, none⟩)) rfl (Pu.idx 0 Try.runUnderlying27 ty30 hv5 rfl rfl (by first | assumption | omega | decide | simp)) ?_
 refine JL_run rfl (Pu_load ty30 rfl (At.im hb5) hs5 ?_)
 refine JL_run rfl (Runs_alloc (l := pkT (0) (0) (zS) (.slice none 0 0) (.slice none 0 0)) Try.zeroValue30 rfl fun b6 => ?_)
 refine JL_pure (v := .int .i64 (0)) rfl (Pu.assign rfl) ?_
 refine JL_run rfl (Runs_storeB 0 (vs := cs5) (l := cs5) ty30 rfl rfl rfl rfl (RT_len hE5) (RT_ok hE5) (spl_a (n := 36) rfl (RT_len hE5)) ?_)
 refine JL_nil ?_
 refine J_seq ?_
 refine J_region ?_
 refine JL_pure (v := v) rfl (Pu.move rfl) ?_
 refine JL_pure (v := .pointer (some ⟨b1, 0, none⟩)) rfl (fa30_0 rfl rfl) ?_
 refine JL_run rfl (Pu_load1 ty3 rfl (At.bx 3 rfl) (pkT_0 ..) ?_)
 refine JL_pure (v := .int .i64 (0)) rfl (Pu.move rfl) ?_
 refine JL_call rfl Try.call47 rfl (fun hin => int_r (r := 1) (more_ct _ _ _) (by decide)) rfl ?_
 rintro _ _ ⟨rfl, rfl⟩
 refine JL_call rfl Try.call79 rfl (fun hin => chosen1_ct _ _ (RSs.mono (Hle.hu _ _) hl)) rfl ?_
 rintro _ _ ⟨ua7, ub7, ka7, kb7, rfl, rfl, hoa7, hob7⟩
 refine JL_pure (v := .tuple ⟨[ua7, ub7]⟩) rfl (Pu.move rfl) ?_
 refine JL_pure (v := ua7) rfl (Pu.extract rfl rfl) ?_
 refine JL_pure (v := ub7) rfl (Pu.extract rfl rfl) ?_
 refine JL_pure (v := ua7) rfl (Pu.assign rfl) ?_
 refine JL_pure (v := ub7) rfl (Pu.assign rfl) ?_
 refine JL_nil ?_
 refine J_seq ?_
 refine J_region ?_
 refine JL_pure (v := .pointer (some ⟨b3, 34, none⟩)) rfl (fa79_3 rfl rfl) ?_
 refine JL_run rfl (Pu_load1 ty75 rfl (At.bx 3 rfl) (get_l (pkT_34 ..)) ?_)
 refine JL_pure (v := ub7) rfl (Pu.move rfl) ?_
 refine JL_sub (M' := [[], ka7, kb7, [(b6, .cells ⟨cs5⟩ 30 (0, 0))], [(b3, .cells ⟨(pkT (3) (0) (zS) (.slice none 0 0) (.slice none 0 0)) ++ ([.slice none 0 0] : List Value)⟩ 79 (0, 0))], [(b2, .cells ⟨(pkT (0) (0) (zS) (.slice none 0 0) (.slice none 0 0)) ++ ([.slice none 0 0] : List Value)⟩ 79 (0, 0))], [(b1, .cells ⟨pkT (3) (0) (zS) (ks) (cv)⟩ 30 (0, 0))]]) (Sub.emp Sub.refl) ?_
 refine JL_run rfl (Runs_append (i := 0) (n := ([ltr 1]).length) (es' := strs ([ltr 1])) Try.runUnderlying75 Try.runUnderlying75 (Or.inl rfl) el9 rfl rfl rfl (show Own _ _ _ (strs []) _ from Own.nil) (own_src (i := 2) hob7 rfl) (strs_len _) (strs_len1 _) (strs_ok _) (by decide) (by simp [strs]) fun v8 k8 ho8 => ?_)
 rw [← strs_app] at ho8
 refine JL_pure (v := .pointer (some ⟨b3, 34, none⟩)) rfl (fa79_3 rfl rfl) ?_
 refine JL_run rfl (Runs_storeB 4 (vs := [v8]) (l := (pkT (3) (0) (zS) (v8) (.slice none 0 0)) ++ ([.slice none 0 0] : List Value)) ty75 rfl rfl rfl (cells_one ho8.one) rfl (okc_cons ho8.one okc_nil) (spl_l (pkT_s34 ..)) ?_)
 refine JL_nil ?_
 refine J_draw mixed #[0, 1, 0, 0, 12, 28, 63, 127, 255] 6 6 7 rfl (by kernel_rfl) (fun i r9 N9 => match i with | 0 => (r9 0) = .pointer (some ⟨b3, 35, none⟩) | 1 => (r9 1) = .slice none 0 0 | 2 => (r9 2) = .agg ⟨cs5⟩ | 3 => (r9 3) = ua7 | 4 => (r9 4) = .agg ⟨(cel (r9 4))⟩ ∧ NC ([[ltr 2]]) (cel (r9 4)) (N9 4) | 5 => (r9 5) = .slice (some ⟨(sblk (r9 5)), 0, none⟩) 1 1 ∧ (N9 5) = [(sblk (r9 5), .cells ⟨List.flatten [(cel (r9 4))]⟩ 79 (0, 0))] ∧ Own 79 37 (.slice (some ⟨(sblk (r9 5)), 0, none⟩) 1 1) [(cel (r9 4))] (N9 5) | _ => True) ⟨?_, ?_, ?_, ?_, ?_, ?_, trivial⟩ ?_
 ·intro ρ r9 N9 B hB hBa hp hr hr0
  have q5 : ρ 5 = .pointer (some ⟨b3, 0, none⟩) := hr0 5 (by kernel_rfl)
  obtain ⟨ρ10, rfl⟩ := reopen_ex (uc q5 un)
  clear q5
  refine JL_pure (v := .pointer (some ⟨b3, 35, none⟩)) rfl (fa79_4 rfl rfl) ?_
  refine JL_nil ?_
  exact ⟨.pointer (some ⟨b3, 35, none⟩), [], rfl, (Sub.emp Sub.refl), rfl⟩
 ·intro ρ r9 N9 B hB hBa hp hr hr0
  have q54 : ρ 54 = .pointer (some ⟨b3, 35, none⟩) := (hr 0 _ _ (by decide) rfl rfl rfl).trans (hp 0 (by decide) rfl)
  obtain ⟨ρ11, rfl⟩ := reopen_ex (uc q54 un)
  clear q54
  refine JL_run rfl (Pu_load1 ty76 rfl (At.bx 10 (made_old ((hB 4 (by decide)).trans rfl))) (get_l (pkT_35 ..)) ?_)
  refine JL_nil ?_
  exact ⟨.slice none 0 0, [], rfl, (Sub.emp Sub.refl), rfl⟩
 ·intro ρ r9 N9 B hB hBa hp hr hr0
  have q7 : ρ 7 = .pointer (some ⟨b6, 0, none⟩) := hr0 7 (by kernel_rfl)
  obtain ⟨ρ12, rfl⟩ := reopen_ex (uc q7 un)
  clear q7
  refine JL_run rfl (Pu_load ty30 rfl (At.bx 9 (made_old ((hB 3 (by decide)).trans rfl))) (sub_a (RT_len hE5)) ?_)
  refine JL_nil ?_
  exact ⟨.agg ⟨cs5⟩, [], rfl, (Sub.emp Sub.refl), rfl⟩
 ·intro ρ r9 N9 B hB hBa hp hr hr0
  have q8 : ρ 8 = ua7 := hr0 8 (by kernel_rfl)
  obtain ⟨ρ13, rfl⟩ := reopen_ex (uc q8 un)
  clear q8
  refine JL_pure (v := ua7) rfl (Pu.move rfl) ?_
  refine JL_nil ?_
  exact ⟨ua7, [], rfl, (Sub.emp Sub.refl), rfl⟩
 ·intro ρ r9 N9 B hB hBa hp hr hr0
  have q56 : ρ 56 = .agg ⟨cs5⟩ := (hr 2 _ _ (by decide) rfl rfl rfl).trans (hp 2 (by decide) rfl)
  have q57 : ρ 57 = ua7 := (hr 3 _ _ (by decide) rfl rfl rfl).trans (hp 3 (by decide) rfl)
  obtain ⟨ρ14, rfl⟩ := reopen_ex (uc q56 (uc q57 un))
  clear q56 q57
  refine JL_call rfl Try.call54 rfl (fun hin => named1_ct _ _ _ (RT.mono (Hle.hu _ _) hE5) (own_strs hoa7 (by simp) (hin 7 _ (made_old ((hB 1 (by decide)).trans rfl))))) rfl ?_
  rintro _ _ ⟨cs15, k15, rfl, rfl, hO15⟩
  refine JL_nil ?_
  exact ⟨.agg ⟨cs15⟩, k15, rfl, Sub.refl, ⟨rfl, hO15⟩⟩
 ·intro ρ r9 N9 B hB hBa hp hr hr0
  have p4 : (r9 4) = .agg ⟨(cel (r9 4))⟩ ∧ NC ([[ltr 2]]) (cel (r9 4)) (N9 4) := hp 4 (by decide) rfl
  have q58 : ρ 58 = .agg ⟨(cel (r9 4))⟩ := (hr 4 _ _ (by decide) rfl rfl rfl).trans p4.1
  obtain ⟨ρ16, rfl⟩ := reopen_ex (uc q58 un)
  clear q58
  refine JL_run rfl (Runs_buildSlice (vs := [.agg ⟨(cel (r9 4))⟩]) [(cel (r9 4))] Try.runUnderlying76 el79 rfl rfl (by intro e he; simp only [List.mem_cons, List.not_mem_nil, or_false] at he; subst he; exact p4.2.len) rfl (by decide) fun b17 k17 ho17 hk17 => ?_)
  refine JL_nil ?_
  exact ⟨.slice (some ⟨b17, 0, none⟩) 1 1, k17, rfl, Sub.refl, ⟨rfl, hk17, ho17⟩⟩
 ·intro ρ r9 N9 hp hr hr0
  have p4 : (r9 4) = .agg ⟨(cel (r9 4))⟩ ∧ NC ([[ltr 2]]) (cel (r9 4)) (N9 4) := hp 4 (by decide)
  have p5 : (r9 5) = .slice (some ⟨(sblk (r9 5)), 0, none⟩) 1 1 ∧ (N9 5) = [(sblk (r9 5), .cells ⟨List.flatten [(cel (r9 4))]⟩ 79 (0, 0))] ∧ Own 79 37 (.slice (some ⟨(sblk (r9 5)), 0, none⟩) 1 1) [(cel (r9 4))] (N9 5) := hp 5 (by decide)
  have q1 : ρ 1 = v := hr0 1 (by kernel_rfl)
  have q2 : ρ 2 = .pointer (some ⟨b1, 0, none⟩) := hr0 2 (by kernel_rfl)
  have q4 : ρ 4 = .pointer (some ⟨b2, 0, none⟩) := hr0 4 (by kernel_rfl)
  have q5 : ρ 5 = .pointer (some ⟨b3, 0, none⟩) := hr0 5 (by kernel_rfl)
  have q33 : ρ 33 = ks := hr0 33 (by kernel_rfl)
  have q34 : ρ 34 = .int .i64 (1) := hr0 34 (by kernel_rfl)
  have q35 : ρ 35 = .int .i64 (0) := hr0 35 (by kernel_rfl)
  have q55 : ρ 55 = .slice none 0 0 := (hr 1 _ _ (by decide) rfl rfl).trans (hp 1 (by decide))
  have q59 : ρ 59 = .slice (some ⟨(sblk (r9 5)), 0, none⟩) 1 1 := (hr 5 _ _ (by decide) rfl rfl).trans p5.1
  obtain ⟨ρ18, rfl⟩ := reopen_ex (uc q1 (uc q2 (uc q4 (uc q5 (uc q33 (uc q34 (uc q35 (uc q55 (uc q59 un)))))))))
  clear q1 q2 q4 q5 q33 q34 q35 q55 q59
  have p9_4 := p4; have p9_5 := p5
  clear hp hr hr0 p4 p5
  refine JL_sub (M' := [(N9 0), (N9 1), (N9 2), (N9 3), (N9 4), (N9 5), k8, ka7, kb7, [(b6, .cells ⟨cs5⟩ 30 (0, 0))], [(b3, .cells ⟨(pkT (3) (0) (zS) (v8) (.slice none 0 0)) ++ ([.slice none 0 0] : List Value)⟩ 79 (0, 0))], [(b2, .cells ⟨(pkT (0) (0) (zS) (.slice none 0 0) (.slice none 0 0)) ++ ([.slice none 0 0] : List Value)⟩ 79 (0, 0))], [(b1, .cells ⟨pkT (3) (0) (zS) (ks) (cv)⟩ 30 (0, 0))]]) Sub.refl ?_
  refine JL_sub (M' := [(N9 4), (N9 5), k8, ka7, kb7, [(b6, .cells ⟨cs5⟩ 30 (0, 0))], [(b3, .cells ⟨(pkT (3) (0) (zS) (v8) (.slice none 0 0)) ++ ([.slice none 0 0] : List Value)⟩ 79 (0, 0))], [(b2, .cells ⟨(pkT (0) (0) (zS) (.slice none 0 0) (.slice none 0 0)) ++ ([.slice none 0 0] : List Value)⟩ 79 (0, 0))], [(b1, .cells ⟨pkT (3) (0) (zS) (ks) (cv)⟩ 30 (0, 0))]]) (Sd (Sd (Sd (Sd (Sk (Sk (Sk (Sk (Sk (Sk (Sk (Sk (Sk Sub.nil))))))))))))) ?_
  show JL _ _ _ [_, _, _] _ _ _
  refine JL_sub (M' := [[], (N9 4), (N9 5), k8, ka7, kb7, [(b6, .cells ⟨cs5⟩ 30 (0, 0))], [(b3, .cells ⟨(pkT (3) (0) (zS) (v8) (.slice none 0 0)) ++ ([.slice none 0 0] : List Value)⟩ 79 (0, 0))], [(b2, .cells ⟨(pkT (0) (0) (zS) (.slice none 0 0) (.slice none 0 0)) ++ ([.slice none 0 0] : List Value)⟩ 79 (0, 0))], [(b1, .cells ⟨pkT (3) (0) (zS) (ks) (cv)⟩ 30 (0, 0))]]) (Sub.emp Sub.refl) ?_
  have hlens19 : ∀ e ∈ ([(cel (r9 4))] : List (List Value)), List.length e = 37 := by
   intro e he; simp only [List.mem_cons, List.not_mem_nil, or_false] at he
   rcases he with rfl
   ·exact p9_4.2.len
  have hoks19 : ∀ e ∈ ([(cel (r9 4))] : List (List Value)), okc e := by
   intro e he; simp only [List.mem_cons, List.not_mem_nil, or_false] at he
   rcases he with rfl
   ·exact p9_4.2.ok
  refine JL_run rfl (Runs_append (i := 0) (n := 1) (es' := [(cel (r9 4))]) Try.runUnderlying76 Try.runUnderlying76 (Or.inl rfl) el79 rfl rfl rfl Own.nil (fun F w m => Src.row (((At.k 2 rfl (by rw [p9_5.2.1]; exact List.mem_cons_self))).heap m) (sub_a (flatten_len hlens19))) rfl hlens19 hoks19 (by decide) (by simp [strs]) fun v19 k19 ho19 => ?_)
  refine JL_pure (v := .pointer (some ⟨b3, 35, none⟩)) rfl (fa79_4 rfl rfl) ?_
  refine JL_run rfl (Runs_storeB 7 (vs := [v19]) (l := (pkT (3) (0) (zS) (v8) (v19)) ++ ([.slice none 0 0] : List Value)) ty76 rfl rfl rfl (cells_one ho19.one) rfl (okc_cons ho19.one okc_nil) (spl_l (pkT_s35 ..)) ?_)
  refine JL_nil ?_
  refine J_region ?_
  refine JL_pure (v := .int .i64 (1)) rfl (Pu.arith rfl rfl rfl) ?_
  refine JL_pure (v := .int .i64 (1)) rfl (Pu.move rfl) ?_
  refine JL_nil ?_
  refine JR_succ ?_
  refine J_seq ?_
  refine J_region ?_
  refine JL_pure (v := .bool (false)) rfl (show Pu _ _ _ (.bool (decide ((1 : Int) < 1))) from Pu.lss rfl rfl) ?_
  refine JL_nil ?_
  refine J_seq ?_
  refine J_cond (b := false) rfl (fun h => absurd h (by simp)) (fun _ => ?_)
  refine J_exit _ rfl ?_
  refine J_seq ?_
  refine J_seq ?_
  refine J_region ?_
  refine JL_pure (v := .pointer (some ⟨b1, 35, none⟩)) rfl (fa30_4 rfl rfl) ?_
  refine JL_run rfl (Pu_load1 ty28 rfl (At.bx 9 rfl) (pkT_35 ..) ?_)
  obtain ⟨a20, cap20, hv20⟩ := hcv.sl
  have hle20 := hcv.le
  refine JL_pure (v := .int .i64 (0)) rfl (Pu.lenSl Try.runUnderlying28 hv20) ?_
  refine JL_pure (v := .int .i64 (0)) rfl (Pu.move rfl) ?_
  refine JL_nil ?_
  refine J_block ?_
  refine J_rounds 1 ?_
  refine JR_succ ?_
  refine J_seq ?_
  refine J_region ?_
  refine JL_pure (v := .bool (false)) rfl (show Pu _ _ _ (.bool (decide ((0 : Int) < 0))) from Pu.lss rfl rfl) ?_
  refine JL_nil ?_
  refine J_seq ?_
  refine J_cond (b := false) rfl (fun h => absurd h (by simp)) (fun _ => ?_)
  refine J_exit _ rfl ?_
  refine J_seq ?_
  refine J_region ?_
  refine JL_run rfl (Pu_load ty79 rfl (At.bx 7 rfl) (sub_a rfl) ?_)
  refine JL_run rfl (Runs_storeB 8 (vs := (pkT (3) (0) (zS) (v8) (v19)) ++ ([.slice none 0 0] : List Value)) (l := (pkT (3) (0) (zS) (v8) (v19)) ++ ([.slice none 0 0] : List Value)) ty79 rfl rfl rfl rfl rfl (okc_app (pkT_ok ho8.one ho19.one) (okc_cons rfl okc_nil)) (spl_a (n := 37) rfl rfl) ?_)
  refine JL_nil ?_
  refine J_ret ?_
  refine ⟨.agg ⟨(pkT (3) (0) (zS) (v8) (v19)) ++ ([.slice none 0 0] : List Value)⟩, [(k8) ++ ((k19) ++ ((N9 4)))], Ret.one rfl (RV.cell ty79 rfl (At.bx 8 rfl) (sub_a rfl)), (Sub.join3 (Sub.cons 3 rfl (Sk (Sk Sub.nil)))), ?_⟩
  exact ⟨_, _, rfl, rfl, ⟨_, _, _, _, _, _, _, _, _, _, rfl, rfl, ho8, ho19, p9_4.2, rfl⟩⟩
end Go.Proofs.Ytmdifonjepggcaa.Hs
/-! Walks, printed by a program of this session's own (gen.py). -/
namespace Go.Proofs.Ytmdifonjepggcaa.Hs
open Go Go.Proofs
set_option maxRecDepth 100000
set_option linter.unusedVariables false
set_option linter.unusedSimpArgs false
attribute [local irreducible] JL J CT wlo
theorem nameE_ct (cs : List Value) (v : Value) (H : Heap) (ht : RT H cs eLL) (hl : rdS RS 1 H v [ltr 0]) : CT Try.prog 35 ⟨[.agg ⟨cs⟩, v]⟩ [] H (fun v N => ∃ cs k, v = .tuple ⟨[.agg ⟨cs⟩, .int .i64 0]⟩ ∧ N = [k] ∧ NC [[ltr 1], [ltr 2]] cs k) := by
 refine CT_enter Try.func35 rfl rfl ?_
 refine J_seq ?_
 refine J_region ?_
 refine JL_run rfl (Runs_box (l := cs) rfl rfl fun b1 => ?_)
 refine JL_run rfl (Runs_box (l := [v]) rfl (cells_one hl.one) fun b2 => ?_)
 refine JL_run rfl (Runs_alloc (l := (pkT (0) (0) (zS) (.slice none 0 0) (.slice none 0 0)) ++ ([.slice none 0 0] : List Value)) Try.zeroValue79 rfl fun b3 => ?_)
 refine JL_pure (v := .int .i64 (0)) rfl (Pu.assign rfl) ?_
 refine JL_nil ?_
 refine J_seq ?_
 refine J_seq ?_
 refine J_region ?_
 refine JL_run rfl (Pu_load ty30 rfl (At.bx 2 rfl) (sub_a (RT_len ht)) ?_)
 refine JL_run rfl (Runs_buildSlice (vs := [.agg ⟨cs⟩]) [cs] Try.runUnderlying27 el30 rfl rfl (by intro e he; simp only [List.mem_cons, List.not_mem_nil, or_false] at he; subst he; exact (RT_len ht)) rfl (by decide) fun b4 k4 ho4 hk4 => ?_)
 refine JL_call rfl Try.call16 rfl (fun hin => int_r (r := 0) (right_ct [eLL] _ _ (Own.rd1 ho4 (hin 0 _ rfl) (RT.mono (Hle.hu _ _) ht))) right_ll) rfl ?_
 rintro _ _ ⟨rfl, rfl⟩
 refine JL_pure (v := .int .i64 (0)) rfl (Pu.assign rfl) ?_
 refine JL_nil ?_
 refine J_seq ?_
 refine J_region ?_
 refine JL_pure (v := .int .i64 (0)) rfl (Pu.move rfl) ?_
 refine JL_pure (v := .bool (false)) rfl (show Pu _ _ _ (.bool (!decide ((0 : Int) = 0))) from Pu.neq rfl rfl) ?_
 refine JL_nil ?_
 refine J_cond (b := false) rfl (fun h => absurd h (by simp)) (fun _ => ?_)
 refine J_skip ?_
 refine J_seq ?_
 refine J_seq ?_
 refine J_region ?_
 refine JL_run rfl (Pu_load1 ty75 rfl (At.bx 2 rfl) rfl ?_)
 refine JL_call rfl Try.call52 rfl (fun hin => bool_r (r := false) (containsS_ct _ _ _ _ (RSs.mono (Hle.hu _ _) hl)) (by decide)) rfl ?_
 rintro _ _ ⟨rfl, rfl⟩
 refine JL_nil ?_
 refine J_cond (b := false) rfl (fun h => absurd h (by simp)) (fun _ => ?_)
 refine J_skip ?_
 refine J_seq ?_
 refine J_seq ?_
 refine J_region ?_
 refine JL_run rfl (Pu_load1 ty75 rfl (At.bx 2 rfl) rfl ?_)
 obtain ⟨a5, cap5, hv5⟩ := hl.sl
 have hle5 := hl.le
 refine JL_pure (v := .int .i64 (1)) rfl (Pu.lenSl Try.runUnderlying75 hv5) ?_
 refine JL_pure (v := .int .i64 (0)) rfl (Pu.move rfl) ?_
 refine JL_nil ?_
 refine J_block ?_
 refine J_rounds 2 ?_
 refine JR_succ ?_
 refine J_seq ?_
 refine J_region ?_
 refine JL_pure (v := .bool (true)) rfl (show Pu _ _ _ (.bool (decide ((0 : Int) < 1))) from Pu.lss rfl rfl) ?_
 refine JL_nil ?_
 refine J_seq ?_
 refine J_cond (b := true) rfl (fun _ => ?_) (fun h => absurd h (by simp))
 refine J_skip ?_
 refine J_seq ?_
 refine J_block ?_
 refine J_seq ?_
 refine J_region ?_
 refine JL_pure (v := .int .i64 (0)) rfl (Pu.move rfl) ?_
 obtain ⟨b6, o6, cap6, row6, T6, fr6, cs6, hv6, hb6, hs6, hE6⟩ := hl.get 0 (by first | assumption | omega | decide | simp)
 refine JL_pure (v := .pointer (some ⟨b6, o6 + 0 * 1, none⟩)) rfl (Pu.idx 0 Try.runUnderlying75 ty9 hv6 rfl rfl (by first | assumption | omega | decide | simp)) ?_
 refine JL_run rfl (Pu_load1 ty9 rfl (At.im hb6) (sub_one ((show cs6 = [Value.string (ltr 0)] from hE6) ▸ hs6)) ?_)
 refine JL_pure (v := .int .i64 (0)) rfl (Pu.assign rfl) ?_
 refine JL_pure (v := .string (ltr 0)) rfl (Pu.assign rfl) ?_
 refine JL_nil ?_
 refine J_seq ?_
 refine J_region ?_
 refine JL_run rfl (Pu_load1 ty75 rfl (At.bx 2 rfl) rfl ?_)
 refine JL_pure (v := .int .i64 (0)) rfl (Pu.move rfl) ?_
 obtain ⟨a7, cap7, hv7⟩ := hl.sl
 have hle7 := hl.le
 refine JL_run rfl (Runs_slice0 Try.runUnderlying75 Try.sizeOf9 hv7 rfl fun sa8 sc8 => ?_)
 refine JL_pure (v := .string (ltr 0)) rfl (Pu.move rfl) ?_
 refine JL_call rfl Try.call52 rfl (fun hin => bool_r (r := false) (containsS_ct _ _ _ _ (RSs.mono (Hle.hu _ _) (rdS.none : Hs.rdS RS 1 H (.slice sa8 0 sc8) []))) (by decide)) rfl ?_
 rintro _ _ ⟨rfl, rfl⟩
 refine JL_nil ?_
 refine J_cond (b := false) rfl (fun h => absurd h (by simp)) (fun _ => ?_)
 refine J_skip ?_
 refine J_region ?_
 refine JL_pure (v := .int .i64 (1)) rfl (Pu.arith rfl rfl rfl) ?_
 refine JL_pure (v := .int .i64 (1)) rfl (Pu.move rfl) ?_
 refine JL_nil ?_
 refine JR_succ ?_
 refine J_seq ?_
 refine J_region ?_
 refine JL_pure (v := .bool (false)) rfl (show Pu _ _ _ (.bool (decide ((1 : Int) < 1))) from Pu.lss rfl rfl) ?_
 refine JL_nil ?_
 refine J_seq ?_
 refine J_cond (b := false) rfl (fun h => absurd h (by simp)) (fun _ => ?_)
 refine J_exit _ rfl ?_
 refine J_seq ?_
 refine J_region ?_
 refine JL_run rfl (Pu_load ty30 rfl (At.bx 3 rfl) (sub_a (RT_len ht)) ?_)
 refine JL_call rfl Try.call34 rfl (fun hin => freeE_ct eLL _ _ (RT.mono (Hle.hu _ _) ht)) rfl ?_
 rintro _ _ ⟨u9, e9, k9, rfl, rfl, ho9, he9⟩
 rw [free_ll] at ho9 he9
 replace ho9 : Own 3 1 u9 (ints ([])) k9 := ho9
 obtain rfl : e9 = 0 := he9
 refine JL_pure (v := .tuple ⟨[u9, .int .i64 (0)]⟩) rfl (Pu.move rfl) ?_
 refine JL_pure (v := u9) rfl (Pu.extract rfl rfl) ?_
 refine JL_pure (v := .int .i64 (0)) rfl (Pu.extract rfl rfl) ?_
 refine JL_pure (v := u9) rfl (Pu.assign rfl) ?_
 refine JL_pure (v := .int .i64 (0)) rfl (Pu.assign rfl) ?_
 refine JL_nil ?_
 refine J_seq ?_
 refine J_seq ?_
 refine J_region ?_
 refine JL_pure (v := u9) rfl (Pu.move rfl) ?_
 refine JL_pure (v := .func (.func 53) ⟨[]⟩ ⟨[.pointer (some ⟨b2, 0, none⟩)]⟩) rfl (Pu.makeFunc rfl rfl) ?_
 refine JL_call rfl Try.call18 rfl (fun hin => bool_r (r := true) (every_ct 53 [] [.pointer (some ⟨b2, 0, none⟩)] Try.call53 (fun _ => true) [] _ _ (own_ints ho9 (by simp) (hin 0 _ rfl)) (fun x hx => by cases hx)) rfl) rfl ?_
 rintro _ _ ⟨rfl, rfl⟩
 refine JL_pure (v := .bool (false)) rfl (show Pu _ _ _ (.bool (!true)) from Pu.not rfl) ?_
 refine JL_nil ?_
 refine J_cond (b := false) rfl (fun h => absurd h (by simp)) (fun _ => ?_)
 refine J_skip ?_
 refine J_seq ?_
 refine J_region ?_
 refine JL_run rfl (Pu_load ty30 rfl (At.bx 4 rfl) (sub_a (RT_len ht)) ?_)
 refine JL_run rfl (Pu_load1 ty75 rfl (At.bx 3 rfl) rfl ?_)
 refine JL_call rfl Try.call54 rfl (fun hin => named0_ct _ _ _ (RT.mono (Hle.hu _ _) ht) (RSs.mono (Hle.hu _ _) hl)) rfl ?_
 rintro _ _ ⟨cs10, k10, rfl, rfl, hO10⟩
 refine JL_run rfl (Runs_storeB 3 (vs := cs10) (l := cs10) ty79 rfl rfl rfl rfl hO10.len hO10.ok (spl_a (n := 37) rfl hO10.len) ?_)
 refine JL_pure (v := .int .i64 (0)) rfl (Pu.assign rfl) ?_
 refine JL_nil ?_
 refine J_ret ?_
 refine ⟨.tuple ⟨[.agg ⟨cs10⟩, .int .i64 (0)]⟩, [k10], Ret.two rfl (RV.cell ty79 rfl (At.bx 3 rfl) (sub_a hO10.len)) (RV.tmp rfl), (Sk Sub.nil), ?_⟩
 exact ⟨_, _, rfl, rfl, hO10⟩
theorem nu_ct (n : Int) (H : Heap) (hb : inI n) : CT Try.prog 15 ⟨[.int .i64 (n)]⟩ [] H (fun v N => ∃ cs k, v = .agg ⟨cs⟩ ∧ N = [k] ∧ OT (.mk 2 n zS [] []) cs k) := by
 refine CT_enter Try.func15 rfl rfl ?_
 refine J_seq ?_
 refine J_region ?_
 refine JL_run rfl (Runs_alloc (l := pkT (0) (0) (zS) (.slice none 0 0) (.slice none 0 0)) Try.zeroValue30 rfl fun b1 => ?_)
 refine JL_nil ?_
 refine J_seq ?_
 refine J_region ?_
 refine JL_pure (v := .int .i64 (n)) rfl (Pu.move rfl) ?_
 refine JL_pure (v := .agg ⟨pkT (2) (n) (zS) (.slice none 0 0) (.slice none 0 0)⟩) rfl (Pu.build (pv := [(0, .int .i64 (2)), (1, .int .i64 (n))]) (l := pkT (2) (n) (zS) (.slice none 0 0) (.slice none 0 0)) rfl (bld30_0_1 _ _)) ?_
 refine JL_run rfl (Runs_storeB 0 (vs := pkT (2) (n) (zS) (.slice none 0 0) (.slice none 0 0)) (l := pkT (2) (n) (zS) (.slice none 0 0) (.slice none 0 0)) ty30 rfl rfl rfl rfl rfl (pkT_ok rfl rfl) (pkT_s ..) ?_)
 refine JL_nil ?_
 refine J_ret ?_
 refine ⟨.agg ⟨pkT (2) (n) (zS) (.slice none 0 0) (.slice none 0 0)⟩, [[]], Ret.one rfl (RV.cell ty30 rfl (At.bx 0 rfl) (pkT_a ..)), (Sub.emp Sub.nil), ?_⟩
 exact ⟨_, _, rfl, rfl, OT_leaf (by unfold inI; omega) hb⟩
theorem va_ct (n : Int) (H : Heap) (hb : inI n) : CT Try.prog 33 ⟨[.int .i64 (n)]⟩ [] H (fun v N => ∃ cs k, v = .agg ⟨cs⟩ ∧ N = [k] ∧ OT (.mk 1 n zS [] []) cs k) := by
 refine CT_enter Try.func33 rfl rfl ?_
 refine J_seq ?_
 refine J_region ?_
 refine JL_run rfl (Runs_alloc (l := pkT (0) (0) (zS) (.slice none 0 0) (.slice none 0 0)) Try.zeroValue30 rfl fun b1 => ?_)
 refine JL_nil ?_
 refine J_seq ?_
 refine J_region ?_
 refine JL_pure (v := .int .i64 (n)) rfl (Pu.move rfl) ?_
 refine JL_pure (v := .agg ⟨pkT (1) (n) (zS) (.slice none 0 0) (.slice none 0 0)⟩) rfl (Pu.build (pv := [(0, .int .i64 (1)), (1, .int .i64 (n))]) (l := pkT (1) (n) (zS) (.slice none 0 0) (.slice none 0 0)) rfl (bld30_0_1 _ _)) ?_
 refine JL_run rfl (Runs_storeB 0 (vs := pkT (1) (n) (zS) (.slice none 0 0) (.slice none 0 0)) (l := pkT (1) (n) (zS) (.slice none 0 0) (.slice none 0 0)) ty30 rfl rfl rfl rfl rfl (pkT_ok rfl rfl) (pkT_s ..) ?_)
 refine JL_nil ?_
 refine J_ret ?_
 refine ⟨.agg ⟨pkT (1) (n) (zS) (.slice none 0 0) (.slice none 0 0)⟩, [[]], Ret.one rfl (RV.cell ty30 rfl (At.bx 0 rfl) (pkT_a ..)), (Sub.emp Sub.nil), ?_⟩
 exact ⟨_, _, rfl, rfl, OT_leaf (by unfold inI; omega) hb⟩
theorem la_ct (H : Heap) (a : List Value) (hla : a.length = 36) (hka : okc a) : CT Try.prog 31 ⟨[.agg ⟨a⟩]⟩ [] H (fun v N => ∃ cs k, v = .agg ⟨cs⟩ ∧ N = [k] ∧ cs.length = 36 ∧ okc cs ∧ ∀ ta h, Has k h → RT h a ta → RT h cs (.mk 3 0 zS [ta] [])) := by
 refine CT_enter Try.func31 rfl rfl ?_
 refine J_seq ?_
 refine J_region ?_
 refine JL_run rfl (Runs_box (l := a) rfl rfl fun b1 => ?_)
 refine JL_run rfl (Runs_alloc (l := pkT (0) (0) (zS) (.slice none 0 0) (.slice none 0 0)) Try.zeroValue30 rfl fun b2 => ?_)
 refine JL_nil ?_
 refine J_seq ?_
 refine J_region ?_
 refine JL_run rfl (Pu_load ty30 rfl (At.bx 1 rfl) (sub_a hla) ?_)
 refine JL_run rfl (Runs_buildSlice (vs := [.agg ⟨a⟩]) [a] Try.runUnderlying27 el30 rfl rfl (by intro e he; simp only [List.mem_cons, List.not_mem_nil, or_false] at he; subst he; exact hla) rfl (by decide) fun b3 k3 ho3 hk3 => ?_)
 refine JL_pure (v := .agg ⟨pkT (3) (0) (zS) (.slice (some ⟨b3, 0, none⟩) 1 1) (.slice none 0 0)⟩) rfl (Pu.build (pv := [(0, .int .i64 (3)), (3, .slice (some ⟨b3, 0, none⟩) 1 1)]) (l := pkT (3) (0) (zS) (.slice (some ⟨b3, 0, none⟩) 1 1) (.slice none 0 0)) rfl (bld30_0_3 _ _ _ _)) ?_
 refine JL_run rfl (Runs_storeB 1 (vs := pkT (3) (0) (zS) (.slice (some ⟨b3, 0, none⟩) 1 1) (.slice none 0 0)) (l := pkT (3) (0) (zS) (.slice (some ⟨b3, 0, none⟩) 1 1) (.slice none 0 0)) ty30 rfl rfl rfl rfl rfl (pkT_ok rfl rfl) (pkT_s ..) ?_)
 refine JL_nil ?_
 refine J_ret ?_
 refine ⟨.agg ⟨pkT (3) (0) (zS) (.slice (some ⟨b3, 0, none⟩) 1 1) (.slice none 0 0)⟩, [k3], Ret.one rfl (RV.cell ty30 rfl (At.bx 1 rfl) (pkT_a ..)), (Sk Sub.nil), ?_⟩
 exact ⟨_, _, rfl, rfl, rfl, pkT_ok rfl rfl, fun ta h hh hta => RT_mk.2 ⟨_, _, rfl, (by unfold inI; omega), (by unfold inI; omega), Own.rd1 ho3 hh hta, Hs.rdS.nil⟩⟩
theorem ap_ct (H : Heap) (a : List Value) (hla : a.length = 36) (hka : okc a) (b : List Value) (hlb : b.length = 36) (hkb : okc b) : CT Try.prog 32 ⟨[.agg ⟨a⟩, .agg ⟨b⟩]⟩ [] H (fun v N => ∃ cs k, v = .agg ⟨cs⟩ ∧ N = [k] ∧ cs.length = 36 ∧ okc cs ∧ ∀ ta tb h, Has k h → RT h a ta → RT h b tb → RT h cs (.mk 4 0 zS [ta, tb] [])) := by
 refine CT_enter Try.func32 rfl rfl ?_
 refine J_seq ?_
 refine J_region ?_
 refine JL_run rfl (Runs_box (l := a) rfl rfl fun b1 => ?_)
 refine JL_run rfl (Runs_box (l := b) rfl rfl fun b2 => ?_)
 refine JL_run rfl (Runs_alloc (l := pkT (0) (0) (zS) (.slice none 0 0) (.slice none 0 0)) Try.zeroValue30 rfl fun b3 => ?_)
 refine JL_nil ?_
 refine J_seq ?_
 refine J_region ?_
 refine JL_run rfl (Pu_load ty30 rfl (At.bx 2 rfl) (sub_a hla) ?_)
 refine JL_run rfl (Pu_load ty30 rfl (At.bx 1 rfl) (sub_a hlb) ?_)
 refine JL_run rfl (Runs_buildSlice (vs := [.agg ⟨a⟩, .agg ⟨b⟩]) [a, b] Try.runUnderlying27 el30 rfl rfl (by intro e he; simp only [List.mem_cons, List.not_mem_nil, or_false] at he; rcases he with rfl | rfl <;> first | exact hla | exact hlb) rfl (by decide) fun b4 k4 ho4 hk4 => ?_)
 refine JL_pure (v := .agg ⟨pkT (4) (0) (zS) (.slice (some ⟨b4, 0, none⟩) 2 2) (.slice none 0 0)⟩) rfl (Pu.build (pv := [(0, .int .i64 (4)), (3, .slice (some ⟨b4, 0, none⟩) 2 2)]) (l := pkT (4) (0) (zS) (.slice (some ⟨b4, 0, none⟩) 2 2) (.slice none 0 0)) rfl (bld30_0_3 _ _ _ _)) ?_
 refine JL_run rfl (Runs_storeB 1 (vs := pkT (4) (0) (zS) (.slice (some ⟨b4, 0, none⟩) 2 2) (.slice none 0 0)) (l := pkT (4) (0) (zS) (.slice (some ⟨b4, 0, none⟩) 2 2) (.slice none 0 0)) ty30 rfl rfl rfl rfl rfl (pkT_ok rfl rfl) (pkT_s ..) ?_)
 refine JL_nil ?_
 refine J_ret ?_
 refine ⟨.agg ⟨pkT (4) (0) (zS) (.slice (some ⟨b4, 0, none⟩) 2 2) (.slice none 0 0)⟩, [k4], Ret.one rfl (RV.cell ty30 rfl (At.bx 1 rfl) (pkT_a ..)), (Sk Sub.nil), ?_⟩
 exact ⟨_, _, rfl, rfl, rfl, pkT_ok rfl rfl, fun ta tb h hh hta htb => RT_mk.2 ⟨_, _, rfl, (by unfold inI; omega), (by unfold inI; omega), Own.rd2 ho4 hh hta htb, Hs.rdS.nil⟩⟩
theorem ha_ct (r : Sm) (a : Option Addr) (n c : Nat) (H : Heap) : CT Try.prog 38 ⟨[.agg ⟨sC (r)⟩, .slice a n c]⟩ [] H (fun v N => v = .agg ⟨pkT 12 0 r (.slice a n c) (.slice none 0 0)⟩ ∧ N = []) := by
 refine CT_enter Try.func38 rfl rfl ?_
 refine J_seq ?_
 refine J_region ?_
 refine JL_run rfl (Runs_box (l := sC (r)) rfl rfl fun b1 => ?_)
 refine JL_run rfl (Runs_alloc (l := pkT (0) (0) (zS) (.slice none 0 0) (.slice none 0 0)) Try.zeroValue30 rfl fun b2 => ?_)
 refine JL_nil ?_
 refine J_seq ?_
 refine J_region ?_
 refine JL_run rfl (Pu_load ty26 rfl (At.bx 1 rfl) (sub_a rfl) ?_)
 refine JL_pure (v := .slice a n c) rfl (Pu.move rfl) ?_
 refine JL_pure (v := .agg ⟨pkT (12) (0) (r) (.slice a n c) (.slice none 0 0)⟩) rfl (Pu.build (pv := [(0, .int .i64 (12)), (2, .agg ⟨sC (r)⟩), (3, .slice a n c)]) (l := pkT (12) (0) (r) (.slice a n c) (.slice none 0 0)) rfl (bld30_0_2_3 _ _ _ _ _)) ?_
 refine JL_run rfl (Runs_storeB 0 (vs := pkT (12) (0) (r) (.slice a n c) (.slice none 0 0)) (l := pkT (12) (0) (r) (.slice a n c) (.slice none 0 0)) ty30 rfl rfl rfl rfl rfl (pkT_ok rfl rfl) (pkT_s ..) ?_)
 refine JL_nil ?_
 refine J_ret ?_
 refine ⟨.agg ⟨pkT (12) (0) (r) (.slice a n c) (.slice none 0 0)⟩, [], Ret.one rfl (RV.cell ty30 rfl (At.bx 0 rfl) (pkT_a ..)), Sub.nil, ?_⟩
 exact ⟨rfl, rfl⟩
end Go.Proofs.Ytmdifonjepggcaa.Hs
/-! Walks, printed by a program of this session's own (gen.py). -/
namespace Go.Proofs.Ytmdifonjepggcaa.Hs
open Go Go.Proofs
set_option maxRecDepth 100000
set_option linter.unusedVariables false
set_option linter.unusedSimpArgs false
attribute [local irreducible] JL J CT wlo
theorem caD_ct (a b : List Value) (hla : a.length = 35) (hka : okc a) (hlb : b.length = 36) (hkb : okc b) (H : Heap) : CT Try.prog 66 ⟨[.agg ⟨a⟩, .agg ⟨b⟩]⟩ [] H (fun v N => v = .agg ⟨a ++ b⟩ ∧ N = []) := by
 refine CT_enter Try.func66 rfl rfl ?_
 refine J_seq ?_
 refine J_region ?_
 refine JL_run rfl (Runs_box (l := a) rfl rfl fun b1 => ?_)
 refine JL_run rfl (Runs_box (l := b) rfl rfl fun b2 => ?_)
 refine JL_run rfl (Runs_alloc (l := (pkP (0) (0) (zS) (.slice none 0 0)) ++ (pkT (0) (0) (zS) (.slice none 0 0) (.slice none 0 0))) Try.zeroValue68 rfl fun b3 => ?_)
 refine JL_nil ?_
 refine J_seq ?_
 refine J_region ?_
 refine JL_run rfl (Pu_load ty66 rfl (At.bx 2 rfl) (sub_a hla) ?_)
 refine JL_run rfl (Pu_load ty30 rfl (At.bx 1 rfl) (sub_a hlb) ?_)
 refine JL_pure (v := .agg ⟨(a) ++ (b)⟩) rfl (Pu.build (pv := [(0, .agg ⟨a⟩), (1, .agg ⟨b⟩)]) (l := (a) ++ (b)) rfl (bld68_0_1 hla hlb)) ?_
 refine JL_run rfl (Runs_storeB 0 (vs := (a) ++ (b)) (l := (a) ++ (b)) ty68 rfl rfl rfl rfl (len_app hla hlb) (okc_app hka hkb) (spl_a (n := 71) rfl (len_app hla hlb)) ?_)
 refine JL_nil ?_
 refine J_ret ?_
 refine ⟨.agg ⟨(a) ++ (b)⟩, [], Ret.one rfl (RV.cell ty68 rfl (At.bx 0 rfl) (sub_a (len_app hla hlb))), Sub.nil, ?_⟩
 exact ⟨rfl, rfl⟩
theorem laD_ct (x : List Value) (hlx : x.length = 36) (hkx : okc x) (H : Heap) : CT Try.prog 31 ⟨[.agg ⟨x⟩]⟩ [] H (fun r N => ∃ sv k, r = .agg ⟨pkT 3 0 zS sv (.slice none 0 0)⟩ ∧ N = [k] ∧ Own 30 36 sv [x] k) := by
 refine CT_enter Try.func31 rfl rfl ?_
 refine J_seq ?_
 refine J_region ?_
 refine JL_run rfl (Runs_box (l := x) rfl rfl fun b1 => ?_)
 refine JL_run rfl (Runs_alloc (l := pkT (0) (0) (zS) (.slice none 0 0) (.slice none 0 0)) Try.zeroValue30 rfl fun b2 => ?_)
 refine JL_nil ?_
 refine J_seq ?_
 refine J_region ?_
 refine JL_run rfl (Pu_load ty30 rfl (At.bx 1 rfl) (sub_a hlx) ?_)
 refine JL_run rfl (Runs_buildSlice (vs := [.agg ⟨x⟩]) [x] Try.runUnderlying27 el30 rfl rfl (by intro e he; simp only [List.mem_cons, List.not_mem_nil, or_false] at he; subst he; exact hlx) rfl (by decide) fun b3 k3 ho3 hk3 => ?_)
 refine JL_pure (v := .agg ⟨pkT (3) (0) (zS) (.slice (some ⟨b3, 0, none⟩) 1 1) (.slice none 0 0)⟩) rfl (Pu.build (pv := [(0, .int .i64 (3)), (3, .slice (some ⟨b3, 0, none⟩) 1 1)]) (l := pkT (3) (0) (zS) (.slice (some ⟨b3, 0, none⟩) 1 1) (.slice none 0 0)) rfl (bld30_0_3 _ _ _ _)) ?_
 refine JL_run rfl (Runs_storeB 1 (vs := pkT (3) (0) (zS) (.slice (some ⟨b3, 0, none⟩) 1 1) (.slice none 0 0)) (l := pkT (3) (0) (zS) (.slice (some ⟨b3, 0, none⟩) 1 1) (.slice none 0 0)) ty30 rfl rfl rfl rfl rfl (pkT_ok rfl rfl) (pkT_s ..) ?_)
 refine JL_nil ?_
 refine J_ret ?_
 refine ⟨.agg ⟨pkT (3) (0) (zS) (.slice (some ⟨b3, 0, none⟩) 1 1) (.slice none 0 0)⟩, [k3], Ret.one rfl (RV.cell ty30 rfl (At.bx 1 rfl) (pkT_a ..)), (Sk Sub.nil), ?_⟩
 exact ⟨_, _, rfl, rfl, ho3⟩
theorem apD_ct (x : List Value) (hlx : x.length = 36) (hkx : okc x) (y : List Value) (hly : y.length = 36) (hky : okc y) (H : Heap) : CT Try.prog 32 ⟨[.agg ⟨x⟩, .agg ⟨y⟩]⟩ [] H (fun r N => ∃ sv k, r = .agg ⟨pkT 4 0 zS sv (.slice none 0 0)⟩ ∧ N = [k] ∧ Own 30 36 sv [x, y] k) := by
 refine CT_enter Try.func32 rfl rfl ?_
 refine J_seq ?_
 refine J_region ?_
 refine JL_run rfl (Runs_box (l := x) rfl rfl fun b1 => ?_)
 refine JL_run rfl (Runs_box (l := y) rfl rfl fun b2 => ?_)
 refine JL_run rfl (Runs_alloc (l := pkT (0) (0) (zS) (.slice none 0 0) (.slice none 0 0)) Try.zeroValue30 rfl fun b3 => ?_)
 refine JL_nil ?_
 refine J_seq ?_
 refine J_region ?_
 refine JL_run rfl (Pu_load ty30 rfl (At.bx 2 rfl) (sub_a hlx) ?_)
 refine JL_run rfl (Pu_load ty30 rfl (At.bx 1 rfl) (sub_a hly) ?_)
 refine JL_run rfl (Runs_buildSlice (vs := [.agg ⟨x⟩, .agg ⟨y⟩]) [x, y] Try.runUnderlying27 el30 rfl rfl (by intro e he; simp only [List.mem_cons, List.not_mem_nil, or_false] at he; rcases he with rfl | rfl <;> first | exact hlx | exact hly) rfl (by decide) fun b4 k4 ho4 hk4 => ?_)
 refine JL_pure (v := .agg ⟨pkT (4) (0) (zS) (.slice (some ⟨b4, 0, none⟩) 2 2) (.slice none 0 0)⟩) rfl (Pu.build (pv := [(0, .int .i64 (4)), (3, .slice (some ⟨b4, 0, none⟩) 2 2)]) (l := pkT (4) (0) (zS) (.slice (some ⟨b4, 0, none⟩) 2 2) (.slice none 0 0)) rfl (bld30_0_3 _ _ _ _)) ?_
 refine JL_run rfl (Runs_storeB 1 (vs := pkT (4) (0) (zS) (.slice (some ⟨b4, 0, none⟩) 2 2) (.slice none 0 0)) (l := pkT (4) (0) (zS) (.slice (some ⟨b4, 0, none⟩) 2 2) (.slice none 0 0)) ty30 rfl rfl rfl rfl rfl (pkT_ok rfl rfl) (pkT_s ..) ?_)
 refine JL_nil ?_
 refine J_ret ?_
 refine ⟨.agg ⟨pkT (4) (0) (zS) (.slice (some ⟨b4, 0, none⟩) 2 2) (.slice none 0 0)⟩, [k4], Ret.one rfl (RV.cell ty30 rfl (At.bx 1 rfl) (pkT_a ..)), (Sk Sub.nil), ?_⟩
 exact ⟨_, _, rfl, rfl, ho4⟩
theorem leD_ct (x : List Value) (hlx : x.length = 36) (hkx : okc x) (y : List Value) (hly : y.length = 36) (hky : okc y) (H : Heap) : CT Try.prog 60 ⟨[.agg ⟨x⟩, .agg ⟨y⟩]⟩ [] H (fun r N => ∃ sv k, r = .agg ⟨pkT 5 0 zS sv (.slice none 0 0)⟩ ∧ N = [k] ∧ Own 30 36 sv [x, y] k) := by
 refine CT_enter Try.func60 rfl rfl ?_
 refine J_seq ?_
 refine J_region ?_
 refine JL_run rfl (Runs_box (l := x) rfl rfl fun b1 => ?_)
 refine JL_run rfl (Runs_box (l := y) rfl rfl fun b2 => ?_)
 refine JL_run rfl (Runs_alloc (l := pkT (0) (0) (zS) (.slice none 0 0) (.slice none 0 0)) Try.zeroValue30 rfl fun b3 => ?_)
 refine JL_nil ?_
 refine J_seq ?_
 refine J_region ?_
 refine JL_run rfl (Pu_load ty30 rfl (At.bx 2 rfl) (sub_a hlx) ?_)
 refine JL_run rfl (Pu_load ty30 rfl (At.bx 1 rfl) (sub_a hly) ?_)
 refine JL_run rfl (Runs_buildSlice (vs := [.agg ⟨x⟩, .agg ⟨y⟩]) [x, y] Try.runUnderlying27 el30 rfl rfl (by intro e he; simp only [List.mem_cons, List.not_mem_nil, or_false] at he; rcases he with rfl | rfl <;> first | exact hlx | exact hly) rfl (by decide) fun b4 k4 ho4 hk4 => ?_)
 refine JL_pure (v := .agg ⟨pkT (5) (0) (zS) (.slice (some ⟨b4, 0, none⟩) 2 2) (.slice none 0 0)⟩) rfl (Pu.build (pv := [(0, .int .i64 (5)), (3, .slice (some ⟨b4, 0, none⟩) 2 2)]) (l := pkT (5) (0) (zS) (.slice (some ⟨b4, 0, none⟩) 2 2) (.slice none 0 0)) rfl (bld30_0_3 _ _ _ _)) ?_
 refine JL_run rfl (Runs_storeB 1 (vs := pkT (5) (0) (zS) (.slice (some ⟨b4, 0, none⟩) 2 2) (.slice none 0 0)) (l := pkT (5) (0) (zS) (.slice (some ⟨b4, 0, none⟩) 2 2) (.slice none 0 0)) ty30 rfl rfl rfl rfl rfl (pkT_ok rfl rfl) (pkT_s ..) ?_)
 refine JL_nil ?_
 refine J_ret ?_
 refine ⟨.agg ⟨pkT (5) (0) (zS) (.slice (some ⟨b4, 0, none⟩) 2 2) (.slice none 0 0)⟩, [k4], Ret.one rfl (RV.cell ty30 rfl (At.bx 1 rfl) (pkT_a ..)), (Sk Sub.nil), ?_⟩
 exact ⟨_, _, rfl, rfl, ho4⟩
theorem prD_ct (n : Int) (x : List Value) (hlx : x.length = 36) (hkx : okc x) (y : List Value) (hly : y.length = 36) (hky : okc y) (H : Heap) : CT Try.prog 61 ⟨[.int .i64 (n), .agg ⟨x⟩, .agg ⟨y⟩]⟩ [] H (fun r N => ∃ sv k, r = .agg ⟨pkT 10 n zS sv (.slice none 0 0)⟩ ∧ N = [k] ∧ Own 30 36 sv [x, y] k) := by
 refine CT_enter Try.func61 rfl rfl ?_
 refine J_seq ?_
 refine J_region ?_
 refine JL_run rfl (Runs_box (l := x) rfl rfl fun b1 => ?_)
 refine JL_run rfl (Runs_box (l := y) rfl rfl fun b2 => ?_)
 refine JL_run rfl (Runs_alloc (l := pkT (0) (0) (zS) (.slice none 0 0) (.slice none 0 0)) Try.zeroValue30 rfl fun b3 => ?_)
 refine JL_nil ?_
 refine J_seq ?_
 refine J_region ?_
 refine JL_pure (v := .int .i64 (n)) rfl (Pu.move rfl) ?_
 refine JL_run rfl (Pu_load ty30 rfl (At.bx 2 rfl) (sub_a hlx) ?_)
 refine JL_run rfl (Pu_load ty30 rfl (At.bx 1 rfl) (sub_a hly) ?_)
 refine JL_run rfl (Runs_buildSlice (vs := [.agg ⟨x⟩, .agg ⟨y⟩]) [x, y] Try.runUnderlying27 el30 rfl rfl (by intro e he; simp only [List.mem_cons, List.not_mem_nil, or_false] at he; rcases he with rfl | rfl <;> first | exact hlx | exact hly) rfl (by decide) fun b4 k4 ho4 hk4 => ?_)
 refine JL_pure (v := .agg ⟨pkT (10) (n) (zS) (.slice (some ⟨b4, 0, none⟩) 2 2) (.slice none 0 0)⟩) rfl (Pu.build (pv := [(0, .int .i64 (10)), (1, .int .i64 (n)), (3, .slice (some ⟨b4, 0, none⟩) 2 2)]) (l := pkT (10) (n) (zS) (.slice (some ⟨b4, 0, none⟩) 2 2) (.slice none 0 0)) rfl (bld30_0_1_3 _ _ _ _ _)) ?_
 refine JL_run rfl (Runs_storeB 1 (vs := pkT (10) (n) (zS) (.slice (some ⟨b4, 0, none⟩) 2 2) (.slice none 0 0)) (l := pkT (10) (n) (zS) (.slice (some ⟨b4, 0, none⟩) 2 2) (.slice none 0 0)) ty30 rfl rfl rfl rfl rfl (pkT_ok rfl rfl) (pkT_s ..) ?_)
 refine JL_nil ?_
 refine J_ret ?_
 refine ⟨.agg ⟨pkT (10) (n) (zS) (.slice (some ⟨b4, 0, none⟩) 2 2) (.slice none 0 0)⟩, [k4], Ret.one rfl (RV.cell ty30 rfl (At.bx 1 rfl) (pkT_a ..)), (Sk Sub.nil), ?_⟩
 exact ⟨_, _, rfl, rfl, ho4⟩
theorem askD_ct (f : Sm) (n : Int) (x : List Value) (hlx : x.length = 36) (hkx : okc x) (H : Heap) : CT Try.prog 63 ⟨[.agg ⟨sC (f)⟩, .int .i64 (n), .agg ⟨x⟩]⟩ [] H (fun r N => ∃ sv k, r = .agg ⟨pkT 11 n f sv (.slice none 0 0)⟩ ∧ N = [k] ∧ Own 30 36 sv [x] k) := by
 refine CT_enter Try.func63 rfl rfl ?_
 refine J_seq ?_
 refine J_region ?_
 refine JL_run rfl (Runs_box (l := sC (f)) rfl rfl fun b1 => ?_)
 refine JL_run rfl (Runs_box (l := x) rfl rfl fun b2 => ?_)
 refine JL_run rfl (Runs_alloc (l := pkT (0) (0) (zS) (.slice none 0 0) (.slice none 0 0)) Try.zeroValue30 rfl fun b3 => ?_)
 refine JL_nil ?_
 refine J_seq ?_
 refine J_region ?_
 refine JL_run rfl (Pu_load ty26 rfl (At.bx 2 rfl) (sub_a rfl) ?_)
 refine JL_pure (v := .int .i64 (n)) rfl (Pu.move rfl) ?_
 refine JL_run rfl (Pu_load ty30 rfl (At.bx 1 rfl) (sub_a hlx) ?_)
 refine JL_run rfl (Runs_buildSlice (vs := [.agg ⟨x⟩]) [x] Try.runUnderlying27 el30 rfl rfl (by intro e he; simp only [List.mem_cons, List.not_mem_nil, or_false] at he; subst he; exact hlx) rfl (by decide) fun b4 k4 ho4 hk4 => ?_)
 refine JL_pure (v := .agg ⟨pkT (11) (n) (f) (.slice (some ⟨b4, 0, none⟩) 1 1) (.slice none 0 0)⟩) rfl (Pu.build (pv := [(0, .int .i64 (11)), (2, .agg ⟨sC (f)⟩), (1, .int .i64 (n)), (3, .slice (some ⟨b4, 0, none⟩) 1 1)]) (l := pkT (11) (n) (f) (.slice (some ⟨b4, 0, none⟩) 1 1) (.slice none 0 0)) rfl (bld30_0_2_1_3 _ _ _ _ _ _)) ?_
 refine JL_run rfl (Runs_storeB 1 (vs := pkT (11) (n) (f) (.slice (some ⟨b4, 0, none⟩) 1 1) (.slice none 0 0)) (l := pkT (11) (n) (f) (.slice (some ⟨b4, 0, none⟩) 1 1) (.slice none 0 0)) ty30 rfl rfl rfl rfl rfl (pkT_ok rfl rfl) (pkT_s ..) ?_)
 refine JL_nil ?_
 refine J_ret ?_
 refine ⟨.agg ⟨pkT (11) (n) (f) (.slice (some ⟨b4, 0, none⟩) 1 1) (.slice none 0 0)⟩, [k4], Ret.one rfl (RV.cell ty30 rfl (At.bx 1 rfl) (pkT_a ..)), (Sk Sub.nil), ?_⟩
 exact ⟨_, _, rfl, rfl, ho4⟩
theorem maD_ct (x : List Value) (hlx : x.length = 36) (hkx : okc x) (sa : Option Addr) (sn sc : Nat) (H : Heap) : CT Try.prog 64 ⟨[.agg ⟨x⟩, .slice sa sn sc]⟩ [] H (fun r N => ∃ sv k, r = .agg ⟨pkT 9 0 zS sv (.slice sa sn sc)⟩ ∧ N = [k] ∧ Own 30 36 sv [x] k) := by
 refine CT_enter Try.func64 rfl rfl ?_
 refine J_seq ?_
 refine J_region ?_
 refine JL_run rfl (Runs_box (l := x) rfl rfl fun b1 => ?_)
 refine JL_run rfl (Runs_alloc (l := pkT (0) (0) (zS) (.slice none 0 0) (.slice none 0 0)) Try.zeroValue30 rfl fun b2 => ?_)
 refine JL_nil ?_
 refine J_seq ?_
 refine J_region ?_
 refine JL_run rfl (Pu_load ty30 rfl (At.bx 1 rfl) (sub_a hlx) ?_)
 refine JL_run rfl (Runs_buildSlice (vs := [.agg ⟨x⟩]) [x] Try.runUnderlying27 el30 rfl rfl (by intro e he; simp only [List.mem_cons, List.not_mem_nil, or_false] at he; subst he; exact hlx) rfl (by decide) fun b3 k3 ho3 hk3 => ?_)
 refine JL_pure (v := .slice sa sn sc) rfl (Pu.move rfl) ?_
 refine JL_pure (v := .agg ⟨pkT (9) (0) (zS) (.slice (some ⟨b3, 0, none⟩) 1 1) (.slice sa sn sc)⟩) rfl (Pu.build (pv := [(0, .int .i64 (9)), (3, .slice (some ⟨b3, 0, none⟩) 1 1), (4, .slice sa sn sc)]) (l := pkT (9) (0) (zS) (.slice (some ⟨b3, 0, none⟩) 1 1) (.slice sa sn sc)) rfl (bld30_0_3_4 _ _ _ _ _ _ _)) ?_
 refine JL_run rfl (Runs_storeB 1 (vs := pkT (9) (0) (zS) (.slice (some ⟨b3, 0, none⟩) 1 1) (.slice sa sn sc)) (l := pkT (9) (0) (zS) (.slice (some ⟨b3, 0, none⟩) 1 1) (.slice sa sn sc)) ty30 rfl rfl rfl rfl rfl (pkT_ok rfl rfl) (pkT_s ..) ?_)
 refine JL_nil ?_
 refine J_ret ?_
 refine ⟨.agg ⟨pkT (9) (0) (zS) (.slice (some ⟨b3, 0, none⟩) 1 1) (.slice sa sn sc)⟩, [k3], Ret.one rfl (RV.cell ty30 rfl (At.bx 1 rfl) (pkT_a ..)), (Sk Sub.nil), ?_⟩
 exact ⟨_, _, rfl, rfl, ho3⟩
theorem one_ct (more d m : Int) (b3 b4 b5 bM bS : Nat) (v : Value) (l : List Int) (L a s : Int) (H : Heap) (hv : Hs.rdS RB 1 H v l) (h3 : H b3 = some (.cells ⟨[.pointer (some ⟨bM, 0, none⟩)]⟩ 85 (0, 0))) (h4 : H b4 = some (.cells ⟨[.int .i64 d]⟩ 3 (0, 0))) (h5 : H b5 = some (.cells ⟨[.int .i64 m]⟩ 3 (0, 0))) (hd0 : -1000000 ≤ d) (hd1 : d ≤ 1000000) (hm0 : 0 ≤ more) (hm1 : more ≤ 1000) (hsc : ∀ h, Hle H h → CT Try.prog 39 ⟨[.pointer (some ⟨bM, 0, none⟩), .int .i64 (d + more), .int .i64 m]⟩ [([(bM, .cells ⟨[.pointer (some ⟨bS, 0, none⟩), .int .i64 (L)]⟩ 87 (0, 0))]) ++ ([(bS, .cells ⟨[v, .int .i64 (a), .int .u64 (s)]⟩ 45 (0, 0))])] h (fun r N => ∃ t cs k l' a' s', r = .agg ⟨cs⟩ ∧ N = [([(bM, .cells ⟨[.pointer (some ⟨bS, 0, none⟩), .int .i64 (l')]⟩ 87 (0, 0))]) ++ ([(bS, .cells ⟨[v, .int .i64 (a'), .int .u64 (s')]⟩ 45 (0, 0))]), k] ∧ OT t cs k ∧ (nErr (d + more) m 0 t = 0 ∧ (sizeT t : Int) ≤ 20 * (L - l')) ∧ (l' ≤ L - 1 ∧ (L ≤ 1 → l' = L - 1) ∧ (1 ≤ L → -3 * (L - 1) ≤ l')) ∧ (a ≤ a' ∧ a' ≤ a + 100 * (L - l')))) : CT Try.prog 55 ⟨[.int .i64 (more), .pointer (some ⟨b3, 0, none⟩), .pointer (some ⟨b4, 0, none⟩), .pointer (some ⟨b5, 0, none⟩)]⟩ [([(bM, .cells ⟨[.pointer (some ⟨bS, 0, none⟩), .int .i64 (L)]⟩ 87 (0, 0))]) ++ ([(bS, .cells ⟨[v, .int .i64 (a), .int .u64 (s)]⟩ 45 (0, 0))])] H (fun r N => ∃ t cs k l' a' s', r = .agg ⟨cs⟩ ∧ N = [([(bM, .cells ⟨[.pointer (some ⟨bS, 0, none⟩), .int .i64 (l')]⟩ 87 (0, 0))]) ++ ([(bS, .cells ⟨[v, .int .i64 (a'), .int .u64 (s')]⟩ 45 (0, 0))]), k] ∧ OT t cs k ∧ (nErr (d + more) m 0 t = 0 ∧ (sizeT t : Int) ≤ 20 * (L - l')) ∧ (l' ≤ L - 1 ∧ (L ≤ 1 → l' = L - 1) ∧ (1 ≤ L → -3 * (L - 1) ≤ l')) ∧ (a ≤ a' ∧ a' ≤ a + 100 * (L - l'))) := by
 refine CT_enter Try.func55 rfl rfl ?_
 refine J_seq ?_
 refine J_region ?_
 refine JL_run rfl (Runs_alloc (l := pkT (0) (0) (zS) (.slice none 0 0) (.slice none 0 0)) Try.zeroValue30 rfl fun b1 => ?_)
 refine JL_nil ?_
 refine J_seq ?_
 refine J_region ?_
 refine JL_run rfl (Pu_load1 ty85 rfl (At.im h3) rfl ?_)
 refine JL_run rfl (Pu_load1 ty3 rfl (At.im h4) rfl ?_)
 refine JL_pure (v := .int .i64 (more)) rfl (Pu.move rfl) ?_
 refine JL_pure (v := .int .i64 (d + more)) rfl (Pu.add64 rfl rfl (by first | omega | (constructor <;> omega))) ?_
 refine JL_run rfl (Pu_load1 ty3 rfl (At.im h5) rfl ?_)
 refine JL_call1 1 rfl Try.call39 rfl rfl (fun hin => hsc _ (Hle.hu _ _)) rfl ?_
 rintro _ _ ⟨t2, cs2, k2, l2, a2, s2, rfl, rfl, hO2, ⟨hn2, hz2⟩, hl2, ha2⟩
 refine JL_sub (M' := [[(bM, .cells ⟨[.pointer (some ⟨bS, 0, none⟩), .int .i64 (l2)]⟩ 87 (0, 0))], [(bS, .cells ⟨[v, .int .i64 (a2), .int .u64 (s2)]⟩ 45 (0, 0))], k2, [(b1, .cells ⟨pkT (0) (0) (zS) (.slice none 0 0) (.slice none 0 0)⟩ 30 (0, 0))]]) (Sub.flat Sub.refl (by simp)) ?_
 refine JL_run rfl (Runs_storeB 3 (vs := cs2) (l := cs2) ty30 rfl rfl rfl rfl hO2.len hO2.ok (spl_a (n := 36) rfl hO2.len) ?_)
 refine JL_nil ?_
 refine J_ret ?_
 refine ⟨.agg ⟨cs2⟩, [([(bM, .cells ⟨[.pointer (some ⟨bS, 0, none⟩), .int .i64 (l2)]⟩ 87 (0, 0))]) ++ ([(bS, .cells ⟨[v, .int .i64 (a2), .int .u64 (s2)]⟩ 45 (0, 0))]), k2], Ret.one rfl (RV.cell ty30 rfl (At.bx 3 rfl) (sub_a hO2.len)), (Sub.join (Sk (Sk (Sk Sub.nil)))), ?_⟩
 exact ⟨_, _, _, _, _, _, rfl, rfl, hO2, ⟨hn2, hz2⟩, hl2, ha2⟩
end Go.Proofs.Ytmdifonjepggcaa.Hs
