import Derived.Test.YtfdeibbpfgolcaaGreatRepll
import Derived.Laws.StructEq
/-! Maps from heads (a sort and a digest) to true. -/
namespace Go.Proofs.YtfdeibbpfgolcaaGreat.Hs
open Go Go.MapKept
set_option maxRecDepth 100000
def hdL (h : Hd) : List Value := [.int .i64 h.1] ++ sC h.2
def hdV (h : Hd) : Value := .agg ⟨hdL h⟩
theorem hdV_inj {a b : Hd} (h : hdV a = hdV b) : a = b := by
  unfold hdV hdL at h
  injection h with h
  injection h with h
  injection h with h1 h2
  injection h1 with _ h1
  exact Prod.ext h1 (sC_inj h2)
theorem bldHd (k : Int) (r : Sm) : ∀ w, (Instr.build 99 ⟨[(0, .int .i64 k), (1, .agg ⟨sC r⟩)]⟩).run Tryz.prog w = .ok (.agg ⟨[.int .i64 k] ++ sC r⟩) w := ZN Tryz.zeroValue99 Tryz.runUnderlying99 pl99 (by kernel_rfl)
def hdEnt (p : Hd × Nat) : MapEntry := { key := hdV p.1, val := .bool true, born := p.2 }
def hdE (l : List Hd) : List MapEntry := l.zipIdx.map hdEnt
def hdO (l : List Hd) : Obj := .map ⟨hdE l⟩ l.length
def hdC (r : Nat) (l : List Hd) : Zf := [(r, hdO l)]
theorem hdL_tl (h : Hd) : (hdL h).tail.take 32 = sC h.2 := by
  have hl := sC_len h.2
  unfold hdL
  generalize sC h.2 = l at hl
  simp [← hl]
theorem run_eqHd (a b : Hd) (w : World) : (Op.equal 99 (hdV a) (hdV b)).run Tryz.prog w = .ok (decide (a = b)) w := by
  unfold Op.equal
  have hq : Op.maxDepth = 9999 + 1 := rfl
  rw [hq]
  unfold hdV
  rw [run_equalIn_struct w 9999 99 ⟨hdL a⟩ ⟨hdL b⟩ (by kernel_rfl) (by kernel_rfl)]
  have hf : (Program.fieldsOf Tryz.prog 99).toList = [{ name := "kind", type := 3, offset := 0, embedded := false, tag := "", pkgPath := "hoarstone/term", byteOffset := 0 }, { name := "ref", type := 23, offset := 1, embedded := false, tag := "", pkgPath := "hoarstone/term", byteOffset := 8 }] := by kernel_rfl
  rw [hf]
  have p0 : ∀ h : Hd, (part 3 ⟨hdL h⟩ 0).run Tryz.prog w = .ok (.int .i64 h.1) w := fun h => by simp [part, Tryz.isAgg3, hdL]
  have p1 : ∀ h : Hd, (part 23 ⟨hdL h⟩ 1).run Tryz.prog w = .ok (.agg ⟨sC h.2⟩) w := fun h => by
    simp [part, Tryz.isAgg23, Tryz.sizeOf23, hdL_tl]
  have e1 := run_equalIn_bytes (P := Tryz.prog) w 9997 23 5 32 Tryz.underlying23 Tryz.underlying5 Tryz.sizeOf5 a.2.toList b.2.toList (by simp) (by simp)
  rw [← sC_map, ← sC_map] at e1
  have e0 : (Op.equalIn 9999 3 (.int .i64 a.1) (.int .i64 b.1)).run Tryz.prog w = .ok (a.1 == b.1) w := run_equalIn_int w 9998 3 .i64 .i64 _ _ Tryz.underlying3
  have e2 : (Op.equalIn 9999 23 (.agg ⟨sC a.2⟩) (.agg ⟨sC b.2⟩)).run Tryz.prog w = .ok (a.2.toList == b.2.toList) w := e1
  have hd2 : (a.2.toList == b.2.toList) = decide (a.2 = b.2) := by rw [Bool.eq_iff_iff]; simp
  rw [hd2] at e2
  obtain ⟨a1, a2⟩ := a
  obtain ⟨b1, b2⟩ := b
  simp only [Op.eqFields]
  by_cases h1 : a1 = b1
  · subst h1
    by_cases h2 : a2 = b2
    · subst h2; simp [p0, p1, e0, e2, Result.andThen]
    · simp [p0, p1, e0, e2, Result.andThen, h2]
  · have : (a1 == b1) = false := by simpa using h1
    simp [p0, e0, Result.andThen, this, h1]
theorem run_findAsk (h : Hd) (w : World) : ∀ (es : List MapEntry) (i : Nat), (∀ e ∈ es, ∃ x, e.key = hdV x ∧ e.val = .bool true) →
    (((∀ e ∈ es, e.key ≠ hdV h) ∧ (Instr.findAsking 99 (hdV h) es i).run Tryz.prog w = .ok none w) ∨
    ∃ j e, (Instr.findAsking 99 (hdV h) es i).run Tryz.prog w = .ok (some (i + j, .bool true)) w ∧ es[j]? = some e ∧ e.key = hdV h ∧ e.val = .bool true) := by
  intro es
  induction es with
  | nil => intro i _; exact .inl ⟨by simp, by simp [Instr.findAsking]⟩
  | cons e es ih =>
    intro i hk
    obtain ⟨x, hx, hv⟩ := hk e (by simp)
    by_cases hxh : h = x
    · subst hxh
      refine .inr ⟨0, e, ?_, rfl, hx, hv⟩
      simp [Instr.findAsking, hx, run_eqHd, Result.andThen, hv]
    · have hr : (Instr.findAsking 99 (hdV h) (e :: es) i).run Tryz.prog w = (Instr.findAsking 99 (hdV h) es (i + 1)).run Tryz.prog w := by
        simp [Instr.findAsking, hx, run_eqHd, Result.andThen, hxh]
      rcases ih (i + 1) (fun e he => hk e (by simp [he])) with ⟨h1, h2⟩ | ⟨j, e', h1, h2, h3, h4⟩
      · refine .inl ⟨fun e' he' => ?_, by rw [hr]; exact h2⟩
        rcases List.mem_cons.1 he' with rfl | he'
        · rw [hx]; intro q; exact hxh (hdV_inj q).symm
        · exact h1 e' he'
      · refine .inr ⟨j + 1, e', ?_, h2, h3, h4⟩
        rw [hr, h1]; congr 3; omega
theorem hdE_key (l : List Hd) : ∀ e ∈ hdE l, ∃ x, e.key = hdV x ∧ e.val = .bool true := by
  intro e he
  obtain ⟨p, hp, rfl⟩ := List.mem_map.1 he
  exact ⟨p.1, rfl, rfl⟩
theorem hdE_mem {l : List Hd} {h : Hd} (hm : h ∈ l) : ∃ e ∈ hdE l, e.key = hdV h := by
  obtain ⟨i, hi, rfl⟩ := List.getElem_of_mem hm
  exact ⟨hdEnt (l[i], i), List.mem_map.2 ⟨(l[i], i), List.mk_mem_zipIdx_iff_getElem?.2 (by simp [hi]), rfl⟩, rfl⟩
theorem run_findHd (l : List Hd) (h : Hd) (w : World) : (h ∉ l ∧ (Instr.findKey 99 (hdV h) (hdE l)).run Tryz.prog w = .ok none w) ∨
    (h ∈ l ∧ ∃ j e, (Instr.findKey 99 (hdV h) (hdE l)).run Tryz.prog w = .ok (some (j, .bool true)) w ∧ (hdE l)[j]? = some e ∧ e.key = hdV h ∧ e.val = .bool true) := by
  cases l with
  | nil => exact .inl ⟨by simp, by simp [Instr.findKey, hdE, Instr.findNow, Tryz.runUnderlying99, Result.andThen]⟩
  | cons x l =>
    have hr : (Instr.findKey 99 (hdV h) (hdE (x :: l))).run Tryz.prog w = (Instr.findAsking 99 (hdV h) (hdE (x :: l)) 0).run Tryz.prog w := by
      have : hdE (x :: l) = hdEnt (x, 0) :: (List.zipIdx l 1).map hdEnt := rfl
      rw [this]
      simp [Instr.findKey, Instr.findNow, Tryz.runUnderlying99, Result.andThen, Instr.sameNow, hdEnt, hdV]
    rw [hr]
    rcases run_findAsk h w (hdE (x :: l)) 0 (hdE_key _) with ⟨h1, h2⟩ | ⟨j, e, h1, h2, h3, h4⟩
    · refine .inl ⟨fun hm => ?_, h2⟩
      obtain ⟨e, he, hk⟩ := hdE_mem hm
      exact h1 e he hk
    · refine .inr ⟨?_, j, e, by rw [h1]; congr 3; omega, h2, h3, h4⟩
      have he := List.mem_of_getElem? h2
      obtain ⟨p, hp, rfl⟩ := List.mem_map.1 he
      have : p.1 = h := hdV_inj h3
      rw [← this]
      exact (List.mem_zipIdx' hp).2 ▸ List.getElem_mem _
theorem run_each {P : Program} {w : World} {α : Type} (f : α → Sem Unit) : ∀ (l : List α), (∀ x ∈ l, (f x).run P w = .ok () w) → (forIn l PUnit.unit (fun x _ => do f x; pure (ForInStep.yield PUnit.unit)) : Sem PUnit).run P w = .ok PUnit.unit w := by
  intro l
  induction l with
  | nil => intro _; simp
  | cons x l ih =>
    intro h
    have h1 := h x (by simp)
    have h2 := ih (fun y hy => h y (by simp [hy]))
    simp only [List.forIn_cons, Sem.run_bind, h1, Result.andThen, Sem.run_pure]
    exact h2
theorem run_checkSum (em : Bool) (n : Nat) (r : Sm) (w : World) : (Instr.checkKey em (n + 2) 23 (.agg ⟨sC r⟩)).run Tryz.prog w = .ok () w := by
  rw [Instr.checkKey]
  simp only [Sem.run_bind, run_underlying Tryz.underlying23, Result.andThen]
  simp only [Std.Legacy.Range.forIn_eq_forIn_range', Std.Legacy.Range.size, Nat.sub_zero, Nat.add_sub_cancel, Nat.div_one]
  have := run_each (P := Tryz.prog) (w := w) (fun i => (do Instr.checkKey em (n + 1) 5 (← part 5 ⟨sC r⟩ (i * (← Go.sizeOf 5))) : Sem Unit)) (List.range' 0 32) (fun i hi => by
    have hi : i < 32 := by have := List.mem_range'_1.1 hi; omega
    have hp : (part 5 ⟨sC r⟩ (i * 1)).run Tryz.prog w = .ok (.int .u8 (r[i].toNat : Int)) w := by
      have := sC_get r i hi
      have e : (⟨sC r⟩ : Array Value)[i]? = some (.int .u8 (r[i].toNat : Int)) := by simpa using this
      simp [part, Tryz.isAgg5, e]
    simp only [Sem.run_bind, Tryz.sizeOf5, Result.andThen, hp]
    rw [Instr.checkKey]
    simp [run_underlying Tryz.underlying5, Result.andThen])
  simp at this ⊢
  rw [this]
theorem run_checkHd (em : Bool) (h : Hd) (w : World) : (Instr.checkKey em 10000 99 (hdV h)).run Tryz.prog w = .ok () w := by
  show (Instr.checkKey em (9999 + 1) 99 (.agg ⟨hdL h⟩)).run Tryz.prog w = _
  have p0 : (part 3 ⟨hdL h⟩ 0).run Tryz.prog w = .ok (.int .i64 h.1) w := by simp [part, Tryz.isAgg3, hdL]
  have p1 : (part 23 ⟨hdL h⟩ 1).run Tryz.prog w = .ok (.agg ⟨sC h.2⟩) w := by
    simp [part, Tryz.isAgg23, Tryz.sizeOf23, hdL_tl]
  have c0 : (Instr.checkKey em 9999 3 (.int .i64 h.1)).run Tryz.prog w = .ok () w := by
    show (Instr.checkKey em (9998 + 1) 3 (.int .i64 h.1)).run Tryz.prog w = _
    rw [Instr.checkKey]; simp [run_underlying Tryz.underlying3, Result.andThen]
  have c1 : (Instr.checkKey em 9999 23 (.agg ⟨sC h.2⟩)).run Tryz.prog w = .ok () w := run_checkSum em 9997 h.2 w
  rw [Instr.checkKey]
  simp [Tryz.runUnderlying99, Result.andThen, p0, p1, c0, c1]
theorem hdE_push (l : List Hd) (h : Hd) : hdE (l ++ [h]) = hdE l ++ [{ key := hdV h, val := .bool true, born := l.length }] := by simp [hdE, hdEnt, List.zipIdx_append]
theorem run_keepHd (h : Hd) (w : World) : (Instr.keyThatStays (hdV h) (hdV h)).run Tryz.prog w = .ok (hdV h) w := by
  have hz : ∀ (l : List Value), (∀ v ∈ l, ∃ k n, v = .int k n) → ((l.zip l).all fun (p : Value × Value) => Instr.sameBits 9999 p.1 p.2) = true := by
    intro l hl
    rw [List.all_eq_true]
    intro p hp
    obtain ⟨i, hi, rfl⟩ := List.getElem_of_mem hp
    simp only [List.getElem_zip]
    have hil : i < l.length := by simpa using hi
    obtain ⟨k, n, e⟩ := hl l[i] (List.getElem_mem hil)
    rw [e]; simp [Instr.sameBits]
  have hint : ∀ v ∈ hdL h, ∃ k n, v = Value.int k n := by
    intro v hv
    rcases List.mem_append.1 hv with hv | hv
    · rw [List.mem_singleton] at hv; exact ⟨_, _, hv⟩
    · obtain ⟨i, hi, rfl⟩ := List.getElem_of_mem hv
      have e := sC_get h.2 i hi
      rw [List.getElem?_eq_getElem hi] at e
      exact ⟨_, _, Option.some.inj e⟩
  have hs : Instr.sameBits (9999 + 1) (hdV h) (hdV h) = true := by
    unfold hdV
    rw [Instr.sameBits]
    simp only [beq_self_eq_true, Bool.true_and]
    exact hz (hdL h) hint
  unfold Instr.keyThatStays
  rw [if_pos hs]; rfl
section
variable {H : Heap} {n : Nat} {r0 : Option Nat} {ρ : Nat → Value} {M : List Zf} {K : Value → List Zf → Prop} {d : Option Nat} {ot : TypeId} {pos : String} {af : Array Edge} {g : Option (Nat × Bool)} {x y z : Operand}
theorem Runs_makeHd {c : Cx} {T : TypeId} (h : ∀ r, K (.map (some r)) (hdC r [] :: M)) : Runs c H ⟨d, .makeMap T none, ot, pos, af, g⟩ ρ M K := fun F w m => by
  refine ⟨.map (some w.heap.size), { w with heap := w.heap.push (.map #[] 0) }, [(w.heap.size, .map #[] 0)] :: M, .inl ?_, m.push (w' := { w with heap := w.heap.push (.map #[] 0) }) rfl, h _⟩
  simp [execOp, Instr.makeMap, Result.andThen]
theorem Runs_updateHd {T et : TypeId} {i r : Nat} {l : List Hd} {k : Int} {s : Sm} (hm : Tryz.prog.underlying T = some (.map 99 et)) (hx : ev n ρ x = .map (some r)) (hy : ev n ρ y = .agg ⟨[.int .i64 k] ++ sC s⟩) (hz : ev n ρ z = .bool true)
    (hi : M[i]? = some (hdC r l)) (h : K undef (M.set i (hdC r (Ys l (k, s))))) : Runs ⟨Tryz.prog, r0, n⟩ H ⟨d, .mapUpdate T x y z, ot, pos, af, g⟩ ρ M K := fun F w m => by
  have hb : w.heap[r]? = some (.map ⟨hdE l⟩ l.length) := (m.perm ((Z6 hi).append_right F)).own r _ (List.mem_cons_self ..)
  have hy : ev n ρ y = hdV (k, s) := hy
  rcases run_findHd l (k, s) w with ⟨h0, h1⟩ | ⟨h0, j, e, h1, h2, h3, h4⟩
  · refine ⟨undef, _, _, .inr ⟨?_, rfl⟩, m.put (o' := hdO (l ++ [(k, s)])) hi, by rw [Ys, if_neg h0] at h; exact h⟩
    simp [execOp, Instr.mapUpdate, hx, hy, hz, run_underlying hm, MapKept.run_getObj_map hb, run_checkHd, h1, MapKept.run_setObj_map _ hb, Result.andThen, hdO, hdE_push]
  · refine ⟨undef, _, _, .inr ⟨?_, rfl⟩, m.put (o' := hdO l) hi, by rw [Ys, if_pos h0] at h; exact h⟩
    have hmod : (⟨hdE l⟩ : Array MapEntry).modify j (fun e => { e with key := hdV (k, s), val := .bool true }) = ⟨hdE l⟩ := by
      apply Array.ext
      · simp
      · intro q hq1 hq2
        rw [Array.getElem_modify]
        by_cases hq : j = q
        · subst hq
          rw [if_pos rfl]
          have : (hdE l)[j]? = some ((hdE l)[j]'hq2) := List.getElem?_eq_getElem hq2
          rw [h2] at this
          injection this with this
          show ({ (hdE l)[j]'hq2 with key := hdV (k, s), val := Value.bool true } : MapEntry) = (hdE l)[j]'hq2
          rw [← this]
          cases e; cases h3; cases h4; rfl
        · rw [if_neg hq]
    have hj : (⟨hdE l⟩ : Array MapEntry)[j]? = some e := by simpa using h2
    simp only [execOp, Instr.mapUpdate, hx, hy, hz, Sem.run_bind, run_underlying hm, MapKept.run_getObj_map hb, run_checkHd, h1, Result.andThen]
    rw [hj]
    simp only [Option.map_some, Option.getD_some, h3, run_keepHd, hmod, MapKept.run_setObj_map _ hb]
    rfl
theorem Runs_lookupHd {T et : TypeId} {i r : Nat} {l : List Hd} {k : Int} {s : Sm} (hm : Tryz.prog.underlying T = some (.map 99 et)) (hzv : ∀ w, (zeroValue et).run Tryz.prog w = .ok (.bool false) w) (hx : ev n ρ x = .map (some r)) (hy : ev n ρ y = .agg ⟨[.int .i64 k] ++ sC s⟩)
    (hi : M[i]? = some (hdC r l)) (h : K (.bool (decide ((k, s) ∈ l))) M) : Runs ⟨Tryz.prog, r0, n⟩ H ⟨d, .lookup T x y false, ot, pos, af, g⟩ ρ M K := fun F w m => by
  have hb : w.heap[r]? = some (.map ⟨hdE l⟩ l.length) := (m.perm ((Z6 hi).append_right F)).own r _ (List.mem_cons_self ..)
  have hy : ev n ρ y = hdV (k, s) := hy
  refine ⟨_, _, _, .inl ?_, m, h⟩
  rcases run_findHd l (k, s) w with ⟨h0, h1⟩ | ⟨h0, j, e, h1, h2, h3, h4⟩
  · simp [execOp, Instr.lookup, hx, hy, run_underlying hm, MapKept.run_getObj_map hb, run_checkHd, h1, hzv, Result.andThen, h0]
  · simp [execOp, Instr.lookup, hx, hy, run_underlying hm, MapKept.run_getObj_map hb, run_checkHd, h1, Result.andThen, h0]
end
end Go.Proofs.YtfdeibbpfgolcaaGreat.Hs
