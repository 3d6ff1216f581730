import Derived.Test.YtfdeibbpfgolcaaGreatReple
import Derived.MapKept
/-! Maps from numbers to true: sets of numbers. Generic: no program is named. -/
namespace Go.Proofs.YtfdeibbpfgolcaaGreat.Hs
open Go Go.MapKept
def ent (p : Int × Nat) : MapEntry := { key := .int .i64 p.1, val := .bool true, born := p.2 }
def metE (l : List Int) : List MapEntry := l.zipIdx.map ent
def metO (l : List Int) : Obj := .map ⟨metE l⟩ l.length
def metC (r : Nat) (l : List Int) : Zf := [(r, metO l)]
def addK (l : List Int) (k : Int) : List Int := if k ∈ l then l else l ++ [k]
theorem metE_key (l : List Int) : ∀ x ∈ metE l, IsKey (.int .i64) x.key ∧ x.val = .bool true ∧ ∃ n ∈ l, x.key = .int .i64 n := by
  intro x hx
  obtain ⟨p, hp, rfl⟩ := List.mem_map.1 hx
  exact ⟨rfl, rfl, p.1, (List.mem_zipIdx' hp).2 ▸ List.getElem_mem _, rfl⟩
theorem metE_mem {l : List Int} {n : Int} (h : n ∈ l) : ∃ x ∈ metE l, x.key = .int .i64 n := by
  obtain ⟨i, hi, rfl⟩ := List.getElem_of_mem h
  exact ⟨ent (l[i], i), List.mem_map.2 ⟨(l[i], i), List.mk_mem_zipIdx_iff_getElem?.2 (by simp [hi]), rfl⟩, rfl⟩
theorem met_find (l : List Int) (k : Int) : (k ∉ l ∧ Instr.findNow (.int .i64) (.int .i64 k) (metE l) 0 = some none) ∨
    (k ∈ l ∧ ∃ j e, Instr.findNow (.int .i64) (.int .i64 k) (metE l) 0 = some (some (j, .bool true)) ∧ (metE l)[j]? = some e ∧ e.key = .int .i64 k ∧ e.val = .bool true) := by
  rcases findNow_spec (d := .int .i64) (k := .int .i64 k) rfl (metE l) 0 (fun x hx => (metE_key l x hx).1) with ⟨h1, h2⟩ | ⟨j, e, h1, h2, h3⟩
  · refine .inl ⟨fun hk => ?_, h1⟩
    obtain ⟨x, hx, hxk⟩ := metE_mem hk
    exact h2 x hx hxk
  · have hm := List.mem_of_getElem? h2
    obtain ⟨_, hv, n, hn, hkn⟩ := metE_key l e hm
    have : n = k := by rw [h3] at hkn; cases hkn; rfl
    subst this
    refine .inr ⟨hn, j, e, ?_, h2, h3, hv⟩
    rw [h1, hv, Nat.zero_add]
theorem metE_push (l : List Int) (k : Int) : metE (l ++ [k]) = metE l ++ [{ key := .int .i64 k, val := .bool true, born := l.length }] := by
  simp [metE, ent, List.zipIdx_append]
section
variable {c : Cx} {H : Heap} {ρ : Nat → Value} {M : List Zf} {K : Value → List Zf → Prop} {d : Option Nat} {ot : TypeId} {pos : String} {af : Array Edge} {g : Option (Nat × Bool)} {x y z : Operand}
theorem Runs_makeMap {T : TypeId} (h : ∀ r, K (.map (some r)) (metC r [] :: M)) : Runs c H ⟨d, .makeMap T none, ot, pos, af, g⟩ ρ M K := fun F w m => by
  refine ⟨.map (some w.heap.size), { w with heap := w.heap.push (.map #[] 0) }, [(w.heap.size, .map #[] 0)] :: M, .inl ?_, m.push (w' := { w with heap := w.heap.push (.map #[] 0) }) rfl, h _⟩
  simp [execOp, Instr.makeMap, Result.andThen]
theorem Mem.put {F : Zf} {w : World} {i b : Nat} {o o' : Obj} (m : Mem w (M.flatten ++ F) H) (hi : M[i]? = some [(b, o)]) : Mem { w with heap := w.heap.setIfInBounds b o' } ((M.set i [(b, o')]).flatten ++ F) H := by
  have p1 : (M.flatten ++ F).Perm ((b, o) :: ((M.eraseIdx i).flatten ++ F)) := (Z6 hi).append_right F
  have p2 : ((M.set i [(b, o')]).flatten ++ F).Perm ((b, o') :: ((M.eraseIdx i).flatten ++ F)) := (flatten_set (k' := [(b, o')]) hi).append_right F
  have m1 := m.perm p1
  have hb := m1.own b o (List.mem_cons_self ..)
  exact (m1.set (heap_set hb).1 (fun k hk => (heap_set hb).2 k hk)).perm p2.symm
theorem Runs_mapUpdate {T kt et : TypeId} {i r : Nat} {l : List Int} {k : Int} (hm : c.P.underlying T = some (.map kt et)) (hd : c.P.underlying kt = some (.int .i64)) (hx : ev c.n ρ x = .map (some r)) (hy : ev c.n ρ y = .int .i64 k) (hz : ev c.n ρ z = .bool true)
    (hi : M[i]? = some (metC r l)) (h : K undef (M.set i (metC r (addK l k)))) : Runs c H ⟨d, .mapUpdate T x y z, ot, pos, af, g⟩ ρ M K := fun F w m => by
  have hb : w.heap[r]? = some (.map ⟨metE l⟩ l.length) := (m.perm ((Z6 hi).append_right F)).own r _ (List.mem_cons_self ..)
  have hk : IsKey (.int .i64) (.int .i64 k) := rfl
  rcases met_find l k with ⟨h0, h1⟩ | ⟨h0, j, e, h1, h2, h3, h4⟩
  · refine ⟨undef, _, _, .inr ⟨?_, rfl⟩, m.put (o' := metO (l ++ [k])) hi, by rw [addK, if_neg h0] at h; exact h⟩
    simp [execOp, Instr.mapUpdate, hx, hy, hz, run_underlying hm, MapKept.run_getObj_map hb, run_checkKey hd hk, run_findKey hd h1, run_setObj_map _ hb, Result.andThen, metO, metE_push]
  · refine ⟨undef, _, _, .inr ⟨?_, rfl⟩, m.put (o' := metO l) hi, by rw [addK, if_pos h0] at h; exact h⟩
    have hmod : (⟨metE l⟩ : Array MapEntry).modify j (fun e => { e with key := .int .i64 k, val := .bool true }) = ⟨metE l⟩ := by
      apply Array.ext
      · simp
      · intro q hq1 hq2
        rw [Array.getElem_modify]
        by_cases hq : j = q
        · subst hq
          rw [if_pos rfl]
          have : (metE l)[j]? = some ((metE l)[j]'hq2) := List.getElem?_eq_getElem hq2
          rw [h2] at this
          injection this with this
          show ({ (metE l)[j]'hq2 with key := Value.int .i64 k, val := Value.bool true } : MapEntry) = (metE l)[j]'hq2
          rw [← this]
          cases e; cases h3; cases h4; rfl
        · rw [if_neg hq]
    have hj : (⟨metE l⟩ : Array MapEntry)[j]? = some e := by simpa using h2
    have hks : (Instr.keyThatStays (.int .i64 k) (.int .i64 k)).run c.P w = .ok (.int .i64 k) w := run_keyThatStays hk
    simp only [execOp, Instr.mapUpdate, hx, hy, hz, Sem.run_bind, run_underlying hm, MapKept.run_getObj_map hb, run_checkKey hd hk, run_findKey hd h1, Result.andThen]
    rw [hj]
    simp only [Option.map_some, Option.getD_some, h3, hks, hmod, run_setObj_map _ hb]
    rfl
theorem Runs_lookup {T kt et : TypeId} {i r : Nat} {l : List Int} {k : Int} (hm : c.P.underlying T = some (.map kt et)) (hd : c.P.underlying kt = some (.int .i64)) (hzv : ∀ w, (zeroValue et).run c.P w = .ok (.bool false) w) (hx : ev c.n ρ x = .map (some r)) (hy : ev c.n ρ y = .int .i64 k)
    (hi : M[i]? = some (metC r l)) (h : K (.bool (decide (k ∈ l))) M) : Runs c H ⟨d, .lookup T x y false, ot, pos, af, g⟩ ρ M K := fun F w m => by
  have hb : w.heap[r]? = some (.map ⟨metE l⟩ l.length) := (m.perm ((Z6 hi).append_right F)).own r _ (List.mem_cons_self ..)
  have hk : IsKey (.int .i64) (.int .i64 k) := rfl
  refine ⟨_, _, _, .inl ?_, m, h⟩
  rcases met_find l k with ⟨h0, h1⟩ | ⟨h0, j, e, h1, h2, h3, h4⟩
  · simp [execOp, Instr.lookup, hx, hy, run_underlying hm, MapKept.run_getObj_map hb, run_checkKey hd hk, run_findKey hd h1, hzv, Result.andThen, h0]
  · simp [execOp, Instr.lookup, hx, hy, run_underlying hm, MapKept.run_getObj_map hb, run_checkKey hd hk, run_findKey hd h1, Result.andThen, h0]
end
end Go.Proofs.YtfdeibbpfgolcaaGreat.Hs
/-! Layer 4 in plain Lean: the mapper, with a state handed on; half of a row replaced. -/
namespace Go.Proofs.YtfdeibbpfgolcaaGreat.Hs
open Go
mutual
def Yz {σ : Type} (rf : Sm → Sm) (vf : Int → Int → σ → Tm × σ) : Int → Tm → σ → Tm × σ
  | b, .mk k n r kids cases, s => if k = 1 ∧ b ≤ n then vf (n - b) b s else (.mk k n (rf r) (Yp rf vf b k 0 kids s).1 (YM rf vf b cases (Yp rf vf b k 0 kids s).2).1, (YM rf vf b cases (Yp rf vf b k 0 kids s).2).2)
def Yp {σ : Type} (rf : Sm → Sm) (vf : Int → Int → σ → Tm × σ) : Int → Int → Nat → List Tm → σ → List Tm × σ
  | _, _, _, [], s => ([], s)
  | b, k, i, t :: l, s => ((Yz rf vf (b + more k i) t s).1 :: (Yp rf vf b k (i + 1) l (Yz rf vf (b + more k i) t s).2).1, (Yp rf vf b k (i + 1) l (Yz rf vf (b + more k i) t s).2).2)
def YM {σ : Type} (rf : Sm → Sm) (vf : Int → Int → σ → Tm × σ) : Int → List (Pt × Tm) → σ → List (Pt × Tm) × σ
  | _, [], s => ([], s)
  | b, (p, t) :: l, s => ((mapP rf p, (Yz rf vf (b + (binds p : Int)) t s).1) :: (YM rf vf b l (Yz rf vf (b + (binds p : Int)) t s).2).1, (YM rf vf b l (Yz rf vf (b + (binds p : Int)) t s).2).2)
end
section
variable {σ : Type} (rf : Sm → Sm) (vf : Int → Int → σ → Tm × σ)
theorem mapTs_len (b k : Int) (l : List Tm) : ∀ i s, (Yp rf vf b k i l s).1.length = l.length := by
  induction l with
  | nil => intro i s; simp [Yp]
  | cons x l ih => intro i s; simp [Yp, ih]
theorem mapCs_len (b : Int) (l : List (Pt × Tm)) : ∀ s, (YM rf vf b l s).1.length = l.length := by
  induction l with
  | nil => intro s; simp [YM]
  | cons x l ih => intro s; obtain ⟨p, t⟩ := x; simp [YM, ih]
theorem mapTs_take (b k : Int) (l : List Tm) : ∀ (i j : Nat) (s : σ) (h : j < l.length),
    Yp rf vf b k i (l.take (j + 1)) s = ((Yp rf vf b k i (l.take j) s).1 ++ [(Yz rf vf (b + more k ((i + j : Nat) : Int)) l[j] (Yp rf vf b k i (l.take j) s).2).1], (Yz rf vf (b + more k ((i + j : Nat) : Int)) l[j] (Yp rf vf b k i (l.take j) s).2).2) := by
  induction l with
  | nil => intro i j s h; exact absurd h (by simp)
  | cons x l ih =>
    intro i j s h
    cases j with
    | zero => simp [Yp]
    | succ j =>
      have := ih (i + 1) j (Yz rf vf (b + more k i) x s).2 (by simpa using h)
      simp only [List.take_succ_cons, Yp, List.getElem_cons_succ]
      rw [this, show i + 1 + j = i + (j + 1) from by omega]
      rfl
theorem mapTs_take0 (b k : Int) (l : List Tm) (j : Nat) (s : σ) (h : j < l.length) :
    Yp rf vf b k 0 (l.take (j + 1)) s = ((Yp rf vf b k 0 (l.take j) s).1 ++ [(Yz rf vf (b + more k (j : Int)) l[j] (Yp rf vf b k 0 (l.take j) s).2).1], (Yz rf vf (b + more k (j : Int)) l[j] (Yp rf vf b k 0 (l.take j) s).2).2) := by
  have := mapTs_take rf vf b k l 0 j s h
  rwa [Nat.zero_add] at this
theorem mapCs_take (b : Int) (l : List (Pt × Tm)) : ∀ (j : Nat) (s : σ) (h : j < l.length),
    YM rf vf b (l.take (j + 1)) s = ((YM rf vf b (l.take j) s).1 ++ [(mapP rf l[j].1, (Yz rf vf (b + (binds l[j].1 : Int)) l[j].2 (YM rf vf b (l.take j) s).2).1)], (Yz rf vf (b + (binds l[j].1 : Int)) l[j].2 (YM rf vf b (l.take j) s).2).2) := by
  induction l with
  | nil => intro j s h; exact absurd h (by simp)
  | cons x l ih =>
    obtain ⟨p, t⟩ := x
    intro j s h
    cases j with
    | zero => simp [YM]
    | succ j =>
      have := ih j (Yz rf vf (b + (binds p : Int)) t s).2 (by simpa using h)
      simp only [List.take_succ_cons, YM, List.getElem_cons_succ]
      rw [this]
      rfl
end

/-- the mapper without a state -/
def mapQ (rf : Sm → Sm) (vf : Int → Int → Tm) (b : Int) (t : Tm) : Tm := (Yz (σ := Unit) rf (fun n b s => (vf n b, s)) b t ()).1
def shv (dy fr n b : Int) : Tm := .mk 1 ((if fr ≤ n then n + dy else n) + b) zS [] []
def shT (dy fr : Int) (t : Tm) : Tm := mapQ (fun s => s) (shv dy fr) 0 t
def sbv (n : Int) (u : Tm) (k b : Int) : Tm := if k = n then shT b 0 u else .mk 1 ((if n < k then k - 1 else k) + b) zS [] []
def sbT (n : Int) (u : Tm) (t : Tm) : Tm := mapQ (fun s => s) (sbv n u) 0 t
def substP (t : Tm) (n : Int) (u : Tm) : Tm × Int := if ZI [t, u] = 0 then (if n < 0 ∨ 59 < n then (zT, 3) else if YU (sbT n u t) = true then (zT, 11) else (sbT n u t, 0)) else (zT, ZI [t, u])
def fstI (p : Int → Bool) : List Int → Nat → Int
  | [], _ => -1
  | x :: l, i => if p x = true then (i : Int) else fstI p l (i + 1)
theorem fstI_any (p : Int → Bool) (l : List Int) : ∀ i, decide (0 ≤ fstI p l i) = l.any p := by
  induction l with
  | nil => intro i; simp [fstI]
  | cons x l ih =>
    intro i
    rw [fstI, List.any_cons]
    by_cases h : p x = true
    · rw [if_pos h, h]; simp
    · rw [if_neg h, ih, Bool.eq_false_iff.2 h]; rfl
def mvOk (dy fr n : Int) : Bool := decide (n < fr) || !decide (n + dy < fr ∨ 59 < n + dy)

def metV (n b : Int) (s : List Int) : Tm × List Int := (.mk 1 (n + b) zS [] [], addK s n)
def metT (t : Tm) : List Int := (Yz (fun s => s) metV 0 t []).2
def metF (l : List Int) : List Bool := (List.range 60).map fun i : Nat => decide ((i : Int) ∈ l)
theorem metF_get (l : List Int) (j : Nat) (h : j < 60) : (metF l).getD j false = decide ((j : Int) ∈ l) := by simp [metF, h]
def freeP (t : Tm) : List Int := upTo (metF (metT t)) 60
theorem freeP_len (t : Tm) : (freeP t).length ≤ 60 := upTo_len _ _
theorem freeP_bound (t : Tm) : ∀ x ∈ freeP t, 0 ≤ x ∧ x < 60 := upTo_bound _ 60
def shiftP (t : Tm) (dy fr : Int) : Tm × Int := if ZI [t] = 0 then (if (dy < -60 ∨ 60 < dy) ∨ (fr < 0 ∨ 60 < fr) then (zT, 3) else if (freeP t).all (mvOk dy fr) = true then (shT dy fr t, 0) else (zT, 1)) else (zT, ZI [t])
theorem len_ite {c : Prop} [Decidable c] {a b : List Value} {n : Nat} (h1 : a.length = n) (h2 : b.length = n) : (if c then a else b).length = n := by split <;> assumption
theorem okc_ite {c : Prop} [Decidable c] {a b : List Value} (h1 : okc a) (h2 : okc b) : okc (if c then a else b) := by split <;> assumption
def freeE (t : Tm) : List Int × Int := if ZI [t] = 0 then (freeP t, 0) else ([], ZI [t])
theorem RIs.mono {h h' : Heap} (hh : Hle h h') {v : Value} {l : List Int} (q : Hs.rdS RI 1 h v l) : Hs.rdS RI 1 h' v l := rdS.mono q hh fun _ _ _ e => e
theorem Own.rd1 {T : TypeId} {v : Value} {e : List Value} {k : Zf} {h : Heap} {t : Tm} (o : Own T 36 v [e] k) (hk : Has k h) (ht : RT h e t) : Hs.rdS RT 36 h v [t] :=
  o.rdS rfl (by simp) hk fun i h1 _ => by
    have : i = 0 := by simpa using h1
    subst this; exact ht
theorem Own.rd2 {T : TypeId} {v : Value} {e e' : List Value} {k : Zf} {h : Heap} {t t' : Tm} (o : Own T 36 v [e, e'] k) (hk : Has k h) (ht : RT h e t) (ht' : RT h e' t') : Hs.rdS RT 36 h v [t, t'] :=
  o.rdS rfl (by simp) hk fun i h1 _ => by
    have : i = 0 ∨ i = 1 := by simp at h1; omega
    rcases this with rfl | rfl
    · exact ht
    · exact ht'

/-- A row of terms of which the first j are new ones, owned, and the others are read as they were. -/
def Half (H : Heap) (kids new : List Tm) (j : Nat) (es : List (List Value)) (c : Zf) : Prop :=
  es.length = kids.length ∧ OTs new (es.take j) c ∧ ∀ i (h1 : i < es.length) (h2 : i < kids.length), j ≤ i → RT H es[i] kids[i]
theorem Half.step {H : Heap} {kids new : List Tm} {j : Nat} {es : List (List Value)} {c : Zf} (h : Half H kids new j es c) (hj : j < kids.length) {t : Tm} {e : List Value} {k : Zf} (ht : OT t e k) : Half H kids (new ++ [t]) (j + 1) (es.set j e) (c ++ k) := by
  obtain ⟨h1, h2, h3⟩ := h
  refine ⟨by rw [List.length_set]; exact h1, ?_, fun i hi1 hi2 hji => ?_⟩
  · have : (es.set j e).take (j + 1) = es.take j ++ [e] := by
      rw [List.take_add_one, List.getElem?_set_self (by omega), List.take_set_of_le (Nat.le_refl _)]; rfl
    rw [this]
    exact h2.snoc ht
  · rw [List.getElem_set_ne (by omega)]
    exact h3 i (by simpa using hi1) hi2 (by omega)
theorem Half.mono {H H' : Heap} {kids new : List Tm} {j : Nat} {es : List (List Value)} {c : Zf} (hh : Hle H H') (h : Half H kids new j es c) : Half H' kids new j es c :=
  ⟨h.1, h.2.1, fun i h1 h2 h3 => (h.2.2 i h1 h2 h3).mono hh⟩
theorem Half.done {H : Heap} {kids new : List Tm} {es : List (List Value)} {c : Zf} {j : Nat} (h : Half H kids new j es c) (hj : kids.length ≤ j) : OTs new es c := by
  have h2 := h.2.1
  rwa [List.take_of_length_le (by rw [h.1]; exact hj)] at h2
theorem Half.start {H : Heap} {kids : List Tm} {es : List (List Value)} (h1 : es.length = kids.length) (h2 : ∀ i (h1 : i < es.length) (h2 : i < kids.length), RT H es[i] kids[i]) : Half H kids [] 0 es [] :=
  ⟨h1, by simpa using OTs.nil, fun i a b _ => h2 i a b⟩

/-- The cells of what a slice reads as: for copy, and for append. -/
theorem rows.cells {α : Type} {E : List Value → α → Prop} {sz : Nat} {row : List Value} {l : List α} : ∀ {o : Nat}, rows E sz row o l → ∃ es : List (List Value), es.length = l.length ∧ (∀ i (h1 : i < es.length) (h2 : i < l.length), E es[i] l[i]) ∧
    (∀ e ∈ es, e.length = sz) ∧ es.flatten = (row.drop o).take (l.length * sz) ∧ (l ≠ [] → o + l.length * sz ≤ row.length) := by
  induction l with
  | nil => intro o _; exact ⟨[], rfl, fun i h1 => absurd h1 (by simp), by simp, by simp, fun h => absurd rfl h⟩
  | cons x l ih =>
    intro o h
    obtain ⟨⟨cs, h1, h2⟩, h3⟩ := h
    obtain ⟨es, e1, e2, e3, e4, e5⟩ := ih h3
    obtain ⟨hle, hcs⟩ := sub_some h1
    have hl : cs.length = sz := by rw [hcs, List.length_take, List.length_drop]; omega
    refine ⟨cs :: es, by simp [e1], fun i h4 h5 => ?_, fun e he => ?_, ?_, fun _ => ?_⟩
    · cases i with
      | zero => exact h2
      | succ i => exact e2 i (by simpa using h4) (by simpa using h5)
    · rcases List.mem_cons.1 he with rfl | he
      · exact hl
      · exact e3 e he
    · rw [List.flatten_cons, e4, List.length_cons, Nat.succ_mul, Nat.add_comm (l.length * sz) sz, List.take_add, List.drop_drop, ← hcs]
    · by_cases hn : l = []
      · subst hn; simpa using hle
      · have := e5 hn; rw [List.length_cons, Nat.succ_mul]; omega
theorem rdS.src {P : Program} {α : Type} {E : Heap → List Value → α → Prop} {sz : Nat} {h : Heap} {v : Value} {l : List α} (o : rdS E sz h v l) : ∃ es : List (List Value), es.length = l.length ∧ (∀ i (h1 : i < es.length) (h2 : i < l.length), E h es[i] l[i]) ∧
    (∀ e ∈ es, e.length = sz) ∧ ∀ w L h', Hle h h' → Mem w L h' → Src P sz w v l.length es.flatten := by
  obtain ⟨a, cap, rfl, hn, h0 | ⟨b, o, row, T, fr, rfl, hb, hr⟩⟩ := o
  · have : l = [] := List.eq_nil_of_length_eq_zero h0
    subst this
    refine ⟨[], rfl, fun i h1 => absurd h1 (by simp), by simp, fun w L h' _ m => ⟨by simp [Builtin.lenOf], fun m hm => ?_, by simp⟩⟩
    have : m = 0 := by simpa using hm
    subst this
    cases a with
    | none => simp [Builtin.firstCells]
    | some a => simpa using run_firstCells_some (P := P) w sz 0 a 0 cap [] (by simp) (fun j v hv => by simp at hv)
  · obtain ⟨es, e1, e2, e3, e4, e5⟩ := rows.cells hr
    refine ⟨es, e1, e2, e3, fun w L h' hh m => ?_⟩
    by_cases hn : l = []
    · subst hn
      have : es = [] := List.eq_nil_of_length_eq_zero e1
      subst this
      refine ⟨by simp [Builtin.lenOf], fun m hm => ?_, by simp⟩
      have : m = 0 := by simpa using hm
      subst this
      simpa using run_firstCells_some (P := P) w sz 0 ⟨b, o, none⟩ 0 cap [] (by simp) (fun j v hv => by simp at hv)
    · exact Src.row (m.imm _ _ (hh _ _ hb)) (by rw [sub_mk (e5 hn), e4])

theorem kids_src {P : Program} {H : Heap} {ks : Value} {kids : List Tm} (hks : rdS RT 36 H ks kids) : ∃ es : List (List Value), es.length = kids.length ∧ Half H kids [] 0 es [] ∧ (∀ e ∈ es, e.length = 36) ∧ (∀ e ∈ es, okc e) ∧
    ∀ w L, Mem w L H → Src P 36 w ks kids.length es.flatten := by
  obtain ⟨es, e1, e2, e3, e4⟩ := rdS.src (P := P) hks
  refine ⟨es, e1, Half.start e1 e2, e3, fun e he => ?_, fun w L m => e4 w L H (Hle.refl _) m⟩
  obtain ⟨i, hi, rfl⟩ := List.getElem_of_mem he
  exact Y5 (e2 i hi (by omega))
theorem Half.at {H : Heap} {kids new : List Tm} {j : Nat} {es : List (List Value)} {c k : Zf} {T : TypeId} {v : Value} (h : Half H kids new j es c) (o : Own T 36 v es k) (hj : j < kids.length) :
    ∃ b cap row e, v = .slice (some ⟨b, 0, none⟩) es.length cap ∧ (b, Obj.cells ⟨row⟩ T (0, 0)) ∈ k ∧ sub row (0 + j * 36) 36 = some e ∧ RT H e kids[j] := by
  obtain ⟨b, cap, row, h1, h2, h3⟩ := o.at (j := j) (by rw [h.1]; exact hj)
  exact ⟨b, cap, row, _, h1, h2, h3, h.2.2 j (by rw [h.1]; exact hj) hj (Nat.le_refl _)⟩

section
variable {c : Cx} {H : Heap} {ρ : Nat → Value} {M : List Zf} {K : Value → List Zf → Prop} {d : Option Nat} {ot : TypeId} {pos : String} {af : Array Edge} {g : Option (Nat × Bool)} {x y : Operand}
theorem Runs_makeO {T el : TypeId} {sz by_ : Nat} {z : Value} {k k' : IntKind} (n : Nat) {a b : Int} (hT : ∀ w, (underlying T).run c.P w = .ok (.slice el) w) (hel : El c.P el sz by_ z)
    (hx : ev c.n ρ x = .int k a) (hy : ev c.n ρ y = .int k' b) (ha : a = n) (hb : b = n) (hbig : n * by_ ≤ 281474976710656) (hbig' : n ≤ 140737488355328)
    (h : ∀ v k, Own el sz v (List.replicate n z.cells.toList) k → K v (k :: M)) :
    Runs c H ⟨d, .makeSlice T x y, ot, pos, af, g⟩ ρ M K := Runs_make n hT hel hx hy ha hb hbig hbig' fun _ k ho _ => h _ k ho
end

/-- What a call hands back that exchanges a chunk: a tree of its own, and the chunk. -/
def XT (t : Tm) (v : Value) (n s : Zf) : Prop := ∃ k, v = .agg ⟨cel v⟩ ∧ n = k ++ s ∧ OT t (cel v) k
theorem XT.v {t : Tm} {v : Value} {n s : Zf} (h : XT t v n s) : v = .agg ⟨cel v⟩ := by obtain ⟨k, h, _⟩ := h; exact h
theorem XT.len {t : Tm} {v : Value} {n s : Zf} (h : XT t v n s) : (cel v).length = 36 := by obtain ⟨k, _, _, h⟩ := h; exact h.len
theorem XT.ok {t : Tm} {v : Value} {n s : Zf} (h : XT t v n s) : okc (cel v) := by obtain ⟨k, _, _, h⟩ := h; exact h.ok

section
variable {σ : Type} {rf : Sm → Sm} {vf : Int → Int → σ → Tm × σ} {Inv : σ → Prop} 
theorem mapT_inv (hI : ∀ n b s, Inv s → Inv (vf n b s).2) (t : Tm) : ∀ b s, Inv s → Inv (Yz rf vf b t s).2 := by
  induction t using Tm.ind with
  | h k n r kids cases ih ih' =>
    intro b s hs
    have hK : ∀ (l : List Tm), (∀ t ∈ l, ∀ b s, Inv s → Inv (Yz rf vf b t s).2) → ∀ i s, Inv s → Inv (Yp rf vf b k i l s).2 := by
      intro l
      induction l with
      | nil => intro _ i s hs; simpa [Yp] using hs
      | cons t l ihl => intro hl i s hs; rw [Yp]; exact ihl (fun x hx => hl x (by simp [hx])) _ _ (hl t (by simp) _ _ hs)
    have hC : ∀ (l : List (Pt × Tm)), (∀ t ∈ l, ∀ b s, Inv s → Inv (Yz rf vf b t.2 s).2) → ∀ s, Inv s → Inv (YM rf vf b l s).2 := by
      intro l
      induction l with
      | nil => intro _ s hs; simpa [YM] using hs
      | cons t l ihl => obtain ⟨p, t⟩ := t; intro hl s hs; rw [YM]; exact ihl (fun x hx => hl x (by simp [hx])) _ (hl (p, t) (by simp) _ _ hs)
    rw [Yz]
    split
    · exact hI _ _ _ hs
    · exact hC _ ih' _ (hK _ ih _ _ hs)
end

/-- A chunk is two. -/
theorem Sub.split {a b : Zf} {R M : List Zf} (h : Sub ((a ++ b) :: R) M) : Sub (a :: b :: R) M := h.flat (by simp)
end Go.Proofs.YtfdeibbpfgolcaaGreat.Hs
/-! Layer 4, the plain law, first part: the errors of the program are those of the reference. No program here. -/
namespace Go.Proofs.YtfdeibbpfgolcaaGreat.Hs
open Go

theorem pErr_head (k n : Int) (r : Sm) (l : Nat) : pErr k n r l = pHead k n r l := by
  unfold pErr pHead clashB pfN pfR
  by_cases h0 : k < 1 ∨ 3 < k
  · rw [if_pos h0, if_pos h0]
  · rw [if_neg h0, if_neg h0]
    have hk : k = 1 ∨ k = 2 ∨ k = 3 := by omega
    by_cases hr : r = zS <;> rcases hk with rfl | rfl | rfl <;> simp [hr] <;> (repeat' split) <;> first | rfl | omega | (exfalso; simp_all; done) | (exfalso; simp_all; omega)

theorem pErrs_eq (p : Pt) : pErrs p = Yy p := by
  induction p using Pt.ind with
  | h k n r kids ih =>
    rw [pErrs, Yy, pErr_head]
    have : pErrsL kids = YA kids := by
      clear k n r
      induction kids with
      | nil => rfl
      | cons p l ih' => rw [pErrsL, YA, ih p (by simp), ih' (fun x hx => ih x (by simp [hx]))]
    rw [this]
theorem pErrsC_eq (l : List (Pt × Tm)) : pErrsC l = YB l := by
  induction l with
  | nil => rfl
  | cons c l ih => rw [pErrsC, YB, pErrs_eq, ih]

theorem tHead_eq (d m b k n : Int) (r : Sm) (l lc : Nat) : Ym d m b k n r l lc = Yo d m b k n r l lc := by
  unfold Ym Yo clashB fN fR fC kidsB Yk ZF loK hiK knownB
  by_cases h0 : k < 1 ∨ 12 < k
  · rw [if_pos h0, if_pos h0]
  · rw [if_neg h0, if_neg h0]
    have hk : k = 1 ∨ k = 2 ∨ k = 3 ∨ k = 4 ∨ k = 5 ∨ k = 6 ∨ k = 7 ∨ k = 8 ∨ k = 9 ∨ k = 10 ∨ k = 11 ∨ k = 12 := by omega
    by_cases hr : r = zS <;> rcases hk with rfl | rfl | rfl | rfl | rfl | rfl | rfl | rfl | rfl | rfl | rfl | rfl <;> simp [hr] <;> (repeat' split) <;> first | rfl | omega | (exfalso; simp_all; done) | (exfalso; simp_all; omega)

theorem tErr_eq (d m : Int) (t : Tm) : ∀ b, YS d m b t = ZM d m b t := by
  induction t using Tm.ind with
  | h k n r kids cases ih ih' =>
    intro b
    have hK : ∀ (l : List Tm), (∀ t ∈ l, ∀ b, YS d m b t = ZM d m b t) → ∀ b i, tErrK d m b k i l = Z0 d m b k i l := by
      intro l
      induction l with
      | nil => intro _ b i; simp [tErrK, Z0]
      | cons t l ihl => intro hl b i; rw [tErrK, Z0, hl t (by simp), ihl (fun x hx => hl x (by simp [hx]))]
    have hC : ∀ (l : List (Pt × Tm)), (∀ t ∈ l, ∀ b, YS d m b t.2 = ZM d m b t.2) → ∀ b, tErrC d m b l = Yh d m b l := by
      intro l
      induction l with
      | nil => intro _ b; simp [tErrC, Yh]
      | cons t l ihl => obtain ⟨p, t⟩ := t; intro hl b; rw [tErrC, Yh, hl (p, t) (by simp), ihl (fun x hx => hl x (by simp [hx]))]
    rw [YS, ZM, tHead_eq, pErrsC_eq, hK kids ih, hC cases ih']

/-! how deep -/
mutual
def depP : Pt → Int
  | .mk _ _ _ kids => depPs kids + 1
def depPs : List Pt → Int
  | [] => 0
  | p :: l => max (depP p) (depPs l)
end
mutual
def depT : Tm → Int
  | .mk _ _ _ kids cases => max (depTs kids) (depCs cases) + 1
def depTs : List Tm → Int
  | [] => 0
  | p :: l => max (depT p) (depTs l)
def depCs : List (Pt × Tm) → Int
  | [] => 0
  | (p, t) :: l => max (max (depP p) (depT t)) (depCs l)
end
theorem depPs_nn (l : List Pt) : 0 ≤ depPs l := by
  induction l with
  | nil => rw [depPs]; omega
  | cons p l ih => rw [depPs]; omega
theorem depTs_nn (l : List Tm) : 0 ≤ depTs l := by
  induction l with
  | nil => rw [depTs]; omega
  | cons p l ih => rw [depTs]; omega
theorem depCs_nn (l : List (Pt × Tm)) : 0 ≤ depCs l := by
  induction l with
  | nil => rw [depCs]; omega
  | cons p l ih => obtain ⟨p, t⟩ := p; rw [depCs]; omega
def ExP (p : Pt) : Prop := ∀ m : Int, 0 ≤ m → ((sizeP p : Int) ≤ m → extP m p = ((sizeP p : Int), depP p)) ∧ (m < sizeP p → m < (extP m p).1)
def ExT (p : Tm) : Prop := ∀ m : Int, 0 ≤ m → ((sizeT p : Int) ≤ m → YL m p = ((sizeT p : Int), depT p)) ∧ (m < sizeT p → m < (YL m p).1)
theorem extPs_exact (l : List Pt) : (∀ p ∈ l, ExP p) → ∀ (m n d : Int), 1 ≤ n → 0 ≤ m → 0 ≤ d →
    (n + ZH l ≤ m → extPs m l n d = (n + ZH l, max d (depPs l))) ∧ (m < n + ZH l → m < (extPs m l n d).1) := by
  induction l with
  | nil => intro _ m n d h1 h0 hd; simp only [extPs, ZH, depPs]; exact ⟨fun h => Prod.ext (by simp) (by simp only; omega), fun h => by omega⟩
  | cons p l ih =>
    intro hl m n d h1 h0 hd
    have ih := ih (fun x hx => hl x (by simp [hx]))
    have hp := hl p (by simp)
    rw [extPs, ZH, depPs]
    refine ⟨fun h => ?_, fun h => ?_⟩
    · rw [if_pos (by omega), (hp (m - 1) (by omega)).1 (by omega)]
      have hd' : 0 ≤ max d (depP p) := by omega
      rw [(ih m _ _ (by simp only; omega) h0 hd').1 (by simp only; omega)]
      exact Prod.ext (by simp only; omega) (by simp only; omega)
    · by_cases hn : n ≤ m
      · rw [if_pos hn]
        by_cases hq : (sizeP p : Int) ≤ m - 1
        · rw [(hp (m - 1) (by omega)).1 hq]
          exact (ih m _ _ (by simp only; omega) h0 (by simp only; omega)).2 (by simp only; omega)
        · have h2 := (hp (m - 1) (by omega)).2 (by omega)
          have h3 := extP_le p (m - 1)
          exact (ih m _ _ (by omega) h0 (by omega)).2 (by omega)
      · rw [if_neg hn]; simp only; omega
theorem extP_exact (p : Pt) : ExP p := by
  induction p using Pt.ind with
  | h k n r kids ih =>
    intro m hm
    have := extPs_exact kids ih m 1 0 (by omega) hm (by omega)
    rw [extP, sizeP, depP]
    refine ⟨fun h => ?_, fun h => ?_⟩
    · rw [this.1 (by omega)]
      have := depPs_nn kids
      exact Prod.ext (by simp only; omega) (by simp only; omega)
    · exact this.2 (by omega)
theorem extTs_exact (l : List Tm) : (∀ p ∈ l, ExT p) → ∀ (m n d : Int), 1 ≤ n → 0 ≤ m → 0 ≤ d →
    (n + sizeTs l ≤ m → YN m l n d = (n + sizeTs l, max d (depTs l))) ∧ (m < n + sizeTs l → m < (YN m l n d).1) := by
  induction l with
  | nil => intro _ m n d h1 h0 hd; simp only [YN, sizeTs, depTs]; exact ⟨fun h => Prod.ext (by simp) (by simp only; omega), fun h => by omega⟩
  | cons p l ih =>
    intro hl m n d h1 h0 hd
    have ih := ih (fun x hx => hl x (by simp [hx]))
    have hp := hl p (by simp)
    rw [YN, sizeTs, depTs]
    refine ⟨fun h => ?_, fun h => ?_⟩
    · rw [if_pos (by omega), (hp (m - 1) (by omega)).1 (by omega)]
      rw [(ih m _ _ (by simp only; omega) h0 (by simp only; omega)).1 (by simp only; omega)]
      exact Prod.ext (by simp only; omega) (by simp only; omega)
    · by_cases hn : n ≤ m
      · rw [if_pos hn]
        by_cases hq : (sizeT p : Int) ≤ m - 1
        · rw [(hp (m - 1) (by omega)).1 hq]
          exact (ih m _ _ (by simp only; omega) h0 (by simp only; omega)).2 (by simp only; omega)
        · have h2 := (hp (m - 1) (by omega)).2 (by omega)
          have h3 := extT_le p (m - 1)
          exact (ih m _ _ (by omega) h0 (by omega)).2 (by omega)
      · rw [if_neg hn]; simp only; omega
theorem extCs_exact (l : List (Pt × Tm)) : (∀ p ∈ l, ExT p.2) → ∀ (m n d : Int), 1 ≤ n → 0 ≤ m → 0 ≤ d →
    (n + sizeCs l ≤ m → extCs m l n d = (n + sizeCs l, max d (depCs l))) ∧ (m < n + sizeCs l → m < (extCs m l n d).1) := by
  induction l with
  | nil => intro _ m n d h1 h0 hd; simp only [extCs, sizeCs, depCs]; exact ⟨fun h => Prod.ext (by simp) (by simp only; omega), fun h => by omega⟩
  | cons p l ih =>
    obtain ⟨p, t⟩ := p
    intro hl m n d h1 h0 hd
    have ih := ih (fun x hx => hl x (by simp [hx]))
    have ht := hl (p, t) (by simp)
    have hp := extP_exact p
    have s1 := sizeP_pos p
    have s2 := sizeT_pos t
    rw [extCs, sizeCs, depCs]
    refine ⟨fun h => ?_, fun h => ?_⟩
    · rw [if_pos (by omega), (hp (m - 1) (by omega)).1 (by omega), (ht (m - 1) (by omega)).1 (by simp only; omega)]
      rw [(ih m _ _ (by simp only; omega) h0 (by simp only; omega)).1 (by simp only; omega)]
      exact Prod.ext (by simp only; omega) (by simp only; omega)
    · by_cases hn : n ≤ m
      · rw [if_pos hn]
        have h3 := extT_le t (m - 1)
        have h4 := extP_le p (m - 1)
        by_cases hq : (sizeP p : Int) ≤ m - 1
        · rw [(hp (m - 1) (by omega)).1 hq]
          by_cases hr : (sizeT t : Int) ≤ m - 1
          · have e := (ht (m - 1) (by omega)).1 hr
            simp only at e
            rw [e]
            exact (ih m _ _ (by simp only; omega) h0 (by simp only; omega)).2 (by simp only; omega)
          · have h2 := (ht (m - 1) (by omega)).2 (by simp only; omega)
            simp only at h2
            exact (ih m _ _ (by simp only; omega) h0 (by simp only; omega)).2 (by simp only; omega)
        · have h2 := (hp (m - 1) (by omega)).2 (by omega)
          exact (ih m _ _ (by omega) h0 (by omega)).2 (by omega)
      · rw [if_neg hn]; simp only; omega
theorem extT_exact (p : Tm) : ExT p := by
  induction p using Tm.ind with
  | h k n r kids cases ih ih' =>
    intro m hm
    have h1 := extTs_exact kids ih m 1 0 (by omega) hm (by omega)
    have nn := depTs_nn kids
    have nc := depCs_nn cases
    rw [YL, sizeT, depT]
    refine ⟨fun h => ?_, fun h => ?_⟩
    · rw [h1.1 (by omega), (extCs_exact cases ih' m _ _ (by simp only; omega) hm (by simp only; omega)).1 (by simp only; omega)]
      exact Prod.ext (by simp only; omega) (by simp only; omega)
    · have h2 := extTs_le (fun p _ => extT_le p) (l := kids) m 1 0 (by omega) (by omega)
      simp only
      refine (extCs_exact cases ih' m _ _ (by omega) hm (by omega)).2 ?_
      by_cases hq : (1 : Int) + sizeTs kids ≤ m
      · rw [h1.1 hq]; simp only; omega
      · have := h1.2 (by omega); omega
theorem longB_eq (t : Tm) : YU t = true ↔ (300 < sizeT t ∨ 60 < depT t) := by
  unfold YU
  have := extT_exact t 400 (by omega)
  by_cases h : (sizeT t : Int) ≤ 400
  · rw [this.1 h]; simp; omega
  · have := this.2 (by omega); simp; omega

/-! the same, counted on the way -/
def CnP (p : Pt) : Prop := ∀ d n : Int, ((cnP stL d p n).1 = false ↔ n + sizeP p ≤ 300 ∧ d + depP p ≤ 61)
def CnT (p : Tm) : Prop := ∀ d n : Int, ((cnT stL d p n).1 = false ↔ n + sizeT p ≤ 300 ∧ d + depT p ≤ 61)
theorem cnPs_iff (l : List Pt) : (∀ p ∈ l, CnP p) → ∀ d n : Int, n ≤ 300 → d ≤ 61 → ((cnPs stL d l n).1 = false ↔ n + ZH l ≤ 300 ∧ d + depPs l ≤ 61) := by
  induction l with
  | nil => intro _ d n h1 h2; simp only [cnPs, ZH, depPs]; simp; omega
  | cons p l ih =>
    intro hl d n h1 h2
    have hp := hl p (by simp) d n
    have nn := depPs_nn l
    rw [cnPs, ZH, depPs]
    by_cases h : (cnP stL d p n).1 = true
    · rw [if_pos h]
      have : ¬ (n + sizeP p ≤ 300 ∧ d + depP p ≤ 61) := fun hh => by rw [hp.2 hh] at h; cases h
      simp only [Bool.true_eq_false, false_iff]; omega
    · have h := Bool.not_eq_true _ ▸ h
      rw [if_neg (by rw [h]; decide), cnP_size p d n h]
      have h3 := hp.1 h
      rw [ih (fun x hx => hl x (by simp [hx])) d _ (by omega) h2]; omega
theorem cnP_iff (p : Pt) : CnP p := by
  induction p using Pt.ind with
  | h k m r kids ih =>
    intro d n
    have nn := depPs_nn kids
    rw [cnP, sizeP, depP]
    by_cases h : stL (n + 1) d = true
    · rw [if_pos h]
      have : 300 < n + 1 ∨ 60 < d := by simpa [stL] using h
      simp only [Bool.true_eq_false, false_iff]; omega
    · rw [if_neg h]
      have : ¬ (300 < n + 1) ∧ ¬ (60 < d) := by simpa [stL] using h
      rw [cnPs_iff kids ih _ _ (by omega) (by omega)]; omega
theorem cnTs_iff (l : List Tm) : (∀ p ∈ l, CnT p) → ∀ d n : Int, n ≤ 300 → d ≤ 61 → ((cnTs stL d l n).1 = false ↔ n + sizeTs l ≤ 300 ∧ d + depTs l ≤ 61) := by
  induction l with
  | nil => intro _ d n h1 h2; simp only [cnTs, sizeTs, depTs]; simp; omega
  | cons p l ih =>
    intro hl d n h1 h2
    have hp := hl p (by simp) d n
    have nn := depTs_nn l
    rw [cnTs, sizeTs, depTs]
    by_cases h : (cnT stL d p n).1 = true
    · rw [if_pos h]
      have : ¬ (n + sizeT p ≤ 300 ∧ d + depT p ≤ 61) := fun hh => by rw [hp.2 hh] at h; cases h
      simp only [Bool.true_eq_false, false_iff]; omega
    · have h := Bool.not_eq_true _ ▸ h
      rw [if_neg (by rw [h]; decide), cnT_size p d n h]
      have h3 := hp.1 h
      rw [ih (fun x hx => hl x (by simp [hx])) d _ (by omega) h2]; omega
theorem cnCs_iff (l : List (Pt × Tm)) : (∀ p ∈ l, CnT p.2) → ∀ d n : Int, n ≤ 300 → d ≤ 61 → ((cnCs stL d l n).1 = false ↔ n + sizeCs l ≤ 300 ∧ d + depCs l ≤ 61) := by
  induction l with
  | nil => intro _ d n h1 h2; simp only [cnCs, sizeCs, depCs]; simp; omega
  | cons p l ih =>
    obtain ⟨p, t⟩ := p
    intro hl d n h1 h2
    have hp := cnP_iff p d n
    have nn := depCs_nn l
    rw [cnCs, sizeCs, depCs]
    by_cases h : (cnP stL d p n).1 = true
    · rw [if_pos h]
      have : ¬ (n + sizeP p ≤ 300 ∧ d + depP p ≤ 61) := fun hh => by rw [hp.2 hh] at h; cases h
      simp only [Bool.true_eq_false, false_iff]; omega
    · have h := Bool.not_eq_true _ ▸ h
      rw [if_neg (by rw [h]; decide), cnP_size p d n h]
      have h3 := hp.1 h
      have ht := hl (p, t) (by simp) d (n + sizeP p)
      simp only at ht
      by_cases h' : (cnT stL d t (n + sizeP p)).1 = true
      · rw [if_pos h']
        have : ¬ (n + sizeP p + sizeT t ≤ 300 ∧ d + depT t ≤ 61) := fun hh => by rw [ht.2 hh] at h'; cases h'
        simp only [Bool.true_eq_false, false_iff]; omega
      · have h' := Bool.not_eq_true _ ▸ h'
        rw [if_neg (by rw [h']; decide), cnT_size t d _ h']
        have h4 := ht.1 h'
        rw [ih (fun x hx => hl x (by simp [hx])) d _ (by omega) h2]; omega
theorem cnT_iff (p : Tm) : CnT p := by
  induction p using Tm.ind with
  | h k m r kids cases ih ih' =>
    intro d n
    have nn := depTs_nn kids
    have nc := depCs_nn cases
    rw [cnT, sizeT, depT]
    by_cases h : stL (n + 1) d = true
    · rw [if_pos h]
      have : 300 < n + 1 ∨ 60 < d := by simpa [stL] using h
      simp only [Bool.true_eq_false, false_iff]; omega
    · rw [if_neg h]
      have : ¬ (300 < n + 1) ∧ ¬ (60 < d) := by simpa [stL] using h
      have hk := cnTs_iff kids ih (d + 1) (n + 1) (by omega) (by omega)
      by_cases h' : (cnTs stL (d + 1) kids (n + 1)).1 = true
      · rw [if_pos h']
        have : ¬ (n + 1 + sizeTs kids ≤ 300 ∧ d + 1 + depTs kids ≤ 61) := fun hh => by rw [hk.2 hh] at h'; cases h'
        simp only [Bool.true_eq_false, false_iff]; omega
      · have h' := Bool.not_eq_true _ ▸ h'
        have hz : (cnTs stL (d + 1) kids (n + 1)).2 = n + 1 + sizeTs kids := by
          clear hk ih ih'
          have : ∀ (l : List Tm) d n, (cnTs stL d l n).1 = false → (cnTs stL d l n).2 = n + sizeTs l := by
            intro l
            induction l with
            | nil => intro d n _; simp [cnTs, sizeTs]
            | cons q l ihl =>
              intro d n h
              rw [cnTs] at h ⊢
              split at h
              · cases h
              · rename_i h1
                rw [if_neg h1, ihl _ _ h, cnT_size q _ _ (by simpa using h1), sizeTs]; omega
          exact this kids _ _ h'
        have h4 := hk.1 h'
        rw [if_neg (by rw [h']; decide), hz, cnCs_iff cases ih' _ _ (by omega) (by omega)]; omega
theorem long_eq (t : Tm) : (cnT stL 1 t 0).1 = YU t := by
  have h1 := cnT_iff t 1 0
  have h2 := longB_eq t
  cases h : (cnT stL 1 t 0).1 with
  | false => have := h1.1 h; cases h' : YU t with
    | false => rfl
    | true => have := h2.1 h'; omega
  | true =>
    have : ¬ (0 + (sizeT t : Int) ≤ 300 ∧ 1 + depT t ≤ 61) := fun hh => by rw [h1.2 hh] at h; cases h
    exact (h2.2 (by omega)).symm
theorem check_eq (d m : Int) (t : Tm) : Yc d m t = Yf d m t := by
  unfold Yc Yf
  rw [long_eq, tErr_eq]

/-! what is right is tidy -/
mutual
def tidy : Tm → Prop
  | .mk k _ r kids cases => (k = 1 → r = zS ∧ kids = [] ∧ cases = []) ∧ tidys kids ∧ tidyc cases
def tidys : List Tm → Prop
  | [] => True
  | t :: l => tidy t ∧ tidys l
def tidyc : List (Pt × Tm) → Prop
  | [] => True
  | (_, t) :: l => tidy t ∧ tidyc l
end
theorem nHead_var {d m b n : Int} {r : Sm} {l lc : Nat} (h : Yo d m b 1 n r l lc = 0) : r = zS ∧ l = 0 ∧ lc = 0 ∧ 0 ≤ n ∧ (n < b ∨ n - b < d) := by
  unfold Yo Yk ZF loK hiK at h
  simp at h
  by_cases hr : r = zS
  · simp [hr] at h ⊢
    (repeat' split at h) <;> first | omega | (exfalso; simp_all; done) | (exfalso; simp_all; omega)
  · simp [hr] at h
def RightOk (d m : Int) (t : Tm) : Prop := ∀ b, ZM d m b t = 0 → tidy t ∧ (0 ≤ b → 0 ≤ d → b + 2 * sizeT t + d ≤ 2000000 → vOK t)
theorem right_kids {d m : Int} {k : Int} {b : Int} {l : List Tm} (hl : ∀ t ∈ l, RightOk d m t) : ∀ i, Z0 d m b k i l = 0 → tidys l ∧ (0 ≤ b → 0 ≤ d → b + 2 + 2 * sizeTs l + d ≤ 2000000 → vOKs l) := by
  induction l with
  | nil => intro i _; exact ⟨trivial, fun _ _ _ => trivial⟩
  | cons t l ih =>
    intro i h
    rw [Z0] at h
    split at h
    · rename_i h0
      have h1 := hl t (by simp) _ h0
      have h2 := ih (fun x hx => hl x (by simp [hx])) _ h
      have hm := more_le k i
      exact ⟨⟨h1.1, h2.1⟩, fun hb hd hs => by rw [sizeTs] at hs; exact ⟨h1.2 (by omega) hd (by omega), h2.2 hb hd (by omega)⟩⟩
    · rename_i h0; exact absurd h h0
theorem right_cases {d m : Int} {b : Int} {l : List (Pt × Tm)} (hl : ∀ t ∈ l, RightOk d m t.2) : Yh d m b l = 0 → tidyc l ∧ (0 ≤ b → 0 ≤ d → b + 2 * sizeCs l + d ≤ 2000000 → vOKc l) := by
  induction l with
  | nil => intro _; exact ⟨trivial, fun _ _ _ => trivial⟩
  | cons t l ih =>
    obtain ⟨p, t⟩ := t
    intro h
    rw [Yh] at h
    split at h
    · rename_i h0
      have h1 := hl (p, t) (by simp) _ h0
      simp only at h1
      have h2 := ih (fun x hx => hl x (by simp [hx])) h
      have hm := binds_le p
      exact ⟨⟨h1.1, h2.1⟩, fun hb hd hs => by rw [sizeCs] at hs; exact ⟨h1.2 (by omega) hd (by omega), h2.2 hb hd (by omega)⟩⟩
    · rename_i h0; exact absurd h h0
theorem right_ok (d m : Int) (t : Tm) : RightOk d m t := by
  induction t using Tm.ind with
  | h k n r kids cases ih ih' =>
    intro b h
    rw [ZM] at h
    split at h
    · rename_i hh
      split at h
      · split at h
        · rename_i hk
          have h1 := right_kids ih _ hk
          have h2 := right_cases ih' h
          have hv : k = 1 → r = zS ∧ kids = [] ∧ cases = [] ∧ 0 ≤ n ∧ (n < b ∨ n - b < d) := fun e => by
            subst e
            obtain ⟨a1, a2, a3, a4⟩ := nHead_var hh
            exact ⟨a1, List.eq_nil_of_length_eq_zero a2, List.eq_nil_of_length_eq_zero a3, a4⟩
          refine ⟨⟨fun e => ⟨(hv e).1, (hv e).2.1, (hv e).2.2.1⟩, h1.1, h2.1⟩, fun hb hd hs => ?_⟩
          rw [sizeT] at hs
          exact ⟨fun e => by have := (hv e).2.2.2; omega, h1.2 hb hd (by omega), h2.2 hb hd (by omega)⟩
        · rename_i h0; exact absurd h h0
      · rename_i h0; exact absurd h h0
    · rename_i h0; exact absurd h h0
theorem ZX {t : Tm} (h : Yc 60 8 t = 0) : sizeT t ≤ 300 ∧ vOK t ∧ tidy t ∧ (cnT stL 1 t 0).1 = false := by
  unfold Yc at h
  split at h
  · omega
  · rename_i h0
    have h0 := Bool.not_eq_true _ ▸ h0
    have h1 := (cnT_iff t 1 0).1 h0
    rw [tErr_eq] at h
    have h2 := right_ok 60 8 t 0 h
    exact ⟨by omega, h2.2 (by omega) (by omega) (by omega), h2.1, h0⟩
theorem YV {t : Tm} (h : ZI [t] = 0) : Yc 60 8 t = 0 := by
  rw [ZI] at h
  split at h
  · assumption
  · rename_i h0; exact absurd h h0
theorem rightT2 {t u : Tm} (h : ZI [t, u] = 0) : Yc 60 8 t = 0 ∧ Yc 60 8 u = 0 := by
  rw [ZI] at h
  split at h
  · exact ⟨by assumption, YV h⟩
  · rename_i h0; exact absurd h h0
theorem rightT_one (t : Tm) : ZI [t] = Yf 60 8 t := by
  rw [← check_eq]
  simp only [ZI]
  split
  · rename_i h; rw [h]
  · rfl
end Go.Proofs.YtfdeibbpfgolcaaGreat.Hs
/-! Layer 4, the plain law, second part: what the mapper makes is what the reference makes. No program here. -/
namespace Go.Proofs.YtfdeibbpfgolcaaGreat.Hs
open Go

theorem mapP_id (p : Pt) : mapP (fun s => s) p = p := by
  induction p using Pt.ind with
  | h k n r kids ih =>
    rw [mapP]
    congr 1
    clear k n r
    induction kids with
    | nil => rfl
    | cons p l ih' => rw [mapPs, ih p (by simp), ih' (fun x hx => ih x (by simp [hx]))]

theorem mapT_mv (dy fr : Int) (hf : 0 ≤ fr) (t : Tm) : tidy t → ∀ b, Yz (σ := Unit) (fun s => s) (fun n b s => (shv dy fr n b, s)) b t () = (mvT dy fr b t, ()) := by
  induction t using Tm.ind with
  | h k n r kids cases ih ih' =>
    intro ht b
    rw [tidy] at ht
    obtain ⟨h1, h2, h3⟩ := ht
    have hK : ∀ (l : List Tm), tidys l → (∀ t ∈ l, tidy t → ∀ b, Yz (σ := Unit) (fun s => s) (fun n b s => (shv dy fr n b, s)) b t () = (mvT dy fr b t, ())) → ∀ i, Yp (σ := Unit) (fun s => s) (fun n b s => (shv dy fr n b, s)) b k i l () = (mvTs dy fr b k i l, ()) := by
      intro l
      induction l with
      | nil => intro _ _ i; simp [Yp, mvTs]
      | cons t l ihl => intro ht hl i; rw [tidys] at ht; rw [Yp, mvTs, hl t (by simp) ht.1]; simp only; rw [ihl ht.2 (fun x hx => hl x (by simp [hx]))]
    have hC : ∀ (l : List (Pt × Tm)), tidyc l → (∀ t ∈ l, tidy t.2 → ∀ b, Yz (σ := Unit) (fun s => s) (fun n b s => (shv dy fr n b, s)) b t.2 () = (mvT dy fr b t.2, ())) → YM (σ := Unit) (fun s => s) (fun n b s => (shv dy fr n b, s)) b l () = (mvCs dy fr b l, ()) := by
      intro l
      induction l with
      | nil => intro _ _; simp [YM, mvCs]
      | cons t l ihl => obtain ⟨p, t⟩ := t; intro ht hl; rw [tidyc] at ht; rw [YM, mvCs, hl (p, t) (by simp) ht.1, mapP_id]; simp only; rw [ihl ht.2 (fun x hx => hl x (by simp [hx]))]
    rw [Yz, mvT]
    by_cases hk : k = 1
    · obtain ⟨rfl, rfl, rfl⟩ := h1 hk
      subst hk
      simp only [mvTs, mvCs, Yp, YM, true_and, shv]
      by_cases hb : b ≤ n
      · rw [if_pos hb]
        congr 2
        split <;> omega
      · rw [if_neg hb]
        congr 2
        rw [if_neg (by omega)]
    · rw [if_neg (by simp [hk]), if_neg (by simp [hk]), hK kids h2 ih]
      simp only
      rw [hC cases h3 ih']
theorem shT_eq {dy fr : Int} (hf : 0 ≤ fr) {t : Tm} (ht : tidy t) : shT dy fr t = mvT dy fr 0 t := by
  unfold shT mapQ
  rw [mapT_mv dy fr hf t ht 0]

end Go.Proofs.YtfdeibbpfgolcaaGreat.Hs
/-! Owned trees taken apart, one element after the other. -/
namespace Go.Proofs.YtfdeibbpfgolcaaGreat.Hs
open Go
theorem Own.at' {T : TypeId} {sz : Nat} {v : Value} {es : List (List Value)} {k : Zf} (o : Own T sz v es k) {j : Nat} {e : List Value} (he : es[j]? = some e) :
    ∃ b cap row, v = .slice (some ⟨b, 0, none⟩) es.length cap ∧ (b, Obj.cells ⟨row⟩ T (0, 0)) ∈ k ∧ sub row (0 + j * sz) sz = some e := by
  obtain ⟨hj, rfl⟩ := List.getElem?_eq_some_iff.1 he
  exact o.at hj
theorem OTs.take {l : List Tm} {es : List (List Value)} {c : Zf} {j : Nat} (h : OTs (l.drop j) (es.drop j) c) (hj : j < l.length) :
    ∃ e k c', es[j]? = some e ∧ OT l[j] e k ∧ c = k ++ c' ∧ ∀ x, OTs (l.drop (j + 1)) ((es.set j x).drop (j + 1)) c' := by
  rw [List.drop_eq_getElem_cons hj, OTs] at h
  obtain ⟨e, es', k, c', h1, h2, h3, h4⟩ := h
  have hj' : es[j]? = some e := by
    have := congrArg (fun l => l[0]?) h1
    simpa [List.getElem?_drop] using this
  refine ⟨e, k, c', hj', h2, h4, fun x => ?_⟩
  rw [List.drop_set_of_lt (by omega)]
  have : es.drop (j + 1) = es' := by rw [← List.drop_drop, h1]; rfl
  rw [this]; exact h3
theorem OCs.take {l : List (Pt × Tm)} {es : List (List Value)} {c : Zf} {j : Nat} (h : OCs (l.drop j) (es.drop j) c) (hj : j < l.length) :
    ∃ kk n r ks b esp q kp1 kp2 kb c', es[j]? = some (pkP kk n r ks ++ b) ∧ Own 54 35 ks esp kp1 ∧ esp.length = q ∧ q ≤ 9223372036854775807 ∧ OT l[j].2 b kb ∧ c = (kp1 ++ kp2) ++ (kb ++ c') ∧ ∀ x, OCs (l.drop (j + 1)) ((es.set j x).drop (j + 1)) c' := by
  rw [List.drop_eq_getElem_cons hj] at h
  cases hlj : l[j] with
  | mk p t =>
    rw [hlj, OCs] at h
    obtain ⟨a, b, es', ka, kb, c', h1, h2, h3, h4, h5⟩ := h
    obtain ⟨kk, n, r, kids⟩ := p
    obtain ⟨ks, esp, kp1, kp2, rfl, _, _, h6, h7, rfl, h8⟩ := OP_mk.1 h2
    have hj' : es[j]? = some (pkP kk n r ks ++ b) := by
      have := congrArg (fun l => l[0]?) h1
      simpa [List.getElem?_drop] using this
    refine ⟨kk, n, r, ks, b, esp, esp.length, kp1, kp2, kb, c', hj', h6, rfl, by rw [OPs_len h7]; exact h8, h3, h5, fun x => ?_⟩
    rw [List.drop_set_of_lt (by omega)]
    have : es.drop (j + 1) = es' := by rw [← List.drop_drop, h1]; rfl
    rw [this]; exact h4
end Go.Proofs.YtfdeibbpfgolcaaGreat.Hs
