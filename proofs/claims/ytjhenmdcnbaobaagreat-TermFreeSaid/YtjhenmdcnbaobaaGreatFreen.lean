import Derived.Test.YtjhenmdcnbaobaaGreatFreem
import Derived.Sort.OwnSortedInts
/-! Numbers in a row of one's own, put into order, each once: the library's contracts as contracts of this logic; maps that are read. -/
namespace Go.Proofs.YtjhenmdcnbaobaaGreat.Hs
open Go Go.Proofs Go.Sort Go.RowKit Go.MapKept
theorem Mem.setG {w w' : World} {L : Zf} {H : Heap} {b : Nat} {o o' : Obj} (m : Mem w ((b, o) :: L) H)
    (hb : w'.heap[b]? = some o') (hne : ∀ k, k < w.heap.size → k ≠ b → w'.heap[k]? = w.heap[k]?) (hr : w'.os = w.os ∧ w'.output = w.output) : Mem w' ((b, o') :: L) H := by
  have hnd := m.nd
  rw [List.map_cons, List.nodup_cons] at hnd
  have lt : ∀ {k : Nat} {x : Obj}, w.heap[k]? = some x → k < w.heap.size := fun h => (Array.getElem?_eq_some_iff.1 h).1
  refine ⟨by rw [List.map_cons, List.nodup_cons]; exact hnd, ?_, ?_, ?_, by rw [hr.1, hr.2]; exact m.rest⟩
  · intro k x hk
    rcases List.mem_cons.1 hk with e | hk
    · cases e; exact hb
    · have h1 := m.own k x (List.mem_cons.2 (.inr hk))
      rw [hne k (lt h1) (fun e => hnd.1 (List.mem_map.2 ⟨(k, x), hk, e⟩))]; exact h1
  · intro k x hk
    rcases List.mem_cons.1 hk with e | hk
    · cases e; exact m.sep b o (List.mem_cons.2 (.inl rfl))
    · exact m.sep k x (List.mem_cons.2 (.inr hk))
  · intro k x hk
    have h1 := m.imm k x hk
    rw [hne k (lt h1) (fun e => by subst e; rw [m.sep k o (List.mem_cons.2 (.inl rfl))] at hk; cases hk)]; exact h1
theorem ints_flat (l : List Int) : (Z3 l).flatten = l.map (Value.int .i64) := by
  induction l with
  | nil => rfl
  | cons x l ih => rw [show Z3 (x :: l) = [.int .i64 x] :: Z3 l from rfl, List.flatten_cons, ih]; rfl
/-- a row of numbers written over -/
theorem own_put {T : TypeId} {b n cap : Nat} {cur : List Value} {ts : List Int} (hc : cur.length = cap) (hts : ts.length ≤ cap) (hn : n ≤ ts.length) {us : List Int} (hus : us = ts.take n) :
    Own T 1 (.slice (some ⟨b, 0, none⟩) n cap) (Z3 us) [(b, .cells (putCells (Value.int .i64) 0 ts.toArray ⟨cur⟩) T (0, 0))] := by
  subst hus
  have e := take_putCellsI ⟨cur⟩ ts (by simpa [hc] using hts)
  have hl : (ts.take n).length = n := by rw [List.length_take]; omega
  have hsz : (putCells (Value.int .i64) 0 ts.toArray ⟨cur⟩).size = cap := by simp [putCells, hc]
  have e2 : (putCells (Value.int .i64) 0 ts.toArray ⟨cur⟩).toList.take n = (ts.take n).map (Value.int .i64) := by
    rw [List.map_take, ← e, List.take_take, Nat.min_eq_left hn]
  refine ⟨fun x hx => ints_len1 _ x hx, .inr ⟨b, cap, (putCells (Value.int .i64) 0 ts.toArray ⟨cur⟩).toList.drop n, by rw [ZU, hl], ?_, ?_, by rw [ZU, hl]; omega⟩⟩
  · rw [ints_flat, ← e2, List.take_append_drop]
  · rw [List.length_drop, Array.length_toList, hsz, ZU, hl, Nat.mul_one]
theorem sortI_ct (l : List Int) (v : Value) (k : Zf) (H : Heap) (ho : Own 3 1 v (Z3 l) k) (hl : l.length ≤ 1000000) :
    CT Tryz.prog 18 ⟨[v]⟩ [k] H (fun r N => r = .tuple ⟨[]⟩ ∧ ∃ k', N = [k'] ∧ Own 3 1 v (Z3 (l.mergeSort fun x y => decide (x ≤ y))) k') := fun F w m => by
  rw [callsIn_wide]
  obtain ⟨h1, ⟨rfl, he, rfl⟩ | ⟨b, cap, spare, rfl, rfl, hsp, hcap⟩⟩ := ho
  · have : l = [] := by cases l with
      | nil => rfl
      | cons x l => cases he
    subst this
    refine (Tryz.slices_Sort_int_none none 0 w).mono ?_
    rintro e w' ⟨rfl, rfl⟩
    exact ⟨_, [[]], rfl, m, rfl, [], rfl, by simpa [Z3] using (Own.nil : Own 3 1 (.slice none 0 0) [] [])⟩
  · rw [ZU] at hsp hcap ⊢
    have hb := m.own b _ (by simp : (b, Obj.cells ⟨(Z3 l).flatten ++ spare⟩ 3 (0, 0)) ∈ _)
    have hcl : ((Z3 l).flatten ++ spare).length = cap := by rw [List.length_append, ints_flat, List.length_map, hsp]; omega
    have ht : ((⟨(Z3 l).flatten ++ spare⟩ : Array Value)).toList.take l.length = l.map (Value.int .i64) := by
      show ((Z3 l).flatten ++ spare).take l.length = _
      rw [ints_flat, List.take_append_of_le_length (by simp), List.take_of_length_le (by simp)]
    refine (Tryz.slices_Sort_int b 0 cap l w (holds_of_blockI hb ht) (Array.getElem?_eq_some_iff.1 hb).1 (by omega)).mono ?_
    rintro e w' ⟨rfl, n, os, rfl⟩
    have hg := grownBy_sortedI (w := w) (g := b) (n := n) (os := os) (l.mergeSort fun x y => decide (x ≤ y)).toArray
    have hm : Mem (grow (putRow (Value.int .i64) (Sort.ahead w n) b 0 (l.mergeSort fun x y => decide (x ≤ y)).toArray) os) ((b, .cells (putCells (Value.int .i64) 0 (l.mergeSort fun x y => decide (x ≤ y)).toArray ⟨(Z3 l).flatten ++ spare⟩) 3 (0, 0)) :: F) H := by
      refine Mem.setG (w := w) (o := .cells ⟨(Z3 l).flatten ++ spare⟩ 3 (0, 0)) (by simpa using m) (heap_sortedI _ hb) ?_ ⟨rfl, rfl⟩
      intro k hk hne
      exact hg.block k hk (fun e => hne (Option.some.inj e))
    refine ⟨_, [[(b, .cells (putCells (Value.int .i64) 0 (l.mergeSort fun x y => decide (x ≤ y)).toArray ⟨(Z3 l).flatten ++ spare⟩) 3 (0, 0))]], rfl, by simpa using hm, rfl, _, rfl, ?_⟩
    have := own_put (T := 3) (b := b) (n := l.length) (cap := cap) (cur := (Z3 l).flatten ++ spare) (ts := l.mergeSort fun x y => decide (x ≤ y)) hcl (by simp; omega) (by simp) (us := l.mergeSort fun x y => decide (x ≤ y)) (by rw [List.take_of_length_le (by simp)])
    exact this
theorem compactI_ct (l : List Int) (v : Value) (k : Zf) (H : Heap) (ho : Own 3 1 v (Z3 l) k) (hl : l.length ≤ 1000000) :
    CT Tryz.prog 22 ⟨[v]⟩ [k] H (fun r N => ∃ k', N = [k'] ∧ Own 3 1 r (Z3 (Lib.compact l)) k') := fun F w m => by
  rw [callsIn_wide]
  obtain ⟨h1, ⟨rfl, he, rfl⟩ | ⟨b, cap, spare, rfl, rfl, hsp, hcap⟩⟩ := ho
  · have : l = [] := by cases l with
      | nil => rfl
      | cons x l => cases he
    subst this
    refine (Tryz.slices_Compact_int_empty none 0 w).mono ?_
    rintro e w' ⟨rfl, rfl⟩
    exact ⟨_, [[]], rfl, m, [], rfl, Own.nil⟩
  · rw [ZU] at hsp hcap ⊢
    have hb := m.own b _ (by simp : (b, Obj.cells ⟨(Z3 l).flatten ++ spare⟩ 3 (0, 0)) ∈ _)
    have hcl : ((Z3 l).flatten ++ spare).length = cap := by rw [List.length_append, ints_flat, List.length_map, hsp]; omega
    have ht : ((⟨(Z3 l).flatten ++ spare⟩ : Array Value)).toList.take l.length = l.map (Value.int .i64) := by
      show ((Z3 l).flatten ++ spare).take l.length = _
      rw [ints_flat, List.take_append_of_le_length (by simp), List.take_of_length_le (by simp)]
    have hcle := Lib.compact_length_le l
    refine (Tryz.slices_Compact_int b 0 cap l w (holds_of_blockI hb ht) (by omega) hcap).mono ?_
    rintro e w' ⟨rfl, n, rfl⟩
    obtain ⟨ts, hts⟩ : ∃ ts, ts = Lib.compact l ++ List.replicate (l.length - (Lib.compact l).length) 0 := ⟨_, rfl⟩
    have htl : ts.length = l.length := by rw [hts]; simp; omega
    rw [← hts]
    have hg := grownBy_sortedI (w := w) (g := b) (n := n) (os := #[]) ts.toArray
    have e0 : ∀ w : World, grow w #[] = w := by intro w; simp [grow]
    rw [e0] at hg
    have hb' := heap_sortedI (n := n) (os := #[]) ts.toArray hb
    rw [e0] at hb'
    have hm : Mem (putRow (Value.int .i64) (Sort.ahead w n) b 0 ts.toArray) ((b, .cells (putCells (Value.int .i64) 0 ts.toArray ⟨(Z3 l).flatten ++ spare⟩) 3 (0, 0)) :: F) H := by
      refine Mem.setG (w := w) (o := .cells ⟨(Z3 l).flatten ++ spare⟩ 3 (0, 0)) (by simpa using m) hb' ?_ ⟨rfl, rfl⟩
      intro k hk hne
      exact hg.block k hk (fun e => hne (Option.some.inj e))
    refine ⟨_, [[(b, .cells (putCells (Value.int .i64) 0 ts.toArray ⟨(Z3 l).flatten ++ spare⟩) 3 (0, 0))]], rfl, by simpa using hm, _, rfl, ?_⟩
    exact own_put (T := 3) (b := b) (n := (Lib.compact l).length) (cap := cap) (cur := (Z3 l).flatten ++ spare) (ts := ts) hcl (by omega) (by omega) (us := Lib.compact l) (by rw [hts, List.take_left])
section
variable {c : Cx} {H : Heap} {ρ : Nat → Value} {M : List Zf} {K : Value → List Zf → Prop} {d : Option Nat} {ot : TypeId} {pos : String} {af : Array Edge} {g : Option (Nat × Bool)} {x y : Operand}
theorem Runs_lookupH {T kt et : TypeId} {r : Nat} {l : List Int} {k : Int} (hm : c.P.underlying T = some (.map kt et)) (hd : c.P.underlying kt = some (.int .i64)) (hzv : ∀ w, (zeroValue et).run c.P w = .ok (.bool false) w) (hx : ev c.n ρ x = .map (some r)) (hy : ev c.n ρ y = .int .i64 k)
    (hr : H r = some (metO l)) (h : K (.bool (decide (k ∈ l))) M) : Runs c H ⟨d, .lookup T x y false, ot, pos, af, g⟩ ρ M K := fun F w m => by
  have hb : w.heap[r]? = some (.map ⟨metE l⟩ l.length) := m.imm r _ hr
  have hk : IsKey (.int .i64) (.int .i64 k) := rfl
  refine ⟨_, _, _, .inl ?_, m, h⟩
  rcases met_find l k with ⟨h0, h1⟩ | ⟨h0, j, e, h1, h2, h3, h4⟩
  · simp [execOp, Instr.lookup, hx, hy, run_underlying hm, MapKept.run_getObj_map hb, run_checkKey hd hk, run_findKey hd h1, hzv, Result.andThen, h0]
  · simp [execOp, Instr.lookup, hx, hy, run_underlying hm, MapKept.run_getObj_map hb, run_checkKey hd hk, run_findKey hd h1, Result.andThen, h0]
theorem Runs_lenMap {T kt et : TypeId} {i r : Nat} {l : List Int} (hm : ∀ w, (underlying T).run c.P w = .ok (.map kt et) w) (hx : ev c.n ρ x = .map (some r))
    (hi : M[i]? = some (metC r l)) (h : K (.int .i64 (l.length : Int)) M) : Runs c H ⟨d, .call { callee := .builtin .len, args := #[x], argTypes := #[T] }, ot, pos, af, g⟩ ρ M K := fun F w m => by
  have hb : w.heap[r]? = some (.map ⟨metE l⟩ l.length) := (m.perm ((Z5 hi).append_right F)).own r _ (List.mem_cons_self ..)
  refine ⟨_, _, _, .inl ?_, m, h⟩
  have hl : (metE l).length = l.length := by simp [metE]
  simp [execOp, resolve, invoke, builtin, Builtin.len_, hm, hx, goInt, MapKept.run_getObj_map hb, hl]
end
/-! from node to node -/
mutual
def inT {σ : Type} (step : Tm → Int → σ → σ) : Int → Tm → σ → σ
  | b, .mk k n r kids cases, s => inCs step b cases (inTs step b k 0 kids (step (.mk k n r kids cases) b s))
def inTs {σ : Type} (step : Tm → Int → σ → σ) : Int → Int → Nat → List Tm → σ → σ
  | _, _, _, [], s => s
  | b, k, i, t :: l, s => inTs step b k (i + 1) l (inT step (b + more k i) t s)
def inCs {σ : Type} (step : Tm → Int → σ → σ) : Int → List (Pt × Tm) → σ → σ
  | _, [], s => s
  | b, (p, t) :: l, s => inCs step b l (inT step (b + (binds p : Int)) t s)
end
def fnS : Tm → Int → List Int → List Int
  | .mk k n _ _ _, b, s => if k = 1 ∧ b ≤ n then addK s (n - b) else s
theorem inT_met (t : Tm) : tidy t → ∀ b s, inT fnS b t s = (Z2 (fun s => s) YP b t s).2 := by
  induction t using Tm.ind with
  | h k n r kids cases ih ih' =>
    intro ht b s
    rw [tidy] at ht
    have hK : ∀ (l : List Tm), tidys l → (∀ t ∈ l, tidy t → ∀ b s, inT fnS b t s = (Z2 (fun s => s) YP b t s).2) → ∀ i s, inTs fnS b k i l s = (ZT (fun s => s) YP b k i l s).2 := by
      intro l
      induction l with
      | nil => intro _ _ i s; rw [inTs, ZT]
      | cons t l ihl =>
        intro ht hl i s
        rw [tidys] at ht
        rw [inTs, ZT, hl t (by simp) ht.1, ihl ht.2 (fun x hx => hl x (by simp [hx]))]
    have hC : ∀ (l : List (Pt × Tm)), tidyc l → (∀ t ∈ l, tidy t.2 → ∀ b s, inT fnS b t.2 s = (Z2 (fun s => s) YP b t.2 s).2) → ∀ s, inCs fnS b l s = (ZY (fun s => s) YP b l s).2 := by
      intro l
      induction l with
      | nil => intro _ _ s; rw [inCs, ZY]
      | cons t l ihl =>
        obtain ⟨p, t⟩ := t
        intro ht hl s
        rw [tidyc] at ht
        rw [inCs, ZY, hl (p, t) (by simp) ht.1, ihl ht.2 (fun x hx => hl x (by simp [hx]))]
    rw [inT, Z2]
    by_cases hk : k = 1 ∧ b ≤ n
    · obtain ⟨_, e2, e3⟩ := ht.1 hk.1
      subst e2 e3
      rw [inTs, inCs, if_pos hk, fnS, if_pos hk, YP]
    · rw [if_neg hk, fnS, if_neg hk]
      simp only
      rw [hK kids ht.2.1 ih, hC cases ht.2.2 ih']
theorem addK_nodup {s : List Int} {k : Int} (h : s.Nodup) : (addK s k).Nodup := by
  unfold addK
  split
  · exact h
  · rename_i hk
    rw [List.nodup_append]
    exact ⟨h, by simp, by intro a ha b hb; simp at hb; subst hb; exact fun e => hk (e ▸ ha)⟩
theorem inT_nodup (t : Tm) : ∀ b s, s.Nodup → (inT fnS b t s).Nodup := by
  induction t using Tm.ind with
  | h k n r kids cases ih ih' =>
    intro b s hs
    have hK : ∀ (l : List Tm), (∀ t ∈ l, ∀ b s, s.Nodup → (inT fnS b t s).Nodup) → ∀ i s, s.Nodup → (inTs fnS b k i l s).Nodup := by
      intro l
      induction l with
      | nil => intro _ i s h; rw [inTs]; exact h
      | cons t l ihl => intro hl i s h; rw [inTs]; exact ihl (fun x hx => hl x (by simp [hx])) _ _ (hl t (by simp) _ _ h)
    have hC : ∀ (l : List (Pt × Tm)), (∀ t ∈ l, ∀ b s, s.Nodup → (inT fnS b t.2 s).Nodup) → ∀ s, s.Nodup → (inCs fnS b l s).Nodup := by
      intro l
      induction l with
      | nil => intro _ s h; rw [inCs]; exact h
      | cons t l ihl => obtain ⟨p, t⟩ := t; intro hl s h; rw [inCs]; exact ihl (fun x hx => hl x (by simp [hx])) _ (hl (p, t) (by simp) _ _ h)
    rw [inT]
    refine hC cases ih' _ (hK kids ih 0 _ ?_)
    rw [fnS]
    split
    · exact addK_nodup hs
    · exact hs
/-- what is met is what is free -/
theorem met_free {d m : Int} (hd : d ≤ 60) {t : Tm} (h : ZC d m 0 t = 0) : (inT fnS 0 t []).length = (Zy t).length ∧ ∀ x ∈ Zy t, x ∈ inT fnS 0 t [] := by
  have e : inT fnS 0 t [] = metT t := inT_met t (right_ok d m t 0 h).1 0 []
  have hb := met_all (Q := fun x => 0 ≤ x ∧ x < d) t 0 [] (err_all t 0 (Int.le_refl 0) h) (by simp)
  rw [e]
  refine ⟨(metF_len (e ▸ inT_nodup t 0 [] (by simp)) (fun x hx => by have := hb x hx; omega)).symm, ?_⟩
  intro x hx
  unfold Zy upTo at hx
  obtain ⟨i, hi, rfl⟩ := List.mem_map.1 hx
  obtain ⟨h1, h2⟩ := List.mem_filter.1 hi
  rw [metF_get _ _ (by simpa using h1)] at h2
  exact of_decide_eq_true h2
theorem nErrK_get {d m b k : Int} {l : List Tm} : ∀ {i : Nat}, ZM d m b k i l = 0 → ∀ {j : Nat} (h : j < l.length), ZC d m (b + more k ((i + j : Nat) : Int)) l[j] = 0 := by
  induction l with
  | nil => intro i _ j h; simp at h
  | cons t l ih =>
    intro i h j hj
    obtain ⟨h1, h2⟩ := nErrK_cons.1 h
    cases j with
    | zero => exact h1
    | succ j =>
      have := ih h2 (j := j) (by simpa using hj)
      rw [show i + 1 + j = i + (j + 1) from by omega] at this
      exact this
theorem nErrK_get0 {d m b k : Int} {l : List Tm} (h : ZM d m b k 0 l = 0) {j : Nat} (hj : j < l.length) : ZC d m (b + more k (j : Int)) l[j] = 0 := by
  have := nErrK_get h hj
  rw [Nat.zero_add] at this
  exact this
theorem nErrC_get {d m b : Int} {l : List (Pt × Tm)} (h : Yi d m b l = 0) : ∀ {j : Nat} (h : j < l.length), ZC d m (b + (binds l[j].1 : Int)) l[j].2 = 0 := by
  induction l with
  | nil => intro j h; simp at h
  | cons t l ih =>
    intro j hj
    obtain ⟨p, t⟩ := t
    obtain ⟨h1, h2⟩ := nErrC_cons.1 h
    cases j with
    | zero => exact h1
    | succ j => exact ih h2 (by simpa using hj)
theorem pErrRC_get {l : List (Pt × Tm)} (h : Ys l = 0) : ∀ {j : Nat} (h : j < l.length), YL l[j].1 = 0 := by
  induction l with
  | nil => intro j h; simp at h
  | cons t l ih =>
    intro j hj
    rw [Ys] at h
    split at h
    · rename_i h1
      cases j with
      | zero => exact h1
      | succ j => exact ih h (by simpa using hj)
    · rename_i h1; exact absurd h h1
theorem own_srcI {P : Program} {H : Heap} {T : TypeId} {v : Value} {l : List Int} {k : Zf} {M : List Zf} {i : Nat} (o : Own T 1 v (Z3 l) k) (hi : M[i]? = some k) : ∀ F w, Mem w (M.flatten ++ F) H → Src P 1 w v l.length (Z3 l).flatten := by
  intro F w m
  rcases o.2 with ⟨e, e2, e3⟩ | ⟨b, cap, sp, e, e2, e3, e4⟩
  · have : l = [] := by have := ZU l; rw [e2] at this; exact List.eq_nil_of_length_eq_zero this.symm
    subst this
    rw [e]; exact Src.nil
  · subst e
    have hb : w.heap[b]? = some (.cells ⟨(Z3 l).flatten ++ sp⟩ T (0, 0)) := (At.k (M := M) (H := H) i hi (by rw [e2]; simp)).heap m
    have := Src.row (P := P) (cap := cap) (n := l.length) hb (by have := sub_flat (sp := sp) o.1; rwa [ZU] at this)
    rwa [ZU]
theorem ints_app (a b : List Int) : Z3 (a ++ b) = Z3 a ++ Z3 b := by unfold Z3; rw [List.map_append]
theorem wantF_app (n : Int) (a b : List Int) : Yh n (a ++ b) = Yh n a ++ Yh n b := by
  induction a with
  | nil => rw [Yh]; rfl
  | cons x a ih => rw [List.cons_append, Yh, Yh, ih, List.append_assoc]
theorem wantF_snoc {n : Int} {l : List Int} {j : Nat} (h : j < l.length) : Yh n (l.take (j + 1)) = Yh n (l.take j) ++ (if l[j] < n then [l[j]] else if n < l[j] then [l[j] - 1] else []) := by
  rw [List.take_succ_eq_append_getElem h, wantF_app]
  congr 1
  rw [Yh, Yh, List.append_nil]
end Go.Proofs.YtjhenmdcnbaobaaGreat.Hs
/-! Walks, printed by a program of this session's own (gen.py). -/
namespace Go.Proofs.YtjhenmdcnbaobaaGreat.Hs
open Go Go.Proofs
set_option maxRecDepth 100000
set_option linter.unusedVariables false
set_option linter.unusedSimpArgs false
attribute [local irreducible] JL J CT wlo DT
theorem big_ct (e : Int) (H : Heap) : CT Tryz.prog 16 ⟨[iv e]⟩ [] H (fun v N => v = .bool (decide (e = 11)) ∧ N = []) := by
 refine Zl Tryz.func16 rfl rfl <| Zc <| Za <| JLA rfl <| Zb <| Zc <| Za <| JLM rfl <| JLn (Pu.eql rfl rfl) <| JLA rfl <| Zb <| Zk <| ⟨.bool (decide (e = 11)), [], Ret.one rfl (RV.tmp rfl), Sub.nil, ?_⟩
 exact ⟨rfl, rfl⟩
theorem freeK1_ct : ∀ (t : Tm) (b : Int) (s : List Int) (r bM : Nat) (cs : List Value) (H : Heap), RT H cs t → H bM = some (.cells ⟨[.map (some r)]⟩ 56 (0, 0)) → 0 ≤ b → b ≤ 1000000 → CT Tryz.prog 20 ⟨[.agg ⟨cs⟩, iv b, pp bM 0]⟩ [metC r s] H (fun v N => v = .bool true ∧ N = [metC r (fnS t b s)]) := by
 intro t b s r bM cs H ht hM hb0 hb1
 obtain ⟨kind, num, ref, kids, cases⟩ := t
 obtain ⟨ks, cv, rfl, hk, hn, hks, hcv⟩ := RT_mk.1 ht
 have hn1 : -9223372036854775808 ≤ num := hn.1
 have hn2 : num ≤ 9223372036854775807 := hn.2
 refine Zl Tryz.func20 rfl rfl <| Zc <| Za <| JLr (Zp (l := pkT kind num ref ks cv) rfl rfl fun b1 => JLA rfl <| Zb <| Zc <| Zc <| Za <| JLq (pp b1 0) (ZI rfl rfl) <| JLr (Ze ty3 rfl (At.bx 0 rfl) (ZQ ..) <| JLn (Pu.eql rfl rfl) <| JLM rfl ?_))
 refine Zx 4 [10, 11, 12, 13] [(13, cond (decide (kind = 1)) (.bool (decide (b ≤ num))) undef)] ?_ fun f3 => ?_
 ·cases h2 : (decide (kind = 1)) with
  | true =>
   replace h2 := dt h2
   refine JLq (pp b1 1) (Yj rfl rfl) <| JLr (Ze ty3 rfl (At.bx 0 rfl) (YK ..) <| JLM rfl <| JLn (Pu.geq rfl rfl) ?_)
   exact Zb ⟨⟨rfl, trivial⟩, rfl⟩
  | false =>
   exact ZH rfl ⟨rfl, trivial⟩
 refine JLn (Pu.pickAnd rfl rfl rfl) <| Zb <| Zg rfl (fun h4 => ?_) (fun h4 => ?_)
 ·obtain ⟨h4a, h4b⟩ := YC h4
  replace h4a := dt h4a
  replace h4b := dt h4b
  refine Za <| JLr (Ze ty56 rfl (At.im hM) rfl <| JLq (pp b1 1) (Yj rfl rfl) <| JLr (Ze ty3 rfl (At.bx 0 rfl) (YK ..) <| JLM rfl <| JLn (Pu.sub64 rfl rfl (by first | omega | (constructor <;> omega))) <| JLr (Runs_mapUpdate (i := 1) Tryz.underlying56 Tryz.underlying3 rfl rfl rfl rfl <| Zb <| Zc <| Za <| JLA rfl <| Zb <| Zk ?_)))
  refine ⟨.bool true, [metC r (addK s (num - b))], Ret.one rfl (RV.tmp rfl), (Sd (Sk Sub.nil)), ?_⟩
  refine ⟨rfl, ?_⟩
  rw [fnS, if_pos (by have z := h4; simpa using z)]
 refine Zm <| Zc <| Za <| JLA rfl <| Zb <| Zk <| ⟨.bool true, [metC r s], Ret.one rfl (RV.tmp rfl), (Sd (Sk Sub.nil)), ?_⟩
 refine ⟨rfl, ?_⟩
 rw [fnS, if_neg (by have z := h4; simp at z; intro q; have := z q.1; omega)]
theorem freeK2_ct (x : Int) (l : List Int) (r bM : Nat) (H : Heap) (hM : H bM = some (.cells ⟨[.map (some r)]⟩ 56 (0, 0))) (hmr : H r = some (metO l)) : CT Tryz.prog 24 ⟨[iv x, pp bM 0]⟩ [] H (fun v N => v = .bool (!decide (x ∈ l)) ∧ N = []) := by
 refine Zl Tryz.func24 rfl rfl <| Zc <| Za <| JLA rfl <| Zb <| Zc <| Za <| JLr (Ze ty56 rfl (At.im hM) rfl <| JLM rfl <| JLr (Runs_lookupH Tryz.underlying56 Tryz.underlying3 Tryz.zeroValue4 rfl rfl hmr <| JLn (Pu.not rfl) <| JLA rfl <| Zb ?_))
 refine Zk <| ⟨.bool (!(decide (x ∈ l))), [], Ret.one rfl (RV.tmp rfl), Sub.nil, ?_⟩
 exact ⟨rfl, rfl⟩
theorem idxN_ct (l : List Int) (x : Int) (v : Value) (H : Heap) (hl : rdS RI 1 H v l) : CT Tryz.prog 52 ⟨[v, iv x]⟩ [] H (fun v N => v = iv (fstI (fun y => decide (x = y)) l 0) ∧ N = []) := by
 refine Zl Tryz.func52 rfl rfl <| Zc <| Za <| JLA rfl <| Zb <| Zc <| Zc <| Za <| JLm v ?_
 obtain ⟨a1, cap1, hv1⟩ := hl.sl
 have hle1 := hl.le
 refine JLn (Pu.lenSl Tryz.runUnderlying49 hv1) <| JLM rfl <| Zb <| Zo <| ZP (fun k ρ M => ∃ (j : Nat), ρ 0 = v ∧ ρ 1 = iv x ∧ ρ 4 = iv 0 ∧ ρ 7 = iv ((l.length : Int)) ∧ ρ 8 = iv ((j : Int)) ∧ Sub [] M ∧ j ≤ l.length ∧ fstI (fun y => decide (x = y)) (l.drop j) j = fstI (fun y => decide (x = y)) l 0 ∧ k = l.length - j) _ ⟨0, rfl, rfl, rfl, rfl, rfl, Sub.nil, Nat.zero_le _, rfl, rfl⟩ ?_
 rintro _ ρ2 _ ⟨j, e3, e4, e5, e6, e7, hm8, hj, hinv, rfl⟩
 obtain ⟨ρ9, rfl⟩ := Zn (uc e3 (uc e4 (uc e5 (uc e6 (uc e7 un)))))
 clear e3 e4 e5 e6 e7
 refine Z6 hm8 <| Zc <| Za <| JLn (Pu.lss rfl rfl) <| Zb <| Zc <| Zg rfl (fun h10 => ?_) (fun h10 => ?_)
 ·replace h10 := dt h10
  have h10n : j < l.length := by omega
  have hlenl := hl.le
  refine Zm <| Zc <| Zo <| Zc <| Za <| JLM rfl <| JLA rfl <| Zb <| Zc <| Za <| JLM rfl <| JLm v <| JLM rfl ?_
  obtain ⟨b11, o11, cap11, row11, T11, fr11, cs11, hv11, hb11, hs11, hE11⟩ := hl.get j (by first | assumption | omega | decide | simp)
  refine JLq (pp b11 (o11 + j * 1)) (Pu.idx j Tryz.runUnderlying49 ty3 hv11 rfl rfl (by first | assumption | omega | decide | simp)) <| JLr (Ze ty3 rfl (At.im hb11) (Yx ((show cs11 = [Value.int .i64 (l[j])] from hE11) ▸ hs11)) <| JLn (Pu.eql rfl rfl) <| Zb <| Zg rfl (fun h12 => ?_) (fun h12 => ?_))
  ·replace h12 := dt h12
   refine Zc <| Za <| JLM rfl <| JLA rfl <| Zb <| Zk <| ⟨iv ((j : Int)), [], Ret.one rfl (RV.tmp rfl), Sub.nil, ?_⟩
   exact ⟨by rw [← hinv, Yf h10n, fstI, if_pos (by simp [h12])], rfl⟩
  replace h12 := df h12
  refine Zm <| Za <| JLn (Pu.inc rfl rfl (by omega)) <| JLM rfl <| Zb <| ⟨_, ?_, (j + 1), rfl, rfl, rfl, rfl, rfl, Sub.nil, ?_, ?_, rfl⟩
  ·omega
  ·omega
  rw [Yf h10n, fstI, if_neg (by simp [h12])] at hinv; exact hinv
 replace h10 := df h10
 have h10n : l.length ≤ j := by omega
 refine ZG _ rfl <| Zc <| Za <| JLA rfl <| Zb <| Zk <| ⟨iv (-1), [], Ret.one rfl (RV.tmp rfl), Sub.nil, ?_⟩
 exact ⟨by rw [← hinv, dropn h10n]; rfl, rfl⟩
theorem containsN_ct (l : List Int) (x : Int) (v : Value) (H : Heap) (hl : rdS RI 1 H v l) : CT Tryz.prog 17 ⟨[v, iv x]⟩ [] H (fun v N => v = .bool (decide (x ∈ l)) ∧ N = []) := by
 refine Zl Tryz.func17 rfl rfl <| Zc <| Za <| JLA rfl <| Zb <| Zc <| Za <| JLm v <| JLM rfl <| Jc Tryz.call52 rfl (fun hin => idxN_ct _ _ _ _ (RIs.mono (Hle.hu _ _) hl)) rfl ?_
 rintro _ _ ⟨rfl, rfl⟩
 refine JLn (Pu.geq rfl rfl) <| JLA rfl <| Zb <| Zk <| ⟨.bool (decide (0 ≤ fstI (fun y => decide (x = y)) l 0)), [], Ret.one rfl (RV.tmp rfl), Sub.nil, ?_⟩
 exact ⟨by rw [fstI_any]; congr 1; rw [Bool.eq_iff_iff]; simp, rfl⟩
end Go.Proofs.YtjhenmdcnbaobaaGreat.Hs
/-! Walks, printed by a program of this session's own (gen.py). -/
namespace Go.Proofs.YtjhenmdcnbaobaaGreat.Hs
open Go Go.Proofs
set_option maxRecDepth 100000
set_option linter.unusedVariables false
set_option linter.unusedSimpArgs false
attribute [local irreducible] JL J CT wlo DT
set_option maxHeartbeats 4000000 in
theorem inside_ct : ∀ (gf : Nat) (fs fcs : List Value) (hcall : ∀ args w, (callFunc gf args).run Tryz.prog w = .ok (.enter gf args) w) {σ : Type} (Sc : σ → Zf) (step : Tm → Int → σ → σ) (d m : Int) (t : Tm) (b : Int) (s : σ) (cs : List Value) (H : Heap), RT H cs t → 0 ≤ b → b + 2 * sizeT t ≤ 1000000 → ZC d m b t = 0 → (∀ (x : Tm) (b : Int) (s : σ) (a : List Value) (h : Heap), Hle H h → RT h a x → 0 ≤ b → b ≤ 1000000 → CT Tryz.prog gf ⟨fs ++ [.agg ⟨a⟩, iv b] ++ fcs⟩ [Sc s] h (fun v N => v = .bool true ∧ N = [Sc (step x b s)])) → CT Tryz.prog 19 ⟨[.agg ⟨cs⟩, iv b, .func (.func gf) ⟨fs⟩ ⟨fcs⟩]⟩ [Sc s] H (fun v N => v = .bool true ∧ N = [Sc (inT step b t s)]) := by
 intro gf fs fcs hcall σ Sc step d m t
 induction t using Tm.ind with
 | h kind num ref kids cases ih ih' =>
 intro b s cs H ht hb0 hz he hg
 have hE := nErr_iff.1 he
 obtain ⟨ks, cv, rfl, hk, hn, hks, hcv⟩ := RT_mk.1 ht
 rw [sizeT] at hz
 have hlk := len_sizeTs kids
 have hle := hks.le
 refine Zl Tryz.func19 rfl rfl <| Zc <| Za <| JLr (Zp (l := pkT kind num ref ks cv) rfl rfl fun b1 => JLA rfl <| Zb <| Zc <| Zc <| Za <| JLM rfl <| JLr (Zi Zs rfl (At.bx 0 rfl) (ZX ..) <| JLM rfl <| Zq 1 rfl hcall rfl rfl (fun hin => hg _ _ _ _ _ (Hle.hu _ _) (RT.mono (Hle.hu _ _) (RT_mk.2 ⟨ks, cv, rfl, hk, hn, hks, hcv⟩)) (by omega) (by omega)) rfl ?_))
 rintro _ _ ⟨rfl, rfl⟩
 refine JLq (.bool false) (show Pu _ _ _ (.bool (!true)) from Pu.not rfl) <| Zb <| Zg (b := false) rfl (fun h => absurd h (by simp)) (fun _ => Zm <| Zc <| Zc <| Za <| JLq (pp b1 34) (Yu rfl rfl) <| JLr (Ze ty25 rfl (At.bx 1 rfl) (Yl ..) ?_))
 obtain ⟨a2, cap2, hv2⟩ := hks.sl
 have hle2 := hks.le
 refine JLn (Pu.lenSl Tryz.runUnderlying25 hv2) <| JLM rfl <| Zb <| Zo <| ZP (fun k ρ M => ∃ (j : Nat) (s2 : σ), ρ 1 = iv b ∧ ρ 2 = .func (.func gf) ⟨fs⟩ ⟨fcs⟩ ∧ ρ 3 = pp b1 0 ∧ ρ 6 = .bool false ∧ ρ 18 = ks ∧ ρ 19 = iv ((kids.length : Int)) ∧ ρ 20 = iv ((j : Int)) ∧ Sub [Sc s2, (BX b1 (pkT kind num ref ks cv) 28)] M ∧ j ≤ kids.length ∧ inTs step b kind j (kids.drop j) s2 = inTs step b kind 0 kids (step (.mk kind num ref kids cases) b s) ∧ k = kids.length - j) _ ⟨0, (step ((.mk kind num ref kids cases)) b s), rfl, rfl, rfl, rfl, rfl, rfl, rfl, (Sk (Sk Sub.nil)), Nat.zero_le _, rfl, rfl⟩ ?_
 rintro _ ρ3 _ ⟨j, s2, e4, e5, e6, e7, e8, e9, e10, hm11, hj, hinv, rfl⟩
 obtain ⟨ρ12, rfl⟩ := Zn (uc e4 (uc e5 (uc e6 (uc e7 (uc e8 (uc e9 (uc e10 un)))))))
 clear e4 e5 e6 e7 e8 e9 e10
 refine Z6 hm11 ?_
 have hlen := hks.le
 refine Zc <| Za <| JLn (Pu.lss rfl rfl) <| Zb <| Zc <| Zg rfl (fun h13 => ?_) (fun h13 => ?_)
 ·replace h13 := dt h13
  have h13n : j < kids.length := by omega
  have hs1 := sizeTs_mem _ (List.getElem_mem h13n)
  have hej := nErrK_get0 hE.2.2.1 h13n
  refine Zm <| Zc <| Zo <| Zc <| Za <| JLM rfl ?_
  obtain ⟨b14, o14, cap14, row14, T14, fr14, cs14, hv14, hb14, hs14, hE14⟩ := hks.get j (by first | assumption | omega | decide | simp)
  refine JLq (pp b14 (o14 + j * 36)) (Pu.idx j Tryz.runUnderlying25 Zs hv14 rfl rfl (by first | assumption | omega | decide | simp)) <| JLr (Zi Zs rfl (At.im hb14) hs14 <| JLr (Zh (l := pkT 0 0 zS nS nS) Tryz.zeroValue28 rfl fun b15 => JLA rfl <| JLr (Zd 0 (vs := cs14) (l := cs14) Zs rfl rfl rfl rfl (Zv hE14) (RT_ok hE14) (ZD (n := 36) rfl (Zv hE14)) <| Zb <| Zc <| Za <| JLA rfl <| Zb <| Zc <| Zo <| Zc ?_)))
  refine Zc <| Za <| JLq (pp b1 0) (ZI rfl rfl) <| JLr (Ze ty3 rfl (At.bx 2 rfl) (ZQ ..) <| JLn (Pu.eql rfl rfl) <| JLA rfl <| Zb <| Zg rfl (fun h16 => ?_) (fun h16 => ?_))
  ·replace h16 := dt h16
   refine Zm <| Zg rfl (fun _ => ?_) (fun h17 => absurd h16 (df h17))
   refine Za <| JLA rfl <| Zb <| Zc <| Za <| JLr (Zi Zs rfl (At.bx 0 rfl) (Zu (Zv hE14)) <| JLM rfl <| JLM rfl <| JLn (Pu.add64 rfl rfl (by first | omega | (constructor <;> omega))) <| JLM rfl ?_)
   have hmo18 : more kind ((j : Nat) : Int) = 1 := by unfold more; (repeat' split) <;> first | omega | (exfalso; simp_all; done) | (exfalso; simp_all; omega)
   refine Zq 1 rfl Tryz.call19 rfl rfl (fun hin => ih _ (List.getElem_mem h13n) _ _ _ _ (RT.mono (Hle.hu _ _) hE14) (by omega) (by omega) (by rw [hmo18] at hej; exact hej) (fun x b s a h hh ra k1 k2 => hg x b s a h (Hle.trans (Hle.hu _ _) hh) ra k1 k2)) rfl ?_
   rintro _ _ ⟨rfl, rfl⟩
   refine JLq (.bool false) (show Pu _ _ _ (.bool (!true)) from Pu.not rfl) <| Zb <| Zg (b := false) rfl (fun h => absurd h (by simp)) (fun _ => Zm <| Za <| JLn (Pu.inc rfl rfl (by omega)) <| JLM rfl <| Zb <| ⟨_, ?_, (j + 1), ((inT step (b + 1) (kids[j]) s2)), rfl, rfl, rfl, rfl, rfl, rfl, rfl, (Sk (Sd (Sk Sub.nil))), ?_, ?_, rfl⟩)
   ·omega
   ·omega
   rw [Yf h13n, inTs, hmo18] at hinv; exact hinv
  replace h16 := df h16
  refine Zc <| Za <| JLq (pp b1 0) (ZI rfl rfl) <| JLr (Ze ty3 rfl (At.bx 2 rfl) (ZQ ..) <| JLn (Pu.eql rfl rfl) <| JLM rfl <| Zx 2 [33, 34] [(34, cond (decide (kind = 5)) (.bool (decide ((j : Int) = 1))) undef)] ?_ fun f20 => ?_)
  ·cases h19 : (decide (kind = 5)) with
   | true =>
    replace h19 := dt h19
    refine JLM rfl <| JLn (Pu.eql rfl rfl) ?_
    exact Zb ⟨⟨rfl, trivial⟩, rfl⟩
   | false =>
    exact ZH rfl ⟨rfl, trivial⟩
  refine JLn (Pu.pickAnd rfl rfl rfl) <| JLA rfl <| Zb <| Zg rfl (fun h21 => ?_) (fun h21 => ?_)
  ·obtain ⟨h21a, h21b⟩ := YC h21
   replace h21a := dt h21a
   replace h21b := dt h21b
   refine Zm <| Zg rfl (fun h22 => ?_) (fun h22 => ?_)
   ·obtain ⟨h22a, h22b⟩ := YC h22
    replace h22a := dt h22a
    replace h22b := dt h22b
    refine Za <| JLA rfl <| Zb <| Zc <| Za <| JLr (Zi Zs rfl (At.bx 0 rfl) (Zu (Zv hE14)) <| JLM rfl <| JLM rfl <| JLn (Pu.add64 rfl rfl (by first | omega | (constructor <;> omega))) <| JLM rfl ?_)
    have hmo23 : more kind ((j : Nat) : Int) = 1 := by unfold more; (repeat' split) <;> first | omega | (exfalso; simp_all; done) | (exfalso; simp_all; omega)
    refine Zq 1 rfl Tryz.call19 rfl rfl (fun hin => ih _ (List.getElem_mem h13n) _ _ _ _ (RT.mono (Hle.hu _ _) hE14) (by omega) (by omega) (by rw [hmo23] at hej; exact hej) (fun x b s a h hh ra k1 k2 => hg x b s a h (Hle.trans (Hle.hu _ _) hh) ra k1 k2)) rfl ?_
    rintro _ _ ⟨rfl, rfl⟩
    refine JLq (.bool false) (show Pu _ _ _ (.bool (!true)) from Pu.not rfl) <| Zb <| Zg (b := false) rfl (fun h => absurd h (by simp)) (fun _ => Zm <| Za <| JLn (Pu.inc rfl rfl (by omega)) <| JLM rfl <| Zb <| ⟨_, ?_, (j + 1), ((inT step (b + 1) (kids[j]) s2)), rfl, rfl, rfl, rfl, rfl, rfl, rfl, (Sk (Sd (Sk Sub.nil))), ?_, ?_, rfl⟩)
    ·omega
    ·omega
    rw [Yf h13n, inTs, hmo23] at hinv; exact hinv
   refine Zc <| Za <| JLq (pp b1 0) (ZI rfl rfl) <| JLr (Ze ty3 rfl (At.bx 2 rfl) (ZQ ..) <| JLn (Pu.eql rfl rfl) <| JLM rfl <| Zx 2 [48, 49] [(49, cond (decide (kind = 12)) (.bool (decide (1 < (j : Int)))) undef)] ?_ fun f25 => ?_)
   ·cases h24 : (decide (kind = 12)) with
    | true =>
     replace h24 := dt h24
     refine JLM rfl <| JLn (Pu.gtr rfl rfl) ?_
     exact Zb ⟨⟨rfl, trivial⟩, rfl⟩
    | false =>
     exact ZH rfl ⟨rfl, trivial⟩
   refine JLn (Pu.pickAnd rfl rfl rfl) <| JLA rfl <| Zb <| Zg rfl (fun h26 => ?_) (fun h26 => ?_)
   ·obtain ⟨h26a, h26b⟩ := YC h26
    replace h26a := dt h26a
    replace h26b := dt h26b
    refine Za <| JLA rfl <| Zb <| Zc <| Za <| JLr (Zi Zs rfl (At.bx 0 rfl) (Zu (Zv hE14)) <| JLM rfl <| JLM rfl <| JLn (Pu.add64 rfl rfl (by first | omega | (constructor <;> omega))) <| JLM rfl ?_)
    have hmo27 : more kind ((j : Nat) : Int) = 2 := by unfold more; (repeat' split) <;> first | omega | (exfalso; simp_all; done) | (exfalso; simp_all; omega)
    refine Zq 1 rfl Tryz.call19 rfl rfl (fun hin => ih _ (List.getElem_mem h13n) _ _ _ _ (RT.mono (Hle.hu _ _) hE14) (by omega) (by omega) (by rw [hmo27] at hej; exact hej) (fun x b s a h hh ra k1 k2 => hg x b s a h (Hle.trans (Hle.hu _ _) hh) ra k1 k2)) rfl ?_
    rintro _ _ ⟨rfl, rfl⟩
    refine JLq (.bool false) (show Pu _ _ _ (.bool (!true)) from Pu.not rfl) <| Zb <| Zg (b := false) rfl (fun h => absurd h (by simp)) (fun _ => Zm <| Za <| JLn (Pu.inc rfl rfl (by omega)) <| JLM rfl <| Zb <| ⟨_, ?_, (j + 1), ((inT step (b + 2) (kids[j]) s2)), rfl, rfl, rfl, rfl, rfl, rfl, rfl, (Sk (Sd (Sk Sub.nil))), ?_, ?_, rfl⟩)
    ·omega
    ·omega
    rw [Yf h13n, inTs, hmo27] at hinv; exact hinv
   refine Zm <| Zc <| Za <| JLr (Zi Zs rfl (At.bx 0 rfl) (Zu (Zv hE14)) <| JLM rfl <| JLM rfl <| JLn (Pu.add64 rfl rfl (by first | omega | (constructor <;> omega))) <| JLM rfl ?_)
   have hmo28 : more kind ((j : Nat) : Int) = 0 := by unfold more; (repeat' split) <;> first | omega | (exfalso; simp_all; done) | (exfalso; simp_all; omega)
   refine Zq 1 rfl Tryz.call19 rfl rfl (fun hin => ih _ (List.getElem_mem h13n) _ _ _ _ (RT.mono (Hle.hu _ _) hE14) (by omega) (by omega) (by rw [hmo28] at hej; exact hej) (fun x b s a h hh ra k1 k2 => hg x b s a h (Hle.trans (Hle.hu _ _) hh) ra k1 k2)) rfl ?_
   rintro _ _ ⟨rfl, rfl⟩
   refine JLq (.bool false) (show Pu _ _ _ (.bool (!true)) from Pu.not rfl) <| Zb <| Zg (b := false) rfl (fun h => absurd h (by simp)) (fun _ => Zm <| Za <| JLn (Pu.inc rfl rfl (by omega)) <| JLM rfl <| Zb <| ⟨_, ?_, (j + 1), ((inT step (b + 0) (kids[j]) s2)), rfl, rfl, rfl, rfl, rfl, rfl, rfl, (Sk (Sd (Sk Sub.nil))), ?_, ?_, rfl⟩)
   ·omega
   ·omega
   rw [Yf h13n, inTs, hmo28] at hinv; exact hinv
  refine Za <| JLq (pp b1 0) (ZI rfl rfl) <| JLr (Ze ty3 rfl (At.bx 2 rfl) (ZQ ..) <| JLn (Pu.eql rfl rfl) <| JLM rfl <| Zx 2 [40, 41] [(41, cond (decide (kind = 12)) (.bool (decide ((j : Int) = 1))) undef)] ?_ fun f30 => ?_)
  ·cases h29 : (decide (kind = 12)) with
   | true =>
    replace h29 := dt h29
    refine JLM rfl <| JLn (Pu.eql rfl rfl) ?_
    exact Zb ⟨⟨rfl, trivial⟩, rfl⟩
   | false =>
    exact ZH rfl ⟨rfl, trivial⟩
  refine JLn (Pu.pickAnd rfl rfl rfl) <| JLA rfl <| Zb <| Zg rfl (fun h31 => ?_) (fun h31 => ?_)
  ·obtain ⟨h31a, h31b⟩ := YC h31
   replace h31a := dt h31a
   replace h31b := dt h31b
   refine Za <| JLA rfl <| Zb <| Zc <| Za <| JLr (Zi Zs rfl (At.bx 0 rfl) (Zu (Zv hE14)) <| JLM rfl <| JLM rfl <| JLn (Pu.add64 rfl rfl (by first | omega | (constructor <;> omega))) <| JLM rfl ?_)
   have hmo32 : more kind ((j : Nat) : Int) = 1 := by unfold more; (repeat' split) <;> first | omega | (exfalso; simp_all; done) | (exfalso; simp_all; omega)
   refine Zq 1 rfl Tryz.call19 rfl rfl (fun hin => ih _ (List.getElem_mem h13n) _ _ _ _ (RT.mono (Hle.hu _ _) hE14) (by omega) (by omega) (by rw [hmo32] at hej; exact hej) (fun x b s a h hh ra k1 k2 => hg x b s a h (Hle.trans (Hle.hu _ _) hh) ra k1 k2)) rfl ?_
   rintro _ _ ⟨rfl, rfl⟩
   refine JLq (.bool false) (show Pu _ _ _ (.bool (!true)) from Pu.not rfl) <| Zb <| Zg (b := false) rfl (fun h => absurd h (by simp)) (fun _ => Zm <| Za <| JLn (Pu.inc rfl rfl (by omega)) <| JLM rfl <| Zb <| ⟨_, ?_, (j + 1), ((inT step (b + 1) (kids[j]) s2)), rfl, rfl, rfl, rfl, rfl, rfl, rfl, (Sk (Sd (Sk Sub.nil))), ?_, ?_, rfl⟩)
   ·omega
   ·omega
   rw [Yf h13n, inTs, hmo32] at hinv; exact hinv
  refine Zc <| Za <| JLq (pp b1 0) (ZI rfl rfl) <| JLr (Ze ty3 rfl (At.bx 2 rfl) (ZQ ..) <| JLn (Pu.eql rfl rfl) <| JLM rfl <| Zx 2 [48, 49] [(49, cond (decide (kind = 12)) (.bool (decide (1 < (j : Int)))) undef)] ?_ fun f34 => ?_)
  ·cases h33 : (decide (kind = 12)) with
   | true =>
    replace h33 := dt h33
    refine JLM rfl <| JLn (Pu.gtr rfl rfl) ?_
    exact Zb ⟨⟨rfl, trivial⟩, rfl⟩
   | false =>
    exact ZH rfl ⟨rfl, trivial⟩
  refine JLn (Pu.pickAnd rfl rfl rfl) <| JLA rfl <| Zb <| Zg rfl (fun h35 => ?_) (fun h35 => ?_)
  ·obtain ⟨h35a, h35b⟩ := YC h35
   replace h35a := dt h35a
   replace h35b := dt h35b
   refine Za <| JLA rfl <| Zb <| Zc <| Za <| JLr (Zi Zs rfl (At.bx 0 rfl) (Zu (Zv hE14)) <| JLM rfl <| JLM rfl <| JLn (Pu.add64 rfl rfl (by first | omega | (constructor <;> omega))) <| JLM rfl ?_)
   have hmo36 : more kind ((j : Nat) : Int) = 2 := by unfold more; (repeat' split) <;> first | omega | (exfalso; simp_all; done) | (exfalso; simp_all; omega)
   refine Zq 1 rfl Tryz.call19 rfl rfl (fun hin => ih _ (List.getElem_mem h13n) _ _ _ _ (RT.mono (Hle.hu _ _) hE14) (by omega) (by omega) (by rw [hmo36] at hej; exact hej) (fun x b s a h hh ra k1 k2 => hg x b s a h (Hle.trans (Hle.hu _ _) hh) ra k1 k2)) rfl ?_
   rintro _ _ ⟨rfl, rfl⟩
   refine JLq (.bool false) (show Pu _ _ _ (.bool (!true)) from Pu.not rfl) <| Zb <| Zg (b := false) rfl (fun h => absurd h (by simp)) (fun _ => Zm <| Za <| JLn (Pu.inc rfl rfl (by omega)) <| JLM rfl <| Zb <| ⟨_, ?_, (j + 1), ((inT step (b + 2) (kids[j]) s2)), rfl, rfl, rfl, rfl, rfl, rfl, rfl, (Sk (Sd (Sk Sub.nil))), ?_, ?_, rfl⟩)
   ·omega
   ·omega
   rw [Yf h13n, inTs, hmo36] at hinv; exact hinv
  refine Zm <| Zc <| Za <| JLr (Zi Zs rfl (At.bx 0 rfl) (Zu (Zv hE14)) <| JLM rfl <| JLM rfl <| JLn (Pu.add64 rfl rfl (by first | omega | (constructor <;> omega))) <| JLM rfl ?_)
  have hmo37 : more kind ((j : Nat) : Int) = 0 := by unfold more; (repeat' split) <;> first | omega | (exfalso; simp_all; done) | (exfalso; simp_all; omega)
  refine Zq 1 rfl Tryz.call19 rfl rfl (fun hin => ih _ (List.getElem_mem h13n) _ _ _ _ (RT.mono (Hle.hu _ _) hE14) (by omega) (by omega) (by rw [hmo37] at hej; exact hej) (fun x b s a h hh ra k1 k2 => hg x b s a h (Hle.trans (Hle.hu _ _) hh) ra k1 k2)) rfl ?_
  rintro _ _ ⟨rfl, rfl⟩
  refine JLq (.bool false) (show Pu _ _ _ (.bool (!true)) from Pu.not rfl) <| Zb <| Zg (b := false) rfl (fun h => absurd h (by simp)) (fun _ => Zm <| Za <| JLn (Pu.inc rfl rfl (by omega)) <| JLM rfl <| Zb <| ⟨_, ?_, (j + 1), ((inT step (b + 0) (kids[j]) s2)), rfl, rfl, rfl, rfl, rfl, rfl, rfl, (Sk (Sd (Sk Sub.nil))), ?_, ?_, rfl⟩)
  ·omega
  ·omega
  rw [Yf h13n, inTs, hmo37] at hinv; exact hinv
 replace h13 := df h13
 have h13n : kids.length ≤ j := by omega
 refine ZG _ rfl <| Zc <| Zc <| Za <| JLq (pp b1 35) (YQ rfl rfl) <| JLr (Ze ty26 rfl (At.bx 1 rfl) (YA ..) ?_)
 obtain ⟨a38, cap38, hv38⟩ := hcv.sl
 have hle38 := hcv.le
 refine JLn (Pu.lenSl Tryz.runUnderlying26 hv38) <| JLM rfl <| Zb <| Zo ?_
 have hk1 : inTs step b kind 0 kids (step (.mk kind num ref kids cases) b s) = s2 := by rw [← hinv, dropn h13n]; rfl
 refine ZP (fun k ρ M => ∃ (j : Nat) (s3 : σ), ρ 1 = iv b ∧ ρ 2 = .func (.func gf) ⟨fs⟩ ⟨fcs⟩ ∧ ρ 6 = .bool false ∧ ρ 60 = cv ∧ ρ 61 = iv ((cases.length : Int)) ∧ ρ 62 = iv ((j : Int)) ∧ Sub [Sc s3] M ∧ j ≤ cases.length ∧ inCs step b (cases.drop j) s3 = inCs step b cases s2 ∧ k = cases.length - j) _ ⟨0, s2, rfl, rfl, rfl, rfl, rfl, rfl, (Sk Sub.nil), Nat.zero_le _, rfl, rfl⟩ ?_
 rintro _ ρ39 _ ⟨j, s3, e40, e41, e42, e43, e44, e45, hm46, hj, hinv, rfl⟩
 obtain ⟨ρ47, rfl⟩ := Zn (uc e40 (uc e41 (uc e42 (uc e43 (uc e44 (uc e45 un))))))
 clear e40 e41 e42 e43 e44 e45
 refine Z6 hm46 ?_
 have hlen := hcv.le
 refine Zc <| Za <| JLn (Pu.lss rfl rfl) <| Zb <| Zc <| Zg rfl (fun h48 => ?_) (fun h48 => ?_)
 ·replace h48 := dt h48
  have h48n : j < cases.length := by omega
  have hs1 := sizeCs_mem _ (List.getElem_mem h48n)
  have hm1 := binds_le (cases[j]).1
  have hlenc := hcv.le
  have hej := nErrC_get hE.2.2.2 h48n
  have hpj := pErrRC_get hE.2.1 h48n
  have hsp := sizeT_pos (cases[j]).2
  refine Zm <| Zc <| Zo <| Zc <| Za ?_
  obtain ⟨b49, o49, cap49, row49, T49, fr49, cs49, hv49, hb49, hs49, hE49⟩ := hcv.get j (by first | assumption | omega | decide | simp)
  obtain ⟨ca49, cb49, rfl, hA49, hB49⟩ := hE49
  refine JLq (pp b49 (o49 + j * 71)) (Pu.idx j Tryz.runUnderlying26 ty87 hv49 rfl rfl (by first | assumption | omega | decide | simp)) <| JLr (Zi ty87 rfl (At.im hb49) hs49 <| JLr (Zh (l := (pkP 0 0 zS nS) ++ (pkT 0 0 zS nS nS)) Tryz.zeroValue87 rfl fun b50 => JLr (Zd 0 (vs := ca49 ++ cb49) (l := ca49 ++ cb49) ty87 rfl rfl rfl rfl (ZZ (ZF hA49) (Zv hB49)) (Ya (RP_ok hA49) (RT_ok hB49)) (ZD (n := 71) rfl (ZZ (ZF hA49) (Zv hB49))) <| Zb <| Zc <| ZV mixed #[0, 1, 0, 0, 8, 24, 60, 0, 255, 511] 8 [some 66, some 67, some 68, some 69, some 70, some 71, some 72, some 73] [] [(5, fun _ _ vw qw => vw = iv ((binds (cases[j].1) : Int)) ∧ qw = [])] rfl (by kernel_rfl) rfl (by kernel_rfl) <| Dq (pp b50 35) (fun _ => fa87_1 rfl rfl) <| Dl Zs (At.bx 0 rfl) (sub_r (ZF hA49) (Zv hB49)) <| DM (fun _ => rfl) <| Dq (pp b50 0) (fun _ => fa87_0 rfl rfl) <| Dl Z0 (At.bx 0 rfl) (sub_l (ZF hA49)) ?_)))
  refine Dc rfl Tryz.call55 (fun _ => rfl) (fun hin => bindsK_ct _ _ _ (RP.mono (Hle.hu _ _) hA49) hpj (by omega)) ?_
  rintro _ _ ⟨rfl, rfl⟩
  refine Dn (fun _ => Pu.add64 rfl rfl (by first | omega | (constructor <;> omega))) <| DM (fun _ => rfl) <| Yb (M' := [(BX b50 (ca49 ++ cb49) 87), Sc s3]) rfl ?_
  show JL _ _ _ [_, _] _ _ _
  refine Zq 1 rfl Tryz.call19 rfl rfl (fun hin => ih' _ (List.getElem_mem h48n) _ _ _ _ (RT.mono (Hle.hu _ _) hB49) (by omega) (by omega) (by exact hej) (fun x b s a h hh ra k1 k2 => hg x b s a h (Hle.trans (Hle.hu _ _) hh) ra k1 k2)) rfl ?_
  rintro _ _ ⟨rfl, rfl⟩
  refine JLq (.bool false) (show Pu _ _ _ (.bool (!true)) from Pu.not rfl) <| Zb <| Zg (b := false) rfl (fun h => absurd h (by simp)) (fun _ => Zm <| Za <| JLn (Pu.inc rfl rfl (by omega)) <| JLM rfl <| Zb <| ⟨_, ?_, (j + 1), ((inT step (b + ((binds (cases[j].1) : Int))) (cases[j].2) s3)), rfl, rfl, rfl, rfl, rfl, rfl, (Sk Sub.nil), ?_, ?_, rfl⟩)
  ·omega
  ·omega
  rw [Yf h48n, inCs] at hinv; exact hinv
 replace h48 := df h48
 have h48n : cases.length ≤ j := by omega
 refine ZG _ rfl <| Zc <| Za <| JLA rfl <| Zb <| Zk <| ⟨.bool true, [Sc s3], Ret.one rfl (RV.tmp rfl), (Sk Sub.nil), ?_⟩
 exact ⟨rfl, by rw [inT, hk1, ← hinv, dropn h48n]; rfl⟩
end Go.Proofs.YtjhenmdcnbaobaaGreat.Hs
/-! Walks, printed by a program of this session's own (gen.py). -/
namespace Go.Proofs.YtjhenmdcnbaobaaGreat.Hs
open Go Go.Proofs
set_option maxRecDepth 100000
set_option linter.unusedVariables false
set_option linter.unusedSimpArgs false
attribute [local irreducible] JL J CT wlo DT
theorem freeF_ct (t : Tm) (cs : List Value) (H : Heap) (ht : RT H cs t) (hck : ZW 60 8 t = 0) : CT Tryz.prog 14 ⟨[.agg ⟨cs⟩]⟩ [] H (fun r N => ∃ u k, r = .tuple ⟨[u, iv 0]⟩ ∧ N = [k] ∧ Own 3 1 u (Z3 (Zy t)) k) := by
 have hx : freeE t = (Zy t, 0) := by rw [freeE, if_pos (by rw [rightT_one]; exact hck)]
 refine (freeE_ct t cs H ht).mono ?_
 rintro r N ⟨u, e, k, rfl, rfl, h1, h2⟩
 rw [hx] at h1 h2
 exact ⟨u, k, by rw [h2], rfl, h1⟩
set_option maxHeartbeats 4000000 in
theorem free_law (v : Value) (l : List Int) (H : Heap) (hb : bytesR H v l) (hv : Hs.rdS RB 1 H v l) (p : Int) (hp : 0 ≤ p ∧ p ≤ 255) : CT Tryz.prog 4 ⟨[v, .int .u8 p]⟩ [] H (fun v N => v = .bool true ∧ N = []) := by
 refine Zl Tryz.func4 rfl rfl <| Zc <| Za <| JLA rfl <| Zb <| Zc <| Za <| JLm v <| Jc Tryz.call6 rfl (fun hin => of_ct _ _ _ (bytesR.mono (Hle.hu _ _) hb) (RBs.mono (Hle.hu _ _) hv)) rfl ?_
 rintro _ _ ⟨bS1, u1, k1, s1, l1, rfl, rfl, hu1, hr1⟩
 refine JLA rfl <| Zb <| Zc <| Za <| JLM rfl <| Zq 0 rfl Tryz.call5 rfl rfl (fun hin => drawn_ct _ _ _ _ _ _ (hr1 _ (hin 0 _ rfl)) (by omega) (by omega) _ _ (by omega) (by omega) (by omega) (by omega) (by omega)) rfl ?_
 rintro _ _ ⟨t2, cs2, k2, a2, s2, rfl, rfl, hO2, hg2, ha2⟩
 refine JLM rfl <| JLn (Pu.extract rfl rfl) <| JLn (Pu.extract rfl rfl) <| JLr (Zh (l := pkT 0 0 zS nS nS) Tryz.zeroValue28 rfl fun b3 => JLr (Zd 0 (vs := cs2) (l := cs2) Zs rfl rfl rfl rfl hO2.len hO2.ok (ZD (n := 36) rfl hO2.len) <| JLA rfl <| Zb <| Zc <| Za <| JLM rfl <| Zq 1 rfl Tryz.call5 rfl rfl (fun hin => drawn_ct _ _ _ _ _ _ (hr1 _ (hin 2 _ rfl)) (by omega) (by omega) _ _ (by omega) (by omega) (by omega) (by omega) (by omega)) rfl ?_))
 rintro _ _ ⟨t4, cs4, k4, a4, s4, rfl, rfl, hO4, hg4, ha4⟩
 refine JLM rfl <| JLn (Pu.extract rfl rfl) <| JLn (Pu.extract rfl rfl) <| JLr (Zh (l := pkT 0 0 zS nS nS) Tryz.zeroValue28 rfl fun b5 => JLr (Zd 0 (vs := cs4) (l := cs4) Zs rfl rfl rfl rfl hO4.len hO4.ok (ZD (n := 36) rfl hO4.len) <| JLA rfl <| Zb <| Zc <| Za <| JLM rfl <| JLq (iv p) (Pu.conv Tryz.runUnderlying5 Tryz.runUnderlying3 rfl (w64 (by omega))) <| JLq (iv (p % 5)) (Pu.rem rfl rfl (by omega) (Int.tmod_eq_emod_of_nonneg (by omega))) <| JLA rfl ?_))
 refine Zb <| Zc <| Za <| JLr (Zi Zs rfl (At.bx 3 rfl) (Zu hO2.len) <| Jc Tryz.call14 rfl (fun hin => freeF_ct t2 _ _ (hO2.rd (hin 4 _ rfl)) (Yc (by decide) (by decide) hg2)) rfl ?_)
 rintro _ _ ⟨v6, k6, rfl, rfl, ho6⟩
 have hfl6 := freeP_len t2
 refine JLM rfl <| JLn (Pu.extract rfl rfl) <| JLn (Pu.extract rfl rfl) <| JLa v6 <| JLA rfl <| Zb <| Zc <| Za <| JLr (Zi Zs rfl (At.bx 1 rfl) (Zu hO4.len) <| Jc Tryz.call14 rfl (fun hin => freeF_ct t4 _ _ (hO4.rd (hin 3 _ rfl)) (Yc (by decide) (by decide) hg4)) rfl ?_)
 rintro _ _ ⟨v7, k7, rfl, rfl, ho7⟩
 have hfl7 := freeP_len t4
 refine JLM rfl <| JLn (Pu.extract rfl rfl) <| JLn (Pu.extract rfl rfl) <| JLa v7 <| JLA rfl <| Zb <| Zc ?_
 cases h8 : (YE (sbT (p % 5) t4 t2)) with
 | true =>
  refine Za <| JLr (Zi Zs rfl (At.bx 5 rfl) (Zu hO2.len) <| JLM rfl <| JLr (Zi Zs rfl (At.bx 2 rfl) (Zu hO4.len) <| Jc Tryz.call15 rfl (fun hin => ble_at (d := zT) (e := 11) (substP_ct _ _ _ _ _ _ (hO2.rd (hin 6 _ rfl)) (hO4.rd (hin 4 _ rfl))) (substP_long (Yc (by decide) (by decide) hg2) (Yc (by decide) (by decide) hg4) (by omega) h8)) rfl ?_))
  rintro _ _ ⟨cs9, k9, rfl, rfl, hO9⟩
  refine JLM rfl <| JLn (Pu.extract rfl rfl) <| JLn (Pu.extract rfl rfl) <| JLr (Zh (l := pkT 0 0 zS nS nS) Tryz.zeroValue28 rfl fun b10 => JLr (Zd 0 (vs := cs9) (l := cs9) Zs rfl rfl rfl rfl hO9.len hO9.ok (ZD (n := 36) rfl hO9.len) <| JLA rfl <| Zb <| Zc <| Zc <| Za <| JLM rfl <| JLq (.bool false) (show Pu _ _ _ (.bool (!true)) from Pu.not rfl) <| JLM rfl ?_))
  refine JLM rfl <| JLq (.bool false) (show Pu _ _ _ (.bool (!true)) from Pu.not rfl) <| JLq (.bool false) (Pu.pickF rfl rfl) <| JLM rfl <| JLM rfl <| JLq (.bool false) (show Pu _ _ _ (.bool (!decide ((0 : Int) = 0))) from Pu.neq rfl rfl) <| JLq (.bool false) (Pu.pickF rfl rfl) <| JLM rfl <| JLM rfl <| JLq (.bool false) (show Pu _ _ _ (.bool (!decide ((0 : Int) = 0))) from Pu.neq rfl rfl) <| JLq (.bool false) (Pu.pickF rfl rfl) <| Zb <| Zg (b := false) rfl (fun h => absurd h (by simp)) (fun _ => ?_)
  refine Zm <| Zc <| Zc <| Za <| JLM rfl <| JLq (.bool true) (show Pu _ _ _ (.bool (!decide ((11 : Int) = 0))) from Pu.neq rfl rfl) <| Zb <| Zg (b := true) rfl (fun _ => ?_) (fun h => absurd h (by simp))
  refine Zc <| Za <| JLM rfl <| Jc Tryz.call16 rfl (fun hin => Y1 (r := true) (big_ct _ _) (by decide)) rfl ?_
  rintro _ _ ⟨rfl, rfl⟩
  refine JLM rfl <| Jc Tryz.call13 rfl (fun hin => awake_ct _) rfl ?_
  rintro _ _ ⟨rfl, rfl⟩
  refine JLq (.bool true) (Pu.pickT rfl rfl) <| JLA rfl <| Zb <| Zk <| ⟨.bool true, [], Ret.one rfl (RV.tmp rfl), Sub.nil, ?_⟩
  exact ⟨rfl, rfl⟩
 | false =>
  refine Za <| JLr (Zi Zs rfl (At.bx 5 rfl) (Zu hO2.len) <| JLM rfl <| JLr (Zi Zs rfl (At.bx 2 rfl) (Zu hO4.len) <| Jc Tryz.call15 rfl (fun hin => ble_at (d := (sbT (p % 5) t4 t2)) (e := 0) (substP_ct _ _ _ _ _ _ (hO2.rd (hin 6 _ rfl)) (hO4.rd (hin 4 _ rfl))) (substP_ok (Yc (by decide) (by decide) hg2) (Yc (by decide) (by decide) hg4) (by omega) h8)) rfl ?_))
  rintro _ _ ⟨cs11, k11, rfl, rfl, hO11⟩
  refine JLM rfl <| JLn (Pu.extract rfl rfl) <| JLn (Pu.extract rfl rfl) <| JLr (Zh (l := pkT 0 0 zS nS nS) Tryz.zeroValue28 rfl fun b12 => JLr (Zd 0 (vs := cs11) (l := cs11) Zs rfl rfl rfl rfl hO11.len hO11.ok (ZD (n := 36) rfl hO11.len) <| JLA rfl <| Zb <| Zc <| Zc <| Za <| JLM rfl <| JLq (.bool false) (show Pu _ _ _ (.bool (!true)) from Pu.not rfl) <| JLM rfl ?_))
  refine JLM rfl <| JLq (.bool false) (show Pu _ _ _ (.bool (!true)) from Pu.not rfl) <| JLq (.bool false) (Pu.pickF rfl rfl) <| JLM rfl <| JLM rfl <| JLq (.bool false) (show Pu _ _ _ (.bool (!decide ((0 : Int) = 0))) from Pu.neq rfl rfl) <| JLq (.bool false) (Pu.pickF rfl rfl) <| JLM rfl <| JLM rfl <| JLq (.bool false) (show Pu _ _ _ (.bool (!decide ((0 : Int) = 0))) from Pu.neq rfl rfl) <| JLq (.bool false) (Pu.pickF rfl rfl) <| Zb <| Zg (b := false) rfl (fun h => absurd h (by simp)) (fun _ => ?_)
  refine Zm <| Zc <| Zc <| Za <| JLM rfl <| JLq (.bool false) (show Pu _ _ _ (.bool (!decide ((0 : Int) = 0))) from Pu.neq rfl rfl) <| Zb <| Zg (b := false) rfl (fun h => absurd h (by simp)) (fun _ => Zm <| Zc <| Za <| JLA rfl <| Zb ?_)
  refine Zc <| Zc <| Za <| JLm v6 ?_
  obtain ⟨a13, cap13, hv13⟩ := ho6.sl
  rw [ZU] at hv13
  refine JLn (Pu.lenSl Tryz.runUnderlying49 hv13) <| JLM rfl <| Zb <| Zo <| ZP (fun k ρ M => ∃ (j : Nat) (y : Value) (q1 : Zf), ρ 4 = .bool false ∧ ρ 10 = iv (p % 5) ∧ ρ 11 = v6 ∧ ρ 13 = v7 ∧ ρ 15 = pp b12 0 ∧ ρ 17 = y ∧ ρ 75 = v6 ∧ ρ 76 = iv (((Zy t2).length : Int)) ∧ ρ 77 = iv ((j : Int)) ∧ Sub [q1, (BX b12 cs11 28), k11, k7, k6, (BX b5 cs4 28), (BX bS1 [u1, iv a4, .int .u64 s4] 69), k4, (BX b3 cs2 28), k2, k1] M ∧ j ≤ (Zy t2).length ∧ Own 3 1 y (Z3 (Yh (p % 5) ((Zy t2).take j))) q1 ∧ k = (Zy t2).length - j) _ ⟨0, nS, [], rfl, rfl, rfl, rfl, rfl, rfl, rfl, rfl, rfl, (Sub.emp (Sk (Sk (Sk (Sk (Sk (Sk (Sk (Sk (Sk (Sk Sub.nil))))))))))), Nat.zero_le _, (by simpa [Yh, Z3] using Own.nil), rfl⟩ ?_
  rintro _ ρ14 _ ⟨j, y, q1, e15, e16, e17, e18, e19, e20, e21, e22, e23, hm24, hj, hown, rfl⟩
  obtain ⟨ρ25, rfl⟩ := Zn (uc e15 (uc e16 (uc e17 (uc e18 (uc e19 (uc e20 (uc e21 (uc e22 (uc e23 un)))))))))
  clear e15 e16 e17 e18 e19 e20 e21 e22 e23
  refine Z6 hm24 <| Zc <| Za <| JLn (Pu.lss rfl rfl) <| Zb <| Zc <| Zg rfl (fun h26 => ?_) (fun h26 => ?_)
  ·replace h26 := dt h26
   have h26n : j < (Zy t2).length := by omega
   have hwl := wantF_len (p % 5) ((Zy t2).take j)
   have hil := ZU (Yh (p % 5) ((Zy t2).take j))
   rw [List.length_take] at hwl
   have hb0 := (freeP_bound t2 _ (List.getElem_mem h26n)).1
   have hb1 := (freeP_bound t2 _ (List.getElem_mem h26n)).2
   refine Zm <| Zc <| Zo <| Zc <| Za ?_
   obtain ⟨b27, cap27, row27, hv27, hm27, hs27⟩ := ho6.at (j := j) (by rw [ZU]; first | assumption | omega)
   rw [ints_get _ _ (by first | assumption | omega)] at hs27
   refine JLq (pp b27 (0 + j * 1)) (Pu.idx j Tryz.runUnderlying49 ty3 hv27 rfl rfl (by rw [ZU]; first | assumption | omega)) <| JLr (Ze ty3 rfl (At.k 4 rfl hm27) (Yx hs27) <| JLA rfl <| Zb <| Zo <| Zc <| Za <| JLM rfl <| JLM rfl <| JLn (Pu.lss rfl rfl) <| JLA rfl <| Zb <| Zg rfl (fun h28 => ?_) (fun h28 => ?_))
   ·replace h28 := dt h28
    refine Za <| JLm y <| JLM rfl <| JLr (Zr (vs := [iv ((Zy t2)[j])]) [[iv ((Zy t2)[j])]] Tryz.runUnderlying49 el3 rfl rfl (by intro e he; simp only [List.mem_cons, List.not_mem_nil, or_false] at he; subst he; exact rfl) rfl (by decide) fun b29 k29 ho29 hk29 => ?_)
    have hlens30 : ∀ e ∈ ([[iv ((Zy t2)[j])]] : List (List Value)), List.length e = 1 := by
     intro e he; simp only [List.mem_cons, List.not_mem_nil, or_false] at he
     rcases he with rfl
     ·exact rfl
    have hoks30 : ∀ e ∈ ([[iv ((Zy t2)[j])]] : List (List Value)), okc e := by
     intro e he; simp only [List.mem_cons, List.not_mem_nil, or_false] at he
     rcases he with rfl
     ·exact (Zj rfl Zt)
    refine JLr (ZE (i := 1) (n := 1) (es' := [[iv ((Zy t2)[j])]]) Tryz.runUnderlying49 Tryz.runUnderlying49 (Or.inl rfl) el3 rfl rfl rfl hown (fun F w m => Src.row (((At.k 0 rfl (by rw [hk29]; exact List.mem_cons_self))).heap m) (Zu (ZB hlens30))) rfl hlens30 hoks30 (by decide) (by omega) fun v30 k30 ho30 => JLa v30 <| Zb <| Za <| JLn (Pu.inc rfl rfl (by omega)) <| JLM rfl <| Zb <| ⟨_, ?_, (j + 1), v30, k30, rfl, rfl, rfl, rfl, rfl, rfl, rfl, rfl, rfl, (Sd (Sk (Sk (Sk (Sk (Sk (Sk (Sk (Sk (Sk (Sk (Sk Sub.nil)))))))))))), ?_, ?_, rfl⟩)
    ·omega
    ·omega
    have z := ho30; rw [wantF_snoc h26n]; rw [if_pos (by omega), ints_app]; exact z
   replace h28 := df h28
   refine Zc <| Za <| JLM rfl <| JLM rfl <| JLn (Pu.gtr rfl rfl) <| JLA rfl <| Zb <| Zg rfl (fun h31 => ?_) (fun h31 => ?_)
   ·replace h31 := dt h31
    refine Za <| JLm y <| JLM rfl <| JLn (Pu.sub64 rfl rfl (by first | omega | (constructor <;> omega))) <| JLr (Zr (vs := [iv ((Zy t2)[j] - 1)]) [[iv ((Zy t2)[j] - 1)]] Tryz.runUnderlying49 el3 rfl rfl (by intro e he; simp only [List.mem_cons, List.not_mem_nil, or_false] at he; subst he; exact rfl) rfl (by decide) fun b32 k32 ho32 hk32 => ?_)
    have hlens33 : ∀ e ∈ ([[iv ((Zy t2)[j] - 1)]] : List (List Value)), List.length e = 1 := by
     intro e he; simp only [List.mem_cons, List.not_mem_nil, or_false] at he
     rcases he with rfl
     ·exact rfl
    have hoks33 : ∀ e ∈ ([[iv ((Zy t2)[j] - 1)]] : List (List Value)), okc e := by
     intro e he; simp only [List.mem_cons, List.not_mem_nil, or_false] at he
     rcases he with rfl
     ·exact (Zj rfl Zt)
    refine JLr (ZE (i := 1) (n := 1) (es' := [[iv ((Zy t2)[j] - 1)]]) Tryz.runUnderlying49 Tryz.runUnderlying49 (Or.inl rfl) el3 rfl rfl rfl hown (fun F w m => Src.row (((At.k 0 rfl (by rw [hk32]; exact List.mem_cons_self))).heap m) (Zu (ZB hlens33))) rfl hlens33 hoks33 (by decide) (by omega) fun v33 k33 ho33 => JLa v33 <| Zb <| Za <| JLn (Pu.inc rfl rfl (by omega)) <| JLM rfl <| Zb <| ⟨_, ?_, (j + 1), v33, k33, rfl, rfl, rfl, rfl, rfl, rfl, rfl, rfl, rfl, (Sd (Sk (Sk (Sk (Sk (Sk (Sk (Sk (Sk (Sk (Sk (Sk Sub.nil)))))))))))), ?_, ?_, rfl⟩)
    ·omega
    ·omega
    have z := ho33; rw [wantF_snoc h26n]; rw [if_neg (by omega), if_pos (by omega), ints_app]; exact z
   replace h31 := df h31
   refine Zm <| Za <| JLn (Pu.inc rfl rfl (by omega)) <| JLM rfl <| Zb <| ⟨_, ?_, (j + 1), y, q1, rfl, rfl, rfl, rfl, rfl, rfl, rfl, rfl, rfl, (Sk (Sk (Sk (Sk (Sk (Sk (Sk (Sk (Sk (Sk (Sk Sub.nil))))))))))), ?_, ?_, rfl⟩
   ·omega
   ·omega
   have z := hown; rw [wantF_snoc h26n]; rw [if_neg (by omega), if_neg (by omega), List.append_nil]; exact z
  replace h26 := df h26
  have h26n : (Zy t2).length ≤ j := by omega
  refine ZG _ rfl <| Zc <| Zc ?_
  rw [List.take_of_length_le h26n] at hown
  have hwl := wantF_len (p % 5) (Zy t2)
  have hil := ZU (Yh (p % 5) (Zy t2))
  refine Za <| JLm v6 <| JLM rfl <| Jc Tryz.call17 rfl (fun hin => containsN_ct _ _ _ _ (YH ho6 (by omega) (hin 4 _ rfl))) rfl ?_
  rintro _ _ ⟨rfl, rfl⟩
  refine Zb <| Zg rfl (fun h34 => ?_) (fun h34 => ?_)
  ·replace h34 := dt h34
   refine Za <| JLm y <| JLm v7 <| JLr (ZE (i := 0) (n := (Zy t4).length) (es' := Z3 (Zy t4)) Tryz.runUnderlying49 Tryz.runUnderlying49 (Or.inl rfl) el3 rfl rfl rfl hown (own_srcI (i := 3) ho7 rfl) (ZU _) (ints_len1 _) (ints_ok _) (by decide) (by rw [ZU]; omega) fun v35 k35 ho35 => ?_)
   rw [← ints_app] at ho35
   refine JLa v35 <| Zb <| Zc ?_
   have how : Own 3 1 v35 (Z3 (Yh (p % 5) (Zy t2) ++ (if p % 5 ∈ Zy t2 then Zy t4 else []))) k35 := by rw [if_pos h34]; exact ho35
   have hwll : (Yh (p % 5) (Zy t2) ++ (if p % 5 ∈ Zy t2 then Zy t4 else [])).length ≤ 1000 := by rw [List.length_append]; split <;> first | omega | (simp; omega)
   have hpc : ZW (5 - 1) 2 (sbT (p % 5) t4 t2) = 0 := sb_check (by omega) (by omega) hg2 hg4 h8
   have hckp : ZW 60 8 (sbT (p % 5) t4 t2) = 0 := Yc (by decide) (by decide) hpc
   have hwe := want_eq (d := 5) (m := 2) (n := p % 5) (by decide) (by omega) (by omega) (checkR_iff.1 hg2).2 (checkR_iff.1 hg4).2
   have hmf := met_free (d := 60) (m := 8) (t := sbT (p % 5) t4 t2) (by decide) (checkR_iff.1 hckp).2
   refine Za <| JLm v35 <| Zq 0 rfl Tryz.call18 rfl rfl (fun hin => sortI_ct (Yh (p % 5) (Zy t2) ++ (if p % 5 ∈ Zy t2 then Zy t4 else [])) _ _ _ how (by omega)) rfl ?_
   rintro _ _ ⟨rfl, k36, rfl, ho36⟩
   refine Zb <| Zc <| Za <| JLr (Zi Zs rfl (At.bx 1 rfl) (Zu hO11.len) <| Jc Tryz.call14 rfl (fun hin => freeF_ct ((sbT (p % 5) t4 t2)) _ _ (hO11.rd (hin 2 _ rfl)) hckp) rfl ?_)
   rintro _ _ ⟨v37, k37, rfl, rfl, ho37⟩
   have hfl37 := freeP_len ((sbT (p % 5) t4 t2))
   refine JLM rfl <| JLn (Pu.extract rfl rfl) <| JLn (Pu.extract rfl rfl) <| JLa v37 <| JLA rfl <| Zb <| Zc <| Za <| JLr (Runs_makeMap fun r38 => JLr (Zh (l := [.map none]) Tryz.zeroValue56 rfl fun b39 => JLr (Zd 0 (vs := [.map (some r38)]) (l := [.map (some r38)]) ty56 rfl rfl rfl rfl rfl (Zj rfl Zt) rfl <| Zb <| Zc ?_)))
   refine Za <| JLr (Zi Zs rfl (At.bx 4 rfl) (Zu hO11.len) <| JLq (.func (.func 20) ⟨[]⟩ ⟨[pp b39 0]⟩) (Pu.makeFunc rfl rfl) <| Zq 1 rfl Tryz.call19 rfl rfl (fun hin => inside_ct 20 [] [pp b39 0] (fun _ _ => rfl) (metC r38) fnS 60 8 ((sbT (p % 5) t4 t2)) 0 [] _ _ (hO11.rd (hin 4 _ rfl)) (by decide) (by have := (checkR_ok hckp).1; omega) (checkR_iff.1 hckp).2 (fun x b s a h hh ra k1 k2 => freeK1_ct x b s r38 b39 a h ra (hh _ _ (hin 0 _ rfl _ _ List.mem_cons_self)) k1 k2)) rfl ?_)
   rintro _ _ ⟨rfl, rfl⟩
   refine Zb <| Zc <| Za <| JLM rfl <| JLq (.bool true) (show Pu _ _ _ (.bool (decide ((0 : Int) = 0))) from Pu.eql rfl rfl) <| JLM rfl <| JLm v37 <| JLm v35 <| Zq 3 rfl Tryz.call22 rfl rfl (fun hin => compactI_ct ((Yh (p % 5) (Zy t2) ++ (if p % 5 ∈ Zy t2 then Zy t4 else [])).mergeSort fun x y => decide (x ≤ y)) _ _ _ ho36 (by rw [List.length_mergeSort]; omega)) rfl ?_
   rintro v40 _ ⟨k40, rfl, ho40⟩
   rw [hwe] at ho40
   refine Jc Tryz.call21 rfl (fun hin => Y1 (r := true) (equalI_ct _ _ _ _ _ (YH ho37 (by omega) (hin 3 _ rfl)) (YH ho40 (by omega) (hin 0 _ rfl))) (eqL_true rfl)) rfl ?_
   rintro _ _ ⟨rfl, rfl⟩
   refine JLq (.bool true) (Pu.pickT rfl rfl) <| JLM rfl <| JLr (Ze ty56 rfl (At.bx 2 rfl) rfl <| JLr (Runs_lenMap (i := 1) Tryz.runUnderlying56 rfl rfl <| JLm v37 ?_))
   obtain ⟨a41, cap41, hv41⟩ := ho37.sl
   rw [ZU] at hv41
   refine JLn (Pu.lenSl Tryz.runUnderlying49 hv41) <| JLq (.bool true) (Pu.castB (Pu.eql rfl rfl) (decide_eq_true (by rw [hmf.1]))) <| JLq (.bool true) (Pu.pickT rfl rfl) <| JLM rfl <| JLm v37 <| JLq (.func (.func 24) ⟨[]⟩ ⟨[pp b39 0]⟩) (Pu.makeFunc rfl rfl) <| Jc Tryz.call23 rfl (fun hin => Y1 (r := false) (containsI_ct 24 [] [pp b39 0] (fun _ _ => rfl) (fun x => !decide (x ∈ (inT fnS 0 ((sbT (p % 5) t4 t2)) []))) _ _ _ (YH ho37 (by omega) (hin 3 _ rfl)) (fun x hx h hh => freeK2_ct x (inT fnS 0 ((sbT (p % 5) t4 t2)) []) r38 b39 h (hh _ _ (hin 2 _ rfl _ _ List.mem_cons_self)) (hh _ _ (hin 1 _ rfl _ _ List.mem_cons_self)))) (by rw [List.any_eq_false]; intro x hx; simpa using hmf.2 x hx)) rfl ?_
   rintro _ _ ⟨rfl, rfl⟩
   refine JLq (.bool true) (show Pu _ _ _ (.bool (!false)) from Pu.not rfl) <| JLq (.bool true) (Pu.pickT rfl rfl) <| JLM rfl <| Jc Tryz.call13 rfl (fun hin => awake_ct _) rfl ?_
   rintro _ _ ⟨rfl, rfl⟩
   refine JLq (.bool true) (Pu.pickT rfl rfl) <| JLA rfl <| Zb <| Zk <| ⟨.bool true, [], Ret.one rfl (RV.tmp rfl), Sub.nil, ?_⟩
   exact ⟨rfl, rfl⟩
  replace h34 := df h34
  refine Zm <| Zc ?_
  have how : Own 3 1 y (Z3 (Yh (p % 5) (Zy t2) ++ (if p % 5 ∈ Zy t2 then Zy t4 else []))) q1 := by rw [if_neg h34, List.append_nil]; exact hown
  have hwll : (Yh (p % 5) (Zy t2) ++ (if p % 5 ∈ Zy t2 then Zy t4 else [])).length ≤ 1000 := by rw [List.length_append]; split <;> first | omega | (simp; omega)
  have hpc : ZW (5 - 1) 2 (sbT (p % 5) t4 t2) = 0 := sb_check (by omega) (by omega) hg2 hg4 h8
  have hckp : ZW 60 8 (sbT (p % 5) t4 t2) = 0 := Yc (by decide) (by decide) hpc
  have hwe := want_eq (d := 5) (m := 2) (n := p % 5) (by decide) (by omega) (by omega) (checkR_iff.1 hg2).2 (checkR_iff.1 hg4).2
  have hmf := met_free (d := 60) (m := 8) (t := sbT (p % 5) t4 t2) (by decide) (checkR_iff.1 hckp).2
  refine Za <| JLm y <| Zq 0 rfl Tryz.call18 rfl rfl (fun hin => sortI_ct (Yh (p % 5) (Zy t2) ++ (if p % 5 ∈ Zy t2 then Zy t4 else [])) _ _ _ how (by omega)) rfl ?_
  rintro _ _ ⟨rfl, k42, rfl, ho42⟩
  refine Zb <| Zc <| Za <| JLr (Zi Zs rfl (At.bx 1 rfl) (Zu hO11.len) <| Jc Tryz.call14 rfl (fun hin => freeF_ct ((sbT (p % 5) t4 t2)) _ _ (hO11.rd (hin 2 _ rfl)) hckp) rfl ?_)
  rintro _ _ ⟨v43, k43, rfl, rfl, ho43⟩
  have hfl43 := freeP_len ((sbT (p % 5) t4 t2))
  refine JLM rfl <| JLn (Pu.extract rfl rfl) <| JLn (Pu.extract rfl rfl) <| JLa v43 <| JLA rfl <| Zb <| Zc <| Za <| JLr (Runs_makeMap fun r44 => JLr (Zh (l := [.map none]) Tryz.zeroValue56 rfl fun b45 => JLr (Zd 0 (vs := [.map (some r44)]) (l := [.map (some r44)]) ty56 rfl rfl rfl rfl rfl (Zj rfl Zt) rfl <| Zb <| Zc ?_)))
  refine Za <| JLr (Zi Zs rfl (At.bx 4 rfl) (Zu hO11.len) <| JLq (.func (.func 20) ⟨[]⟩ ⟨[pp b45 0]⟩) (Pu.makeFunc rfl rfl) <| Zq 1 rfl Tryz.call19 rfl rfl (fun hin => inside_ct 20 [] [pp b45 0] (fun _ _ => rfl) (metC r44) fnS 60 8 ((sbT (p % 5) t4 t2)) 0 [] _ _ (hO11.rd (hin 4 _ rfl)) (by decide) (by have := (checkR_ok hckp).1; omega) (checkR_iff.1 hckp).2 (fun x b s a h hh ra k1 k2 => freeK1_ct x b s r44 b45 a h ra (hh _ _ (hin 0 _ rfl _ _ List.mem_cons_self)) k1 k2)) rfl ?_)
  rintro _ _ ⟨rfl, rfl⟩
  refine Zb <| Zc <| Za <| JLM rfl <| JLq (.bool true) (show Pu _ _ _ (.bool (decide ((0 : Int) = 0))) from Pu.eql rfl rfl) <| JLM rfl <| JLm v43 <| JLm y <| Zq 3 rfl Tryz.call22 rfl rfl (fun hin => compactI_ct ((Yh (p % 5) (Zy t2) ++ (if p % 5 ∈ Zy t2 then Zy t4 else [])).mergeSort fun x y => decide (x ≤ y)) _ _ _ ho42 (by rw [List.length_mergeSort]; omega)) rfl ?_
  rintro v46 _ ⟨k46, rfl, ho46⟩
  rw [hwe] at ho46
  refine Jc Tryz.call21 rfl (fun hin => Y1 (r := true) (equalI_ct _ _ _ _ _ (YH ho43 (by omega) (hin 3 _ rfl)) (YH ho46 (by omega) (hin 0 _ rfl))) (eqL_true rfl)) rfl ?_
  rintro _ _ ⟨rfl, rfl⟩
  refine JLq (.bool true) (Pu.pickT rfl rfl) <| JLM rfl <| JLr (Ze ty56 rfl (At.bx 2 rfl) rfl <| JLr (Runs_lenMap (i := 1) Tryz.runUnderlying56 rfl rfl <| JLm v43 ?_))
  obtain ⟨a47, cap47, hv47⟩ := ho43.sl
  rw [ZU] at hv47
  refine JLn (Pu.lenSl Tryz.runUnderlying49 hv47) <| JLq (.bool true) (Pu.castB (Pu.eql rfl rfl) (decide_eq_true (by rw [hmf.1]))) <| JLq (.bool true) (Pu.pickT rfl rfl) <| JLM rfl <| JLm v43 <| JLq (.func (.func 24) ⟨[]⟩ ⟨[pp b45 0]⟩) (Pu.makeFunc rfl rfl) <| Jc Tryz.call23 rfl (fun hin => Y1 (r := false) (containsI_ct 24 [] [pp b45 0] (fun _ _ => rfl) (fun x => !decide (x ∈ (inT fnS 0 ((sbT (p % 5) t4 t2)) []))) _ _ _ (YH ho43 (by omega) (hin 3 _ rfl)) (fun x hx h hh => freeK2_ct x (inT fnS 0 ((sbT (p % 5) t4 t2)) []) r44 b45 h (hh _ _ (hin 2 _ rfl _ _ List.mem_cons_self)) (hh _ _ (hin 1 _ rfl _ _ List.mem_cons_self)))) (by rw [List.any_eq_false]; intro x hx; simpa using hmf.2 x hx)) rfl ?_
  rintro _ _ ⟨rfl, rfl⟩
  refine JLq (.bool true) (show Pu _ _ _ (.bool (!false)) from Pu.not rfl) <| JLq (.bool true) (Pu.pickT rfl rfl) <| JLM rfl <| Jc Tryz.call13 rfl (fun hin => awake_ct _) rfl ?_
  rintro _ _ ⟨rfl, rfl⟩
  refine JLq (.bool true) (Pu.pickT rfl rfl) <| JLA rfl <| Zb <| Zk <| ⟨.bool true, [], Ret.one rfl (RV.tmp rfl), Sub.nil, ?_⟩
  exact ⟨rfl, rfl⟩
end Go.Proofs.YtjhenmdcnbaobaaGreat.Hs
