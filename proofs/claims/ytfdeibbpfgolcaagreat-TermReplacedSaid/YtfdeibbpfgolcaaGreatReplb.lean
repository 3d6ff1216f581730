import Derived.Test.YtfdeibbpfgolcaaGreatRepla
import Derived.Laws.CopyRow
import Derived.Laws.Cells
import Derived.Laws.Rows
/-! One rule for each kind of operation. Generic: no program is named. -/
namespace Go.Proofs.YtfdeibbpfgolcaaGreat.Hs
open Go

section
variable {c : Cx} {H : Heap} {ρ : Nat → Value} {M : List Zf} {Q : Post} {ops : Array Oper} {rest : List Oper} {o : Oper}

/-- One operation that ends in a value, or in none. -/
def Runs (c : Cx) (H : Heap) (o : Oper) (ρ : Nat → Value) (M : List Zf) (K : Value → List Zf → Prop) : Prop :=
  ∀ F w, Mem w (M.flatten ++ F) H → ∃ v w' M', ((execOp (ev c.n ρ) o).run c.P w = .ok (.value v) w' ∨ ((execOp (ev c.n ρ) o).run c.P w = .ok .skip w' ∧ v = undef)) ∧
    Mem w' (M'.flatten ++ F) H ∧ K v M'

theorem semAt_exec {o : Oper} {r : Option Nat} {e : Operand → Value} (h : ∀ c, o.op ≠ .defer c) : o.semAt r e = execOp e o := Oper.semAt_eq r e o h

theorem not_defer {P : Program} {o : Oper} {e : Operand → Value} {w : World} {x : Next} {w' : World} (h : (execOp e o).run P w = .ok x w') (hx : ∀ d, x ≠ .defer d) : ∀ c, o.op ≠ .defer c := by
  intro c hc
  simp only [execOp, hc, Sem.run_bind] at h
  revert h
  generalize (resolve e c o.type).run P w = res
  intro h
  cases res with
  | ok d w₁ =>
    simp only [Result.andThen_ok] at h
    cases h
    exact hx _ rfl
  | halt a b => cases h

theorem JL_skip (hg : wnt ops c.n ρ o = false) (h : JL c H ops rest (YJ ρ o.dst undef) M Q) : JL c H ops (o :: rest) ρ M Q := fun F rs w m => by
  unfold wlo
  rw [wanted_eq, hg, act_put]
  exact h F rs w m

theorem JL_run (hg : wnt ops c.n ρ o = true) (h : Runs c H o ρ M fun v M' => JL c H ops rest (YJ ρ o.dst v) M' Q) : JL c H ops (o :: rest) ρ M Q := fun F rs w m => by
  unfold wlo
  rw [wanted_eq, hg, if_pos rfl]
  obtain ⟨v, w', M', hr, hm, hk⟩ := h (dfb rs ++ F) w m
  refine ⟨fun _ _ => trivial, ?_⟩
  rw [act_eval']
  rcases hr with hr | ⟨hr, rfl⟩
  · rw [semAt_exec (not_defer hr (by simp)), hr]
    show wlo c ops (lift c H F Q) rest ((act c.n (marks rs) ρ).put o.dst v) w'
    rw [act_put]; exact hk F rs w' hm
  · rw [semAt_exec (not_defer hr (by simp)), hr]
    show wlo c ops (lift c H F Q) rest ((act c.n (marks rs) ρ).put o.dst undef) w'
    rw [act_put]; exact hk F rs w' hm

/-- An operation that only computes. -/
def Pu (P : Program) (e : Operand → Value) (o : Oper) (v : Value) : Prop := ∀ w, (execOp e o).run P w = .ok (.value v) w

theorem Runs.pure {v : Value} {K : Value → List Zf → Prop} (hp : Pu c.P (ev c.n ρ) o v) (h : K v M) : Runs c H o ρ M K := fun _ w m => ⟨v, w, M, .inl (hp w), m, h⟩

theorem JL_pure {v : Value} (hg : wnt ops c.n ρ o = true) (hp : Pu c.P (ev c.n ρ) o v) (h : JL c H ops rest (YJ ρ o.dst v) M Q) : JL c H ops (o :: rest) ρ M Q :=
  JL_run hg (Runs.pure hp h)

/-! ### What a block holds -/
def At (M : List Zf) (H : Heap) (b : Nat) (o : Obj) : Prop := (∃ k ∈ M, (b, o) ∈ k) ∨ H b = some o

theorem At.heap {F : Zf} {w : World} {b : Nat} {x : Obj} (h : At M H b x) (m : Mem w (M.flatten ++ F) H) : w.heap[b]? = some x := by
  rcases h with ⟨k, hk, hb⟩ | h
  · exact m.own b x (List.mem_append.2 (.inl (List.mem_flatten.2 ⟨k, hk, hb⟩)))
  · exact m.imm b x h
theorem At.im {b : Nat} {x : Obj} (h : H b = some x) : At M H b x := .inr h
theorem At.k {b : Nat} {x : Obj} (i : Nat) {k : Zf} (hi : M[i]? = some k) (h : (b, x) ∈ k) : At M H b x := .inl ⟨k, List.mem_of_getElem? hi, h⟩
theorem At.bx {b : Nat} {x : Obj} (i : Nat) (hi : M[i]? = some [(b, x)]) : At M H b x := At.k i hi (by simp)
theorem At.h {b : Nat} {x : Obj} {h : Heap} (hle : ∀ b o, h b = some o → At M H b o) (hb : h b = some x) : At M H b x := hle _ _ hb
/-- Types as the rules need them. -/
structure Ty (P : Program) (T : TypeId) (ag : Bool) (sz : Nat) : Prop where
  ag : ∀ w, (isAgg T).run P w = .ok ag w
  sz : ∀ w, (sizeOf T).run P w = .ok sz w

theorem addr_add (b o i : Nat) : (⟨b, o, none⟩ : Addr).add i = ⟨b, o + i, none⟩ := by unfold Addr.add; split <;> simp_all

/-- A part of a list of cells. -/
def sub (l : List Value) (o n : Nat) : Option (List Value) := cond (Nat.ble (o + n) l.length) (some ((l.drop o).take n)) none
/-- A list of cells with a part written. -/
def spl (l : List Value) (o : Nat) (vs : List Value) : Option (List Value) := cond (Nat.ble (o + vs.length) l.length) (some (l.take o ++ (vs ++ l.drop (o + vs.length)))) none
def okc (l : List Value) : Prop := ∀ v ∈ l, v.oneCell' = true

theorem sub_some {l : List Value} {o n : Nat} {r : List Value} (h : sub l o n = some r) : o + n ≤ l.length ∧ r = (l.drop o).take n := by
  unfold sub at h
  cases hb : Nat.ble (o + n) l.length with
  | true => rw [hb] at h; exact ⟨Nat.le_of_ble_eq_true hb, by cases h; rfl⟩
  | false => rw [hb] at h; cases h

theorem sub_mk {l : List Value} {o n : Nat} (h : o + n ≤ l.length) : sub l o n = some ((l.drop o).take n) := by
  unfold sub; rw [Nat.ble_eq_true_of_le h]; rfl

theorem spl_some {l : List Value} {o : Nat} {vs r : List Value} (h : spl l o vs = some r) : o + vs.length ≤ l.length ∧ r = l.take o ++ (vs ++ l.drop (o + vs.length)) := by
  unfold spl at h
  cases hb : Nat.ble (o + vs.length) l.length with
  | true => rw [hb] at h; exact ⟨Nat.le_of_ble_eq_true hb, by cases h; rfl⟩
  | false => rw [hb] at h; cases h

theorem spl_mk {l : List Value} {o : Nat} {vs : List Value} (h : o + vs.length ≤ l.length) : spl l o vs = some (l.take o ++ (vs ++ l.drop (o + vs.length))) := by
  unfold spl; rw [Nat.ble_eq_true_of_le h]; rfl

theorem run_loadAgg {P : Program} {w : World} {b o sz : Nat} {l r : List Value} {T T' : TypeId} {fr : Nat × Nat} (ty : Ty P T true sz) (hb : w.heap[b]? = some (.cells ⟨l⟩ T' fr)) (hr : sub l o sz = some r) :
    (loadVar T ⟨b, o, none⟩).run P w = .ok (.agg ⟨r⟩) w := by
  obtain ⟨hle, rfl⟩ := sub_some hr
  have hl := run_loadCells_list (P := P) w ⟨b, o, none⟩ ((l.drop o).take sz) (fun j v hv => by
    rw [addr_add, cell_of_row w b (o + j) _ _ _ hb]
    rw [List.getElem?_take] at hv
    split at hv
    · simpa using hv
    · cases hv)
  have hlen : ((l.drop o).take sz).length = sz := by simp; omega
  rw [hlen] at hl
  simp [loadVar, ty.ag, ty.sz, hl]

theorem run_loadOne {P : Program} {w : World} {b o sz : Nat} {l : List Value} {v : Value} {T T' : TypeId} {fr : Nat × Nat} (ty : Ty P T false sz) (hb : w.heap[b]? = some (.cells ⟨l⟩ T' fr)) (hr : l[o]? = some v) :
    (loadVar T ⟨b, o, none⟩).run P w = .ok v w := by
  have : w.cell? ⟨b, o, none⟩ = some v := by rw [cell_of_row w b o _ _ _ hb]; simpa using hr
  simp [loadVar, ty.ag, this]

theorem Zi {d : Option Nat} {T : TypeId} {x : Operand} {ot : TypeId} {pos : String} {af : Array Edge} {g : Option (Nat × Bool)} {b f sz : Nat} {l r : List Value} {T' : TypeId} {fr : Nat × Nat}
    {K : Value → List Zf → Prop} (ty : Ty c.P T true sz) (hx : ev c.n ρ x = .pointer (some ⟨b, f, none⟩)) (ha : At M H b (.cells ⟨l⟩ T' fr)) (hr : sub l f sz = some r) (h : K (.agg ⟨r⟩) M) :
    Runs c H ⟨d, .load T x, ot, pos, af, g⟩ ρ M K := fun F w m =>
  ⟨.agg ⟨r⟩, w, M, .inl (by simp [execOp, Instr.loadAt, hx, Instr.sureAddr, run_loadAgg ty (ha.heap m) hr]), m, h⟩

theorem Ze {d : Option Nat} {T : TypeId} {x : Operand} {ot : TypeId} {pos : String} {af : Array Edge} {g : Option (Nat × Bool)} {b f sz : Nat} {l : List Value} {v : Value} {T' : TypeId} {fr : Nat × Nat}
    {K : Value → List Zf → Prop} (ty : Ty c.P T false sz) (hx : ev c.n ρ x = .pointer (some ⟨b, f, none⟩)) (ha : At M H b (.cells ⟨l⟩ T' fr)) (hr : l[f]? = some v) (h : K v M) :
    Runs c H ⟨d, .load T x, ot, pos, af, g⟩ ρ M K := fun F w m =>
  ⟨v, w, M, .inl (by simp [execOp, Instr.loadAt, hx, Instr.sureAddr, run_loadOne ty (ha.heap m) hr]), m, h⟩

/-- New memory comes in front of M. -/
theorem Runs_new {ob : Obj} {K : Value → List Zf → Prop}
    (hr : ∀ w, ∃ w', (execOp (ev c.n ρ) o).run c.P w = .ok (.value (.pointer (some ⟨w.heap.size, 0, none⟩))) w' ∧ w'.heap = w.heap.push ob ∧ Still w w')
    (h : ∀ b, K (.pointer (some ⟨b, 0, none⟩)) ([(b, ob)] :: M)) : Runs c H o ρ M K := fun F w m => by
  obtain ⟨w', hr, hh, ho⟩ := hr w
  exact ⟨_, w', [(w.heap.size, ob)] :: M, .inl hr, m.push hh ho, h _⟩

theorem Zh {d : Option Nat} {T : TypeId} {ot : TypeId} {pos : String} {af : Array Edge} {g : Option (Nat × Bool)} {z : Value} {l : List Value}
    {K : Value → List Zf → Prop} (hz : ∀ w, (zeroValue T).run c.P w = .ok z w) (hl : z.cells = ⟨l⟩) (h : ∀ b, K (.pointer (some ⟨b, 0, none⟩)) ([(b, .cells ⟨l⟩ T (0, 0))] :: M)) :
    Runs c H ⟨d, .alloc T, ot, pos, af, g⟩ ρ M K :=
  Runs_new (fun w => ⟨w.alloc (.cells ⟨l⟩ T), by simp [execOp, Instr.alloc, hz, newVar, newRow, hl], rfl, rfl, rfl, rfl, Nat.le_refl _⟩) h

theorem Zp {d : Option Nat} {T : TypeId} {x : Operand} {ot : TypeId} {pos : String} {af : Array Edge} {g : Option (Nat × Bool)} {z : Value} {l : List Value}
    {K : Value → List Zf → Prop} (hx : ev c.n ρ x = z) (hl : z.cells = ⟨l⟩) (h : ∀ b, K (.pointer (some ⟨b, 0, none⟩)) ([(b, .cells ⟨l⟩ T (0, 0))] :: M)) :
    Runs c H ⟨d, .box T x, ot, pos, af, g⟩ ρ M K :=
  Runs_new (fun w => ⟨w.alloc (.cells ⟨l⟩ T), by simp [execOp, Instr.box, newVar, newRow, hx, hl], rfl, rfl, rfl, rfl, Nat.le_refl _⟩) h

theorem Z6 {M : List Zf} {i : Nat} {k : Zf} (hi : M[i]? = some k) : M.flatten.Perm (k ++ (M.eraseIdx i).flatten) := by
  induction M generalizing i with
  | nil => cases hi
  | cons a M ih =>
    cases i with
    | zero => cases hi; exact List.Perm.refl _
    | succ i =>
      simp only [List.eraseIdx_cons_succ, List.flatten_cons]
      refine ((ih (by simpa using hi)).append_left a).trans ?_
      rw [← List.append_assoc, ← List.append_assoc]
      exact List.perm_append_comm.append_right _

theorem flatten_set {M : List Zf} {i : Nat} {k k' : Zf} (hi : M[i]? = some k) : (M.set i k').flatten.Perm (k' ++ (M.eraseIdx i).flatten) := by
  have hlt := (List.getElem?_eq_some_iff.1 hi).1
  have := Z6 (M := M.set i k') (i := i) (k := k') (by simp [hlt])
  rwa [show (M.set i k').eraseIdx i = M.eraseIdx i from by
    apply List.ext_getElem?
    intro j
    simp only [List.getElem?_eraseIdx, List.getElem?_set]
    split
    · rw [if_neg (by omega)]
    · rw [if_neg (by omega)]] at this

theorem setRow_heap' (w : World) (b : Nat) (old l : Array Value) (T : TypeId) (h : w.heap[b]? = some (.cells old T (0, 0))) :
    (w.setRow b l).heap[b]? = some (.cells l T (0, 0)) ∧ ∀ k, k ≠ b → (w.setRow b l).heap[k]? = w.heap[k]? := by
  refine ⟨setRow_heap w b old l T (0, 0) h, fun k hk => ?_⟩
  simp only [World.setRow, Array.getElem?_modify]
  rw [if_neg (Ne.symm hk)]

/-- A block of an owned chunk is written. -/
theorem Mem.write {F : Zf} {w : World} {i b : Nat} {k k₁ k₂ : Zf} {old l : List Value} {T : TypeId} (m : Mem w (M.flatten ++ F) H)
    (hi : M[i]? = some k) (hk : k = k₁ ++ (b, .cells ⟨old⟩ T (0, 0)) :: k₂) :
    Mem (w.setRow b ⟨l⟩) ((M.set i (k₁ ++ (b, .cells ⟨l⟩ T (0, 0)) :: k₂)).flatten ++ F) H := by
  subst hk
  have p1 : (M.flatten ++ F).Perm ((b, .cells ⟨old⟩ T (0, 0)) :: (k₁ ++ k₂ ++ (M.eraseIdx i).flatten ++ F)) := by
    refine ((Z6 hi).append_right F).trans ?_
    rw [List.append_assoc, List.append_assoc, List.append_assoc, List.append_assoc]
    exact List.perm_middle
  have p2 : ((M.set i (k₁ ++ (b, .cells ⟨l⟩ T (0, 0)) :: k₂)).flatten ++ F).Perm ((b, .cells ⟨l⟩ T (0, 0)) :: (k₁ ++ k₂ ++ (M.eraseIdx i).flatten ++ F)) := by
    refine ((flatten_set hi).append_right F).trans ?_
    rw [List.append_assoc, List.append_assoc, List.append_assoc, List.append_assoc]
    exact List.perm_middle
  have m1 := m.perm p1
  have hb := m1.own b _ (List.mem_cons.2 (.inl rfl))
  obtain ⟨h1, h2⟩ := setRow_heap' w b ⟨old⟩ ⟨l⟩ T hb
  exact (m1.set h1 h2).perm p2.symm

theorem run_storeVar {P : Program} {w : World} {b f sz : Nat} {old vs l : List Value} {v : Value} {ag : Bool} {T T' : TypeId} (ty : Ty P T ag sz) (hb : w.heap[b]? = some (.cells ⟨old⟩ T' (0, 0)))
    (hv : v.cells = ⟨vs⟩) (hn : vs.length = sz) (hok : okc vs) (hl : spl old f vs = some l) : (storeVar T ⟨b, f, none⟩ v).run P w = .ok () (w.setRow b ⟨l⟩) := by
  obtain ⟨hle, rfl⟩ := spl_some hl
  have hst := run_storeCells_at P b f T' vs 0 ⟨old⟩ w hb (by simpa using hle) hok
  simp only [Nat.add_zero, List.append_assoc] at hst
  unfold storeVar
  simp only [Sem.run_bind, ty.sz, Result.andThen_ok, hv, List.size_toArray, hn, ne_eq, not_true_eq_false, if_false, hst]

theorem Runs_store {d : Option Nat} {T : TypeId} {x y : Operand} {ot : TypeId} {pos : String} {af : Array Edge} {g : Option (Nat × Bool)} {i b f sz : Nat} {ag : Bool} {old vs l : List Value} {v : Value} {T' : TypeId}
    {k₁ k₂ : Zf} {K : Value → List Zf → Prop} (ty : Ty c.P T ag sz) (hx : ev c.n ρ x = .pointer (some ⟨b, f, none⟩)) (hy : ev c.n ρ y = v) (hv : v.cells = ⟨vs⟩) (hn : vs.length = sz) (hok : okc vs)
    (hi : M[i]? = some (k₁ ++ (b, .cells ⟨old⟩ T' (0, 0)) :: k₂)) (hl : spl old f vs = some l) (h : K undef (M.set i (k₁ ++ (b, .cells ⟨l⟩ T' (0, 0)) :: k₂))) :
    Runs c H ⟨d, .store T x y, ot, pos, af, g⟩ ρ M K := fun F w m => by
  have hb : w.heap[b]? = some (.cells ⟨old⟩ T' (0, 0)) := (At.k (M := M) (H := H) i hi (by simp)).heap m
  refine ⟨undef, w.setRow b ⟨l⟩, _, .inr ⟨?_, rfl⟩, m.write hi rfl, h⟩
  simp [execOp, Instr.storeAt, hx, hy, Instr.sureAddr, run_storeVar ty hb hv hn hok hl]

/-- A store into a box. -/
theorem Zd {d : Option Nat} {T : TypeId} {x y : Operand} {ot : TypeId} {pos : String} {af : Array Edge} {g : Option (Nat × Bool)} {b f sz : Nat} {ag : Bool} {old vs l : List Value} {v : Value} {T' : TypeId}
    {K : Value → List Zf → Prop} (i : Nat) (ty : Ty c.P T ag sz) (hx : ev c.n ρ x = .pointer (some ⟨b, f, none⟩)) (hi : M[i]? = some [(b, .cells ⟨old⟩ T' (0, 0))])
    (hy : ev c.n ρ y = v) (hv : v.cells = ⟨vs⟩) (hn : vs.length = sz) (hok : okc vs) (hl : spl old f vs = some l) (h : K undef (M.set i [(b, .cells ⟨l⟩ T' (0, 0))])) :
    Runs c H ⟨d, .store T x y, ot, pos, af, g⟩ ρ M K :=
  Runs_store (k₁ := []) (k₂ := []) ty hx hy hv hn hok hi hl h

/-- A heap has all blocks of a chunk. -/
def Has (k : Zf) (h : Heap) : Prop := ∀ b o, (b, o) ∈ k → h b = some o

/-! ### Calls -/
/-- A call, of a known function, that only reads: all that is owned here is lent to it. -/
theorem JL_callX {d : Option Nat} {cl : Call} {ot : TypeId} {pos : String} {af : Array Edge} {g : Option (Nat × Bool)} {f : FuncId} {args : Array Value} {post : Value → List Zf → Prop}
    (hg : wnt ops c.n ρ ⟨d, .call cl, ot, pos, af, g⟩ = true) (he : ∀ w, (execOp (ev c.n ρ) ⟨d, .call cl, ot, pos, af, g⟩).run c.P w = .ok (.enter f args) w)
    {M₁ M₂ : List Zf} (hM : M.flatten.Perm (M₁.flatten ++ M₂.flatten))
    (hc : (∀ (i : Nat) k, M₂[i]? = some k → Has k (hu M₂.flatten H)) → CT c.P f args M₁ (hu M₂.flatten H) post)
    (h : ∀ v N, post v N → JL c H ops rest (YJ ρ d v) (N ++ M₂) Q) : JL c H ops (⟨d, .call cl, ot, pos, af, g⟩ :: rest) ρ M Q := fun F rs w m => by
  unfold wlo
  rw [wanted_eq, hg, if_pos rfl]
  refine ⟨fun _ _ => trivial, ?_⟩
  rw [act_eval', semAt_exec (by simp), he w]
  refine ⟨fun h => by simp [Fw] at h, ?_⟩
  have m1 : Mem w (M₂.flatten ++ (M₁.flatten ++ (dfb rs ++ F))) H := by
    refine m.perm ((hM.append_right (dfb rs ++ F)).trans ?_)
    rw [← List.append_assoc M₂.flatten]
    exact List.perm_append_comm.append_right (dfb rs ++ F)
  have m2 : Mem w (M₁.flatten ++ (dfb rs ++ F)) (hu M₂.flatten H) := m1.hu
  have hnd : (M₂.flatten.map (·.1)).Nodup := m1.left.nd
  have hsep : ∀ b o, (b, o) ∈ M₂.flatten → H b = none := m1.left.sep
  have hkh : ∀ (i : Nat) k, M₂[i]? = some k → Has k (hu M₂.flatten H) := fun i k hk b o hb => by
    have hmem : (b, o) ∈ M₂.flatten := List.mem_flatten.2 ⟨k, List.mem_of_getElem? hk, hb⟩
    rw [Y4, hsep b o hmem]; exact lookup_of_mem hnd hmem
  refine (hc hkh (dfb rs ++ F) w m2).mono fun e w' ⟨v, N, he', hm', hp⟩ => ?_
  subst he'
  have m3 : Mem w' ((N ++ M₂).flatten ++ (dfb rs ++ F)) H := by
    have m4 : Mem w' (N.flatten ++ (M₂.flatten ++ (dfb rs ++ F))) H := Mem.unhu hnd hsep (Mem.perm hm' (by exact List.Perm.refl _))
    rw [List.flatten_append, List.append_assoc]; exact m4
  show wlo c ops (lift c H F Q) rest ((act c.n (marks rs) ρ).put d v) w'
  rw [act_put]
  exact h v N hp F rs w' m3

end
end Go.Proofs.YtfdeibbpfgolcaaGreat.Hs
