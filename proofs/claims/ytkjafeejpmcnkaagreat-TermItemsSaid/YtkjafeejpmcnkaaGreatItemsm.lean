import Derived.Test.YtkjafeejpmcnkaaGreatItemsl
import Derived.Laws.IdiomStrings
/-! Bytes written: numbers, strings as bytes, room made ahead. -/
namespace Go.Proofs.YtkjafeejpmcnkaaGreat.Hs
open Go Go.Proofs
set_option maxRecDepth 100000
theorem cg2 {α β γ : Sort _} (f : α → β → γ) {a a' : α} {b b' : β} (h : a = a') (h' : b = b') : f a b = f a' b' := by subst h h'; rfl
theorem w8b {n : Int} (h : 0 ≤ n ∧ n < 256) : IntKind.u8.wrap n = n := by
  have e : IntKind.u8.wrap n = n % 256 := rfl
  rw [e]; omega
theorem and7n {m : Nat} (h : m ≤ 4611686018427387904) : IntKind.i64.wrap ((BitVec.ofInt IntKind.i64.bits (m : Int) &&& BitVec.ofInt IntKind.i64.bits 127).toNat : Int) = ((m % 128 : Nat) : Int) := by
  rw [show (127 : Int) = ((127 : Nat) : Int) from rfl, show IntKind.i64.bits = 64 from rfl, BitVec.ofInt_natCast, BitVec.ofInt_natCast, BitVec.toNat_and, BitVec.toNat_ofNat, BitVec.toNat_ofNat, Nat.mod_eq_of_lt (by omega), Nat.mod_eq_of_lt (by omega)]
  have h2 := Nat.and_two_pow_sub_one_eq_mod m 7
  rw [show (2 : Nat) ^ 7 - 1 = 127 from rfl, show (2 : Nat) ^ 7 = 128 from rfl] at h2
  rw [h2]
  exact w64 (by omega)
theorem or7n {x : Nat} (h : x < 128) : IntKind.i64.wrap ((BitVec.ofInt IntKind.i64.bits (x : Int) ||| BitVec.ofInt IntKind.i64.bits 128).toNat : Int) = ((x + 128 : Nat) : Int) := by
  have := or_add (n := (x : Int)) (x := 1) (i := 7) (by omega) (by omega) (by simp; omega) (by simp; omega)
  rw [show (1 : Int) * 2 ^ 7 = 128 from rfl] at this
  rw [this]; omega
section
variable {P : Program} {e : Operand → Value} {d : Option Nat} {T : TypeId} {T' : TypeId} {ot : TypeId} {pos : String} {af : Array Edge} {g : Option (Nat × Bool)} {x y : Operand}
theorem Pu.bshr {k k' : IntKind} {a b v : Int} (hx : e x = .int k a) (hy : e y = .int k' b) (h0 : 0 ≤ b) (hv : a.fdiv (2 ^ (min b.toNat k.bits)) = v) : Pu P e ⟨d, .binOp .shr T x y T', ot, pos, af, g⟩ (.int k v) := fun w => by
  simp only [execOp, hx, hy, eqGuard, binOp, Op.shift]; simp [hv, show ¬ b < 0 from by omega]
theorem shr7n (m : Nat) : (m : Int).fdiv (2 ^ (min (7 : Int).toNat IntKind.i64.bits)) = ((m / 128 : Nat) : Int) := by
  rw [show min (7 : Int).toNat IntKind.i64.bits = 7 from rfl, show ((2 : Int) ^ 7) = ((128 : Nat) : Int) from rfl]
  exact (Int.ofNat_fdiv m 128).symm
theorem Pu.capNil {el : TypeId} (hT : ∀ w, (underlying T).run P w = .ok (.slice el) w) (hx : e x = .slice none 0 0) : Pu P e ⟨d, .call { callee := .builtin .cap, args := #[x], argTypes := #[T] }, ot, pos, af, g⟩ (.int .i64 0) := fun w => by
  simp [execOp, resolve, invoke, builtin, hx, Builtin.cap_, hT, goInt]
theorem Pu.sliceTo0 {el : TypeId} {a : Option Addr} {n cap : Nat} {k : IntKind} (hT : ∀ w, (underlying T).run P w = .ok (.slice el) w) (hsz : ∀ w, (sizeOf el).run P w = .ok 1 w) (hx : e x = .slice a n cap) (hy : e y = .int k 0) :
    Pu P e ⟨d, .slice T x none (some y) none, ot, pos, af, g⟩ (.slice a 0 cap) := fun w => by
  have ea : (if cap = 0 then a else a.map (·.add (0 * 1))) = a := by
    cases a with
    | none => simp
    | some a => simp [Addr.add]
  simp [execOp, Instr.sliceAt, Instr.slice, Instr.sliceBounds, Instr.sliceBound, asIntOf, hx, hy, hT, hsz, Result.andThen]
  cases a with
  | none => simp
  | some a => simp [Addr.add]
end
def RBB (h : Heap) (cs : List Value) (l : List Int) : Prop := ∃ v, cs = [v] ∧ Hs.rdS RB 1 h v l
theorem RBBs.mono {h h' : Heap} (hh : Hle h h') {v : Value} {ll : List (List Int)} (q : Hs.rdS RBB 1 h v ll) : Hs.rdS RBB 1 h' v ll := rdS.mono q hh fun _ _ _ ⟨v, e, r⟩ => ⟨v, e, RBs.mono hh r⟩
theorem str_src {P : Program} {w : World} (s : ByteArray) : Src P 1 w (.string s) s.size (Yd (sB s)).flatten := by
  have e : (Yd (sB s)).flatten = (sB s).map (fun n => Value.int .u8 n) := by
    unfold Yd
    generalize sB s = l
    induction l with
    | nil => rfl
    | cons x l ih => simp only [List.map_cons, List.flatten_cons, ih]; rfl
  rw [e]
  refine ⟨by simp [Builtin.lenOf], fun m hm => ?_, by rw [List.length_map, Y5]; omega⟩
  have e2 : List.take m (List.map (fun b => Value.int IntKind.u8 ↑b.toNat) s.data.toList) = ((sB s).map (fun n => Value.int .u8 n)).take m := by
    unfold sB
    rw [List.map_map]
    rfl
  simp only [Builtin.firstCells, Sem.run_pure]
  congr 1
  apply Array.ext'
  simp only [Nat.mul_one]
  rw [← e2]
  simp
/-- several slices of bytes -/
theorem Own.rdBB {T : TypeId} {v : Value} {es : List (List Value)} {k : Zi} {h : Heap} {ll : List (List Int)} (o : Own T 1 v es k) (hk : Has k h) (hl : ll.length = es.length) (hn : ll.length ≤ 9223372036854775807) (hr : ∀ i (h1 : i < es.length) (h2 : i < ll.length), RBB h es[i] ll[i]) : Hs.rdS RBB 1 h v ll :=
  o.rdS hl hn hk hr
theorem Own.rdBB2 {T : TypeId} {v a b : Value} {k : Zi} {h : Heap} {l m : List Int} (o : Own T 1 v [[a], [b]] k) (hk : Has k h) (h1 : Hs.rdS RB 1 h a l) (h2 : Hs.rdS RB 1 h b m) : Hs.rdS RBB 1 h v [l, m] :=
  o.rdBB hk rfl (by simp) fun i hi _ => by
    have : i = 0 ∨ i = 1 := by simp at hi; omega
    rcases this with rfl | rfl
    · exact ⟨a, rfl, h1⟩
    · exact ⟨b, rfl, h2⟩
theorem Own.rdBB4 {T : TypeId} {v a b c d : Value} {k : Zi} {h : Heap} {l m n p : List Int} (o : Own T 1 v [[a], [b], [c], [d]] k) (hk : Has k h) (h1 : Hs.rdS RB 1 h a l) (h2 : Hs.rdS RB 1 h b m) (h3 : Hs.rdS RB 1 h c n) (h4 : Hs.rdS RB 1 h d p) : Hs.rdS RBB 1 h v [l, m, n, p] :=
  o.rdBB hk rfl (by simp) fun i hi _ => by
    have : i = 0 ∨ i = 1 ∨ i = 2 ∨ i = 3 := by simp at hi; omega
    rcases this with rfl | rfl | rfl | rfl
    · exact ⟨a, rfl, h1⟩
    · exact ⟨b, rfl, h2⟩
    · exact ⟨c, rfl, h3⟩
    · exact ⟨d, rfl, h4⟩
theorem flat_snoc {ll : List (List Int)} {j : Nat} (h : j < ll.length) : (ll.take (j + 1)).flatten = (ll.take j).flatten ++ ll[j] := by
  rw [List.take_succ_eq_append_getElem h, List.flatten_append]; simp
theorem flat_le {ll : List (List Int)} {j : Nat} (h : j < ll.length) : (ll.take j).flatten.length + ll[j].length ≤ ll.flatten.length := by
  rw [← List.length_append, ← flat_snoc h]
  have : ll.flatten = (ll.take (j + 1)).flatten ++ (ll.drop (j + 1)).flatten := by rw [← List.flatten_append, List.take_append_drop]
  rw [this, List.length_append]; omega
theorem own_srcB {P : Program} {H : Heap} {T : TypeId} {v : Value} {l : List Int} {k : Zi} {M : List Zi} {i : Nat} (o : Own T 1 v (Yd l) k) (hi : M[i]? = some k) : ∀ F w, Mem w (M.flatten ++ F) H → Src P 1 w v l.length (Yd l).flatten := by
  intro F w m
  rcases o.2 with ⟨e, e2, e3⟩ | ⟨b, cap, sp, e, e2, e3, e4⟩
  · have : l = [] := by have := Yh l; rw [e2] at this; exact List.eq_nil_of_length_eq_zero this.symm
    subst this
    rw [e]; exact Src.nil
  · subst e
    have hb : w.heap[b]? = some (.cells ⟨(Yd l).flatten ++ sp⟩ T (0, 0)) := (At.k (M := M) (H := H) i hi (by rw [e2]; simp)).heap m
    have := Src.row (P := P) (cap := cap) (n := l.length) hb (by have := sub_flat (sp := sp) o.1; rwa [Yh] at this)
    rwa [Yh]
section
variable {c : Cx} {H : Heap} {ρ : Nat → Value} {M : List Zi} {K : Value → List Zi → Prop} {d : Option Nat} {ot : TypeId} {pos : String} {af : Array Edge} {g : Option (Nat × Bool)} {x y : Operand}
/-- the bytes of a string, in memory of their own -/
theorem Runs_toBytes {T T' el : TypeId} {s : ByteArray} (hs : c.P.underlying T = some .string) (hd : c.P.underlying T' = some (.slice el)) (he : c.P.underlying el = some (.int .u8)) (hn : s.size ≤ 9223372036854775807) (hx : ev c.n ρ x = .string s)
    (h : ∀ v k, v.oneCell' = true → (∀ h, Has k h → Hs.rdS RB 1 h v (sB s)) → K v (k :: M)) : Runs c H ⟨d, .convert T T' x, ot, pos, af, g⟩ ρ M K := fun F w m => by
  have hr := run_bytes_of_string w T T' el s hs hd he
  refine ⟨_, w.drew.alloc (.cells (bytesRow s (grownCap w s.size 0 el)) el ((bytesRow s (grownCap w s.size 0 el)).size, (bytesRow s (grownCap w s.size 0 el)).size + 1)), _, .inl ?_, ?_, h (.slice (some ⟨w.heap.size, 0, none⟩) s.size (grownCap w s.size 0 el)) [(w.heap.size, .cells (bytesRow s (grownCap w s.size 0 el)) el ((bytesRow s (grownCap w s.size 0 el)).size, (bytesRow s (grownCap w s.size 0 el)).size + 1))] rfl ?_⟩
  · simp only [execOp, hx]
    simp only [Sem.run_bind, hr, Result.andThen_ok, Sem.run_pure]
  · exact m.push (w' := w.drew.alloc _) rfl
  · intro h hk
    have hb := hk w.heap.size _ (List.mem_singleton.2 rfl)
    refine ⟨some ⟨w.heap.size, 0, none⟩, grownCap w s.size 0 el, by rw [Y5], by rw [Y5]; exact hn, .inr ⟨w.heap.size, 0, (bytesRow s (grownCap w s.size 0 el)).toList, el, _, rfl, hb, rows.mk fun i hi => ⟨[.int .u8 (sB s)[i]], ?_, rfl⟩⟩⟩
    have hl : i < s.data.toList.length := by rw [Y5] at hi; exact hi
    have e : (bytesRow s (grownCap w s.size 0 el)).toList = (sB s).map (fun n => Value.int .u8 n) ++ List.replicate (grownCap w s.size 0 el - s.size) (.int .u8 0) := by
      unfold bytesRow sB
      simp [List.map_map]
    rw [e, show 0 + i * 1 = i from by omega, sub_mk (by rw [List.length_append, List.length_map]; omega)]
    congr 1
    rw [List.drop_append_of_le_length (by rw [List.length_map]; omega), List.drop_eq_getElem_cons (by rw [List.length_map]; exact hi), List.cons_append, List.take_succ_cons, List.take_zero, List.getElem_map]
/-- room made ahead: zeros appended to none -/
theorem Runs_appendZ {T T₂ el : TypeId} {by_ n : Nat} {z : Value} {kd : IntKind} (hT : ∀ w, (underlying T).run c.P w = .ok (.slice el) w) (hT₂ : ∀ w, (underlying T₂).run c.P w = .ok (.int kd) w) (hel : El c.P el 1 by_ z)
    (hx : ev c.n ρ x = .slice none 0 0) (hy : ev c.n ρ y = .int .i64 (n : Int)) (h0 : 0 < n) (hb1 : 0 < by_) (hb : n * by_ ≤ 140737488355328)
    (h : ∀ b cap (Z : List Value), Z.length = cap → n ≤ cap → K (.slice (some ⟨b, 0, none⟩) n cap) ([(b, .cells ⟨Z⟩ el (0, 0))] :: M)) :
    Runs c H ⟨d, .call { callee := .builtin .append, args := #[x, y], argTypes := #[T, T₂] }, ot, pos, af, g⟩ ρ M K := fun F w m => by
  obtain ⟨ti, hti, hti1, hti2, hti3⟩ := hel.info
  have hnb : n ≤ 140737488355328 := by
    have : n * 1 ≤ n * by_ := Nat.mul_le_mul_left _ hb1
    omega
  have hfit := growslice_fits (need := n) (old := 0) (bytes := by_) h0 hb
  have h3 : ¬ (Builtin.nextslicecap n 0 * by_ > 2 ^ 48) := by omega
  have h2 : by_ ≠ 0 := by omega
  have w1 : IntKind.i64.wrap (n : Int) = n := w64 (by omega)
  have n1 : ¬ ((n : Int) < 0) := by omega
  have n2 : ¬ ((n : Int) * (by_ : Int) > 2 ^ 48) := by
    have : ((n * by_ : Nat) : Int) ≤ 140737488355328 := by omega
    rw [Int.natCast_mul] at this
    rw [show (2 : Int) ^ 48 = 281474976710656 from rfl]; omega
  have n3 : ¬ (n ≤ 0) := by omega
  have n4 : n ≠ 0 := by omega
  have n5 : ¬ ((n : Int) > IntKind.i64.max) := by
    have : IntKind.i64.max = 9223372036854775807 := by decide
    omega
  let newCap := grownCap w n 0 el
  have hcap : n ≤ newCap := by simp only [newCap, grownCap, Question.cut]; omega
  have hzz : ∀ m, (Builtin.zeroCells z.cells m).size = m := fun m => by rw [zeroCells_size, hel.zsz]; omega
  have hrun : (execOp (ev c.n ρ) ⟨d, .call { callee := .builtin .append, args := #[x, y], argTypes := #[T, T₂] }, ot, pos, af, g⟩).run c.P w =
      .ok (.value (.slice (some ⟨w.heap.size, 0, none⟩) n newCap)) (w.drew.alloc (.cells (#[] ++ Builtin.zeroCells z.cells n ++ Builtin.zeroCells z.cells (newCap - n)) el)) := by
    simp only [execOp, resolve, invoke, builtin, List.map_toArray, List.map_cons, List.map_nil, hx, hy, Sem.run_bind, Sem.run_pure, Result.andThen_ok, Builtin.append_]
    simp only [List.getElem?_toArray, List.getElem?_cons_zero, List.getElem?_cons_succ, Sem.run_bind, hT, hT₂, hel.size, Result.andThen_ok, Sem.run_pure, if_true, asInt, asIntOf, w1, n1, if_false, hti, hti2, Nat.zero_add, Bool.not_true, Bool.false_eq_true, Nat.mul_one, Builtin.firstCells, Sem.run_ite, n2, Int.toNat_natCast, n3, n5, h2, or_false, and_true, h3, run_choose, Question.forced, run_askRoom, n4, hel.zero, newRow, run_newObj]
    rfl
  refine ⟨_, _, [(w.heap.size, .cells (#[] ++ Builtin.zeroCells z.cells n ++ Builtin.zeroCells z.cells (newCap - n)) el (0, 0))] :: M, .inl hrun, m.push (w' := w.drew.alloc _) rfl, ?_⟩
  have := h w.heap.size newCap ((#[] ++ Builtin.zeroCells z.cells n ++ Builtin.zeroCells z.cells (newCap - n)) : Array Value).toList (by simp [hzz]; omega) hcap
  exact this
end
end Go.Proofs.YtkjafeejpmcnkaaGreat.Hs
/-! What the law of items uses: counted items, equal items, items that are spoiled. -/
namespace Go.Proofs.YtkjafeejpmcnkaaGreat.Hs
open Go Go.Proofs
mutual
/-- items counted, until they are Z8 than 900 -/
def cnI : It → Int → Bool × Int
  | .mk _ _ _ kids, n => if 900 < n + 1 then (true, n + 1) else cnIs kids (n + 1)
def cnIs : List It → Int → Bool × Int
  | [], n => (false, n)
  | x :: l, n => if (cnI x n).1 = true then (true, (cnI x n).2) else cnIs l (cnI x n).2
end
theorem cnIs_any (l : List It) : ∀ n, cnIs l n = Ye cnI l n := by
  induction l with
  | nil => intro n; rw [cnIs, Ye]
  | cons x l ih => intro n; rw [cnIs, Ye, ih]
theorem cnI_size (x : It) : ∀ n : Int, (cnI x n).1 = false → (cnI x n).2 = n + szI x ∧ (cnI x n).2 ≤ 900 := by
  induction x using It.ind with
  | h k m t kids ih =>
    intro n h
    have hK : ∀ (l : List It) (n : Int), (∀ x ∈ l, ∀ n : Int, (cnI x n).1 = false → (cnI x n).2 = n + szI x ∧ (cnI x n).2 ≤ 900) → n ≤ 900 → (cnIs l n).1 = false → (cnIs l n).2 = n + Z2 l ∧ (cnIs l n).2 ≤ 900 := by
      intro l
      induction l with
      | nil => intro n _ hn _; rw [cnIs, Z2]; simp only; omega
      | cons x l ihl =>
        intro n hl hn h
        rw [cnIs] at h ⊢
        split at h
        · cases h
        · rename_i h0
          rw [if_neg h0]
          have h1 := hl x (by simp) n (by simpa using h0)
          have := ihl _ (fun y hy => hl y (by simp [hy])) h1.2 h
          rw [Z2]; omega
    rw [cnI] at h ⊢
    split at h
    · cases h
    · rename_i h0
      rw [if_neg h0, szI]
      have := hK kids (n + 1) ih (by omega) h
      omega
theorem cnI_keep (x : It) (n : Int) (h0 : 0 ≤ n) (h : (cnI x n).1 = false) : 0 ≤ (cnI x n).2 ∧ (cnI x n).2 ≤ 900 := by
  have := cnI_size x n h; omega
noncomputable instance : DecidableEq It := fun _ _ => Classical.propDecidable _
theorem eqId0 (k n k' n' : Int) (r r' : ByteArray) (l l' : List It) : ((((decide (k = k')) && (decide (n = n'))) && (decide (r = r'))) && (decide (l = l'))) = decide (It.mk k n r l = It.mk k' n' r' l') := by
  rw [Bool.eq_iff_iff]; simp [and_assoc]
theorem eqId (k n : Int) (r : ByteArray) (l : List It) (q : It) : ((((decide (k = q.kind)) && (decide (n = q.num))) && (decide (r = q.text))) && (decide (l = q.kids))) = decide (It.mk k n r l = q) := by
  cases q; exact eqId0 ..
theorem OIts.take {l : List It} {es : List (List Value)} {c : Zi} {j : Nat} (h : OIts (l.drop j) (es.drop j) c) (hj : j < l.length) :
    ∃ e k c', es[j]? = some e ∧ OIt l[j] e k ∧ c = k ++ c' ∧ ∀ x, OIts (l.drop (j + 1)) ((es.set j x).drop (j + 1)) c' := by
  rw [List.drop_eq_getElem_cons hj, OIts] at h
  obtain ⟨e, es', k, c', h1, h2, h3, h4⟩ := h
  have hj' : es[j]? = some e := by
    have := congrArg (fun l => l[0]?) h1
    simpa [List.getElem?_drop] using this
  refine ⟨e, k, c', hj', h2, h4, fun x => ?_⟩
  rw [List.drop_set_of_lt (by omega)]
  have : es.drop (j + 1) = es' := by rw [← List.drop_drop, h1]; rfl
  rw [this]; exact h3
theorem encLen (t : Tm) : (if ZX 60 8 t = 0 then Xe (itT t) else []).length ≤ 31000 := by
  split
  · rename_i h; exact (right_gd h).2.2.2
  · simp
end Go.Proofs.YtkjafeejpmcnkaaGreat.Hs
/-! Walks, printed by a program of this session's own (gen.py). -/
namespace Go.Proofs.YtkjafeejpmcnkaaGreat.Hs
open Go Go.Proofs
set_option maxRecDepth 100000
set_option linter.unusedVariables false
set_option linter.unusedSimpArgs false
attribute [local irreducible] JL J CT wlo DT
theorem num2_ct (l : List Int) (n : Nat) (v : Value) (k : Zi) (H : Heap) (ho : Own 5 1 v (Yd l) k) (hz : l.length ≤ 10000000) (hn : n ≤ 1099511627776) : CT Tryz.prog 152 ⟨[v, iv ((n : Int))]⟩ [k] H (fun r N => ∃ k, N = [k] ∧ Own 5 1 r (Yd (l ++ Yo n)) k) := by
 refine Zm Tryz.func152 rfl rfl <| Zc <| Za <| JLA rfl <| Zb <| Zc <| Zn <| ZB (fun k ρ M => ∃ (m : Nat) (p : List Int) (y : Value) (q1 : Zi), ρ 0 = y ∧ ρ 1 = iv ((m : Int)) ∧ ρ 4 = nS ∧ Sub [q1] M ∧ Own 5 1 y (Yd p) q1 ∧ p ++ Yo m = l ++ Yo n ∧ m ≤ n ∧ k = 2 * m + 1) _ ⟨n, l, v, k, rfl, rfl, rfl, (Sk Sub.nil), ho, rfl, (Nat.le_refl _), rfl⟩ ?_
 rintro _ ρ1 _ ⟨m, p, y, q1, e2, e3, e4, hm5, hown, hinv, hmn, rfl⟩
 obtain ⟨ρ6, rfl⟩ := Zr (uc e2 (uc e3 (uc e4 un)))
 clear e2 e3 e4
 refine ZG hm5 <| Zc <| Zc <| Za <| JLM rfl <| JLn (Pu.geq rfl rfl) <| Zb <| Zg rfl (fun h7 => ?_) (fun h7 => ?_)
 ·replace h7 := dt h7
  refine Zj <| Zn <| Zc ?_
  have hpl : p.length + (Yo m).length = l.length + (Yo n).length := by rw [← List.length_append, ← List.length_append, hinv]
  have hn6 := numE_6 (n := n) (by omega)
  refine Za <| JLm y <| JLM rfl <| JLq (iv (((m % 128 : Nat) : Int))) (Pu.rem rfl rfl (by decide) (show Int.tmod (m : Int) 128 = ((m % 128 : Nat) : Int) from rfl)) <| JLn (Pu.add64 rfl rfl (by first | omega | (constructor <;> omega))) <| JLq (.int .u8 (((m % 128 : Nat) : Int) + 128)) (Pu.conv Tryz.runUnderlying3 Tryz.runUnderlying5 rfl (w8b (by omega))) <| JLr (Zp (vs := [.int .u8 (((m % 128 : Nat) : Int) + 128)]) [[.int .u8 (((m % 128 : Nat) : Int) + 128)]] Tryz.runUnderlying22 el5 rfl rfl (by intro e he; simp only [List.mem_cons, List.not_mem_nil, or_false] at he; subst he; exact rfl) rfl (by decide) fun b8 k8 ho8 hk8 => ?_)
  have hlens9 : ∀ e ∈ ([[.int .u8 (((m % 128 : Nat) : Int) + 128)]] : List (List Value)), List.length e = 1 := by
   intro e he; simp only [List.mem_cons, List.not_mem_nil, or_false] at he
   rcases he with rfl
   ·exact rfl
  have hoks9 : ∀ e ∈ ([[.int .u8 (((m % 128 : Nat) : Int) + 128)]] : List (List Value)), okc e := by
   intro e he; simp only [List.mem_cons, List.not_mem_nil, or_false] at he
   rcases he with rfl
   ·exact (Zf rfl Zo)
  refine JLr (Zx (i := 1) (n := 1) (es' := [[.int .u8 (((m % 128 : Nat) : Int) + 128)]]) Tryz.runUnderlying22 Tryz.runUnderlying22 (Or.inl rfl) el5 rfl rfl rfl hown (fun F w m => Src.row (((At.k 0 rfl (by rw [hk8]; exact List.mem_cons_self))).heap m) (Zs (Zw hlens9))) rfl hlens9 hoks9 (by decide) (by rw [Yh]; simp; omega) fun v9 k9 ho9 => ?_)
  rw [byts_one] at ho9
  refine JLa v9 <| Zb <| Za <| JLM rfl <| JLq (iv (((m / 128 : Nat) : Int))) (Pu.quo rfl rfl (by decide) ((congrArg IntKind.i64.wrap (show Int.tdiv (m : Int) 128 = ((m / 128 : Nat) : Int) from rfl)).trans (w64 (by omega)))) <| JLA rfl <| Zb <| ⟨_, ?_, (m / 128), (p ++ [((m % 128 + 128 : Nat) : Int)]), v9, k9, rfl, rfl, rfl, (Sd (Sk Sub.nil)), ?_, ?_, ?_, rfl⟩
  ·omega
  ·simpa using ho9
  ·rw [numE_ge (by omega)] at hinv; rw [← hinv]; simp
  omega
 replace h7 := df h7
 refine Zz _ rfl <| Zc ?_
 have hpl : p.length + (Yo m).length = l.length + (Yo n).length := by rw [← List.length_append, ← List.length_append, hinv]
 have hn6 := numE_6 (n := n) (by omega)
 refine Za <| JLm y <| JLM rfl <| JLq (.int .u8 ((m : Int))) (Pu.conv Tryz.runUnderlying3 Tryz.runUnderlying5 rfl (w8b (by omega))) <| JLr (Zp (vs := [.int .u8 ((m : Int))]) [[.int .u8 ((m : Int))]] Tryz.runUnderlying22 el5 rfl rfl (by intro e he; simp only [List.mem_cons, List.not_mem_nil, or_false] at he; subst he; exact rfl) rfl (by decide) fun b10 k10 ho10 hk10 => ?_)
 have hlens11 : ∀ e ∈ ([[.int .u8 ((m : Int))]] : List (List Value)), List.length e = 1 := by
  intro e he; simp only [List.mem_cons, List.not_mem_nil, or_false] at he
  rcases he with rfl
  ·exact rfl
 have hoks11 : ∀ e ∈ ([[.int .u8 ((m : Int))]] : List (List Value)), okc e := by
  intro e he; simp only [List.mem_cons, List.not_mem_nil, or_false] at he
  rcases he with rfl
  ·exact (Zf rfl Zo)
 refine JLr (Zx (i := 1) (n := 1) (es' := [[.int .u8 ((m : Int))]]) Tryz.runUnderlying22 Tryz.runUnderlying22 (Or.inl rfl) el5 rfl rfl rfl hown (fun F w m => Src.row (((At.k 0 rfl (by rw [hk10]; exact List.mem_cons_self))).heap m) (Zs (Zw hlens11))) rfl hlens11 hoks11 (by decide) (by rw [Yh]; simp; omega) fun v11 k11 ho11 => ?_)
 rw [byts_one] at ho11
 refine JLa v11 <| Zb <| Zl <| ⟨v11, [k11], Ret.one rfl (RV.tmp rfl), (Sd (Sk Sub.nil)), ?_⟩
 rw [numE_lt (by omega)] at hinv
 exact ⟨_, rfl, by rw [← hinv]; exact ho11⟩
end Go.Proofs.YtkjafeejpmcnkaaGreat.Hs
/-! Walks, printed by a program of this session's own (gen.py). -/
namespace Go.Proofs.YtkjafeejpmcnkaaGreat.Hs
open Go Go.Proofs
set_option maxRecDepth 100000
set_option linter.unusedVariables false
set_option linter.unusedSimpArgs false
attribute [local irreducible] JL J CT wlo DT
set_option maxHeartbeats 4000000 in
theorem written_ct : ∀ (x : It) (l : List Int) (v : Value) (k : Zi) (cs : List Value) (H : Heap), RIt H cs x → Own 5 1 v (Yd l) k → gdI x → l.length + (Xe x).length ≤ 1000000 → CT Tryz.prog 126 ⟨[v, .agg ⟨cs⟩]⟩ [k] H (fun r N => ∃ k, N = [k] ∧ Own 5 1 r (Yd (l ++ Xe x)) k) := by
 intro x
 induction x using It.ind with
 | h kd nm tx kids ih =>
 intro l v k cs H ht ho hg hz
 obtain ⟨kv, rfl, hk, hm, hks⟩ := RIt_mk.1 ht
 rw [gdI] at hg
 obtain ⟨nn, rfl⟩ := Int.eq_ofNat_of_zero_le hg.2.1.1
 have hle := hks.le
 have hn6 := numE_6 (n := nn) (by omega)
 have hs6 := numE_6 (n := tx.size) (by omega)
 have htl := txE_len hg.2.2.1
 have hkl : kids.length ≤ 1000000 := by have := encIs_lenk hg.2.2.2; rw [Xe] at hz; simp only [List.length_cons, List.length_append] at hz; split at hz <;> simp at hz <;> omega
 have hk6 := numE_6 (n := kids.length) (by omega)
 have hP : (l ++ [hdE kd tx kids.length] ++ Yo nn ++ txE tx ++ (if kids.length = 0 then [] else Yo kids.length)).length + (Yq kids).length ≤ 1000000 := by
  rw [Xe] at hz; by_cases h0 : kids.length = 0
  ·rw [if_pos h0] at hz ⊢; obtain rfl := List.eq_nil_of_length_eq_zero h0; simp [Yq] at hz ⊢; omega
  ·rw [if_neg h0] at hz ⊢; simp at hz ⊢; omega
 have hP2 : (l ++ [hdE kd tx kids.length] ++ Yo nn ++ txE tx).length ≤ 1000000 := by rw [List.length_append] at hP; omega
 have hP1 : (l ++ [hdE kd tx kids.length] ++ Yo nn).length ≤ 1000000 := by rw [List.length_append] at hP2; omega
 have hP0 : l.length ≤ 1000000 := by omega
 refine Zm Tryz.func126 rfl rfl <| Zc <| Za <| JLr (Zq (l := [iv kd, iv ((nn : Int)), .string tx, kv]) rfl rfl fun b1 => JLA rfl <| Zb <| Zc <| Za <| JLq (pp b1 0) (YR rfl rfl) <| JLr (Zd ty3 rfl (At.bx 0 rfl) rfl <| JLA rfl <| Zb <| Zc ?_))
 refine Zc <| Za <| JLq (pp b1 2) (YB rfl rfl) <| JLr (Zd ty9 rfl (At.bx 0 rfl) rfl <| JLn (Pu.neqS rfl rfl) <| Zb <| Xq (N := fun ρ M => ∃ (w1 : Int), (w1 = kd + (if tx = ⟨#[]⟩ then 0 else 64)) ∧ ρ 0 = v ∧ ρ 3 = pp b1 0 ∧ ρ 4 = nS ∧ ρ 5 = iv w1 ∧ M = [(BX b1 [iv kd, iv ((nn : Int)), .string tx, kv] 39), k]) ?_ ?_)
 ·refine Zg rfl (fun h2 => ?_) (fun h2 => ?_)
  ·replace h2 := nt h2
   replace h2 := df h2
   refine Za <| JLM rfl <| JLn (Pu.add64 rfl rfl (by omega)) <| JLA rfl <| Zb ?_
   exact ⟨(kd + 64), (by rw [if_neg h2]), rfl, rfl, rfl, rfl, rfl⟩
  replace h2 := nf h2
  replace h2 := dt h2
  refine Zj ?_
  exact ⟨kd, (by rw [if_pos (by have z := h2; simpa using z)]; omega), rfl, rfl, rfl, rfl, rfl⟩
 rintro ρ3 _ ⟨w1, h_w1, e4, e5, e6, e7, rfl⟩
 obtain ⟨ρ8, rfl⟩ := Zr (uc e4 (uc e5 (uc e6 (uc e7 un))))
 clear e4 e5 e6 e7
 refine Zc <| Zc <| Za <| JLq (pp b1 3) (ZP rfl rfl) <| JLr (Zd Yw rfl (At.bx 0 rfl) rfl ?_)
 obtain ⟨a9, cap9, hv9⟩ := hks.sl
 have hle9 := hks.le
 refine JLn (Pu.lenSl Tryz.runUnderlying37 hv9) <| JLn (Pu.gtr rfl rfl) <| Zb <| Xq (N := fun ρ M => ∃ (w2 : Int), (w2 = hdE kd tx kids.length) ∧ ρ 0 = v ∧ ρ 3 = pp b1 0 ∧ ρ 4 = nS ∧ ρ 5 = iv w2 ∧ M = [(BX b1 [iv kd, iv ((nn : Int)), .string tx, kv] 39), k]) ?_ ?_
 ·refine Zg rfl (fun h10 => ?_) (fun h10 => ?_)
  ·replace h10 := dt h10
   refine Za <| JLM rfl <| JLn (Pu.add64 rfl rfl (by omega)) <| JLA rfl <| Zb ?_
   exact ⟨(w1 + 128), (by unfold hdE; rw [h_w1, if_neg (show ¬ kids.length = 0 by omega)]), rfl, rfl, rfl, rfl, rfl⟩
  replace h10 := df h10
  refine Zj ?_
  exact ⟨w1, (by unfold hdE; rw [h_w1, if_pos (show kids.length = 0 by omega), Int.add_zero]), rfl, rfl, rfl, rfl, rfl⟩
 rintro ρ11 _ ⟨w2, h_w2, e12, e13, e14, e15, rfl⟩
 obtain ⟨ρ16, rfl⟩ := Zr (uc e12 (uc e13 (uc e14 (uc e15 un))))
 clear e12 e13 e14 e15
 refine Zc ?_
 have hw2 : 0 ≤ w2 ∧ w2 < 256 := by rw [h_w2]; unfold hdE; split <;> split <;> omega
 refine ZJ mixed #[0, 0, 2, 6, 15, 0, 32, 127, 255] 7 [some 20, some 21, some 22, some 23, some 24, some 25, some 26] [(4, 8)] [(3, fun _ _ vw qw => ∃ b k, vw = .slice (some ⟨b, 0, none⟩) 1 1 ∧ qw = [k] ∧ Own 5 1 (.slice (some ⟨b, 0, none⟩) 1 1) [[.int .u8 w2]] k ∧ k = (BX b (List.flatten [[.int .u8 w2]]) 5)), (4, fun _ _ vw qw => ∃ k, qw = [k] ∧ Own 5 1 vw (Yd l ++ [[.int .u8 w2]]) k)] rfl (by kernel_rfl) rfl (by kernel_rfl) <| Dm v <| DM (fun _ => rfl) ?_
 refine Dq (.int .u8 w2) (fun _ => Pu.conv Tryz.runUnderlying3 Tryz.runUnderlying5 rfl (w8b (by omega))) <| Dr rfl (fun _ => Zp (vs := [.int .u8 w2]) [[.int .u8 w2]] Tryz.runUnderlying22 el5 rfl rfl (by intro e he; simp only [List.mem_cons, List.not_mem_nil, or_false] at he; subst he; exact rfl) rfl (by decide) fun b k h1 h2 => ⟨[k], by rw [ZN rfl]; exact Sub.refl, b, k, rfl, rfl, h1, h2⟩) (fun _ _ ⟨b19, k19, e1, e2, ho19, hk19⟩ => ?_); subst e1 e2
 have hlens20 : ∀ e ∈ ([[.int .u8 w2]] : List (List Value)), List.length e = 1 := by
  intro e he; simp only [List.mem_cons, List.not_mem_nil, or_false] at he
  rcases he with rfl
  ·exact rfl
 have hoks20 : ∀ e ∈ ([[.int .u8 w2]] : List (List Value)), okc e := by
  intro e he; simp only [List.mem_cons, List.not_mem_nil, or_false] at he
  rcases he with rfl
  ·exact (Zf rfl Zo)
 refine Dr rfl (fun _ => Zx (i := 2) (n := 1) (es' := [[.int .u8 w2]]) Tryz.runUnderlying22 Tryz.runUnderlying22 (Or.inl rfl) el5 rfl rfl rfl ho (fun F w m => Src.row (((At.k 0 rfl (by rw [hk19]; exact List.mem_cons_self))).heap m) (Zs (Zw hlens20))) rfl hlens20 hoks20 (by decide) (by rw [Yh]; simp at *; omega) fun v k h1 => ⟨[k], keptE rfl rfl, k, rfl, h1⟩) ?_; rintro v20 _ ⟨k20, rfl, ho20⟩
 rw [byts_one] at ho20
 refine Dq (pp b1 1) (fun _ => XB rfl rfl) <| Dl1 ty3 (At.bx 0 rfl) rfl <| ZV (M' := [k20, k19, (BX b1 [iv kd, iv ((nn : Int)), .string tx, kv] 39)]) rfl ?_
 show JL _ _ _ [_, _] _ _ _
 refine ZA 0 rfl Tryz.call152 rfl rfl (fun hin => num2_ct (l ++ [w2]) nn _ _ _ ho20 (by simp at *; omega) (by omega)) rfl ?_
 rintro v21 _ ⟨k21, rfl, ho21⟩
 refine JLa v21 <| Zb <| Zc <| Zc <| Za <| JLq (pp b1 2) (YB rfl rfl) <| JLr (Zd ty9 rfl (At.bx 2 rfl) rfl <| JLn (Pu.neqS rfl rfl) <| Zb <| Xq (N := fun ρ M => ∃ (y3 : Value) (q3c : Zi), (Own 5 1 y3 (Yd (l ++ [hdE kd tx kids.length] ++ Yo nn ++ txE tx)) q3c) ∧ ρ 0 = y3 ∧ ρ 3 = pp b1 0 ∧ ρ 4 = nS ∧ M = [q3c, k19, (BX b1 [iv kd, iv ((nn : Int)), .string tx, kv] 39)]) ?_ ?_)
 ·refine Zg rfl (fun h22 => ?_) (fun h22 => ?_)
  ·replace h22 := nt h22
   replace h22 := df h22
   refine ZJ mixed #[0, 0, 2, 6, 15, 0, 32, 127, 255] 7 [some 31, some 32, some 33, some 34, some 35, some 36, some 37] [(4, 7)] [(4, fun _ _ vw qw => ∃ k, qw = [k] ∧ Own 5 1 vw (Yd (l ++ [w2] ++ Yo nn ++ Yo (tx.size))) k)] rfl (by kernel_rfl) rfl (by kernel_rfl) <| Dm v21 <| Dq (pp b1 2) (fun _ => YB rfl rfl) <| Dl1 ty9 (At.bx 2 rfl) rfl <| Dn (fun _ => Pu.lenS Tryz.runUnderlying9 rfl) ?_
   refine XK 0 rfl rfl (fun _ => rfl) Tryz.call152 (fun _ => rfl) rfl (fun hin => num2_ct (l ++ [w2] ++ Yo nn) (tx.size) _ _ _ ho21 (by simp at *; omega) (by omega)) (fun _ => rfl) ?_
   rintro v24 _ ⟨k24, rfl, ho24⟩
   refine Dq (pp b1 2) (fun _ => YB rfl rfl) <| Dl1 ty9 (At.bx 1 rfl) rfl <| ZV (M' := [k24, k19, (BX b1 [iv kd, iv ((nn : Int)), .string tx, kv] 39)]) rfl ?_
   show JL _ _ _ [_, _] _ _ _
   refine JLr (Zx (i := 0) (n := tx.size) (es' := Yd (sB tx)) Tryz.runUnderlying22 Tryz.runUnderlying9 (Or.inr rfl) el5 rfl rfl rfl ho24 (fun F w m => str_src _) (by rw [Yh, Y5]) (byts_len1 _) (byts_ok _) (by decide) (by rw [Yh]; simp at *; omega) fun v25 k25 ho25 => ?_)
   rw [← byts_app] at ho25
   refine JLa v25 <| Zb ?_
   exact ⟨v25, k25, (by have z := ho25; unfold txE; rw [if_neg h22]; simpa [h_w2] using z), rfl, rfl, rfl, rfl⟩
  replace h22 := nf h22
  replace h22 := dt h22
  refine Zj ?_
  exact ⟨v21, k21, (by have z := ho21; unfold txE; rw [if_pos (by have z := h22; simpa using z)]; simpa [h_w2] using z), rfl, rfl, rfl, rfl⟩
 rintro ρ26 _ ⟨y3, q3c, how3, e27, e28, e29, rfl⟩
 obtain ⟨ρ30, rfl⟩ := Zr (uc e27 (uc e28 (uc e29 un)))
 clear e27 e28 e29
 refine Zc <| Zc <| Za <| JLq (pp b1 3) (ZP rfl rfl) <| JLr (Zd Yw rfl (At.bx 2 rfl) rfl ?_)
 obtain ⟨a31, cap31, hv31⟩ := hks.sl
 have hle31 := hks.le
 refine JLn (Pu.lenSl Tryz.runUnderlying37 hv31) <| JLn (Pu.gtr rfl rfl) <| Zb <| Xq (N := fun ρ M => ∃ (y4 : Value) (q4c : Zi), (Own 5 1 y4 (Yd (l ++ [hdE kd tx kids.length] ++ Yo nn ++ txE tx ++ (if kids.length = 0 then [] else Yo kids.length))) q4c) ∧ ρ 0 = y4 ∧ ρ 3 = pp b1 0 ∧ ρ 4 = nS ∧ M = [q4c, k19, (BX b1 [iv kd, iv ((nn : Int)), .string tx, kv] 39)]) ?_ ?_
 ·refine Zg rfl (fun h32 => ?_) (fun h32 => ?_)
  ·replace h32 := dt h32
   refine Za <| JLm y3 <| JLq (pp b1 3) (ZP rfl rfl) <| JLr (Zd Yw rfl (At.bx 2 rfl) rfl ?_)
   obtain ⟨a33, cap33, hv33⟩ := hks.sl
   have hle33 := hks.le
   refine JLn (Pu.lenSl Tryz.runUnderlying37 hv33) <| ZA 0 rfl Tryz.call152 rfl rfl (fun hin => num2_ct (l ++ [hdE kd tx kids.length] ++ Yo nn ++ txE tx) (kids.length) _ _ _ how3 (by simp at *; omega) (by omega)) rfl ?_
   rintro v34 _ ⟨k34, rfl, ho34⟩
   refine JLa v34 <| Zb ?_
   exact ⟨v34, k34, (by have z := ho34; rw [if_neg (by omega)]; simpa using z), rfl, rfl, rfl, rfl⟩
  replace h32 := df h32
  refine Zj ?_
  exact ⟨y3, q3c, (by have z := how3; rw [if_pos (by omega)]; simpa using z), rfl, rfl, rfl, rfl⟩
 rintro ρ35 _ ⟨y4, q4c, how4, e36, e37, e38, rfl⟩
 obtain ⟨ρ39, rfl⟩ := Zr (uc e36 (uc e37 (uc e38 un)))
 clear e36 e37 e38
 refine Zc <| Zc <| Za <| JLq (pp b1 3) (ZP rfl rfl) <| JLr (Zd Yw rfl (At.bx 2 rfl) rfl ?_)
 obtain ⟨a40, cap40, hv40⟩ := hks.sl
 have hle40 := hks.le
 refine JLn (Pu.lenSl Tryz.runUnderlying37 hv40) <| JLM rfl <| Zb <| Zn <| ZB (fun k ρ M => ∃ (j : Nat) (y : Value) (q1 : Zi), ρ 0 = y ∧ ρ 3 = pp b1 0 ∧ ρ 4 = nS ∧ ρ 50 = iv ((kids.length : Int)) ∧ ρ 51 = iv ((j : Int)) ∧ Sub [q1, (BX b1 [iv kd, iv ((nn : Int)), .string tx, kv] 39)] M ∧ j ≤ kids.length ∧ Own 5 1 y (Yd ((l ++ [hdE kd tx kids.length] ++ Yo nn ++ txE tx ++ (if kids.length = 0 then [] else Yo kids.length)) ++ Yq (kids.take j))) q1 ∧ k = kids.length - j) _ ⟨0, y4, q4c, rfl, rfl, rfl, rfl, rfl, (Sk (Sd (Sk Sub.nil))), Nat.zero_le _, (by have z := how4; simpa [Yq] using z), rfl⟩ ?_
 rintro _ ρ41 _ ⟨j, y, q1, e42, e43, e44, e45, e46, hm47, hj, hown, rfl⟩
 obtain ⟨ρ48, rfl⟩ := Zr (uc e42 (uc e43 (uc e44 (uc e45 (uc e46 un)))))
 clear e42 e43 e44 e45 e46
 refine ZG hm47 <| Zc <| Za <| JLn (Pu.lss rfl rfl) <| Zb <| Zc <| Zg rfl (fun h49 => ?_) (fun h49 => ?_)
 ·replace h49 := dt h49
  have h49n : j < kids.length := by omega
  have hs1 := encIs_take1 h49n
  have hgj := gdIs_mem hg.2.2.2 _ (List.getElem_mem h49n)
  refine Zj <| Zc <| Zn <| Zc <| Za <| JLM rfl <| JLA rfl <| Zb <| Za <| JLm y <| JLq (pp b1 3) (ZP rfl rfl) <| JLr (Zd Yw rfl (At.bx 1 rfl) rfl <| JLM rfl ?_)
  obtain ⟨b50, o50, cap50, row50, T50, fr50, cs50, hv50, hb50, hs50, hE50⟩ := hks.get j (by first | assumption | omega | decide | simp)
  obtain ⟨ki50, rfl, hik50, hin50, hks50⟩ := Yb hE50
  refine JLq (pp b50 (o50 + j * 4)) (Pu.idx j Tryz.runUnderlying37 ZM hv50 rfl rfl (by first | assumption | omega | decide | simp)) <| JLr (Zh ZM rfl (At.im hb50) hs50 <| ZA 0 rfl Tryz.call126 rfl rfl (fun hin => ih _ (List.getElem_mem h49n) _ _ _ _ _ (RIt.mono (Hle.hu _ _) (Yi hik50 hin50 hks50)) hown hgj (by rw [List.length_append]; omega)) rfl ?_)
  rintro v51 _ ⟨k51, rfl, ho51⟩
  refine JLa v51 <| Zb <| Za <| JLn (Pu.inc rfl rfl (by omega)) <| JLM rfl <| Zb <| ⟨_, ?_, (j + 1), v51, k51, rfl, rfl, rfl, rfl, rfl, (Sk (Sk Sub.nil)), ?_, ?_, rfl⟩
  ·omega
  ·omega
  rw [encIs_snoc h49n, ← List.append_assoc]; exact ho51
 replace h49 := df h49
 have h49n : kids.length ≤ j := by omega
 refine Zz _ rfl <| Zc <| Za <| JLm y <| JLa y <| Zb <| Zl <| ⟨y, [q1], Ret.one rfl (RV.tmp rfl), (Sk Sub.nil), ?_⟩
 refine ⟨_, rfl, ?_⟩
 have z := hown
 rw [List.take_of_length_le h49n] at z
 rw [Xe]
 by_cases h0 : kids.length = 0
 ·rw [if_pos h0] at z ⊢; obtain rfl := List.eq_nil_of_length_eq_zero h0; simpa [Yq] using z
 rw [if_neg h0] at z ⊢; simpa using z
end Go.Proofs.YtkjafeejpmcnkaaGreat.Hs
/-! Walks, printed by a program of this session's own (gen.py). -/
namespace Go.Proofs.YtkjafeejpmcnkaaGreat.Hs
open Go Go.Proofs
set_option maxRecDepth 100000
set_option linter.unusedVariables false
set_option linter.unusedSimpArgs false
attribute [local irreducible] JL J CT wlo DT
set_option maxHeartbeats 2000000 in
theorem checked_ct : ∀ (x : It) (n lv : Int) (cs : List Value) (H : Heap), RIt H cs x → gdI x → 0 ≤ n → n + szI x ≤ 5000 → 0 ≤ lv → lv + dpI x ≤ 251 → CT Tryz.prog 151 ⟨[.agg ⟨cs⟩, iv n, iv lv]⟩ [] H (fun v N => v = .tuple ⟨[iv (n + szI x), iv 0]⟩ ∧ N = []) := by
 intro x
 induction x using It.ind with
 | h kd nm tx kids ih =>
 intro n lv cs H ht hg hn0 hnz hl0 hlv
 obtain ⟨kv, rfl, hk, hm, hks⟩ := RIt_mk.1 ht
 rw [gdI] at hg
 rw [szI] at hnz
 rw [dpI] at hlv
 have hle := hks.le
 have hdn := dpIs_nn kids
 refine Zm Tryz.func151 rfl rfl <| Zc <| Za <| JLr (Zq (l := [iv kd, iv nm, .string tx, kv]) rfl rfl fun b1 => JLA rfl <| JLA rfl <| Zb <| Zc <| Zc <| Za <| JLM rfl <| JLn (Pu.gtr rfl rfl) <| Zb ?_)
 refine Zg rfl (fun h2 => ?_) (fun h2 => ?_)
 ·replace h2 := dt h2
  exfalso; first | omega | (have z := h2; simp at z; omega)
 replace h2 := df h2
 refine Zj <| Zc <| Zc <| Za <| JLM rfl <| JLn (Pu.geq rfl rfl) <| Zb <| Zg rfl (fun h3 => ?_) (fun h3 => ?_)
 ·replace h3 := dt h3
  exfalso; first | omega | (have z := h3; simp at z; omega)
 replace h3 := df h3
 refine Zj <| Zc <| Zc <| Za <| JLq (pp b1 0) (YR rfl rfl) <| JLr (Zd ty3 rfl (At.bx 0 rfl) rfl <| JLn (Pu.lss rfl rfl) <| JLM rfl <| Zv 3 [21, 22, 23] [(23, cond (decide (kd < 1)) undef (.bool (decide (63 < kd))))] ?_ fun f5 => ?_)
 ·cases h4 : (decide (kd < 1)) with
  | false =>
   replace h4 := df h4
   refine JLq (pp b1 0) (YR rfl rfl) <| JLr (Zd ty3 rfl (At.bx 0 rfl) rfl <| JLn (Pu.gtr rfl rfl) ?_)
   exact Zb ⟨⟨rfl, trivial⟩, rfl⟩
  | true =>
   exact Zy rfl ⟨rfl, trivial⟩
 refine JLn (Pu.pickOr rfl rfl rfl) <| JLM rfl <| Zv 3 [26, 27, 28] [(28, cond ((decide (kd < 1)) || (decide (63 < kd))) undef (.bool (decide (nm < 0))))] ?_ fun f7 => ?_
 ·cases h6 : ((decide (kd < 1)) || (decide (63 < kd))) with
  | false =>
   obtain ⟨h6a, h6b⟩ := orF h6
   replace h6a := df h6a
   replace h6b := df h6b
   refine JLq (pp b1 1) (XB rfl rfl) <| JLr (Zd ty3 rfl (At.bx 0 rfl) rfl <| JLn (Pu.lss rfl rfl) ?_)
   exact Zb ⟨⟨rfl, trivial⟩, rfl⟩
  | true =>
   exact Zy rfl ⟨rfl, trivial⟩
 refine JLn (Pu.pickOr rfl rfl rfl) <| JLM rfl <| Zv 3 [31, 32, 33] [(33, cond (((decide (kd < 1)) || (decide (63 < kd))) || (decide (nm < 0))) undef (.bool (decide (1099511627776 < nm))))] ?_ fun f9 => ?_
 ·cases h8 : (((decide (kd < 1)) || (decide (63 < kd))) || (decide (nm < 0))) with
  | false =>
   obtain ⟨h8a, h8b⟩ := orF h8
   obtain ⟨h8aa, h8ab⟩ := orF h8a
   replace h8aa := df h8aa
   replace h8ab := df h8ab
   replace h8b := df h8b
   refine JLq (pp b1 1) (XB rfl rfl) <| JLr (Zd ty3 rfl (At.bx 0 rfl) rfl <| JLn (Pu.gtr rfl rfl) ?_)
   exact Zb ⟨⟨rfl, trivial⟩, rfl⟩
  | true =>
   exact Zy rfl ⟨rfl, trivial⟩
 refine JLn (Pu.pickOr rfl rfl rfl) <| Zb <| Zg rfl (fun h10 => ?_) (fun h10 => ?_)
 ·exfalso; first | omega | (have z := h10; simp at z; omega)
 obtain ⟨h10a, h10b⟩ := orF h10
 obtain ⟨h10aa, h10ab⟩ := orF h10a
 obtain ⟨h10aaa, h10aab⟩ := orF h10aa
 replace h10aaa := df h10aaa
 replace h10aab := df h10aab
 replace h10ab := df h10ab
 replace h10b := df h10b
 refine Zj <| Zc <| Zc <| Za <| JLq (pp b1 2) (YB rfl rfl) <| JLr (Zd ty9 rfl (At.bx 0 rfl) rfl <| JLn (Pu.lenS Tryz.runUnderlying9 rfl) <| JLn (Pu.gtr rfl rfl) <| Zb <| Zg rfl (fun h11 => ?_) (fun h11 => ?_))
 ·replace h11 := dt h11
  exfalso; first | omega | (have z := h11; simp at z; omega)
 replace h11 := df h11
 refine Zj <| Zc <| Za <| JLM rfl <| JLn (Pu.add64 rfl rfl (by first | omega | (constructor <;> omega))) <| JLA rfl <| Zb <| Zc <| Zc <| Za <| JLq (pp b1 3) (ZP rfl rfl) <| JLr (Zd Yw rfl (At.bx 0 rfl) rfl ?_)
 obtain ⟨a12, cap12, hv12⟩ := hks.sl
 have hle12 := hks.le
 refine JLn (Pu.lenSl Tryz.runUnderlying37 hv12) <| JLM rfl <| Zb <| Zn <| ZB (fun k ρ M => ∃ (j : Nat) (nn : Int), ρ 1 = iv nn ∧ ρ 2 = iv lv ∧ ρ 3 = pp b1 0 ∧ ρ 6 = iv 0 ∧ ρ 7 = iv 0 ∧ ρ 45 = iv ((kids.length : Int)) ∧ ρ 46 = iv ((j : Int)) ∧ Sub [(BX b1 [iv kd, iv nm, .string tx, kv] 39)] M ∧ j ≤ kids.length ∧ nn + Z2 (kids.drop j) = n + 1 + Z2 kids ∧ 0 ≤ nn ∧ k = kids.length - j) _ ⟨0, n + 1, rfl, rfl, rfl, rfl, rfl, rfl, rfl, (Sk Sub.nil), Nat.zero_le _, (by simp), (by omega), rfl⟩ ?_
 rintro _ ρ13 _ ⟨j, nn, e14, e15, e16, e17, e18, e19, e20, hm21, hj, hnn, hn1, rfl⟩
 obtain ⟨ρ22, rfl⟩ := Zr (uc e14 (uc e15 (uc e16 (uc e17 (uc e18 (uc e19 (uc e20 un)))))))
 clear e14 e15 e16 e17 e18 e19 e20
 refine ZG hm21 ?_
 have hlen := hks.le
 refine Zc <| Za <| JLn (Pu.lss rfl rfl) <| Zb <| Zc <| Zg rfl (fun h23 => ?_) (fun h23 => ?_)
 ·replace h23 := dt h23
  have h23n : j < kids.length := by omega
  have hs1 := Xl (List.getElem_mem h23n)
  have hs2 := szIs_drop h23n
  have hd1 := dpIs_mem (List.getElem_mem h23n)
  have hgj := gdIs_mem hg.2.2.2 _ (List.getElem_mem h23n)
  refine Zj <| Zc <| Zn <| Zc <| Za <| JLM rfl <| JLA rfl <| Zb <| Zc <| Za <| JLq (pp b1 3) (ZP rfl rfl) <| JLr (Zd Yw rfl (At.bx 0 rfl) rfl <| JLM rfl ?_)
  obtain ⟨b24, o24, cap24, row24, T24, fr24, cs24, hv24, hb24, hs24, hE24⟩ := hks.get j (by first | assumption | omega | decide | simp)
  obtain ⟨ki24, rfl, hik24, hin24, hks24⟩ := Yb hE24
  refine JLq (pp b24 (o24 + j * 4)) (Pu.idx j Tryz.runUnderlying37 ZM hv24 rfl rfl (by first | assumption | omega | decide | simp)) <| JLr (Zh ZM rfl (At.im hb24) hs24 <| JLM rfl <| JLM rfl <| JLn (Pu.add64 rfl rfl (by first | omega | (constructor <;> omega))) <| Jc Tryz.call151 rfl (fun hin => ih _ (List.getElem_mem h23n) _ _ _ _ (RIt.mono (Hle.hu _ _) (Yi hik24 hin24 hks24)) hgj (by omega) (by omega) (by omega) (by omega)) rfl ?_)
  rintro _ _ ⟨rfl, rfl⟩
  refine JLM rfl <| JLn (Pu.extract rfl rfl) <| JLn (Pu.extract rfl rfl) <| JLA rfl <| JLA rfl <| Zb <| Zc <| Zc <| Za <| JLM rfl <| JLq (.bool false) (show Pu _ _ _ (.bool (!decide ((0 : Int) = 0))) from Pu.neq rfl rfl) <| Zb <| Zg (b := false) rfl (fun h => absurd h (by simp)) (fun _ => ?_)
  refine Zj <| Za <| JLM rfl <| JLA rfl <| Zb <| Za <| JLn (Pu.inc rfl rfl (by omega)) <| JLM rfl <| Zb <| ⟨_, ?_, (j + 1), (nn + (szI (kids[j]) : Int)), rfl, rfl, rfl, rfl, rfl, rfl, rfl, (Sk Sub.nil), ?_, ?_, ?_, rfl⟩
  ·omega
  ·omega
  ·omega
  omega
 replace h23 := df h23
 have h23n : kids.length ≤ j := by omega
 refine Zz _ rfl <| Zc <| Za <| JLM rfl <| JLA rfl <| JLA rfl <| Zb <| Zl <| ⟨.tuple ⟨[iv nn, iv 0]⟩, [], Ret.two rfl (RV.tmp rfl) (RV.tmp rfl), Sub.nil, ?_⟩
 rw [YL h23n, Z2] at hnn
 exact ⟨by rw [szI, show (n + ((1 + Z2 kids : Nat) : Int)) = nn from by omega], rfl⟩
theorem checkI_ct (x : It) (cs : List Value) (H : Heap) (ht : RIt H cs x) (hg : gdI x) (hz : szI x ≤ 1000) (hd : dpI x ≤ 200) : CT Tryz.prog 125 ⟨[.agg ⟨cs⟩]⟩ [] H (fun v N => v = iv 0 ∧ N = []) := by
 refine Zm Tryz.func125 rfl rfl <| Zc <| Za <| JLr (Zq (l := cs) rfl rfl fun b1 => JLA rfl <| Zb <| Zc <| Za <| JLr (Zh ZM rfl (At.bx 0 rfl) (Zs (YE ht)) <| Jc Tryz.call151 rfl (fun hin => checked_ct _ _ _ _ _ (RIt.mono (Hle.hu _ _) ht) hg (by omega) (by omega) (by omega) (by omega)) rfl ?_))
 rintro _ _ ⟨rfl, rfl⟩
 refine JLM rfl <| JLn (Pu.extract rfl rfl) <| JLn (Pu.extract rfl rfl) <| JLA rfl <| JLA rfl <| Zb <| Zc <| Za <| JLM rfl <| JLA rfl <| Zb <| Zl <| ⟨iv 0, [], Ret.one rfl (RV.tmp rfl), Sub.nil, ?_⟩
 exact ⟨rfl, rfl⟩
end Go.Proofs.YtkjafeejpmcnkaaGreat.Hs
/-! Walks, printed by a program of this session's own (gen.py). -/
namespace Go.Proofs.YtkjafeejpmcnkaaGreat.Hs
open Go Go.Proofs
set_option maxRecDepth 100000
set_option linter.unusedVariables false
set_option linter.unusedSimpArgs false
attribute [local irreducible] JL J CT wlo DT
set_option maxHeartbeats 2000000 in
theorem joinI_ct (x : It) (v : Value) (H : Heap) (hv : Hs.rdS RIt 4 H v [x]) (hg : gdI x) (hz : szI x ≤ 1000) (hd : dpI x ≤ 200) (he : (Xe x).length ≤ 65536) : CT Tryz.prog 89 ⟨[v]⟩ [] H (fun r N => ∃ u k, r = .tuple ⟨[u, iv 0]⟩ ∧ N = [k] ∧ Own 5 1 u (Yd (Xe x)) k) := by
 refine Zm Tryz.func89 rfl rfl <| Zc <| Za <| JLA rfl <| JLA rfl <| Zb <| Zc <| Zc <| Za <| JLm v ?_
 obtain ⟨a1, cap1, hv1⟩ := hv.sl
 have hle1 := hv.le
 refine JLn (Pu.lenSl Tryz.runUnderlying37 hv1) <| JLM rfl <| Zb <| Zn <| Yu 2 <| Z0 <| Zc <| Za <| JLq (.bool true) (show Pu _ _ _ (.bool (decide ((0 : Int) < 1))) from Pu.lss rfl rfl) <| Zb <| Zc <| Zg (b := true) rfl (fun _ => ?_) (fun h => absurd h (by simp))
 refine Zj <| Zc <| Zn <| Zc <| Za <| JLM rfl <| JLA rfl <| Zb <| Zc <| Za <| JLm v <| JLM rfl ?_
 obtain ⟨b2, o2, cap2, row2, T2, fr2, cs2, hv2, hb2, hs2, hE2⟩ := hv.get 0 (by first | assumption | omega | decide | simp)
 obtain ⟨ki2, rfl, hik2, hin2, hks2⟩ := Yb hE2
 refine JLq (pp b2 (o2 + 0 * 4)) (Pu.idx 0 Tryz.runUnderlying37 ZM hv2 rfl rfl (by first | assumption | omega | decide | simp)) <| JLr (Zh ZM rfl (At.im hb2) hs2 <| Jc Tryz.call125 rfl (fun hin => checkI_ct _ _ _ (RIt.mono (Hle.hu _ _) (Yi hik2 hin2 hks2)) hg hz hd) rfl ?_)
 rintro _ _ ⟨rfl, rfl⟩
 refine JLA rfl <| Zb <| Zc <| Za <| JLM rfl <| JLq (.bool false) (show Pu _ _ _ (.bool (!decide ((0 : Int) = 0))) from Pu.neq rfl rfl) <| Zb <| Zg (b := false) rfl (fun h => absurd h (by simp)) (fun _ => Zj <| Za <| JLq (iv 1) (Pu.arith rfl rfl rfl) <| JLM rfl <| Zb ?_)
 refine Z0 <| Zc <| Za <| JLq (.bool false) (show Pu _ _ _ (.bool (decide ((1 : Int) < 1))) from Pu.lss rfl rfl) <| Zb <| Zc <| Zg (b := false) rfl (fun h => absurd h (by simp)) (fun _ => Zz _ rfl <| Zc <| Za <| JLA rfl <| Zb <| Zc ?_)
 refine Zc <| Za <| JLm v ?_
 obtain ⟨a3, cap3, hv3⟩ := hv.sl
 have hle3 := hv.le
 refine JLn (Pu.lenSl Tryz.runUnderlying37 hv3) <| JLM rfl <| Zb <| Zn <| Yu 2 <| Z0 <| Zc <| Za <| JLq (.bool true) (show Pu _ _ _ (.bool (decide ((0 : Int) < 1))) from Pu.lss rfl rfl) <| Zb <| Zc <| Zg (b := true) rfl (fun _ => ?_) (fun h => absurd h (by simp))
 refine Zj <| Zc <| Zn <| Zc <| Za <| JLM rfl <| JLA rfl <| Zb <| Zc <| Za <| JLM rfl <| JLm v <| JLM rfl ?_
 obtain ⟨b4, o4, cap4, row4, T4, fr4, cs4, hv4, hb4, hs4, hE4⟩ := hv.get 0 (by first | assumption | omega | decide | simp)
 obtain ⟨ki4, rfl, hik4, hin4, hks4⟩ := Yb hE4
 refine JLq (pp b4 (o4 + 0 * 4)) (Pu.idx 0 Tryz.runUnderlying37 ZM hv4 rfl rfl (by first | assumption | omega | decide | simp)) <| JLr (Zh ZM rfl (At.im hb4) hs4 <| JL_sub (M' := [[]]) (Sub.emp Sub.refl) <| ZA 0 rfl Tryz.call126 rfl rfl (fun hin => written_ct _ [] _ _ _ _ (RIt.mono (Hle.hu _ _) (Yi hik4 hin4 hks4)) (show Own 5 1 _ (Yd []) [] from Own.nil) hg (by simp; omega)) rfl ?_)
 rintro v5 _ ⟨k5, rfl, ho5⟩
 refine JLa v5 <| Zb <| Zc <| Za <| JLm v5 ?_
 obtain ⟨a6, cap6, hv6⟩ := ho5.sl
 rw [Yh] at hv6
 refine JLn (Pu.lenSl Tryz.runUnderlying22 hv6) <| JLn (Pu.gtr rfl rfl) <| Zb <| Zg rfl (fun h7 => ?_) (fun h7 => ?_)
 ·replace h7 := dt h7
  exfalso; first | omega | (have z := h7; simp at z; omega)
 replace h7 := df h7
 refine Zj <| Za <| JLq (iv 1) (Pu.arith rfl rfl rfl) <| JLM rfl <| Zb <| Z0 <| Zc <| Za <| JLq (.bool false) (show Pu _ _ _ (.bool (decide ((1 : Int) < 1))) from Pu.lss rfl rfl) <| Zb <| Zc <| Zg (b := false) rfl (fun h => absurd h (by simp)) (fun _ => Zz _ rfl ?_)
 refine Zc <| Za <| JLm v5 <| JLa v5 <| JLA rfl <| Zb <| Zl <| ⟨.tuple ⟨[v5, iv 0]⟩, [k5], Ret.two rfl (RV.tmp rfl) (RV.tmp rfl), (Sk Sub.nil), ?_⟩
 exact ⟨_, _, rfl, rfl, ho5⟩
theorem encodeI_ct (x : It) (cs : List Value) (H : Heap) (ht : RIt H cs x) (hg : gdI x) (hz : szI x ≤ 1000) (hd : dpI x ≤ 200) (he : (Xe x).length ≤ 65536) : CT Tryz.prog 52 ⟨[.agg ⟨cs⟩]⟩ [] H (fun r N => ∃ u k, r = .tuple ⟨[u, iv 0]⟩ ∧ N = [k] ∧ Own 5 1 u (Yd (Xe x)) k) := by
 refine Zm Tryz.func52 rfl rfl <| Zc <| Za <| JLr (Zq (l := cs) rfl rfl fun b1 => JLA rfl <| JLA rfl <| Zb <| Zc <| Za <| JLr (Zh ZM rfl (At.bx 0 rfl) (Zs (YE ht)) <| JLr (Zp (vs := [.agg ⟨cs⟩]) [cs] Tryz.runUnderlying37 el39 rfl rfl (by intro e he; simp only [List.mem_cons, List.not_mem_nil, or_false] at he; subst he; exact (YE ht)) rfl (by decide) fun b2 k2 ho2 hk2 => Jc Tryz.call89 rfl (fun hin => joinI_ct x _ _ (Own.rdI1 ho2 (hin 0 _ rfl) (RIt.mono (Hle.hu _ _) ht)) hg hz hd he) rfl ?_)))
 rintro _ _ ⟨u3, k3, rfl, rfl, ho3⟩
 refine JLn (Pu.extract rfl rfl) <| JLn (Pu.extract rfl rfl) <| JLa u3 <| JLA rfl <| Zb <| Zl <| ⟨.tuple ⟨[u3, iv 0]⟩, [k3], Ret.two rfl (RV.tmp rfl) (RV.tmp rfl), (Sk Sub.nil), ?_⟩
 exact ⟨_, _, rfl, rfl, ho3⟩
end Go.Proofs.YtkjafeejpmcnkaaGreat.Hs
/-! Walks, printed by a program of this session's own (gen.py). -/
namespace Go.Proofs.YtkjafeejpmcnkaaGreat.Hs
open Go Go.Proofs
set_option maxRecDepth 100000
set_option linter.unusedVariables false
set_option linter.unusedSimpArgs false
attribute [local irreducible] JL J CT wlo DT
theorem encodeT_ct (t : Tm) (cs : List Value) (H : Heap) (ht : RT H cs t) (hck : ZX 60 8 t = 0) : CT Tryz.prog 16 ⟨[.agg ⟨cs⟩]⟩ [] H (fun r N => ∃ k, N = [k] ∧ Own 5 1 r (Yd (Xe (itT t))) k) := by
 have hrg := right_gd hck
 have hsz := (checkR_ok hck).1
 refine Zm Tryz.func16 rfl rfl <| Zc <| Za <| JLr (Zq (l := cs) rfl rfl fun b1 => JLA rfl <| Zb <| Zc <| Za <| JLr (Zh Zt rfl (At.bx 0 rfl) (Zs (Zu ht)) <| Jc Tryz.call15 rfl (fun hin => tItemR_ct _ _ _ (RT.mono (Hle.hu _ _) ht) (by omega) hrg.1) rfl ?_))
 rintro _ _ ⟨cs2, k2, rfl, rfl, hO2⟩
 refine Jc Tryz.call52 rfl (fun hin => encodeI_ct _ _ _ (hO2.rd (hin 0 _ rfl)) hrg.1 (by omega) (by omega) (by omega)) rfl ?_
 rintro _ _ ⟨u3, k3, rfl, rfl, ho3⟩
 refine JLM rfl <| JLn (Pu.extract rfl rfl) <| JLn (Pu.extract rfl rfl) <| JLa u3 <| JLA rfl <| Zb <| Zc <| Za <| JLm u3 <| JLa u3 <| Zb <| Zl <| ⟨u3, [k3], Ret.one rfl (RV.tmp rfl), (Sk Sub.nil), ?_⟩
 exact ⟨_, rfl, ho3⟩
end Go.Proofs.YtkjafeejpmcnkaaGreat.Hs
/-! Walks, printed by a program of this session's own (gen.py). -/
namespace Go.Proofs.YtkjafeejpmcnkaaGreat.Hs
open Go Go.Proofs
set_option maxRecDepth 100000
set_option linter.unusedVariables false
set_option linter.unusedSimpArgs false
attribute [local irreducible] JL J CT wlo DT
theorem shortB_ct (aS : _) (n cap : Nat) (H : Heap) (hn : n ≤ 65536) : CT Tryz.prog 96 ⟨[.slice aS n cap]⟩ [] H (fun v N => v = .tuple ⟨[.slice aS n cap, iv 0]⟩ ∧ N = []) := by
 refine Zm Tryz.func96 rfl rfl <| Zc <| Za <| JLA rfl <| JLA rfl <| Zb <| Zc <| Za <| JLA rfl <| Zb <| Zc <| Zc <| Za ?_
 refine JLM rfl <| JLn (Pu.lenSl Tryz.runUnderlying22 rfl) <| JLn (Pu.gtr rfl rfl) <| Zb <| Zg rfl (fun h1 => ?_) (fun h1 => ?_)
 ·replace h1 := dt h1
  exfalso; omega
 replace h1 := df h1
 refine Zj <| Zc <| Za <| JLM rfl <| JLA rfl <| JLA rfl <| Zb <| Zl <| ⟨.tuple ⟨[.slice aS n cap, iv 0]⟩, [], Ret.two rfl (RV.tmp rfl) (RV.tmp rfl), Sub.nil, ?_⟩
 exact ⟨rfl, rfl⟩
theorem within_ct (cs : List Value) (H : Heap) (hl : cs.length = 4) : CT Tryz.prog 127 ⟨[.agg ⟨cs⟩]⟩ [] H (fun v N => ∃ b, v = .func (.func 153) ⟨[]⟩ ⟨[pp b 0]⟩ ∧ N = [(BX b cs 39)]) := by
 refine Zm Tryz.func127 rfl rfl <| Zc <| Za <| JLr (Zq (l := cs) rfl rfl fun b1 => JLa .nilFunc <| Zb <| Zc <| Za <| JLq (.func (.func 153) ⟨[]⟩ ⟨[pp b1 0]⟩) (Pu.makeFunc rfl rfl) <| JLA rfl <| Zb <| Zl <| ⟨.func (.func 153) ⟨[]⟩ ⟨[pp b1 0]⟩, [(BX b1 cs 39)], Ret.one rfl (RV.tmp rfl), (Sk Sub.nil), ?_⟩)
 exact ⟨_, rfl, rfl⟩
set_option maxHeartbeats 2000000 in
theorem walkW_ct : ∀ (l : Nat) (yc : Int → Zi) (bY bW : Nat) (x : It) (lv n : Int) (cs : List Value) (H : Heap), RIt H cs x → gdI x → 1 ≤ lv → lv + dpI x ≤ 251 → 0 ≤ n → n + szI x ≤ 5000 → H bY = some (.cells ⟨[.func (.yield l) ⟨[]⟩ ⟨[]⟩]⟩ 210 (0, 0)) → H bW = some (.cells ⟨[.func (.func 154) ⟨[]⟩ ⟨[pp bY 0, pp bW 0]⟩]⟩ 210 (0, 0)) → (∀ (y : It) (lv n : Int) (a : List Value) (h : Heap), gdI y → 1 ≤ lv → lv ≤ 250 → 0 ≤ n → n + 1 ≤ 5000 → Hle H h → RIt h a y → YT Tryz.prog l ⟨[iv lv, .agg ⟨a⟩]⟩ [yc n] h (fun v N => v = .bool true ∧ N = [yc (n + 1)])) → CT Tryz.prog 154 ⟨[iv lv, .agg ⟨cs⟩, pp bY 0, pp bW 0]⟩ [yc n] H (fun v N => v = .bool true ∧ N = [yc (n + szI x)]) := by
 intro l yc bY bW x
 induction x using It.ind with
 | h kd nm tx kids ih =>
 intro lv n cs H ht hgd hl0 hlv hn0 hnz hHY hHW hy
 obtain ⟨kv, rfl, hk, hm, hks⟩ := RIt_mk.1 ht
 have hg := hgd
 rw [gdI] at hg
 rw [szI] at hnz
 rw [dpI] at hlv
 have hle := hks.le
 have hdn := dpIs_nn kids
 refine Zm Tryz.func154 rfl rfl <| Zc <| Za <| JLr (Zq (l := [iv kd, iv nm, .string tx, kv]) rfl rfl fun b1 => JLA rfl <| Zb <| Zc <| Zc <| Za <| JLr (Zd ty210 rfl (At.im hHY) rfl <| JLM rfl <| JLr (Zh ZM rfl (At.bx 0 rfl) rfl <| JL_yield1 1 rfl rfl rfl (fun hin => hy _ _ _ _ _ hgd (by omega) (by omega) (by omega) (by omega) (Hle.hu _ _) (RIt.mono (Hle.hu _ _) (RIt_mk.2 ⟨kv, rfl, hk, hm, hks⟩))) rfl ?_)))
 rintro _ _ ⟨rfl, rfl⟩
 refine JLq (.bool false) (show Pu _ _ _ (.bool (!true)) from Pu.not rfl) <| Zb <| Zg (b := false) rfl (fun h => absurd h (by simp)) (fun _ => Zj <| Zc <| Zc <| Za <| JLq (pp b1 3) (ZP rfl rfl) <| JLr (Zd Yw rfl (At.bx 1 rfl) rfl ?_))
 obtain ⟨a2, cap2, hv2⟩ := hks.sl
 have hle2 := hks.le
 refine JLn (Pu.lenSl Tryz.runUnderlying37 hv2) <| JLM rfl <| Zb <| Zn <| ZB (fun k ρ M => ∃ (j : Nat) (nn : Int), ρ 0 = iv lv ∧ ρ 3 = pp bW 0 ∧ ρ 6 = .bool false ∧ ρ 15 = kv ∧ ρ 16 = iv ((kids.length : Int)) ∧ ρ 17 = iv ((j : Int)) ∧ Sub [yc nn] M ∧ j ≤ kids.length ∧ nn + Z2 (kids.drop j) = n + 1 + Z2 kids ∧ 0 ≤ nn ∧ k = kids.length - j) _ ⟨0, n + 1, rfl, rfl, rfl, rfl, rfl, rfl, (Sk Sub.nil), Nat.zero_le _, (by simp), (by omega), rfl⟩ ?_
 rintro _ ρ3 _ ⟨j, nn, e4, e5, e6, e7, e8, e9, hm10, hj, hnn, hn1, rfl⟩
 obtain ⟨ρ11, rfl⟩ := Zr (uc e4 (uc e5 (uc e6 (uc e7 (uc e8 (uc e9 un))))))
 clear e4 e5 e6 e7 e8 e9
 refine ZG hm10 ?_
 have hlen := hks.le
 refine Zc <| Za <| JLn (Pu.lss rfl rfl) <| Zb <| Zc <| Zg rfl (fun h12 => ?_) (fun h12 => ?_)
 ·replace h12 := dt h12
  have h12n : j < kids.length := by omega
  have hs1 := Xl (List.getElem_mem h12n)
  have hs2 := szIs_drop h12n
  have hd1 := dpIs_mem (List.getElem_mem h12n)
  have hgj := gdIs_mem hg.2.2.2 _ (List.getElem_mem h12n)
  refine Zj <| Zc <| Zn <| Zc <| Za ?_
  obtain ⟨b13, o13, cap13, row13, T13, fr13, cs13, hv13, hb13, hs13, hE13⟩ := hks.get j (by first | assumption | omega | decide | simp)
  obtain ⟨ki13, rfl, hik13, hin13, hks13⟩ := Yb hE13
  refine JLq (pp b13 (o13 + j * 4)) (Pu.idx j Tryz.runUnderlying37 ZM hv13 rfl rfl (by first | assumption | omega | decide | simp)) <| JLr (Zh ZM rfl (At.im hb13) hs13 <| JLr (Zk (l := [iv 0, iv 0, .string (⟨#[]⟩), nS]) Tryz.zeroValue39 rfl fun b14 => JLr (Ze 0 (vs := [iv ((kids[j]).kind), iv ((kids[j]).num), .string ((kids[j]).text), ki13]) (l := [iv ((kids[j]).kind), iv ((kids[j]).num), .string ((kids[j]).text), ki13]) ZM rfl rfl rfl rfl rfl (Zf rfl (Zf rfl (Zf rfl (Zf hks13.one Zo)))) rfl <| Zb <| Zc <| Za <| JLr (Zd ty210 rfl (At.im hHW) rfl <| JLM rfl <| JLn (Pu.add64 rfl rfl (by first | omega | (constructor <;> omega))) <| JLr (Zh ZM rfl (At.bx 0 rfl) rfl <| ZA 1 rfl Tryz.call154 rfl rfl (fun hin => ih _ (List.getElem_mem h12n) _ _ _ _ (RIt.mono (Hle.hu _ _) (Yi hik13 hin13 hks13)) hgj (by omega) (by omega) (by omega) (by omega) (Hle.hu _ _ _ _ hHY) (Hle.hu _ _ _ _ hHW) (fun y lv n a h k1 k1b k2 k3 k4 hh => hy y lv n a h k1 k1b k2 k3 k4 (Hle.trans (Hle.hu _ _) hh))) rfl ?_)))))
  rintro _ _ ⟨rfl, rfl⟩
  refine JLq (.bool false) (show Pu _ _ _ (.bool (!true)) from Pu.not rfl) <| Zb <| Zg (b := false) rfl (fun h => absurd h (by simp)) (fun _ => Zj <| Za <| JLn (Pu.inc rfl rfl (by omega)) <| JLM rfl <| Zb <| ⟨_, ?_, (j + 1), (nn + (szI (kids[j]) : Int)), rfl, rfl, rfl, rfl, rfl, rfl, (Sk Sub.nil), ?_, ?_, ?_, rfl⟩)
  ·omega
  ·omega
  ·omega
  omega
 replace h12 := df h12
 have h12n : kids.length ≤ j := by omega
 refine Zz _ rfl <| Zc <| Za <| JLA rfl <| Zb <| Zl <| ⟨.bool true, [yc nn], Ret.one rfl (RV.tmp rfl), (Sk Sub.nil), ?_⟩
 rw [YL h12n, Z2] at hnn
 exact ⟨rfl, by rw [szI, show (n + ((1 + Z2 kids : Nat) : Int)) = nn from by omega]⟩
theorem within1_ct (l : Nat) (yc : Int → Zi) (x : It) (cs : List Value) (H : Heap) (bT : Nat) (hx : RIt H cs x) (hT : H bT = some (.cells ⟨cs⟩ 39 (0, 0))) (hg : gdI x) (hd : dpI x ≤ 250) (hz : szI x ≤ 5000) (hy : ∀ (y : It) (lv n : Int) (a : List Value) (h : Heap), gdI y → 1 ≤ lv → lv ≤ 250 → 0 ≤ n → n + 1 ≤ 5000 → Hle H h → RIt h a y → YT Tryz.prog l ⟨[iv lv, .agg ⟨a⟩]⟩ [yc n] h (fun v N => v = .bool true ∧ N = [yc (n + 1)])) : CT Tryz.prog 153 ⟨[.func (.yield l) ⟨[]⟩ ⟨[]⟩, pp bT 0]⟩ [yc 0] H (fun _ N => N = [yc (szI x)]) := by
 refine Zm Tryz.func153 rfl rfl <| Zc <| Za <| JLr (Zq (l := [.func (.yield l) ⟨[]⟩ ⟨[]⟩]) rfl rfl fun b1 => Zb <| Zc <| Za <| JLr (Zk (l := [.nilFunc]) Tryz.zeroValue210 rfl fun b2 => Zb <| Zc <| Za <| JLq (.func (.func 154) ⟨[]⟩ ⟨[pp b1 0, pp b2 0]⟩) (Pu.makeFunc rfl rfl) <| JLr (Ze 0 (vs := [.func (.func 154) ⟨[]⟩ ⟨[pp b1 0, pp b2 0]⟩]) (l := [.func (.func 154) ⟨[]⟩ ⟨[pp b1 0, pp b2 0]⟩]) ty210 rfl rfl rfl rfl rfl (Zf rfl Zo) rfl ?_)))
 refine Zb <| Za <| JLr (Zd ty210 rfl (At.bx 0 rfl) rfl <| JLr (Zh ZM rfl (At.im hT) (Zs (YE hx)) <| ZA 2 rfl Tryz.call154 rfl rfl (fun hin => walkW_ct l yc _ _ _ _ _ _ _ (RIt.mono (Hle.hu _ _) hx) hg (by decide) (by omega) (by decide) (by omega) (hin 1 _ rfl _ _ List.mem_cons_self) (hin 0 _ rfl _ _ List.mem_cons_self) (fun y lv n a h k1 k1b k2 k3 k4 hh => hy y lv n a h k1 k1b k2 k3 k4 (Hle.trans (Hle.hu _ _) hh))) rfl ?_))
 rintro _ _ ⟨rfl, rfl⟩
 refine Zb <| ⟨.tuple ⟨[]⟩, [yc (0 + (szI x : Int))], Ret.none rfl, (Sk Sub.nil), ?_⟩
 show _ = _; rw [Int.zero_add]
end Go.Proofs.YtkjafeejpmcnkaaGreat.Hs
/-! Walks, printed by a program of this session's own (gen.py). -/
namespace Go.Proofs.YtkjafeejpmcnkaaGreat.Hs
open Go Go.Proofs
set_option maxRecDepth 100000
set_option linter.unusedVariables false
set_option linter.unusedSimpArgs false
attribute [local irreducible] JL J CT wlo DT
theorem numP_ct (n : Nat) (H : Heap) (hn : n ≤ 1099511627776) : CT Tryz.prog 129 ⟨[iv ((n : Int))]⟩ [] H (fun r N => ∃ k, N = [k] ∧ Own 5 1 r (Yd (Yo n)) k) := by
 obtain ⟨l, hl0⟩ : ∃ l : List Int, l = [] := ⟨_, rfl⟩
 refine Zm Tryz.func129 rfl rfl <| Zc <| Za <| JLA rfl <| Zb <| Zc <| Za <| JLA rfl <| Zb <| Zc <| Zn <| ZB (fun k ρ M => ∃ (m : Nat) (p : List Int) (y : Value) (q1 : Zi), ρ 0 = iv ((m : Int)) ∧ ρ 2 = nS ∧ ρ 3 = y ∧ Sub [q1] M ∧ Own 5 1 y (Yd p) q1 ∧ p ++ Yo m = l ++ Yo n ∧ m ≤ n ∧ k = 2 * m + 1) _ ⟨n, [], nS, [], rfl, rfl, rfl, (Sub.emp Sub.nil), (by simpa [Yd] using Own.nil), (by rw [hl0]), (Nat.le_refl _), rfl⟩ ?_
 rintro _ ρ1 _ ⟨m, p, y, q1, e2, e3, e4, hm5, hown, hinv, hmn, rfl⟩
 obtain ⟨ρ6, rfl⟩ := Zr (uc e2 (uc e3 (uc e4 un)))
 clear e2 e3 e4
 refine ZG hm5 <| Zc <| Zc <| Za <| JLM rfl <| JLn (Pu.gtr rfl rfl) <| Zb <| Zg rfl (fun h7 => ?_) (fun h7 => ?_)
 ·replace h7 := dt h7
  refine Zj <| Zc <| Zn ?_
  have hpl : p.length + (Yo m).length = (Yo n).length := by rw [← List.length_append, hinv, hl0]; rfl
  have hn6 := numE_6 (n := n) (by omega)
  refine Za <| JLm y <| JLM rfl <| JLq (iv (((m % 128 : Nat) : Int))) (Pu.bits rfl rfl (and7n (by omega))) <| JLq (iv (((m % 128 + 128 : Nat) : Int))) (Pu.bor rfl rfl (or7n (by omega))) <| JLq (.int .u8 (((m % 128 + 128 : Nat) : Int))) (Pu.conv Tryz.runUnderlying3 Tryz.runUnderlying5 rfl (w8b (by omega))) <| JLr (Zp (vs := [.int .u8 (((m % 128 + 128 : Nat) : Int))]) [[.int .u8 (((m % 128 + 128 : Nat) : Int))]] Tryz.runUnderlying22 el5 rfl rfl (by intro e he; simp only [List.mem_cons, List.not_mem_nil, or_false] at he; subst he; exact rfl) rfl (by decide) fun b8 k8 ho8 hk8 => ?_)
  have hlens9 : ∀ e ∈ ([[.int .u8 (((m % 128 + 128 : Nat) : Int))]] : List (List Value)), List.length e = 1 := by
   intro e he; simp only [List.mem_cons, List.not_mem_nil, or_false] at he
   rcases he with rfl
   ·exact rfl
  have hoks9 : ∀ e ∈ ([[.int .u8 (((m % 128 + 128 : Nat) : Int))]] : List (List Value)), okc e := by
   intro e he; simp only [List.mem_cons, List.not_mem_nil, or_false] at he
   rcases he with rfl
   ·exact (Zf rfl Zo)
  refine JLr (Zx (i := 1) (n := 1) (es' := [[.int .u8 (((m % 128 + 128 : Nat) : Int))]]) Tryz.runUnderlying22 Tryz.runUnderlying22 (Or.inl rfl) el5 rfl rfl rfl hown (fun F w m => Src.row (((At.k 0 rfl (by rw [hk8]; exact List.mem_cons_self))).heap m) (Zs (Zw hlens9))) rfl hlens9 hoks9 (by decide) (by rw [Yh]; simp; omega) fun v9 k9 ho9 => ?_)
  rw [byts_one] at ho9
  refine JLa v9 <| Zb <| Za <| JLM rfl <| JLq (iv (((m / 128 : Nat) : Int))) (Pu.bshr rfl rfl (by decide) (shr7n m)) <| JLA rfl <| Zb <| ⟨_, ?_, (m / 128), (p ++ [((m % 128 + 128 : Nat) : Int)]), v9, k9, rfl, rfl, rfl, (Sd (Sk Sub.nil)), ?_, ?_, ?_, rfl⟩
  ·omega
  ·simpa using ho9
  ·rw [numE_ge (by omega)] at hinv; rw [← hinv]; simp
  omega
 replace h7 := df h7
 refine Zz _ rfl <| Zc ?_
 have hpl : p.length + (Yo m).length = (Yo n).length := by rw [← List.length_append, hinv, hl0]; rfl
 have hn6 := numE_6 (n := n) (by omega)
 refine Za <| JLm y <| JLM rfl <| JLq (.int .u8 ((m : Int))) (Pu.conv Tryz.runUnderlying3 Tryz.runUnderlying5 rfl (w8b (by omega))) <| JLr (Zp (vs := [.int .u8 ((m : Int))]) [[.int .u8 ((m : Int))]] Tryz.runUnderlying22 el5 rfl rfl (by intro e he; simp only [List.mem_cons, List.not_mem_nil, or_false] at he; subst he; exact rfl) rfl (by decide) fun b10 k10 ho10 hk10 => ?_)
 have hlens11 : ∀ e ∈ ([[.int .u8 ((m : Int))]] : List (List Value)), List.length e = 1 := by
  intro e he; simp only [List.mem_cons, List.not_mem_nil, or_false] at he
  rcases he with rfl
  ·exact rfl
 have hoks11 : ∀ e ∈ ([[.int .u8 ((m : Int))]] : List (List Value)), okc e := by
  intro e he; simp only [List.mem_cons, List.not_mem_nil, or_false] at he
  rcases he with rfl
  ·exact (Zf rfl Zo)
 refine JLr (Zx (i := 1) (n := 1) (es' := [[.int .u8 ((m : Int))]]) Tryz.runUnderlying22 Tryz.runUnderlying22 (Or.inl rfl) el5 rfl rfl rfl hown (fun F w m => Src.row (((At.k 0 rfl (by rw [hk10]; exact List.mem_cons_self))).heap m) (Zs (Zw hlens11))) rfl hlens11 hoks11 (by decide) (by rw [Yh]; simp; omega) fun v11 k11 ho11 => ?_)
 rw [byts_one] at ho11
 refine JLa v11 <| Zb <| Zl <| ⟨v11, [k11], Ret.one rfl (RV.tmp rfl), (Sd (Sk Sub.nil)), ?_⟩
 rw [numE_lt (by omega)] at hinv
 exact ⟨_, rfl, by rw [show Yo n = l ++ Yo n by rw [hl0]; rfl, ← hinv]; exact ho11⟩
theorem grow_ct (n : Nat) (H : Heap) (hn : n ≤ 1000000) : CT Tryz.prog 160 ⟨[nS, iv ((n : Int))]⟩ [] H (fun r N => ∃ k, N = [k] ∧ Own 5 1 r [] k) := by
 refine Zm Tryz.func160 rfl rfl <| Zc <| Za <| JLA rfl <| Zb <| Zc <| Zc <| Za <| JLM rfl <| JLn (Pu.lss rfl rfl) <| Zb <| Zg rfl (fun h1 => ?_) (fun h1 => ?_)
 ·replace h1 := dt h1
  have h1n : n < 0 := by omega
  exfalso; first | omega | (have z := h1; simp at z; omega)
 replace h1 := df h1
 have h1n : 0 ≤ n := by omega
 refine Zj <| Zc <| Zc <| Za <| JLM rfl <| JLM rfl <| JLq (iv 0) (Pu.capNil Tryz.runUnderlying22 rfl) <| JLM rfl <| JLn (Pu.lenSl Tryz.runUnderlying22 rfl) <| JLq (iv 0) (Pu.arithS rfl rfl rfl) <| JLq (iv ((n : Int))) (Pu.arithS rfl rfl ((congrArg IntKind.i64.wrap (Int.sub_zero _)).trans (w64 (by omega)))) <| JLA rfl <| Zb ?_
 refine Zc <| Za <| JLM rfl <| JLn (Pu.gtr rfl rfl) <| Zb <| Zg rfl (fun h2 => ?_) (fun h2 => ?_)
 ·replace h2 := dt h2
  refine Za <| JLM rfl <| JLM rfl <| JLq (iv 0) (Pu.capNil Tryz.runUnderlying22 rfl) <| JLq nS (Pu.sliceTo0 Tryz.runUnderlying22 Tryz.sizeOf5 rfl rfl) <| JLM rfl <| JLr (Runs_appendZ (n := n) Tryz.runUnderlying22 Tryz.runUnderlying3 el5 rfl rfl (by omega) (by decide) (by omega) fun bZ capZ Z hZ hcZ => JLM rfl <| JLn (Pu.lenSl Tryz.runUnderlying22 rfl) <| JLq (.slice (some ⟨bZ, 0, none⟩) 0 capZ) (Pu.sliceTo0 Tryz.runUnderlying22 Tryz.sizeOf5 rfl rfl) <| JLA rfl <| Zb <| Zc ?_)
  refine Za <| JLM rfl <| JLA rfl <| Zb <| Zl <| ⟨.slice (some ⟨bZ, 0, none⟩) 0 capZ, [(BX bZ Z 5)], Ret.one rfl (RV.tmp rfl), (Sk Sub.nil), ?_⟩
  exact ⟨_, rfl, by simp, .inr ⟨_, _, _, rfl, rfl, by simp; exact hZ, Nat.zero_le _⟩⟩
 replace h2 := df h2
 refine Zj <| Zc <| Za <| JLM rfl <| JLA rfl <| Zb <| Zl <| ⟨nS, [[]], Ret.one rfl (RV.tmp rfl), (Sub.emp Sub.nil), ?_⟩
 exact ⟨_, rfl, Own.nil⟩
end Go.Proofs.YtkjafeejpmcnkaaGreat.Hs
/-! Walks, printed by a program of this session's own (gen.py). -/
namespace Go.Proofs.YtkjafeejpmcnkaaGreat.Hs
open Go Go.Proofs
set_option maxRecDepth 100000
set_option linter.unusedVariables false
set_option linter.unusedSimpArgs false
attribute [local irreducible] JL J CT wlo DT
set_option maxHeartbeats 2000000 in
theorem concat_ct (ll : List (List Int)) (v : Value) (H : Heap) (hv : Hs.rdS RBB 1 H v ll) (hz : ll.flatten.length ≤ 1000000) : CT Tryz.prog 155 ⟨[v]⟩ [] H (fun r N => ∃ k, N = [k] ∧ Own 5 1 r (Yd ll.flatten) k) := by
 refine Zm Tryz.func155 rfl rfl <| Zc <| Za <| JLA rfl <| Zb <| Zc <| Za <| JLA rfl <| Zb <| Zc <| Zc <| Za <| JLm v ?_
 obtain ⟨a1, cap1, hv1⟩ := hv.sl
 have hle1 := hv.le
 refine JLn (Pu.lenSl Tryz.runUnderlying211 hv1) <| JLM rfl <| Zb <| Zn <| ZB (fun k ρ M => ∃ (j : Nat) (s : Int), ρ 0 = v ∧ ρ 2 = nS ∧ ρ 3 = iv s ∧ ρ 9 = v ∧ ρ 10 = iv ((ll.length : Int)) ∧ ρ 11 = iv ((j : Int)) ∧ Sub [] M ∧ j ≤ ll.length ∧ s = ((ll.take j).flatten.length : Int) ∧ k = ll.length - j) _ ⟨0, 0, rfl, rfl, rfl, rfl, rfl, rfl, Sub.nil, Nat.zero_le _, (by simp), rfl⟩ ?_
 rintro _ ρ2 _ ⟨j, s, e3, e4, e5, e6, e7, e8, hm9, hj, hs, rfl⟩
 obtain ⟨ρ10, rfl⟩ := Zr (uc e3 (uc e4 (uc e5 (uc e6 (uc e7 (uc e8 un))))))
 clear e3 e4 e5 e6 e7 e8
 refine ZG hm9 <| Zc <| Za <| JLn (Pu.lss rfl rfl) <| Zb <| Zc <| Zg rfl (fun h11 => ?_) (fun h11 => ?_)
 ·replace h11 := dt h11
  have h11n : j < ll.length := by omega
  have hfl := flat_le h11n
  have hlenl := hv.le
  refine Zj <| Zc <| Zn <| Zc <| Za ?_
  obtain ⟨b12, o12, cap12, row12, T12, fr12, cs12, hv12, hb12, hs12, hE12⟩ := hv.get j (by first | assumption | omega | decide | simp)
  obtain ⟨vb12, rfl, hvb12⟩ := hE12
  refine JLq (pp b12 (o12 + j * 1)) (Pu.idx j Tryz.runUnderlying211 ty22 hv12 rfl rfl (by first | assumption | omega | decide | simp)) <| JLr (Zd ty22 rfl (At.im hb12) (YX hs12) <| JLa vb12 <| Zb <| Zc <| Za <| JLM rfl <| JLm vb12 ?_)
  obtain ⟨a13, cap13, hv13⟩ := hvb12.sl
  have hle13 := hvb12.le
  refine JLn (Pu.lenSl Tryz.runUnderlying22 hv13) <| JLn (Pu.add64 rfl rfl (by first | omega | (constructor <;> omega))) <| JLA rfl <| Zb <| Zc <| Za <| JLM rfl <| JLn (Pu.lss rfl rfl) <| Zb <| Zg rfl (fun h14 => ?_) (fun h14 => ?_)
  ·replace h14 := dt h14
   exfalso; first | omega | (have z := h14; simp at z; omega)
  replace h14 := df h14
  refine Zj <| Za <| JLn (Pu.inc rfl rfl (by omega)) <| JLM rfl <| Zb <| ⟨_, ?_, (j + 1), (s + (((ll[j]).length : Int))), rfl, rfl, rfl, rfl, rfl, rfl, Sub.nil, ?_, ?_, rfl⟩
  ·omega
  ·omega
  rw [flat_snoc h11n, List.length_append]; omega
 replace h11 := df h11
 have h11n : ll.length ≤ j := by omega
 refine Zz _ rfl <| Zc ?_
 rw [List.take_of_length_le h11n] at hs
 obtain ⟨sn, rfl⟩ : ∃ sn : Nat, s = (sn : Int) := ⟨_, hs⟩
 refine Za <| JLM rfl <| Jc Tryz.call160 rfl (fun hin => grow_ct sn _ (by omega)) rfl ?_
 rintro v15 _ ⟨k15, rfl, ho15⟩
 refine JLa v15 <| Zb <| Zc <| Zc <| Za <| JLm v ?_
 obtain ⟨a16, cap16, hv16⟩ := hv.sl
 have hle16 := hv.le
 refine JLn (Pu.lenSl Tryz.runUnderlying211 hv16) <| JLM rfl <| Zb <| Zn <| ZB (fun k ρ M => ∃ (j : Nat) (y : Value) (q1 : Zi), ρ 2 = nS ∧ ρ 6 = y ∧ ρ 25 = v ∧ ρ 26 = iv ((ll.length : Int)) ∧ ρ 27 = iv ((j : Int)) ∧ Sub [q1] M ∧ j ≤ ll.length ∧ Own 5 1 y (Yd ((ll.take j).flatten)) q1 ∧ k = ll.length - j) _ ⟨0, v15, k15, rfl, rfl, rfl, rfl, rfl, (Sk Sub.nil), Nat.zero_le _, (by simpa using (show Own 5 1 v15 (Yd []) k15 from ho15)), rfl⟩ ?_
 rintro _ ρ17 _ ⟨j, y, q1, e18, e19, e20, e21, e22, hm23, hj, hown, rfl⟩
 obtain ⟨ρ24, rfl⟩ := Zr (uc e18 (uc e19 (uc e20 (uc e21 (uc e22 un)))))
 clear e18 e19 e20 e21 e22
 refine ZG hm23 <| Zc <| Za <| JLn (Pu.lss rfl rfl) <| Zb <| Zc <| Zg rfl (fun h25 => ?_) (fun h25 => ?_)
 ·replace h25 := dt h25
  have h25n : j < ll.length := by omega
  have hfl := flat_le h25n
  refine Zj <| Zc <| Zn <| Zc <| Za ?_
  obtain ⟨b26, o26, cap26, row26, T26, fr26, cs26, hv26, hb26, hs26, hE26⟩ := hv.get j (by first | assumption | omega | decide | simp)
  obtain ⟨vb26, rfl, hvb26⟩ := hE26
  refine JLq (pp b26 (o26 + j * 1)) (Pu.idx j Tryz.runUnderlying211 ty22 hv26 rfl rfl (by first | assumption | omega | decide | simp)) <| JLr (Zd ty22 rfl (At.im hb26) (YX hs26) <| JLa vb26 <| Zb <| Za <| JLm y <| JLm vb26 <| JLr (Zx (i := 0) (n := (ll[j]).length) (es' := Yd (ll[j])) Tryz.runUnderlying22 Tryz.runUnderlying22 (Or.inl rfl) el5 rfl rfl rfl hown (fun F w m => byts_src hvb26 w _ m) (Yh _) (byts_len1 _) (byts_ok _) (by decide) (by rw [Yh]; simp at *; omega) fun v27 k27 ho27 => ?_))
  rw [← byts_app] at ho27
  refine JLa v27 <| Zb <| Za <| JLn (Pu.inc rfl rfl (by omega)) <| JLM rfl <| Zb <| ⟨_, ?_, (j + 1), v27, k27, rfl, rfl, rfl, rfl, rfl, (Sk Sub.nil), ?_, ?_, rfl⟩
  ·omega
  ·omega
  rw [flat_snoc h25n]; exact ho27
 replace h25 := df h25
 have h25n : ll.length ≤ j := by omega
 refine Zz _ rfl <| Zc <| Za <| JLm y <| JLa y <| Zb <| Zl <| ⟨y, [q1], Ret.one rfl (RV.tmp rfl), (Sk Sub.nil), ?_⟩
 rw [List.take_of_length_le h25n] at hown
 exact ⟨_, rfl, hown⟩
theorem joinB_ct (ll : List (List Int)) (v : Value) (H : Heap) (hv : Hs.rdS RBB 1 H v ll) (hz : ll.flatten.length ≤ 1000000) : CT Tryz.prog 128 ⟨[v]⟩ [] H (fun r N => ∃ k, N = [k] ∧ Own 5 1 r (Yd ll.flatten) k) := by
 refine Zm Tryz.func128 rfl rfl <| Zc <| Za <| JLA rfl <| Zb <| Zc <| Za <| JLm v <| Jc Tryz.call155 rfl (fun hin => concat_ct _ _ _ (RBBs.mono (Hle.hu _ _) hv) hz) rfl ?_
 rintro v1 _ ⟨k1, rfl, ho1⟩
 refine JLa v1 <| Zb <| Zl <| ⟨v1, [k1], Ret.one rfl (RV.tmp rfl), (Sk Sub.nil), ?_⟩
 exact ⟨_, rfl, ho1⟩
end Go.Proofs.YtkjafeejpmcnkaaGreat.Hs
/-! Walks, printed by a program of this session's own (gen.py). -/
namespace Go.Proofs.YtkjafeejpmcnkaaGreat.Hs
open Go Go.Proofs
set_option maxRecDepth 100000
set_option linter.unusedVariables false
set_option linter.unusedSimpArgs false
attribute [local irreducible] JL J CT wlo DT
set_option maxHeartbeats 4000000 in
theorem encoded_ct : ∀ (x : It) (cs : List Value) (H : Heap), RIt H cs x → gdI x → (Xe x).length ≤ 1000000 → CT Tryz.prog 97 ⟨[.agg ⟨cs⟩]⟩ [] H (fun r N => ∃ k, N = [k] ∧ Own 5 1 r (Yd (Xe x)) k) := by
 intro x
 induction x using It.ind with
 | h kd nm tx kids ih =>
 intro cs H ht hg hz
 obtain ⟨kv, rfl, hk, hm, hks⟩ := RIt_mk.1 ht
 rw [gdI] at hg
 obtain ⟨nn, rfl⟩ := Int.eq_ofNat_of_zero_le hg.2.1.1
 have hle := hks.le
 have hn6 := numE_6 (n := nn) (by omega)
 have hs6 := numE_6 (n := tx.size) (by omega)
 have htl := txE_len hg.2.2.1
 have hsl := Y5 tx
 have hekl := encIs_lenk hg.2.2.2
 have hP : 1 + (Yo nn).length + (txE tx).length + (if kids.length = 0 then [] else Yo kids.length ++ Yq kids).length ≤ 1000000 := by rw [Xe] at hz; simp only [List.length_cons, List.length_append, Int.toNat_natCast] at hz; omega
 have hP2 : (Yq kids).length ≤ 1000000 := by
  by_cases h0 : kids.length = 0
  ·obtain rfl := List.eq_nil_of_length_eq_zero h0; simp [Yq]
  ·rw [if_neg h0, List.length_append] at hP; omega
 have hk6 := numE_6 (n := kids.length) (by omega)
 refine Zm Tryz.func97 rfl rfl <| Zc <| Za <| JLr (Zq (l := [iv kd, iv ((nn : Int)), .string tx, kv]) rfl rfl fun b1 => JLA rfl <| Zb <| Zc <| Za <| JLq (pp b1 0) (YR rfl rfl) <| JLr (Zd ty3 rfl (At.bx 0 rfl) rfl <| JLq (.int .u8 kd) (Pu.conv Tryz.runUnderlying3 Tryz.runUnderlying5 rfl (w8b (by omega))) <| JLA rfl <| Zb ?_))
 refine Zc <| Za <| JLA rfl <| JLA rfl <| Zb <| Zc <| Zc <| Za <| JLq (pp b1 2) (YB rfl rfl) <| JLr (Zd ty9 rfl (At.bx 0 rfl) rfl <| JLn (Pu.neqS rfl rfl) <| Zb <| Xq (N := fun ρ M => ∃ (w1 : Int) (y4 : Value) (q4c : Zi), (w1 = kd + (if tx = ⟨#[]⟩ then 0 else 64)) ∧ (Own 5 1 y4 (Yd (txE tx)) q4c) ∧ ρ 1 = pp b1 0 ∧ ρ 2 = nS ∧ ρ 3 = .int .u8 w1 ∧ ρ 4 = y4 ∧ ρ 5 = nS ∧ Sub [q4c, (BX b1 [iv kd, iv ((nn : Int)), .string tx, kv] 39)] M) ?_ ?_)
 ·refine Zg rfl (fun h2 => ?_) (fun h2 => ?_)
  ·replace h2 := nt h2
   replace h2 := df h2
   refine Zc <| Za <| JLM rfl <| JLq (.int .u8 (kd + 64)) (Pu.arith rfl rfl (w8b (by omega))) <| JLA rfl <| Zb <| ZJ mixed #[0, 1, 3, 7, 0, 16, 48, 127, 255, 511] 7 [some 16, some 17, some 18, some 19, some 20, some 21, some 22] [] [(3, fun _ _ vw qw => ∃ k, qw = [k] ∧ Own 5 1 vw (Yd (Yo (tx.size))) k), (6, fun _ _ vw qw => ∃ k, qw = [k] ∧ vw.oneCell' = true ∧ ∀ h, Has k h → Hs.rdS RB 1 h vw (sB tx))] rfl (by kernel_rfl) rfl (by kernel_rfl) <| Dq (pp b1 2) (fun _ => YB rfl rfl) <| Dl1 ty9 (At.bx 0 rfl) rfl <| Dn (fun _ => Pu.lenS Tryz.runUnderlying9 rfl) ?_
   refine Dc rfl Tryz.call129 (fun _ => rfl) (fun hin => numP_ct (tx.size) _ (by omega)) ?_
   rintro v5 _ ⟨k5, rfl, ho5⟩
   refine Dq (pp b1 2) (fun _ => YB rfl rfl) <| Dl1 ty9 (At.bx 0 rfl) rfl ?_
   refine Dr rfl (fun _ => Runs_toBytes Tryz.underlying9 Tryz.underlying22 Tryz.underlying5 (by omega) rfl fun v k h1 h2 => ⟨[k], by rw [ZN rfl]; exact Sub.refl, k, rfl, h1, h2⟩) ?_; rintro v6 _ ⟨k6, rfl, hc6, hr6⟩
   refine ZV (M' := [k6, k5, (BX b1 [iv kd, iv ((nn : Int)), .string tx, kv] 39)]) rfl ?_
   show JL _ _ _ [_, _, _] _ _ _
   refine JLr (Zp (vs := [v5, v6]) [[v5], [v6]] Tryz.runUnderlying211 el22 rfl (cg2 List.cons (ZH ho5.one) (cg2 List.cons (ZH hc6) rfl)) (by intro e he; simp only [List.mem_cons, List.not_mem_nil, or_false] at he; rcases he with rfl | rfl <;> first | exact rfl | exact rfl) rfl (by decide) fun b7 k7 ho7 hk7 => Jc Tryz.call128 rfl (fun hin => joinB_ct [Yo (tx.size), sB tx] _ _ (Own.rdBB2 ho7 (hin 0 _ rfl) (own_byts ho5 (by first | omega | (simp only [List.length_append]; omega)) (hin 2 _ rfl)) (hr6 _ (hin 1 _ rfl))) (by simp only [List.flatten_cons, List.flatten_nil, List.length_append, List.length_cons, List.length_nil]; omega)) rfl ?_)
   rintro v8 _ ⟨k8, rfl, ho8⟩
   refine JLa v8 <| Zb ?_
   exact ⟨(kd + 64), v8, k8, (by rw [if_neg h2]), (by have z := ho8; unfold txE; rw [if_neg h2]; simpa using z), rfl, rfl, rfl, rfl, rfl, (Sk (Sd (Sd (Sd (Sk Sub.nil)))))⟩
  replace h2 := nf h2
  replace h2 := dt h2
  refine Zj ?_
  exact ⟨kd, nS, [], (by rw [if_pos (by have z := h2; simpa using z)]; omega), (by unfold txE; rw [if_pos (by have z := h2; simpa using z)]; exact Own.nil), rfl, rfl, rfl, rfl, rfl, (Sub.emp (Sk Sub.nil))⟩
 rintro ρ9 _ ⟨w1, y4, q4c, h_w1, how4, e10, e11, e12, e13, e14, hm15⟩
 obtain ⟨ρ16, rfl⟩ := Zr (uc e10 (uc e11 (uc e12 (uc e13 (uc e14 un)))))
 clear e10 e11 e12 e13 e14
 refine ZG hm15 <| Zc <| Zc <| Za <| JLq (pp b1 3) (ZP rfl rfl) <| JLr (Zd Yw rfl (At.bx 1 rfl) rfl ?_)
 obtain ⟨a17, cap17, hv17⟩ := hks.sl
 have hle17 := hks.le
 refine JLn (Pu.lenSl Tryz.runUnderlying37 hv17) <| JLn (Pu.gtr rfl rfl) <| Zb <| Xq (N := fun ρ M => ∃ (w2 : Int) (y5 : Value) (q5c : Zi), (w2 = hdE kd tx kids.length) ∧ (Own 5 1 y5 (Yd (if kids.length = 0 then [] else Yo kids.length ++ Yq kids)) q5c) ∧ ρ 1 = pp b1 0 ∧ ρ 2 = nS ∧ ρ 3 = .int .u8 w2 ∧ ρ 4 = y4 ∧ ρ 5 = y5 ∧ Sub [q5c, q4c, (BX b1 [iv kd, iv ((nn : Int)), .string tx, kv] 39)] M) ?_ ?_
 ·refine Zg rfl (fun h18 => ?_) (fun h18 => ?_)
  ·replace h18 := dt h18
   refine Zc <| Za <| JLM rfl <| JLq (.int .u8 (w1 + 128)) (Pu.arith rfl rfl (w8b (by omega))) <| JLA rfl <| Zb <| Zc <| Za <| JLq (pp b1 3) (ZP rfl rfl) <| JLr (Zd Yw rfl (At.bx 1 rfl) rfl ?_)
   obtain ⟨a19, cap19, hv19⟩ := hks.sl
   have hle19 := hks.le
   refine JLn (Pu.lenSl Tryz.runUnderlying37 hv19) <| Jc Tryz.call129 rfl (fun hin => numP_ct (kids.length) _ (by omega)) rfl ?_
   rintro v20 _ ⟨k20, rfl, ho20⟩
   refine JLa v20 <| Zb <| Zc <| Za <| JLq (pp b1 3) (ZP rfl rfl) <| JLr (Zd Yw rfl (At.bx 2 rfl) rfl ?_)
   obtain ⟨a21, cap21, hv21⟩ := hks.sl
   have hle21 := hks.le
   refine JLn (Pu.lenSl Tryz.runUnderlying37 hv21) <| JLM rfl <| Zb <| Zn <| ZB (fun k ρ M => ∃ (j : Nat) (y : Value) (q1 : Zi), ρ 1 = pp b1 0 ∧ ρ 2 = nS ∧ ρ 3 = .int .u8 (w1 + 128) ∧ ρ 4 = y4 ∧ ρ 5 = y ∧ ρ 36 = kv ∧ ρ 37 = iv ((kids.length : Int)) ∧ ρ 38 = iv ((j : Int)) ∧ Sub [q1, q4c, (BX b1 [iv kd, iv ((nn : Int)), .string tx, kv] 39)] M ∧ j ≤ kids.length ∧ Own 5 1 y (Yd (Yo kids.length ++ Yq (kids.take j))) q1 ∧ k = kids.length - j) _ ⟨0, v20, k20, rfl, rfl, rfl, rfl, rfl, rfl, rfl, rfl, (Sk (Sk (Sk Sub.nil))), Nat.zero_le _, (by have z := ho20; simpa [Yq] using z), rfl⟩ ?_
   rintro _ ρ22 _ ⟨j, y, q1, e23, e24, e25, e26, e27, e28, e29, e30, hm31, hj, hown, rfl⟩
   obtain ⟨ρ32, rfl⟩ := Zr (uc e23 (uc e24 (uc e25 (uc e26 (uc e27 (uc e28 (uc e29 (uc e30 un))))))))
   clear e23 e24 e25 e26 e27 e28 e29 e30
   refine ZG hm31 <| Zc <| Za <| JLn (Pu.lss rfl rfl) <| Zb <| Zc <| Zg rfl (fun h33 => ?_) (fun h33 => ?_)
   ·replace h33 := dt h33
    have h33n : j < kids.length := by omega
    have hs1 := encIs_take1 h33n
    have hgj := gdIs_mem hg.2.2.2 _ (List.getElem_mem h33n)
    refine Zj <| Zc <| Zn <| Zc <| Za ?_
    obtain ⟨b34, o34, cap34, row34, T34, fr34, cs34, hv34, hb34, hs34, hE34⟩ := hks.get j (by first | assumption | omega | decide | simp)
    obtain ⟨ki34, rfl, hik34, hin34, hks34⟩ := Yb hE34
    refine JLq (pp b34 (o34 + j * 4)) (Pu.idx j Tryz.runUnderlying37 ZM hv34 rfl rfl (by first | assumption | omega | decide | simp)) <| JLr (Zh ZM rfl (At.im hb34) hs34 <| JLr (Zk (l := [iv 0, iv 0, .string (⟨#[]⟩), nS]) Tryz.zeroValue39 rfl fun b35 => JLr (Ze 0 (vs := [iv ((kids[j]).kind), iv ((kids[j]).num), .string ((kids[j]).text), ki34]) (l := [iv ((kids[j]).kind), iv ((kids[j]).num), .string ((kids[j]).text), ki34]) ZM rfl rfl rfl rfl rfl (Zf rfl (Zf rfl (Zf rfl (Zf hks34.one Zo)))) rfl <| Zb <| Za <| JLm y <| JLr (Zh ZM rfl (At.bx 0 rfl) rfl <| Jc Tryz.call97 rfl (fun hin => ih _ (List.getElem_mem h33n) _ _ (RIt.mono (Hle.hu _ _) (Yi hik34 hin34 hks34)) hgj (by omega)) rfl ?_))))
    rintro v36 _ ⟨k36, rfl, ho36⟩
    refine JLr (Zx (i := 2) (n := (Xe (kids[j])).length) (es' := Yd (Xe (kids[j]))) Tryz.runUnderlying22 Tryz.runUnderlying22 (Or.inl rfl) el5 rfl rfl rfl hown (own_srcB (i := 0) ho36 rfl) (Yh _) (byts_len1 _) (byts_ok _) (by decide) (by rw [Yh]; simp only [List.length_append]; omega) fun v37 k37 ho37 => ?_)
    rw [← byts_app] at ho37
    refine JLa v37 <| Zb <| Za <| JLn (Pu.inc rfl rfl (by omega)) <| JLM rfl <| Zb <| ⟨_, ?_, (j + 1), v37, k37, rfl, rfl, rfl, rfl, rfl, rfl, rfl, rfl, (Sd (Sd (Sk (Sk (Sk Sub.nil))))), ?_, ?_, rfl⟩
    ·omega
    ·omega
    rw [encIs_snoc h33n, ← List.append_assoc]; exact ho37
   replace h33 := df h33
   have h33n : kids.length ≤ j := by omega
   refine Zz _ rfl ?_
   exact ⟨(w1 + 128), y, q1, (by unfold hdE; rw [h_w1, if_neg (show ¬ kids.length = 0 by omega)]), (by have z := hown; rw [if_neg (show ¬ kids.length = 0 by omega)]; rw [List.take_of_length_le h33n] at z; exact z), rfl, rfl, rfl, rfl, rfl, (Sk (Sk (Sk Sub.nil)))⟩
  replace h18 := df h18
  refine Zj ?_
  exact ⟨w1, nS, [], (by unfold hdE; rw [h_w1, if_pos (show kids.length = 0 by omega), Int.add_zero]), (by rw [if_pos (show kids.length = 0 by omega)]; exact Own.nil), rfl, rfl, rfl, rfl, rfl, (Sub.emp (Sk (Sk Sub.nil)))⟩
 rintro ρ38 _ ⟨w2, y5, q5c, h_w2, how5, e39, e40, e41, e42, e43, hm44⟩
 obtain ⟨ρ45, rfl⟩ := Zr (uc e39 (uc e40 (uc e41 (uc e42 (uc e43 un)))))
 clear e39 e40 e41 e42 e43
 refine ZG hm44 <| Zc ?_
 have hw2 : 0 ≤ w2 ∧ w2 < 256 := by rw [h_w2]; unfold hdE; split <;> split <;> omega
 refine Za <| JLM rfl <| JLr (Zp (vs := [.int .u8 w2]) [[.int .u8 w2]] Tryz.runUnderlying22 el5 rfl rfl (by intro e he; simp only [List.mem_cons, List.not_mem_nil, or_false] at he; subst he; exact rfl) rfl (by decide) fun b46 k46 ho46 hk46 => JLq (pp b1 1) (XB rfl rfl) <| JLr (Zd ty3 rfl (At.bx 3 rfl) rfl <| Jc Tryz.call129 rfl (fun hin => numP_ct nn _ (by omega)) rfl ?_))
 rintro v47 _ ⟨k47, rfl, ho47⟩
 refine JLm y4 <| JLm y5 <| JLr (Zp (vs := [.slice (some ⟨b46, 0, none⟩) 1 1, v47, y4, y5]) [[.slice (some ⟨b46, 0, none⟩) 1 1], [v47], [y4], [y5]] Tryz.runUnderlying211 el22 rfl (cg2 List.cons rfl (cg2 List.cons (ZH ho47.one) (cg2 List.cons (ZH how4.one) (cg2 List.cons (ZH how5.one) rfl)))) (by intro e he; simp only [List.mem_cons, List.not_mem_nil, or_false] at he; rcases he with rfl | rfl | rfl | rfl <;> first | exact rfl | exact rfl | exact rfl | exact rfl) rfl (by decide) fun b48 k48 ho48 hk48 => Jc Tryz.call128 rfl (fun hin => joinB_ct [[w2], Yo nn, txE tx, if kids.length = 0 then [] else Yo kids.length ++ Yq kids] _ _ (Own.rdBB4 ho48 (hin 0 _ rfl) (own_byts (l := [w2]) ho46 (by simp) (hin 2 _ rfl)) (own_byts ho47 (by first | omega | (simp only [List.length_append]; omega)) (hin 1 _ rfl)) (own_byts how4 (by first | omega | (simp only [List.length_append]; omega)) (hin 4 _ rfl)) (own_byts how5 (by first | omega | (simp only [List.length_append]; omega)) (hin 3 _ rfl))) (by simp only [List.flatten_cons, List.flatten_nil, List.length_append, List.length_cons, List.length_nil]; omega)) rfl ?_)
 rintro v49 _ ⟨k49, rfl, ho49⟩
 refine JLa v49 <| Zb <| Zl <| ⟨v49, [k49], Ret.one rfl (RV.tmp rfl), (Sk Sub.nil), ?_⟩
 exact ⟨_, rfl, by have z := ho49; rw [Xe, ← h_w2]; simpa using z⟩
end Go.Proofs.YtkjafeejpmcnkaaGreat.Hs
/-! Walks, printed by a program of this session's own (gen.py). -/
namespace Go.Proofs.YtkjafeejpmcnkaaGreat.Hs
open Go Go.Proofs
set_option maxRecDepth 100000
set_option linter.unusedVariables false
set_option linter.unusedSimpArgs false
attribute [local irreducible] JL J CT wlo DT
set_option maxHeartbeats 2000000 in
theorem checkW_ct (x : It) (cs : List Value) (H : Heap) (ht : RIt H cs x) (hg : gdI x) (hz : szI x ≤ 5000) (hd : dpI x ≤ 250) : CT Tryz.prog 95 ⟨[.agg ⟨cs⟩]⟩ [] H (fun v N => v = iv 0 ∧ N = []) := by
 refine Zm Tryz.func95 rfl rfl <| Zc <| Za <| JLr (Zq (l := cs) rfl rfl fun b1 => JLr (Zk (l := [iv 0]) Tryz.zeroValue31 rfl fun b2 => Zb <| Zc <| Za <| JLr (Zk (l := [iv 0]) Tryz.zeroValue3 rfl fun b3 => JLr (Ze 0 (vs := [iv 0]) (l := [iv 0]) ty3 rfl rfl rfl rfl rfl (Zf rfl Zo) rfl <| Zb <| Zc <| Zc ?_))))
 refine Za <| JLr (Zh ZM rfl (At.bx 2 rfl) (Zs (YE ht)) <| Jc Tryz.call127 rfl (fun hin => within_ct _ _ (YE ht)) rfl ?_)
 rintro _ _ ⟨bT4, rfl, rfl⟩
 refine Zb <| Zn <| J_range (L := [(BX bT4 cs 39), (BX b2 [iv 0] 31), (BX b1 cs 39)]) (fun e : Int => [(BX b3 [iv e] 3)]) (fun _ => false) 0 (fun e => e = (szI x : Int)) rfl rfl Tryz.call153 (flatten_pick (i := 1) rfl) ?_ ?_ ?_
 ·intro l yc hY hin
  refine CT.mono (within1_ct l yc x _ _ bT4 (RIt.mono (Hle.hu _ _) ht) (hin 0 _ rfl _ _ List.mem_cons_self) hg hd hz ?_) (fun v N hN => ⟨_, hN, rfl⟩)
  intro y lv n a h hgy hl0 hlv hn0 hn1 hh hry
  obtain ⟨kd, nm, tx, kids⟩ := y
  obtain ⟨kv, rfl, hk, hm, hks⟩ := RIt_mk.1 hry
  rw [gdI] at hgy
  refine YT.mono (hY n [_, _] h (fun e' => e' = n + 1) rfl rfl (RoundOk.mk ?_)) ?_
  ·show J _ _ _ _ [(BX b3 [iv n] 3)] _
   refine Zc <| Za <| JLA rfl <| Zb <| Za <| JLr (Zk (l := [iv 0, iv 0, .string (⟨#[]⟩), nS]) Tryz.zeroValue39 rfl fun b5 => JLr (Ze 0 (vs := [iv kd, iv nm, .string tx, kv]) (l := [iv kd, iv nm, .string tx, kv]) ZM rfl rfl rfl rfl rfl (Zf rfl (Zf rfl (Zf rfl (Zf hks.one Zo)))) rfl <| Zb <| Zn <| Zc <| Zn <| Zc <| Za ?_))
   refine JLM rfl <| JLn (Pu.gtr rfl rfl) <| JLA rfl <| Zb <| Zg rfl (fun h6 => ?_) (fun h6 => ?_)
   ·replace h6 := dt h6
    exfalso; first | omega | (have z := h6; simp at z; omega)
   replace h6 := df h6
   refine Zc <| Za <| JLr (Zd ty3 rfl (At.bx 1 rfl) rfl <| JLn (Pu.eql rfl rfl) <| JLA rfl <| Zb <| Zg rfl (fun h7 => ?_) (fun h7 => ?_))
   ·replace h7 := dt h7
    exfalso; first | omega | (have z := h7; simp at z; omega)
   replace h7 := df h7
   refine Zc <| Za <| JLq (pp b5 0) (YR rfl rfl) <| JLr (Zd ty3 rfl (At.bx 0 rfl) rfl <| JLn (Pu.lss rfl rfl) <| JLM rfl <| Zv 3 [21, 22, 23] [(23, cond (decide (kd < 1)) undef (.bool (decide (63 < kd))))] ?_ fun f9 => ?_)
   ·cases h8 : (decide (kd < 1)) with
    | false =>
     replace h8 := df h8
     refine JLq (pp b5 0) (YR rfl rfl) <| JLr (Zd ty3 rfl (At.bx 0 rfl) rfl <| JLn (Pu.gtr rfl rfl) ?_)
     exact Zb ⟨⟨rfl, trivial⟩, rfl⟩
    | true =>
     exact Zy rfl ⟨rfl, trivial⟩
   refine JLn (Pu.pickOr rfl rfl rfl) <| JLM rfl <| Zv 3 [26, 27, 28] [(28, cond ((decide (kd < 1)) || (decide (63 < kd))) undef (.bool (decide (nm < 0))))] ?_ fun f11 => ?_
   ·cases h10 : ((decide (kd < 1)) || (decide (63 < kd))) with
    | false =>
     obtain ⟨h10a, h10b⟩ := orF h10
     replace h10a := df h10a
     replace h10b := df h10b
     refine JLq (pp b5 1) (XB rfl rfl) <| JLr (Zd ty3 rfl (At.bx 0 rfl) rfl <| JLn (Pu.lss rfl rfl) ?_)
     exact Zb ⟨⟨rfl, trivial⟩, rfl⟩
    | true =>
     exact Zy rfl ⟨rfl, trivial⟩
   refine JLn (Pu.pickOr rfl rfl rfl) <| JLM rfl <| Zv 3 [31, 32, 33] [(33, cond (((decide (kd < 1)) || (decide (63 < kd))) || (decide (nm < 0))) undef (.bool (decide (1099511627776 < nm))))] ?_ fun f13 => ?_
   ·cases h12 : (((decide (kd < 1)) || (decide (63 < kd))) || (decide (nm < 0))) with
    | false =>
     obtain ⟨h12a, h12b⟩ := orF h12
     obtain ⟨h12aa, h12ab⟩ := orF h12a
     replace h12aa := df h12aa
     replace h12ab := df h12ab
     replace h12b := df h12b
     refine JLq (pp b5 1) (XB rfl rfl) <| JLr (Zd ty3 rfl (At.bx 0 rfl) rfl <| JLn (Pu.gtr rfl rfl) ?_)
     exact Zb ⟨⟨rfl, trivial⟩, rfl⟩
    | true =>
     exact Zy rfl ⟨rfl, trivial⟩
   refine JLn (Pu.pickOr rfl rfl rfl) <| JLA rfl <| Zb <| Zg rfl (fun h14 => ?_) (fun h14 => ?_)
   ·exfalso; first | omega | (have z := h14; simp at z; omega)
   obtain ⟨h14a, h14b⟩ := orF h14
   obtain ⟨h14aa, h14ab⟩ := orF h14a
   obtain ⟨h14aaa, h14aab⟩ := orF h14aa
   replace h14aaa := df h14aaa
   replace h14aab := df h14aab
   replace h14ab := df h14ab
   replace h14b := df h14b
   refine Zc <| Za <| JLq (pp b5 2) (YB rfl rfl) <| JLr (Zd ty9 rfl (At.bx 0 rfl) rfl <| JLn (Pu.lenS Tryz.runUnderlying9 rfl) <| JLn (Pu.gtr rfl rfl) <| JLA rfl <| Zb <| Zg rfl (fun h15 => ?_) (fun h15 => ?_))
   ·replace h15 := dt h15
    exfalso; first | omega | (have z := h15; simp at z; omega)
   replace h15 := df h15
   refine Zj <| Za <| JLr (Zd ty3 rfl (At.bx 1 rfl) rfl <| JLn (Pu.add64 rfl rfl (by first | omega | (constructor <;> omega))) <| JLr (Ze 1 (vs := [iv (n + 1)]) (l := [iv (n + 1)]) ty3 rfl rfl rfl rfl rfl (Zf rfl Zo) rfl <| Zb ?_))
   exact ⟨n + 1, rfl, (Sd (Sk Sub.nil)), rfl⟩
  rintro v N ⟨e', rfl, rfl, rfl⟩; exact ⟨rfl, rfl⟩
 ·rintro ef hef hp
  refine Zc <| Za <| JLr (Ze 2 (vs := [iv 0]) (l := [iv 0]) ty31 rfl rfl rfl rfl rfl (Zf rfl Zo) rfl <| Zb <| Zl <| ⟨iv 0, [], Ret.one rfl (RV.cell1 ty31 rfl (At.bx 2 rfl) rfl), Sub.nil, ?_⟩)
  exact ⟨rfl, rfl⟩
 rintro ef hef hp; cases hp
theorem encodeW_ct (x : It) (cs : List Value) (H : Heap) (ht : RIt H cs x) (hg : gdI x) (hz : szI x ≤ 1000) (hd : dpI x ≤ 200) (he : (Xe x).length ≤ 65536) : CT Tryz.prog 57 ⟨[.agg ⟨cs⟩]⟩ [] H (fun r N => ∃ u k, r = .tuple ⟨[u, iv 0]⟩ ∧ N = [k] ∧ Own 5 1 u (Yd (Xe x)) k) := by
 refine Zm Tryz.func57 rfl rfl <| Zc <| Za <| JLr (Zq (l := cs) rfl rfl fun b1 => JLA rfl <| JLA rfl <| Zb <| Zc <| Zc <| Za <| JLr (Zh ZM rfl (At.bx 0 rfl) (Zs (YE ht)) <| Jc Tryz.call95 rfl (fun hin => checkW_ct _ _ _ (RIt.mono (Hle.hu _ _) ht) hg (by omega) (by omega)) rfl ?_))
 rintro _ _ ⟨rfl, rfl⟩
 refine JLA rfl <| Zb <| Zc <| Za <| JLM rfl <| JLq (.bool false) (show Pu _ _ _ (.bool (!decide ((0 : Int) = 0))) from Pu.neq rfl rfl) <| Zb <| Zg (b := false) rfl (fun h => absurd h (by simp)) (fun _ => Zj <| Zc <| Za <| JLr (Zh ZM rfl (At.bx 0 rfl) (Zs (YE ht)) <| Jc Tryz.call97 rfl (fun hin => encoded_ct _ _ _ (RIt.mono (Hle.hu _ _) ht) hg (by omega)) rfl ?_))
 rintro v2 _ ⟨k2, rfl, ho2⟩
 obtain ⟨aS3, capS3, hvS3⟩ := ho2.sl
 rw [Yh] at hvS3
 subst hvS3
 refine Jc Tryz.call96 rfl (fun hin => shortB_ct _ (Xe x).length _ _ (by omega)) rfl ?_
 rintro _ _ ⟨rfl, rfl⟩
 refine JLn (Pu.extract rfl rfl) <| JLn (Pu.extract rfl rfl) <| JLA rfl <| JLA rfl <| Zb <| Zl <| ⟨.tuple ⟨[.slice aS3 (Xe x).length capS3, iv 0]⟩, [k2], Ret.two rfl (RV.tmp rfl) (RV.tmp rfl), (Sk Sub.nil), ?_⟩
 exact ⟨_, _, rfl, rfl, ho2⟩
theorem itemE2_ct (t : Tm) (cs : List Value) (H : Heap) (ht : RT H cs t) : CT Tryz.prog 18 ⟨[.agg ⟨cs⟩]⟩ [] H (fun r N => ∃ cs k, r = .tuple ⟨[.agg ⟨cs⟩, iv (ZX 60 8 t)]⟩ ∧ N = [k] ∧ OIt (if ZX 60 8 t = 0 then itT t else zI) cs k) := by have z := itemE_ct t cs H ht; rw [rightT_one] at z; exact z
theorem encodeP_ct (t : Tm) (cs : List Value) (H : Heap) (ht : RT H cs t) : CT Tryz.prog 19 ⟨[.agg ⟨cs⟩]⟩ [] H (fun r N => ∃ u k, r = .tuple ⟨[u, iv (ZX 60 8 t)]⟩ ∧ N = [k] ∧ Own 5 1 u (Yd (if ZX 60 8 t = 0 then Xe (itT t) else [])) k) := by
 refine Zm Tryz.func19 rfl rfl <| Zc <| Za <| JLr (Zq (l := cs) rfl rfl fun b1 => JLA rfl <| JLA rfl <| Zb <| Zc <| Za <| JLr (Zh Zt rfl (At.bx 0 rfl) (Zs (Zu ht)) <| Jc Tryz.call18 rfl (fun hin => itemE2_ct _ _ _ (RT.mono (Hle.hu _ _) ht)) rfl ?_))
 rintro _ _ ⟨cs2, k2, rfl, rfl, ho2⟩
 refine JLM rfl <| JLn (Pu.extract rfl rfl) <| JLn (Pu.extract rfl rfl) <| JLr (Zk (l := [iv 0, iv 0, .string (⟨#[]⟩), nS]) Tryz.zeroValue39 rfl fun b3 => JLr (Ze 0 (vs := cs2) (l := cs2) ZM rfl rfl rfl rfl ho2.len ho2.ok (ZK (n := 4) rfl ho2.len) <| JLA rfl <| Zb <| Zc <| Zc <| Za <| JLM rfl <| JLn (Pu.neq rfl rfl) <| Zb ?_))
 refine Zg rfl (fun h4 => ?_) (fun h4 => ?_)
 ·replace h4 := nt h4
  replace h4 := df h4
  refine Zc <| Za <| JLM rfl <| JLA rfl <| JLA rfl <| Zb <| Zl <| ⟨.tuple ⟨[nS, iv (ZX 60 8 t)]⟩, [[]], Ret.two rfl (RV.tmp rfl) (RV.tmp rfl), (Sub.emp Sub.nil), ?_⟩
  exact ⟨_, _, rfl, rfl, by rw [if_neg (by omega)]; exact Own.nil⟩
 replace h4 := nf h4
 replace h4 := dt h4
 refine Zj <| Zc ?_
 have hck : ZX 60 8 t = 0 := by omega
 have hrg := right_gd hck
 refine Za <| JLr (Zh ZM rfl (At.bx 0 rfl) (Zs ho2.len) <| Jc Tryz.call57 rfl (fun hin => encodeW_ct (itT t) _ _ (by have z := (ho2.rd (hin 1 _ rfl)); rw [if_pos hck] at z; exact z) hrg.1 (by omega) (by omega) (by omega)) rfl ?_)
 rintro _ _ ⟨u5, k5, rfl, rfl, ho5⟩
 refine JLn (Pu.extract rfl rfl) <| JLn (Pu.extract rfl rfl) <| JLa u5 <| JLA rfl <| Zb <| Zl <| ⟨.tuple ⟨[u5, iv 0]⟩, [k5], Ret.two rfl (RV.tmp rfl) (RV.tmp rfl), (Sk Sub.nil), ?_⟩
 exact ⟨_, _, by rw [hck], rfl, by rw [if_pos hck]; exact ho5⟩
end Go.Proofs.YtkjafeejpmcnkaaGreat.Hs
/-! Walks, printed by a program of this session's own (gen.py). -/
namespace Go.Proofs.YtkjafeejpmcnkaaGreat.Hs
open Go Go.Proofs
set_option maxRecDepth 100000
set_option linter.unusedVariables false
set_option linter.unusedSimpArgs false
attribute [local irreducible] JL J CT wlo DT
theorem idxIt_ct (g : Nat) (fs cv : List Value) (hcall : ∀ args w, (callFunc g args).run Tryz.prog w = .ok (.enter g args) w) {σ : Type} (Sc : σ → Zi) (Inv : σ → Prop) (step : It → σ → Bool × σ) (l : List It) (v : Value) (H : Heap) (hl : rdS RIt 4 H v l) (s0 : σ) (h0 : Inv s0) (hI : ∀ x ∈ l, ∀ s, Inv s → (step x s).1 = false → Inv (step x s).2) (hg : ∀ x ∈ l, ∀ s, Inv s → ∀ a h, Hle H h → RIt h a x → CT Tryz.prog g ⟨fs ++ [.agg ⟨a⟩] ++ cv⟩ [Sc s] h (fun v N => v = .bool (step x s).1 ∧ N = [Sc (step x s).2])) : CT Tryz.prog 87 ⟨[v, .func (.func g) ⟨fs⟩ ⟨cv⟩]⟩ [Sc s0] H (fun v N => v = iv (idxS step l 0 s0).1 ∧ N = [Sc (idxS step l 0 s0).2]) := by
 refine Zm Tryz.func87 rfl rfl <| Zc <| Za <| JLA rfl <| Zb <| Zc <| Zc <| Za <| JLm v ?_
 obtain ⟨a1, cap1, hv1⟩ := hl.sl
 have hle1 := hl.le
 refine JLn (Pu.lenSl Tryz.runUnderlying37 hv1) <| JLM rfl <| Zb <| Zn <| ZB (fun k ρ M => ∃ (j : Nat) (s : σ), ρ 0 = v ∧ ρ 1 = .func (.func g) ⟨fs⟩ ⟨cv⟩ ∧ ρ 4 = iv 0 ∧ ρ 7 = iv ((l.length : Int)) ∧ ρ 8 = iv ((j : Int)) ∧ Sub [Sc s] M ∧ j ≤ l.length ∧ Inv s ∧ idxS step (l.drop j) j s = idxS step l 0 s0 ∧ k = l.length - j) _ ⟨0, s0, rfl, rfl, rfl, rfl, rfl, (Sk Sub.nil), Nat.zero_le _, h0, rfl, rfl⟩ ?_
 rintro _ ρ2 _ ⟨j, s, e3, e4, e5, e6, e7, hm8, hj, hs, hinv, rfl⟩
 obtain ⟨ρ9, rfl⟩ := Zr (uc e3 (uc e4 (uc e5 (uc e6 (uc e7 un)))))
 clear e3 e4 e5 e6 e7
 refine ZG hm8 <| Zc <| Za <| JLn (Pu.lss rfl rfl) <| Zb <| Zc <| Zg rfl (fun h10 => ?_) (fun h10 => ?_)
 ·replace h10 := dt h10
  have h10n : j < l.length := by omega
  have hlenl := hl.le
  refine Zj <| Zc <| Zn <| Zc <| Za <| JLM rfl <| JLA rfl <| Zb <| Zc <| Za <| JLM rfl <| JLm v <| JLM rfl ?_
  obtain ⟨b11, o11, cap11, row11, T11, fr11, cs11, hv11, hb11, hs11, hE11⟩ := hl.get j (by first | assumption | omega | decide | simp)
  obtain ⟨ki11, rfl, hik11, hin11, hks11⟩ := Yb hE11
  refine JLq (pp b11 (o11 + j * 4)) (Pu.idx j Tryz.runUnderlying37 ZM hv11 rfl rfl (by first | assumption | omega | decide | simp)) <| JLr (Zh ZM rfl (At.im hb11) hs11 <| ZA 0 rfl hcall rfl rfl (fun hin => hg _ (List.getElem_mem h10n) _ hs _ _ (Hle.hu _ _) (RIt.mono (Hle.hu _ _) (Yi hik11 hin11 hks11))) rfl ?_)
  rintro _ _ ⟨rfl, rfl⟩
  refine Zb <| Zg rfl (fun h12 => ?_) (fun h12 => ?_)
  ·refine Zc <| Za <| JLM rfl <| JLA rfl <| Zb <| Zl <| ⟨iv ((j : Int)), [Sc (step (l[j]) s).2], Ret.one rfl (RV.tmp rfl), (Sk Sub.nil), ?_⟩
   refine ⟨?_, ?_⟩ <;> rw [← hinv, ZW h10n, idxS, if_pos h12]
  refine Zj <| Za <| JLn (Pu.inc rfl rfl (by omega)) <| JLM rfl <| Zb <| ⟨_, ?_, (j + 1), ((step (l[j]) s).2), rfl, rfl, rfl, rfl, rfl, (Sk Sub.nil), ?_, ?_, ?_, rfl⟩
  ·omega
  ·omega
  ·exact hI _ (List.getElem_mem h10n) s hs h12
  rw [ZW h10n, idxS, if_neg (by simp [h12])] at hinv; exact hinv
 replace h10 := df h10
 have h10n : l.length ≤ j := by omega
 refine Zz _ rfl <| Zc <| Za <| JLA rfl <| Zb <| Zl <| ⟨iv (-1), [Sc s], Ret.one rfl (RV.tmp rfl), (Sk Sub.nil), ?_⟩
 refine ⟨?_, ?_⟩ <;> rw [← hinv, YL h10n] <;> rfl
theorem containsIt_ct (g : Nat) (fs cv : List Value) (hcall : ∀ args w, (callFunc g args).run Tryz.prog w = .ok (.enter g args) w) {σ : Type} (Sc : σ → Zi) (Inv : σ → Prop) (step : It → σ → Bool × σ) (l : List It) (v : Value) (H : Heap) (hl : rdS RIt 4 H v l) (s0 : σ) (h0 : Inv s0) (hI : ∀ x ∈ l, ∀ s, Inv s → (step x s).1 = false → Inv (step x s).2) (hg : ∀ x ∈ l, ∀ s, Inv s → ∀ a h, Hle H h → RIt h a x → CT Tryz.prog g ⟨fs ++ [.agg ⟨a⟩] ++ cv⟩ [Sc s] h (fun v N => v = .bool (step x s).1 ∧ N = [Sc (step x s).2])) : CT Tryz.prog 46 ⟨[v, .func (.func g) ⟨fs⟩ ⟨cv⟩]⟩ [Sc s0] H (fun v N => v = .bool (Ye step l s0).1 ∧ N = [Sc (Ye step l s0).2]) := by
 refine Zm Tryz.func46 rfl rfl <| Zc <| Za <| JLA rfl <| Zb <| Zc <| Za <| JLm v <| JLM rfl <| ZA 0 rfl Tryz.call87 rfl rfl (fun hin => idxIt_ct g fs cv hcall Sc Inv step _ _ _ (RIts.mono (Hle.hu _ _) hl) s0 h0 hI (fun x hx s hs a h hh ra => hg x hx s hs a h (Hle.trans (Hle.hu _ _) hh) ra)) rfl ?_
 rintro _ _ ⟨rfl, rfl⟩
 refine JLn (Pu.geq rfl rfl) <| JLA rfl <| Zb <| Zl <| ⟨.bool (decide (0 ≤ (idxS step l 0 s0).1)), [Sc (idxS step l 0 s0).2], Ret.one rfl (RV.tmp rfl), (Sk Sub.nil), ?_⟩
 exact ⟨by rw [(idxS_any step l 0 s0).1], by rw [(idxS_any step l 0 s0).2]⟩
theorem greatI_ct : ∀ (x : It) (n : Int) (cs : List Value) (H : Heap) (bN bF : Nat), RIt H cs x → 0 ≤ n → n ≤ 900 → H bF = some (.cells ⟨[.func (.func 45) ⟨[]⟩ ⟨[pp bN 0, pp bF 0]⟩]⟩ 41 (0, 0)) → CT Tryz.prog 45 ⟨[.agg ⟨cs⟩, pp bN 0, pp bF 0]⟩ [(BX bN [iv n] 3)] H (fun v N => v = .bool (cnI x n).1 ∧ N = [(BX bN [iv ((cnI x n).2)] 3)]) := by
 intro x
 induction x using It.ind with
 | h kd nm tx kids ih =>
 intro n cs H bN bF ht hn0 hn1 hF
 obtain ⟨kv, rfl, hk, hm, hks⟩ := RIt_mk.1 ht
 refine Zm Tryz.func45 rfl rfl <| Zc <| Za <| JLr (Zq (l := [iv kd, iv nm, .string tx, kv]) rfl rfl fun b1 => JLA rfl <| Zb <| Zc <| Za <| JLr (Zd ty3 rfl (At.bx 1 rfl) rfl <| JLn (Pu.add64 rfl rfl (by first | omega | (constructor <;> omega))) <| JLr (Ze 1 (vs := [iv (n + 1)]) (l := [iv (n + 1)]) ty3 rfl rfl rfl rfl rfl (Zf rfl Zo) rfl <| Zb <| Zc ?_)))
 refine Za <| JLr (Zd ty3 rfl (At.bx 1 rfl) rfl <| JLn (Pu.gtr rfl rfl) <| JLM rfl ?_)
 cases h2 : (decide (900 < n + 1)) with
 | true =>
  replace h2 := dt h2
  iterate 4 refine ZD rfl ?_
  refine JLq (.bool true) (Pu.pickT rfl rfl) <| JLA rfl <| Zb <| Zl <| ⟨.bool true, [(BX bN [iv (n + 1)] 3)], Ret.one rfl (RV.tmp rfl), (Sd (Sk Sub.nil)), ?_⟩
  refine ⟨?_, ?_⟩ <;> rw [cnI, if_pos (by omega)]
 | false =>
  replace h2 := df h2
  refine JLq (pp b1 3) (ZP rfl rfl) <| JLr (Zd Yw rfl (At.bx 0 rfl) rfl <| JLr (Zd ty41 rfl (At.im hF) rfl <| ZA 1 rfl Tryz.call46 rfl rfl (fun hin => containsIt_ct 45 [] [pp bN 0, pp bF 0] (fun _ _ => rfl) (fun n => (BX bN [iv n] 3)) (fun n => 0 ≤ n ∧ n ≤ 900) cnI _ _ _ (RIts.mono (Hle.hu _ _) hks) (n + 1) ⟨by omega, by omega⟩ (fun x hx s hs hf => cnI_keep x s hs.1 hf) (fun x hx s hs a h hh ra => ih x hx s a h bN bF ra hs.1 hs.2 (hh _ _ (Hle.hu _ _ _ _ hF)))) rfl ?_))
  rintro _ _ ⟨rfl, rfl⟩
  refine JLq (.bool ((Ye cnI kids (n + 1)).1)) (Pu.pickF rfl rfl) <| JLA rfl <| Zb <| Zl <| ⟨.bool ((Ye cnI kids (n + 1)).1), [(BX bN [iv ((Ye cnI kids (n + 1)).2)] 3)], Ret.one rfl (RV.tmp rfl), (Sk Sub.nil), ?_⟩
  refine ⟨?_, ?_⟩ <;> rw [cnI, if_neg (by omega), cnIs_any]
theorem greatIt_ct (x : It) (cs : List Value) (H : Heap) (ht : RIt H cs x) : CT Tryz.prog 12 ⟨[.agg ⟨cs⟩]⟩ [] H (fun v N => v = .bool (cnI x 0).1 ∧ N = []) := by
 refine Zm Tryz.func12 rfl rfl <| Zc <| Za <| JLr (Zq (l := cs) rfl rfl fun b1 => JLA rfl <| Zb <| Zc <| Za <| JLr (Zk (l := [iv 0]) Tryz.zeroValue3 rfl fun b2 => JLr (Ze 0 (vs := [iv 0]) (l := [iv 0]) ty3 rfl rfl rfl rfl rfl (Zf rfl Zo) rfl <| Zb <| Zc <| Za ?_)))
 refine JLr (Zk (l := [.nilFunc]) Tryz.zeroValue41 rfl fun b3 => Zb <| Zc <| Za <| JLq (.func (.func 45) ⟨[]⟩ ⟨[pp b2 0, pp b3 0]⟩) (Pu.makeFunc rfl rfl) <| JLr (Ze 0 (vs := [.func (.func 45) ⟨[]⟩ ⟨[pp b2 0, pp b3 0]⟩]) (l := [.func (.func 45) ⟨[]⟩ ⟨[pp b2 0, pp b3 0]⟩]) ty41 rfl rfl rfl rfl rfl (Zf rfl Zo) rfl <| Zb <| Zc <| Za <| JLr (Zd ty41 rfl (At.bx 0 rfl) rfl <| JLr (Zh ZM rfl (At.bx 2 rfl) (Zs (YE ht)) <| ZA 1 rfl Tryz.call45 rfl rfl (fun hin => greatI_ct _ 0 _ _ b2 b3 (RIt.mono (Hle.hu _ _) ht) (by decide) (by decide) (hin 0 _ rfl _ _ List.mem_cons_self)) rfl ?_))))
 rintro _ _ ⟨rfl, rfl⟩
 refine JLA rfl <| Zb <| Zl <| ⟨.bool ((cnI x 0).1), [], Ret.one rfl (RV.tmp rfl), Sub.nil, ?_⟩
 exact ⟨rfl, rfl⟩
end Go.Proofs.YtkjafeejpmcnkaaGreat.Hs
/-! Walks, printed by a program of this session's own (gen.py). -/
namespace Go.Proofs.YtkjafeejpmcnkaaGreat.Hs
open Go Go.Proofs
set_option maxRecDepth 100000
set_option linter.unusedVariables false
set_option linter.unusedSimpArgs false
attribute [local irreducible] JL J CT wlo DT
theorem eqFuncI_ct (g : Nat) (fs cv : List Value) (hcall : ∀ args w, (callFunc g args).run Tryz.prog w = .ok (.enter g args) w) (l m : List It) (v u : Value) (H : Heap) (hl : rdS RIt 4 H v l) (hm : rdS RIt 4 H u m) (hg : ∀ x ∈ l, ∀ y ∈ m, ∀ a b h, Hle H h → RIt h a x → RIt h b y → CT Tryz.prog g ⟨fs ++ [.agg ⟨a⟩, .agg ⟨b⟩] ++ cv⟩ [] h (fun v N => v = .bool (decide (x = y)) ∧ N = [])) : CT Tryz.prog 59 ⟨[v, u, .func (.func g) ⟨fs⟩ ⟨cv⟩]⟩ [] H (fun v N => v = .bool (decide (l = m)) ∧ N = []) := by
 refine Zm Tryz.func59 rfl rfl <| Zc <| Za <| JLA rfl <| Zb <| Zc <| Zc <| Za <| JLm v ?_
 obtain ⟨a1, cap1, hv1⟩ := hl.sl
 have hle1 := hl.le
 refine JLn (Pu.lenSl Tryz.runUnderlying37 hv1) <| JLm u ?_
 obtain ⟨a2, cap2, hv2⟩ := hm.sl
 have hle2 := hm.le
 refine JLn (Pu.lenSl Tryz.runUnderlying37 hv2) <| JLn (Pu.neq rfl rfl) <| Zb <| Zg rfl (fun h3 => ?_) (fun h3 => ?_)
 ·replace h3 := nt h3
  replace h3 := df h3
  refine Zc <| Za <| JLA rfl <| Zb <| Zl <| ⟨.bool false, [], Ret.one rfl (RV.tmp rfl), Sub.nil, ?_⟩
  exact ⟨by rw [decide_eq_false]; intro e; subst e; exact h3 rfl, rfl⟩
 replace h3 := nf h3
 replace h3 := dt h3
 refine Zj <| Zc <| Zc <| Za <| JLm v ?_
 obtain ⟨a4, cap4, hv4⟩ := hl.sl
 have hle4 := hl.le
 refine JLn (Pu.lenSl Tryz.runUnderlying37 hv4) <| JLM rfl <| Zb <| Zn <| ZB (fun k ρ M => ∃ (j : Nat), ρ 1 = u ∧ ρ 2 = .func (.func g) ⟨fs⟩ ⟨cv⟩ ∧ ρ 6 = .bool false ∧ ρ 15 = v ∧ ρ 16 = iv ((l.length : Int)) ∧ ρ 17 = iv ((j : Int)) ∧ Sub [] M ∧ j ≤ l.length ∧ l.length = m.length ∧ l.take j = m.take j ∧ k = l.length - j) _ ⟨0, rfl, rfl, rfl, rfl, rfl, rfl, Sub.nil, Nat.zero_le _, (by omega), rfl, rfl⟩ ?_
 rintro _ ρ5 _ ⟨j, e6, e7, e8, e9, e10, e11, hm12, hj, hlen, htake, rfl⟩
 obtain ⟨ρ13, rfl⟩ := Zr (uc e6 (uc e7 (uc e8 (uc e9 (uc e10 (uc e11 un))))))
 clear e6 e7 e8 e9 e10 e11
 refine ZG hm12 <| Zc <| Za <| JLn (Pu.lss rfl rfl) <| Zb <| Zc <| Zg rfl (fun h14 => ?_) (fun h14 => ?_)
 ·replace h14 := dt h14
  have h14n : j < l.length := by omega
  have hlenl := hl.le
  have hltm : j < m.length := by omega
  refine Zj <| Zc <| Zn <| Zc <| Za <| JLM rfl ?_
  obtain ⟨b15, o15, cap15, row15, T15, fr15, cs15, hv15, hb15, hs15, hE15⟩ := hl.get j (by first | assumption | omega | decide | simp)
  obtain ⟨ki15, rfl, hik15, hin15, hks15⟩ := Yb hE15
  refine JLq (pp b15 (o15 + j * 4)) (Pu.idx j Tryz.runUnderlying37 ZM hv15 rfl rfl (by first | assumption | omega | decide | simp)) <| JLr (Zh ZM rfl (At.im hb15) hs15 <| JLr (Zk (l := [iv 0, iv 0, .string (⟨#[]⟩), nS]) Tryz.zeroValue39 rfl fun b16 => JLA rfl <| JLr (Ze 0 (vs := [iv ((l[j]).kind), iv ((l[j]).num), .string ((l[j]).text), ki15]) (l := [iv ((l[j]).kind), iv ((l[j]).num), .string ((l[j]).text), ki15]) ZM rfl rfl rfl rfl rfl (Zf rfl (Zf rfl (Zf rfl (Zf hks15.one Zo)))) rfl <| Zb <| Zc <| Za <| JLm u <| JLM rfl ?_)))
  obtain ⟨b17, o17, cap17, row17, T17, fr17, cs17, hv17, hb17, hs17, hE17⟩ := hm.get j (by first | assumption | omega | decide | simp)
  obtain ⟨ki17, rfl, hik17, hin17, hks17⟩ := Yb hE17
  refine JLq (pp b17 (o17 + j * 4)) (Pu.idx j Tryz.runUnderlying37 ZM hv17 rfl rfl (by first | assumption | omega | decide | simp)) <| JLr (Zh ZM rfl (At.im hb17) hs17 <| JLr (Zk (l := [iv 0, iv 0, .string (⟨#[]⟩), nS]) Tryz.zeroValue39 rfl fun b18 => JLr (Ze 0 (vs := [iv ((m[j]).kind), iv ((m[j]).num), .string ((m[j]).text), ki17]) (l := [iv ((m[j]).kind), iv ((m[j]).num), .string ((m[j]).text), ki17]) ZM rfl rfl rfl rfl rfl (Zf rfl (Zf rfl (Zf rfl (Zf hks17.one Zo)))) rfl <| Zb <| Zc <| Za <| JLM rfl <| JLr (Zh ZM rfl (At.bx 1 rfl) rfl <| JLr (Zh ZM rfl (At.bx 0 rfl) rfl <| Jc hcall rfl (fun hin => hg _ (List.getElem_mem h14n) _ (List.getElem_mem (by omega)) _ _ _ (Hle.hu _ _) (RIt.mono (Hle.hu _ _) (Yi hik15 hin15 hks15)) (RIt.mono (Hle.hu _ _) (Yi hik17 hin17 hks17))) rfl ?_)))))
  rintro _ _ ⟨rfl, rfl⟩
  refine JLn (Pu.not rfl) <| Zb <| Zg rfl (fun h19 => ?_) (fun h19 => ?_)
  ·replace h19 := nt h19
   replace h19 := df h19
   refine Zc <| Za <| JLA rfl <| Zb <| Zl <| ⟨.bool false, [], Ret.one rfl (RV.tmp rfl), Sub.nil, ?_⟩
   exact ⟨by rw [decide_eq_false]; intro e; subst e; exact h19 rfl, rfl⟩
  replace h19 := nf h19
  replace h19 := dt h19
  refine Zj <| Za <| JLn (Pu.inc rfl rfl (by omega)) <| JLM rfl <| Zb <| ⟨_, ?_, (j + 1), rfl, rfl, rfl, rfl, rfl, rfl, Sub.nil, ?_, ?_, ?_, rfl⟩
  ·omega
  ·omega
  ·assumption
  rw [List.take_succ_eq_append_getElem h14n, List.take_succ_eq_append_getElem (by omega), htake, h19]
 replace h14 := df h14
 have h14n : l.length ≤ j := by omega
 refine Zz _ rfl <| Zc <| Za <| JLA rfl <| Zb <| Zl <| ⟨.bool true, [], Ret.one rfl (RV.tmp rfl), Sub.nil, ?_⟩
 exact ⟨by rw [decide_eq_true]; have e := htake; rw [List.take_of_length_le h14n, List.take_of_length_le (by omega)] at e; exact e, rfl⟩
theorem sameItem_ct : ∀ (x u : It) (cs ds : List Value) (H : Heap), RIt H cs x → RIt H ds u → CT Tryz.prog 21 ⟨[.agg ⟨cs⟩, .agg ⟨ds⟩]⟩ [] H (fun v N => v = .bool (decide (x = u)) ∧ N = []) := by
 intro x
 induction x using It.ind with
 | h kd nm tx kids ih =>
 intro u cs ds H ht hu
 obtain ⟨kv, rfl, hk, hm, hks⟩ := RIt_mk.1 ht
 obtain ⟨kvu, rfl, hku, hmu, hksu⟩ := Yb hu
 refine Zm Tryz.func21 rfl rfl <| Zc <| Za <| JLr (Zq (l := [iv kd, iv nm, .string tx, kv]) rfl rfl fun b1 => JLr (Zq (l := [iv (u.kind), iv (u.num), .string (u.text), kvu]) rfl rfl fun b2 => JLA rfl <| Zb <| Zc <| Za <| JLq (pp b1 0) (YR rfl rfl) <| JLr (Zd ty3 rfl (At.bx 1 rfl) rfl <| JLq (pp b2 0) (YR rfl rfl) <| JLr (Zd ty3 rfl (At.bx 0 rfl) rfl ?_))))
 refine JLn (Pu.eql rfl rfl) <| JLM rfl <| Zv 5 [11, 12, 13, 14, 15] [(15, cond (decide (kd = u.kind)) (.bool (decide (nm = u.num))) undef)] ?_ fun f4 => ?_
 ·cases h3 : (decide (kd = u.kind)) with
  | true =>
   replace h3 := dt h3
   refine JLq (pp b1 1) (XB rfl rfl) <| JLr (Zd ty3 rfl (At.bx 1 rfl) rfl <| JLq (pp b2 1) (XB rfl rfl) <| JLr (Zd ty3 rfl (At.bx 0 rfl) rfl <| JLn (Pu.eql rfl rfl) ?_))
   exact Zb ⟨⟨rfl, trivial⟩, rfl⟩
  | false =>
   exact Zy rfl ⟨rfl, trivial⟩
 refine JLn (Pu.pickAnd rfl rfl rfl) <| JLM rfl <| Zv 5 [18, 19, 20, 21, 22] [(22, cond ((decide (kd = u.kind)) && (decide (nm = u.num))) (.bool (decide (tx = u.text))) undef)] ?_ fun f6 => ?_
 ·cases h5 : ((decide (kd = u.kind)) && (decide (nm = u.num))) with
  | true =>
   obtain ⟨h5a, h5b⟩ := YC h5
   replace h5a := dt h5a
   replace h5b := dt h5b
   refine JLq (pp b1 2) (YB rfl rfl) <| JLr (Zd ty9 rfl (At.bx 1 rfl) rfl <| JLq (pp b2 2) (YB rfl rfl) <| JLr (Zd ty9 rfl (At.bx 0 rfl) rfl <| JLn (Pu.eqlS rfl rfl) ?_))
   exact Zb ⟨⟨rfl, trivial⟩, rfl⟩
  | false =>
   exact Zy rfl ⟨rfl, trivial⟩
 refine JLn (Pu.pickAnd rfl rfl rfl) <| JLM rfl <| Zv 5 [25, 26, 27, 28, 29] [(29, cond (((decide (kd = u.kind)) && (decide (nm = u.num))) && (decide (tx = u.text))) (.bool (decide (kids = (u.kids)))) undef)] ?_ fun f8 => ?_
 ·cases h7 : (((decide (kd = u.kind)) && (decide (nm = u.num))) && (decide (tx = u.text))) with
  | true =>
   obtain ⟨h7a, h7b⟩ := YC h7
   obtain ⟨h7aa, h7ab⟩ := YC h7a
   replace h7aa := dt h7aa
   replace h7ab := dt h7ab
   replace h7b := dt h7b
   refine JLq (pp b1 3) (ZP rfl rfl) <| JLr (Zd Yw rfl (At.bx 1 rfl) rfl <| JLq (pp b2 3) (ZP rfl rfl) <| JLr (Zd Yw rfl (At.bx 0 rfl) rfl <| Jc Tryz.call59 rfl (fun hin => eqFuncI_ct 21 [] [] (fun _ _ => rfl) _ _ _ _ _ (RIts.mono (Hle.hu _ _) hks) (RIts.mono (Hle.hu _ _) hksu) (fun x hx y hy a b h hh ra rb => ih x hx y a b h ra rb)) rfl ?_))
   rintro _ _ ⟨rfl, rfl⟩
   exact Zb ⟨⟨rfl, trivial⟩, rfl⟩
  | false =>
   exact Zy rfl ⟨rfl, trivial⟩
 refine JLn (Pu.pickAnd rfl rfl rfl) <| JLA rfl <| Zb <| Zl <| ⟨.bool ((((decide (kd = u.kind)) && (decide (nm = u.num))) && (decide (tx = u.text))) && (decide (kids = (u.kids)))), [], Ret.one rfl (RV.tmp rfl), Sub.nil, ?_⟩
 exact ⟨congrArg Value.bool (eqId ..), rfl⟩
end Go.Proofs.YtkjafeejpmcnkaaGreat.Hs
/-! Walks, printed by a program of this session's own (gen.py). -/
namespace Go.Proofs.YtkjafeejpmcnkaaGreat.Hs
open Go Go.Proofs
set_option maxRecDepth 100000
set_option linter.unusedVariables false
set_option linter.unusedSimpArgs false
attribute [local irreducible] JL J CT wlo DT
theorem spoilI_ct : ∀ (x : It) (cs : List Value) (k : Zi) (H : Heap), OIt x cs k → CT Tryz.prog 22 ⟨[.agg ⟨cs⟩]⟩ [k] H (fun v N => v = .tuple ⟨[]⟩ ∧ N = []) := by
 intro x
 induction x using It.ind with
 | h kd nm tx kids ih =>
 intro cs k H hO
 obtain ⟨kv, es, k1, k2, rfl, hk, hm, ho1, ho2, rfl, hlK⟩ := OIt_mk.1 hO
 refine Zm Tryz.func22 rfl rfl <| ZG (M' := [k1, k2]) (Sub.flat Sub.refl (by simp)) <| Zc <| Za <| JLr (Zq (l := [iv kd, iv nm, .string tx, kv]) rfl rfl fun b1 => Zb <| Zc <| Za <| JLq (pp b1 3) (ZP rfl rfl) <| JLr (Zd Yw rfl (At.bx 0 rfl) rfl ?_))
 obtain ⟨a2, cap2, hv2⟩ := ho1.sl
 rw [(XJ ho2)] at hv2
 refine JLn (Pu.lenSl Tryz.runUnderlying37 hv2) <| JLM rfl <| Zb <| Zn <| ZB (fun k ρ M => ∃ (j : Nat) (es5 : List (List Value)) (k5 c0 : Zi), ρ 1 = pp b1 0 ∧ ρ 5 = iv ((kids.length : Int)) ∧ ρ 6 = iv ((j : Int)) ∧ Sub [(BX b1 [iv kd, iv nm, .string tx, kv] 39), k5, c0] M ∧ j ≤ kids.length ∧ Own 39 4 kv es5 k5 ∧ es5.length = kids.length ∧ OIts (kids.drop j) (es5.drop j) c0 ∧ k = kids.length - j) _ ⟨0, es, k1, k2, rfl, rfl, rfl, (Sk (Sk (Sk Sub.nil))), Nat.zero_le _, ho1, XJ ho2, by simpa using ho2, rfl⟩ ?_
 rintro _ ρ3 _ ⟨j, es5, k5, c0, e4, e5, e6, hm7, hj, ho5, hl5, hr5, rfl⟩
 obtain ⟨ρ8, rfl⟩ := Zr (uc e4 (uc e5 (uc e6 un)))
 clear e4 e5 e6
 refine ZG hm7 <| Zc <| Za <| JLn (Pu.lss rfl rfl) <| Zb <| Zc <| Zg rfl (fun h9 => ?_) (fun h9 => ?_)
 ·replace h9 := dt h9
  have h9n : j < kids.length := by omega
  obtain ⟨e5, kc5, c5, hE, hO5, rfl, hR5⟩ := OIts.take hr5 h9n
  refine ZG (M' := [(BX b1 [iv kd, iv nm, .string tx, kv] 39), k5, kc5, c5]) (Sub.flat Sub.refl (by simp)) <| Zj <| Zc <| Zn <| Zc <| Za <| JLM rfl <| JLA rfl <| Zb <| Zc <| Za <| JLq (pp b1 3) (ZP rfl rfl) <| JLr (Zd Yw rfl (At.bx 0 rfl) rfl ?_)
  refine JLM rfl ?_
  obtain ⟨b10, cap10, row10, hv10, hm10, hs10⟩ := ho5.at' hE
  refine JLq (pp b10 (0 + j * 4)) (Pu.idx j Tryz.runUnderlying37 ZM hv10 rfl rfl (by rw [hl5]; exact h9n)) <| JLr (Zh ZM rfl (At.k 1 rfl hm10) hs10 <| ZA 2 rfl Tryz.call22 rfl rfl (fun hin => ih _ (List.getElem_mem h9n) _ _ _ hO5) rfl ?_)
  rintro _ _ ⟨rfl, rfl⟩
  refine Zb <| Za <| JLq (pp b1 3) (ZP rfl rfl) <| JLr (Zd Yw rfl (At.bx 0 rfl) rfl <| JLM rfl <| JLq (.agg ⟨[iv 0, iv 0, .string (⟨#[]⟩), nS]⟩) (Pu.build (pv := []) (l := [iv 0, iv 0, .string (⟨#[]⟩), nS]) rfl bld39_) ?_)
  obtain ⟨b11, cap11, row11, hv11, hm11, hs11⟩ := ho5.at' hE
  refine JLq (pp b11 (0 + j * 4)) (Pu.idx j Tryz.runUnderlying37 ZM hv11 rfl rfl (by rw [hl5]; exact h9n)) <| JLr (Xo (i := 1) (j := j) (b := b11) ZM rfl ho5 ⟨_, _, hv11⟩ rfl (by rw [hl5]; exact h9n) rfl rfl rfl (Zf rfl (Zf rfl (Zf rfl (Zf rfl Zo)))) fun k12 ho12 => Zb <| Za <| JLn (Pu.inc rfl rfl (by omega)) <| JLM rfl <| Zb <| ⟨_, ?_, (j + 1), (es5.set j ([iv 0, iv 0, .string (⟨#[]⟩), nS])), k12, c5, rfl, rfl, rfl, (Sk (Sk (Sk Sub.nil))), ?_, ?_, ?_, ?_, rfl⟩)
  ·omega
  ·omega
  ·exact ho12
  ·rw [List.length_set]; exact hl5
  exact hR5 _
 replace h9 := df h9
 have h9n : kids.length ≤ j := by omega
 refine Zz _ rfl <| ⟨.tuple ⟨[]⟩, [], Ret.none rfl, Sub.nil, ?_⟩
 exact ⟨rfl, rfl⟩
end Go.Proofs.YtkjafeejpmcnkaaGreat.Hs
/-! Walks, printed by a program of this session's own (gen.py). -/
namespace Go.Proofs.YtkjafeejpmcnkaaGreat.Hs
open Go Go.Proofs
set_option maxRecDepth 100000
set_option linter.unusedVariables false
set_option linter.unusedSimpArgs false
attribute [local irreducible] JL J CT wlo DT
theorem fromR2_ct (x : It) (cs : List Value) (H : Heap) (ht : RIt H cs x) (hz : szI x ≤ 10000) : CT Tryz.prog 17 ⟨[.agg ⟨cs⟩]⟩ [] H (fun r N => ∃ cs k, r = .tuple ⟨[.agg ⟨cs⟩, iv (fromP x).2]⟩ ∧ N = [k] ∧ OT (fromP x).1 cs k) := by have z := fromR_ct x cs H ht hz; rw [from_all (RIt_kd ht)] at z; exact z
set_option maxHeartbeats 4000000 in
theorem items_law (t : Tm) (x : It) (cs xs : List Value) (H : Heap) (ht : RT H cs t) (hx : RIt H xs x) : CT Tryz.prog 4 ⟨[.agg ⟨cs⟩, .agg ⟨xs⟩]⟩ [] H (fun v N => v = .bool true ∧ N = []) := by
 refine Zm Tryz.func4 rfl rfl <| Zc <| Za <| JLr (Zq (l := cs) rfl rfl fun b1 => JLr (Zq (l := xs) rfl rfl fun b2 => JLA rfl <| Zb <| Zc <| Zc <| Za <| JLr (Zh Zt rfl (At.bx 1 rfl) (Zs (Zu ht)) <| Jc Tryz.call11 rfl (fun hin => great_ct _ _ _ (RT.mono (Hle.hu _ _) ht)) rfl ?_)))
 rintro _ _ ⟨rfl, rfl⟩
 refine JLM rfl <| Zv 2 [22, 23] [(23, cond ((cnT stG 0 t 0).1) undef (.bool ((cnI x 0).1)))] ?_ fun f4 => ?_
 ·cases h3 : ((cnT stG 0 t 0).1) with
  | false =>
   refine JLr (Zh ZM rfl (At.bx 0 rfl) (Zs (YE hx)) <| Jc Tryz.call12 rfl (fun hin => greatIt_ct _ _ _ (RIt.mono (Hle.hu _ _) hx)) rfl ?_)
   rintro _ _ ⟨rfl, rfl⟩
   exact Zb ⟨⟨rfl, trivial⟩, rfl⟩
  | true =>
   exact Zy rfl ⟨rfl, trivial⟩
 refine JLn (Pu.pickOr rfl rfl rfl) <| Zb <| Zg rfl (fun h5 => ?_) (fun h5 => ?_)
 ·refine Zc <| Za <| Jc Tryz.call5 rfl (fun hin => awake_ct _) rfl ?_
  rintro _ _ ⟨rfl, rfl⟩
  refine JLA rfl <| Zb <| Zl <| ⟨.bool true, [], Ret.one rfl (RV.tmp rfl), Sub.nil, ?_⟩
  exact ⟨rfl, rfl⟩
 obtain ⟨h5a, h5b⟩ := orF h5
 refine Zj <| Zc <| Za <| JLr (Zh Zt rfl (At.bx 1 rfl) (Zs (Zu ht)) <| Jc Tryz.call13 rfl (fun hin => ownTerm_ct _ _ _ (RT.mono (Hle.hu _ _) ht) (by have := (great_size ‹(cnT stG 0 t 0).1 = false›); omega)) rfl ?_)
 rintro _ _ ⟨cs6, k6, rfl, rfl, hO6⟩
 refine JLr (Zk (l := pkT 0 0 zS nS nS) Tryz.zeroValue30 rfl fun b7 => JLr (Ze 0 (vs := cs6) (l := cs6) Zt rfl rfl rfl rfl hO6.len hO6.ok (ZK (n := 36) rfl hO6.len) <| Zb <| Zc <| Za <| JLr (Zh Zt rfl (At.bx 3 rfl) (Zs (Zu ht)) <| Jc Tryz.call14 rfl (fun hin => rightL_ct _ _ _ (RT.mono (Hle.hu _ _) ht) (by have := (great_size ‹(cnT stG 0 t 0).1 = false›); omega)) rfl ?_)))
 rintro _ _ ⟨rfl, rfl⟩
 refine JLM rfl <| JLn (Pu.extract rfl rfl) <| JLn (Pu.extract rfl rfl) <| JLA rfl <| JLA rfl <| Zb <| Zc <| Za <| JLr (Zk (l := [iv 0, iv 0, .string (⟨#[]⟩), nS]) Tryz.zeroValue39 rfl fun b8 => Zb <| Zc <| Za <| JLA rfl ?_)
 refine Zb <| Zc <| Zc <| Za <| JLM rfl <| Zb <| Xq (N := fun ρ M => ∃ (csI : List Value) (kI : Zi) (vB : Value) (kB : Zi), (OIt (if ZX 60 8 t = 0 then itT t else zI) csI kI) ∧ (Own 5 1 vB (Yd (if ZX 60 8 t = 0 then Xe (itT t) else [])) kB) ∧ ρ 2 = pp b1 0 ∧ ρ 3 = pp b2 0 ∧ ρ 4 = .bool false ∧ ρ 5 = pp b7 0 ∧ ρ 7 = iv (ZX 60 8 t) ∧ ρ 8 = pp b8 0 ∧ ρ 9 = vB ∧ Sub [(BX b8 csI 39), kI, kB, (BX b7 cs6 30), k6, (BX b2 xs 39), (BX b1 cs 30)] M) ?_ ?_
 ·refine Zg rfl (fun h9 => ?_) (fun h9 => ?_)
  ·replace h9 := dt h9
   have hck : ZX 60 8 t = 0 := of_decide_eq_true (by simpa using h9)
   have hrg := right_gd hck
   have hsz := (checkR_ok hck).1
   refine ZJ mixed #[0, 1, 0, 7, 15, 31] 3 [some 34, some 35, some 36] [] [(1, fun _ _ vw qw => ∃ cs k, vw = .agg ⟨cs⟩ ∧ qw = [k] ∧ OIt (itT t) cs k)] rfl (by kernel_rfl) rfl (by kernel_rfl) <| Dl Zt (At.bx 4 rfl) (Zs (Zu ht)) ?_
   refine Dc rfl Tryz.call15 (fun _ => rfl) (fun hin => tItemR_ct _ _ _ (RT.mono (Hle.hu _ _) ht) (by omega) hrg.1) ?_
   rintro _ _ ⟨cs11, k11, rfl, rfl, hO11⟩
   refine Dl Zt (At.bx 4 rfl) (Zs (Zu ht)) <| ZV (M' := [k11, (BX b8 [iv 0, iv 0, .string (⟨#[]⟩), nS] 39), (BX b7 cs6 30), k6, (BX b2 xs 39), (BX b1 cs 30)]) rfl ?_
   show JL _ _ _ [_, _, _] _ _ _
   refine Jc Tryz.call16 rfl (fun hin => encodeT_ct _ _ _ (RT.mono (Hle.hu _ _) ht) hck) rfl ?_
   rintro v12 _ ⟨k12, rfl, ho12⟩
   refine JLr (Ze 2 (vs := cs11) (l := cs11) ZM rfl rfl rfl rfl hO11.len hO11.ok (ZK (n := 4) rfl hO11.len) <| JLa v12 <| Zb ?_)
   exact ⟨cs11, k11, v12, k12, (by rw [if_pos hck]; exact hO11), (by rw [if_pos hck]; exact ho12), rfl, rfl, rfl, rfl, rfl, rfl, rfl, (Sub.cons 2 rfl (Sub.cons 1 rfl (Sk (Sk (Sk (Sk (Sk Sub.nil)))))))⟩
  replace h9 := df h9
  refine Zj ?_
  exact ⟨(pkI 0 0 ⟨#[]⟩ nS), [], nS, [], (by rw [if_neg h9]; exact OIt_zero), (by rw [if_neg h9]; exact Own.nil), rfl, rfl, rfl, rfl, rfl, rfl, rfl, (Sk (Sub.emp (Sub.emp (Sk (Sk (Sk (Sk Sub.nil)))))))⟩
 rintro ρ13 _ ⟨csI, kI, vB, kB, hoI, hoB, e14, e15, e16, e17, e18, e19, e20, hm21⟩
 obtain ⟨ρ22, rfl⟩ := Zr (uc e14 (uc e15 (uc e16 (uc e17 (uc e18 (uc e19 (uc e20 un)))))))
 clear e14 e15 e16 e17 e18 e19 e20
 refine ZG hm21 <| Zc <| Za <| JLr (Zh ZM rfl (At.bx 5 rfl) (Zs (YE hx)) <| Jc Tryz.call17 rfl (fun hin => fromR2_ct _ _ _ (RIt.mono (Hle.hu _ _) hx) (by have := cnI_size x 0 ‹(cnI x 0).1 = false›; omega)) rfl ?_)
 rintro _ _ ⟨cs23, k23, rfl, rfl, hO23⟩
 refine JLM rfl <| JLn (Pu.extract rfl rfl) <| JLn (Pu.extract rfl rfl) <| JLr (Zk (l := pkT 0 0 zS nS nS) Tryz.zeroValue30 rfl fun b24 => JLr (Ze 0 (vs := cs23) (l := cs23) Zt rfl rfl rfl rfl hO23.len hO23.ok (ZK (n := 36) rfl hO23.len) <| JLA rfl <| Zb <| Zc <| Za <| JLr (Zh Zt rfl (At.bx 5 rfl) (Zs hO6.len) <| Jc Tryz.call18 rfl (fun hin => itemE2_ct _ _ _ (hO6.rd (hin 6 _ rfl))) rfl ?_)))
 rintro _ _ ⟨cs25, k25, rfl, rfl, ho25⟩
 refine JLM rfl <| JLn (Pu.extract rfl rfl) <| JLn (Pu.extract rfl rfl) <| JLr (Zk (l := [iv 0, iv 0, .string (⟨#[]⟩), nS]) Tryz.zeroValue39 rfl fun b26 => JLr (Ze 0 (vs := cs25) (l := cs25) ZM rfl rfl rfl rfl ho25.len ho25.ok (ZK (n := 4) rfl ho25.len) <| JLA rfl <| Zb <| Zc <| Za <| JLr (Zh Zt rfl (At.bx 7 rfl) (Zs hO6.len) <| Jc Tryz.call19 rfl (fun hin => encodeP_ct _ _ _ (hO6.rd (hin 8 _ rfl))) rfl ?_)))
 rintro _ _ ⟨v27, k27, rfl, rfl, ho27⟩
 refine JLM rfl <| JLn (Pu.extract rfl rfl) <| JLn (Pu.extract rfl rfl) <| JLa v27 <| JLA rfl <| Zb <| Zc <| Za <| JLr (Zh ZM rfl (At.bx 10 rfl) (Zs (YE hx)) <| Jc Tryz.call20 rfl (fun hin => fromP_ct _ _ _ (RIt.mono (Hle.hu _ _) hx) (by have := cnI_size x 0 ‹(cnI x 0).1 = false›; omega)) rfl ?_)
 rintro _ _ ⟨cs28, k28, rfl, rfl, hO28⟩
 refine JLM rfl <| JLn (Pu.extract rfl rfl) <| JLn (Pu.extract rfl rfl) <| JLr (Zk (l := pkT 0 0 zS nS nS) Tryz.zeroValue30 rfl fun b29 => JLr (Ze 0 (vs := cs28) (l := cs28) Zt rfl rfl rfl rfl hO28.len hO28.ok (ZK (n := 36) rfl hO28.len) <| JLA rfl <| Zb <| Zc <| Zc <| Za <| JLM rfl <| JLM rfl <| JLq (.bool false) (Pu.castB (Pu.neq rfl rfl) (by simp)) ?_))
 refine JLM rfl <| JLM rfl <| JLM rfl <| JLq (.bool false) (Pu.castB (Pu.neq rfl rfl) (by simp)) <| JLq (.bool false) (Pu.pickF rfl rfl) <| JLM rfl <| JLr (Zh ZM rfl (At.bx 3 rfl) (Zs ho25.len) <| JLr (Zh ZM rfl (At.bx 7 rfl) (Zs hoI.len) <| Jc Tryz.call21 rfl (fun hin => bool_r (r := true) (sameItem_ct _ _ _ _ _ (ho25.rd (hin 4 _ rfl)) (hoI.rd (hin 8 _ rfl))) (decide_eq_true rfl)) rfl ?_))
 rintro _ _ ⟨rfl, rfl⟩
 refine JLq (.bool false) (show Pu _ _ _ (.bool (!true)) from Pu.not rfl) <| JLq (.bool false) (Pu.pickF rfl rfl) <| JLM rfl <| JLm v27 <| JLr (Runs_toStrO 2 rfl ho27 (by have := encLen t; omega) Tryz.runUnderlying22 Tryz.runUnderlying5 Tryz.runUnderlying9 rfl <| JLm vB <| JLr (Runs_toStrO 9 rfl hoB (by have := encLen t; omega) Tryz.runUnderlying22 Tryz.runUnderlying5 Tryz.runUnderlying9 rfl <| JLq (.bool false) (Pu.castB (Pu.neqS rfl rfl) (by simp)) <| JLq (.bool false) (Pu.pickF rfl rfl) <| JLM rfl <| JLr (Zh Zt rfl (At.bx 0 rfl) (Zs hO28.len) <| JLr (Zh Zt rfl (At.bx 5 rfl) (Zs hO23.len) <| JLM rfl ?_))))
 refine JLM rfl <| ZA 1 rfl Tryz.call9 rfl rfl (fun hin => bool_r (r := true) (told_ct _ _ _ _ _ _ _ _ hO28 (hO23.rd (hin 5 _ rfl))) (by simp)) rfl ?_
 rintro _ _ ⟨rfl, rfl⟩
 refine JLq (.bool false) (show Pu _ _ _ (.bool (!true)) from Pu.not rfl) <| JLq (.bool false) (Pu.pickF rfl rfl) <| Zb <| Zg (b := false) rfl (fun h => absurd h (by simp)) (fun _ => Zj <| Zc <| Za <| JLr (Zh ZM rfl (At.bx 2 rfl) (Zs ho25.len) <| ZA 3 rfl Tryz.call22 rfl rfl (fun hin => spoilI_ct _ _ _ _ ho25) rfl ?_))
 rintro _ _ ⟨rfl, rfl⟩
 refine Zb <| Zc <| Za <| JLr (Zh ZM rfl (At.bx 10 rfl) (Zs (YE hx)) <| Jc Tryz.call20 rfl (fun hin => fromP_ct _ _ _ (RIt.mono (Hle.hu _ _) hx) (by have := cnI_size x 0 ‹(cnI x 0).1 = false›; omega)) rfl ?_)
 rintro _ _ ⟨cs30, k30, rfl, rfl, hO30⟩
 refine JLM rfl <| JLn (Pu.extract rfl rfl) <| JLn (Pu.extract rfl rfl) <| JLr (Zk (l := pkT 0 0 zS nS nS) Tryz.zeroValue30 rfl fun b31 => JLr (Ze 0 (vs := cs30) (l := cs30) Zt rfl rfl rfl rfl hO30.len hO30.ok (ZK (n := 36) rfl hO30.len) <| JLA rfl <| Zb <| Zc <| Za <| JLM rfl <| JLM rfl <| JLq (.bool true) (Pu.castB (Pu.eql rfl rfl) (decide_eq_true rfl)) <| JLM rfl ?_))
 refine JLr (Zh Zt rfl (At.bx 0 rfl) (Zs hO30.len) <| JLr (Zh Zt rfl (At.bx 5 rfl) (Zs hO23.len) <| Jc Tryz.call23 rfl (fun hin => bool_r (r := true) (Xr _ _ _ _ _ (hO30.rd (hin 1 _ rfl)) (hO23.rd (hin 6 _ rfl))) (decide_eq_true rfl)) rfl ?_))
 rintro _ _ ⟨rfl, rfl⟩
 refine JLq (.bool true) (Pu.pickT rfl rfl) <| JLM rfl <| JLr (Zh Zt rfl (At.bx 10 rfl) (Zs hO6.len) <| JLr (Zh Zt rfl (At.bx 13 rfl) (Zs (Zu ht)) <| Jc Tryz.call23 rfl (fun hin => bool_r (r := true) (Xr _ _ _ _ _ (hO6.rd (hin 11 _ rfl)) (RT.mono (Hle.hu _ _) ht)) (decide_eq_true rfl)) rfl ?_))
 rintro _ _ ⟨rfl, rfl⟩
 refine JLq (.bool true) (Pu.pickT rfl rfl) <| JLM rfl <| Jc Tryz.call5 rfl (fun hin => awake_ct _) rfl ?_
 rintro _ _ ⟨rfl, rfl⟩
 refine JLq (.bool true) (Pu.pickT rfl rfl) <| JLA rfl <| Zb <| Zl <| ⟨.bool true, [], Ret.one rfl (RV.tmp rfl), Sub.nil, ?_⟩
 exact ⟨rfl, rfl⟩
end Go.Proofs.YtkjafeejpmcnkaaGreat.Hs
/-! What comes in, as the claims read it, is an item. -/
namespace Go.Proofs.YtkjafeejpmcnkaaGreat.Hs
open Go Go.Proofs
section
variable {Ht : Type} {enc : TypeId × Value → Ht} {w : World} {base : Nat} {spare : Nat → Bool} {held : Bool} {H : Heap}
theorem trod_RIt (hH : ∀ b o, w.heap[b]? = some o → H b = some o) : ∀ (fuel : Nat) (cs : List Value) (x : DataW Ht × List MemPlace), DataW.trod enc Tryz.prog w base spare held fuel 39 cs = some x → ∃ p, RIt H cs p := by
  intro fuel
  induction fuel using Nat.strongRecOn with
  | ind fuel ih =>
    intro cs x h
    obtain ⟨xs, n, rfl, _, hl, hxl, hf⟩ := DataW.trod_struct Tryz.underlying39 h
    have hc : Tryz.prog.cellsOf 39 = 4 := by kernel_rfl
    rw [hc] at hl
    have hx : xs.length = 4 := hxl
    have get : ∀ i (hi : i < 4), ∃ y, xs[i]? = some y := fun i hi => ⟨_, List.getElem?_eq_getElem (by omega)⟩
    obtain ⟨y0, e0⟩ := get 0 (by decide)
    obtain ⟨y1, e1⟩ := get 1 (by decide)
    obtain ⟨y2, e2⟩ := get 2 (by decide)
    obtain ⟨y3, e3⟩ := get 3 (by decide)
    have f0 : DataW.trod enc Tryz.prog w base spare held n 3 ((cs.drop 0).take (Tryz.prog.cellsOf 3)) = some y0 := (hf 0 _ rfl).trans e0
    have f1 : DataW.trod enc Tryz.prog w base spare held n 3 ((cs.drop 1).take (Tryz.prog.cellsOf 3)) = some y1 := (hf 1 _ rfl).trans e1
    have f2 : DataW.trod enc Tryz.prog w base spare held n 9 ((cs.drop 2).take (Tryz.prog.cellsOf 9)) = some y2 := (hf 2 _ rfl).trans e2
    have f3 : DataW.trod enc Tryz.prog w base spare held n 37 ((cs.drop 3).take (Tryz.prog.cellsOf 37)) = some y3 := (hf 3 _ rfl).trans e3
    rw [show Tryz.prog.cellsOf 3 = 1 from by kernel_rfl] at f0 f1
    rw [show Tryz.prog.cellsOf 9 = 1 from by kernel_rfl] at f2
    rw [show Tryz.prog.cellsOf 37 = 1 from by kernel_rfl] at f3
    obtain ⟨k, hk, _, wk⟩ := DataW.trod_int Tryz.underlying3 f0
    obtain ⟨m, hm, _, wm⟩ := DataW.trod_int Tryz.underlying3 f1
    obtain ⟨s, hs, _, _⟩ := DataW.trod_string Tryz.underlying9 f2
    obtain ⟨ks, kids, hks, hkids⟩ := slice_rd (E := RIt) (sz := 4) hH Tryz.underlying37 hc (by decide) (fun m hm cs x => ih m (by omega) cs x) f3
    refine ⟨.mk k m s kids, RIt_mk.2 ⟨ks, ?_, wf_inI wk, wf_inI wm, hkids⟩⟩
    have a0 := take1 hk
    have a1 := take1 hm
    have a2 := take1 hs
    have a3 := take1 hks
    rw [List.drop_zero] at a0
    have a4 : cs.drop 4 = [] := List.drop_eq_nil_of_le (by omega)
    rw [a0, a1, a2, a3, a4]
end
end Go.Proofs.YtkjafeejpmcnkaaGreat.Hs
namespace Go.Proofs.YtkjafeejpmcnkaaGreat
open Go Go.Proofs Go.ChangeShapes Go.WideShapes
set_option maxRecDepth 100000
/-- An item that comes in. -/
theorem item_in {Ht : Type} {enc : TypeId × Value → Ht} {W : World} {base b0 : Nat} {sp : Nat → Bool} {held : Bool} {v : Value} {d : DataW Ht} {ps : List MemPlace} (hv : Value.okWide Tryz.prog W .any b0 39 v) (h : DataW.Trod enc Tryz.prog W base sp held 39 v d ps) :
    ∃ cs x, v = .agg ⟨cs⟩ ∧ Hs.RIt (lentOf W) cs x := by
  obtain ⟨⟨cs⟩, rfl, _⟩ := okWide_struct Tryz.underlying39 hv
  obtain ⟨fuel, hf⟩ := h
  obtain ⟨t, ht⟩ := Hs.trod_RIt (H := lentOf W) (fun _ _ h => h) fuel cs _ hf
  exact ⟨cs, t, rfl, ht⟩
end Go.Proofs.YtkjafeejpmcnkaaGreat
