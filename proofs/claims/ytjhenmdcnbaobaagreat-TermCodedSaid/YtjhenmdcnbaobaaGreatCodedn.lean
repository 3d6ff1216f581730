import Derived.Test.YtjhenmdcnbaobaaGreatCodedm
import Derived.Laws.IdiomStrings
/-! Bytes written: numbers, strings as bytes, room made ahead. -/
namespace Go.Proofs.YtjhenmdcnbaobaaGreat.Hs
open Go Go.Proofs
set_option maxRecDepth 100000
theorem cg2 {α β γ : Sort _} (f : α → β → γ) {a a' : α} {b b' : β} (h : a = a') (h' : b = b') : f a b = f a' b' := by subst h h'; rfl
theorem w8b {n : Int} (h : 0 ≤ n ∧ n < 256) : IntKind.u8.wrap n = n := by
  have e : IntKind.u8.wrap n = n % 256 := rfl
  rw [e]; omega
theorem and7n {m : Nat} (h : m ≤ 4611686018427387904) : IntKind.i64.wrap ((BitVec.ofInt IntKind.i64.bits (m : Int) &&& BitVec.ofInt IntKind.i64.bits 127).toNat : Int) = ((m % 128 : Nat) : Int) := by
  rw [show (127 : Int) = ((127 : Nat) : Int) from rfl, show IntKind.i64.bits = 64 from rfl, BitVec.ofInt_natCast, BitVec.ofInt_natCast, BitVec.toNat_and, BitVec.toNat_ofNat, BitVec.toNat_ofNat, Nat.mod_eq_of_lt (by omega), Nat.mod_eq_of_lt (by omega)]
  have h2 := Nat.and_two_pow_sub_one_eq_mod m 7
  rw [show (2 : Nat) ^ 7 - 1 = 127 from rfl, show (2 : Nat) ^ 7 = 128 from rfl] at h2
  rw [h2]
  exact w64 (by omega)
theorem or7n {x : Nat} (h : x < 128) : IntKind.i64.wrap ((BitVec.ofInt IntKind.i64.bits (x : Int) ||| BitVec.ofInt IntKind.i64.bits 128).toNat : Int) = ((x + 128 : Nat) : Int) := by
  have := or_add (n := (x : Int)) (x := 1) (i := 7) (by omega) (by omega) (by simp; omega) (by simp; omega)
  rw [show (1 : Int) * 2 ^ 7 = 128 from rfl] at this
  rw [this]; omega
section
variable {P : Program} {e : Operand → Value} {d : Option Nat} {T : TypeId} {T' : TypeId} {ot : TypeId} {pos : String} {af : Array Edge} {g : Option (Nat × Bool)} {x y : Operand}
theorem Pu.bshr {k k' : IntKind} {a b v : Int} (hx : e x = .int k a) (hy : e y = .int k' b) (h0 : 0 ≤ b) (hv : a.fdiv (2 ^ (min b.toNat k.bits)) = v) : Pu P e ⟨d, .binOp .shr T x y T', ot, pos, af, g⟩ (.int k v) := fun w => by
  simp only [execOp, hx, hy, eqGuard, binOp, Op.shift]; simp [hv, show ¬ b < 0 from by omega]
theorem shr7n (m : Nat) : (m : Int).fdiv (2 ^ (min (7 : Int).toNat IntKind.i64.bits)) = ((m / 128 : Nat) : Int) := by
  rw [show min (7 : Int).toNat IntKind.i64.bits = 7 from rfl, show ((2 : Int) ^ 7) = ((128 : Nat) : Int) from rfl]
  exact (Int.ofNat_fdiv m 128).symm
theorem Pu.capNil {el : TypeId} (hT : ∀ w, (underlying T).run P w = .ok (.slice el) w) (hx : e x = .slice none 0 0) : Pu P e ⟨d, .call { callee := .builtin .cap, args := #[x], argTypes := #[T] }, ot, pos, af, g⟩ (.int .i64 0) := fun w => by
  simp [execOp, resolve, invoke, builtin, hx, Builtin.cap_, hT, goInt]
theorem Pu.sliceTo0 {el : TypeId} {a : Option Addr} {n cap : Nat} {k : IntKind} (hT : ∀ w, (underlying T).run P w = .ok (.slice el) w) (hsz : ∀ w, (sizeOf el).run P w = .ok 1 w) (hx : e x = .slice a n cap) (hy : e y = .int k 0) :
    Pu P e ⟨d, .slice T x none (some y) none, ot, pos, af, g⟩ (.slice a 0 cap) := fun w => by
  have ea : (if cap = 0 then a else a.map (·.add (0 * 1))) = a := by
    cases a with
    | none => simp
    | some a => simp [Addr.add]
  simp [execOp, Instr.sliceAt, Instr.slice, Instr.sliceBounds, Instr.sliceBound, asIntOf, hx, hy, hT, hsz, Result.andThen]
  cases a with
  | none => simp
  | some a => simp [Addr.add]
end
def RBB (h : Heap) (cs : List Value) (l : List Int) : Prop := ∃ v, cs = [v] ∧ Hs.rdS RB 1 h v l
theorem RBBs.mono {h h' : Heap} (hh : Hle h h') {v : Value} {ll : List (List Int)} (q : Hs.rdS RBB 1 h v ll) : Hs.rdS RBB 1 h' v ll := rdS.mono q hh fun _ _ _ ⟨v, e, r⟩ => ⟨v, e, RBs.mono hh r⟩
/-- several slices of bytes -/
theorem Own.rdBB {T : TypeId} {v : Value} {es : List (List Value)} {k : Zh} {h : Heap} {ll : List (List Int)} (o : Own T 1 v es k) (hk : Has k h) (hl : ll.length = es.length) (hn : ll.length ≤ 9223372036854775807) (hr : ∀ i (h1 : i < es.length) (h2 : i < ll.length), RBB h es[i] ll[i]) : Hs.rdS RBB 1 h v ll :=
  o.rdS hl hn hk hr
theorem Own.rdBB2 {T : TypeId} {v a b : Value} {k : Zh} {h : Heap} {l m : List Int} (o : Own T 1 v [[a], [b]] k) (hk : Has k h) (h1 : Hs.rdS RB 1 h a l) (h2 : Hs.rdS RB 1 h b m) : Hs.rdS RBB 1 h v [l, m] :=
  o.rdBB hk rfl (by simp) fun i hi _ => by
    have : i = 0 ∨ i = 1 := by simp at hi; omega
    rcases this with rfl | rfl
    · exact ⟨a, rfl, h1⟩
    · exact ⟨b, rfl, h2⟩
theorem Own.rdBB4 {T : TypeId} {v a b c d : Value} {k : Zh} {h : Heap} {l m n p : List Int} (o : Own T 1 v [[a], [b], [c], [d]] k) (hk : Has k h) (h1 : Hs.rdS RB 1 h a l) (h2 : Hs.rdS RB 1 h b m) (h3 : Hs.rdS RB 1 h c n) (h4 : Hs.rdS RB 1 h d p) : Hs.rdS RBB 1 h v [l, m, n, p] :=
  o.rdBB hk rfl (by simp) fun i hi _ => by
    have : i = 0 ∨ i = 1 ∨ i = 2 ∨ i = 3 := by simp at hi; omega
    rcases this with rfl | rfl | rfl | rfl
    · exact ⟨a, rfl, h1⟩
    · exact ⟨b, rfl, h2⟩
    · exact ⟨c, rfl, h3⟩
    · exact ⟨d, rfl, h4⟩
theorem flat_snoc {ll : List (List Int)} {j : Nat} (h : j < ll.length) : (ll.take (j + 1)).flatten = (ll.take j).flatten ++ ll[j] := by
  rw [List.take_succ_eq_append_getElem h, List.flatten_append]; simp
theorem flat_le {ll : List (List Int)} {j : Nat} (h : j < ll.length) : (ll.take j).flatten.length + ll[j].length ≤ ll.flatten.length := by
  rw [← List.length_append, ← flat_snoc h]
  have : ll.flatten = (ll.take (j + 1)).flatten ++ (ll.drop (j + 1)).flatten := by rw [← List.flatten_append, List.take_append_drop]
  rw [this, List.length_append]; omega
theorem own_srcB {P : Program} {H : Heap} {T : TypeId} {v : Value} {l : List Int} {k : Zh} {M : List Zh} {i : Nat} (o : Own T 1 v (YK l) k) (hi : M[i]? = some k) : ∀ F w, Mem w (M.flatten ++ F) H → Src P 1 w v l.length (YK l).flatten := by
  intro F w m
  rcases o.2 with ⟨e, e2, e3⟩ | ⟨b, cap, sp, e, e2, e3, e4⟩
  · have : l = [] := by have := Yh l; rw [e2] at this; exact List.eq_nil_of_length_eq_zero this.symm
    subst this
    rw [e]; exact Src.nil
  · subst e
    have hb : w.heap[b]? = some (.cells ⟨(YK l).flatten ++ sp⟩ T (0, 0)) := (At.k (M := M) (H := H) i hi (by rw [e2]; simp)).heap m
    have := Src.row (P := P) (cap := cap) (n := l.length) hb (by have := sub_flat (sp := sp) o.1; rwa [Yh] at this)
    rwa [Yh]
section
variable {c : Cx} {H : Heap} {ρ : Nat → Value} {M : List Zh} {K : Value → List Zh → Prop} {d : Option Nat} {ot : TypeId} {pos : String} {af : Array Edge} {g : Option (Nat × Bool)} {x y : Operand}
/-- the bytes of a string, in memory of their own -/
theorem Runs_toBytes {T T' el : TypeId} {s : ByteArray} (hs : c.P.underlying T = some .string) (hd : c.P.underlying T' = some (.slice el)) (he : c.P.underlying el = some (.int .u8)) (hn : s.size ≤ 9223372036854775807) (hx : ev c.n ρ x = .string s)
    (h : ∀ v k, v.oneCell' = true → (∀ h, Has k h → Hs.rdS RB 1 h v (sB s)) → K v (k :: M)) : Runs c H ⟨d, .convert T T' x, ot, pos, af, g⟩ ρ M K := fun F w m => by
  have hr := run_bytes_of_string w T T' el s hs hd he
  refine ⟨_, w.drew.alloc (.cells (bytesRow s (grownCap w s.size 0 el)) el ((bytesRow s (grownCap w s.size 0 el)).size, (bytesRow s (grownCap w s.size 0 el)).size + 1)), _, .inl ?_, ?_, h (.slice (some ⟨w.heap.size, 0, none⟩) s.size (grownCap w s.size 0 el)) [(w.heap.size, .cells (bytesRow s (grownCap w s.size 0 el)) el ((bytesRow s (grownCap w s.size 0 el)).size, (bytesRow s (grownCap w s.size 0 el)).size + 1))] rfl ?_⟩
  · simp only [execOp, hx]
    simp only [Sem.run_bind, hr, Result.andThen_ok, Sem.run_pure]
  · exact m.push (w' := w.drew.alloc _) rfl
  · intro h hk
    have hb := hk w.heap.size _ (List.mem_singleton.2 rfl)
    refine ⟨some ⟨w.heap.size, 0, none⟩, grownCap w s.size 0 el, by rw [Ys], by rw [Ys]; exact hn, .inr ⟨w.heap.size, 0, (bytesRow s (grownCap w s.size 0 el)).toList, el, _, rfl, hb, rows.mk fun i hi => ⟨[.int .u8 (sB s)[i]], ?_, rfl⟩⟩⟩
    have hl : i < s.data.toList.length := by rw [Ys] at hi; exact hi
    have e : (bytesRow s (grownCap w s.size 0 el)).toList = (sB s).map (fun n => Value.int .u8 n) ++ List.replicate (grownCap w s.size 0 el - s.size) (.int .u8 0) := by
      unfold bytesRow sB
      simp [List.map_map]
    rw [e, show 0 + i * 1 = i from by omega, sub_mk (by rw [List.length_append, List.length_map]; omega)]
    congr 1
    rw [List.drop_append_of_le_length (by rw [List.length_map]; omega), List.drop_eq_getElem_cons (by rw [List.length_map]; exact hi), List.cons_append, List.take_succ_cons, List.take_zero, List.getElem_map]
/-- room made ahead: zeros appended to none -/
theorem Runs_appendZ {T T₂ el : TypeId} {by_ n : Nat} {z : Value} {kd : IntKind} (hT : ∀ w, (underlying T).run c.P w = .ok (.slice el) w) (hT₂ : ∀ w, (underlying T₂).run c.P w = .ok (.int kd) w) (hel : El c.P el 1 by_ z)
    (hx : ev c.n ρ x = .slice none 0 0) (hy : ev c.n ρ y = .int .i64 (n : Int)) (h0 : 0 < n) (hb1 : 0 < by_) (hb : n * by_ ≤ 140737488355328)
    (h : ∀ b cap (Z : List Value), Z.length = cap → n ≤ cap → K (.slice (some ⟨b, 0, none⟩) n cap) ([(b, .cells ⟨Z⟩ el (0, 0))] :: M)) :
    Runs c H ⟨d, .call { callee := .builtin .append, args := #[x, y], argTypes := #[T, T₂] }, ot, pos, af, g⟩ ρ M K := fun F w m => by
  obtain ⟨ti, hti, hti1, hti2, hti3⟩ := hel.info
  have hnb : n ≤ 140737488355328 := by
    have : n * 1 ≤ n * by_ := Nat.mul_le_mul_left _ hb1
    omega
  have hfit := growslice_fits (need := n) (old := 0) (bytes := by_) h0 hb
  have h3 : ¬ (Builtin.nextslicecap n 0 * by_ > 2 ^ 48) := by omega
  have h2 : by_ ≠ 0 := by omega
  have w1 : IntKind.i64.wrap (n : Int) = n := w64 (by omega)
  have n1 : ¬ ((n : Int) < 0) := by omega
  have n2 : ¬ ((n : Int) * (by_ : Int) > 2 ^ 48) := by
    have : ((n * by_ : Nat) : Int) ≤ 140737488355328 := by omega
    rw [Int.natCast_mul] at this
    rw [show (2 : Int) ^ 48 = 281474976710656 from rfl]; omega
  have n3 : ¬ (n ≤ 0) := by omega
  have n4 : n ≠ 0 := by omega
  have n5 : ¬ ((n : Int) > IntKind.i64.max) := by
    have : IntKind.i64.max = 9223372036854775807 := by decide
    omega
  let newCap := grownCap w n 0 el
  have hcap : n ≤ newCap := by simp only [newCap, grownCap, Question.cut]; omega
  have hzz : ∀ m, (Builtin.zeroCells z.cells m).size = m := fun m => by rw [zeroCells_size, hel.zsz]; omega
  have hrun : (execOp (ev c.n ρ) ⟨d, .call { callee := .builtin .append, args := #[x, y], argTypes := #[T, T₂] }, ot, pos, af, g⟩).run c.P w =
      .ok (.value (.slice (some ⟨w.heap.size, 0, none⟩) n newCap)) (w.drew.alloc (.cells (#[] ++ Builtin.zeroCells z.cells n ++ Builtin.zeroCells z.cells (newCap - n)) el)) := by
    simp only [execOp, resolve, invoke, builtin, List.map_toArray, List.map_cons, List.map_nil, hx, hy, Sem.run_bind, Sem.run_pure, Result.andThen_ok, Builtin.append_]
    simp only [List.getElem?_toArray, List.getElem?_cons_zero, List.getElem?_cons_succ, Sem.run_bind, hT, hT₂, hel.size, Result.andThen_ok, Sem.run_pure, if_true, asInt, asIntOf, w1, n1, if_false, hti, hti2, Nat.zero_add, Bool.not_true, Bool.false_eq_true, Nat.mul_one, Builtin.firstCells, Sem.run_ite, n2, Int.toNat_natCast, n3, n5, h2, or_false, and_true, h3, run_choose, Question.forced, run_askRoom, n4, hel.zero, newRow, run_newObj]
    rfl
  refine ⟨_, _, [(w.heap.size, .cells (#[] ++ Builtin.zeroCells z.cells n ++ Builtin.zeroCells z.cells (newCap - n)) el (0, 0))] :: M, .inl hrun, m.push (w' := w.drew.alloc _) rfl, ?_⟩
  have := h w.heap.size newCap ((#[] ++ Builtin.zeroCells z.cells n ++ Builtin.zeroCells z.cells (newCap - n)) : Array Value).toList (by simp [hzz]; omega) hcap
  exact this
end
end Go.Proofs.YtjhenmdcnbaobaaGreat.Hs
/-! The first ones of bytes that are owned. -/
namespace Go.Proofs.YtjhenmdcnbaobaaGreat.Hs
open Go Go.Proofs
theorem own_cap {T : TypeId} {sz : Nat} {v : Value} {es : List (List Value)} {k : Zh} (h : Own T sz v es k) : ∃ a cap, v = .slice a es.length cap ∧ es.length ≤ cap := by
  obtain ⟨_, h⟩ := h
  rcases h with ⟨rfl, rfl, _⟩ | ⟨b, cap, spare, rfl, _, _, h⟩
  · exact ⟨none, 0, rfl, Nat.le_refl _⟩
  · exact ⟨_, cap, rfl, h⟩
section
variable {c : Cx} {H : Heap} {ρ : Nat → Value} {M : List Zh} {K : Value → List Zh → Prop} {d : Option Nat} {ot : TypeId} {pos : String} {af : Array Edge} {g : Option (Nat × Bool)} {x y : Operand}
theorem Runs_sliceO {T el E : TypeId} {v : Value} {l : List Int} {kc : Zh} {n : Nat} {i : Int} (ho : Own E 1 v (YK l) kc) (hi : i = (n : Int)) (hn : n ≤ l.length) (hl : l.length ≤ 9223372036854775807) (hT : ∀ w, (underlying T).run c.P w = .ok (.slice el) w) (hsz : ∀ w, (sizeOf el).run c.P w = .ok 1 w) (hx : ev c.n ρ x = v) (hy : ev c.n ρ y = .int .i64 i)
    (h : ∀ u, (∀ h, Has kc h → Hs.rdS RB 1 h u (l.take n)) → u.oneCell' = true → K u M) : Runs c H ⟨d, .slice T x none (some y) none, ot, pos, af, g⟩ ρ M K := fun F w m => by
  subst hi
  obtain ⟨a, cap, rfl, h2⟩ := own_cap ho
  rw [Yh] at ho h2 hx
  refine ⟨_, w, M, .inl ?_, m, h (.slice (if cap = 0 then a else a.map (·.add (0 * 1))) n cap) (fun h' q => rd_take (YU ho hl q) n hn) rfl⟩
  have : ((n : Int) ≤ (cap : Int)) := by omega
  have h3 : n ≤ cap := by omega
  simp [execOp, Instr.sliceAt, Instr.slice, Instr.sliceBounds, Instr.sliceBound, asIntOf, hx, hy, hT, hsz, Result.andThen, h3]
end
end Go.Proofs.YtjhenmdcnbaobaaGreat.Hs
/-! Walks, printed by a program of this session's own (gen.py). -/
namespace Go.Proofs.YtjhenmdcnbaobaaGreat.Hs
open Go Go.Proofs
set_option maxRecDepth 100000
set_option linter.unusedVariables false
set_option linter.unusedSimpArgs false
attribute [local irreducible] JL J CT wlo DT
theorem shortB_ct (aS : _) (n cap : Nat) (H : Heap) (hn : n ≤ 65536) : CT Tryz.prog 62 ⟨[.slice aS n cap]⟩ [] H (fun v N => v = .tuple ⟨[.slice aS n cap, iv 0]⟩ ∧ N = []) := by
 refine Zk Tryz.func62 rfl rfl <| Zc <| Za <| JLA rfl <| JLA rfl <| Zb <| Zc <| Za <| JLA rfl <| Zb <| Zc <| Zc <| Za ?_
 refine JLM rfl <| JLn (Pu.lenSl Tryz.runUnderlying22 rfl) <| JLn (Pu.gtr rfl rfl) <| Zb <| Zg rfl (fun h1 => ?_) (fun h1 => ?_)
 ·replace h1 := dt h1
  exfalso; omega
 replace h1 := df h1
 refine Zm <| Zc <| Za <| JLM rfl <| JLA rfl <| JLA rfl <| Zb <| Zj <| ⟨.tuple ⟨[.slice aS n cap, iv 0]⟩, [], Ret.two rfl (RV.tmp rfl) (RV.tmp rfl), Sub.nil, ?_⟩
 exact ⟨rfl, rfl⟩
theorem within_ct (cs : List Value) (H : Heap) (hl : cs.length = 4) : CT Tryz.prog 116 ⟨[.agg ⟨cs⟩]⟩ [] H (fun v N => ∃ b, v = .func (.func 143) ⟨[]⟩ ⟨[pp b 0]⟩ ∧ N = [(BX b cs 40)]) := by
 refine Zk Tryz.func116 rfl rfl <| Zc <| Za <| JLr (Zr (l := cs) rfl rfl fun b1 => JLa .nilFunc <| Zb <| Zc <| Za <| JLq (.func (.func 143) ⟨[]⟩ ⟨[pp b1 0]⟩) (Pu.makeFunc rfl rfl) <| JLA rfl <| Zb <| Zj <| ⟨.func (.func 143) ⟨[]⟩ ⟨[pp b1 0]⟩, [(BX b1 cs 40)], Ret.one rfl (RV.tmp rfl), (Sk Sub.nil), ?_⟩)
 exact ⟨_, rfl, rfl⟩
set_option maxHeartbeats 2000000 in
theorem walkW_ct : ∀ (l : Nat) (yc : Int → Zh) (bY bW : Nat) (x : It) (lv n : Int) (cs : List Value) (H : Heap), RIt H cs x → gdI x → 1 ≤ lv → lv + dpI x ≤ 251 → 0 ≤ n → n + szI x ≤ 5000 → H bY = some (.cells ⟨[.func (.yield l) ⟨[]⟩ ⟨[]⟩]⟩ 213 (0, 0)) → H bW = some (.cells ⟨[.func (.func 144) ⟨[]⟩ ⟨[pp bY 0, pp bW 0]⟩]⟩ 213 (0, 0)) → (∀ (y : It) (lv n : Int) (a : List Value) (h : Heap), gdI y → 1 ≤ lv → lv ≤ 250 → 0 ≤ n → n + 1 ≤ 5000 → Hle H h → RIt h a y → YT Tryz.prog l ⟨[iv lv, .agg ⟨a⟩]⟩ [yc n] h (fun v N => v = .bool true ∧ N = [yc (n + 1)])) → CT Tryz.prog 144 ⟨[iv lv, .agg ⟨cs⟩, pp bY 0, pp bW 0]⟩ [yc n] H (fun v N => v = .bool true ∧ N = [yc (n + szI x)]) := by
 intro l yc bY bW x
 induction x using It.ind with
 | h kd nm tx kids ih =>
 intro lv n cs H ht hgd hl0 hlv hn0 hnz hHY hHW hy
 obtain ⟨kv, rfl, hk, hm, hks⟩ := RIt_mk.1 ht
 have hg := hgd
 rw [gdI] at hg
 rw [szI] at hnz
 rw [dpI] at hlv
 have hle := hks.le
 have hdn := dpIs_nn kids
 refine Zk Tryz.func144 rfl rfl <| Zc <| Za <| JLr (Zr (l := [iv kd, iv nm, .string tx, kv]) rfl rfl fun b1 => JLA rfl <| Zb <| Zc <| Zc <| Za <| JLr (Ze ty213 rfl (At.im hHY) rfl <| JLM rfl <| JLr (Zl ZO rfl (At.bx 0 rfl) rfl <| JL_yield1 1 rfl rfl rfl (fun hin => hy _ _ _ _ _ hgd (by omega) (by omega) (by omega) (by omega) (Hle.hu _ _) (RIt.mono (Hle.hu _ _) (RIt_mk.2 ⟨kv, rfl, hk, hm, hks⟩))) rfl ?_)))
 rintro _ _ ⟨rfl, rfl⟩
 refine JLq (.bool false) (show Pu _ _ _ (.bool (!true)) from Pu.not rfl) <| Zb <| Zg (b := false) rfl (fun h => absurd h (by simp)) (fun _ => Zm <| Zc <| Zc <| Za <| JLq (pp b1 3) (Y0 rfl rfl) <| JLr (Ze ty38 rfl (At.bx 1 rfl) rfl ?_))
 obtain ⟨a2, cap2, hv2⟩ := hks.sl
 have hle2 := hks.le
 refine JLn (Pu.lenSl Tryz.runUnderlying38 hv2) <| JLM rfl <| Zb <| Zq <| ZS (fun k ρ M => ∃ (j : Nat) (nn : Int), ρ 0 = iv lv ∧ ρ 3 = pp bW 0 ∧ ρ 6 = .bool false ∧ ρ 15 = kv ∧ ρ 16 = iv ((kids.length : Int)) ∧ ρ 17 = iv ((j : Int)) ∧ Sub [yc nn] M ∧ j ≤ kids.length ∧ nn + Z5 (kids.drop j) = n + 1 + Z5 kids ∧ 0 ≤ nn ∧ k = kids.length - j) _ ⟨0, n + 1, rfl, rfl, rfl, rfl, rfl, rfl, (Sk Sub.nil), Nat.zero_le _, (by simp), (by omega), rfl⟩ ?_
 rintro _ ρ3 _ ⟨j, nn, e4, e5, e6, e7, e8, e9, hm10, hj, hnn, hn1, rfl⟩
 obtain ⟨ρ11, rfl⟩ := Zo (uc e4 (uc e5 (uc e6 (uc e7 (uc e8 (uc e9 un))))))
 clear e4 e5 e6 e7 e8 e9
 refine ZY hm10 ?_
 have hlen := hks.le
 refine Zc <| Za <| JLn (Pu.lss rfl rfl) <| Zb <| Zc <| Zg rfl (fun h12 => ?_) (fun h12 => ?_)
 ·replace h12 := dt h12
  have h12n : j < kids.length := by omega
  have hs1 := szIs_mem (List.getElem_mem h12n)
  have hs2 := szIs_drop h12n
  have hd1 := dpIs_mem (List.getElem_mem h12n)
  have hgj := gdIs_mem hg.2.2.2 _ (List.getElem_mem h12n)
  refine Zm <| Zc <| Zq <| Zc <| Za ?_
  obtain ⟨b13, o13, cap13, row13, T13, fr13, cs13, hv13, hb13, hs13, hE13⟩ := hks.get j (by first | assumption | omega | decide | simp)
  obtain ⟨ki13, rfl, hik13, hin13, hks13⟩ := RIt_open hE13
  refine JLq (pp b13 (o13 + j * 4)) (Pu.idx j Tryz.runUnderlying38 ZO hv13 rfl rfl (by first | assumption | omega | decide | simp)) <| JLr (Zl ZO rfl (At.im hb13) hs13 <| JLr (Zi (l := [iv 0, iv 0, .string (⟨#[]⟩), nS]) Tryz.zeroValue40 rfl fun b14 => JLr (Zd 0 (vs := [iv ((kids[j]).kind), iv ((kids[j]).num), .string ((kids[j]).text), ki13]) (l := [iv ((kids[j]).kind), iv ((kids[j]).num), .string ((kids[j]).text), ki13]) ZO rfl rfl rfl rfl rfl (Zf rfl (Zf rfl (Zf rfl (Zf hks13.one Zn)))) rfl <| Zb <| Zc <| Za <| JLr (Ze ty213 rfl (At.im hHW) rfl <| JLM rfl <| JLn (Pu.add64 rfl rfl (by first | omega | (constructor <;> omega))) <| JLr (Zl ZO rfl (At.bx 0 rfl) rfl <| Zs 1 rfl Tryz.call144 rfl rfl (fun hin => ih _ (List.getElem_mem h12n) _ _ _ _ (RIt.mono (Hle.hu _ _) (RIt_shut hik13 hin13 hks13)) hgj (by omega) (by omega) (by omega) (by omega) (Hle.hu _ _ _ _ hHY) (Hle.hu _ _ _ _ hHW) (fun y lv n a h k1 k1b k2 k3 k4 hh => hy y lv n a h k1 k1b k2 k3 k4 (Hle.trans (Hle.hu _ _) hh))) rfl ?_)))))
  rintro _ _ ⟨rfl, rfl⟩
  refine JLq (.bool false) (show Pu _ _ _ (.bool (!true)) from Pu.not rfl) <| Zb <| Zg (b := false) rfl (fun h => absurd h (by simp)) (fun _ => Zm <| Za <| JLn (Pu.inc rfl rfl (by omega)) <| JLM rfl <| Zb <| ⟨_, ?_, (j + 1), (nn + (szI (kids[j]) : Int)), rfl, rfl, rfl, rfl, rfl, rfl, (Sk Sub.nil), ?_, ?_, ?_, rfl⟩)
  ·omega
  ·omega
  ·omega
  omega
 replace h12 := df h12
 have h12n : kids.length ≤ j := by omega
 refine ZB _ rfl <| Zc <| Za <| JLA rfl <| Zb <| Zj <| ⟨.bool true, [yc nn], Ret.one rfl (RV.tmp rfl), (Sk Sub.nil), ?_⟩
 rw [dropn h12n, Z5] at hnn
 exact ⟨rfl, by rw [szI, show (n + ((1 + Z5 kids : Nat) : Int)) = nn from by omega]⟩
theorem within1_ct (l : Nat) (yc : Int → Zh) (x : It) (cs : List Value) (H : Heap) (bT : Nat) (hx : RIt H cs x) (hT : H bT = some (.cells ⟨cs⟩ 40 (0, 0))) (hg : gdI x) (hd : dpI x ≤ 250) (hz : szI x ≤ 5000) (hy : ∀ (y : It) (lv n : Int) (a : List Value) (h : Heap), gdI y → 1 ≤ lv → lv ≤ 250 → 0 ≤ n → n + 1 ≤ 5000 → Hle H h → RIt h a y → YT Tryz.prog l ⟨[iv lv, .agg ⟨a⟩]⟩ [yc n] h (fun v N => v = .bool true ∧ N = [yc (n + 1)])) : CT Tryz.prog 143 ⟨[.func (.yield l) ⟨[]⟩ ⟨[]⟩, pp bT 0]⟩ [yc 0] H (fun _ N => N = [yc (szI x)]) := by
 refine Zk Tryz.func143 rfl rfl <| Zc <| Za <| JLr (Zr (l := [.func (.yield l) ⟨[]⟩ ⟨[]⟩]) rfl rfl fun b1 => Zb <| Zc <| Za <| JLr (Zi (l := [.nilFunc]) Tryz.zeroValue213 rfl fun b2 => Zb <| Zc <| Za <| JLq (.func (.func 144) ⟨[]⟩ ⟨[pp b1 0, pp b2 0]⟩) (Pu.makeFunc rfl rfl) <| JLr (Zd 0 (vs := [.func (.func 144) ⟨[]⟩ ⟨[pp b1 0, pp b2 0]⟩]) (l := [.func (.func 144) ⟨[]⟩ ⟨[pp b1 0, pp b2 0]⟩]) ty213 rfl rfl rfl rfl rfl (Zf rfl Zn) rfl ?_)))
 refine Zb <| Za <| JLr (Ze ty213 rfl (At.bx 0 rfl) rfl <| JLr (Zl ZO rfl (At.im hT) (Zu (RIt_len hx)) <| Zs 2 rfl Tryz.call144 rfl rfl (fun hin => walkW_ct l yc _ _ _ _ _ _ _ (RIt.mono (Hle.hu _ _) hx) hg (by decide) (by omega) (by decide) (by omega) (hin 1 _ rfl _ _ List.mem_cons_self) (hin 0 _ rfl _ _ List.mem_cons_self) (fun y lv n a h k1 k1b k2 k3 k4 hh => hy y lv n a h k1 k1b k2 k3 k4 (Hle.trans (Hle.hu _ _) hh))) rfl ?_))
 rintro _ _ ⟨rfl, rfl⟩
 refine Zb <| ⟨.tuple ⟨[]⟩, [yc (0 + (szI x : Int))], Ret.none rfl, (Sk Sub.nil), ?_⟩
 show _ = _; rw [Int.zero_add]
end Go.Proofs.YtjhenmdcnbaobaaGreat.Hs
/-! Walks, printed by a program of this session's own (gen.py). -/
namespace Go.Proofs.YtjhenmdcnbaobaaGreat.Hs
open Go Go.Proofs
set_option maxRecDepth 100000
set_option linter.unusedVariables false
set_option linter.unusedSimpArgs false
attribute [local irreducible] JL J CT wlo DT
theorem numP_ct (n : Nat) (H : Heap) (hn : n ≤ 1099511627776) : CT Tryz.prog 118 ⟨[iv ((n : Int))]⟩ [] H (fun r N => ∃ k, N = [k] ∧ Own 5 1 r (YK (YB n)) k) := by
 obtain ⟨l, hl0⟩ : ∃ l : List Int, l = [] := ⟨_, rfl⟩
 refine Zk Tryz.func118 rfl rfl <| Zc <| Za <| JLA rfl <| Zb <| Zc <| Za <| JLA rfl <| Zb <| Zc <| Zq <| ZS (fun k ρ M => ∃ (m : Nat) (p : List Int) (y : Value) (q1 : Zh), ρ 0 = iv ((m : Int)) ∧ ρ 2 = nS ∧ ρ 3 = y ∧ Sub [q1] M ∧ Own 5 1 y (YK p) q1 ∧ p ++ YB m = l ++ YB n ∧ m ≤ n ∧ k = 2 * m + 1) _ ⟨n, [], nS, [], rfl, rfl, rfl, (Sub.emp Sub.nil), (by simpa [YK] using Own.nil), (by rw [hl0]), (Nat.le_refl _), rfl⟩ ?_
 rintro _ ρ1 _ ⟨m, p, y, q1, e2, e3, e4, hm5, hown, hinv, hmn, rfl⟩
 obtain ⟨ρ6, rfl⟩ := Zo (uc e2 (uc e3 (uc e4 un)))
 clear e2 e3 e4
 refine ZY hm5 <| Zc <| Zc <| Za <| JLM rfl <| JLn (Pu.gtr rfl rfl) <| Zb <| Zg rfl (fun h7 => ?_) (fun h7 => ?_)
 ·replace h7 := dt h7
  refine Zm <| Zc <| Zq ?_
  have hpl : p.length + (YB m).length = (YB n).length := by rw [← List.length_append, hinv, hl0]; rfl
  have hn6 := numE_6 (n := n) (by omega)
  refine Za <| JLm y <| JLM rfl <| JLq (iv (((m % 128 : Nat) : Int))) (Pu.bits rfl rfl (and7n (by omega))) <| JLq (iv (((m % 128 + 128 : Nat) : Int))) (Pu.bor rfl rfl (or7n (by omega))) <| JLq (.int .u8 (((m % 128 + 128 : Nat) : Int))) (Pu.conv Tryz.runUnderlying3 Tryz.runUnderlying5 rfl (w8b (by omega))) <| JLr (Zp (vs := [.int .u8 (((m % 128 + 128 : Nat) : Int))]) [[.int .u8 (((m % 128 + 128 : Nat) : Int))]] Tryz.runUnderlying22 el5 rfl rfl (by intro e he; simp only [List.mem_cons, List.not_mem_nil, or_false] at he; subst he; exact rfl) rfl (by decide) fun b8 k8 ho8 hk8 => ?_)
  have hlens9 : ∀ e ∈ ([[.int .u8 (((m % 128 + 128 : Nat) : Int))]] : List (List Value)), List.length e = 1 := by
   intro e he; simp only [List.mem_cons, List.not_mem_nil, or_false] at he
   rcases he with rfl
   ·exact rfl
  have hoks9 : ∀ e ∈ ([[.int .u8 (((m % 128 + 128 : Nat) : Int))]] : List (List Value)), okc e := by
   intro e he; simp only [List.mem_cons, List.not_mem_nil, or_false] at he
   rcases he with rfl
   ·exact (Zf rfl Zn)
  refine JLr (Zz (i := 1) (n := 1) (es' := [[.int .u8 (((m % 128 + 128 : Nat) : Int))]]) Tryz.runUnderlying22 Tryz.runUnderlying22 (Or.inl rfl) el5 rfl rfl rfl hown (fun F w m => Src.row (((At.k 0 rfl (by rw [hk8]; exact List.mem_cons_self))).heap m) (Zu (Zx hlens9))) rfl hlens9 hoks9 (by decide) (by rw [Yh]; simp; omega) fun v9 k9 ho9 => ?_)
  rw [byts_one] at ho9
  refine JLa v9 <| Zb <| Za <| JLM rfl <| JLq (iv (((m / 128 : Nat) : Int))) (Pu.bshr rfl rfl (by decide) (shr7n m)) <| JLA rfl <| Zb <| ⟨_, ?_, (m / 128), (p ++ [((m % 128 + 128 : Nat) : Int)]), v9, k9, rfl, rfl, rfl, (Sd (Sk Sub.nil)), ?_, ?_, ?_, rfl⟩
  ·omega
  ·simpa using ho9
  ·rw [numE_ge (by omega)] at hinv; rw [← hinv]; simp
  omega
 replace h7 := df h7
 refine ZB _ rfl <| Zc ?_
 have hpl : p.length + (YB m).length = (YB n).length := by rw [← List.length_append, hinv, hl0]; rfl
 have hn6 := numE_6 (n := n) (by omega)
 refine Za <| JLm y <| JLM rfl <| JLq (.int .u8 ((m : Int))) (Pu.conv Tryz.runUnderlying3 Tryz.runUnderlying5 rfl (w8b (by omega))) <| JLr (Zp (vs := [.int .u8 ((m : Int))]) [[.int .u8 ((m : Int))]] Tryz.runUnderlying22 el5 rfl rfl (by intro e he; simp only [List.mem_cons, List.not_mem_nil, or_false] at he; subst he; exact rfl) rfl (by decide) fun b10 k10 ho10 hk10 => ?_)
 have hlens11 : ∀ e ∈ ([[.int .u8 ((m : Int))]] : List (List Value)), List.length e = 1 := by
  intro e he; simp only [List.mem_cons, List.not_mem_nil, or_false] at he
  rcases he with rfl
  ·exact rfl
 have hoks11 : ∀ e ∈ ([[.int .u8 ((m : Int))]] : List (List Value)), okc e := by
  intro e he; simp only [List.mem_cons, List.not_mem_nil, or_false] at he
  rcases he with rfl
  ·exact (Zf rfl Zn)
 refine JLr (Zz (i := 1) (n := 1) (es' := [[.int .u8 ((m : Int))]]) Tryz.runUnderlying22 Tryz.runUnderlying22 (Or.inl rfl) el5 rfl rfl rfl hown (fun F w m => Src.row (((At.k 0 rfl (by rw [hk10]; exact List.mem_cons_self))).heap m) (Zu (Zx hlens11))) rfl hlens11 hoks11 (by decide) (by rw [Yh]; simp; omega) fun v11 k11 ho11 => ?_)
 rw [byts_one] at ho11
 refine JLa v11 <| Zb <| Zj <| ⟨v11, [k11], Ret.one rfl (RV.tmp rfl), (Sd (Sk Sub.nil)), ?_⟩
 rw [numE_lt (by omega)] at hinv
 exact ⟨_, rfl, by rw [show YB n = l ++ YB n by rw [hl0]; rfl, ← hinv]; exact ho11⟩
theorem grow_ct (n : Nat) (H : Heap) (hn : n ≤ 1000000) : CT Tryz.prog 157 ⟨[nS, iv ((n : Int))]⟩ [] H (fun r N => ∃ k, N = [k] ∧ Own 5 1 r [] k) := by
 refine Zk Tryz.func157 rfl rfl <| Zc <| Za <| JLA rfl <| Zb <| Zc <| Zc <| Za <| JLM rfl <| JLn (Pu.lss rfl rfl) <| Zb <| Zg rfl (fun h1 => ?_) (fun h1 => ?_)
 ·replace h1 := dt h1
  have h1n : n < 0 := by omega
  exfalso; first | omega | (have z := h1; simp at z; omega)
 replace h1 := df h1
 have h1n : 0 ≤ n := by omega
 refine Zm <| Zc <| Zc <| Za <| JLM rfl <| JLM rfl <| JLq (iv 0) (Pu.capNil Tryz.runUnderlying22 rfl) <| JLM rfl <| JLn (Pu.lenSl Tryz.runUnderlying22 rfl) <| JLq (iv 0) (Pu.arithS rfl rfl rfl) <| JLq (iv ((n : Int))) (Pu.arithS rfl rfl ((congrArg IntKind.i64.wrap (Int.sub_zero _)).trans (w64 (by omega)))) <| JLA rfl <| Zb ?_
 refine Zc <| Za <| JLM rfl <| JLn (Pu.gtr rfl rfl) <| Zb <| Zg rfl (fun h2 => ?_) (fun h2 => ?_)
 ·replace h2 := dt h2
  refine Za <| JLM rfl <| JLM rfl <| JLq (iv 0) (Pu.capNil Tryz.runUnderlying22 rfl) <| JLq nS (Pu.sliceTo0 Tryz.runUnderlying22 Tryz.sizeOf5 rfl rfl) <| JLM rfl <| JLr (Runs_appendZ (n := n) Tryz.runUnderlying22 Tryz.runUnderlying3 el5 rfl rfl (by omega) (by decide) (by omega) fun bZ capZ Z hZ hcZ => JLM rfl <| JLn (Pu.lenSl Tryz.runUnderlying22 rfl) <| JLq (.slice (some ⟨bZ, 0, none⟩) 0 capZ) (Pu.sliceTo0 Tryz.runUnderlying22 Tryz.sizeOf5 rfl rfl) <| JLA rfl <| Zb <| Zc ?_)
  refine Za <| JLM rfl <| JLA rfl <| Zb <| Zj <| ⟨.slice (some ⟨bZ, 0, none⟩) 0 capZ, [(BX bZ Z 5)], Ret.one rfl (RV.tmp rfl), (Sk Sub.nil), ?_⟩
  exact ⟨_, rfl, by simp, .inr ⟨_, _, _, rfl, rfl, by simp; exact hZ, Nat.zero_le _⟩⟩
 replace h2 := df h2
 refine Zm <| Zc <| Za <| JLM rfl <| JLA rfl <| Zb <| Zj <| ⟨nS, [[]], Ret.one rfl (RV.tmp rfl), (Sub.emp Sub.nil), ?_⟩
 exact ⟨_, rfl, Own.nil⟩
end Go.Proofs.YtjhenmdcnbaobaaGreat.Hs
/-! Walks, printed by a program of this session's own (gen.py). -/
namespace Go.Proofs.YtjhenmdcnbaobaaGreat.Hs
open Go Go.Proofs
set_option maxRecDepth 100000
set_option linter.unusedVariables false
set_option linter.unusedSimpArgs false
attribute [local irreducible] JL J CT wlo DT
set_option maxHeartbeats 2000000 in
theorem concat_ct (ll : List (List Int)) (v : Value) (H : Heap) (hv : Hs.rdS RBB 1 H v ll) (hz : ll.flatten.length ≤ 1000000) : CT Tryz.prog 145 ⟨[v]⟩ [] H (fun r N => ∃ k, N = [k] ∧ Own 5 1 r (YK ll.flatten) k) := by
 refine Zk Tryz.func145 rfl rfl <| Zc <| Za <| JLA rfl <| Zb <| Zc <| Za <| JLA rfl <| Zb <| Zc <| Zc <| Za <| JLm v ?_
 obtain ⟨a1, cap1, hv1⟩ := hv.sl
 have hle1 := hv.le
 refine JLn (Pu.lenSl Tryz.runUnderlying214 hv1) <| JLM rfl <| Zb <| Zq <| ZS (fun k ρ M => ∃ (j : Nat) (s : Int), ρ 0 = v ∧ ρ 2 = nS ∧ ρ 3 = iv s ∧ ρ 9 = v ∧ ρ 10 = iv ((ll.length : Int)) ∧ ρ 11 = iv ((j : Int)) ∧ Sub [] M ∧ j ≤ ll.length ∧ s = ((ll.take j).flatten.length : Int) ∧ k = ll.length - j) _ ⟨0, 0, rfl, rfl, rfl, rfl, rfl, rfl, Sub.nil, Nat.zero_le _, (by simp), rfl⟩ ?_
 rintro _ ρ2 _ ⟨j, s, e3, e4, e5, e6, e7, e8, hm9, hj, hs, rfl⟩
 obtain ⟨ρ10, rfl⟩ := Zo (uc e3 (uc e4 (uc e5 (uc e6 (uc e7 (uc e8 un))))))
 clear e3 e4 e5 e6 e7 e8
 refine ZY hm9 <| Zc <| Za <| JLn (Pu.lss rfl rfl) <| Zb <| Zc <| Zg rfl (fun h11 => ?_) (fun h11 => ?_)
 ·replace h11 := dt h11
  have h11n : j < ll.length := by omega
  have hfl := flat_le h11n
  have hlenl := hv.le
  refine Zm <| Zc <| Zq <| Zc <| Za ?_
  obtain ⟨b12, o12, cap12, row12, T12, fr12, cs12, hv12, hb12, hs12, hE12⟩ := hv.get j (by first | assumption | omega | decide | simp)
  obtain ⟨vb12, rfl, hvb12⟩ := hE12
  refine JLq (pp b12 (o12 + j * 1)) (Pu.idx j Tryz.runUnderlying214 ty22 hv12 rfl rfl (by first | assumption | omega | decide | simp)) <| JLr (Ze ty22 rfl (At.im hb12) (YF hs12) <| JLa vb12 <| Zb <| Zc <| Za <| JLM rfl <| JLm vb12 ?_)
  obtain ⟨a13, cap13, hv13⟩ := hvb12.sl
  have hle13 := hvb12.le
  refine JLn (Pu.lenSl Tryz.runUnderlying22 hv13) <| JLn (Pu.add64 rfl rfl (by first | omega | (constructor <;> omega))) <| JLA rfl <| Zb <| Zc <| Za <| JLM rfl <| JLn (Pu.lss rfl rfl) <| Zb <| Zg rfl (fun h14 => ?_) (fun h14 => ?_)
  ·replace h14 := dt h14
   exfalso; first | omega | (have z := h14; simp at z; omega)
  replace h14 := df h14
  refine Zm <| Za <| JLn (Pu.inc rfl rfl (by omega)) <| JLM rfl <| Zb <| ⟨_, ?_, (j + 1), (s + (((ll[j]).length : Int))), rfl, rfl, rfl, rfl, rfl, rfl, Sub.nil, ?_, ?_, rfl⟩
  ·omega
  ·omega
  rw [flat_snoc h11n, List.length_append]; omega
 replace h11 := df h11
 have h11n : ll.length ≤ j := by omega
 refine ZB _ rfl <| Zc ?_
 rw [List.take_of_length_le h11n] at hs
 obtain ⟨sn, rfl⟩ : ∃ sn : Nat, s = (sn : Int) := ⟨_, hs⟩
 refine Za <| JLM rfl <| Jc Tryz.call157 rfl (fun hin => grow_ct sn _ (by omega)) rfl ?_
 rintro v15 _ ⟨k15, rfl, ho15⟩
 refine JLa v15 <| Zb <| Zc <| Zc <| Za <| JLm v ?_
 obtain ⟨a16, cap16, hv16⟩ := hv.sl
 have hle16 := hv.le
 refine JLn (Pu.lenSl Tryz.runUnderlying214 hv16) <| JLM rfl <| Zb <| Zq <| ZS (fun k ρ M => ∃ (j : Nat) (y : Value) (q1 : Zh), ρ 2 = nS ∧ ρ 6 = y ∧ ρ 25 = v ∧ ρ 26 = iv ((ll.length : Int)) ∧ ρ 27 = iv ((j : Int)) ∧ Sub [q1] M ∧ j ≤ ll.length ∧ Own 5 1 y (YK ((ll.take j).flatten)) q1 ∧ k = ll.length - j) _ ⟨0, v15, k15, rfl, rfl, rfl, rfl, rfl, (Sk Sub.nil), Nat.zero_le _, (by simpa using (show Own 5 1 v15 (YK []) k15 from ho15)), rfl⟩ ?_
 rintro _ ρ17 _ ⟨j, y, q1, e18, e19, e20, e21, e22, hm23, hj, hown, rfl⟩
 obtain ⟨ρ24, rfl⟩ := Zo (uc e18 (uc e19 (uc e20 (uc e21 (uc e22 un)))))
 clear e18 e19 e20 e21 e22
 refine ZY hm23 <| Zc <| Za <| JLn (Pu.lss rfl rfl) <| Zb <| Zc <| Zg rfl (fun h25 => ?_) (fun h25 => ?_)
 ·replace h25 := dt h25
  have h25n : j < ll.length := by omega
  have hfl := flat_le h25n
  refine Zm <| Zc <| Zq <| Zc <| Za ?_
  obtain ⟨b26, o26, cap26, row26, T26, fr26, cs26, hv26, hb26, hs26, hE26⟩ := hv.get j (by first | assumption | omega | decide | simp)
  obtain ⟨vb26, rfl, hvb26⟩ := hE26
  refine JLq (pp b26 (o26 + j * 1)) (Pu.idx j Tryz.runUnderlying214 ty22 hv26 rfl rfl (by first | assumption | omega | decide | simp)) <| JLr (Ze ty22 rfl (At.im hb26) (YF hs26) <| JLa vb26 <| Zb <| Za <| JLm y <| JLm vb26 <| JLr (Zz (i := 0) (n := (ll[j]).length) (es' := YK (ll[j])) Tryz.runUnderlying22 Tryz.runUnderlying22 (Or.inl rfl) el5 rfl rfl rfl hown (fun F w m => byts_src hvb26 w _ m) (Yh _) (byts_len1 _) (byts_ok _) (by decide) (by rw [Yh]; simp at *; omega) fun v27 k27 ho27 => ?_))
  rw [← byts_app] at ho27
  refine JLa v27 <| Zb <| Za <| JLn (Pu.inc rfl rfl (by omega)) <| JLM rfl <| Zb <| ⟨_, ?_, (j + 1), v27, k27, rfl, rfl, rfl, rfl, rfl, (Sk Sub.nil), ?_, ?_, rfl⟩
  ·omega
  ·omega
  rw [flat_snoc h25n]; exact ho27
 replace h25 := df h25
 have h25n : ll.length ≤ j := by omega
 refine ZB _ rfl <| Zc <| Za <| JLm y <| JLa y <| Zb <| Zj <| ⟨y, [q1], Ret.one rfl (RV.tmp rfl), (Sk Sub.nil), ?_⟩
 rw [List.take_of_length_le h25n] at hown
 exact ⟨_, rfl, hown⟩
theorem joinB_ct (ll : List (List Int)) (v : Value) (H : Heap) (hv : Hs.rdS RBB 1 H v ll) (hz : ll.flatten.length ≤ 1000000) : CT Tryz.prog 117 ⟨[v]⟩ [] H (fun r N => ∃ k, N = [k] ∧ Own 5 1 r (YK ll.flatten) k) := by
 refine Zk Tryz.func117 rfl rfl <| Zc <| Za <| JLA rfl <| Zb <| Zc <| Za <| JLm v <| Jc Tryz.call145 rfl (fun hin => concat_ct _ _ _ (RBBs.mono (Hle.hu _ _) hv) hz) rfl ?_
 rintro v1 _ ⟨k1, rfl, ho1⟩
 refine JLa v1 <| Zb <| Zj <| ⟨v1, [k1], Ret.one rfl (RV.tmp rfl), (Sk Sub.nil), ?_⟩
 exact ⟨_, rfl, ho1⟩
end Go.Proofs.YtjhenmdcnbaobaaGreat.Hs
/-! Walks, printed by a program of this session's own (gen.py). -/
namespace Go.Proofs.YtjhenmdcnbaobaaGreat.Hs
open Go Go.Proofs
set_option maxRecDepth 100000
set_option linter.unusedVariables false
set_option linter.unusedSimpArgs false
attribute [local irreducible] JL J CT wlo DT
set_option maxHeartbeats 4000000 in
theorem encoded_ct : ∀ (x : It) (cs : List Value) (H : Heap), RIt H cs x → gdI x → (Ya x).length ≤ 1000000 → CT Tryz.prog 63 ⟨[.agg ⟨cs⟩]⟩ [] H (fun r N => ∃ k, N = [k] ∧ Own 5 1 r (YK (Ya x)) k) := by
 intro x
 induction x using It.ind with
 | h kd nm tx kids ih =>
 intro cs H ht hg hz
 obtain ⟨kv, rfl, hk, hm, hks⟩ := RIt_mk.1 ht
 rw [gdI] at hg
 obtain ⟨nn, rfl⟩ := Int.eq_ofNat_of_zero_le hg.2.1.1
 have hle := hks.le
 have hn6 := numE_6 (n := nn) (by omega)
 have hs6 := numE_6 (n := tx.size) (by omega)
 have htl := txE_len hg.2.2.1
 have hsl := Ys tx
 have hekl := encIs_lenk hg.2.2.2
 have hP : 1 + (YB nn).length + (txE tx).length + (if kids.length = 0 then [] else YB kids.length ++ Yd kids).length ≤ 1000000 := by rw [Ya] at hz; simp only [List.length_cons, List.length_append, Int.toNat_natCast] at hz; omega
 have hP2 : (Yd kids).length ≤ 1000000 := by
  by_cases h0 : kids.length = 0
  ·obtain rfl := List.eq_nil_of_length_eq_zero h0; simp [Yd]
  ·rw [if_neg h0, List.length_append] at hP; omega
 have hk6 := numE_6 (n := kids.length) (by omega)
 refine Zk Tryz.func63 rfl rfl <| Zc <| Za <| JLr (Zr (l := [iv kd, iv ((nn : Int)), .string tx, kv]) rfl rfl fun b1 => JLA rfl <| Zb <| Zc <| Za <| JLq (pp b1 0) (fa40_0 rfl rfl) <| JLr (Ze ty3 rfl (At.bx 0 rfl) rfl <| JLq (.int .u8 kd) (Pu.conv Tryz.runUnderlying3 Tryz.runUnderlying5 rfl (w8b (by omega))) <| JLA rfl <| Zb ?_))
 refine Zc <| Za <| JLA rfl <| JLA rfl <| Zb <| Zc <| Zc <| Za <| JLq (pp b1 2) (fa40_2 rfl rfl) <| JLr (Ze ty9 rfl (At.bx 0 rfl) rfl <| JLn (Pu.neqS rfl rfl) <| Zb <| J_weak (N := fun ρ M => ∃ (w1 : Int) (y4 : Value) (q4c : Zh), (w1 = kd + (if tx = ⟨#[]⟩ then 0 else 64)) ∧ (Own 5 1 y4 (YK (txE tx)) q4c) ∧ ρ 1 = pp b1 0 ∧ ρ 2 = nS ∧ ρ 3 = .int .u8 w1 ∧ ρ 4 = y4 ∧ ρ 5 = nS ∧ Sub [q4c, (BX b1 [iv kd, iv ((nn : Int)), .string tx, kv] 40)] M) ?_ ?_)
 ·refine Zg rfl (fun h2 => ?_) (fun h2 => ?_)
  ·replace h2 := nt h2
   replace h2 := df h2
   refine Zc <| Za <| JLM rfl <| JLq (.int .u8 (kd + 64)) (Pu.arith rfl rfl (w8b (by omega))) <| JLA rfl <| Zb <| Zy mixed #[0, 1, 3, 7, 0, 16, 48, 127, 255, 511] 7 [some 16, some 17, some 18, some 19, some 20, some 21, some 22] [] [(3, fun _ _ vw qw => ∃ k, qw = [k] ∧ Own 5 1 vw (YK (YB (tx.size))) k), (6, fun _ _ vw qw => ∃ k, qw = [k] ∧ vw.oneCell' = true ∧ ∀ h, Has k h → Hs.rdS RB 1 h vw (sB tx))] rfl (by kernel_rfl) rfl (by kernel_rfl) <| Dq (pp b1 2) (fun _ => fa40_2 rfl rfl) <| Dl1 ty9 (At.bx 0 rfl) rfl <| Dn (fun _ => Pu.lenS Tryz.runUnderlying9 rfl) ?_
   refine Dc rfl Tryz.call118 (fun _ => rfl) (fun hin => numP_ct (tx.size) _ (by omega)) ?_
   rintro v5 _ ⟨k5, rfl, ho5⟩
   refine Dq (pp b1 2) (fun _ => fa40_2 rfl rfl) <| Dl1 ty9 (At.bx 0 rfl) rfl ?_
   refine Dr rfl (fun _ => Runs_toBytes Tryz.underlying9 Tryz.underlying22 Tryz.underlying5 (by omega) rfl fun v k h1 h2 => ⟨[k], by rw [ZX rfl]; exact Sub.refl, k, rfl, h1, h2⟩) ?_; rintro v6 _ ⟨k6, rfl, hc6, hr6⟩
   refine ZG (M' := [k6, k5, (BX b1 [iv kd, iv ((nn : Int)), .string tx, kv] 40)]) rfl ?_
   show JL _ _ _ [_, _, _] _ _ _
   refine JLr (Zp (vs := [v5, v6]) [[v5], [v6]] Tryz.runUnderlying214 el22 rfl (cg2 List.cons (ZK ho5.one) (cg2 List.cons (ZK hc6) rfl)) (by intro e he; simp only [List.mem_cons, List.not_mem_nil, or_false] at he; rcases he with rfl | rfl <;> first | exact rfl | exact rfl) rfl (by decide) fun b7 k7 ho7 hk7 => Jc Tryz.call117 rfl (fun hin => joinB_ct [YB (tx.size), sB tx] _ _ (Own.rdBB2 ho7 (hin 0 _ rfl) (YU ho5 (by first | omega | (simp only [List.length_append]; omega)) (hin 2 _ rfl)) (hr6 _ (hin 1 _ rfl))) (by simp only [List.flatten_cons, List.flatten_nil, List.length_append, List.length_cons, List.length_nil]; omega)) rfl ?_)
   rintro v8 _ ⟨k8, rfl, ho8⟩
   refine JLa v8 <| Zb ?_
   exact ⟨(kd + 64), v8, k8, (by rw [if_neg h2]), (by have z := ho8; unfold txE; rw [if_neg h2]; simpa using z), rfl, rfl, rfl, rfl, rfl, (Sk (Sd (Sd (Sd (Sk Sub.nil)))))⟩
  replace h2 := nf h2
  replace h2 := dt h2
  refine Zm ?_
  exact ⟨kd, nS, [], (by rw [if_pos (by have z := h2; simpa using z)]; omega), (by unfold txE; rw [if_pos (by have z := h2; simpa using z)]; exact Own.nil), rfl, rfl, rfl, rfl, rfl, (Sub.emp (Sk Sub.nil))⟩
 rintro ρ9 _ ⟨w1, y4, q4c, h_w1, how4, e10, e11, e12, e13, e14, hm15⟩
 obtain ⟨ρ16, rfl⟩ := Zo (uc e10 (uc e11 (uc e12 (uc e13 (uc e14 un)))))
 clear e10 e11 e12 e13 e14
 refine ZY hm15 <| Zc <| Zc <| Za <| JLq (pp b1 3) (Y0 rfl rfl) <| JLr (Ze ty38 rfl (At.bx 1 rfl) rfl ?_)
 obtain ⟨a17, cap17, hv17⟩ := hks.sl
 have hle17 := hks.le
 refine JLn (Pu.lenSl Tryz.runUnderlying38 hv17) <| JLn (Pu.gtr rfl rfl) <| Zb <| J_weak (N := fun ρ M => ∃ (w2 : Int) (y5 : Value) (q5c : Zh), (w2 = hdE kd tx kids.length) ∧ (Own 5 1 y5 (YK (if kids.length = 0 then [] else YB kids.length ++ Yd kids)) q5c) ∧ ρ 1 = pp b1 0 ∧ ρ 2 = nS ∧ ρ 3 = .int .u8 w2 ∧ ρ 4 = y4 ∧ ρ 5 = y5 ∧ Sub [q5c, q4c, (BX b1 [iv kd, iv ((nn : Int)), .string tx, kv] 40)] M) ?_ ?_
 ·refine Zg rfl (fun h18 => ?_) (fun h18 => ?_)
  ·replace h18 := dt h18
   refine Zc <| Za <| JLM rfl <| JLq (.int .u8 (w1 + 128)) (Pu.arith rfl rfl (w8b (by omega))) <| JLA rfl <| Zb <| Zc <| Za <| JLq (pp b1 3) (Y0 rfl rfl) <| JLr (Ze ty38 rfl (At.bx 1 rfl) rfl ?_)
   obtain ⟨a19, cap19, hv19⟩ := hks.sl
   have hle19 := hks.le
   refine JLn (Pu.lenSl Tryz.runUnderlying38 hv19) <| Jc Tryz.call118 rfl (fun hin => numP_ct (kids.length) _ (by omega)) rfl ?_
   rintro v20 _ ⟨k20, rfl, ho20⟩
   refine JLa v20 <| Zb <| Zc <| Za <| JLq (pp b1 3) (Y0 rfl rfl) <| JLr (Ze ty38 rfl (At.bx 2 rfl) rfl ?_)
   obtain ⟨a21, cap21, hv21⟩ := hks.sl
   have hle21 := hks.le
   refine JLn (Pu.lenSl Tryz.runUnderlying38 hv21) <| JLM rfl <| Zb <| Zq <| ZS (fun k ρ M => ∃ (j : Nat) (y : Value) (q1 : Zh), ρ 1 = pp b1 0 ∧ ρ 2 = nS ∧ ρ 3 = .int .u8 (w1 + 128) ∧ ρ 4 = y4 ∧ ρ 5 = y ∧ ρ 36 = kv ∧ ρ 37 = iv ((kids.length : Int)) ∧ ρ 38 = iv ((j : Int)) ∧ Sub [q1, q4c, (BX b1 [iv kd, iv ((nn : Int)), .string tx, kv] 40)] M ∧ j ≤ kids.length ∧ Own 5 1 y (YK (YB kids.length ++ Yd (kids.take j))) q1 ∧ k = kids.length - j) _ ⟨0, v20, k20, rfl, rfl, rfl, rfl, rfl, rfl, rfl, rfl, (Sk (Sk (Sk Sub.nil))), Nat.zero_le _, (by have z := ho20; simpa [Yd] using z), rfl⟩ ?_
   rintro _ ρ22 _ ⟨j, y, q1, e23, e24, e25, e26, e27, e28, e29, e30, hm31, hj, hown, rfl⟩
   obtain ⟨ρ32, rfl⟩ := Zo (uc e23 (uc e24 (uc e25 (uc e26 (uc e27 (uc e28 (uc e29 (uc e30 un))))))))
   clear e23 e24 e25 e26 e27 e28 e29 e30
   refine ZY hm31 <| Zc <| Za <| JLn (Pu.lss rfl rfl) <| Zb <| Zc <| Zg rfl (fun h33 => ?_) (fun h33 => ?_)
   ·replace h33 := dt h33
    have h33n : j < kids.length := by omega
    have hs1 := encIs_take1 h33n
    have hgj := gdIs_mem hg.2.2.2 _ (List.getElem_mem h33n)
    refine Zm <| Zc <| Zq <| Zc <| Za ?_
    obtain ⟨b34, o34, cap34, row34, T34, fr34, cs34, hv34, hb34, hs34, hE34⟩ := hks.get j (by first | assumption | omega | decide | simp)
    obtain ⟨ki34, rfl, hik34, hin34, hks34⟩ := RIt_open hE34
    refine JLq (pp b34 (o34 + j * 4)) (Pu.idx j Tryz.runUnderlying38 ZO hv34 rfl rfl (by first | assumption | omega | decide | simp)) <| JLr (Zl ZO rfl (At.im hb34) hs34 <| JLr (Zi (l := [iv 0, iv 0, .string (⟨#[]⟩), nS]) Tryz.zeroValue40 rfl fun b35 => JLr (Zd 0 (vs := [iv ((kids[j]).kind), iv ((kids[j]).num), .string ((kids[j]).text), ki34]) (l := [iv ((kids[j]).kind), iv ((kids[j]).num), .string ((kids[j]).text), ki34]) ZO rfl rfl rfl rfl rfl (Zf rfl (Zf rfl (Zf rfl (Zf hks34.one Zn)))) rfl <| Zb <| Za <| JLm y <| JLr (Zl ZO rfl (At.bx 0 rfl) rfl <| Jc Tryz.call63 rfl (fun hin => ih _ (List.getElem_mem h33n) _ _ (RIt.mono (Hle.hu _ _) (RIt_shut hik34 hin34 hks34)) hgj (by omega)) rfl ?_))))
    rintro v36 _ ⟨k36, rfl, ho36⟩
    refine JLr (Zz (i := 2) (n := (Ya (kids[j])).length) (es' := YK (Ya (kids[j]))) Tryz.runUnderlying22 Tryz.runUnderlying22 (Or.inl rfl) el5 rfl rfl rfl hown (own_srcB (i := 0) ho36 rfl) (Yh _) (byts_len1 _) (byts_ok _) (by decide) (by rw [Yh]; simp only [List.length_append]; omega) fun v37 k37 ho37 => ?_)
    rw [← byts_app] at ho37
    refine JLa v37 <| Zb <| Za <| JLn (Pu.inc rfl rfl (by omega)) <| JLM rfl <| Zb <| ⟨_, ?_, (j + 1), v37, k37, rfl, rfl, rfl, rfl, rfl, rfl, rfl, rfl, (Sd (Sd (Sk (Sk (Sk Sub.nil))))), ?_, ?_, rfl⟩
    ·omega
    ·omega
    rw [encIs_snoc h33n, ← List.append_assoc]; exact ho37
   replace h33 := df h33
   have h33n : kids.length ≤ j := by omega
   refine ZB _ rfl ?_
   exact ⟨(w1 + 128), y, q1, (by unfold hdE; rw [h_w1, if_neg (show ¬ kids.length = 0 by omega)]), (by have z := hown; rw [if_neg (show ¬ kids.length = 0 by omega)]; rw [List.take_of_length_le h33n] at z; exact z), rfl, rfl, rfl, rfl, rfl, (Sk (Sk (Sk Sub.nil)))⟩
  replace h18 := df h18
  refine Zm ?_
  exact ⟨w1, nS, [], (by unfold hdE; rw [h_w1, if_pos (show kids.length = 0 by omega), Int.add_zero]), (by rw [if_pos (show kids.length = 0 by omega)]; exact Own.nil), rfl, rfl, rfl, rfl, rfl, (Sub.emp (Sk (Sk Sub.nil)))⟩
 rintro ρ38 _ ⟨w2, y5, q5c, h_w2, how5, e39, e40, e41, e42, e43, hm44⟩
 obtain ⟨ρ45, rfl⟩ := Zo (uc e39 (uc e40 (uc e41 (uc e42 (uc e43 un)))))
 clear e39 e40 e41 e42 e43
 refine ZY hm44 <| Zc ?_
 have hw2 : 0 ≤ w2 ∧ w2 < 256 := by rw [h_w2]; unfold hdE; split <;> split <;> omega
 refine Za <| JLM rfl <| JLr (Zp (vs := [.int .u8 w2]) [[.int .u8 w2]] Tryz.runUnderlying22 el5 rfl rfl (by intro e he; simp only [List.mem_cons, List.not_mem_nil, or_false] at he; subst he; exact rfl) rfl (by decide) fun b46 k46 ho46 hk46 => JLq (pp b1 1) (fa40_1 rfl rfl) <| JLr (Ze ty3 rfl (At.bx 3 rfl) rfl <| Jc Tryz.call118 rfl (fun hin => numP_ct nn _ (by omega)) rfl ?_))
 rintro v47 _ ⟨k47, rfl, ho47⟩
 refine JLm y4 <| JLm y5 <| JLr (Zp (vs := [.slice (some ⟨b46, 0, none⟩) 1 1, v47, y4, y5]) [[.slice (some ⟨b46, 0, none⟩) 1 1], [v47], [y4], [y5]] Tryz.runUnderlying214 el22 rfl (cg2 List.cons rfl (cg2 List.cons (ZK ho47.one) (cg2 List.cons (ZK how4.one) (cg2 List.cons (ZK how5.one) rfl)))) (by intro e he; simp only [List.mem_cons, List.not_mem_nil, or_false] at he; rcases he with rfl | rfl | rfl | rfl <;> first | exact rfl | exact rfl | exact rfl | exact rfl) rfl (by decide) fun b48 k48 ho48 hk48 => Jc Tryz.call117 rfl (fun hin => joinB_ct [[w2], YB nn, txE tx, if kids.length = 0 then [] else YB kids.length ++ Yd kids] _ _ (Own.rdBB4 ho48 (hin 0 _ rfl) (YU (l := [w2]) ho46 (by simp) (hin 2 _ rfl)) (YU ho47 (by first | omega | (simp only [List.length_append]; omega)) (hin 1 _ rfl)) (YU how4 (by first | omega | (simp only [List.length_append]; omega)) (hin 4 _ rfl)) (YU how5 (by first | omega | (simp only [List.length_append]; omega)) (hin 3 _ rfl))) (by simp only [List.flatten_cons, List.flatten_nil, List.length_append, List.length_cons, List.length_nil]; omega)) rfl ?_)
 rintro v49 _ ⟨k49, rfl, ho49⟩
 refine JLa v49 <| Zb <| Zj <| ⟨v49, [k49], Ret.one rfl (RV.tmp rfl), (Sk Sub.nil), ?_⟩
 exact ⟨_, rfl, by have z := ho49; rw [Ya, ← h_w2]; simpa using z⟩
end Go.Proofs.YtjhenmdcnbaobaaGreat.Hs
/-! Walks, printed by a program of this session's own (gen.py). -/
namespace Go.Proofs.YtjhenmdcnbaobaaGreat.Hs
open Go Go.Proofs
set_option maxRecDepth 100000
set_option linter.unusedVariables false
set_option linter.unusedSimpArgs false
attribute [local irreducible] JL J CT wlo DT
set_option maxHeartbeats 2000000 in
theorem checkW_ct (x : It) (cs : List Value) (H : Heap) (ht : RIt H cs x) (hg : gdI x) (hz : szI x ≤ 5000) (hd : dpI x ≤ 250) : CT Tryz.prog 61 ⟨[.agg ⟨cs⟩]⟩ [] H (fun v N => v = iv 0 ∧ N = []) := by
 refine Zk Tryz.func61 rfl rfl <| Zc <| Za <| JLr (Zr (l := cs) rfl rfl fun b1 => JLr (Zi (l := [iv 0]) Tryz.zeroValue33 rfl fun b2 => Zb <| Zc <| Za <| JLr (Zi (l := [iv 0]) Tryz.zeroValue3 rfl fun b3 => JLr (Zd 0 (vs := [iv 0]) (l := [iv 0]) ty3 rfl rfl rfl rfl rfl (Zf rfl Zn) rfl <| Zb <| Zc <| Zc ?_))))
 refine Za <| JLr (Zl ZO rfl (At.bx 2 rfl) (Zu (RIt_len ht)) <| Jc Tryz.call116 rfl (fun hin => within_ct _ _ (RIt_len ht)) rfl ?_)
 rintro _ _ ⟨bT4, rfl, rfl⟩
 refine Zb <| Zq <| J_range (L := [(BX bT4 cs 40), (BX b2 [iv 0] 33), (BX b1 cs 40)]) (fun e : Int => [(BX b3 [iv e] 3)]) (fun _ => false) 0 (fun e => e = (szI x : Int)) rfl rfl Tryz.call143 (flatten_pick (i := 1) rfl) ?_ ?_ ?_
 ·intro l yc hY hin
  refine CT.mono (within1_ct l yc x _ _ bT4 (RIt.mono (Hle.hu _ _) ht) (hin 0 _ rfl _ _ List.mem_cons_self) hg hd hz ?_) (fun v N hN => ⟨_, hN, rfl⟩)
  intro y lv n a h hgy hl0 hlv hn0 hn1 hh hry
  obtain ⟨kd, nm, tx, kids⟩ := y
  obtain ⟨kv, rfl, hk, hm, hks⟩ := RIt_mk.1 hry
  rw [gdI] at hgy
  refine YT.mono (hY n [_, _] h (fun e' => e' = n + 1) rfl rfl (RoundOk.mk ?_)) ?_
  ·show J _ _ _ _ [(BX b3 [iv n] 3)] _
   refine Zc <| Za <| JLA rfl <| Zb <| Za <| JLr (Zi (l := [iv 0, iv 0, .string (⟨#[]⟩), nS]) Tryz.zeroValue40 rfl fun b5 => JLr (Zd 0 (vs := [iv kd, iv nm, .string tx, kv]) (l := [iv kd, iv nm, .string tx, kv]) ZO rfl rfl rfl rfl rfl (Zf rfl (Zf rfl (Zf rfl (Zf hks.one Zn)))) rfl <| Zb <| Zq <| Zc <| Zq <| Zc <| Za ?_))
   refine JLM rfl <| JLn (Pu.gtr rfl rfl) <| JLA rfl <| Zb <| Zg rfl (fun h6 => ?_) (fun h6 => ?_)
   ·replace h6 := dt h6
    exfalso; first | omega | (have z := h6; simp at z; omega)
   replace h6 := df h6
   refine Zc <| Za <| JLr (Ze ty3 rfl (At.bx 1 rfl) rfl <| JLn (Pu.eql rfl rfl) <| JLA rfl <| Zb <| Zg rfl (fun h7 => ?_) (fun h7 => ?_))
   ·replace h7 := dt h7
    exfalso; first | omega | (have z := h7; simp at z; omega)
   replace h7 := df h7
   refine Zc <| Za <| JLq (pp b5 0) (fa40_0 rfl rfl) <| JLr (Ze ty3 rfl (At.bx 0 rfl) rfl <| JLn (Pu.lss rfl rfl) <| JLM rfl <| ZA 3 [21, 22, 23] [(23, cond (decide (kd < 1)) undef (.bool (decide (63 < kd))))] ?_ fun f9 => ?_)
   ·cases h8 : (decide (kd < 1)) with
    | false =>
     replace h8 := df h8
     refine JLq (pp b5 0) (fa40_0 rfl rfl) <| JLr (Ze ty3 rfl (At.bx 0 rfl) rfl <| JLn (Pu.gtr rfl rfl) ?_)
     exact Zb ⟨⟨rfl, trivial⟩, rfl⟩
    | true =>
     exact ZL rfl ⟨rfl, trivial⟩
   refine JLn (Pu.pickOr rfl rfl rfl) <| JLM rfl <| ZA 3 [26, 27, 28] [(28, cond ((decide (kd < 1)) || (decide (63 < kd))) undef (.bool (decide (nm < 0))))] ?_ fun f11 => ?_
   ·cases h10 : ((decide (kd < 1)) || (decide (63 < kd))) with
    | false =>
     obtain ⟨h10a, h10b⟩ := orF h10
     replace h10a := df h10a
     replace h10b := df h10b
     refine JLq (pp b5 1) (fa40_1 rfl rfl) <| JLr (Ze ty3 rfl (At.bx 0 rfl) rfl <| JLn (Pu.lss rfl rfl) ?_)
     exact Zb ⟨⟨rfl, trivial⟩, rfl⟩
    | true =>
     exact ZL rfl ⟨rfl, trivial⟩
   refine JLn (Pu.pickOr rfl rfl rfl) <| JLM rfl <| ZA 3 [31, 32, 33] [(33, cond (((decide (kd < 1)) || (decide (63 < kd))) || (decide (nm < 0))) undef (.bool (decide (1099511627776 < nm))))] ?_ fun f13 => ?_
   ·cases h12 : (((decide (kd < 1)) || (decide (63 < kd))) || (decide (nm < 0))) with
    | false =>
     obtain ⟨h12a, h12b⟩ := orF h12
     obtain ⟨h12aa, h12ab⟩ := orF h12a
     replace h12aa := df h12aa
     replace h12ab := df h12ab
     replace h12b := df h12b
     refine JLq (pp b5 1) (fa40_1 rfl rfl) <| JLr (Ze ty3 rfl (At.bx 0 rfl) rfl <| JLn (Pu.gtr rfl rfl) ?_)
     exact Zb ⟨⟨rfl, trivial⟩, rfl⟩
    | true =>
     exact ZL rfl ⟨rfl, trivial⟩
   refine JLn (Pu.pickOr rfl rfl rfl) <| JLA rfl <| Zb <| Zg rfl (fun h14 => ?_) (fun h14 => ?_)
   ·exfalso; first | omega | (have z := h14; simp at z; omega)
   obtain ⟨h14a, h14b⟩ := orF h14
   obtain ⟨h14aa, h14ab⟩ := orF h14a
   obtain ⟨h14aaa, h14aab⟩ := orF h14aa
   replace h14aaa := df h14aaa
   replace h14aab := df h14aab
   replace h14ab := df h14ab
   replace h14b := df h14b
   refine Zc <| Za <| JLq (pp b5 2) (fa40_2 rfl rfl) <| JLr (Ze ty9 rfl (At.bx 0 rfl) rfl <| JLn (Pu.lenS Tryz.runUnderlying9 rfl) <| JLn (Pu.gtr rfl rfl) <| JLA rfl <| Zb <| Zg rfl (fun h15 => ?_) (fun h15 => ?_))
   ·replace h15 := dt h15
    exfalso; first | omega | (have z := h15; simp at z; omega)
   replace h15 := df h15
   refine Zm <| Za <| JLr (Ze ty3 rfl (At.bx 1 rfl) rfl <| JLn (Pu.add64 rfl rfl (by first | omega | (constructor <;> omega))) <| JLr (Zd 1 (vs := [iv (n + 1)]) (l := [iv (n + 1)]) ty3 rfl rfl rfl rfl rfl (Zf rfl Zn) rfl <| Zb ?_))
   exact ⟨n + 1, rfl, (Sd (Sk Sub.nil)), rfl⟩
  rintro v N ⟨e', rfl, rfl, rfl⟩; exact ⟨rfl, rfl⟩
 ·rintro ef hef hp
  refine Zc <| Za <| JLr (Zd 2 (vs := [iv 0]) (l := [iv 0]) ty33 rfl rfl rfl rfl rfl (Zf rfl Zn) rfl <| Zb <| Zj <| ⟨iv 0, [], Ret.one rfl (RV.cell1 ty33 rfl (At.bx 2 rfl) rfl), Sub.nil, ?_⟩)
  exact ⟨rfl, rfl⟩
 rintro ef hef hp; cases hp
theorem encodeW_ct (x : It) (cs : List Value) (H : Heap) (ht : RIt H cs x) (hg : gdI x) (hz : szI x ≤ 1000) (hd : dpI x ≤ 200) (he : (Ya x).length ≤ 65536) : CT Tryz.prog 28 ⟨[.agg ⟨cs⟩]⟩ [] H (fun r N => ∃ u k, r = .tuple ⟨[u, iv 0]⟩ ∧ N = [k] ∧ Own 5 1 u (YK (Ya x)) k) := by
 refine Zk Tryz.func28 rfl rfl <| Zc <| Za <| JLr (Zr (l := cs) rfl rfl fun b1 => JLA rfl <| JLA rfl <| Zb <| Zc <| Zc <| Za <| JLr (Zl ZO rfl (At.bx 0 rfl) (Zu (RIt_len ht)) <| Jc Tryz.call61 rfl (fun hin => checkW_ct _ _ _ (RIt.mono (Hle.hu _ _) ht) hg (by omega) (by omega)) rfl ?_))
 rintro _ _ ⟨rfl, rfl⟩
 refine JLA rfl <| Zb <| Zc <| Za <| JLM rfl <| JLq (.bool false) (show Pu _ _ _ (.bool (!decide ((0 : Int) = 0))) from Pu.neq rfl rfl) <| Zb <| Zg (b := false) rfl (fun h => absurd h (by simp)) (fun _ => Zm <| Zc <| Za <| JLr (Zl ZO rfl (At.bx 0 rfl) (Zu (RIt_len ht)) <| Jc Tryz.call63 rfl (fun hin => encoded_ct _ _ _ (RIt.mono (Hle.hu _ _) ht) hg (by omega)) rfl ?_))
 rintro v2 _ ⟨k2, rfl, ho2⟩
 obtain ⟨aS3, capS3, hvS3⟩ := ho2.sl
 rw [Yh] at hvS3
 subst hvS3
 refine Jc Tryz.call62 rfl (fun hin => shortB_ct _ (Ya x).length _ _ (by omega)) rfl ?_
 rintro _ _ ⟨rfl, rfl⟩
 refine JLn (Pu.extract rfl rfl) <| JLn (Pu.extract rfl rfl) <| JLA rfl <| JLA rfl <| Zb <| Zj <| ⟨.tuple ⟨[.slice aS3 (Ya x).length capS3, iv 0]⟩, [k2], Ret.two rfl (RV.tmp rfl) (RV.tmp rfl), (Sk Sub.nil), ?_⟩
 exact ⟨_, _, rfl, rfl, ho2⟩
theorem itemE2_ct (t : Tm) (cs : List Value) (H : Heap) (ht : RT H cs t) : CT Tryz.prog 9 ⟨[.agg ⟨cs⟩]⟩ [] H (fun r N => ∃ cs k, r = .tuple ⟨[.agg ⟨cs⟩, iv (ZZ 60 8 t)]⟩ ∧ N = [k] ∧ OIt (if ZZ 60 8 t = 0 then itT t else zI) cs k) := by have z := itemE_ct t cs H ht; rw [rightT_one] at z; exact z
theorem encodeP_ct (t : Tm) (cs : List Value) (H : Heap) (ht : RT H cs t) : CT Tryz.prog 7 ⟨[.agg ⟨cs⟩]⟩ [] H (fun r N => ∃ u k, r = .tuple ⟨[u, iv (ZZ 60 8 t)]⟩ ∧ N = [k] ∧ Own 5 1 u (YK (if ZZ 60 8 t = 0 then Ya (itT t) else [])) k) := by
 refine Zk Tryz.func7 rfl rfl <| Zc <| Za <| JLr (Zr (l := cs) rfl rfl fun b1 => JLA rfl <| JLA rfl <| Zb <| Zc <| Za <| JLr (Zl Zt rfl (At.bx 0 rfl) (Zu (Zv ht)) <| Jc Tryz.call9 rfl (fun hin => itemE2_ct _ _ _ (RT.mono (Hle.hu _ _) ht)) rfl ?_))
 rintro _ _ ⟨cs2, k2, rfl, rfl, ho2⟩
 refine JLM rfl <| JLn (Pu.extract rfl rfl) <| JLn (Pu.extract rfl rfl) <| JLr (Zi (l := [iv 0, iv 0, .string (⟨#[]⟩), nS]) Tryz.zeroValue40 rfl fun b3 => JLr (Zd 0 (vs := cs2) (l := cs2) ZO rfl rfl rfl rfl ho2.len ho2.ok (ZD (n := 4) rfl ho2.len) <| JLA rfl <| Zb <| Zc <| Zc <| Za <| JLM rfl <| JLn (Pu.neq rfl rfl) <| Zb ?_))
 refine Zg rfl (fun h4 => ?_) (fun h4 => ?_)
 ·replace h4 := nt h4
  replace h4 := df h4
  refine Zc <| Za <| JLM rfl <| JLA rfl <| JLA rfl <| Zb <| Zj <| ⟨.tuple ⟨[nS, iv (ZZ 60 8 t)]⟩, [[]], Ret.two rfl (RV.tmp rfl) (RV.tmp rfl), (Sub.emp Sub.nil), ?_⟩
  exact ⟨_, _, rfl, rfl, by rw [if_neg (by omega)]; exact Own.nil⟩
 replace h4 := nf h4
 replace h4 := dt h4
 refine Zm <| Zc ?_
 have hck : ZZ 60 8 t = 0 := by omega
 have hrg := Yy hck
 refine Za <| JLr (Zl ZO rfl (At.bx 0 rfl) (Zu ho2.len) <| Jc Tryz.call28 rfl (fun hin => encodeW_ct (itT t) _ _ (by have z := (ho2.rd (hin 1 _ rfl)); rw [if_pos hck] at z; exact z) hrg.1 (by omega) (by omega) (by omega)) rfl ?_)
 rintro _ _ ⟨u5, k5, rfl, rfl, ho5⟩
 refine JLn (Pu.extract rfl rfl) <| JLn (Pu.extract rfl rfl) <| JLa u5 <| JLA rfl <| Zb <| Zj <| ⟨.tuple ⟨[u5, iv 0]⟩, [k5], Ret.two rfl (RV.tmp rfl) (RV.tmp rfl), (Sk Sub.nil), ?_⟩
 exact ⟨_, _, by rw [hck], rfl, by rw [if_pos hck]; exact ho5⟩
end Go.Proofs.YtjhenmdcnbaobaaGreat.Hs
/-! Walks, printed by a program of this session's own (gen.py). -/
namespace Go.Proofs.YtjhenmdcnbaobaaGreat.Hs
open Go Go.Proofs
set_option maxRecDepth 100000
set_option linter.unusedVariables false
set_option linter.unusedSimpArgs false
attribute [local irreducible] JL J CT wlo DT
theorem encodeK_ct (t : Tm) (cs : List Value) (H : Heap) (ht : RT H cs t) (hck : ZZ 60 8 t = 0) : CT Tryz.prog 7 ⟨[.agg ⟨cs⟩]⟩ [] H (fun r N => ∃ u k, r = .tuple ⟨[u, iv 0]⟩ ∧ N = [k] ∧ Own 5 1 u (YK (Ya (itT t))) k) := by have z := encodeP_ct t cs H ht; simp only [hck, if_true] at z; exact z
theorem itemK_ct (t : Tm) (cs : List Value) (H : Heap) (ht : RT H cs t) (hck : ZZ 60 8 t = 0) : CT Tryz.prog 9 ⟨[.agg ⟨cs⟩]⟩ [] H (fun r N => ∃ cs k, r = .tuple ⟨[.agg ⟨cs⟩, iv 0]⟩ ∧ N = [k] ∧ OIt (itT t) cs k) := by have z := itemE2_ct t cs H ht; simp only [hck, if_true] at z; exact z
theorem fromK_ct (t : Tm) (cs : List Value) (H : Heap) (ht : RIt H cs (itT t)) (hck : ZZ 60 8 t = 0) : CT Tryz.prog 10 ⟨[.agg ⟨cs⟩]⟩ [] H (fun r N => ∃ cs k, r = .tuple ⟨[.agg ⟨cs⟩, iv 0]⟩ ∧ N = [k] ∧ OT t cs k) := by have z := fromP_ct (itT t) cs H ht (by have := (Yy hck).2.1; omega); simp only [from_right hck] at z; exact z
theorem decK_ct (t : Tm) (v : Value) (H : Heap) (hv : Hs.rdS RB 1 H v (Ya (itT t))) (hck : ZZ 60 8 t = 0) : CT Tryz.prog 8 ⟨[v]⟩ [] H (fun r N => ∃ cs k, r = .tuple ⟨[.agg ⟨cs⟩, iv 0, iv 0]⟩ ∧ N = [k] ∧ OT t cs k) := by have z := decP_ct (Ya (itT t)) v H hv (enc_8 _ (Yy hck).1) (by have := (Yy hck).2.2.2; omega); simp only [decT_right hck] at z; exact z
end Go.Proofs.YtjhenmdcnbaobaaGreat.Hs
/-! Walks, printed by a program of this session's own (gen.py). -/
namespace Go.Proofs.YtjhenmdcnbaobaaGreat.Hs
open Go Go.Proofs
set_option maxRecDepth 100000
set_option linter.unusedVariables false
set_option linter.unusedSimpArgs false
attribute [local irreducible] JL J CT wlo DT
set_option maxHeartbeats 4000000 in
theorem coded_law (va_ vb_ : Value) (la_ lb_ : List Int) (H : Heap) (hba : bytesR H va_ la_) (hva : Hs.rdS RB 1 H va_ la_) (hbb : bytesR H vb_ lb_) (hvb : Hs.rdS RB 1 H vb_ lb_) : CT Tryz.prog 3 ⟨[va_, vb_]⟩ [] H (fun v N => v = .bool true ∧ N = []) := by
 refine Zk Tryz.func3 rfl rfl <| Zc <| Za <| JLA rfl <| Zb <| Zc <| Za <| JLm va_ <| Jc Tryz.call6 rfl (fun hin => of_ct _ _ _ (bytesR.mono (Hle.hu _ _) hba) (RBs.mono (Hle.hu _ _) hva)) rfl ?_
 rintro _ _ ⟨bS1, u1, k1, s1, l1, rfl, rfl, hu1, hr1⟩
 refine Zs 0 rfl Tryz.call5 rfl rfl (fun hin => drawn_ct _ _ _ _ _ _ (hr1 _ (hin 0 _ rfl)) (by omega) (by omega) _ _ (by omega) (by omega) (by omega) (by omega) (by omega)) rfl ?_
 rintro _ _ ⟨t2, cs2, k2, a2, s2, rfl, rfl, hO2, hg2, ha2⟩
 refine JLM rfl <| JLn (Pu.extract rfl rfl) <| JLn (Pu.extract rfl rfl) <| JLr (Zi (l := pkT 0 0 zS nS nS) Tryz.zeroValue28 rfl fun b3 => JLr (Zd 0 (vs := cs2) (l := cs2) Zt rfl rfl rfl rfl hO2.len hO2.ok (ZD (n := 36) rfl hO2.len) <| JLA rfl <| Zb <| Zc <| Za <| JLm vb_ <| Jc Tryz.call6 rfl (fun hin => of_ct _ _ _ (bytesR.mono (Hle.hu _ _) hbb) (RBs.mono (Hle.hu _ _) hvb)) rfl ?_))
 rintro _ _ ⟨bS4, u4, k4, s4, l4, rfl, rfl, hu4, hr4⟩
 refine Zs 0 rfl Tryz.call5 rfl rfl (fun hin => drawn_ct _ _ _ _ _ _ (hr4 _ (hin 0 _ rfl)) (by omega) (by omega) _ _ (by omega) (by omega) (by omega) (by omega) (by omega)) rfl ?_
 rintro _ _ ⟨t5, cs5, k5, a5, s5, rfl, rfl, hO5, hg5, ha5⟩
 refine JLM rfl <| JLn (Pu.extract rfl rfl) <| JLn (Pu.extract rfl rfl) <| JLr (Zi (l := pkT 0 0 zS nS nS) Tryz.zeroValue28 rfl fun b6 => JLr (Zd 0 (vs := cs5) (l := cs5) Zt rfl rfl rfl rfl hO5.len hO5.ok (ZD (n := 36) rfl hO5.len) <| JLA rfl <| Zb <| Zc ?_))
 have hclt2 := coded_len (Z3 (by decide) (by decide) hg2)
 have hclt5 := coded_len (Z3 (by decide) (by decide) hg5)
 refine Za <| JLr (Zl Zt rfl (At.bx 4 rfl) (Zu hO2.len) <| Jc Tryz.call7 rfl (fun hin => encodeK_ct t2 _ _ (hO2.rd (hin 6 _ rfl)) (Z3 (by decide) (by decide) hg2)) rfl ?_)
 rintro _ _ ⟨v7, k7, rfl, rfl, ho7⟩
 refine JLM rfl <| JLn (Pu.extract rfl rfl) <| JLn (Pu.extract rfl rfl) <| JLa v7 <| JLA rfl <| Zb <| Zc <| Za <| JLr (Zl Zt rfl (At.bx 1 rfl) (Zu hO5.len) <| Jc Tryz.call7 rfl (fun hin => encodeK_ct t5 _ _ (hO5.rd (hin 3 _ rfl)) (Z3 (by decide) (by decide) hg5)) rfl ?_)
 rintro _ _ ⟨v8, k8, rfl, rfl, ho8⟩
 refine JLM rfl <| JLn (Pu.extract rfl rfl) <| JLn (Pu.extract rfl rfl) <| JLa v8 <| JLA rfl <| Zb <| Zc <| Za <| JLm v7 <| Jc Tryz.call8 rfl (fun hin => decK_ct t2 _ _ (YU ho7 (by have := coded_len (Z3 (by decide) (by decide) hg2); omega) (hin 1 _ rfl)) (Z3 (by decide) (by decide) hg2)) rfl ?_
 rintro _ _ ⟨cs9, k9, rfl, rfl, hO9⟩
 refine JLM rfl <| JLn (Pu.extract rfl rfl) <| JLn (Pu.extract rfl rfl) <| JLn (Pu.extract rfl rfl) <| JLr (Zi (l := pkT 0 0 zS nS nS) Tryz.zeroValue28 rfl fun b10 => JLr (Zd 0 (vs := cs9) (l := cs9) Zt rfl rfl rfl rfl hO9.len hO9.ok (ZD (n := 36) rfl hO9.len) <| JLA rfl <| JLA rfl <| Zb <| Zc <| Za <| JLr (Zl Zt rfl (At.bx 8 rfl) (Zu hO2.len) <| Jc Tryz.call9 rfl (fun hin => itemK_ct t2 _ _ (hO2.rd (hin 10 _ rfl)) (Z3 (by decide) (by decide) hg2)) rfl ?_)))
 rintro _ _ ⟨cs11, k11, rfl, rfl, hO11⟩
 refine JLM rfl <| JLn (Pu.extract rfl rfl) <| JLn (Pu.extract rfl rfl) <| JLr (Zi (l := [iv 0, iv 0, .string (⟨#[]⟩), nS]) Tryz.zeroValue40 rfl fun b12 => JLr (Zd 0 (vs := cs11) (l := cs11) ZO rfl rfl rfl rfl hO11.len hO11.ok (ZD (n := 4) rfl hO11.len) <| JLA rfl <| Zb <| Zc <| Za <| JLr (Zl ZO rfl (At.bx 0 rfl) (Zu hO11.len) <| Jc Tryz.call10 rfl (fun hin => fromK_ct t2 _ _ (hO11.rd (hin 1 _ rfl)) (Z3 (by decide) (by decide) hg2)) rfl ?_)))
 rintro _ _ ⟨cs13, k13, rfl, rfl, hO13⟩
 refine JLM rfl <| JLn (Pu.extract rfl rfl) <| JLn (Pu.extract rfl rfl) <| JLr (Zi (l := pkT 0 0 zS nS nS) Tryz.zeroValue28 rfl fun b14 => JLr (Zd 0 (vs := cs13) (l := cs13) Zt rfl rfl rfl rfl hO13.len hO13.ok (ZD (n := 36) rfl hO13.len) <| JLA rfl <| Zb <| Zc <| Zc <| Zy mixed #[0, 1, 3, 7, 15, 31, 63, 127, 255, 511, 1023, 2047, 4095, 8191, 16383, 32767, 65535, 131071, 262143, 524287, 1048575, 2097151, 4194303, 8388607, 16777215, 33554431, 67108863, 134217727, 268435455, 536870911, 1073741823, 2147483647, 2147483647, 8589934591, 17179869183, 34359738367, 68719476735, 137438953471, 137438953471, 549755813887, 1099511627775, 2199023255551, 4398046511103, 8796093022207, 17592186044415, 8796093022207, 43980465111039, 140737488355327, 8796093022207, 8796093022207, 853221023154175, 2251799813685247, 4503599627370495, 9007199254740991, 18014398509481983, 36028797018963967, 72057594037927935, 144115188075855871] 51 [some 58, some 59, some 60, some 61, some 62, some 63, some 64, some 65, some 66, some 67, some 68, some 69, some 70, some 71, some 72, some 73, some 74, some 75, some 76, some 77, some 78, some 79, some 80, some 81, some 82, some 83, some 84, some 85, some 86, some 87, some 88, some 89, some 90, some 91, some 92, some 93, some 94, some 95, some 96, some 97, some 98, some 99, some 100, some 101, some 102, some 103, some 104, some 105, some 106, some 107, some 108] [] [(33, fun _ _ vw qw => vw = .bool true ∧ qw = []), (39, fun _ _ vw qw => vw = .bool true ∧ qw = []), (44, fun _ _ vw qw => vw = .string (Xj (Ya (itT t2))) ∧ qw = []), (46, fun _ _ vw qw => vw = .string (Xj (Ya (itT t5))) ∧ qw = []), (50, fun _ _ vw qw => vw = .bool (decide (t2 = t5)) ∧ qw = [])] rfl (by kernel_rfl) rfl (by kernel_rfl) <| DM (fun _ => rfl) <| Dq (.bool false) (fun _ => show Pu _ _ _ (.bool (!true)) from Pu.not rfl) <| DM (fun _ => rfl) ?_))
 refine DM (fun _ => rfl) <| Dq (.bool false) (fun _ => show Pu _ _ _ (.bool (!true)) from Pu.not rfl) <| Dq (.bool false) (fun _ => Pu.pickF rfl rfl) <| DM (fun _ => rfl) <| DM (fun _ => rfl) <| Dq (.bool false) (fun _ => show Pu _ _ _ (.bool (!decide ((0 : Int) = 0))) from Pu.neq rfl rfl) <| Dq (.bool false) (fun _ => Pu.pickF rfl rfl) <| DM (fun _ => rfl) <| DM (fun _ => rfl) <| Dq (.bool false) (fun _ => show Pu _ _ _ (.bool (!decide ((0 : Int) = 0))) from Pu.neq rfl rfl) <| Dq (.bool false) (fun _ => Pu.pickF rfl rfl) <| DM (fun _ => rfl) <| DM (fun _ => rfl) ?_
 refine Dq (.bool false) (fun _ => show Pu _ _ _ (.bool (!decide ((0 : Int) = 0))) from Pu.neq rfl rfl) <| Dq (.bool false) (fun _ => Pu.pickF rfl rfl) <| DM (fun _ => rfl) <| DM (fun _ => rfl) <| Dq (.bool false) (fun _ => show Pu _ _ _ (.bool (!decide ((0 : Int) = 0))) from Pu.neq rfl rfl) <| Dq (.bool false) (fun _ => Pu.pickF rfl rfl) <| DM (fun _ => rfl) <| DM (fun _ => rfl) <| Dq (.bool false) (fun _ => show Pu _ _ _ (.bool (!decide ((0 : Int) = 0))) from Pu.neq rfl rfl) <| Dq (.bool false) (fun _ => Pu.pickF rfl rfl) <| DM (fun _ => rfl) <| DM (fun _ => rfl) <| Dq (.bool false) (fun _ => show Pu _ _ _ (.bool (!decide ((0 : Int) = 0))) from Pu.neq rfl rfl) ?_
 refine Dq (.bool false) (fun _ => Pu.pickF rfl rfl) <| DM (fun _ => rfl) <| Dl Zt (At.bx 4 rfl) (Zu hO9.len) <| Dl Zt (At.bx 12 rfl) (Zu hO2.len) <| Dc rfl Tryz.call11 (fun _ => rfl) (fun hin => bool_r (r := true) (Xh _ _ _ _ _ (hO9.rd (hin 5 _ rfl)) (hO2.rd (hin 14 _ rfl))) (decide_eq_true rfl)) ?_
 rintro _ _ ⟨rfl, rfl⟩
 refine Dq (.bool false) (fun _ => show Pu _ _ _ (.bool (!true)) from Pu.not rfl) <| Dq (.bool false) (fun _ => Pu.pickF rfl rfl) <| DM (fun _ => rfl) <| Dl Zt (At.bx 0 rfl) (Zu hO13.len) <| Dl Zt (At.bx 12 rfl) (Zu hO2.len) <| Dc rfl Tryz.call11 (fun _ => rfl) (fun hin => bool_r (r := true) (Xh _ _ _ _ _ (hO13.rd (hin 1 _ rfl)) (hO2.rd (hin 14 _ rfl))) (decide_eq_true rfl)) ?_
 rintro _ _ ⟨rfl, rfl⟩
 refine Dq (.bool false) (fun _ => show Pu _ _ _ (.bool (!true)) from Pu.not rfl) <| Dq (.bool false) (fun _ => Pu.pickF rfl rfl) <| DM (fun _ => rfl) <| Dm v7 ?_
 refine Dr rfl (fun _ => Runs_toStrO 7 rfl ho7 (by omega) Tryz.runUnderlying22 Tryz.runUnderlying5 Tryz.runUnderlying9 rfl ⟨[], by rw [ZX rfl]; exact Sub.refl, rfl, rfl⟩) ?_; rintro _ _ ⟨rfl, rfl⟩
 refine Dm v8 ?_
 refine Dr rfl (fun _ => Runs_toStrO 6 rfl ho8 (by omega) Tryz.runUnderlying22 Tryz.runUnderlying5 Tryz.runUnderlying9 rfl ⟨[], by rw [ZX rfl]; exact Sub.refl, rfl, rfl⟩) ?_; rintro _ _ ⟨rfl, rfl⟩
 refine Dn (fun _ => Pu.eqlS rfl rfl) <| Dl Zt (At.bx 12 rfl) (Zu hO2.len) <| Dl Zt (At.bx 8 rfl) (Zu hO5.len) <| Dc rfl Tryz.call11 (fun _ => rfl) (fun hin => Xh _ _ _ _ _ (hO2.rd (hin 14 _ rfl)) (hO5.rd (hin 10 _ rfl))) ?_
 rintro _ _ ⟨rfl, rfl⟩
 refine ZG (M' := [(BX b14 cs13 28), k13, (BX b12 cs11 40), k11, (BX b10 cs9 28), k9, k8, k7, (BX b6 cs5 28), (BX bS4 [u4, iv a5, .int .u64 s5] 69), k5, k4, (BX b3 cs2 28), (BX bS1 [u1, iv a2, .int .u64 s2] 69), k2, k1]) rfl ?_
 show JL _ _ _ [_, _, _, _, _, _, _] _ _ _
 refine JLq (.bool false) (Pu.castB (Pu.neqB Tryz.runUnderlying4 rfl rfl) (by rw [coded_same (Z3 (by decide) (by decide) hg2) (Z3 (by decide) (by decide) hg5)]; simp)) <| JLq (.bool false) (Pu.pickF rfl rfl) <| JLM rfl <| JLm v7 ?_
 obtain ⟨a15, cap15, hv15⟩ := ho7.sl
 rw [Yh] at hv15
 refine JLn (Pu.lenSl Tryz.runUnderlying22 hv15) <| JLq (.bool false) (Pu.castB (Pu.eql rfl rfl) (decide_eq_false (by omega))) <| JLq (.bool false) (Pu.pickF rfl rfl) <| Zb <| Zg (b := false) rfl (fun h => absurd h (by simp)) (fun _ => Zm <| Zc <| Za <| JLm v7 <| JLm v7 ?_)
 obtain ⟨a16, cap16, hv16⟩ := ho7.sl
 rw [Yh] at hv16
 refine JLn (Pu.lenSl Tryz.runUnderlying22 hv16) <| JLn (Pu.sub64 rfl rfl (by first | omega | (constructor <;> omega))) ?_
 obtain ⟨n17, hn17⟩ : ∃ n, n + 1 = (Ya (itT t2)).length := ⟨(Ya (itT t2)).length - 1, by omega⟩
 refine JLr (Runs_sliceO (n := n17) ho7 (by omega) (by omega) (by omega) Tryz.runUnderlying22 Tryz.sizeOf5 rfl rfl fun u17 hu17 ho17 => Jc Tryz.call8 rfl (fun hin => decP_ct ((Ya (itT t2)).take n17) _ _ (hu17 _ (hin 7 _ rfl)) (fun y hy => by exact enc_8 _ (Yy (Z3 (by decide) (by decide) hg2)).1 y (List.mem_of_mem_take hy)) (by rw [List.length_take]; omega)) rfl ?_)
 rintro _ _ ⟨cs18, k18, rfl, rfl, hO18⟩
 have hne18 : ¬ (decT ((Ya (itT t2)).take n17)).2.2 = 0 := decT_few (Z3 (by decide) (by decide) hg2) hn17
 refine JLM rfl <| JLn (Pu.extract rfl rfl) <| JLn (Pu.extract rfl rfl) <| JLn (Pu.extract rfl rfl) <| JLA rfl <| Zb <| Zc <| Za <| JLm v7 <| Jc Tryz.call12 rfl (fun hin => cloneB_ct _ (Ya (itT t2)) _ (YU ho7 (by omega) (hin 8 _ rfl)) (by omega)) rfl ?_
 rintro u19 _ ⟨k19, rfl, ho19⟩
 refine JLr (Zp (vs := [.int .u8 1]) [[.int .u8 1]] Tryz.runUnderlying22 el5 rfl rfl (by intro e he; simp only [List.mem_cons, List.not_mem_nil, or_false] at he; subst he; exact rfl) rfl (by decide) fun b20 k20 ho20 hk20 => ?_)
 have hlens21 : ∀ e ∈ ([[.int .u8 1]] : List (List Value)), List.length e = 1 := by
  intro e he; simp only [List.mem_cons, List.not_mem_nil, or_false] at he
  rcases he with rfl
  ·exact rfl
 have hoks21 : ∀ e ∈ ([[.int .u8 1]] : List (List Value)), okc e := by
  intro e he; simp only [List.mem_cons, List.not_mem_nil, or_false] at he
  rcases he with rfl
  ·exact (Zf rfl Zn)
 refine JLr (Zz (i := 1) (n := 1) (es' := [[.int .u8 1]]) Tryz.runUnderlying22 Tryz.runUnderlying22 (Or.inl rfl) el5 rfl rfl rfl ho19 (fun F w m => Src.row (((At.k 0 rfl (by rw [hk20]; exact List.mem_cons_self))).heap m) (Zu (Zx hlens21))) rfl hlens21 hoks21 (by decide) (by rw [Yh]; simp; omega) fun v21 k21 ho21 => ?_)
 rw [byts_one] at ho21
 refine Jc Tryz.call8 rfl (fun hin => decP_ct (Ya (itT t2) ++ [1]) _ _ (YU ho21 (by simp; omega) (hin 1 _ rfl)) (fun y hy => by rcases List.mem_append.1 hy with hy | hy; exact enc_8 _ (Yy (Z3 (by decide) (by decide) hg2)).1 y hy; simp at hy; omega) (by simp; omega)) rfl ?_
 rintro _ _ ⟨cs22, k22, rfl, rfl, hO22⟩
 have hne22 : ¬ (decT (Ya (itT t2) ++ [1])).2.2 = 0 := decT_more (Z3 (by decide) (by decide) hg2) 1
 refine JLM rfl <| JLn (Pu.extract rfl rfl) <| JLn (Pu.extract rfl rfl) <| JLn (Pu.extract rfl rfl) <| JLA rfl <| Zb <| Zc <| Za <| JLM rfl <| JLq (.bool true) (Pu.castB (Pu.neq rfl rfl) (by rw [decide_eq_false hne18]; rfl)) <| JLM rfl <| JLM rfl <| JLq (.bool true) (Pu.castB (Pu.neq rfl rfl) (by rw [decide_eq_false hne22]; rfl)) ?_
 refine JLq (.bool true) (Pu.pickT rfl rfl) <| JLM rfl <| Jc Tryz.call13 rfl (fun hin => awake_ct _) rfl ?_
 rintro _ _ ⟨rfl, rfl⟩
 refine JLq (.bool true) (Pu.pickT rfl rfl) <| JLA rfl <| Zb <| Zj <| ⟨.bool true, [], Ret.one rfl (RV.tmp rfl), Sub.nil, ?_⟩
 exact ⟨rfl, rfl⟩
end Go.Proofs.YtjhenmdcnbaobaaGreat.Hs
