import Derived.Test.YtbfjkdhfelmioaaGreatMovesh
import Derived.Laws.RangeString
/-! Strings: rows of them, ranges over them, names of one letter. -/
namespace Go.Proofs.YtbfjkdhfelmioaaGreat.Hs
open Go
/-- the name of one letter -/
def ltr (i : Nat) : ByteArray := ⟨#[UInt8.ofNat (97 + i)]⟩
def strs (l : List ByteArray) : List (List Value) := l.map fun n => [.string n]
theorem strs_len (l : List ByteArray) : (strs l).length = l.length := by simp [strs]
theorem strs_snoc (l : List ByteArray) (n : ByteArray) : strs (l ++ [n]) = strs l ++ [[.string n]] := by simp [strs]
theorem strs_app (l m : List ByteArray) : strs (l ++ m) = strs l ++ strs m := by simp [strs]
theorem strs_get (l : List ByteArray) (j : Nat) (h : j < l.length) : (strs l)[j]'(by rw [strs_len]; exact h) = [.string l[j]] := by simp [strs]
theorem strs_len1 (l : List ByteArray) : ∀ e ∈ strs l, e.length = 1 := by
  intro e he; obtain ⟨n, _, rfl⟩ := List.mem_map.1 he; rfl
theorem strs_ok (l : List ByteArray) : ∀ e ∈ strs l, okc e := by
  intro e he; obtain ⟨n, _, rfl⟩ := List.mem_map.1 he; exact okc_cons rfl okc_nil
def RS (_ : Heap) (cs : List Value) (n : ByteArray) : Prop := cs = [.string n]
theorem RSs.mono {h h' : Heap} (hh : Hle h h') {v : Value} {l : List ByteArray} (q : Hs.rdS RS 1 h v l) : Hs.rdS RS 1 h' v l := rdS.mono q hh fun _ _ _ e => e
theorem own_strs {T : TypeId} {v : Value} {l : List ByteArray} {k : Chunk} {h : Heap} (o : Own T 1 v (strs l) k) (hn : l.length ≤ 9223372036854775807) (hk : Has k h) : Hs.rdS RS 1 h v l :=
  o.rdS (strs_len l).symm hn hk fun i _ h2 => strs_get l i h2
theorem rdS.none {α : Type} {E : Heap → List Value → α → Prop} {sz : Nat} {h : Heap} {a : Option Addr} {cap : Nat} : Hs.rdS E sz h (.slice a 0 cap) [] := ⟨a, cap, rfl, by simp, .inl rfl⟩
/-- What a row of strings gives to append. -/
theorem strs_src {P : Program} {H : Heap} {v : Value} {l : List ByteArray} (h : Hs.rdS RS 1 H v l) : ∀ w L, Mem w L H → Src P 1 w v l.length (strs l).flatten := by
  obtain ⟨es, e1, e2, e3, e4⟩ := rdS.src (P := P) h
  have : es = strs l := by
    apply List.ext_getElem
    · rw [e1, strs_len]
    · intro i h1 h2
      have := e2 i h1 (by omega)
      rw [strs_get l i (by omega)]; exact this
  subst this
  intro w L m
  exact e4 w L H (Hle.refl _) m
theorem own_src {P : Program} {H : Heap} {T : TypeId} {v : Value} {l : List ByteArray} {k : Chunk} {M : List Chunk} {i : Nat} (o : Own T 1 v (strs l) k) (hi : M[i]? = some k) : ∀ F w, Mem w (M.flatten ++ F) H → Src P 1 w v l.length (strs l).flatten := by
  intro F w m
  rcases o.2 with ⟨e, e2, e3⟩ | ⟨b, cap, sp, e, e2, e3, e4⟩
  · have : l = [] := by have := strs_len l; rw [e2] at this; exact List.eq_nil_of_length_eq_zero this.symm
    subst this
    rw [e]; exact Src.nil
  · subst e
    have hb : w.heap[b]? = some (.cells ⟨(strs l).flatten ++ sp⟩ T (0, 0)) := (At.k (M := M) (H := H) i hi (by rw [e2]; simp)).heap m
    have := Src.row (P := P) (cap := cap) (n := l.length) hb (by have := sub_flat (sp := sp) o.1; rwa [strs_len] at this)
    rw [strs_len]; exact this

/-- the place of a string in a row -/
def fstS (x : ByteArray) : List ByteArray → Nat → Int
  | [], _ => -1
  | y :: l, i => if x = y then (i : Int) else fstS x l (i + 1)
theorem fstS_mem (x : ByteArray) (l : List ByteArray) : ∀ i, decide (0 ≤ fstS x l i) = l.any (fun y => decide (x = y)) := by
  induction l with
  | nil => intro i; simp [fstS]
  | cons y l ih =>
    intro i
    rw [fstS]
    by_cases h : x = y
    · rw [if_pos h, List.any_cons, decide_eq_true h]; simp
    · rw [if_neg h, ih, List.any_cons, decide_eq_false h]; rfl
/-- the place of a bool in a row -/
def fstB (x : Bool) : List Bool → Nat → Int
  | [], _ => -1
  | y :: l, i => if x = y then (i : Int) else fstB x l (i + 1)

def itC (r : Nat) (s : ByteArray) (p : Nat) : Chunk := [(r, .stringIter s p)]
section
variable {c : Cx} {H : Heap} {ρ : Nat → Value} {M : List Chunk} {K : Value → List Chunk → Prop} {d : Option Nat} {ot : TypeId} {pos : String} {af : Array Edge} {g : Option (Nat × Bool)} {x y z : Operand}
theorem Runs_rangeS {T : TypeId} {s : ByteArray} (hT : c.P.underlying T = some .string) (hx : ev c.n ρ x = .string s) (h : ∀ r, K (.pointer (some ⟨r, 0, none⟩)) (itC r s 0 :: M)) : Runs c H ⟨d, .range T x, ot, pos, af, g⟩ ρ M K := fun F w m => by
  refine ⟨.pointer (some ⟨w.heap.size, 0, none⟩), { w with heap := w.heap.push (.stringIter s 0) }, [(w.heap.size, .stringIter s 0)] :: M, .inl ?_, m.push (w' := { w with heap := w.heap.push (.stringIter s 0) }) rfl, h _⟩
  simp [execOp, Instr.range, hx, run_underlying hT, Result.andThen]
theorem Runs_nextA {i r p : Nat} {s : ByteArray} (hx : ev c.n ρ x = .pointer (some ⟨r, 0, none⟩)) (hi : M[i]? = some (itC r s p)) (hp : p < s.size) (ha : (s[p]'hp).toNat < 128)
    (h : K (.tuple ⟨[.bool true, .int .i64 p, .int .i32 ((s[p]'hp).toNat : Int)]⟩) (M.set i (itC r s (p + 1)))) : Runs c H ⟨d, .next x true, ot, pos, af, g⟩ ρ M K := fun F w m => by
  have hb : w.heap[r]? = some (.stringIter s p) := (m.perm ((flatten_at hi).append_right F)).own r _ (List.mem_cons_self ..)
  refine ⟨_, _, _, .inl ?_, m.put (o' := .stringIter s (p + 1)) hi, h⟩
  have hg : (getObj r).run c.P w = .ok (.stringIter s p) w := by simp [getObj, Sem.run, hb]
  have hs : (setObj r (.stringIter s (p + 1))).run c.P w = .ok () { w with heap := w.heap.setIfInBounds r (.stringIter s (p + 1)) } := by simp [setObj, Sem.run, hb]
  simp only [execOp, Instr.next, hx, Sem.run_bind, hg, Result.andThen, hp, if_true, decode_ascii s p hp ha, hs]
  simp [goInt]
theorem Runs_nextE {i r p : Nat} {s : ByteArray} (hx : ev c.n ρ x = .pointer (some ⟨r, 0, none⟩)) (hi : M[i]? = some (itC r s p)) (hp : ¬ p < s.size)
    (h : K (.tuple ⟨[.bool false]⟩) M) : Runs c H ⟨d, .next x true, ot, pos, af, g⟩ ρ M K := fun F w m => by
  have hb : w.heap[r]? = some (.stringIter s p) := (m.perm ((flatten_at hi).append_right F)).own r _ (List.mem_cons_self ..)
  refine ⟨_, _, _, .inl ?_, m, h⟩
  have hg : (getObj r).run c.P w = .ok (.stringIter s p) w := by simp [getObj, Sem.run, hb]
  simp [execOp, Instr.next, hx, hg, Result.andThen, hp]
end
theorem w32 {a : Int} (h : -2147483648 ≤ a ∧ a ≤ 2147483647) : IntKind.i32.wrap a = a := by
  exact IntWalk.i32_in a h
section
variable {P : Program} {e : Operand → Value} {T T' : TypeId} {x : Operand} {k : IntKind} {a : Int} {d : Option Nat} {ot : TypeId} {pos : String} {af : Array Edge} {g : Option (Nat × Bool)}
theorem Pu.convS {s : ByteArray} {t : TypeDesc} (hs : ∀ w, (underlying T).run P w = .ok t w) (hT : ∀ w, (underlying T').run P w = .ok .string w) (hx : e x = .int k a) (hv : Utf8.encode a = s) : Pu P e ⟨d, .convert T T' x, ot, pos, af, g⟩ (.string s) := fun w => by
  subst hv
  simp [execOp, convert, hs, hT, hx, Result.andThen, Conv.intToString]
end
theorem ltr_size (i : Nat) : (ltr i).size = 1 := rfl
theorem ltr_get (i : Nat) (h : i < 26) : ((ltr i)[0]'(by rw [ltr_size]; decide)).toNat = 97 + i := by
  show (UInt8.ofNat (97 + i)).toNat = 97 + i
  simp; omega
theorem ltr_enc : ∀ i : Nat, i < 26 → Utf8.encode ((97 + i : Nat) : Int) = ltr i := by decide
theorem ltr_enc' (i : Nat) (h : i < 26) : Utf8.encode (97 + (i : Int)) = ltr i := by have := ltr_enc i h; simpa using this
section
variable {c : Cx} {H : Heap} {ρ : Nat → Value} {M : List Chunk} {K : Value → List Chunk → Prop} {d : Option Nat} {ot : TypeId} {pos : String} {af : Array Edge} {g : Option (Nat × Bool)} {x : Operand}
theorem Runs_nextL {i r k : Nat} (hx : ev c.n ρ x = .pointer (some ⟨r, 0, none⟩)) (hi : M[i]? = some (itC r (ltr k) 0)) (hk : k < 26)
    (h : K (.tuple ⟨[.bool true, .int .i64 0, .int .i32 (97 + (k : Int))]⟩) (M.set i (itC r (ltr k) 1))) : Runs c H ⟨d, .next x true, ot, pos, af, g⟩ ρ M K := by
  have hg := ltr_get k hk
  refine Runs_nextA hx hi (by rw [ltr_size]; decide) (by omega) ?_
  rw [hg]
  simpa using h
end
def markL (i : Nat) (l : List Bool) : List Bool := if i < l.length then l.set i true else l
/-- What is known of a term with names: the names on the way down, one Kid after the other. -/
def NC : List (List ByteArray) → List Value → Chunk → Prop
  | [], cs, _ => cs.length = 37 ∧ okc cs
  | x :: xs, cs, c => ∃ k n r ns ks cv e k1 k2 k3, cs = pkT k n r ns ks ++ [cv] ∧ cv.oneCell' = true ∧ Own 9 1 ns (strs x) k1 ∧ Own 72 37 ks [e] k2 ∧ NC xs e k3 ∧ c = k1 ++ (k2 ++ k3)
theorem NC.len : ∀ {xs : List (List ByteArray)} {cs : List Value} {c : Chunk}, NC xs cs c → cs.length = 37
  | [], _, _, h => h.1
  | _ :: _, _, _, ⟨_, _, _, _, _, _, _, _, _, _, h, _⟩ => by rw [h]; rfl
theorem NC.ok : ∀ {xs : List (List ByteArray)} {cs : List Value} {c : Chunk}, NC xs cs c → okc cs
  | [], _, _, h => h.2
  | _ :: _, _, _, ⟨_, _, _, _, _, _, _, _, _, _, h, h1, h2, h3, _⟩ => by rw [h]; exact okc_app (pkT_ok h2.one h3.one) (okc_cons h1 okc_nil)
theorem spl_l {a b a' vs : List Value} {off : Nat} (h : spl a off vs = some a') : spl (a ++ b) off vs = some (a' ++ b) := by
  obtain ⟨h1, h2⟩ := spl_some h
  rw [spl_mk (by rw [List.length_append]; omega), h2, List.take_append_of_le_length (by omega), List.drop_append_of_le_length (by omega)]
  simp
theorem spl_r {a b b' vs : List Value} {n i : Nat} (hn : a.length = n) (h : spl b i vs = some b') : spl (a ++ b) (n + i) vs = some (a ++ b') := by
  obtain ⟨h1, h2⟩ := spl_some h
  rw [spl_mk (by rw [List.length_append]; omega), h2, ← hn, List.take_length_add_append, Nat.add_assoc, List.drop_length_add_append]
  simp
theorem markL_len (i : Nat) (l : List Bool) : (markL i l).length = l.length := by unfold markL; split <;> simp
theorem int_r {P : Program} {f : FuncId} {a : Array Value} {M : List Chunk} {H : Heap} {x r : Int} (h : CT P f a M H (fun v N => v = .int .i64 x ∧ N = [])) (hr : x = r) : CT P f a M H (fun v N => v = .int .i64 r ∧ N = []) := hr ▸ h
noncomputable def eqL {α : Type} (l m : List α) : Bool := @decide (l = m) (Classical.propDecidable _)
theorem eqL_true {α : Type} {l m : List α} (h : l = m) : eqL l m = true := by unfold eqL; simp [h]
theorem eqL_false {α : Type} {l m : List α} (h : ¬ l = m) : eqL l m = false := by unfold eqL; simp [h]
theorem ltr_inj {i j : Nat} (hi : i < 26) (hj : j < 26) (h : ltr i = ltr j) : i = j := by
  have h1 := ltr_get i hi
  have h2 := ltr_get j hj
  simp only [h] at h1
  omega
end Go.Proofs.YtbfjkdhfelmioaaGreat.Hs
/-! The examples of the chapter, in plain Lean. -/
namespace Go.Proofs.YtbfjkdhfelmioaaGreat.Hs
open Go Go.Proofs
def eVa (n : Int) : Tm := .mk 1 n zS [] []
def eNu (n : Int) : Tm := .mk 2 n zS [] []
def eLa (t : Tm) : Tm := .mk 3 0 zS [t] []
def eAp (t u : Tm) : Tm := .mk 4 0 zS [t, u] []
def eLam : Tm := eLa (eAp (eVa 0) (eVa 1))
theorem free_lam : freeE eLam = ([0], 0) := by kernel_rfl
theorem five_lam : substP eLam 0 (eNu 5) = (eLa (eAp (eVa 0) (eNu 5)), 0) := by kernel_rfl
theorem three_lam : substP eLam 0 (eVa 3) = (eLa (eAp (eVa 0) (eVa 4)), 0) := by kernel_rfl
theorem up_lam : shiftP eLam 2 0 = (eLa (eAp (eVa 0) (eVa 3)), 0) := by kernel_rfl
theorem down_va : shiftP (eVa 0) (-1) 0 = (zT, 1) := by kernel_rfl
def eLL : Tm := eLa (eLa (eVa 1))
theorem right_ll : rightT [eLL] = 0 := by kernel_rfl
theorem free_ll : freeE eLL = ([], 0) := by kernel_rfl
theorem check_h2 : checkT 0 0 (.mk 12 0 zS [eNu 1, eVa 0] []) = 0 := by kernel_rfl
theorem check_h1 : checkT 0 0 (.mk 12 0 zS [eNu 1] []) = 2 := by kernel_rfl
/-- the cells of the first of two results -/
def tcel : Value → List Value
  | .tuple ⟨[.agg ⟨cs⟩, _]⟩ => cs
  | _ => []
theorem ble_at {P : Program} {f : FuncId} {a : Array Value} {M : List Chunk} {H : Heap} {x : Tm × Int} {d : Tm} {e : Int} (h : CT P f a M H (fun v N => ∃ cs k, v = .tuple ⟨[.agg ⟨cs⟩, .int .i64 x.2]⟩ ∧ N = [k] ∧ OT x.1 cs k)) (hx : x = (d, e)) :
    CT P f a M H (fun v N => ∃ cs k, v = .tuple ⟨[.agg ⟨cs⟩, .int .i64 e]⟩ ∧ N = [k] ∧ OT d cs k) := by subst hx; exact h
theorem bool_r {P : Program} {f : FuncId} {a : Array Value} {M : List Chunk} {H : Heap} {x r : Bool} (h : CT P f a M H (fun v N => v = .bool x ∧ N = [])) (hr : x = r) : CT P f a M H (fun v N => v = .bool r ∧ N = []) := hr ▸ h
section
variable {c : Cx} {H : Heap} {ρ : Nat → Value} {M : List Chunk} {K : Value → List Chunk → Prop} {d : Option Nat} {ot : TypeId} {pos : String} {af : Array Edge} {g : Option (Nat × Bool)} {x y : Operand}
/-- the first nothing of a slice -/
theorem Runs_slice0 {T el : TypeId} {sz n cap : Nat} {a : Option Addr} {k : IntKind} (hT : ∀ w, (underlying T).run c.P w = .ok (.slice el) w) (hsz : ∀ w, (sizeOf el).run c.P w = .ok sz w) (hx : ev c.n ρ x = .slice a n cap) (hy : ev c.n ρ y = .int k 0)
    (h : ∀ a' cap', K (.slice a' 0 cap') M) : Runs c H ⟨d, .slice T x none (some y) none, ot, pos, af, g⟩ ρ M K := fun F w m => by
  refine ⟨_, w, M, .inl ?_, m, h (if cap = 0 then a else a.map (·.add (0 * sz))) (cap - 0)⟩
  simp [execOp, Instr.sliceAt, Instr.slice, Instr.sliceBounds, Instr.sliceBound, asIntOf, hx, hy, hT, hsz, Result.andThen]
end
end Go.Proofs.YtbfjkdhfelmioaaGreat.Hs
/-! Layer 4, the plain law, third part: sizes. No program here. -/
namespace Go.Proofs.YtbfjkdhfelmioaaGreat.Hs
open Go
theorem great_size {t : Tm} (h : (cnT stG 0 t 0).1 = false) : sizeT t ≤ 400 := by
  have h1 := cnT_size t 0 0 h
  have h2 := cnGT_le t 0 0 h
  omega
theorem size_mv (dy fr : Int) (t : Tm) : ∀ b, sizeT (mvT dy fr b t) = sizeT t := by
  induction t using Tm.ind with
  | h k n r kids cases ih ih' =>
    intro b
    have hK : ∀ (l : List Tm), (∀ t ∈ l, ∀ b, sizeT (mvT dy fr b t) = sizeT t) → ∀ i, sizeTs (mvTs dy fr b k i l) = sizeTs l := by
      intro l
      induction l with
      | nil => intro _ i; rfl
      | cons t l ihl => intro hl i; rw [mvTs, sizeTs, sizeTs, hl t (by simp), ihl (fun x hx => hl x (by simp [hx]))]
    have hC : ∀ (l : List (Pt × Tm)), (∀ t ∈ l, ∀ b, sizeT (mvT dy fr b t.2) = sizeT t.2) → sizeCs (mvCs dy fr b l) = sizeCs l := by
      intro l
      induction l with
      | nil => intro _; rfl
      | cons t l ihl => obtain ⟨p, t⟩ := t; intro hl; rw [mvCs, sizeCs, sizeCs, hl (p, t) (by simp), ihl (fun x hx => hl x (by simp [hx]))]
    rw [mvT, sizeT, sizeT, hK kids ih, hC cases ih']
theorem size_put (n : Int) (u : Tm) (t : Tm) : ∀ b, sizeT (putT n u b t) ≤ sizeT t * sizeT u := by
  have hu := sizeT_pos u
  induction t using Tm.ind with
  | h k m r kids cases ih ih' =>
    intro b
    have hK : ∀ (l : List Tm), (∀ t ∈ l, ∀ b, sizeT (putT n u b t) ≤ sizeT t * sizeT u) → ∀ i, sizeTs (putTs n u b k i l) ≤ sizeTs l * sizeT u := by
      intro l
      induction l with
      | nil => intro _ i; simp [putTs, sizeTs]
      | cons t l ihl => intro hl i; rw [putTs, sizeTs, sizeTs, Nat.add_mul]; exact Nat.add_le_add (hl t (by simp) _) (ihl (fun x hx => hl x (by simp [hx])) _)
    have hC : ∀ (l : List (Pt × Tm)), (∀ t ∈ l, ∀ b, sizeT (putT n u b t.2) ≤ sizeT t.2 * sizeT u) → sizeCs (putCs n u b l) ≤ sizeCs l * sizeT u := by
      intro l
      induction l with
      | nil => intro _; simp [putCs, sizeCs]
      | cons t l ihl =>
        obtain ⟨p, t⟩ := t
        intro hl
        rw [putCs, sizeCs, sizeCs, Nat.add_mul, Nat.add_mul]
        exact Nat.add_le_add (Nat.add_le_add (Nat.le_mul_of_pos_right _ hu) (hl (p, t) (by simp) _)) (ihl (fun x hx => hl x (by simp [hx])))
    rw [putT]
    split
    · rw [size_mv, sizeT, Nat.add_mul, Nat.add_mul]; omega
    · rw [sizeT, sizeT, Nat.add_mul, Nat.add_mul]
      have h1 := hK kids ih 0
      have h2 := hC cases ih'
      omega
theorem checkR_ok {t : Tm} (h : checkR 60 8 t = 0) : sizeT t ≤ 300 ∧ vOK t ∧ tidy t := by
  have := checkT_ok (by rw [check_eq]; exact h : checkT 60 8 t = 0)
  exact ⟨this.1, this.2.1, this.2.2.1⟩
theorem put_bound {n : Int} {t u : Tm} (ht : sizeT t ≤ 300) (hu : sizeT u ≤ 300) : sizeT (putT n u 0 t) ≤ 1000000000 := by
  have h1 := size_put n u t 0
  have h2 : sizeT t * sizeT u ≤ 300 * 300 := Nat.mul_le_mul ht hu
  omega
theorem RT_zero {h : Heap} : RT h (pkT 0 0 zS (.slice none 0 0) (.slice none 0 0)) zT := OT_zero.rd Has.nil
end Go.Proofs.YtbfjkdhfelmioaaGreat.Hs
/-! Walks, printed by a program of this session's own (gen.py). -/
namespace Go.Proofs.YtbfjkdhfelmioaaGreat.Hs
open Go Go.Proofs
set_option maxRecDepth 100000
set_option linter.unusedVariables false
set_option linter.unusedSimpArgs false
attribute [local irreducible] JL J CT wlo
theorem more_ct (k j : Int) (H : Heap) : CT Tryz.prog 88 ⟨[.int .i64 (k), .int .i64 (j)]⟩ [] H (fun v N => v = .int .i64 (more k j) ∧ N = []) := by
 refine CT_enter Tryz.func88 rfl rfl ?_
 refine J_seq ?_
 refine J_region ?_
 refine JL_pure (v := .int .i64 (0)) rfl (Pu.assign rfl) ?_
 refine JL_nil ?_
 refine J_seq ?_
 refine J_block ?_
 refine J_seq ?_
 refine J_seq ?_
 refine J_region ?_
 refine JL_pure (v := .int .i64 (k)) rfl (Pu.move rfl) ?_
 refine JL_pure (v := .bool (decide (k = 3))) rfl (Pu.eql rfl rfl) ?_
 refine JL_pure (v := .bool (decide (k = 3))) rfl (Pu.assign rfl) ?_
 refine JL_nil ?_
 refine J_cond (b := decide (k = 3)) rfl (fun h1 => ?_) (fun h1 => ?_)
 ·skip
  replace h1 := dt h1
  refine J_skip ?_
  refine J_cond (b := decide (k = 3)) rfl (fun _ => ?_) (fun h2 => absurd h1 (df h2))
  refine J_seq ?_
  refine J_region ?_
  refine JL_pure (v := .int .i64 (1)) rfl (Pu.assign rfl) ?_
  refine JL_nil ?_
  refine J_ret ?_
  refine ⟨.int .i64 (1), [], Ret.one rfl (RV.tmp rfl), Sub.nil, ?_⟩
  exact ⟨by first | (simp_all [more]; done) | (congr 1; unfold more; simp_all; try omega), rfl⟩
 ·skip
  replace h1 := df h1
  refine J_cut (fun ρ M => ρ 0 = .int .i64 (k) ∧ ρ 1 = .int .i64 (j) ∧ ρ 4 = .int .i64 (0) ∧ ρ 5 = .bool ((decide (k = 5)) && (decide (j = 1))) ∧ M = []) ?_ ?_
  ·refine J_region ?_
   refine JL_pure (v := .int .i64 (k)) rfl (Pu.move rfl) ?_
   refine JL_pure (v := .bool (decide (k = 5))) rfl (Pu.eql rfl rfl) ?_
   refine JL_pure (v := .bool (decide (k = 5))) rfl (Pu.move rfl) ?_
   cases h3 : (decide (k = 5)) with
   | true =>
    replace h3 := dt h3
    refine JL_pure (v := .int .i64 (j)) rfl (Pu.move rfl) ?_
    refine JL_pure (v := .bool (decide (j = 1))) rfl (Pu.eql rfl rfl) ?_
    refine JL_pure (v := .bool (decide (j = 1))) rfl (Pu.pickT rfl rfl) ?_
    refine JL_pure (v := .bool (decide (j = 1))) rfl (Pu.assign rfl) ?_
    refine JL_nil ?_
    first | exact ⟨rfl, rfl, rfl, rfl, rfl⟩ | (exfalso; omega)
   | false =>
    replace h3 := df h3
    refine JL_skip rfl ?_
    refine JL_skip rfl ?_
    refine JL_pure (v := .bool (false)) rfl (Pu.pickF rfl rfl) ?_
    refine JL_pure (v := .bool (false)) rfl (Pu.assign rfl) ?_
    refine JL_nil ?_
    first | exact ⟨rfl, rfl, rfl, rfl, rfl⟩ | (exfalso; omega)
  ·rintro ρ4 _ ⟨e5, e6, e7, e8, rfl⟩
   obtain ⟨ρ9, rfl⟩ := reopen_ex (uc e5 (uc e6 (uc e7 (uc e8 un))))
   clear e5 e6 e7 e8
   refine J_cond (b := (decide (k = 5)) && (decide (j = 1))) rfl (fun h10 => ?_) (fun h10 => ?_)
   ·skip
    obtain ⟨h10a, h10b⟩ := andT h10
    replace h10a := dt h10a
    replace h10b := dt h10b
    refine J_skip ?_
    refine J_cond (b := (decide (k = 5)) && (decide (j = 1))) rfl (fun h11 => ?_) (fun h11 => ?_)
    ·skip
     obtain ⟨h11a, h11b⟩ := andT h11
     replace h11a := dt h11a
     replace h11b := dt h11b
     refine J_seq ?_
     refine J_region ?_
     refine JL_pure (v := .int .i64 (1)) rfl (Pu.assign rfl) ?_
     refine JL_nil ?_
     refine J_ret ?_
     refine ⟨.int .i64 (1), [], Ret.one rfl (RV.tmp rfl), Sub.nil, ?_⟩
     exact ⟨by first | (simp_all [more]; done) | (congr 1; unfold more; simp_all; try omega), rfl⟩
    ·skip
     refine J_cut (fun ρ M => ρ 4 = .int .i64 (0) ∧ ρ 20 = .bool ((decide (k = 12)) && (decide (1 < j))) ∧ M = []) ?_ ?_
     ·refine J_region ?_
      refine JL_pure (v := .int .i64 (k)) rfl (Pu.move rfl) ?_
      refine JL_pure (v := .bool (decide (k = 12))) rfl (Pu.eql rfl rfl) ?_
      refine JL_pure (v := .bool (decide (k = 12))) rfl (Pu.move rfl) ?_
      cases h12 : (decide (k = 12)) with
      | true =>
       replace h12 := dt h12
       refine JL_pure (v := .int .i64 (j)) rfl (Pu.move rfl) ?_
       refine JL_pure (v := .bool (decide (1 < j))) rfl (Pu.gtr rfl rfl) ?_
       refine JL_pure (v := .bool (decide (1 < j))) rfl (Pu.pickT rfl rfl) ?_
       refine JL_pure (v := .bool (decide (1 < j))) rfl (Pu.assign rfl) ?_
       refine JL_nil ?_
       first | exact ⟨rfl, rfl, rfl⟩ | (exfalso; omega)
      | false =>
       replace h12 := df h12
       refine JL_skip rfl ?_
       refine JL_skip rfl ?_
       refine JL_pure (v := .bool (false)) rfl (Pu.pickF rfl rfl) ?_
       refine JL_pure (v := .bool (false)) rfl (Pu.assign rfl) ?_
       refine JL_nil ?_
       first | exact ⟨rfl, rfl, rfl⟩ | (exfalso; omega)
     ·rintro ρ13 _ ⟨e14, e15, rfl⟩
      obtain ⟨ρ16, rfl⟩ := reopen_ex (uc e14 (uc e15 un))
      clear e14 e15
      refine J_cond (b := (decide (k = 12)) && (decide (1 < j))) rfl (fun h17 => ?_) (fun h17 => ?_)
      ·skip
       obtain ⟨h17a, h17b⟩ := andT h17
       replace h17a := dt h17a
       replace h17b := dt h17b
       refine J_seq ?_
       refine J_region ?_
       refine JL_pure (v := .int .i64 (2)) rfl (Pu.assign rfl) ?_
       refine JL_nil ?_
       refine J_ret ?_
       refine ⟨.int .i64 (2), [], Ret.one rfl (RV.tmp rfl), Sub.nil, ?_⟩
       exact ⟨by first | (simp_all [more]; done) | (congr 1; unfold more; simp_all; try omega), rfl⟩
      ·skip
       refine J_skip ?_
       refine J_seq ?_
       refine J_region ?_
       refine JL_pure (v := .int .i64 (0)) rfl (Pu.assign rfl) ?_
       refine JL_nil ?_
       refine J_ret ?_
       refine ⟨.int .i64 (0), [], Ret.one rfl (RV.tmp rfl), Sub.nil, ?_⟩
       exact ⟨by first | (simp_all [more]; done) | (congr 1; unfold more; simp_all; try omega), rfl⟩
   ·skip
    refine J_weak (N := fun ρ M => ρ 0 = .int .i64 (k) ∧ ρ 1 = .int .i64 (j) ∧ ρ 4 = .int .i64 (0) ∧ ρ 5 = .bool ((decide (k = 12)) && (decide (j = 1))) ∧ M = []) ?_ ?_
    ·refine J_region ?_
     refine JL_pure (v := .int .i64 (k)) rfl (Pu.move rfl) ?_
     refine JL_pure (v := .bool (decide (k = 12))) rfl (Pu.eql rfl rfl) ?_
     refine JL_pure (v := .bool (decide (k = 12))) rfl (Pu.move rfl) ?_
     cases h18 : (decide (k = 12)) with
     | true =>
      replace h18 := dt h18
      refine JL_pure (v := .int .i64 (j)) rfl (Pu.move rfl) ?_
      refine JL_pure (v := .bool (decide (j = 1))) rfl (Pu.eql rfl rfl) ?_
      refine JL_pure (v := .bool (decide (j = 1))) rfl (Pu.pickT rfl rfl) ?_
      refine JL_pure (v := .bool (decide (j = 1))) rfl (Pu.assign rfl) ?_
      refine JL_nil ?_
      first | exact ⟨rfl, rfl, rfl, rfl, rfl⟩ | (exfalso; omega)
     | false =>
      replace h18 := df h18
      refine JL_skip rfl ?_
      refine JL_skip rfl ?_
      refine JL_pure (v := .bool (false)) rfl (Pu.pickF rfl rfl) ?_
      refine JL_pure (v := .bool (false)) rfl (Pu.assign rfl) ?_
      refine JL_nil ?_
      first | exact ⟨rfl, rfl, rfl, rfl, rfl⟩ | (exfalso; omega)
    ·rintro ρ19 _ ⟨e20, e21, e22, e23, rfl⟩
     obtain ⟨ρ24, rfl⟩ := reopen_ex (uc e20 (uc e21 (uc e22 (uc e23 un))))
     clear e20 e21 e22 e23
     refine J_cond (b := (decide (k = 12)) && (decide (j = 1))) rfl (fun h25 => ?_) (fun h25 => ?_)
     ·skip
      obtain ⟨h25a, h25b⟩ := andT h25
      replace h25a := dt h25a
      replace h25b := dt h25b
      refine J_seq ?_
      refine J_region ?_
      refine JL_pure (v := .int .i64 (1)) rfl (Pu.assign rfl) ?_
      refine JL_nil ?_
      refine J_ret ?_
      refine ⟨.int .i64 (1), [], Ret.one rfl (RV.tmp rfl), Sub.nil, ?_⟩
      exact ⟨by first | (simp_all [more]; done) | (congr 1; unfold more; simp_all; try omega), rfl⟩
     ·skip
      refine J_cut (fun ρ M => ρ 4 = .int .i64 (0) ∧ ρ 20 = .bool ((decide (k = 12)) && (decide (1 < j))) ∧ M = []) ?_ ?_
      ·refine J_region ?_
       refine JL_pure (v := .int .i64 (k)) rfl (Pu.move rfl) ?_
       refine JL_pure (v := .bool (decide (k = 12))) rfl (Pu.eql rfl rfl) ?_
       refine JL_pure (v := .bool (decide (k = 12))) rfl (Pu.move rfl) ?_
       cases h26 : (decide (k = 12)) with
       | true =>
        replace h26 := dt h26
        refine JL_pure (v := .int .i64 (j)) rfl (Pu.move rfl) ?_
        refine JL_pure (v := .bool (decide (1 < j))) rfl (Pu.gtr rfl rfl) ?_
        refine JL_pure (v := .bool (decide (1 < j))) rfl (Pu.pickT rfl rfl) ?_
        refine JL_pure (v := .bool (decide (1 < j))) rfl (Pu.assign rfl) ?_
        refine JL_nil ?_
        first | exact ⟨rfl, rfl, rfl⟩ | (exfalso; omega)
       | false =>
        replace h26 := df h26
        refine JL_skip rfl ?_
        refine JL_skip rfl ?_
        refine JL_pure (v := .bool (false)) rfl (Pu.pickF rfl rfl) ?_
        refine JL_pure (v := .bool (false)) rfl (Pu.assign rfl) ?_
        refine JL_nil ?_
        first | exact ⟨rfl, rfl, rfl⟩ | (exfalso; omega)
      ·rintro ρ27 _ ⟨e28, e29, rfl⟩
       obtain ⟨ρ30, rfl⟩ := reopen_ex (uc e28 (uc e29 un))
       clear e28 e29
       refine J_cond (b := (decide (k = 12)) && (decide (1 < j))) rfl (fun h31 => ?_) (fun h31 => ?_)
       ·skip
        obtain ⟨h31a, h31b⟩ := andT h31
        replace h31a := dt h31a
        replace h31b := dt h31b
        refine J_seq ?_
        refine J_region ?_
        refine JL_pure (v := .int .i64 (2)) rfl (Pu.assign rfl) ?_
        refine JL_nil ?_
        refine J_ret ?_
        refine ⟨.int .i64 (2), [], Ret.one rfl (RV.tmp rfl), Sub.nil, ?_⟩
        exact ⟨by first | (simp_all [more]; done) | (congr 1; unfold more; simp_all; try omega), rfl⟩
       ·skip
        refine J_skip ?_
        refine J_seq ?_
        refine J_region ?_
        refine JL_pure (v := .int .i64 (0)) rfl (Pu.assign rfl) ?_
        refine JL_nil ?_
        refine J_ret ?_
        refine ⟨.int .i64 (0), [], Ret.one rfl (RV.tmp rfl), Sub.nil, ?_⟩
        exact ⟨by first | (simp_all [more]; done) | (congr 1; unfold more; simp_all; try omega), rfl⟩
theorem off_ct (n lo hi : Int) (H : Heap) : CT Tryz.prog 49 ⟨[.int .i64 (n), .int .i64 (lo), .int .i64 (hi)]⟩ [] H (fun v N => v = .bool (decide (n < lo ∨ hi < n)) ∧ N = []) := by
 refine CT_enter Tryz.func49 rfl rfl ?_
 refine J_seq ?_
 refine J_region ?_
 refine JL_pure (v := .bool (false)) rfl (Pu.assign rfl) ?_
 refine JL_nil ?_
 refine J_cut (fun ρ M => ρ 6 = .bool ((decide (n < lo)) || (decide (hi < n))) ∧ M = []) ?_ ?_
 ·refine J_region ?_
  refine JL_pure (v := .int .i64 (n)) rfl (Pu.move rfl) ?_
  refine JL_pure (v := .int .i64 (lo)) rfl (Pu.move rfl) ?_
  refine JL_pure (v := .bool (decide (n < lo))) rfl (Pu.lss rfl rfl) ?_
  refine JL_pure (v := .bool (decide (n < lo))) rfl (Pu.move rfl) ?_
  cases h1 : (decide (n < lo)) with
  | true =>
   replace h1 := dt h1
   refine JL_skip rfl ?_
   refine JL_skip rfl ?_
   refine JL_skip rfl ?_
   refine JL_pure (v := .bool (true)) rfl (Pu.pickT rfl rfl) ?_
   refine JL_pure (v := .bool (true)) rfl (Pu.assign rfl) ?_
   refine JL_nil ?_
   first | exact ⟨rfl, rfl⟩ | (exfalso; omega)
  | false =>
   replace h1 := df h1
   refine JL_pure (v := .int .i64 (n)) rfl (Pu.move rfl) ?_
   refine JL_pure (v := .int .i64 (hi)) rfl (Pu.move rfl) ?_
   refine JL_pure (v := .bool (decide (hi < n))) rfl (Pu.gtr rfl rfl) ?_
   refine JL_pure (v := .bool (decide (hi < n))) rfl (Pu.pickF rfl rfl) ?_
   refine JL_pure (v := .bool (decide (hi < n))) rfl (Pu.assign rfl) ?_
   refine JL_nil ?_
   first | exact ⟨rfl, rfl⟩ | (exfalso; omega)
 ·rintro ρ2 _ ⟨e3, rfl⟩
  obtain ⟨ρ4, rfl⟩ := reopen_ex (uc e3 un)
  clear e3
  refine J_ret ?_
  refine ⟨.bool ((decide (n < lo)) || (decide (hi < n))), [], Ret.one rfl (RV.tmp rfl), Sub.nil, ?_⟩
  exact ⟨by simp, rfl⟩
theorem binds_ct : ∀ (p : Pt) (cs : List Value) (H : Heap), RP H cs p → binds p ≤ 1000000 → CT Tryz.prog 67 ⟨[.agg ⟨cs⟩]⟩ [] H (fun v N => v = .int .i64 (binds p : Int) ∧ N = []) := by
 intro p
 induction p using Pt.ind with
 | h kind num ref kids ih =>
 intro cs H hp hb
 obtain ⟨ks, rfl, hk, hn, hks⟩ := RP_mk.1 hp
 rw [binds] at hb ⊢
 refine CT_enter Tryz.func67 rfl rfl ?_
 refine J_seq ?_
 refine J_region ?_
 refine JL_run rfl (Runs_box (l := pkP (kind) (num) (ref) (ks)) rfl rfl fun b1 => ?_)
 refine JL_pure (v := .int .i64 (0)) rfl (Pu.assign rfl) ?_
 refine JL_nil ?_
 refine J_seq ?_
 refine J_seq ?_
 refine J_region ?_
 refine JL_pure (v := .pointer (some ⟨b1, 0, none⟩)) rfl (fa42_0 rfl rfl) ?_
 refine JL_run rfl (Pu_load1 ty3 rfl (At.bx 0 rfl) (pkP_0 ..) ?_)
 refine JL_pure (v := .bool (decide (kind = 1))) rfl (Pu.eql rfl rfl) ?_
 refine JL_nil ?_
 refine J_cond (b := decide (kind = 1)) rfl (fun h2 => ?_) (fun h2 => ?_)
 ·skip
  replace h2 := dt h2
  refine J_seq ?_
  refine J_region ?_
  refine JL_pure (v := .int .i64 (1)) rfl (Pu.assign rfl) ?_
  refine JL_nil ?_
  refine J_ret ?_
  refine ⟨.int .i64 (1), [], Ret.one rfl (RV.tmp rfl), Sub.nil, ?_⟩
  exact ⟨by rw [if_pos (by assumption)]; rfl, rfl⟩
 ·skip
  replace h2 := df h2
  refine J_skip ?_
  refine J_seq ?_
  refine J_region ?_
  refine JL_pure (v := .int .i64 (0)) rfl (Pu.assign rfl) ?_
  refine JL_nil ?_
  refine J_seq ?_
  refine J_seq ?_
  refine J_region ?_
  refine JL_pure (v := .pointer (some ⟨b1, 34, none⟩)) rfl (fa42_3 rfl rfl) ?_
  refine JL_run rfl (Pu_load1 ty40 rfl (At.bx 0 rfl) (pkP_34 ..) ?_)
  obtain ⟨a3, cap3, hv3⟩ := hks.sl
  have hle3 := hks.le
  refine JL_pure (v := .int .i64 (((kids).length : Int))) rfl (Pu.lenSl Tryz.runUnderlying40 hv3) ?_
  refine JL_pure (v := .int .i64 (0)) rfl (Pu.move rfl) ?_
  refine JL_nil ?_
  refine J_block ?_
  refine J_loop (fun k ρ M => ∃ (j : Nat), ρ 2 = .int .i64 (0) ∧ ρ 3 = .int .i64 ((bindsL (kids.take j) : Int)) ∧ ρ 10 = ks ∧ ρ 11 = .int .i64 (((kids).length : Int)) ∧ ρ 12 = .int .i64 ((j : Int)) ∧ Sub [[(b1, .cells ⟨pkP (kind) (num) (ref) (ks)⟩ 42 (0, 0))]] M ∧ j ≤ (kids).length ∧ k = (kids).length - j) _ ⟨0, rfl, rfl, rfl, rfl, rfl, (Sub.cons 0 rfl Sub.nil), Nat.zero_le _, rfl⟩ ?_
  rintro _ ρ4 _ ⟨j, e5, e6, e7, e8, e9, hm10, hj, rfl⟩
  obtain ⟨ρ11, rfl⟩ := reopen_ex (uc e5 (uc e6 (uc e7 (uc e8 (uc e9 un)))))
  clear e5 e6 e7 e8 e9
  refine J_sub hm10 ?_
  have hlen := hks.le
  refine J_seq ?_
  refine J_region ?_
  refine JL_pure (v := .bool (decide ((j : Int) < ((kids).length : Int)))) rfl (Pu.lss rfl rfl) ?_
  refine JL_nil ?_
  refine J_seq ?_
  refine J_cond (b := decide ((j : Int) < ((kids).length : Int))) rfl (fun h12 => ?_) (fun h12 => ?_)
  ·skip
   replace h12 := dt h12
   have h12n : j < (kids).length := by omega
   have hm1 := binds_mem kids _ (List.getElem_mem h12n)
   have hm2 := bindsL_take kids _ h12n
   have hm3 := bindsL_take_le kids (j + 1)
   rw [if_neg (by assumption)] at hb
   refine J_skip ?_
   refine J_seq ?_
   refine J_block ?_
   refine J_seq ?_
   refine J_region ?_
   obtain ⟨b13, o13, cap13, row13, T13, fr13, cs13, hv13, hb13, hs13, hE13⟩ := hks.get j (by first | assumption | omega | decide | simp)
   refine JL_pure (v := .pointer (some ⟨b13, o13 + j * 35, none⟩)) rfl (Pu.idx j Tryz.runUnderlying40 ty42 hv13 rfl rfl (by first | assumption | omega | decide | simp)) ?_
   refine JL_run rfl (Pu_load ty42 rfl (At.im hb13) hs13 ?_)
   refine JL_run rfl (Runs_alloc (l := pkP (0) (0) (zS) (.slice none 0 0)) Tryz.zeroValue42 rfl fun b14 => ?_)
   refine JL_run rfl (Runs_storeB 0 (vs := cs13) (l := cs13) ty42 rfl rfl rfl rfl (RP_len hE13) (RP_ok hE13) (spl_a (n := 35) rfl (RP_len hE13)) ?_)
   refine JL_nil ?_
   refine J_region ?_
   refine JL_pure (v := .int .i64 ((bindsL (kids.take j) : Int))) rfl (Pu.move rfl) ?_
   refine JL_run rfl (Pu_load ty42 rfl (At.bx 0 rfl) (sub_a (RP_len hE13)) ?_)
   refine JL_call rfl Tryz.call67 rfl (fun hin => ih _ (List.getElem_mem h12n) _ _ (RP.mono (Hle.hu _ _) hE13) (by omega)) rfl ?_
   rintro _ _ ⟨rfl, rfl⟩
   refine JL_pure (v := .int .i64 ((bindsL (kids.take j) : Int) + ((binds ((kids)[j]) : Int)))) rfl (Pu.add64 rfl rfl (by first | omega | (constructor <;> omega))) ?_
   refine JL_pure (v := .int .i64 ((bindsL (kids.take j) : Int) + ((binds ((kids)[j]) : Int)))) rfl (Pu.assign rfl) ?_
   refine JL_nil ?_
   refine J_region ?_
   refine JL_pure (v := .int .i64 (((j + 1 : Nat) : Int))) rfl (Pu.inc rfl rfl (by omega)) ?_
   refine JL_pure (v := .int .i64 (((j + 1 : Nat) : Int))) rfl (Pu.move rfl) ?_
   refine JL_nil ?_
   refine ⟨_, ?_, (j + 1), rfl, (ieq rfl (by omega)), rfl, rfl, rfl, (Sub.cons 1 rfl Sub.nil), ?_, rfl⟩
   ·omega
   ·omega
  ·skip
   replace h12 := df h12
   have h12n : (kids).length ≤ j := by omega
   refine J_exit _ rfl ?_
   refine J_seq ?_
   refine J_region ?_
   refine JL_pure (v := .int .i64 ((bindsL (kids.take j) : Int))) rfl (Pu.move rfl) ?_
   refine JL_pure (v := .int .i64 ((bindsL (kids.take j) : Int))) rfl (Pu.assign rfl) ?_
   refine JL_nil ?_
   refine J_ret ?_
   refine ⟨.int .i64 ((bindsL (kids.take j) : Int)), [], Ret.one rfl (RV.tmp rfl), Sub.nil, ?_⟩
   exact ⟨by rw [if_neg (by assumption), List.take_of_length_le h12n], rfl⟩
end Go.Proofs.YtbfjkdhfelmioaaGreat.Hs
/-! Walks, printed by a program of this session's own (gen.py). -/
namespace Go.Proofs.YtbfjkdhfelmioaaGreat.Hs
open Go Go.Proofs
set_option maxRecDepth 100000
set_option linter.unusedVariables false
set_option linter.unusedSimpArgs false
attribute [local irreducible] JL J CT wlo
theorem stay_ct (n b : Int) (H : Heap) (hb : inI (n + b)) : CT Tryz.prog 56 ⟨[.int .i64 (n), .int .i64 (b)]⟩ [] H (fun v N => ∃ cs k, v = .agg ⟨cs⟩ ∧ N = [k] ∧ OT (.mk 1 (n + b) zS [] []) cs k) := by
 have hb1 : -9223372036854775808 ≤ n + b := hb.1
 have hb2 : n + b ≤ 9223372036854775807 := hb.2
 refine CT_enter Tryz.func56 rfl rfl ?_
 refine J_seq ?_
 refine J_region ?_
 refine JL_run rfl (Runs_alloc (l := pkT (0) (0) (zS) (.slice none 0 0) (.slice none 0 0)) Tryz.zeroValue27 rfl fun b1 => ?_)
 refine JL_nil ?_
 refine J_seq ?_
 refine J_region ?_
 refine JL_pure (v := .int .i64 (n)) rfl (Pu.move rfl) ?_
 refine JL_pure (v := .int .i64 (b)) rfl (Pu.move rfl) ?_
 refine JL_pure (v := .int .i64 (n + b)) rfl (Pu.add64 rfl rfl (by first | omega | (constructor <;> omega))) ?_
 refine JL_pure (v := .agg ⟨pkT (1) (n + b) (zS) (.slice none 0 0) (.slice none 0 0)⟩) rfl (Pu.build (pv := [(0, .int .i64 (1)), (1, .int .i64 (n + b))]) (l := pkT (1) (n + b) (zS) (.slice none 0 0) (.slice none 0 0)) rfl (bld27_0_1 _ _)) ?_
 refine JL_run rfl (Runs_storeB 0 (vs := pkT (1) (n + b) (zS) (.slice none 0 0) (.slice none 0 0)) (l := pkT (1) (n + b) (zS) (.slice none 0 0) (.slice none 0 0)) ty27 rfl rfl rfl rfl rfl (pkT_ok rfl rfl) (pkT_s ..) ?_)
 refine JL_nil ?_
 refine J_ret ?_
 refine ⟨.agg ⟨pkT (1) (n + b) (zS) (.slice none 0 0) (.slice none 0 0)⟩, [[]], Ret.one rfl (RV.cell ty27 rfl (At.bx 0 rfl) (pkT_a ..)), (Sub.emp Sub.nil), ?_⟩
 exact ⟨_, _, rfl, rfl, OT_leaf (by unfold inI; omega) hb⟩
theorem same_ct (s : Sm) (H : Heap) : CT Tryz.prog 57 ⟨[.agg ⟨sC (s)⟩]⟩ [] H (fun v N => v = .agg ⟨sC s⟩ ∧ N = []) := by
 refine CT_enter Tryz.func57 rfl rfl ?_
 refine J_seq ?_
 refine J_region ?_
 refine JL_run rfl (Runs_box (l := sC (s)) rfl rfl fun b1 => ?_)
 refine JL_run rfl (Runs_alloc (l := sC (zS)) Tryz.zeroValue23 rfl fun b2 => ?_)
 refine JL_nil ?_
 refine J_seq ?_
 refine J_region ?_
 refine JL_run rfl (Pu_load ty23 rfl (At.bx 1 rfl) (sub_a rfl) ?_)
 refine JL_run rfl (Runs_storeB 0 (vs := sC (s)) (l := sC (s)) ty23 rfl rfl rfl rfl rfl (sC_ok _) (spl_a rfl rfl) ?_)
 refine JL_nil ?_
 refine J_ret ?_
 refine ⟨.agg ⟨sC (s)⟩, [], Ret.one rfl (RV.cell ty23 rfl (At.bx 0 rfl) (sub_a rfl)), Sub.nil, ?_⟩
 exact ⟨rfl, rfl⟩
theorem mapPattern_ct : ∀ (gr : Nat) (frs crs : List Value) (hcallr : ∀ args w, (callFunc gr args).run Tryz.prog w = .ok (.enter gr args) w) (rf : Sm → Sm) (fv : Value) (hfv : fv.oneCell' = true) (p : Pt) (cs : List Value) (H : Heap), RP H cs p → (∀ s h, Hle H h → CT Tryz.prog gr ⟨frs ++ [.agg ⟨sC s⟩] ++ crs⟩ [] h (fun v N => v = .agg ⟨sC (rf s)⟩ ∧ N = [])) → sizeP p ≤ 1000000 → CT Tryz.prog 89 ⟨[.agg ⟨[fv, .func (.func gr) ⟨frs⟩ ⟨crs⟩]⟩, .agg ⟨cs⟩]⟩ [] H (fun v N => ∃ cs k, v = .agg ⟨cs⟩ ∧ N = [k] ∧ OP (mapP rf p) cs k) := by
 intro gr frs crs hcallr rf fv hfv p
 induction p using Pt.ind with
 | h kind num ref kids ih =>
 intro cs H hp hgr hz
 rw [sizeP] at hz
 have hlk := len_sizePs kids
 obtain ⟨ks, rfl, hk, hn, hks⟩ := RP_mk.1 hp
 refine CT_enter Tryz.func89 rfl rfl ?_
 refine J_seq ?_
 refine J_region ?_
 refine JL_run rfl (Runs_box (l := [fv, .func (.func gr) ⟨frs⟩ ⟨crs⟩]) rfl rfl fun b1 => ?_)
 refine JL_run rfl (Runs_box (l := pkP (kind) (num) (ref) (ks)) rfl rfl fun b2 => ?_)
 refine JL_run rfl (Runs_alloc (l := pkP (0) (0) (zS) (.slice none 0 0)) Tryz.zeroValue42 rfl fun b3 => ?_)
 refine JL_nil ?_
 refine J_seq ?_
 refine J_draw mixed #[0, 1, 0, 4, 0, 16, 0, 64, 240, 511, 0, 2047] 11 11 3 rfl (by kernel_rfl) (fun i r4 N4 => match i with | 0 => (r4 0) = .pointer (some ⟨b2, 0, none⟩) | 1 => (r4 1) = .int .i64 (kind) | 2 => (r4 2) = .pointer (some ⟨b2, 1, none⟩) | 3 => (r4 3) = .int .i64 (num) | 4 => (r4 4) = .pointer (some ⟨b1, 1, none⟩) | 5 => (r4 5) = .func (.func gr) ⟨frs⟩ ⟨crs⟩ | 6 => (r4 6) = .pointer (some ⟨b2, 2, none⟩) | 7 => (r4 7) = .agg ⟨sC (ref)⟩ | 8 => (r4 8) = .agg ⟨sC (rf (ref))⟩ | 9 => (r4 9) = .agg ⟨pkP (kind) (num) (rf (ref)) (.slice none 0 0)⟩ | 10 => (r4 10) = .pointer (some ⟨(pblk (r4 10)), 0, none⟩) ∧ (N4 10) = [((pblk (r4 10)), .cells ⟨pkP (0) (0) (zS) (.slice none 0 0)⟩ 42 (0, 0))] | _ => True) ⟨?_, ?_, ?_, ?_, ?_, ?_, ?_, ?_, ?_, ?_, ?_, trivial⟩ ?_
 ·intro ρ r4 N4 B hB hBa hp hr hr0
  have q3 : ρ 3 = .pointer (some ⟨b2, 0, none⟩) := hr0 3 (by kernel_rfl)
  obtain ⟨ρ5, rfl⟩ := reopen_ex (uc q3 un)
  clear q3
  refine JL_pure (v := .pointer (some ⟨b2, 0, none⟩)) rfl (fa42_0 rfl rfl) ?_
  refine JL_nil ?_
  exact ⟨.pointer (some ⟨b2, 0, none⟩), [], rfl, (Sub.emp Sub.refl), rfl⟩
 ·intro ρ r4 N4 B hB hBa hp hr hr0
  have q8 : ρ 8 = .pointer (some ⟨b2, 0, none⟩) := (hr 0 _ _ (by decide) rfl rfl rfl).trans (hp 0 (by decide) rfl)
  obtain ⟨ρ6, rfl⟩ := reopen_ex (uc q8 un)
  clear q8
  refine JL_run rfl (Pu_load1 ty3 rfl (At.bx 12 (made_old ((hB 1 (by decide)).trans rfl))) (pkP_0 ..) ?_)
  refine JL_nil ?_
  exact ⟨.int .i64 (kind), [], rfl, (Sub.emp Sub.refl), rfl⟩
 ·intro ρ r4 N4 B hB hBa hp hr hr0
  have q3 : ρ 3 = .pointer (some ⟨b2, 0, none⟩) := hr0 3 (by kernel_rfl)
  obtain ⟨ρ7, rfl⟩ := reopen_ex (uc q3 un)
  clear q3
  refine JL_pure (v := .pointer (some ⟨b2, 1, none⟩)) rfl (fa42_1 rfl rfl) ?_
  refine JL_nil ?_
  exact ⟨.pointer (some ⟨b2, 1, none⟩), [], rfl, (Sub.emp Sub.refl), rfl⟩
 ·intro ρ r4 N4 B hB hBa hp hr hr0
  have q10 : ρ 10 = .pointer (some ⟨b2, 1, none⟩) := (hr 2 _ _ (by decide) rfl rfl rfl).trans (hp 2 (by decide) rfl)
  obtain ⟨ρ8, rfl⟩ := reopen_ex (uc q10 un)
  clear q10
  refine JL_run rfl (Pu_load1 ty3 rfl (At.bx 12 (made_old ((hB 1 (by decide)).trans rfl))) (pkP_1 ..) ?_)
  refine JL_nil ?_
  exact ⟨.int .i64 (num), [], rfl, (Sub.emp Sub.refl), rfl⟩
 ·intro ρ r4 N4 B hB hBa hp hr hr0
  have q2 : ρ 2 = .pointer (some ⟨b1, 0, none⟩) := hr0 2 (by kernel_rfl)
  obtain ⟨ρ9, rfl⟩ := reopen_ex (uc q2 un)
  clear q2
  refine JL_pure (v := .pointer (some ⟨b1, 1, none⟩)) rfl (fa89_1 rfl rfl) ?_
  refine JL_nil ?_
  exact ⟨.pointer (some ⟨b1, 1, none⟩), [], rfl, (Sub.emp Sub.refl), rfl⟩
 ·intro ρ r4 N4 B hB hBa hp hr hr0
  have q12 : ρ 12 = .pointer (some ⟨b1, 1, none⟩) := (hr 4 _ _ (by decide) rfl rfl rfl).trans (hp 4 (by decide) rfl)
  obtain ⟨ρ10, rfl⟩ := reopen_ex (uc q12 un)
  clear q12
  refine JL_run rfl (Pu_load1 ty87 rfl (At.bx 13 (made_old ((hB 2 (by decide)).trans rfl))) rfl ?_)
  refine JL_nil ?_
  exact ⟨.func (.func gr) ⟨frs⟩ ⟨crs⟩, [], rfl, (Sub.emp Sub.refl), rfl⟩
 ·intro ρ r4 N4 B hB hBa hp hr hr0
  have q3 : ρ 3 = .pointer (some ⟨b2, 0, none⟩) := hr0 3 (by kernel_rfl)
  obtain ⟨ρ11, rfl⟩ := reopen_ex (uc q3 un)
  clear q3
  refine JL_pure (v := .pointer (some ⟨b2, 2, none⟩)) rfl (fa42_2 rfl rfl) ?_
  refine JL_nil ?_
  exact ⟨.pointer (some ⟨b2, 2, none⟩), [], rfl, (Sub.emp Sub.refl), rfl⟩
 ·intro ρ r4 N4 B hB hBa hp hr hr0
  have q14 : ρ 14 = .pointer (some ⟨b2, 2, none⟩) := (hr 6 _ _ (by decide) rfl rfl rfl).trans (hp 6 (by decide) rfl)
  obtain ⟨ρ12, rfl⟩ := reopen_ex (uc q14 un)
  clear q14
  refine JL_run rfl (Pu_load ty23 rfl (At.bx 12 (made_old ((hB 1 (by decide)).trans rfl))) (pkP_2 ..) ?_)
  refine JL_nil ?_
  exact ⟨.agg ⟨sC (ref)⟩, [], rfl, (Sub.emp Sub.refl), rfl⟩
 ·intro ρ r4 N4 B hB hBa hp hr hr0
  have q13 : ρ 13 = .func (.func gr) ⟨frs⟩ ⟨crs⟩ := (hr 5 _ _ (by decide) rfl rfl rfl).trans (hp 5 (by decide) rfl)
  have q15 : ρ 15 = .agg ⟨sC (ref)⟩ := (hr 7 _ _ (by decide) rfl rfl rfl).trans (hp 7 (by decide) rfl)
  obtain ⟨ρ13, rfl⟩ := reopen_ex (uc q13 (uc q15 un))
  clear q13 q15
  refine JL_call rfl hcallr rfl (fun hin => hgr _ _ (Hle.hu _ _)) rfl ?_
  rintro _ _ ⟨rfl, rfl⟩
  refine JL_nil ?_
  exact ⟨.agg ⟨sC (rf (ref))⟩, [], rfl, (Sub.emp Sub.refl), rfl⟩
 ·intro ρ r4 N4 B hB hBa hp hr hr0
  have q9 : ρ 9 = .int .i64 (kind) := (hr 1 _ _ (by decide) rfl rfl rfl).trans (hp 1 (by decide) rfl)
  have q11 : ρ 11 = .int .i64 (num) := (hr 3 _ _ (by decide) rfl rfl rfl).trans (hp 3 (by decide) rfl)
  have q16 : ρ 16 = .agg ⟨sC (rf (ref))⟩ := (hr 8 _ _ (by decide) rfl rfl rfl).trans (hp 8 (by decide) rfl)
  obtain ⟨ρ14, rfl⟩ := reopen_ex (uc q9 (uc q11 (uc q16 un)))
  clear q9 q11 q16
  refine JL_pure (v := .agg ⟨pkP (kind) (num) (rf (ref)) (.slice none 0 0)⟩) rfl (Pu.build (pv := [(0, .int .i64 (kind)), (1, .int .i64 (num)), (2, .agg ⟨sC (rf (ref))⟩)]) (l := pkP (kind) (num) (rf (ref)) (.slice none 0 0)) rfl (bld42_0_1_2 _ _ _)) ?_
  refine JL_nil ?_
  exact ⟨.agg ⟨pkP (kind) (num) (rf (ref)) (.slice none 0 0)⟩, [], rfl, (Sub.emp Sub.refl), rfl⟩
 ·intro ρ r4 N4 B hB hBa hp hr hr0
  refine JL_run rfl (Runs_alloc (l := pkP (0) (0) (zS) (.slice none 0 0)) Tryz.zeroValue42 rfl fun b15 => ?_)
  refine JL_nil ?_
  exact ⟨.pointer (some ⟨b15, 0, none⟩), [(b15, .cells ⟨pkP (0) (0) (zS) (.slice none 0 0)⟩ 42 (0, 0))], rfl, Sub.refl, ⟨rfl, rfl⟩⟩
 ·intro ρ r4 N4 hp hr hr0
  have p10 : (r4 10) = .pointer (some ⟨(pblk (r4 10)), 0, none⟩) ∧ (N4 10) = [((pblk (r4 10)), .cells ⟨pkP (0) (0) (zS) (.slice none 0 0)⟩ 42 (0, 0))] := hp 10 (by decide)
  have q2 : ρ 2 = .pointer (some ⟨b1, 0, none⟩) := hr0 2 (by kernel_rfl)
  have q3 : ρ 3 = .pointer (some ⟨b2, 0, none⟩) := hr0 3 (by kernel_rfl)
  have q4 : ρ 4 = .pointer (some ⟨b3, 0, none⟩) := hr0 4 (by kernel_rfl)
  have q5 : ρ 5 = .pointer (some ⟨(pblk (r4 10)), 0, none⟩) := (hr 10 _ _ (by decide) rfl rfl).trans p10.1
  have q17 : ρ 17 = .agg ⟨pkP (kind) (num) (rf (ref)) (.slice none 0 0)⟩ := (hr 9 _ _ (by decide) rfl rfl).trans (hp 9 (by decide))
  obtain ⟨ρ16, rfl⟩ := reopen_ex (uc q2 (uc q3 (uc q4 (uc q5 (uc q17 un)))))
  clear q2 q3 q4 q5 q17
  have p4_10 := p10
  clear hp hr hr0 p10
  refine JL_sub (M' := [(N4 0), (N4 1), (N4 2), (N4 3), (N4 4), (N4 5), (N4 6), (N4 7), (N4 8), (N4 9), (N4 10), [(b3, .cells ⟨pkP (0) (0) (zS) (.slice none 0 0)⟩ 42 (0, 0))], [(b2, .cells ⟨pkP (kind) (num) (ref) (ks)⟩ 42 (0, 0))], [(b1, .cells ⟨[fv, .func (.func gr) ⟨frs⟩ ⟨crs⟩]⟩ 89 (0, 0))]]) Sub.refl ?_
  refine JL_sub (M' := [[((pblk (r4 10)), .cells ⟨pkP (0) (0) (zS) (.slice none 0 0)⟩ 42 (0, 0))], [(b3, .cells ⟨pkP (0) (0) (zS) (.slice none 0 0)⟩ 42 (0, 0))], [(b2, .cells ⟨pkP (kind) (num) (ref) (ks)⟩ 42 (0, 0))], [(b1, .cells ⟨[fv, .func (.func gr) ⟨frs⟩ ⟨crs⟩]⟩ 89 (0, 0))]]) (Sub.cons 10 (congrArg some p4_10.2) (Sub.cons 10 rfl (Sub.cons 10 rfl (Sub.cons 10 rfl Sub.nil)))) ?_
  show JL _ _ _ [_] _ _ _
  refine JL_run rfl (Runs_storeB 0 (vs := pkP (kind) (num) (rf (ref)) (.slice none 0 0)) (l := pkP (kind) (num) (rf (ref)) (.slice none 0 0)) ty42 rfl rfl rfl rfl rfl (pkP_ok rfl) (pkP_s ..) ?_)
  refine JL_nil ?_
  refine J_seq ?_
  refine J_seq ?_
  refine J_region ?_
  refine JL_pure (v := .pointer (some ⟨b2, 34, none⟩)) rfl (fa42_3 rfl rfl) ?_
  refine JL_run rfl (Pu_load1 ty40 rfl (At.bx 2 rfl) (pkP_34 ..) ?_)
  obtain ⟨a17, cap17, hv17⟩ := hks.sl
  have hle17 := hks.le
  refine JL_pure (v := .int .i64 (((kids).length : Int))) rfl (Pu.lenSl Tryz.runUnderlying40 hv17) ?_
  refine JL_pure (v := .int .i64 (0)) rfl (Pu.move rfl) ?_
  refine JL_nil ?_
  refine J_block ?_
  refine J_loop (fun k ρ M => ∃ (j : Nat) (v : Value) (es : List (List Value)) (k1 k2 : Chunk), ρ 2 = .pointer (some ⟨b1, 0, none⟩) ∧ ρ 4 = .pointer (some ⟨b3, 0, none⟩) ∧ ρ 5 = .pointer (some ⟨(pblk (r4 10)), 0, none⟩) ∧ ρ 19 = ks ∧ ρ 20 = .int .i64 (((kids).length : Int)) ∧ ρ 21 = .int .i64 ((j : Int)) ∧ Sub [[((pblk (r4 10)), .cells ⟨pkP (kind) (num) (rf (ref)) (v)⟩ 42 (0, 0))], k1, k2, [(b3, .cells ⟨pkP (0) (0) (zS) (.slice none 0 0)⟩ 42 (0, 0))], [(b1, .cells ⟨[fv, .func (.func gr) ⟨frs⟩ ⟨crs⟩]⟩ 89 (0, 0))]] M ∧ j ≤ (kids).length ∧ Own 42 35 v es k1 ∧ OPs (mapPs rf (kids.take j)) es k2 ∧ k = (kids).length - j) _ ⟨0, _, [], [], [], rfl, rfl, rfl, rfl, rfl, rfl, (Sub.cons 0 rfl (Sub.emp (Sub.emp (Sub.cons 0 rfl (Sub.cons 1 rfl Sub.nil))))), Nat.zero_le _, Own.nil, OPs.nil, rfl⟩ ?_
  rintro _ ρ18 _ ⟨j, v, es, k1, k2, e19, e20, e21, e22, e23, e24, hm25, hj, ho, hop, rfl⟩
  obtain ⟨ρ26, rfl⟩ := reopen_ex (uc e19 (uc e20 (uc e21 (uc e22 (uc e23 (uc e24 un))))))
  clear e19 e20 e21 e22 e23 e24
  refine J_sub hm25 ?_
  have hlen := hks.le
  refine J_seq ?_
  refine J_region ?_
  refine JL_pure (v := .bool (decide ((j : Int) < ((kids).length : Int)))) rfl (Pu.lss rfl rfl) ?_
  refine JL_nil ?_
  refine J_seq ?_
  refine J_cond (b := decide ((j : Int) < ((kids).length : Int))) rfl (fun h27 => ?_) (fun h27 => ?_)
  ·skip
   replace h27 := dt h27
   have h27n : j < (kids).length := by omega
   have hel := OPs_len hop
   rw [mapPs_len, List.length_take] at hel
   have hs1 := sizePs_mem _ (List.getElem_mem h27n)
   refine J_skip ?_
   refine J_seq ?_
   refine J_block ?_
   refine J_seq ?_
   refine J_region ?_
   obtain ⟨b28, o28, cap28, row28, T28, fr28, cs28, hv28, hb28, hs28, hE28⟩ := hks.get j (by first | assumption | omega | decide | simp)
   refine JL_pure (v := .pointer (some ⟨b28, o28 + j * 35, none⟩)) rfl (Pu.idx j Tryz.runUnderlying40 ty42 hv28 rfl rfl (by first | assumption | omega | decide | simp)) ?_
   refine JL_run rfl (Pu_load ty42 rfl (At.im hb28) hs28 ?_)
   refine JL_run rfl (Runs_alloc (l := pkP (0) (0) (zS) (.slice none 0 0)) Tryz.zeroValue42 rfl fun b29 => ?_)
   refine JL_run rfl (Runs_storeB 0 (vs := cs28) (l := cs28) ty42 rfl rfl rfl rfl (RP_len hE28) (RP_ok hE28) (spl_a (n := 35) rfl (RP_len hE28)) ?_)
   refine JL_nil ?_
   refine J_draw mixed #[0, 1, 0, 0, 12, 28, 63, 127, 255] 6 6 6 rfl (by kernel_rfl) (fun i r30 N30 => match i with | 0 => (r30 0) = .pointer (some ⟨(pblk (r4 10)), 34, none⟩) | 1 => (r30 1) = v | 2 => (r30 2) = .agg ⟨[fv, .func (.func gr) ⟨frs⟩ ⟨crs⟩]⟩ | 3 => (r30 3) = .agg ⟨cs28⟩ | 4 => (r30 4) = .agg ⟨(cel (r30 4))⟩ ∧ OP (mapP rf ((kids)[j])) (cel (r30 4)) (N30 4) | 5 => (r30 5) = .slice (some ⟨(sblk (r30 5)), 0, none⟩) 1 1 ∧ (N30 5) = [(sblk (r30 5), .cells ⟨List.flatten [(cel (r30 4))]⟩ 42 (0, 0))] ∧ Own 42 35 (.slice (some ⟨(sblk (r30 5)), 0, none⟩) 1 1) [(cel (r30 4))] (N30 5) | _ => True) ⟨?_, ?_, ?_, ?_, ?_, ?_, trivial⟩ ?_
   ·intro ρ r30 N30 B hB hBa hp hr hr0
    have q5 : ρ 5 = .pointer (some ⟨(pblk (r4 10)), 0, none⟩) := hr0 5 (by kernel_rfl)
    obtain ⟨ρ31, rfl⟩ := reopen_ex (uc q5 un)
    clear q5
    refine JL_pure (v := .pointer (some ⟨(pblk (r4 10)), 34, none⟩)) rfl (fa42_3 rfl rfl) ?_
    refine JL_nil ?_
    exact ⟨.pointer (some ⟨(pblk (r4 10)), 34, none⟩), [], rfl, (Sub.emp Sub.refl), rfl⟩
   ·intro ρ r30 N30 B hB hBa hp hr hr0
    have q25 : ρ 25 = .pointer (some ⟨(pblk (r4 10)), 34, none⟩) := (hr 0 _ _ (by decide) rfl rfl rfl).trans (hp 0 (by decide) rfl)
    obtain ⟨ρ32, rfl⟩ := reopen_ex (uc q25 un)
    clear q25
    refine JL_run rfl (Pu_load1 ty40 rfl (At.bx 7 (made_old ((hB 1 (by decide)).trans rfl))) (pkP_34 ..) ?_)
    refine JL_nil ?_
    exact ⟨v, [], rfl, (Sub.emp Sub.refl), rfl⟩
   ·intro ρ r30 N30 B hB hBa hp hr hr0
    have q2 : ρ 2 = .pointer (some ⟨b1, 0, none⟩) := hr0 2 (by kernel_rfl)
    obtain ⟨ρ33, rfl⟩ := reopen_ex (uc q2 un)
    clear q2
    refine JL_run rfl (Pu_load ty89 rfl (At.bx 11 (made_old ((hB 5 (by decide)).trans rfl))) rfl ?_)
    refine JL_nil ?_
    exact ⟨.agg ⟨[fv, .func (.func gr) ⟨frs⟩ ⟨crs⟩]⟩, [], rfl, (Sub.emp Sub.refl), rfl⟩
   ·intro ρ r30 N30 B hB hBa hp hr hr0
    have q7 : ρ 7 = .pointer (some ⟨b29, 0, none⟩) := hr0 7 (by kernel_rfl)
    obtain ⟨ρ34, rfl⟩ := reopen_ex (uc q7 un)
    clear q7
    refine JL_run rfl (Pu_load ty42 rfl (At.bx 6 (made_old ((hB 0 (by decide)).trans rfl))) (sub_a (RP_len hE28)) ?_)
    refine JL_nil ?_
    exact ⟨.agg ⟨cs28⟩, [], rfl, (Sub.emp Sub.refl), rfl⟩
   ·intro ρ r30 N30 B hB hBa hp hr hr0
    have q27 : ρ 27 = .agg ⟨[fv, .func (.func gr) ⟨frs⟩ ⟨crs⟩]⟩ := (hr 2 _ _ (by decide) rfl rfl rfl).trans (hp 2 (by decide) rfl)
    have q28 : ρ 28 = .agg ⟨cs28⟩ := (hr 3 _ _ (by decide) rfl rfl rfl).trans (hp 3 (by decide) rfl)
    obtain ⟨ρ35, rfl⟩ := reopen_ex (uc q27 (uc q28 un))
    clear q27 q28
    refine JL_call rfl Tryz.call89 rfl (fun hin => ih _ (List.getElem_mem h27n) _ _ (RP.mono (Hle.hu _ _) hE28) (fun s h hh => hgr s h (Hle.trans (Hle.hu _ _) hh)) (by omega)) rfl ?_
    rintro _ _ ⟨cs36, k36, rfl, rfl, hO36⟩
    refine JL_nil ?_
    exact ⟨.agg ⟨cs36⟩, k36, rfl, Sub.refl, ⟨rfl, hO36⟩⟩
   ·intro ρ r30 N30 B hB hBa hp hr hr0
    have p4 : (r30 4) = .agg ⟨(cel (r30 4))⟩ ∧ OP (mapP rf ((kids)[j])) (cel (r30 4)) (N30 4) := hp 4 (by decide) rfl
    have q29 : ρ 29 = .agg ⟨(cel (r30 4))⟩ := (hr 4 _ _ (by decide) rfl rfl rfl).trans p4.1
    obtain ⟨ρ37, rfl⟩ := reopen_ex (uc q29 un)
    clear q29
    refine JL_run rfl (Runs_buildSlice (vs := [.agg ⟨(cel (r30 4))⟩]) [(cel (r30 4))] Tryz.runUnderlying40 el42 rfl rfl (by intro e he; simp only [List.mem_cons, List.not_mem_nil, or_false] at he; subst he; exact p4.2.len) rfl (by decide) fun b38 k38 ho38 hk38 => ?_)
    refine JL_nil ?_
    exact ⟨.slice (some ⟨b38, 0, none⟩) 1 1, k38, rfl, Sub.refl, ⟨rfl, hk38, ho38⟩⟩
   ·intro ρ r30 N30 hp hr hr0
    have p4 : (r30 4) = .agg ⟨(cel (r30 4))⟩ ∧ OP (mapP rf ((kids)[j])) (cel (r30 4)) (N30 4) := hp 4 (by decide)
    have p5 : (r30 5) = .slice (some ⟨(sblk (r30 5)), 0, none⟩) 1 1 ∧ (N30 5) = [(sblk (r30 5), .cells ⟨List.flatten [(cel (r30 4))]⟩ 42 (0, 0))] ∧ Own 42 35 (.slice (some ⟨(sblk (r30 5)), 0, none⟩) 1 1) [(cel (r30 4))] (N30 5) := hp 5 (by decide)
    have q2 : ρ 2 = .pointer (some ⟨b1, 0, none⟩) := hr0 2 (by kernel_rfl)
    have q4 : ρ 4 = .pointer (some ⟨b3, 0, none⟩) := hr0 4 (by kernel_rfl)
    have q5 : ρ 5 = .pointer (some ⟨(pblk (r4 10)), 0, none⟩) := hr0 5 (by kernel_rfl)
    have q19 : ρ 19 = ks := hr0 19 (by kernel_rfl)
    have q20 : ρ 20 = .int .i64 (((kids).length : Int)) := hr0 20 (by kernel_rfl)
    have q21 : ρ 21 = .int .i64 ((j : Int)) := hr0 21 (by kernel_rfl)
    have q26 : ρ 26 = v := (hr 1 _ _ (by decide) rfl rfl).trans (hp 1 (by decide))
    have q30 : ρ 30 = .slice (some ⟨(sblk (r30 5)), 0, none⟩) 1 1 := (hr 5 _ _ (by decide) rfl rfl).trans p5.1
    obtain ⟨ρ39, rfl⟩ := reopen_ex (uc q2 (uc q4 (uc q5 (uc q19 (uc q20 (uc q21 (uc q26 (uc q30 un))))))))
    clear q2 q4 q5 q19 q20 q21 q26 q30
    have p30_4 := p4; have p30_5 := p5
    clear hp hr hr0 p4 p5
    refine JL_sub (M' := [(N30 0), (N30 1), (N30 2), (N30 3), (N30 4), (N30 5), [(b29, .cells ⟨cs28⟩ 42 (0, 0))], [((pblk (r4 10)), .cells ⟨pkP (kind) (num) (rf (ref)) (v)⟩ 42 (0, 0))], k1, k2, [(b3, .cells ⟨pkP (0) (0) (zS) (.slice none 0 0)⟩ 42 (0, 0))], [(b1, .cells ⟨[fv, .func (.func gr) ⟨frs⟩ ⟨crs⟩]⟩ 89 (0, 0))]]) Sub.refl ?_
    refine JL_sub (M' := [(N30 4), (N30 5), [(b29, .cells ⟨cs28⟩ 42 (0, 0))], [((pblk (r4 10)), .cells ⟨pkP (kind) (num) (rf (ref)) (v)⟩ 42 (0, 0))], k1, k2, [(b3, .cells ⟨pkP (0) (0) (zS) (.slice none 0 0)⟩ 42 (0, 0))], [(b1, .cells ⟨[fv, .func (.func gr) ⟨frs⟩ ⟨crs⟩]⟩ 89 (0, 0))]]) (Sub.cons 4 rfl (Sub.cons 4 rfl (Sub.cons 4 rfl (Sub.cons 4 rfl (Sub.cons 4 rfl (Sub.cons 4 rfl (Sub.cons 4 rfl (Sub.cons 4 rfl Sub.nil)))))))) ?_
    show JL _ _ _ [_, _, _] _ _ _
    have hlens40 : ∀ e ∈ ([(cel (r30 4))] : List (List Value)), List.length e = 35 := by
     intro e he; simp only [List.mem_cons, List.not_mem_nil, or_false] at he
     rcases he with rfl
     ·exact p30_4.2.len
    have hoks40 : ∀ e ∈ ([(cel (r30 4))] : List (List Value)), okc e := by
     intro e he; simp only [List.mem_cons, List.not_mem_nil, or_false] at he
     rcases he with rfl
     ·exact p30_4.2.ok
    refine JL_run rfl (Runs_append (i := 4) (n := 1) (es' := [(cel (r30 4))]) Tryz.runUnderlying40 Tryz.runUnderlying40 (Or.inl rfl) el42 rfl rfl rfl ho (fun F w m => Src.row (((At.k 1 rfl (by rw [p30_5.2.1]; exact List.mem_cons_self))).heap m) (sub_a (flatten_len hlens40))) rfl hlens40 hoks40 (by decide) (by omega) fun v40 k40 ho40 => ?_)
    refine JL_pure (v := .pointer (some ⟨(pblk (r4 10)), 34, none⟩)) rfl (fa42_3 rfl rfl) ?_
    refine JL_run rfl (Runs_storeB 3 (vs := [v40]) (l := pkP (kind) (num) (rf (ref)) (v40)) ty40 rfl rfl rfl (cells_one ho40.one) rfl (okc_cons ho40.one okc_nil) (pkP_s34 ..) ?_)
    refine JL_nil ?_
    refine J_region ?_
    refine JL_pure (v := .int .i64 (((j + 1 : Nat) : Int))) rfl (Pu.inc rfl rfl (by omega)) ?_
    refine JL_pure (v := .int .i64 (((j + 1 : Nat) : Int))) rfl (Pu.move rfl) ?_
    refine JL_nil ?_
    refine ⟨_, ?_, (j + 1), (v40), (es ++ [(cel (r30 4))]), (k40), ((k2) ++ ((N30 4))), rfl, rfl, rfl, rfl, rfl, rfl, (Sub.cons 3 rfl (Sub.cons 3 rfl (Sub.join (Sub.cons 3 rfl (Sub.cons 0 rfl (Sub.cons 2 rfl (Sub.cons 2 rfl Sub.nil))))))), ?_, ?_, ?_, rfl⟩
    ·omega
    ·omega
    ·assumption
    ·rw [mapPs_take rf kids j h27n]; exact OPs.snoc p30_4.2 hop
  ·skip
   replace h27 := df h27
   have h27n : (kids).length ≤ j := by omega
   refine J_exit _ rfl ?_
   refine J_seq ?_
   refine J_region ?_
   refine JL_run rfl (Pu_load ty42 rfl (At.bx 0 rfl) (pkP_a ..) ?_)
   refine JL_run rfl (Runs_storeB 3 (vs := pkP (kind) (num) (rf (ref)) (v)) (l := pkP (kind) (num) (rf (ref)) (v)) ty42 rfl rfl rfl rfl rfl (pkP_ok ho.one) (pkP_s ..) ?_)
   refine JL_nil ?_
   refine J_ret ?_
   refine ⟨.agg ⟨pkP (kind) (num) (rf (ref)) (v)⟩, [k1 ++ k2], Ret.one rfl (RV.cell ty42 rfl (At.bx 3 rfl) (pkP_a ..)), (Sub.join (Sub.cons 1 rfl (Sub.cons 1 rfl Sub.nil))), ?_⟩
   rw [List.take_of_length_le h27n] at hop
   exact ⟨_, _, rfl, rfl, by rw [mapP]; exact OP_mk.2 ⟨v, es, k1, k2, rfl, hk, hn, ho, hop, rfl, by rw [mapPs_len]; exact hks.le⟩⟩
end Go.Proofs.YtbfjkdhfelmioaaGreat.Hs
/-! Walks, printed by a program of this session's own (gen.py). -/
namespace Go.Proofs.YtbfjkdhfelmioaaGreat.Hs
open Go Go.Proofs
set_option maxRecDepth 100000
set_option linter.unusedVariables false
set_option linter.unusedSimpArgs false
attribute [local irreducible] JL J CT wlo
theorem ownPatternR_ct : ∀ (p : Pt) (cs : List Value) (H : Heap), RP H cs p → sizeP p ≤ 1000000 → CT Tryz.prog 83 ⟨[.agg ⟨cs⟩]⟩ [] H (fun v N => ∃ cs k, v = .agg ⟨cs⟩ ∧ N = [k] ∧ OP (p) cs k) := by
 intro p
 induction p using Pt.ind with
 | h kind num ref kids ih =>
 intro cs H hp hz
 rw [sizeP] at hz
 have hlk := len_sizePs kids
 obtain ⟨ks, rfl, hk, hn, hks⟩ := RP_mk.1 hp
 refine CT_enter Tryz.func83 rfl rfl ?_
 refine J_seq ?_
 refine J_region ?_
 refine JL_run rfl (Runs_box (l := pkP (kind) (num) (ref) (ks)) rfl rfl fun b1 => ?_)
 refine JL_run rfl (Runs_alloc (l := pkP (0) (0) (zS) (.slice none 0 0)) Tryz.zeroValue42 rfl fun b2 => ?_)
 refine JL_nil ?_
 refine J_seq ?_
 refine J_region ?_
 refine JL_pure (v := .pointer (some ⟨b1, 0, none⟩)) rfl (fa42_0 rfl rfl) ?_
 refine JL_run rfl (Pu_load1 ty3 rfl (At.bx 1 rfl) (pkP_0 ..) ?_)
 refine JL_pure (v := .pointer (some ⟨b1, 1, none⟩)) rfl (fa42_1 rfl rfl) ?_
 refine JL_run rfl (Pu_load1 ty3 rfl (At.bx 1 rfl) (pkP_1 ..) ?_)
 refine JL_pure (v := .pointer (some ⟨b1, 2, none⟩)) rfl (fa42_2 rfl rfl) ?_
 refine JL_run rfl (Pu_load ty23 rfl (At.bx 1 rfl) (pkP_2 ..) ?_)
 refine JL_pure (v := .agg ⟨pkP (kind) (num) (ref) (.slice none 0 0)⟩) rfl (Pu.build (pv := [(0, .int .i64 (kind)), (1, .int .i64 (num)), (2, .agg ⟨sC (ref)⟩)]) (l := pkP (kind) (num) (ref) (.slice none 0 0)) rfl (bld42_0_1_2 _ _ _)) ?_
 refine JL_run rfl (Runs_alloc (l := pkP (0) (0) (zS) (.slice none 0 0)) Tryz.zeroValue42 rfl fun b3 => ?_)
 refine JL_run rfl (Runs_storeB 0 (vs := pkP (kind) (num) (ref) (.slice none 0 0)) (l := pkP (kind) (num) (ref) (.slice none 0 0)) ty42 rfl rfl rfl rfl rfl (pkP_ok rfl) (pkP_s ..) ?_)
 refine JL_nil ?_
 refine J_seq ?_
 refine J_seq ?_
 refine J_region ?_
 refine JL_pure (v := .int .i64 (0)) rfl (Pu.assign rfl) ?_
 refine JL_nil ?_
 refine J_block ?_
 refine J_loop (fun k ρ M => ∃ (j : Nat) (v : Value) (es : List (List Value)) (k1 k2 : Chunk), ρ 1 = .pointer (some ⟨b1, 0, none⟩) ∧ ρ 2 = .pointer (some ⟨b2, 0, none⟩) ∧ ρ 3 = .pointer (some ⟨b3, 0, none⟩) ∧ ρ 4 = .int .i64 ((j : Int)) ∧ Sub [[(b3, .cells ⟨pkP (kind) (num) (ref) (v)⟩ 42 (0, 0))], k1, k2, [(b2, .cells ⟨pkP (0) (0) (zS) (.slice none 0 0)⟩ 42 (0, 0))], [(b1, .cells ⟨pkP (kind) (num) (ref) (ks)⟩ 42 (0, 0))]] M ∧ j ≤ (kids).length ∧ Own 42 35 v es k1 ∧ OPs ((kids.take j)) es k2 ∧ k = (kids).length - j) _ ⟨0, (.slice none 0 0), [], [], [], rfl, rfl, rfl, rfl, (Sub.cons 0 rfl (Sub.emp (Sub.emp (Sub.cons 0 rfl (Sub.cons 0 rfl Sub.nil))))), Nat.zero_le _, Own.nil, OPs.nil, rfl⟩ ?_
 rintro _ ρ4 _ ⟨j, v, es, k1, k2, e5, e6, e7, e8, hm9, hj, hov, hopv, rfl⟩
 obtain ⟨ρ10, rfl⟩ := reopen_ex (uc e5 (uc e6 (uc e7 (uc e8 un))))
 clear e5 e6 e7 e8
 refine J_sub hm9 ?_
 have hlen := hks.le
 refine J_seq ?_
 refine J_seq ?_
 refine J_region ?_
 refine JL_pure (v := .int .i64 ((j : Int))) rfl (Pu.move rfl) ?_
 refine JL_pure (v := .pointer (some ⟨b1, 34, none⟩)) rfl (fa42_3 rfl rfl) ?_
 refine JL_run rfl (Pu_load1 ty40 rfl (At.bx 4 rfl) (pkP_34 ..) ?_)
 obtain ⟨a11, cap11, hv11⟩ := hks.sl
 have hle11 := hks.le
 refine JL_pure (v := .int .i64 (((kids).length : Int))) rfl (Pu.lenSl Tryz.runUnderlying40 hv11) ?_
 refine JL_pure (v := .bool (decide ((j : Int) < ((kids).length : Int)))) rfl (Pu.lss rfl rfl) ?_
 refine JL_nil ?_
 refine J_cond (b := decide ((j : Int) < ((kids).length : Int))) rfl (fun h12 => ?_) (fun h12 => ?_)
 ·skip
  replace h12 := dt h12
  have h12n : j < (kids).length := by omega
  have helv := OPs_len hopv
  rw [List.length_take] at helv
  have hs1 := sizePs_mem _ (List.getElem_mem h12n)
  refine J_skip ?_
  refine J_seq ?_
  refine J_block ?_
  obtain ⟨b14, o14, cap14, row14, T14, fr14, cs14, hv14, hb14, hs14, hE14⟩ := hks.get j (by first | assumption | omega | decide | simp)
  refine J_draw mixed #[0, 1, 0, 4, 0, 28, 60, 124, 252, 511, 1023, 2047] 9 9 5 rfl (by kernel_rfl) (fun i r13 N13 => match i with | 0 => (r13 0) = .pointer (some ⟨b3, 34, none⟩) | 1 => (r13 1) = v | 2 => (r13 2) = .pointer (some ⟨b1, 34, none⟩) | 3 => (r13 3) = ks | 4 => (r13 4) = .int .i64 ((j : Int)) | 5 => (r13 5) = .pointer (some ⟨b14, o14 + j * 35, none⟩) | 6 => (r13 6) = .agg ⟨cs14⟩ | 7 => (r13 7) = .agg ⟨(cel (r13 7))⟩ ∧ OP ((kids)[j]) (cel (r13 7)) (N13 7) | 8 => (r13 8) = .slice (some ⟨(sblk (r13 8)), 0, none⟩) 1 1 ∧ (N13 8) = [(sblk (r13 8), .cells ⟨List.flatten [(cel (r13 7))]⟩ 42 (0, 0))] ∧ Own 42 35 (.slice (some ⟨(sblk (r13 8)), 0, none⟩) 1 1) [(cel (r13 7))] (N13 8) | _ => True) ⟨?_, ?_, ?_, ?_, ?_, ?_, ?_, ?_, ?_, trivial⟩ ?_
  ·intro ρ r13 N13 B hB hBa hp hr hr0
   have q3 : ρ 3 = .pointer (some ⟨b3, 0, none⟩) := hr0 3 (by kernel_rfl)
   obtain ⟨ρ15, rfl⟩ := reopen_ex (uc q3 un)
   clear q3
   refine JL_pure (v := .pointer (some ⟨b3, 34, none⟩)) rfl (fa42_3 rfl rfl) ?_
   refine JL_nil ?_
   exact ⟨.pointer (some ⟨b3, 34, none⟩), [], rfl, (Sub.emp Sub.refl), rfl⟩
  ·intro ρ r13 N13 B hB hBa hp hr hr0
   have q19 : ρ 19 = .pointer (some ⟨b3, 34, none⟩) := (hr 0 _ _ (by decide) rfl rfl rfl).trans (hp 0 (by decide) rfl)
   obtain ⟨ρ16, rfl⟩ := reopen_ex (uc q19 un)
   clear q19
   refine JL_run rfl (Pu_load1 ty40 rfl (At.bx 9 (made_old ((hB 0 (by decide)).trans rfl))) (pkP_34 ..) ?_)
   refine JL_nil ?_
   exact ⟨v, [], rfl, (Sub.emp Sub.refl), rfl⟩
  ·intro ρ r13 N13 B hB hBa hp hr hr0
   have q1 : ρ 1 = .pointer (some ⟨b1, 0, none⟩) := hr0 1 (by kernel_rfl)
   obtain ⟨ρ17, rfl⟩ := reopen_ex (uc q1 un)
   clear q1
   refine JL_pure (v := .pointer (some ⟨b1, 34, none⟩)) rfl (fa42_3 rfl rfl) ?_
   refine JL_nil ?_
   exact ⟨.pointer (some ⟨b1, 34, none⟩), [], rfl, (Sub.emp Sub.refl), rfl⟩
  ·intro ρ r13 N13 B hB hBa hp hr hr0
   have q21 : ρ 21 = .pointer (some ⟨b1, 34, none⟩) := (hr 2 _ _ (by decide) rfl rfl rfl).trans (hp 2 (by decide) rfl)
   obtain ⟨ρ18, rfl⟩ := reopen_ex (uc q21 un)
   clear q21
   refine JL_run rfl (Pu_load1 ty40 rfl (At.bx 13 (made_old ((hB 4 (by decide)).trans rfl))) (pkP_34 ..) ?_)
   refine JL_nil ?_
   exact ⟨ks, [], rfl, (Sub.emp Sub.refl), rfl⟩
  ·intro ρ r13 N13 B hB hBa hp hr hr0
   have q4 : ρ 4 = .int .i64 ((j : Int)) := hr0 4 (by kernel_rfl)
   obtain ⟨ρ19, rfl⟩ := reopen_ex (uc q4 un)
   clear q4
   refine JL_pure (v := .int .i64 ((j : Int))) rfl (Pu.move rfl) ?_
   refine JL_nil ?_
   exact ⟨.int .i64 ((j : Int)), [], rfl, (Sub.emp Sub.refl), rfl⟩
  ·intro ρ r13 N13 B hB hBa hp hr hr0
   have q22 : ρ 22 = ks := (hr 3 _ _ (by decide) rfl rfl rfl).trans (hp 3 (by decide) rfl)
   have q23 : ρ 23 = .int .i64 ((j : Int)) := (hr 4 _ _ (by decide) rfl rfl rfl).trans (hp 4 (by decide) rfl)
   obtain ⟨ρ20, rfl⟩ := reopen_ex (uc q22 (uc q23 un))
   clear q22 q23
   refine JL_pure (v := .pointer (some ⟨b14, o14 + j * 35, none⟩)) rfl (Pu.idx j Tryz.runUnderlying40 ty42 hv14 rfl rfl (by first | assumption | omega | decide | simp)) ?_
   refine JL_nil ?_
   exact ⟨.pointer (some ⟨b14, o14 + j * 35, none⟩), [], rfl, (Sub.emp Sub.refl), rfl⟩
  ·intro ρ r13 N13 B hB hBa hp hr hr0
   have q24 : ρ 24 = .pointer (some ⟨b14, o14 + j * 35, none⟩) := (hr 5 _ _ (by decide) rfl rfl rfl).trans (hp 5 (by decide) rfl)
   obtain ⟨ρ21, rfl⟩ := reopen_ex (uc q24 un)
   clear q24
   refine JL_run rfl (Pu_load ty42 rfl (At.im hb14) hs14 ?_)
   refine JL_nil ?_
   exact ⟨.agg ⟨cs14⟩, [], rfl, (Sub.emp Sub.refl), rfl⟩
  ·intro ρ r13 N13 B hB hBa hp hr hr0
   have q25 : ρ 25 = .agg ⟨cs14⟩ := (hr 6 _ _ (by decide) rfl rfl rfl).trans (hp 6 (by decide) rfl)
   obtain ⟨ρ22, rfl⟩ := reopen_ex (uc q25 un)
   clear q25
   refine JL_call rfl Tryz.call83 rfl (fun hin => ih _ (List.getElem_mem h12n) _ _ (RP.mono (Hle.hu _ _) hE14) (by omega)) rfl ?_
   rintro _ _ ⟨cs23, k23, rfl, rfl, hO23⟩
   refine JL_nil ?_
   exact ⟨.agg ⟨cs23⟩, k23, rfl, Sub.refl, ⟨rfl, hO23⟩⟩
  ·intro ρ r13 N13 B hB hBa hp hr hr0
   have p7 : (r13 7) = .agg ⟨(cel (r13 7))⟩ ∧ OP ((kids)[j]) (cel (r13 7)) (N13 7) := hp 7 (by decide) rfl
   have q26 : ρ 26 = .agg ⟨(cel (r13 7))⟩ := (hr 7 _ _ (by decide) rfl rfl rfl).trans p7.1
   obtain ⟨ρ24, rfl⟩ := reopen_ex (uc q26 un)
   clear q26
   refine JL_run rfl (Runs_buildSlice (vs := [.agg ⟨(cel (r13 7))⟩]) [(cel (r13 7))] Tryz.runUnderlying40 el42 rfl rfl (by intro e he; simp only [List.mem_cons, List.not_mem_nil, or_false] at he; subst he; exact p7.2.len) rfl (by decide) fun b25 k25 ho25 hk25 => ?_)
   refine JL_nil ?_
   exact ⟨.slice (some ⟨b25, 0, none⟩) 1 1, k25, rfl, Sub.refl, ⟨rfl, hk25, ho25⟩⟩
  ·intro ρ r13 N13 hp hr hr0
   have p7 : (r13 7) = .agg ⟨(cel (r13 7))⟩ ∧ OP ((kids)[j]) (cel (r13 7)) (N13 7) := hp 7 (by decide)
   have p8 : (r13 8) = .slice (some ⟨(sblk (r13 8)), 0, none⟩) 1 1 ∧ (N13 8) = [(sblk (r13 8), .cells ⟨List.flatten [(cel (r13 7))]⟩ 42 (0, 0))] ∧ Own 42 35 (.slice (some ⟨(sblk (r13 8)), 0, none⟩) 1 1) [(cel (r13 7))] (N13 8) := hp 8 (by decide)
   have q1 : ρ 1 = .pointer (some ⟨b1, 0, none⟩) := hr0 1 (by kernel_rfl)
   have q2 : ρ 2 = .pointer (some ⟨b2, 0, none⟩) := hr0 2 (by kernel_rfl)
   have q3 : ρ 3 = .pointer (some ⟨b3, 0, none⟩) := hr0 3 (by kernel_rfl)
   have q4 : ρ 4 = .int .i64 ((j : Int)) := hr0 4 (by kernel_rfl)
   have q20 : ρ 20 = v := (hr 1 _ _ (by decide) rfl rfl).trans (hp 1 (by decide))
   have q27 : ρ 27 = .slice (some ⟨(sblk (r13 8)), 0, none⟩) 1 1 := (hr 8 _ _ (by decide) rfl rfl).trans p8.1
   obtain ⟨ρ26, rfl⟩ := reopen_ex (uc q1 (uc q2 (uc q3 (uc q4 (uc q20 (uc q27 un))))))
   clear q1 q2 q3 q4 q20 q27
   have p13_7 := p7; have p13_8 := p8
   clear hp hr hr0 p7 p8
   refine JL_sub (M' := [(N13 0), (N13 1), (N13 2), (N13 3), (N13 4), (N13 5), (N13 6), (N13 7), (N13 8), [(b3, .cells ⟨pkP (kind) (num) (ref) (v)⟩ 42 (0, 0))], k1, k2, [(b2, .cells ⟨pkP (0) (0) (zS) (.slice none 0 0)⟩ 42 (0, 0))], [(b1, .cells ⟨pkP (kind) (num) (ref) (ks)⟩ 42 (0, 0))]]) Sub.refl ?_
   refine JL_sub (M' := [(N13 7), (N13 8), [(b3, .cells ⟨pkP (kind) (num) (ref) (v)⟩ 42 (0, 0))], k1, k2, [(b2, .cells ⟨pkP (0) (0) (zS) (.slice none 0 0)⟩ 42 (0, 0))], [(b1, .cells ⟨pkP (kind) (num) (ref) (ks)⟩ 42 (0, 0))]]) (Sub.cons 7 rfl (Sub.cons 7 rfl (Sub.cons 7 rfl (Sub.cons 7 rfl (Sub.cons 7 rfl (Sub.cons 7 rfl (Sub.cons 7 rfl Sub.nil))))))) ?_
   show JL _ _ _ [_, _, _] _ _ _
   have hlens27 : ∀ e ∈ ([(cel (r13 7))] : List (List Value)), List.length e = 35 := by
    intro e he; simp only [List.mem_cons, List.not_mem_nil, or_false] at he
    rcases he with rfl
    ·exact p13_7.2.len
   have hoks27 : ∀ e ∈ ([(cel (r13 7))] : List (List Value)), okc e := by
    intro e he; simp only [List.mem_cons, List.not_mem_nil, or_false] at he
    rcases he with rfl
    ·exact p13_7.2.ok
   refine JL_run rfl (Runs_append (i := 3) (n := 1) (es' := [(cel (r13 7))]) Tryz.runUnderlying40 Tryz.runUnderlying40 (Or.inl rfl) el42 rfl rfl rfl hov (fun F w m => Src.row (((At.k 1 rfl (by rw [p13_8.2.1]; exact List.mem_cons_self))).heap m) (sub_a (flatten_len hlens27))) rfl hlens27 hoks27 (by decide) (by omega) fun v27 k27 ho27 => ?_)
   refine JL_pure (v := .pointer (some ⟨b3, 34, none⟩)) rfl (fa42_3 rfl rfl) ?_
   refine JL_run rfl (Runs_storeB 2 (vs := [v27]) (l := pkP (kind) (num) (ref) (v27)) ty40 rfl rfl rfl (cells_one ho27.one) rfl (okc_cons ho27.one okc_nil) (pkP_s34 ..) ?_)
   refine JL_nil ?_
   refine J_region ?_
   refine JL_pure (v := .int .i64 ((j : Int))) rfl (Pu.move rfl) ?_
   refine JL_pure (v := .int .i64 (((j + 1 : Nat) : Int))) rfl (Pu.inc rfl rfl (by omega)) ?_
   refine JL_pure (v := .int .i64 (((j + 1 : Nat) : Int))) rfl (Pu.assign rfl) ?_
   refine JL_nil ?_
   refine ⟨_, ?_, (j + 1), (v27), (es ++ [(cel (r13 7))]), (k27), ((k2) ++ ((N13 7))), rfl, rfl, rfl, rfl, (Sub.cons 2 rfl (Sub.cons 2 rfl (Sub.join (Sub.cons 2 rfl (Sub.cons 0 rfl (Sub.cons 1 rfl (Sub.cons 1 rfl Sub.nil))))))), ?_, ?_, ?_, rfl⟩
   ·omega
   ·omega
   ·assumption
   ·rw [List.take_succ_eq_append_getElem h12n]; exact OPs.snoc p13_7.2 hopv
 ·skip
  replace h12 := df h12
  have h12n : (kids).length ≤ j := by omega
  refine J_exit _ rfl ?_
  refine J_seq ?_
  refine J_region ?_
  refine JL_run rfl (Pu_load ty42 rfl (At.bx 0 rfl) (pkP_a ..) ?_)
  refine JL_run rfl (Runs_storeB 3 (vs := pkP (kind) (num) (ref) (v)) (l := pkP (kind) (num) (ref) (v)) ty42 rfl rfl rfl rfl rfl (pkP_ok hov.one) (pkP_s ..) ?_)
  refine JL_nil ?_
  refine J_ret ?_
  refine ⟨.agg ⟨pkP (kind) (num) (ref) (v)⟩, [k1 ++ k2], Ret.one rfl (RV.cell ty42 rfl (At.bx 3 rfl) (pkP_a ..)), (Sub.join (Sub.cons 1 rfl (Sub.cons 1 rfl Sub.nil))), ?_⟩
  rw [List.take_of_length_le h12n] at hopv
  exact ⟨_, _, rfl, rfl, OP_mk.2 ⟨v, es, k1, k2, rfl, hk, hn, hov, hopv, rfl, hks.le⟩⟩
theorem ownPattern_ct : ∀ (p : Pt) (cs : List Value) (H : Heap), RP H cs p → sizeP p ≤ 1000000 → CT Tryz.prog 18 ⟨[.agg ⟨cs⟩]⟩ [] H (fun v N => ∃ cs k, v = .agg ⟨cs⟩ ∧ N = [k] ∧ OP (p) cs k) := by
 intro p
 induction p using Pt.ind with
 | h kind num ref kids ih =>
 intro cs H hp hz
 rw [sizeP] at hz
 have hlk := len_sizePs kids
 obtain ⟨ks, rfl, hk, hn, hks⟩ := RP_mk.1 hp
 refine CT_enter Tryz.func18 rfl rfl ?_
 refine J_seq ?_
 refine J_region ?_
 refine JL_run rfl (Runs_box (l := pkP (kind) (num) (ref) (ks)) rfl rfl fun b1 => ?_)
 refine JL_run rfl (Runs_alloc (l := pkP (0) (0) (zS) (.slice none 0 0)) Tryz.zeroValue42 rfl fun b2 => ?_)
 refine JL_nil ?_
 refine J_seq ?_
 refine J_region ?_
 refine JL_pure (v := .pointer (some ⟨b1, 34, none⟩)) rfl (fa42_3 rfl rfl) ?_
 refine JL_run rfl (Pu_load1 ty40 rfl (At.bx 1 rfl) (pkP_34 ..) ?_)
 refine JL_pure (v := ks) rfl (Pu.assign rfl) ?_
 refine JL_nil ?_
 refine J_seq ?_
 refine J_region ?_
 refine JL_pure (v := .pointer (some ⟨b1, 34, none⟩)) rfl (fa42_3 rfl rfl) ?_
 refine JL_run rfl (Runs_storeB 1 (vs := [.slice none 0 0]) (l := pkP (kind) (num) (ref) (.slice none 0 0)) ty40 rfl rfl rfl rfl rfl (okc_cons rfl okc_nil) (pkP_s34 ..) ?_)
 refine JL_nil ?_
 refine J_seq ?_
 refine J_seq ?_
 refine J_region ?_
 refine JL_pure (v := ks) rfl (Pu.move rfl) ?_
 obtain ⟨a3, cap3, hv3⟩ := hks.sl
 have hle3 := hks.le
 refine JL_pure (v := .int .i64 (((kids).length : Int))) rfl (Pu.lenSl Tryz.runUnderlying40 hv3) ?_
 refine JL_pure (v := .int .i64 (0)) rfl (Pu.move rfl) ?_
 refine JL_nil ?_
 refine J_block ?_
 refine J_loop (fun k ρ M => ∃ (j : Nat) (v : Value) (es : List (List Value)) (k1 k2 : Chunk), ρ 1 = .pointer (some ⟨b1, 0, none⟩) ∧ ρ 2 = .pointer (some ⟨b2, 0, none⟩) ∧ ρ 9 = ks ∧ ρ 10 = .int .i64 (((kids).length : Int)) ∧ ρ 11 = .int .i64 ((j : Int)) ∧ Sub [[(b1, .cells ⟨pkP (kind) (num) (ref) (v)⟩ 42 (0, 0))], k1, k2, [(b2, .cells ⟨pkP (0) (0) (zS) (.slice none 0 0)⟩ 42 (0, 0))]] M ∧ j ≤ (kids).length ∧ Own 42 35 v es k1 ∧ OPs ((kids.take j)) es k2 ∧ k = (kids).length - j) _ ⟨0, (.slice none 0 0), [], [], [], rfl, rfl, rfl, rfl, rfl, (Sub.cons 1 rfl (Sub.emp (Sub.emp (Sub.cons 0 rfl Sub.nil)))), Nat.zero_le _, Own.nil, OPs.nil, rfl⟩ ?_
 rintro _ ρ4 _ ⟨j, v, es, k1, k2, e5, e6, e7, e8, e9, hm10, hj, hov, hopv, rfl⟩
 obtain ⟨ρ11, rfl⟩ := reopen_ex (uc e5 (uc e6 (uc e7 (uc e8 (uc e9 un)))))
 clear e5 e6 e7 e8 e9
 refine J_sub hm10 ?_
 have hlen := hks.le
 refine J_seq ?_
 refine J_region ?_
 refine JL_pure (v := .bool (decide ((j : Int) < ((kids).length : Int)))) rfl (Pu.lss rfl rfl) ?_
 refine JL_nil ?_
 refine J_seq ?_
 refine J_cond (b := decide ((j : Int) < ((kids).length : Int))) rfl (fun h12 => ?_) (fun h12 => ?_)
 ·skip
  replace h12 := dt h12
  have h12n : j < (kids).length := by omega
  have helv := OPs_len hopv
  rw [List.length_take] at helv
  have hs1 := sizePs_mem _ (List.getElem_mem h12n)
  refine J_skip ?_
  refine J_seq ?_
  refine J_block ?_
  refine J_seq ?_
  refine J_region ?_
  obtain ⟨b13, o13, cap13, row13, T13, fr13, cs13, hv13, hb13, hs13, hE13⟩ := hks.get j (by first | assumption | omega | decide | simp)
  refine JL_pure (v := .pointer (some ⟨b13, o13 + j * 35, none⟩)) rfl (Pu.idx j Tryz.runUnderlying40 ty42 hv13 rfl rfl (by first | assumption | omega | decide | simp)) ?_
  refine JL_run rfl (Pu_load ty42 rfl (At.im hb13) hs13 ?_)
  refine JL_run rfl (Runs_alloc (l := pkP (0) (0) (zS) (.slice none 0 0)) Tryz.zeroValue42 rfl fun b14 => ?_)
  refine JL_run rfl (Runs_storeB 0 (vs := cs13) (l := cs13) ty42 rfl rfl rfl rfl (RP_len hE13) (RP_ok hE13) (spl_a (n := 35) rfl (RP_len hE13)) ?_)
  refine JL_nil ?_
  refine J_draw mixed #[0, 1, 0, 4, 12, 31, 63, 127] 5 5 5 rfl (by kernel_rfl) (fun i r15 N15 => match i with | 0 => (r15 0) = .pointer (some ⟨b1, 34, none⟩) | 1 => (r15 1) = v | 2 => (r15 2) = .agg ⟨cs13⟩ | 3 => (r15 3) = .agg ⟨(cel (r15 3))⟩ ∧ OP ((kids)[j]) (cel (r15 3)) (N15 3) | 4 => (r15 4) = .slice (some ⟨(sblk (r15 4)), 0, none⟩) 1 1 ∧ (N15 4) = [(sblk (r15 4), .cells ⟨List.flatten [(cel (r15 3))]⟩ 42 (0, 0))] ∧ Own 42 35 (.slice (some ⟨(sblk (r15 4)), 0, none⟩) 1 1) [(cel (r15 3))] (N15 4) | _ => True) ⟨?_, ?_, ?_, ?_, ?_, trivial⟩ ?_
  ·intro ρ r15 N15 B hB hBa hp hr hr0
   have q1 : ρ 1 = .pointer (some ⟨b1, 0, none⟩) := hr0 1 (by kernel_rfl)
   obtain ⟨ρ16, rfl⟩ := reopen_ex (uc q1 un)
   clear q1
   refine JL_pure (v := .pointer (some ⟨b1, 34, none⟩)) rfl (fa42_3 rfl rfl) ?_
   refine JL_nil ?_
   exact ⟨.pointer (some ⟨b1, 34, none⟩), [], rfl, (Sub.emp Sub.refl), rfl⟩
  ·intro ρ r15 N15 B hB hBa hp hr hr0
   have q15 : ρ 15 = .pointer (some ⟨b1, 34, none⟩) := (hr 0 _ _ (by decide) rfl rfl rfl).trans (hp 0 (by decide) rfl)
   obtain ⟨ρ17, rfl⟩ := reopen_ex (uc q15 un)
   clear q15
   refine JL_run rfl (Pu_load1 ty40 rfl (At.bx 6 (made_old ((hB 1 (by decide)).trans rfl))) (pkP_34 ..) ?_)
   refine JL_nil ?_
   exact ⟨v, [], rfl, (Sub.emp Sub.refl), rfl⟩
  ·intro ρ r15 N15 B hB hBa hp hr hr0
   have q5 : ρ 5 = .pointer (some ⟨b14, 0, none⟩) := hr0 5 (by kernel_rfl)
   obtain ⟨ρ18, rfl⟩ := reopen_ex (uc q5 un)
   clear q5
   refine JL_run rfl (Pu_load ty42 rfl (At.bx 5 (made_old ((hB 0 (by decide)).trans rfl))) (sub_a (RP_len hE13)) ?_)
   refine JL_nil ?_
   exact ⟨.agg ⟨cs13⟩, [], rfl, (Sub.emp Sub.refl), rfl⟩
  ·intro ρ r15 N15 B hB hBa hp hr hr0
   have q17 : ρ 17 = .agg ⟨cs13⟩ := (hr 2 _ _ (by decide) rfl rfl rfl).trans (hp 2 (by decide) rfl)
   obtain ⟨ρ19, rfl⟩ := reopen_ex (uc q17 un)
   clear q17
   refine JL_call rfl Tryz.call18 rfl (fun hin => ih _ (List.getElem_mem h12n) _ _ (RP.mono (Hle.hu _ _) hE13) (by omega)) rfl ?_
   rintro _ _ ⟨cs20, k20, rfl, rfl, hO20⟩
   refine JL_nil ?_
   exact ⟨.agg ⟨cs20⟩, k20, rfl, Sub.refl, ⟨rfl, hO20⟩⟩
  ·intro ρ r15 N15 B hB hBa hp hr hr0
   have p3 : (r15 3) = .agg ⟨(cel (r15 3))⟩ ∧ OP ((kids)[j]) (cel (r15 3)) (N15 3) := hp 3 (by decide) rfl
   have q18 : ρ 18 = .agg ⟨(cel (r15 3))⟩ := (hr 3 _ _ (by decide) rfl rfl rfl).trans p3.1
   obtain ⟨ρ21, rfl⟩ := reopen_ex (uc q18 un)
   clear q18
   refine JL_run rfl (Runs_buildSlice (vs := [.agg ⟨(cel (r15 3))⟩]) [(cel (r15 3))] Tryz.runUnderlying40 el42 rfl rfl (by intro e he; simp only [List.mem_cons, List.not_mem_nil, or_false] at he; subst he; exact p3.2.len) rfl (by decide) fun b22 k22 ho22 hk22 => ?_)
   refine JL_nil ?_
   exact ⟨.slice (some ⟨b22, 0, none⟩) 1 1, k22, rfl, Sub.refl, ⟨rfl, hk22, ho22⟩⟩
  ·intro ρ r15 N15 hp hr hr0
   have p3 : (r15 3) = .agg ⟨(cel (r15 3))⟩ ∧ OP ((kids)[j]) (cel (r15 3)) (N15 3) := hp 3 (by decide)
   have p4 : (r15 4) = .slice (some ⟨(sblk (r15 4)), 0, none⟩) 1 1 ∧ (N15 4) = [(sblk (r15 4), .cells ⟨List.flatten [(cel (r15 3))]⟩ 42 (0, 0))] ∧ Own 42 35 (.slice (some ⟨(sblk (r15 4)), 0, none⟩) 1 1) [(cel (r15 3))] (N15 4) := hp 4 (by decide)
   have q1 : ρ 1 = .pointer (some ⟨b1, 0, none⟩) := hr0 1 (by kernel_rfl)
   have q2 : ρ 2 = .pointer (some ⟨b2, 0, none⟩) := hr0 2 (by kernel_rfl)
   have q9 : ρ 9 = ks := hr0 9 (by kernel_rfl)
   have q10 : ρ 10 = .int .i64 (((kids).length : Int)) := hr0 10 (by kernel_rfl)
   have q11 : ρ 11 = .int .i64 ((j : Int)) := hr0 11 (by kernel_rfl)
   have q16 : ρ 16 = v := (hr 1 _ _ (by decide) rfl rfl).trans (hp 1 (by decide))
   have q19 : ρ 19 = .slice (some ⟨(sblk (r15 4)), 0, none⟩) 1 1 := (hr 4 _ _ (by decide) rfl rfl).trans p4.1
   obtain ⟨ρ23, rfl⟩ := reopen_ex (uc q1 (uc q2 (uc q9 (uc q10 (uc q11 (uc q16 (uc q19 un)))))))
   clear q1 q2 q9 q10 q11 q16 q19
   have p15_3 := p3; have p15_4 := p4
   clear hp hr hr0 p3 p4
   refine JL_sub (M' := [(N15 0), (N15 1), (N15 2), (N15 3), (N15 4), [(b14, .cells ⟨cs13⟩ 42 (0, 0))], [(b1, .cells ⟨pkP (kind) (num) (ref) (v)⟩ 42 (0, 0))], k1, k2, [(b2, .cells ⟨pkP (0) (0) (zS) (.slice none 0 0)⟩ 42 (0, 0))]]) Sub.refl ?_
   refine JL_sub (M' := [(N15 3), (N15 4), [(b14, .cells ⟨cs13⟩ 42 (0, 0))], [(b1, .cells ⟨pkP (kind) (num) (ref) (v)⟩ 42 (0, 0))], k1, k2, [(b2, .cells ⟨pkP (0) (0) (zS) (.slice none 0 0)⟩ 42 (0, 0))]]) (Sub.cons 3 rfl (Sub.cons 3 rfl (Sub.cons 3 rfl (Sub.cons 3 rfl (Sub.cons 3 rfl (Sub.cons 3 rfl (Sub.cons 3 rfl Sub.nil))))))) ?_
   show JL _ _ _ [_, _, _] _ _ _
   have hlens24 : ∀ e ∈ ([(cel (r15 3))] : List (List Value)), List.length e = 35 := by
    intro e he; simp only [List.mem_cons, List.not_mem_nil, or_false] at he
    rcases he with rfl
    ·exact p15_3.2.len
   have hoks24 : ∀ e ∈ ([(cel (r15 3))] : List (List Value)), okc e := by
    intro e he; simp only [List.mem_cons, List.not_mem_nil, or_false] at he
    rcases he with rfl
    ·exact p15_3.2.ok
   refine JL_run rfl (Runs_append (i := 4) (n := 1) (es' := [(cel (r15 3))]) Tryz.runUnderlying40 Tryz.runUnderlying40 (Or.inl rfl) el42 rfl rfl rfl hov (fun F w m => Src.row (((At.k 1 rfl (by rw [p15_4.2.1]; exact List.mem_cons_self))).heap m) (sub_a (flatten_len hlens24))) rfl hlens24 hoks24 (by decide) (by omega) fun v24 k24 ho24 => ?_)
   refine JL_pure (v := .pointer (some ⟨b1, 34, none⟩)) rfl (fa42_3 rfl rfl) ?_
   refine JL_run rfl (Runs_storeB 3 (vs := [v24]) (l := pkP (kind) (num) (ref) (v24)) ty40 rfl rfl rfl (cells_one ho24.one) rfl (okc_cons ho24.one okc_nil) (pkP_s34 ..) ?_)
   refine JL_nil ?_
   refine J_region ?_
   refine JL_pure (v := .int .i64 (((j + 1 : Nat) : Int))) rfl (Pu.inc rfl rfl (by omega)) ?_
   refine JL_pure (v := .int .i64 (((j + 1 : Nat) : Int))) rfl (Pu.move rfl) ?_
   refine JL_nil ?_
   refine ⟨_, ?_, (j + 1), (v24), (es ++ [(cel (r15 3))]), (k24), ((k2) ++ ((N15 3))), rfl, rfl, rfl, rfl, rfl, (Sub.cons 3 rfl (Sub.cons 3 rfl (Sub.join (Sub.cons 3 rfl (Sub.cons 0 rfl (Sub.cons 2 rfl Sub.nil)))))), ?_, ?_, ?_, rfl⟩
   ·omega
   ·omega
   ·assumption
   ·rw [List.take_succ_eq_append_getElem h12n]; exact OPs.snoc p15_3.2 hopv
 ·skip
  replace h12 := df h12
  have h12n : (kids).length ≤ j := by omega
  refine J_exit _ rfl ?_
  refine J_seq ?_
  refine J_region ?_
  refine JL_run rfl (Pu_load ty42 rfl (At.bx 0 rfl) (pkP_a ..) ?_)
  refine JL_run rfl (Runs_storeB 3 (vs := pkP (kind) (num) (ref) (v)) (l := pkP (kind) (num) (ref) (v)) ty42 rfl rfl rfl rfl rfl (pkP_ok hov.one) (pkP_s ..) ?_)
  refine JL_nil ?_
  refine J_ret ?_
  refine ⟨.agg ⟨pkP (kind) (num) (ref) (v)⟩, [k1 ++ k2], Ret.one rfl (RV.cell ty42 rfl (At.bx 3 rfl) (pkP_a ..)), (Sub.join (Sub.cons 1 rfl (Sub.cons 1 rfl Sub.nil))), ?_⟩
  rw [List.take_of_length_le h12n] at hopv
  exact ⟨_, _, rfl, rfl, OP_mk.2 ⟨v, es, k1, k2, rfl, hk, hn, hov, hopv, rfl, hks.le⟩⟩
end Go.Proofs.YtbfjkdhfelmioaaGreat.Hs
/-! Walks, printed by a program of this session's own (gen.py). -/
namespace Go.Proofs.YtbfjkdhfelmioaaGreat.Hs
open Go Go.Proofs
set_option maxRecDepth 100000
set_option linter.unusedVariables false
set_option linter.unusedSimpArgs false
attribute [local irreducible] JL J CT wlo
set_option maxHeartbeats 1000000 in
theorem mapTerm_ct : ∀ (gr : Nat) (frs crs : List Value) (hcallr : ∀ args w, (callFunc gr args).run Tryz.prog w = .ok (.enter gr args) w) (rf : Sm → Sm) (gv : Nat) (fvs cvs : List Value) (hcallv : ∀ args w, (callFunc gv args).run Tryz.prog w = .ok (.enter gv args) w) (σ : Type) (Sc : σ → Chunk) (Inv : σ → Prop) (vf : Int → Int → σ → Tm × σ) (hI : ∀ n b s, Inv s → Inv (vf n b s).2) (t : Tm) (b : Int) (s : σ) (cs : List Value) (H : Heap), RT H cs t → sizeT t ≤ 1000000 → vOK t → 0 ≤ b → b + 2 * sizeT t ≤ 2000000 → Inv s → (∀ s h, Hle H h → CT Tryz.prog gr ⟨frs ++ [.agg ⟨sC s⟩] ++ crs⟩ [] h (fun v N => v = .agg ⟨sC (rf s)⟩ ∧ N = [])) → (∀ (n b : Int) (s : σ) (h : Heap), Hle H h → Inv s → 0 ≤ n → n ≤ 2000000 → 0 ≤ b → b ≤ 2000000 → CT Tryz.prog gv ⟨fvs ++ [.int .i64 n, .int .i64 b] ++ cvs⟩ [Sc s] h (fun v N => ∃ cs k, v = .agg ⟨cs⟩ ∧ N = [k, Sc (vf n b s).2] ∧ OT (vf n b s).1 cs k)) → CT Tryz.prog 58 ⟨[.agg ⟨[.func (.func gv) ⟨fvs⟩ ⟨cvs⟩, .func (.func gr) ⟨frs⟩ ⟨crs⟩]⟩, .agg ⟨cs⟩, .int .i64 b]⟩ [Sc s] H (fun v N => ∃ cs k, v = .agg ⟨cs⟩ ∧ N = [k, Sc (mapT rf vf b t s).2] ∧ OT (mapT rf vf b t s).1 cs k) := by
 intro gr frs crs hcallr rf gv fvs cvs hcallv σ Sc Inv vf hI t
 induction t using Tm.ind with
 | h kind num ref kids cases ih ih' =>
 intro b s cs H ht hz hv hb0 hb hs hgr hgv
 rw [sizeT] at hz hb
 rw [vOK] at hv
 have hv1 : ¬ kind = 1 ∨ (0 ≤ num ∧ num ≤ 2000000) := by by_cases h : kind = 1; exact .inr (hv.1 h); exact .inl h
 have hlk := len_sizeTs kids
 have hlc := len_sizeCs cases
 obtain ⟨ks, cv, rfl, hk, hn, hks, hcv⟩ := RT_mk.1 ht
 have hn1 : -9223372036854775808 ≤ num := hn.1
 have hn2 : num ≤ 9223372036854775807 := hn.2
 refine CT_enter Tryz.func58 rfl rfl ?_
 refine J_seq ?_
 refine J_region ?_
 refine JL_run rfl (Runs_box (l := [.func (.func gv) ⟨fvs⟩ ⟨cvs⟩, .func (.func gr) ⟨frs⟩ ⟨crs⟩]) rfl rfl fun b1 => ?_)
 refine JL_run rfl (Runs_box (l := pkT (kind) (num) (ref) (ks) (cv)) rfl rfl fun b2 => ?_)
 refine JL_run rfl (Runs_alloc (l := pkT (0) (0) (zS) (.slice none 0 0) (.slice none 0 0)) Tryz.zeroValue27 rfl fun b3 => ?_)
 refine JL_nil ?_
 refine J_seq ?_
 refine J_cut (fun ρ M => ρ 2 = .int .i64 (b) ∧ ρ 3 = .pointer (some ⟨b1, 0, none⟩) ∧ ρ 4 = .pointer (some ⟨b2, 0, none⟩) ∧ ρ 6 = .pointer (some ⟨b3, 0, none⟩) ∧ ρ 20 = .bool ((decide (kind = 1)) && (decide (b ≤ num))) ∧ M = [[(b3, .cells ⟨pkT (0) (0) (zS) (.slice none 0 0) (.slice none 0 0)⟩ 27 (0, 0))], [(b2, .cells ⟨pkT (kind) (num) (ref) (ks) (cv)⟩ 27 (0, 0))], [(b1, .cells ⟨[.func (.func gv) ⟨fvs⟩ ⟨cvs⟩, .func (.func gr) ⟨frs⟩ ⟨crs⟩]⟩ 89 (0, 0))], Sc s]) ?_ ?_
 ·refine J_region ?_
  refine JL_pure (v := .pointer (some ⟨b2, 0, none⟩)) rfl (fa27_0 rfl rfl) ?_
  refine JL_run rfl (Pu_load1 ty3 rfl (At.bx 1 rfl) (pkT_0 ..) ?_)
  refine JL_pure (v := .bool (decide (kind = 1))) rfl (Pu.eql rfl rfl) ?_
  refine JL_pure (v := .bool (decide (kind = 1))) rfl (Pu.move rfl) ?_
  cases h4 : (decide (kind = 1)) with
  | true =>
   replace h4 := dt h4
   refine JL_pure (v := .pointer (some ⟨b2, 1, none⟩)) rfl (fa27_1 rfl rfl) ?_
   refine JL_run rfl (Pu_load1 ty3 rfl (At.bx 1 rfl) (pkT_1 ..) ?_)
   refine JL_pure (v := .int .i64 (b)) rfl (Pu.move rfl) ?_
   refine JL_pure (v := .bool (decide (b ≤ num))) rfl (Pu.geq rfl rfl) ?_
   refine JL_pure (v := .bool (decide (b ≤ num))) rfl (Pu.pickT rfl rfl) ?_
   refine JL_nil ?_
   first | exact ⟨rfl, rfl, rfl, rfl, rfl, rfl⟩ | (exfalso; omega)
  | false =>
   replace h4 := df h4
   refine JL_skip rfl ?_
   refine JL_skip rfl ?_
   refine JL_skip rfl ?_
   refine JL_skip rfl ?_
   refine JL_pure (v := .bool (false)) rfl (Pu.pickF rfl rfl) ?_
   refine JL_nil ?_
   first | exact ⟨rfl, rfl, rfl, rfl, rfl, rfl⟩ | (exfalso; omega)
 ·rintro ρ5 _ ⟨e6, e7, e8, e9, e10, rfl⟩
  obtain ⟨ρ11, rfl⟩ := reopen_ex (uc e6 (uc e7 (uc e8 (uc e9 (uc e10 un)))))
  clear e6 e7 e8 e9 e10
  refine J_cond (b := (decide (kind = 1)) && (decide (b ≤ num))) rfl (fun h12 => ?_) (fun h12 => ?_)
  ·skip
   obtain ⟨h12a, h12b⟩ := andT h12
   replace h12a := dt h12a
   replace h12b := dt h12b
   refine J_seq ?_
   refine J_region ?_
   refine JL_pure (v := .pointer (some ⟨b1, 0, none⟩)) rfl (fa89_0 rfl rfl) ?_
   refine JL_run rfl (Pu_load1 ty86 rfl (At.bx 2 rfl) rfl ?_)
   refine JL_pure (v := .pointer (some ⟨b2, 1, none⟩)) rfl (fa27_1 rfl rfl) ?_
   refine JL_run rfl (Pu_load1 ty3 rfl (At.bx 1 rfl) (pkT_1 ..) ?_)
   refine JL_pure (v := .int .i64 (b)) rfl (Pu.move rfl) ?_
   refine JL_pure (v := .int .i64 (num - b)) rfl (Pu.sub64 rfl rfl (by first | omega | (constructor <;> omega))) ?_
   refine JL_pure (v := .int .i64 (b)) rfl (Pu.move rfl) ?_
   refine JL_call1 3 rfl hcallv rfl rfl (fun hin => hgv _ _ _ _ (Hle.hu _ _) hs (by omega) (by omega) (by omega) (by omega)) rfl ?_
   rintro _ _ ⟨cs13, k13, rfl, rfl, hO13⟩
   refine JL_run rfl (Runs_storeB 2 (vs := cs13) (l := cs13) ty27 rfl rfl rfl rfl hO13.len hO13.ok (spl_a (n := 36) rfl hO13.len) ?_)
   refine JL_nil ?_
   refine J_ret ?_
   refine ⟨.agg ⟨cs13⟩, [k13, Sc ((vf (num - b) (b) s).2)], Ret.one rfl (RV.cell ty27 rfl (At.bx 2 rfl) (sub_a hO13.len)), (Sub.cons 0 rfl (Sub.cons 0 rfl Sub.nil)), ?_⟩
   have hx : kind = 1 ∧ b ≤ num := ⟨h12a, h12b⟩
   exact ⟨_, _, rfl, by rw [mapT, if_pos hx], by rw [mapT, if_pos hx]; exact hO13⟩
  ·skip
   refine J_skip ?_
   refine J_seq ?_
   refine J_draw mixed #[0, 1, 0, 4, 0, 16, 0, 64, 240, 511, 0, 2047] 11 11 4 rfl (by kernel_rfl) (fun i r14 N14 => match i with | 0 => (r14 0) = .pointer (some ⟨b2, 0, none⟩) | 1 => (r14 1) = .int .i64 (kind) | 2 => (r14 2) = .pointer (some ⟨b2, 1, none⟩) | 3 => (r14 3) = .int .i64 (num) | 4 => (r14 4) = .pointer (some ⟨b1, 1, none⟩) | 5 => (r14 5) = .func (.func gr) ⟨frs⟩ ⟨crs⟩ | 6 => (r14 6) = .pointer (some ⟨b2, 2, none⟩) | 7 => (r14 7) = .agg ⟨sC (ref)⟩ | 8 => (r14 8) = .agg ⟨sC (rf (ref))⟩ | 9 => (r14 9) = .agg ⟨pkT (kind) (num) (rf (ref)) (.slice none 0 0) (.slice none 0 0)⟩ | 10 => (r14 10) = .pointer (some ⟨(pblk (r14 10)), 0, none⟩) ∧ (N14 10) = [((pblk (r14 10)), .cells ⟨pkT (0) (0) (zS) (.slice none 0 0) (.slice none 0 0)⟩ 27 (0, 0))] | _ => True) ⟨?_, ?_, ?_, ?_, ?_, ?_, ?_, ?_, ?_, ?_, ?_, trivial⟩ ?_
   ·intro ρ r14 N14 B hB hBa hp hr hr0
    have q4 : ρ 4 = .pointer (some ⟨b2, 0, none⟩) := hr0 4 (by kernel_rfl)
    obtain ⟨ρ15, rfl⟩ := reopen_ex (uc q4 un)
    clear q4
    refine JL_pure (v := .pointer (some ⟨b2, 0, none⟩)) rfl (fa27_0 rfl rfl) ?_
    refine JL_nil ?_
    exact ⟨.pointer (some ⟨b2, 0, none⟩), [], rfl, (Sub.emp Sub.refl), rfl⟩
   ·intro ρ r14 N14 B hB hBa hp hr hr0
    have q29 : ρ 29 = .pointer (some ⟨b2, 0, none⟩) := (hr 0 _ _ (by decide) rfl rfl rfl).trans (hp 0 (by decide) rfl)
    obtain ⟨ρ16, rfl⟩ := reopen_ex (uc q29 un)
    clear q29
    refine JL_run rfl (Pu_load1 ty3 rfl (At.bx 12 (made_old ((hB 1 (by decide)).trans rfl))) (pkT_0 ..) ?_)
    refine JL_nil ?_
    exact ⟨.int .i64 (kind), [], rfl, (Sub.emp Sub.refl), rfl⟩
   ·intro ρ r14 N14 B hB hBa hp hr hr0
    have q4 : ρ 4 = .pointer (some ⟨b2, 0, none⟩) := hr0 4 (by kernel_rfl)
    obtain ⟨ρ17, rfl⟩ := reopen_ex (uc q4 un)
    clear q4
    refine JL_pure (v := .pointer (some ⟨b2, 1, none⟩)) rfl (fa27_1 rfl rfl) ?_
    refine JL_nil ?_
    exact ⟨.pointer (some ⟨b2, 1, none⟩), [], rfl, (Sub.emp Sub.refl), rfl⟩
   ·intro ρ r14 N14 B hB hBa hp hr hr0
    have q31 : ρ 31 = .pointer (some ⟨b2, 1, none⟩) := (hr 2 _ _ (by decide) rfl rfl rfl).trans (hp 2 (by decide) rfl)
    obtain ⟨ρ18, rfl⟩ := reopen_ex (uc q31 un)
    clear q31
    refine JL_run rfl (Pu_load1 ty3 rfl (At.bx 12 (made_old ((hB 1 (by decide)).trans rfl))) (pkT_1 ..) ?_)
    refine JL_nil ?_
    exact ⟨.int .i64 (num), [], rfl, (Sub.emp Sub.refl), rfl⟩
   ·intro ρ r14 N14 B hB hBa hp hr hr0
    have q3 : ρ 3 = .pointer (some ⟨b1, 0, none⟩) := hr0 3 (by kernel_rfl)
    obtain ⟨ρ19, rfl⟩ := reopen_ex (uc q3 un)
    clear q3
    refine JL_pure (v := .pointer (some ⟨b1, 1, none⟩)) rfl (fa89_1 rfl rfl) ?_
    refine JL_nil ?_
    exact ⟨.pointer (some ⟨b1, 1, none⟩), [], rfl, (Sub.emp Sub.refl), rfl⟩
   ·intro ρ r14 N14 B hB hBa hp hr hr0
    have q33 : ρ 33 = .pointer (some ⟨b1, 1, none⟩) := (hr 4 _ _ (by decide) rfl rfl rfl).trans (hp 4 (by decide) rfl)
    obtain ⟨ρ20, rfl⟩ := reopen_ex (uc q33 un)
    clear q33
    refine JL_run rfl (Pu_load1 ty87 rfl (At.bx 13 (made_old ((hB 2 (by decide)).trans rfl))) rfl ?_)
    refine JL_nil ?_
    exact ⟨.func (.func gr) ⟨frs⟩ ⟨crs⟩, [], rfl, (Sub.emp Sub.refl), rfl⟩
   ·intro ρ r14 N14 B hB hBa hp hr hr0
    have q4 : ρ 4 = .pointer (some ⟨b2, 0, none⟩) := hr0 4 (by kernel_rfl)
    obtain ⟨ρ21, rfl⟩ := reopen_ex (uc q4 un)
    clear q4
    refine JL_pure (v := .pointer (some ⟨b2, 2, none⟩)) rfl (fa27_2 rfl rfl) ?_
    refine JL_nil ?_
    exact ⟨.pointer (some ⟨b2, 2, none⟩), [], rfl, (Sub.emp Sub.refl), rfl⟩
   ·intro ρ r14 N14 B hB hBa hp hr hr0
    have q35 : ρ 35 = .pointer (some ⟨b2, 2, none⟩) := (hr 6 _ _ (by decide) rfl rfl rfl).trans (hp 6 (by decide) rfl)
    obtain ⟨ρ22, rfl⟩ := reopen_ex (uc q35 un)
    clear q35
    refine JL_run rfl (Pu_load ty23 rfl (At.bx 12 (made_old ((hB 1 (by decide)).trans rfl))) (pkT_2 ..) ?_)
    refine JL_nil ?_
    exact ⟨.agg ⟨sC (ref)⟩, [], rfl, (Sub.emp Sub.refl), rfl⟩
   ·intro ρ r14 N14 B hB hBa hp hr hr0
    have q34 : ρ 34 = .func (.func gr) ⟨frs⟩ ⟨crs⟩ := (hr 5 _ _ (by decide) rfl rfl rfl).trans (hp 5 (by decide) rfl)
    have q36 : ρ 36 = .agg ⟨sC (ref)⟩ := (hr 7 _ _ (by decide) rfl rfl rfl).trans (hp 7 (by decide) rfl)
    obtain ⟨ρ23, rfl⟩ := reopen_ex (uc q34 (uc q36 un))
    clear q34 q36
    refine JL_call rfl hcallr rfl (fun hin => hgr _ _ (Hle.hu _ _)) rfl ?_
    rintro _ _ ⟨rfl, rfl⟩
    refine JL_nil ?_
    exact ⟨.agg ⟨sC (rf (ref))⟩, [], rfl, (Sub.emp Sub.refl), rfl⟩
   ·intro ρ r14 N14 B hB hBa hp hr hr0
    have q30 : ρ 30 = .int .i64 (kind) := (hr 1 _ _ (by decide) rfl rfl rfl).trans (hp 1 (by decide) rfl)
    have q32 : ρ 32 = .int .i64 (num) := (hr 3 _ _ (by decide) rfl rfl rfl).trans (hp 3 (by decide) rfl)
    have q37 : ρ 37 = .agg ⟨sC (rf (ref))⟩ := (hr 8 _ _ (by decide) rfl rfl rfl).trans (hp 8 (by decide) rfl)
    obtain ⟨ρ24, rfl⟩ := reopen_ex (uc q30 (uc q32 (uc q37 un)))
    clear q30 q32 q37
    refine JL_pure (v := .agg ⟨pkT (kind) (num) (rf (ref)) (.slice none 0 0) (.slice none 0 0)⟩) rfl (Pu.build (pv := [(0, .int .i64 (kind)), (1, .int .i64 (num)), (2, .agg ⟨sC (rf (ref))⟩)]) (l := pkT (kind) (num) (rf (ref)) (.slice none 0 0) (.slice none 0 0)) rfl (bld27_0_1_2 _ _ _)) ?_
    refine JL_nil ?_
    exact ⟨.agg ⟨pkT (kind) (num) (rf (ref)) (.slice none 0 0) (.slice none 0 0)⟩, [], rfl, (Sub.emp Sub.refl), rfl⟩
   ·intro ρ r14 N14 B hB hBa hp hr hr0
    refine JL_run rfl (Runs_alloc (l := pkT (0) (0) (zS) (.slice none 0 0) (.slice none 0 0)) Tryz.zeroValue27 rfl fun b25 => ?_)
    refine JL_nil ?_
    exact ⟨.pointer (some ⟨b25, 0, none⟩), [(b25, .cells ⟨pkT (0) (0) (zS) (.slice none 0 0) (.slice none 0 0)⟩ 27 (0, 0))], rfl, Sub.refl, ⟨rfl, rfl⟩⟩
   ·intro ρ r14 N14 hp hr hr0
    have p10 : (r14 10) = .pointer (some ⟨(pblk (r14 10)), 0, none⟩) ∧ (N14 10) = [((pblk (r14 10)), .cells ⟨pkT (0) (0) (zS) (.slice none 0 0) (.slice none 0 0)⟩ 27 (0, 0))] := hp 10 (by decide)
    have q2 : ρ 2 = .int .i64 (b) := hr0 2 (by kernel_rfl)
    have q3 : ρ 3 = .pointer (some ⟨b1, 0, none⟩) := hr0 3 (by kernel_rfl)
    have q4 : ρ 4 = .pointer (some ⟨b2, 0, none⟩) := hr0 4 (by kernel_rfl)
    have q6 : ρ 6 = .pointer (some ⟨b3, 0, none⟩) := hr0 6 (by kernel_rfl)
    have q7 : ρ 7 = .pointer (some ⟨(pblk (r14 10)), 0, none⟩) := (hr 10 _ _ (by decide) rfl rfl).trans p10.1
    have q38 : ρ 38 = .agg ⟨pkT (kind) (num) (rf (ref)) (.slice none 0 0) (.slice none 0 0)⟩ := (hr 9 _ _ (by decide) rfl rfl).trans (hp 9 (by decide))
    obtain ⟨ρ26, rfl⟩ := reopen_ex (uc q2 (uc q3 (uc q4 (uc q6 (uc q7 (uc q38 un))))))
    clear q2 q3 q4 q6 q7 q38
    have p14_10 := p10
    clear hp hr hr0 p10
    refine JL_sub (M' := [(N14 0), (N14 1), (N14 2), (N14 3), (N14 4), (N14 5), (N14 6), (N14 7), (N14 8), (N14 9), (N14 10), [(b3, .cells ⟨pkT (0) (0) (zS) (.slice none 0 0) (.slice none 0 0)⟩ 27 (0, 0))], [(b2, .cells ⟨pkT (kind) (num) (ref) (ks) (cv)⟩ 27 (0, 0))], [(b1, .cells ⟨[.func (.func gv) ⟨fvs⟩ ⟨cvs⟩, .func (.func gr) ⟨frs⟩ ⟨crs⟩]⟩ 89 (0, 0))], Sc s]) Sub.refl ?_
    refine JL_sub (M' := [[((pblk (r14 10)), .cells ⟨pkT (0) (0) (zS) (.slice none 0 0) (.slice none 0 0)⟩ 27 (0, 0))], [(b3, .cells ⟨pkT (0) (0) (zS) (.slice none 0 0) (.slice none 0 0)⟩ 27 (0, 0))], [(b2, .cells ⟨pkT (kind) (num) (ref) (ks) (cv)⟩ 27 (0, 0))], [(b1, .cells ⟨[.func (.func gv) ⟨fvs⟩ ⟨cvs⟩, .func (.func gr) ⟨frs⟩ ⟨crs⟩]⟩ 89 (0, 0))], Sc s]) (Sub.cons 10 (congrArg some p14_10.2) (Sub.cons 10 rfl (Sub.cons 10 rfl (Sub.cons 10 rfl (Sub.cons 10 rfl Sub.nil))))) ?_
    show JL _ _ _ [_] _ _ _
    refine JL_run rfl (Runs_storeB 0 (vs := pkT (kind) (num) (rf (ref)) (.slice none 0 0) (.slice none 0 0)) (l := pkT (kind) (num) (rf (ref)) (.slice none 0 0) (.slice none 0 0)) ty27 rfl rfl rfl rfl rfl (pkT_ok rfl rfl) (pkT_s ..) ?_)
    refine JL_nil ?_
    refine J_seq ?_
    refine J_region ?_
    refine JL_pure (v := .pointer (some ⟨b2, 34, none⟩)) rfl (fa27_3 rfl rfl) ?_
    refine JL_run rfl (Pu_load1 ty24 rfl (At.bx 2 rfl) (pkT_34 ..) ?_)
    obtain ⟨a27, cap27, hv27⟩ := hks.sl
    have hle27 := hks.le
    refine JL_pure (v := .int .i64 (((kids).length : Int))) rfl (Pu.lenSl Tryz.runUnderlying24 hv27) ?_
    refine JL_run rfl (Runs_makeO ((kids).length) Tryz.runUnderlying24 el27 rfl rfl rfl rfl (by omega) (by omega) fun v28 k28 ho28 => ?_)
    refine JL_pure (v := .pointer (some ⟨(pblk (r14 10)), 34, none⟩)) rfl (fa27_3 rfl rfl) ?_
    refine JL_run rfl (Runs_storeB 1 (vs := [v28]) (l := pkT (kind) (num) (rf (ref)) (v28) (.slice none 0 0)) ty24 rfl rfl rfl (cells_one ho28.one) rfl (okc_cons ho28.one okc_nil) (pkT_s34 ..) ?_)
    refine JL_nil ?_
    refine J_seq ?_
    refine J_region ?_
    refine JL_pure (v := .pointer (some ⟨(pblk (r14 10)), 34, none⟩)) rfl (fa27_3 rfl rfl) ?_
    refine JL_run rfl (Pu_load1 ty24 rfl (At.bx 1 rfl) (pkT_34 ..) ?_)
    refine JL_pure (v := .pointer (some ⟨b2, 34, none⟩)) rfl (fa27_3 rfl rfl) ?_
    refine JL_run rfl (Pu_load1 ty24 rfl (At.bx 3 rfl) (pkT_34 ..) ?_)
    obtain ⟨es29, he29, hH29, hl29, hok29, hsr29⟩ := kids_src (P := Tryz.prog) hks
    refine JL_run rfl (Runs_copy (i := 0) (n := (kids).length) (m := (kids).length) (es' := es29) Tryz.runUnderlying24 el27 rfl rfl rfl ho28 (fun F w m => hsr29 w _ m) he29 (by simp) hl29 hok29 rfl fun kc29 hc29 => ?_)
    refine JL_nil ?_
    refine J_seq ?_
    refine J_seq ?_
    refine J_region ?_
    refine JL_pure (v := .pointer (some ⟨(pblk (r14 10)), 34, none⟩)) rfl (fa27_3 rfl rfl) ?_
    refine JL_run rfl (Pu_load1 ty24 rfl (At.bx 1 rfl) (pkT_34 ..) ?_)
    obtain ⟨a30, cap30, hv30⟩ := hc29.sl
    rw [he29] at hv30
    refine JL_pure (v := .int .i64 (((kids).length : Int))) rfl (Pu.lenSl Tryz.runUnderlying24 hv30) ?_
    refine JL_pure (v := .int .i64 (0)) rfl (Pu.move rfl) ?_
    refine JL_nil ?_
    refine J_block ?_
    have hneg : ¬ (kind = 1 ∧ b ≤ num) := by intro hh; simp [hh.1, hh.2] at h12
    refine J_loop (fun k ρ M => ∃ (j : Nat) (es : List (List Value)) (k1 k2 : Chunk) (s1 : σ), ρ 2 = .int .i64 (b) ∧ ρ 3 = .pointer (some ⟨b1, 0, none⟩) ∧ ρ 4 = .pointer (some ⟨b2, 0, none⟩) ∧ ρ 6 = .pointer (some ⟨b3, 0, none⟩) ∧ ρ 7 = .pointer (some ⟨(pblk (r14 10)), 0, none⟩) ∧ ρ 50 = v28 ∧ ρ 51 = .int .i64 (((kids).length : Int)) ∧ ρ 52 = .int .i64 ((j : Int)) ∧ Sub [[((pblk (r14 10)), .cells ⟨pkT (kind) (num) (rf (ref)) (v28) (.slice none 0 0)⟩ 27 (0, 0))], k1, k2, Sc s1, [(b3, .cells ⟨pkT (0) (0) (zS) (.slice none 0 0) (.slice none 0 0)⟩ 27 (0, 0))], [(b2, .cells ⟨pkT (kind) (num) (ref) (ks) (cv)⟩ 27 (0, 0))], [(b1, .cells ⟨[.func (.func gv) ⟨fvs⟩ ⟨cvs⟩, .func (.func gr) ⟨frs⟩ ⟨crs⟩]⟩ 89 (0, 0))]] M ∧ j ≤ (kids).length ∧ Own 27 36 v28 es k1 ∧ Half H kids (mapTs rf vf b kind 0 (kids.take j) s).1 j es k2 ∧ Inv s1 ∧ (mapTs rf vf b kind 0 (kids.take j) s).2 = s1 ∧ k = (kids).length - j) _ ⟨0, es29, kc29, [], s, rfl, rfl, rfl, rfl, rfl, rfl, rfl, rfl, (Sub.cons 1 rfl (Sub.cons 0 rfl (Sub.emp (Sub.cons 3 rfl (Sub.cons 0 rfl (Sub.cons 0 rfl (Sub.cons 0 rfl Sub.nil))))))), Nat.zero_le _, hc29, hH29, hs, rfl, rfl⟩ ?_
    rintro _ ρ31 _ ⟨j, es, k1, k2, s1, e32, e33, e34, e35, e36, e37, e38, e39, hm40, hj, ho, hH, hs1, hsq, rfl⟩
    obtain ⟨ρ41, rfl⟩ := reopen_ex (uc e32 (uc e33 (uc e34 (uc e35 (uc e36 (uc e37 (uc e38 (uc e39 un))))))))
    clear e32 e33 e34 e35 e36 e37 e38 e39
    refine J_sub hm40 ?_
    refine J_seq ?_
    refine J_region ?_
    refine JL_pure (v := .bool (decide ((j : Int) < ((kids).length : Int)))) rfl (Pu.lss rfl rfl) ?_
    refine JL_nil ?_
    refine J_seq ?_
    refine J_cond (b := decide ((j : Int) < ((kids).length : Int))) rfl (fun h42 => ?_) (fun h42 => ?_)
    ·skip
     replace h42 := dt h42
     have h42n : j < (kids).length := by omega
     have hz1 := sizeTs_mem _ (List.getElem_mem h42n)
     have hm1 := more_le kind j
     refine J_skip ?_
     refine J_seq ?_
     refine J_block ?_
     refine J_seq ?_
     refine J_region ?_
     refine JL_pure (v := .int .i64 ((j : Int))) rfl (Pu.move rfl) ?_
     obtain ⟨b43, cap43, row43, e43, hv43, hm43, hs43, hE43⟩ := hH.at ho h42n
     refine JL_pure (v := .pointer (some ⟨b43, 0 + j * 36, none⟩)) rfl (Pu.idx j Tryz.runUnderlying24 ty27 hv43 rfl rfl (by rw [hH.1]; exact h42n)) ?_
     refine JL_run rfl (Pu_load ty27 rfl (At.k 1 rfl hm43) hs43 ?_)
     refine JL_run rfl (Runs_alloc (l := pkT (0) (0) (zS) (.slice none 0 0) (.slice none 0 0)) Tryz.zeroValue27 rfl fun b44 => ?_)
     refine JL_pure (v := .int .i64 ((j : Int))) rfl (Pu.assign rfl) ?_
     refine JL_run rfl (Runs_storeB 0 (vs := e43) (l := e43) ty27 rfl rfl rfl rfl (RT_len hE43) (RT_ok hE43) (spl_a (n := 36) rfl (RT_len hE43)) ?_)
     refine JL_nil ?_
     refine J_draw mixed #[0, 1, 0, 0, 0, 0, 0, 64, 0, 448, 992, 2040, 4095, 8191] 12 11 4 rfl (by kernel_rfl) (fun i r45 N45 => match i with | 0 => (r45 0) = .pointer (some ⟨(pblk (r14 10)), 34, none⟩) | 1 => (r45 1) = v28 | 2 => (r45 2) = .int .i64 ((j : Int)) | 3 => (r45 3) = .agg ⟨[.func (.func gv) ⟨fvs⟩ ⟨cvs⟩, .func (.func gr) ⟨frs⟩ ⟨crs⟩]⟩ | 4 => (r45 4) = .agg ⟨e43⟩ | 5 => (r45 5) = .int .i64 (b) | 6 => (r45 6) = .pointer (some ⟨b2, 0, none⟩) | 7 => (r45 7) = .int .i64 (kind) | 8 => (r45 8) = .int .i64 ((j : Int)) | 9 => (r45 9) = .int .i64 (more (kind) ((j : Int))) | 10 => (r45 10) = .int .i64 (b + (more (kind) ((j : Int)))) | 11 => XT ((mapT rf vf (b + (more (kind) ((j : Int)))) ((kids)[j]) s1).1) (r45 11) (N45 11) (Sc ((mapT rf vf (b + (more (kind) ((j : Int)))) ((kids)[j]) s1).2)) | _ => True) ⟨?_, ?_, ?_, ?_, ?_, ?_, ?_, ?_, ?_, ?_, ?_, ?_, trivial⟩ ?_
     ·intro ρ r45 N45 B hB hBa hp hr hr0
      have q7 : ρ 7 = .pointer (some ⟨(pblk (r14 10)), 0, none⟩) := hr0 7 (by kernel_rfl)
      obtain ⟨ρ46, rfl⟩ := reopen_ex (uc q7 un)
      clear q7
      refine JL_pure (v := .pointer (some ⟨(pblk (r14 10)), 34, none⟩)) rfl (fa27_3 rfl rfl) ?_
      refine JL_nil ?_
      exact ⟨.pointer (some ⟨(pblk (r14 10)), 34, none⟩), [], rfl, (Sub.emp Sub.refl), rfl⟩
     ·intro ρ r45 N45 B hB hBa hp hr hr0
      have q57 : ρ 57 = .pointer (some ⟨(pblk (r14 10)), 34, none⟩) := (hr 0 _ _ (by decide) rfl rfl rfl).trans (hp 0 (by decide) rfl)
      obtain ⟨ρ47, rfl⟩ := reopen_ex (uc q57 un)
      clear q57
      refine JL_run rfl (Pu_load1 ty24 rfl (At.bx 13 (made_old ((hB 1 (by decide)).trans rfl))) (pkT_34 ..) ?_)
      refine JL_nil ?_
      exact ⟨v28, [], rfl, (Sub.emp Sub.refl), rfl⟩
     ·intro ρ r45 N45 B hB hBa hp hr hr0
      have q8 : ρ 8 = .int .i64 ((j : Int)) := hr0 8 (by kernel_rfl)
      obtain ⟨ρ48, rfl⟩ := reopen_ex (uc q8 un)
      clear q8
      refine JL_pure (v := .int .i64 ((j : Int))) rfl (Pu.move rfl) ?_
      refine JL_nil ?_
      exact ⟨.int .i64 ((j : Int)), [], rfl, (Sub.emp Sub.refl), rfl⟩
     ·intro ρ r45 N45 B hB hBa hp hr hr0
      have q3 : ρ 3 = .pointer (some ⟨b1, 0, none⟩) := hr0 3 (by kernel_rfl)
      obtain ⟨ρ49, rfl⟩ := reopen_ex (uc q3 un)
      clear q3
      refine JL_run rfl (Pu_load ty89 rfl (At.bx 19 (made_old ((hB 7 (by decide)).trans rfl))) rfl ?_)
      refine JL_nil ?_
      exact ⟨.agg ⟨[.func (.func gv) ⟨fvs⟩ ⟨cvs⟩, .func (.func gr) ⟨frs⟩ ⟨crs⟩]⟩, [], rfl, (Sub.emp Sub.refl), rfl⟩
     ·intro ρ r45 N45 B hB hBa hp hr hr0
      have q9 : ρ 9 = .pointer (some ⟨b44, 0, none⟩) := hr0 9 (by kernel_rfl)
      obtain ⟨ρ50, rfl⟩ := reopen_ex (uc q9 un)
      clear q9
      refine JL_run rfl (Pu_load ty27 rfl (At.bx 12 (made_old ((hB 0 (by decide)).trans rfl))) (sub_a (RT_len hE43)) ?_)
      refine JL_nil ?_
      exact ⟨.agg ⟨e43⟩, [], rfl, (Sub.emp Sub.refl), rfl⟩
     ·intro ρ r45 N45 B hB hBa hp hr hr0
      have q2 : ρ 2 = .int .i64 (b) := hr0 2 (by kernel_rfl)
      obtain ⟨ρ51, rfl⟩ := reopen_ex (uc q2 un)
      clear q2
      refine JL_pure (v := .int .i64 (b)) rfl (Pu.move rfl) ?_
      refine JL_nil ?_
      exact ⟨.int .i64 (b), [], rfl, (Sub.emp Sub.refl), rfl⟩
     ·intro ρ r45 N45 B hB hBa hp hr hr0
      have q4 : ρ 4 = .pointer (some ⟨b2, 0, none⟩) := hr0 4 (by kernel_rfl)
      obtain ⟨ρ52, rfl⟩ := reopen_ex (uc q4 un)
      clear q4
      refine JL_pure (v := .pointer (some ⟨b2, 0, none⟩)) rfl (fa27_0 rfl rfl) ?_
      refine JL_nil ?_
      exact ⟨.pointer (some ⟨b2, 0, none⟩), [], rfl, (Sub.emp Sub.refl), rfl⟩
     ·intro ρ r45 N45 B hB hBa hp hr hr0
      have q63 : ρ 63 = .pointer (some ⟨b2, 0, none⟩) := (hr 6 _ _ (by decide) rfl rfl rfl).trans (hp 6 (by decide) rfl)
      obtain ⟨ρ53, rfl⟩ := reopen_ex (uc q63 un)
      clear q63
      refine JL_run rfl (Pu_load1 ty3 rfl (At.bx 18 (made_old ((hB 6 (by decide)).trans rfl))) (pkT_0 ..) ?_)
      refine JL_nil ?_
      exact ⟨.int .i64 (kind), [], rfl, (Sub.emp Sub.refl), rfl⟩
     ·intro ρ r45 N45 B hB hBa hp hr hr0
      have q8 : ρ 8 = .int .i64 ((j : Int)) := hr0 8 (by kernel_rfl)
      obtain ⟨ρ54, rfl⟩ := reopen_ex (uc q8 un)
      clear q8
      refine JL_pure (v := .int .i64 ((j : Int))) rfl (Pu.move rfl) ?_
      refine JL_nil ?_
      exact ⟨.int .i64 ((j : Int)), [], rfl, (Sub.emp Sub.refl), rfl⟩
     ·intro ρ r45 N45 B hB hBa hp hr hr0
      have q64 : ρ 64 = .int .i64 (kind) := (hr 7 _ _ (by decide) rfl rfl rfl).trans (hp 7 (by decide) rfl)
      have q65 : ρ 65 = .int .i64 ((j : Int)) := (hr 8 _ _ (by decide) rfl rfl rfl).trans (hp 8 (by decide) rfl)
      obtain ⟨ρ55, rfl⟩ := reopen_ex (uc q64 (uc q65 un))
      clear q64 q65
      refine JL_call rfl Tryz.call88 rfl (fun hin => more_ct _ _ _) rfl ?_
      rintro _ _ ⟨rfl, rfl⟩
      refine JL_nil ?_
      exact ⟨.int .i64 (more (kind) ((j : Int))), [], rfl, (Sub.emp Sub.refl), rfl⟩
     ·intro ρ r45 N45 B hB hBa hp hr hr0
      have q62 : ρ 62 = .int .i64 (b) := (hr 5 _ _ (by decide) rfl rfl rfl).trans (hp 5 (by decide) rfl)
      have q66 : ρ 66 = .int .i64 (more (kind) ((j : Int))) := (hr 9 _ _ (by decide) rfl rfl rfl).trans (hp 9 (by decide) rfl)
      obtain ⟨ρ56, rfl⟩ := reopen_ex (uc q62 (uc q66 un))
      clear q62 q66
      refine JL_pure (v := .int .i64 (b + (more (kind) ((j : Int))))) rfl (Pu.add64 rfl rfl (by first | omega | (constructor <;> omega))) ?_
      refine JL_nil ?_
      exact ⟨.int .i64 (b + (more (kind) ((j : Int)))), [], rfl, (Sub.emp Sub.refl), rfl⟩
     ·intro ρ r45 N45 B hB hBa hp hr hr0
      have q60 : ρ 60 = .agg ⟨[.func (.func gv) ⟨fvs⟩ ⟨cvs⟩, .func (.func gr) ⟨frs⟩ ⟨crs⟩]⟩ := (hr 3 _ _ (by decide) rfl rfl rfl).trans (hp 3 (by decide) rfl)
      have q61 : ρ 61 = .agg ⟨e43⟩ := (hr 4 _ _ (by decide) rfl rfl rfl).trans (hp 4 (by decide) rfl)
      have q67 : ρ 67 = .int .i64 (b + (more (kind) ((j : Int)))) := (hr 10 _ _ (by decide) rfl rfl rfl).trans (hp 10 (by decide) rfl)
      obtain ⟨ρ57, rfl⟩ := reopen_ex (uc q60 (uc q61 (uc q67 un)))
      clear q60 q61 q67
      obtain rfl := hBa rfl
      refine JL_sub (M' := [(N45 0), (N45 1), (N45 2), (N45 3), (N45 4), (N45 5), (N45 6), (N45 7), (N45 8), (N45 9), (N45 10), [], [(b44, .cells ⟨e43⟩ 27 (0, 0))], [((pblk (r14 10)), .cells ⟨pkT (kind) (num) (rf (ref)) (v28) (.slice none 0 0)⟩ 27 (0, 0))], k1, k2, Sc s1, [(b3, .cells ⟨pkT (0) (0) (zS) (.slice none 0 0) (.slice none 0 0)⟩ 27 (0, 0))], [(b2, .cells ⟨pkT (kind) (num) (ref) (ks) (cv)⟩ 27 (0, 0))], [(b1, .cells ⟨[.func (.func gv) ⟨fvs⟩ ⟨cvs⟩, .func (.func gr) ⟨frs⟩ ⟨crs⟩]⟩ 89 (0, 0))]]) Sub.refl ?_
      refine JL_call1 16 rfl Tryz.call58 rfl rfl (fun hin => ih _ (List.getElem_mem h42n) _ _ _ _ (RT.mono (Hle.hu _ _) hE43) (by omega) (vOKs_mem hv.2.1 _ (List.getElem_mem h42n)) (by omega) (by omega) hs1 (fun s h hh => hgr s h (Hle.trans (Hle.hu _ _) hh)) (fun n b s h hh => hgv n b s h (Hle.trans (Hle.hu _ _) hh))) rfl ?_
      rintro _ _ ⟨cs58, k58, rfl, rfl, hO58⟩
      refine JL_nil ?_
      exact ⟨.agg ⟨cs58⟩, (k58) ++ (Sc ((mapT rf vf (b + (more (kind) ((j : Int)))) ((kids)[j]) s1).2)), rfl, (Sub_setX (p := 4) rfl), ⟨k58, rfl, rfl, hO58⟩⟩
     ·intro ρ r45 N45 hp hr hr0
      have p11 : XT ((mapT rf vf (b + (more (kind) ((j : Int)))) ((kids)[j]) s1).1) (r45 11) (N45 11) (Sc ((mapT rf vf (b + (more (kind) ((j : Int)))) ((kids)[j]) s1).2)) := hp 11 (by decide)
      have q2 : ρ 2 = .int .i64 (b) := hr0 2 (by kernel_rfl)
      have q3 : ρ 3 = .pointer (some ⟨b1, 0, none⟩) := hr0 3 (by kernel_rfl)
      have q4 : ρ 4 = .pointer (some ⟨b2, 0, none⟩) := hr0 4 (by kernel_rfl)
      have q6 : ρ 6 = .pointer (some ⟨b3, 0, none⟩) := hr0 6 (by kernel_rfl)
      have q7 : ρ 7 = .pointer (some ⟨(pblk (r14 10)), 0, none⟩) := hr0 7 (by kernel_rfl)
      have q50 : ρ 50 = v28 := hr0 50 (by kernel_rfl)
      have q51 : ρ 51 = .int .i64 (((kids).length : Int)) := hr0 51 (by kernel_rfl)
      have q52 : ρ 52 = .int .i64 ((j : Int)) := hr0 52 (by kernel_rfl)
      have q58 : ρ 58 = v28 := (hr 1 _ _ (by decide) rfl rfl).trans (hp 1 (by decide))
      have q59 : ρ 59 = .int .i64 ((j : Int)) := (hr 2 _ _ (by decide) rfl rfl).trans (hp 2 (by decide))
      have q68 : ρ 68 = .agg ⟨(cel (r45 11))⟩ := (hr 11 _ _ (by decide) rfl rfl).trans p11.v
      obtain ⟨ρ59, rfl⟩ := reopen_ex (uc q2 (uc q3 (uc q4 (uc q6 (uc q7 (uc q50 (uc q51 (uc q52 (uc q58 (uc q59 (uc q68 un)))))))))))
      clear q2 q3 q4 q6 q7 q50 q51 q52 q58 q59 q68
      have p45_11 := p11
      clear hp hr hr0 p11
      obtain ⟨kT45, hv45, hN45, hO45⟩ := id p45_11
      refine JL_sub (M' := [(N45 0), (N45 1), (N45 2), (N45 3), (N45 4), (N45 5), (N45 6), (N45 7), (N45 8), (N45 9), (N45 10), [], [(b44, .cells ⟨e43⟩ 27 (0, 0))], [((pblk (r14 10)), .cells ⟨pkT (kind) (num) (rf (ref)) (v28) (.slice none 0 0)⟩ 27 (0, 0))], k1, k2, (N45 11), [(b3, .cells ⟨pkT (0) (0) (zS) (.slice none 0 0) (.slice none 0 0)⟩ 27 (0, 0))], [(b2, .cells ⟨pkT (kind) (num) (ref) (ks) (cv)⟩ 27 (0, 0))], [(b1, .cells ⟨[.func (.func gv) ⟨fvs⟩ ⟨cvs⟩, .func (.func gr) ⟨frs⟩ ⟨crs⟩]⟩ 89 (0, 0))]]) Sub.refl ?_
      refine JL_sub (M' := [(N45 11), [(b44, .cells ⟨e43⟩ 27 (0, 0))], [((pblk (r14 10)), .cells ⟨pkT (kind) (num) (rf (ref)) (v28) (.slice none 0 0)⟩ 27 (0, 0))], k1, k2, [(b3, .cells ⟨pkT (0) (0) (zS) (.slice none 0 0) (.slice none 0 0)⟩ 27 (0, 0))], [(b2, .cells ⟨pkT (kind) (num) (ref) (ks) (cv)⟩ 27 (0, 0))], [(b1, .cells ⟨[.func (.func gv) ⟨fvs⟩ ⟨cvs⟩, .func (.func gr) ⟨frs⟩ ⟨crs⟩]⟩ 89 (0, 0))]]) (Sub.cons 16 rfl (Sub.cons 12 rfl (Sub.cons 12 rfl (Sub.cons 12 rfl (Sub.cons 12 rfl (Sub.cons 12 rfl (Sub.cons 12 rfl (Sub.cons 12 rfl Sub.nil)))))))) ?_
      refine JL_sub (M' := [kT45, Sc ((mapT rf vf (b + (more (kind) ((j : Int)))) ((kids)[j]) s1).2), [(b44, .cells ⟨e43⟩ 27 (0, 0))], [((pblk (r14 10)), .cells ⟨pkT (kind) (num) (rf (ref)) (v28) (.slice none 0 0)⟩ 27 (0, 0))], k1, k2, [(b3, .cells ⟨pkT (0) (0) (zS) (.slice none 0 0) (.slice none 0 0)⟩ 27 (0, 0))], [(b2, .cells ⟨pkT (kind) (num) (ref) (ks) (cv)⟩ 27 (0, 0))], [(b1, .cells ⟨[.func (.func gv) ⟨fvs⟩ ⟨cvs⟩, .func (.func gr) ⟨frs⟩ ⟨crs⟩]⟩ 89 (0, 0))]]) (Sub.split (Sub.cons 0 (congrArg some hN45) Sub.refl)) ?_
      show JL _ _ _ [_, _] _ _ _
      obtain ⟨b60, cap60, row60, e60, hv60, hm60, hs60, hE60⟩ := hH.at ho h42n
      refine JL_pure (v := .pointer (some ⟨b60, 0 + j * 36, none⟩)) rfl (Pu.idx j Tryz.runUnderlying24 ty27 hv60 rfl rfl (by rw [hH.1]; exact h42n)) ?_
      refine JL_run rfl (Runs_storeOwn (i := 4) (j := j) (b := b60) ty27 rfl ho ⟨_, _, hv60⟩ rfl (by rw [hH.1]; exact h42n) rfl rfl p45_11.len p45_11.ok fun k61 ho61 => ?_)
      refine JL_nil ?_
      refine J_region ?_
      refine JL_pure (v := .int .i64 (((j + 1 : Nat) : Int))) rfl (Pu.inc rfl rfl (by omega)) ?_
      refine JL_pure (v := .int .i64 (((j + 1 : Nat) : Int))) rfl (Pu.move rfl) ?_
      refine JL_nil ?_
      refine ⟨_, ?_, (j + 1), (es.set j ((cel (r45 11)))), (k61), (k2 ++ kT45), ((mapT rf vf (b + (more (kind) ((j : Int)))) ((kids)[j]) s1).2), rfl, rfl, rfl, rfl, rfl, rfl, rfl, rfl, (Sub.cons 3 rfl (Sub.cons 3 rfl (Sub.join (Sub.cons 3 rfl (Sub.cons 0 rfl (Sub.cons 0 rfl (Sub.cons 1 rfl (Sub.cons 1 rfl (Sub.cons 1 rfl Sub.nil))))))))), ?_, ?_, ?_, ?_, ?_, rfl⟩
      ·omega
      ·omega
      ·exact ho61
      ·rw [mapTs_take0 rf vf b kind kids j s h42n, hsq]; exact hH.step h42n hO45
      ·exact mapT_inv hI _ _ _ hs1
      ·rw [mapTs_take0 rf vf b kind kids j s h42n, hsq]
    ·skip
     replace h42 := df h42
     have h42n : (kids).length ≤ j := by omega
     refine J_exit _ rfl ?_
     refine J_seq ?_
     refine J_seq ?_
     refine J_region ?_
     refine JL_pure (v := .pointer (some ⟨b2, 35, none⟩)) rfl (fa27_4 rfl rfl) ?_
     refine JL_run rfl (Pu_load1 ty25 rfl (At.bx 5 rfl) (pkT_35 ..) ?_)
     obtain ⟨a62, cap62, hv62⟩ := hcv.sl
     have hle62 := hcv.le
     refine JL_pure (v := .int .i64 (((cases).length : Int))) rfl (Pu.lenSl Tryz.runUnderlying25 hv62) ?_
     refine JL_pure (v := .int .i64 (0)) rfl (Pu.move rfl) ?_
     refine JL_nil ?_
     refine J_block ?_
     have hjk := h42n
     rw [List.take_of_length_le hjk] at hsq hH
     refine J_loop (fun k ρ M => ∃ (j : Nat) (w : Value) (es2 : List (List Value)) (k3 k4 : Chunk) (s2 : σ), ρ 2 = .int .i64 (b) ∧ ρ 3 = .pointer (some ⟨b1, 0, none⟩) ∧ ρ 6 = .pointer (some ⟨b3, 0, none⟩) ∧ ρ 7 = .pointer (some ⟨(pblk (r14 10)), 0, none⟩) ∧ ρ 72 = cv ∧ ρ 73 = .int .i64 (((cases).length : Int)) ∧ ρ 74 = .int .i64 ((j : Int)) ∧ Sub [[((pblk (r14 10)), .cells ⟨pkT (kind) (num) (rf (ref)) (v28) (w)⟩ 27 (0, 0))], k3, k4, Sc s2, k1, k2, [(b3, .cells ⟨pkT (0) (0) (zS) (.slice none 0 0) (.slice none 0 0)⟩ 27 (0, 0))], [(b2, .cells ⟨pkT (kind) (num) (ref) (ks) (cv)⟩ 27 (0, 0))], [(b1, .cells ⟨[.func (.func gv) ⟨fvs⟩ ⟨cvs⟩, .func (.func gr) ⟨frs⟩ ⟨crs⟩]⟩ 89 (0, 0))]] M ∧ j ≤ (cases).length ∧ Own 46 71 w es2 k3 ∧ OCs (mapCs rf vf b (cases.take j) s1).1 es2 k4 ∧ Inv s2 ∧ (mapCs rf vf b (cases.take j) s1).2 = s2 ∧ k = (cases).length - j) _ ⟨0, (.slice none 0 0), [], [], [], s1, rfl, rfl, rfl, rfl, rfl, rfl, rfl, (Sub.cons 0 rfl (Sub.emp (Sub.emp (Sub.cons 2 rfl (Sub.cons 0 rfl (Sub.cons 0 rfl (Sub.cons 0 rfl (Sub.cons 0 rfl (Sub.cons 0 rfl Sub.nil))))))))), Nat.zero_le _, Own.nil, OCs.nil, hs1, rfl, rfl⟩ ?_
     rintro _ ρ63 _ ⟨j, w, es2, k3, k4, s2, e64, e65, e66, e67, e68, e69, e70, hm71, hj, how, hopw, hs2, hsq2, rfl⟩
     obtain ⟨ρ72, rfl⟩ := reopen_ex (uc e64 (uc e65 (uc e66 (uc e67 (uc e68 (uc e69 (uc e70 un)))))))
     clear e64 e65 e66 e67 e68 e69 e70
     refine J_sub hm71 ?_
     refine J_seq ?_
     refine J_region ?_
     refine JL_pure (v := .bool (decide ((j : Int) < ((cases).length : Int)))) rfl (Pu.lss rfl rfl) ?_
     refine JL_nil ?_
     refine J_seq ?_
     refine J_cond (b := decide ((j : Int) < ((cases).length : Int))) rfl (fun h73 => ?_) (fun h73 => ?_)
     ·skip
      replace h73 := dt h73
      have h73n : j < (cases).length := by omega
      have helw := OCs_len hopw
      rw [mapCs_len, List.length_take] at helw
      have hz1 := sizeCs_mem _ (List.getElem_mem h73n)
      have hm1 := binds_le (cases[j]).1
      refine J_skip ?_
      refine J_seq ?_
      refine J_block ?_
      refine J_seq ?_
      refine J_region ?_
      obtain ⟨b74, o74, cap74, row74, T74, fr74, cs74, hv74, hb74, hs74, hE74⟩ := hcv.get j (by first | assumption | omega | decide | simp)
      obtain ⟨ca74, cb74, rfl, hA74, hB74⟩ := hE74
      refine JL_pure (v := .pointer (some ⟨b74, o74 + j * 71, none⟩)) rfl (Pu.idx j Tryz.runUnderlying25 ty46 hv74 rfl rfl (by first | assumption | omega | decide | simp)) ?_
      refine JL_run rfl (Pu_load ty46 rfl (At.im hb74) hs74 ?_)
      refine JL_run rfl (Runs_alloc (l := (pkP (0) (0) (zS) (.slice none 0 0)) ++ (pkT (0) (0) (zS) (.slice none 0 0) (.slice none 0 0))) Tryz.zeroValue46 rfl fun b75 => ?_)
      refine JL_run rfl (Runs_storeB 0 (vs := (ca74) ++ (cb74)) (l := (ca74) ++ (cb74)) ty46 rfl rfl rfl rfl (len_app (RP_len hA74) (RT_len hB74)) (okc_app (RP_ok hA74) (RT_ok hB74)) (spl_a (n := 71) rfl (len_app (RP_len hA74) (RT_len hB74))) ?_)
      refine JL_nil ?_
      refine J_draw mixed #[0, 1, 0, 0, 8, 28, 0, 0, 128, 0, 0, 1024, 3132, 7740, 16380, 32764, 65532, 131071, 262143, 524287] 17 14 4 rfl (by kernel_rfl) (fun i r76 N76 => match i with | 0 => (r76 0) = .pointer (some ⟨(pblk (r14 10)), 35, none⟩) | 1 => (r76 1) = w | 2 => (r76 2) = .agg ⟨[.func (.func gv) ⟨fvs⟩ ⟨cvs⟩, .func (.func gr) ⟨frs⟩ ⟨crs⟩]⟩ | 3 => (r76 3) = .pointer (some ⟨b75, 0, none⟩) | 4 => (r76 4) = .agg ⟨ca74⟩ | 5 => (r76 5) = .agg ⟨(cel (r76 5))⟩ ∧ OP (mapP rf ((cases)[j].1)) (cel (r76 5)) (N76 5) | 6 => (r76 6) = .agg ⟨[.func (.func gv) ⟨fvs⟩ ⟨cvs⟩, .func (.func gr) ⟨frs⟩ ⟨crs⟩]⟩ | 7 => (r76 7) = .pointer (some ⟨b75, 35, none⟩) | 8 => (r76 8) = .agg ⟨cb74⟩ | 9 => (r76 9) = .int .i64 (b) | 10 => (r76 10) = .pointer (some ⟨b75, 0, none⟩) | 11 => (r76 11) = .agg ⟨ca74⟩ | 12 => (r76 12) = .int .i64 ((binds ((cases)[j].1) : Int)) | 13 => (r76 13) = .int .i64 (b + ((binds ((cases)[j].1) : Int))) | 14 => XT ((mapT rf vf (b + ((binds ((cases)[j].1) : Int))) ((cases)[j].2) s2).1) (r76 14) (N76 14) (Sc ((mapT rf vf (b + ((binds ((cases)[j].1) : Int))) ((cases)[j].2) s2).2)) | 15 => (r76 15) = .agg ⟨((cel (r76 5))) ++ ((cel (r76 14)))⟩ | 16 => (r76 16) = .slice (some ⟨(sblk (r76 16)), 0, none⟩) 1 1 ∧ (N76 16) = [(sblk (r76 16), .cells ⟨List.flatten [((cel (r76 5))) ++ ((cel (r76 14)))]⟩ 46 (0, 0))] ∧ Own 46 71 (.slice (some ⟨(sblk (r76 16)), 0, none⟩) 1 1) [((cel (r76 5))) ++ ((cel (r76 14)))] (N76 16) | _ => True) ⟨?_, ?_, ?_, ?_, ?_, ?_, ?_, ?_, ?_, ?_, ?_, ?_, ?_, ?_, ?_, ?_, ?_, trivial⟩ ?_
      ·intro ρ r76 N76 B hB hBa hp hr hr0
       have q7 : ρ 7 = .pointer (some ⟨(pblk (r14 10)), 0, none⟩) := hr0 7 (by kernel_rfl)
       obtain ⟨ρ77, rfl⟩ := reopen_ex (uc q7 un)
       clear q7
       refine JL_pure (v := .pointer (some ⟨(pblk (r14 10)), 35, none⟩)) rfl (fa27_4 rfl rfl) ?_
       refine JL_nil ?_
       exact ⟨.pointer (some ⟨(pblk (r14 10)), 35, none⟩), [], rfl, (Sub.emp Sub.refl), rfl⟩
      ·intro ρ r76 N76 B hB hBa hp hr hr0
       have q78 : ρ 78 = .pointer (some ⟨(pblk (r14 10)), 35, none⟩) := (hr 0 _ _ (by decide) rfl rfl rfl).trans (hp 0 (by decide) rfl)
       obtain ⟨ρ78, rfl⟩ := reopen_ex (uc q78 un)
       clear q78
       refine JL_run rfl (Pu_load1 ty25 rfl (At.bx 18 (made_old ((hB 1 (by decide)).trans rfl))) (pkT_35 ..) ?_)
       refine JL_nil ?_
       exact ⟨w, [], rfl, (Sub.emp Sub.refl), rfl⟩
      ·intro ρ r76 N76 B hB hBa hp hr hr0
       have q3 : ρ 3 = .pointer (some ⟨b1, 0, none⟩) := hr0 3 (by kernel_rfl)
       obtain ⟨ρ79, rfl⟩ := reopen_ex (uc q3 un)
       clear q3
       refine JL_run rfl (Pu_load ty89 rfl (At.bx 26 (made_old ((hB 9 (by decide)).trans rfl))) rfl ?_)
       refine JL_nil ?_
       exact ⟨.agg ⟨[.func (.func gv) ⟨fvs⟩ ⟨cvs⟩, .func (.func gr) ⟨frs⟩ ⟨crs⟩]⟩, [], rfl, (Sub.emp Sub.refl), rfl⟩
      ·intro ρ r76 N76 B hB hBa hp hr hr0
       have q11 : ρ 11 = .pointer (some ⟨b75, 0, none⟩) := hr0 11 (by kernel_rfl)
       obtain ⟨ρ80, rfl⟩ := reopen_ex (uc q11 un)
       clear q11
       refine JL_pure (v := .pointer (some ⟨b75, 0, none⟩)) rfl (fa46_0 rfl rfl) ?_
       refine JL_nil ?_
       exact ⟨.pointer (some ⟨b75, 0, none⟩), [], rfl, (Sub.emp Sub.refl), rfl⟩
      ·intro ρ r76 N76 B hB hBa hp hr hr0
       have q81 : ρ 81 = .pointer (some ⟨b75, 0, none⟩) := (hr 3 _ _ (by decide) rfl rfl rfl).trans (hp 3 (by decide) rfl)
       obtain ⟨ρ81, rfl⟩ := reopen_ex (uc q81 un)
       clear q81
       refine JL_run rfl (Pu_load ty42 rfl (At.bx 17 (made_old ((hB 0 (by decide)).trans rfl))) (sub_l (RP_len hA74)) ?_)
       refine JL_nil ?_
       exact ⟨.agg ⟨ca74⟩, [], rfl, (Sub.emp Sub.refl), rfl⟩
      ·intro ρ r76 N76 B hB hBa hp hr hr0
       have q80 : ρ 80 = .agg ⟨[.func (.func gv) ⟨fvs⟩ ⟨cvs⟩, .func (.func gr) ⟨frs⟩ ⟨crs⟩]⟩ := (hr 2 _ _ (by decide) rfl rfl rfl).trans (hp 2 (by decide) rfl)
       have q82 : ρ 82 = .agg ⟨ca74⟩ := (hr 4 _ _ (by decide) rfl rfl rfl).trans (hp 4 (by decide) rfl)
       obtain ⟨ρ82, rfl⟩ := reopen_ex (uc q80 (uc q82 un))
       clear q80 q82
       refine JL_call rfl Tryz.call89 rfl (fun hin => mapPattern_ct gr frs crs hcallr rf _ rfl _ _ _ (RP.mono (Hle.hu _ _) hA74) (fun s h hh => hgr s h (Hle.trans (Hle.hu _ _) hh)) (by omega)) rfl ?_
       rintro _ _ ⟨cs83, k83, rfl, rfl, hO83⟩
       refine JL_nil ?_
       exact ⟨.agg ⟨cs83⟩, k83, rfl, Sub.refl, ⟨rfl, hO83⟩⟩
      ·intro ρ r76 N76 B hB hBa hp hr hr0
       have q3 : ρ 3 = .pointer (some ⟨b1, 0, none⟩) := hr0 3 (by kernel_rfl)
       obtain ⟨ρ84, rfl⟩ := reopen_ex (uc q3 un)
       clear q3
       refine JL_run rfl (Pu_load ty89 rfl (At.bx 26 (made_old ((hB 9 (by decide)).trans rfl))) rfl ?_)
       refine JL_nil ?_
       exact ⟨.agg ⟨[.func (.func gv) ⟨fvs⟩ ⟨cvs⟩, .func (.func gr) ⟨frs⟩ ⟨crs⟩]⟩, [], rfl, (Sub.emp Sub.refl), rfl⟩
      ·intro ρ r76 N76 B hB hBa hp hr hr0
       have q11 : ρ 11 = .pointer (some ⟨b75, 0, none⟩) := hr0 11 (by kernel_rfl)
       obtain ⟨ρ85, rfl⟩ := reopen_ex (uc q11 un)
       clear q11
       refine JL_pure (v := .pointer (some ⟨b75, 35, none⟩)) rfl (fa46_1 rfl rfl) ?_
       refine JL_nil ?_
       exact ⟨.pointer (some ⟨b75, 35, none⟩), [], rfl, (Sub.emp Sub.refl), rfl⟩
      ·intro ρ r76 N76 B hB hBa hp hr hr0
       have q85 : ρ 85 = .pointer (some ⟨b75, 35, none⟩) := (hr 7 _ _ (by decide) rfl rfl rfl).trans (hp 7 (by decide) rfl)
       obtain ⟨ρ86, rfl⟩ := reopen_ex (uc q85 un)
       clear q85
       refine JL_run rfl (Pu_load ty27 rfl (At.bx 17 (made_old ((hB 0 (by decide)).trans rfl))) (sub_r (RP_len hA74) (RT_len hB74)) ?_)
       refine JL_nil ?_
       exact ⟨.agg ⟨cb74⟩, [], rfl, (Sub.emp Sub.refl), rfl⟩
      ·intro ρ r76 N76 B hB hBa hp hr hr0
       have q2 : ρ 2 = .int .i64 (b) := hr0 2 (by kernel_rfl)
       obtain ⟨ρ87, rfl⟩ := reopen_ex (uc q2 un)
       clear q2
       refine JL_pure (v := .int .i64 (b)) rfl (Pu.move rfl) ?_
       refine JL_nil ?_
       exact ⟨.int .i64 (b), [], rfl, (Sub.emp Sub.refl), rfl⟩
      ·intro ρ r76 N76 B hB hBa hp hr hr0
       have q11 : ρ 11 = .pointer (some ⟨b75, 0, none⟩) := hr0 11 (by kernel_rfl)
       obtain ⟨ρ88, rfl⟩ := reopen_ex (uc q11 un)
       clear q11
       refine JL_pure (v := .pointer (some ⟨b75, 0, none⟩)) rfl (fa46_0 rfl rfl) ?_
       refine JL_nil ?_
       exact ⟨.pointer (some ⟨b75, 0, none⟩), [], rfl, (Sub.emp Sub.refl), rfl⟩
      ·intro ρ r76 N76 B hB hBa hp hr hr0
       have q88 : ρ 88 = .pointer (some ⟨b75, 0, none⟩) := (hr 10 _ _ (by decide) rfl rfl rfl).trans (hp 10 (by decide) rfl)
       obtain ⟨ρ89, rfl⟩ := reopen_ex (uc q88 un)
       clear q88
       refine JL_run rfl (Pu_load ty42 rfl (At.bx 17 (made_old ((hB 0 (by decide)).trans rfl))) (sub_l (RP_len hA74)) ?_)
       refine JL_nil ?_
       exact ⟨.agg ⟨ca74⟩, [], rfl, (Sub.emp Sub.refl), rfl⟩
      ·intro ρ r76 N76 B hB hBa hp hr hr0
       have q89 : ρ 89 = .agg ⟨ca74⟩ := (hr 11 _ _ (by decide) rfl rfl rfl).trans (hp 11 (by decide) rfl)
       obtain ⟨ρ90, rfl⟩ := reopen_ex (uc q89 un)
       clear q89
       refine JL_call rfl Tryz.call67 rfl (fun hin => binds_ct _ _ _ (RP.mono (Hle.hu _ _) hA74) (by omega)) rfl ?_
       rintro _ _ ⟨rfl, rfl⟩
       refine JL_nil ?_
       exact ⟨.int .i64 ((binds ((cases)[j].1) : Int)), [], rfl, (Sub.emp Sub.refl), rfl⟩
      ·intro ρ r76 N76 B hB hBa hp hr hr0
       have q87 : ρ 87 = .int .i64 (b) := (hr 9 _ _ (by decide) rfl rfl rfl).trans (hp 9 (by decide) rfl)
       have q90 : ρ 90 = .int .i64 ((binds ((cases)[j].1) : Int)) := (hr 12 _ _ (by decide) rfl rfl rfl).trans (hp 12 (by decide) rfl)
       obtain ⟨ρ91, rfl⟩ := reopen_ex (uc q87 (uc q90 un))
       clear q87 q90
       refine JL_pure (v := .int .i64 (b + ((binds ((cases)[j].1) : Int)))) rfl (Pu.add64 rfl rfl (by first | omega | (constructor <;> omega))) ?_
       refine JL_nil ?_
       exact ⟨.int .i64 (b + ((binds ((cases)[j].1) : Int))), [], rfl, (Sub.emp Sub.refl), rfl⟩
      ·intro ρ r76 N76 B hB hBa hp hr hr0
       have q84 : ρ 84 = .agg ⟨[.func (.func gv) ⟨fvs⟩ ⟨cvs⟩, .func (.func gr) ⟨frs⟩ ⟨crs⟩]⟩ := (hr 6 _ _ (by decide) rfl rfl rfl).trans (hp 6 (by decide) rfl)
       have q86 : ρ 86 = .agg ⟨cb74⟩ := (hr 8 _ _ (by decide) rfl rfl rfl).trans (hp 8 (by decide) rfl)
       have q91 : ρ 91 = .int .i64 (b + ((binds ((cases)[j].1) : Int))) := (hr 13 _ _ (by decide) rfl rfl rfl).trans (hp 13 (by decide) rfl)
       obtain ⟨ρ92, rfl⟩ := reopen_ex (uc q84 (uc q86 (uc q91 un)))
       clear q84 q86 q91
       obtain rfl := hBa rfl
       refine JL_sub (M' := [(N76 0), (N76 1), (N76 2), (N76 3), (N76 4), (N76 5), (N76 6), (N76 7), (N76 8), (N76 9), (N76 10), (N76 11), (N76 12), (N76 13), [], (N76 15), (N76 16), [(b75, .cells ⟨(ca74) ++ (cb74)⟩ 46 (0, 0))], [((pblk (r14 10)), .cells ⟨pkT (kind) (num) (rf (ref)) (v28) (w)⟩ 27 (0, 0))], k3, k4, Sc s2, k1, k2, [(b3, .cells ⟨pkT (0) (0) (zS) (.slice none 0 0) (.slice none 0 0)⟩ 27 (0, 0))], [(b2, .cells ⟨pkT (kind) (num) (ref) (ks) (cv)⟩ 27 (0, 0))], [(b1, .cells ⟨[.func (.func gv) ⟨fvs⟩ ⟨cvs⟩, .func (.func gr) ⟨frs⟩ ⟨crs⟩]⟩ 89 (0, 0))]]) Sub.refl ?_
       refine JL_call1 21 rfl Tryz.call58 rfl rfl (fun hin => ih' _ (List.getElem_mem h73n) _ _ _ _ (RT.mono (Hle.hu _ _) hB74) (by omega) (vOKc_mem hv.2.2 _ (List.getElem_mem h73n)) (by omega) (by omega) hs2 (fun s h hh => hgr s h (Hle.trans (Hle.hu _ _) hh)) (fun n b s h hh => hgv n b s h (Hle.trans (Hle.hu _ _) hh))) rfl ?_
       rintro _ _ ⟨cs93, k93, rfl, rfl, hO93⟩
       refine JL_nil ?_
       exact ⟨.agg ⟨cs93⟩, (k93) ++ (Sc ((mapT rf vf (b + ((binds ((cases)[j].1) : Int))) ((cases)[j].2) s2).2)), rfl, (Sub_setX (p := 4) rfl), ⟨k93, rfl, rfl, hO93⟩⟩
      ·intro ρ r76 N76 B hB hBa hp hr hr0
       have p5 : (r76 5) = .agg ⟨(cel (r76 5))⟩ ∧ OP (mapP rf ((cases)[j].1)) (cel (r76 5)) (N76 5) := hp 5 (by decide) rfl
       have p14 : XT ((mapT rf vf (b + ((binds ((cases)[j].1) : Int))) ((cases)[j].2) s2).1) (r76 14) (N76 14) (Sc ((mapT rf vf (b + ((binds ((cases)[j].1) : Int))) ((cases)[j].2) s2).2)) := hp 14 (by decide) rfl
       have q83 : ρ 83 = .agg ⟨(cel (r76 5))⟩ := (hr 5 _ _ (by decide) rfl rfl rfl).trans p5.1
       have q92 : ρ 92 = .agg ⟨(cel (r76 14))⟩ := (hr 14 _ _ (by decide) rfl rfl rfl).trans p14.v
       obtain ⟨ρ94, rfl⟩ := reopen_ex (uc q83 (uc q92 un))
       clear q83 q92
       refine JL_pure (v := .agg ⟨((cel (r76 5))) ++ ((cel (r76 14)))⟩) rfl (Pu.build (pv := [(0, .agg ⟨(cel (r76 5))⟩), (1, .agg ⟨(cel (r76 14))⟩)]) (l := ((cel (r76 5))) ++ ((cel (r76 14)))) rfl (bld46_0_1 p5.2.len p14.len)) ?_
       refine JL_nil ?_
       exact ⟨.agg ⟨((cel (r76 5))) ++ ((cel (r76 14)))⟩, [], rfl, (Sub.emp Sub.refl), rfl⟩
      ·intro ρ r76 N76 B hB hBa hp hr hr0
       have p5 : (r76 5) = .agg ⟨(cel (r76 5))⟩ ∧ OP (mapP rf ((cases)[j].1)) (cel (r76 5)) (N76 5) := hp 5 (by decide) rfl
       have p14 : XT ((mapT rf vf (b + ((binds ((cases)[j].1) : Int))) ((cases)[j].2) s2).1) (r76 14) (N76 14) (Sc ((mapT rf vf (b + ((binds ((cases)[j].1) : Int))) ((cases)[j].2) s2).2)) := hp 14 (by decide) rfl
       have q93 : ρ 93 = .agg ⟨((cel (r76 5))) ++ ((cel (r76 14)))⟩ := (hr 15 _ _ (by decide) rfl rfl rfl).trans (hp 15 (by decide) rfl)
       obtain ⟨ρ95, rfl⟩ := reopen_ex (uc q93 un)
       clear q93
       refine JL_run rfl (Runs_buildSlice (vs := [.agg ⟨((cel (r76 5))) ++ ((cel (r76 14)))⟩]) [((cel (r76 5))) ++ ((cel (r76 14)))] Tryz.runUnderlying25 el46 rfl rfl (by intro e he; simp only [List.mem_cons, List.not_mem_nil, or_false] at he; subst he; exact (len_app p5.2.len p14.len)) rfl (by decide) fun b96 k96 ho96 hk96 => ?_)
       refine JL_nil ?_
       exact ⟨.slice (some ⟨b96, 0, none⟩) 1 1, k96, rfl, Sub.refl, ⟨rfl, hk96, ho96⟩⟩
      ·intro ρ r76 N76 hp hr hr0
       have p5 : (r76 5) = .agg ⟨(cel (r76 5))⟩ ∧ OP (mapP rf ((cases)[j].1)) (cel (r76 5)) (N76 5) := hp 5 (by decide)
       have p14 : XT ((mapT rf vf (b + ((binds ((cases)[j].1) : Int))) ((cases)[j].2) s2).1) (r76 14) (N76 14) (Sc ((mapT rf vf (b + ((binds ((cases)[j].1) : Int))) ((cases)[j].2) s2).2)) := hp 14 (by decide)
       have p16 : (r76 16) = .slice (some ⟨(sblk (r76 16)), 0, none⟩) 1 1 ∧ (N76 16) = [(sblk (r76 16), .cells ⟨List.flatten [((cel (r76 5))) ++ ((cel (r76 14)))]⟩ 46 (0, 0))] ∧ Own 46 71 (.slice (some ⟨(sblk (r76 16)), 0, none⟩) 1 1) [((cel (r76 5))) ++ ((cel (r76 14)))] (N76 16) := hp 16 (by decide)
       have q2 : ρ 2 = .int .i64 (b) := hr0 2 (by kernel_rfl)
       have q3 : ρ 3 = .pointer (some ⟨b1, 0, none⟩) := hr0 3 (by kernel_rfl)
       have q6 : ρ 6 = .pointer (some ⟨b3, 0, none⟩) := hr0 6 (by kernel_rfl)
       have q7 : ρ 7 = .pointer (some ⟨(pblk (r14 10)), 0, none⟩) := hr0 7 (by kernel_rfl)
       have q72 : ρ 72 = cv := hr0 72 (by kernel_rfl)
       have q73 : ρ 73 = .int .i64 (((cases).length : Int)) := hr0 73 (by kernel_rfl)
       have q74 : ρ 74 = .int .i64 ((j : Int)) := hr0 74 (by kernel_rfl)
       have q79 : ρ 79 = w := (hr 1 _ _ (by decide) rfl rfl).trans (hp 1 (by decide))
       have q94 : ρ 94 = .slice (some ⟨(sblk (r76 16)), 0, none⟩) 1 1 := (hr 16 _ _ (by decide) rfl rfl).trans p16.1
       obtain ⟨ρ97, rfl⟩ := reopen_ex (uc q2 (uc q3 (uc q6 (uc q7 (uc q72 (uc q73 (uc q74 (uc q79 (uc q94 un)))))))))
       clear q2 q3 q6 q7 q72 q73 q74 q79 q94
       have p76_5 := p5; have p76_14 := p14; have p76_16 := p16
       clear hp hr hr0 p5 p14 p16
       obtain ⟨kT76, hv76, hN76, hO76⟩ := id p76_14
       refine JL_sub (M' := [(N76 0), (N76 1), (N76 2), (N76 3), (N76 4), (N76 5), (N76 6), (N76 7), (N76 8), (N76 9), (N76 10), (N76 11), (N76 12), (N76 13), [], (N76 15), (N76 16), [(b75, .cells ⟨(ca74) ++ (cb74)⟩ 46 (0, 0))], [((pblk (r14 10)), .cells ⟨pkT (kind) (num) (rf (ref)) (v28) (w)⟩ 27 (0, 0))], k3, k4, (N76 14), k1, k2, [(b3, .cells ⟨pkT (0) (0) (zS) (.slice none 0 0) (.slice none 0 0)⟩ 27 (0, 0))], [(b2, .cells ⟨pkT (kind) (num) (ref) (ks) (cv)⟩ 27 (0, 0))], [(b1, .cells ⟨[.func (.func gv) ⟨fvs⟩ ⟨cvs⟩, .func (.func gr) ⟨frs⟩ ⟨crs⟩]⟩ 89 (0, 0))]]) Sub.refl ?_
       refine JL_sub (M' := [(N76 14), (N76 5), (N76 16), [(b75, .cells ⟨(ca74) ++ (cb74)⟩ 46 (0, 0))], [((pblk (r14 10)), .cells ⟨pkT (kind) (num) (rf (ref)) (v28) (w)⟩ 27 (0, 0))], k3, k4, k1, k2, [(b3, .cells ⟨pkT (0) (0) (zS) (.slice none 0 0) (.slice none 0 0)⟩ 27 (0, 0))], [(b2, .cells ⟨pkT (kind) (num) (ref) (ks) (cv)⟩ 27 (0, 0))], [(b1, .cells ⟨[.func (.func gv) ⟨fvs⟩ ⟨cvs⟩, .func (.func gr) ⟨frs⟩ ⟨crs⟩]⟩ 89 (0, 0))]]) (Sub.cons 21 rfl (Sub.cons 5 rfl (Sub.cons 15 rfl (Sub.cons 15 rfl (Sub.cons 15 rfl (Sub.cons 15 rfl (Sub.cons 15 rfl (Sub.cons 15 rfl (Sub.cons 15 rfl (Sub.cons 15 rfl (Sub.cons 15 rfl (Sub.cons 15 rfl Sub.nil)))))))))))) ?_
       refine JL_sub (M' := [kT76, Sc ((mapT rf vf (b + ((binds ((cases)[j].1) : Int))) ((cases)[j].2) s2).2), (N76 5), (N76 16), [(b75, .cells ⟨(ca74) ++ (cb74)⟩ 46 (0, 0))], [((pblk (r14 10)), .cells ⟨pkT (kind) (num) (rf (ref)) (v28) (w)⟩ 27 (0, 0))], k3, k4, k1, k2, [(b3, .cells ⟨pkT (0) (0) (zS) (.slice none 0 0) (.slice none 0 0)⟩ 27 (0, 0))], [(b2, .cells ⟨pkT (kind) (num) (ref) (ks) (cv)⟩ 27 (0, 0))], [(b1, .cells ⟨[.func (.func gv) ⟨fvs⟩ ⟨cvs⟩, .func (.func gr) ⟨frs⟩ ⟨crs⟩]⟩ 89 (0, 0))]]) (Sub.split (Sub.cons 0 (congrArg some hN76) Sub.refl)) ?_
       show JL _ _ _ [_, _, _] _ _ _
       have hlens98 : ∀ e ∈ ([((cel (r76 5))) ++ ((cel (r76 14)))] : List (List Value)), List.length e = 71 := by
        intro e he; simp only [List.mem_cons, List.not_mem_nil, or_false] at he
        rcases he with rfl
        ·exact (len_app p76_5.2.len p76_14.len)
       have hoks98 : ∀ e ∈ ([((cel (r76 5))) ++ ((cel (r76 14)))] : List (List Value)), okc e := by
        intro e he; simp only [List.mem_cons, List.not_mem_nil, or_false] at he
        rcases he with rfl
        ·exact (okc_app p76_5.2.ok p76_14.ok)
       refine JL_run rfl (Runs_append (i := 6) (n := 1) (es' := [((cel (r76 5))) ++ ((cel (r76 14)))]) Tryz.runUnderlying25 Tryz.runUnderlying25 (Or.inl rfl) el46 rfl rfl rfl how (fun F w m => Src.row (((At.k 3 rfl (by rw [p76_16.2.1]; exact List.mem_cons_self))).heap m) (sub_a (flatten_len hlens98))) rfl hlens98 hoks98 (by decide) (by omega) fun v98 k98 ho98 => ?_)
       refine JL_pure (v := .pointer (some ⟨(pblk (r14 10)), 35, none⟩)) rfl (fa27_4 rfl rfl) ?_
       refine JL_run rfl (Runs_storeB 5 (vs := [v98]) (l := pkT (kind) (num) (rf (ref)) (v28) (v98)) ty25 rfl rfl rfl (cells_one ho98.one) rfl (okc_cons ho98.one okc_nil) (pkT_s35 ..) ?_)
       refine JL_nil ?_
       refine J_region ?_
       refine JL_pure (v := .int .i64 (((j + 1 : Nat) : Int))) rfl (Pu.inc rfl rfl (by omega)) ?_
       refine JL_pure (v := .int .i64 (((j + 1 : Nat) : Int))) rfl (Pu.move rfl) ?_
       refine JL_nil ?_
       refine ⟨_, ?_, (j + 1), (v98), (es2 ++ [((cel (r76 5))) ++ ((cel (r76 14)))]), (k98), ((k4) ++ (((N76 5)) ++ (kT76))), ((mapT rf vf (b + ((binds ((cases)[j].1) : Int))) ((cases)[j].2) s2).2), rfl, rfl, rfl, rfl, rfl, rfl, rfl, (Sub.cons 5 rfl (Sub.cons 5 rfl (Sub.join3 (Sub.cons 5 rfl (Sub.cons 2 rfl (Sub.cons 0 rfl (Sub.cons 0 rfl (Sub.cons 2 rfl (Sub.cons 2 rfl (Sub.cons 2 rfl (Sub.cons 2 rfl (Sub.cons 2 rfl Sub.nil)))))))))))), ?_, ?_, ?_, ?_, ?_, rfl⟩
       ·omega
       ·omega
       ·exact ho98
       ·rw [mapCs_take rf vf b cases j s1 h73n, hsq2]; exact OCs.snoc p76_5.2 hO76 hopw
       ·exact mapT_inv hI _ _ _ hs2
       ·rw [mapCs_take rf vf b cases j s1 h73n, hsq2]
     ·skip
      replace h73 := df h73
      have h73n : (cases).length ≤ j := by omega
      refine J_exit _ rfl ?_
      refine J_seq ?_
      refine J_region ?_
      refine JL_run rfl (Pu_load ty27 rfl (At.bx 0 rfl) (pkT_a ..) ?_)
      refine JL_run rfl (Runs_storeB 6 (vs := pkT (kind) (num) (rf (ref)) (v28) (w)) (l := pkT (kind) (num) (rf (ref)) (v28) (w)) ty27 rfl rfl rfl rfl rfl (pkT_ok ho.one how.one) (pkT_s ..) ?_)
      refine JL_nil ?_
      refine J_ret ?_
      refine ⟨.agg ⟨pkT (kind) (num) (rf (ref)) (v28) (w)⟩, [k1 ++ (k2 ++ (k3 ++ k4)), Sc s2], Ret.one rfl (RV.cell ty27 rfl (At.bx 6 rfl) (pkT_a ..)), (Sub.join4 (Sub.cons 4 rfl (Sub.cons 4 rfl (Sub.cons 1 rfl (Sub.cons 1 rfl (Sub.cons 1 rfl Sub.nil)))))), ?_⟩
      rw [List.take_of_length_le h73n] at hopw hsq2
      exact ⟨_, _, rfl, by rw [mapT, if_neg hneg, hsq, hsq2], by rw [mapT, if_neg hneg, hsq]; exact OT_mk.2 ⟨_, w, es, es2, k1, k2, k3, k4, rfl, hk, hn, ho, hH.done hjk, how, hopw, rfl, by rw [mapTs_len]; exact hks.le, by rw [mapCs_len]; exact hcv.le⟩⟩
end Go.Proofs.YtbfjkdhfelmioaaGreat.Hs
/-! Walks, printed by a program of this session's own (gen.py). -/
namespace Go.Proofs.YtbfjkdhfelmioaaGreat.Hs
open Go Go.Proofs
set_option maxRecDepth 100000
set_option linter.unusedVariables false
set_option linter.unusedSimpArgs false
attribute [local irreducible] JL J CT wlo
theorem moreR_ct (k j : Int) (H : Heap) : CT Tryz.prog 82 ⟨[.int .i64 (k), .int .i64 (j)]⟩ [] H (fun v N => v = .int .i64 (more k j) ∧ N = []) := by
 refine CT_enter Tryz.func82 rfl rfl ?_
 refine J_seq ?_
 refine J_region ?_
 refine JL_pure (v := .int .i64 (0)) rfl (Pu.assign rfl) ?_
 refine JL_nil ?_
 refine J_seq ?_
 refine J_block ?_
 refine J_seq ?_
 refine J_seq ?_
 refine J_region ?_
 refine JL_pure (v := .int .i64 (k)) rfl (Pu.move rfl) ?_
 refine JL_pure (v := .bool (decide (k = 3))) rfl (Pu.eql rfl rfl) ?_
 refine JL_pure (v := .bool (decide (k = 3))) rfl (Pu.assign rfl) ?_
 refine JL_nil ?_
 refine J_cond (b := decide (k = 3)) rfl (fun h1 => ?_) (fun h1 => ?_)
 ·skip
  replace h1 := dt h1
  refine J_skip ?_
  refine J_cond (b := decide (k = 3)) rfl (fun _ => ?_) (fun h2 => absurd h1 (df h2))
  refine J_seq ?_
  refine J_region ?_
  refine JL_pure (v := .int .i64 (1)) rfl (Pu.assign rfl) ?_
  refine JL_nil ?_
  refine J_ret ?_
  refine ⟨.int .i64 (1), [], Ret.one rfl (RV.tmp rfl), Sub.nil, ?_⟩
  exact ⟨by first | (simp_all [more]; done) | (congr 1; unfold more; simp_all; try omega), rfl⟩
 ·skip
  replace h1 := df h1
  refine J_cut (fun ρ M => ρ 0 = .int .i64 (k) ∧ ρ 1 = .int .i64 (j) ∧ ρ 4 = .int .i64 (0) ∧ ρ 5 = .bool ((decide (k = 5)) && (decide (j = 1))) ∧ M = []) ?_ ?_
  ·refine J_region ?_
   refine JL_pure (v := .int .i64 (k)) rfl (Pu.move rfl) ?_
   refine JL_pure (v := .bool (decide (k = 5))) rfl (Pu.eql rfl rfl) ?_
   refine JL_pure (v := .bool (decide (k = 5))) rfl (Pu.move rfl) ?_
   cases h3 : (decide (k = 5)) with
   | true =>
    replace h3 := dt h3
    refine JL_pure (v := .int .i64 (j)) rfl (Pu.move rfl) ?_
    refine JL_pure (v := .bool (decide (j = 1))) rfl (Pu.eql rfl rfl) ?_
    refine JL_pure (v := .bool (decide (j = 1))) rfl (Pu.pickT rfl rfl) ?_
    refine JL_pure (v := .bool (decide (j = 1))) rfl (Pu.assign rfl) ?_
    refine JL_nil ?_
    first | exact ⟨rfl, rfl, rfl, rfl, rfl⟩ | (exfalso; omega)
   | false =>
    replace h3 := df h3
    refine JL_skip rfl ?_
    refine JL_skip rfl ?_
    refine JL_pure (v := .bool (false)) rfl (Pu.pickF rfl rfl) ?_
    refine JL_pure (v := .bool (false)) rfl (Pu.assign rfl) ?_
    refine JL_nil ?_
    first | exact ⟨rfl, rfl, rfl, rfl, rfl⟩ | (exfalso; omega)
  ·rintro ρ4 _ ⟨e5, e6, e7, e8, rfl⟩
   obtain ⟨ρ9, rfl⟩ := reopen_ex (uc e5 (uc e6 (uc e7 (uc e8 un))))
   clear e5 e6 e7 e8
   refine J_cond (b := (decide (k = 5)) && (decide (j = 1))) rfl (fun h10 => ?_) (fun h10 => ?_)
   ·skip
    obtain ⟨h10a, h10b⟩ := andT h10
    replace h10a := dt h10a
    replace h10b := dt h10b
    refine J_skip ?_
    refine J_cond (b := (decide (k = 5)) && (decide (j = 1))) rfl (fun h11 => ?_) (fun h11 => ?_)
    ·skip
     obtain ⟨h11a, h11b⟩ := andT h11
     replace h11a := dt h11a
     replace h11b := dt h11b
     refine J_seq ?_
     refine J_region ?_
     refine JL_pure (v := .int .i64 (1)) rfl (Pu.assign rfl) ?_
     refine JL_nil ?_
     refine J_ret ?_
     refine ⟨.int .i64 (1), [], Ret.one rfl (RV.tmp rfl), Sub.nil, ?_⟩
     exact ⟨by first | (simp_all [more]; done) | (congr 1; unfold more; simp_all; try omega), rfl⟩
    ·skip
     refine J_cut (fun ρ M => ρ 4 = .int .i64 (0) ∧ ρ 20 = .bool ((decide (k = 12)) && (decide (1 < j))) ∧ M = []) ?_ ?_
     ·refine J_region ?_
      refine JL_pure (v := .int .i64 (k)) rfl (Pu.move rfl) ?_
      refine JL_pure (v := .bool (decide (k = 12))) rfl (Pu.eql rfl rfl) ?_
      refine JL_pure (v := .bool (decide (k = 12))) rfl (Pu.move rfl) ?_
      cases h12 : (decide (k = 12)) with
      | true =>
       replace h12 := dt h12
       refine JL_pure (v := .int .i64 (j)) rfl (Pu.move rfl) ?_
       refine JL_pure (v := .bool (decide (1 < j))) rfl (Pu.gtr rfl rfl) ?_
       refine JL_pure (v := .bool (decide (1 < j))) rfl (Pu.pickT rfl rfl) ?_
       refine JL_pure (v := .bool (decide (1 < j))) rfl (Pu.assign rfl) ?_
       refine JL_nil ?_
       first | exact ⟨rfl, rfl, rfl⟩ | (exfalso; omega)
      | false =>
       replace h12 := df h12
       refine JL_skip rfl ?_
       refine JL_skip rfl ?_
       refine JL_pure (v := .bool (false)) rfl (Pu.pickF rfl rfl) ?_
       refine JL_pure (v := .bool (false)) rfl (Pu.assign rfl) ?_
       refine JL_nil ?_
       first | exact ⟨rfl, rfl, rfl⟩ | (exfalso; omega)
     ·rintro ρ13 _ ⟨e14, e15, rfl⟩
      obtain ⟨ρ16, rfl⟩ := reopen_ex (uc e14 (uc e15 un))
      clear e14 e15
      refine J_cond (b := (decide (k = 12)) && (decide (1 < j))) rfl (fun h17 => ?_) (fun h17 => ?_)
      ·skip
       obtain ⟨h17a, h17b⟩ := andT h17
       replace h17a := dt h17a
       replace h17b := dt h17b
       refine J_seq ?_
       refine J_region ?_
       refine JL_pure (v := .int .i64 (2)) rfl (Pu.assign rfl) ?_
       refine JL_nil ?_
       refine J_ret ?_
       refine ⟨.int .i64 (2), [], Ret.one rfl (RV.tmp rfl), Sub.nil, ?_⟩
       exact ⟨by first | (simp_all [more]; done) | (congr 1; unfold more; simp_all; try omega), rfl⟩
      ·skip
       refine J_skip ?_
       refine J_seq ?_
       refine J_region ?_
       refine JL_pure (v := .int .i64 (0)) rfl (Pu.assign rfl) ?_
       refine JL_nil ?_
       refine J_ret ?_
       refine ⟨.int .i64 (0), [], Ret.one rfl (RV.tmp rfl), Sub.nil, ?_⟩
       exact ⟨by first | (simp_all [more]; done) | (congr 1; unfold more; simp_all; try omega), rfl⟩
   ·skip
    refine J_weak (N := fun ρ M => ρ 0 = .int .i64 (k) ∧ ρ 1 = .int .i64 (j) ∧ ρ 4 = .int .i64 (0) ∧ ρ 5 = .bool ((decide (k = 12)) && (decide (j = 1))) ∧ M = []) ?_ ?_
    ·refine J_region ?_
     refine JL_pure (v := .int .i64 (k)) rfl (Pu.move rfl) ?_
     refine JL_pure (v := .bool (decide (k = 12))) rfl (Pu.eql rfl rfl) ?_
     refine JL_pure (v := .bool (decide (k = 12))) rfl (Pu.move rfl) ?_
     cases h18 : (decide (k = 12)) with
     | true =>
      replace h18 := dt h18
      refine JL_pure (v := .int .i64 (j)) rfl (Pu.move rfl) ?_
      refine JL_pure (v := .bool (decide (j = 1))) rfl (Pu.eql rfl rfl) ?_
      refine JL_pure (v := .bool (decide (j = 1))) rfl (Pu.pickT rfl rfl) ?_
      refine JL_pure (v := .bool (decide (j = 1))) rfl (Pu.assign rfl) ?_
      refine JL_nil ?_
      first | exact ⟨rfl, rfl, rfl, rfl, rfl⟩ | (exfalso; omega)
     | false =>
      replace h18 := df h18
      refine JL_skip rfl ?_
      refine JL_skip rfl ?_
      refine JL_pure (v := .bool (false)) rfl (Pu.pickF rfl rfl) ?_
      refine JL_pure (v := .bool (false)) rfl (Pu.assign rfl) ?_
      refine JL_nil ?_
      first | exact ⟨rfl, rfl, rfl, rfl, rfl⟩ | (exfalso; omega)
    ·rintro ρ19 _ ⟨e20, e21, e22, e23, rfl⟩
     obtain ⟨ρ24, rfl⟩ := reopen_ex (uc e20 (uc e21 (uc e22 (uc e23 un))))
     clear e20 e21 e22 e23
     refine J_cond (b := (decide (k = 12)) && (decide (j = 1))) rfl (fun h25 => ?_) (fun h25 => ?_)
     ·skip
      obtain ⟨h25a, h25b⟩ := andT h25
      replace h25a := dt h25a
      replace h25b := dt h25b
      refine J_seq ?_
      refine J_region ?_
      refine JL_pure (v := .int .i64 (1)) rfl (Pu.assign rfl) ?_
      refine JL_nil ?_
      refine J_ret ?_
      refine ⟨.int .i64 (1), [], Ret.one rfl (RV.tmp rfl), Sub.nil, ?_⟩
      exact ⟨by first | (simp_all [more]; done) | (congr 1; unfold more; simp_all; try omega), rfl⟩
     ·skip
      refine J_cut (fun ρ M => ρ 4 = .int .i64 (0) ∧ ρ 20 = .bool ((decide (k = 12)) && (decide (1 < j))) ∧ M = []) ?_ ?_
      ·refine J_region ?_
       refine JL_pure (v := .int .i64 (k)) rfl (Pu.move rfl) ?_
       refine JL_pure (v := .bool (decide (k = 12))) rfl (Pu.eql rfl rfl) ?_
       refine JL_pure (v := .bool (decide (k = 12))) rfl (Pu.move rfl) ?_
       cases h26 : (decide (k = 12)) with
       | true =>
        replace h26 := dt h26
        refine JL_pure (v := .int .i64 (j)) rfl (Pu.move rfl) ?_
        refine JL_pure (v := .bool (decide (1 < j))) rfl (Pu.gtr rfl rfl) ?_
        refine JL_pure (v := .bool (decide (1 < j))) rfl (Pu.pickT rfl rfl) ?_
        refine JL_pure (v := .bool (decide (1 < j))) rfl (Pu.assign rfl) ?_
        refine JL_nil ?_
        first | exact ⟨rfl, rfl, rfl⟩ | (exfalso; omega)
       | false =>
        replace h26 := df h26
        refine JL_skip rfl ?_
        refine JL_skip rfl ?_
        refine JL_pure (v := .bool (false)) rfl (Pu.pickF rfl rfl) ?_
        refine JL_pure (v := .bool (false)) rfl (Pu.assign rfl) ?_
        refine JL_nil ?_
        first | exact ⟨rfl, rfl, rfl⟩ | (exfalso; omega)
      ·rintro ρ27 _ ⟨e28, e29, rfl⟩
       obtain ⟨ρ30, rfl⟩ := reopen_ex (uc e28 (uc e29 un))
       clear e28 e29
       refine J_cond (b := (decide (k = 12)) && (decide (1 < j))) rfl (fun h31 => ?_) (fun h31 => ?_)
       ·skip
        obtain ⟨h31a, h31b⟩ := andT h31
        replace h31a := dt h31a
        replace h31b := dt h31b
        refine J_seq ?_
        refine J_region ?_
        refine JL_pure (v := .int .i64 (2)) rfl (Pu.assign rfl) ?_
        refine JL_nil ?_
        refine J_ret ?_
        refine ⟨.int .i64 (2), [], Ret.one rfl (RV.tmp rfl), Sub.nil, ?_⟩
        exact ⟨by first | (simp_all [more]; done) | (congr 1; unfold more; simp_all; try omega), rfl⟩
       ·skip
        refine J_skip ?_
        refine J_seq ?_
        refine J_region ?_
        refine JL_pure (v := .int .i64 (0)) rfl (Pu.assign rfl) ?_
        refine JL_nil ?_
        refine J_ret ?_
        refine ⟨.int .i64 (0), [], Ret.one rfl (RV.tmp rfl), Sub.nil, ?_⟩
        exact ⟨by first | (simp_all [more]; done) | (congr 1; unfold more; simp_all; try omega), rfl⟩
theorem offR_ct (n lo hi : Int) (H : Heap) : CT Tryz.prog 44 ⟨[.int .i64 (n), .int .i64 (lo), .int .i64 (hi)]⟩ [] H (fun v N => v = .bool (decide (n < lo ∨ hi < n)) ∧ N = []) := by
 refine CT_enter Tryz.func44 rfl rfl ?_
 refine J_seq ?_
 refine J_region ?_
 refine JL_pure (v := .bool (false)) rfl (Pu.assign rfl) ?_
 refine JL_nil ?_
 refine J_cut (fun ρ M => ρ 6 = .bool ((decide (n < lo)) || (decide (hi < n))) ∧ M = []) ?_ ?_
 ·refine J_region ?_
  refine JL_pure (v := .int .i64 (n)) rfl (Pu.move rfl) ?_
  refine JL_pure (v := .int .i64 (lo)) rfl (Pu.move rfl) ?_
  refine JL_pure (v := .bool (decide (n < lo))) rfl (Pu.lss rfl rfl) ?_
  refine JL_pure (v := .bool (decide (n < lo))) rfl (Pu.move rfl) ?_
  cases h1 : (decide (n < lo)) with
  | true =>
   replace h1 := dt h1
   refine JL_skip rfl ?_
   refine JL_skip rfl ?_
   refine JL_skip rfl ?_
   refine JL_pure (v := .bool (true)) rfl (Pu.pickT rfl rfl) ?_
   refine JL_pure (v := .bool (true)) rfl (Pu.assign rfl) ?_
   refine JL_nil ?_
   first | exact ⟨rfl, rfl⟩ | (exfalso; omega)
  | false =>
   replace h1 := df h1
   refine JL_pure (v := .int .i64 (n)) rfl (Pu.move rfl) ?_
   refine JL_pure (v := .int .i64 (hi)) rfl (Pu.move rfl) ?_
   refine JL_pure (v := .bool (decide (hi < n))) rfl (Pu.gtr rfl rfl) ?_
   refine JL_pure (v := .bool (decide (hi < n))) rfl (Pu.pickF rfl rfl) ?_
   refine JL_pure (v := .bool (decide (hi < n))) rfl (Pu.assign rfl) ?_
   refine JL_nil ?_
   first | exact ⟨rfl, rfl⟩ | (exfalso; omega)
 ·rintro ρ2 _ ⟨e3, rfl⟩
  obtain ⟨ρ4, rfl⟩ := reopen_ex (uc e3 un)
  clear e3
  refine J_ret ?_
  refine ⟨.bool ((decide (n < lo)) || (decide (hi < n))), [], Ret.one rfl (RV.tmp rfl), Sub.nil, ?_⟩
  exact ⟨by simp, rfl⟩
theorem bindsR_ct : ∀ (p : Pt) (cs : List Value) (H : Heap), RP H cs p → binds p ≤ 1000000 → CT Tryz.prog 65 ⟨[.agg ⟨cs⟩]⟩ [] H (fun v N => v = .int .i64 (binds p : Int) ∧ N = []) := by
 intro p
 induction p using Pt.ind with
 | h kind num ref kids ih =>
 intro cs H hp hb
 obtain ⟨ks, rfl, hk, hn, hks⟩ := RP_mk.1 hp
 rw [binds] at hb ⊢
 refine CT_enter Tryz.func65 rfl rfl ?_
 refine J_seq ?_
 refine J_region ?_
 refine JL_run rfl (Runs_box (l := pkP (kind) (num) (ref) (ks)) rfl rfl fun b1 => ?_)
 refine JL_pure (v := .int .i64 (0)) rfl (Pu.assign rfl) ?_
 refine JL_nil ?_
 refine J_seq ?_
 refine J_seq ?_
 refine J_region ?_
 refine JL_pure (v := .pointer (some ⟨b1, 0, none⟩)) rfl (fa42_0 rfl rfl) ?_
 refine JL_run rfl (Pu_load1 ty3 rfl (At.bx 0 rfl) (pkP_0 ..) ?_)
 refine JL_pure (v := .bool (decide (kind = 1))) rfl (Pu.eql rfl rfl) ?_
 refine JL_nil ?_
 refine J_cond (b := decide (kind = 1)) rfl (fun h2 => ?_) (fun h2 => ?_)
 ·skip
  replace h2 := dt h2
  refine J_seq ?_
  refine J_region ?_
  refine JL_pure (v := .int .i64 (1)) rfl (Pu.assign rfl) ?_
  refine JL_nil ?_
  refine J_ret ?_
  refine ⟨.int .i64 (1), [], Ret.one rfl (RV.tmp rfl), Sub.nil, ?_⟩
  exact ⟨by rw [if_pos (by assumption)]; rfl, rfl⟩
 ·skip
  replace h2 := df h2
  refine J_skip ?_
  refine J_seq ?_
  refine J_region ?_
  refine JL_pure (v := .int .i64 (0)) rfl (Pu.assign rfl) ?_
  refine JL_nil ?_
  refine J_seq ?_
  refine J_seq ?_
  refine J_region ?_
  refine JL_pure (v := .int .i64 (0)) rfl (Pu.assign rfl) ?_
  refine JL_nil ?_
  refine J_block ?_
  refine J_loop (fun k ρ M => ∃ (j : Nat), ρ 1 = .pointer (some ⟨b1, 0, none⟩) ∧ ρ 2 = .int .i64 (0) ∧ ρ 3 = .int .i64 ((bindsL (kids.take j) : Int)) ∧ ρ 4 = .int .i64 ((j : Int)) ∧ Sub [[(b1, .cells ⟨pkP (kind) (num) (ref) (ks)⟩ 42 (0, 0))]] M ∧ j ≤ (kids).length ∧ k = (kids).length - j) _ ⟨0, rfl, rfl, rfl, rfl, (Sub.cons 0 rfl Sub.nil), Nat.zero_le _, rfl⟩ ?_
  rintro _ ρ3 _ ⟨j, e4, e5, e6, e7, hm8, hj, rfl⟩
  obtain ⟨ρ9, rfl⟩ := reopen_ex (uc e4 (uc e5 (uc e6 (uc e7 un))))
  clear e4 e5 e6 e7
  refine J_sub hm8 ?_
  have hlen := hks.le
  refine J_seq ?_
  refine J_seq ?_
  refine J_region ?_
  refine JL_pure (v := .int .i64 ((j : Int))) rfl (Pu.move rfl) ?_
  refine JL_pure (v := .pointer (some ⟨b1, 34, none⟩)) rfl (fa42_3 rfl rfl) ?_
  refine JL_run rfl (Pu_load1 ty40 rfl (At.bx 0 rfl) (pkP_34 ..) ?_)
  obtain ⟨a10, cap10, hv10⟩ := hks.sl
  have hle10 := hks.le
  refine JL_pure (v := .int .i64 (((kids).length : Int))) rfl (Pu.lenSl Tryz.runUnderlying40 hv10) ?_
  refine JL_pure (v := .bool (decide ((j : Int) < ((kids).length : Int)))) rfl (Pu.lss rfl rfl) ?_
  refine JL_nil ?_
  refine J_cond (b := decide ((j : Int) < ((kids).length : Int))) rfl (fun h11 => ?_) (fun h11 => ?_)
  ·skip
   replace h11 := dt h11
   have h11n : j < (kids).length := by omega
   have hm1 := binds_mem kids _ (List.getElem_mem h11n)
   have hm2 := bindsL_take kids _ h11n
   have hm3 := bindsL_take_le kids (j + 1)
   rw [if_neg (by assumption)] at hb
   refine J_skip ?_
   refine J_seq ?_
   refine J_block ?_
   refine J_region ?_
   refine JL_pure (v := .int .i64 ((bindsL (kids.take j) : Int))) rfl (Pu.move rfl) ?_
   refine JL_pure (v := .pointer (some ⟨b1, 34, none⟩)) rfl (fa42_3 rfl rfl) ?_
   refine JL_run rfl (Pu_load1 ty40 rfl (At.bx 0 rfl) (pkP_34 ..) ?_)
   refine JL_pure (v := .int .i64 ((j : Int))) rfl (Pu.move rfl) ?_
   obtain ⟨b12, o12, cap12, row12, T12, fr12, cs12, hv12, hb12, hs12, hE12⟩ := hks.get j (by first | assumption | omega | decide | simp)
   refine JL_pure (v := .pointer (some ⟨b12, o12 + j * 35, none⟩)) rfl (Pu.idx j Tryz.runUnderlying40 ty42 hv12 rfl rfl (by first | assumption | omega | decide | simp)) ?_
   refine JL_run rfl (Pu_load ty42 rfl (At.im hb12) hs12 ?_)
   refine JL_call rfl Tryz.call65 rfl (fun hin => ih _ (List.getElem_mem h11n) _ _ (RP.mono (Hle.hu _ _) hE12) (by omega)) rfl ?_
   rintro _ _ ⟨rfl, rfl⟩
   refine JL_pure (v := .int .i64 ((bindsL (kids.take j) : Int) + ((binds ((kids)[j]) : Int)))) rfl (Pu.add64 rfl rfl (by first | omega | (constructor <;> omega))) ?_
   refine JL_pure (v := .int .i64 ((bindsL (kids.take j) : Int) + ((binds ((kids)[j]) : Int)))) rfl (Pu.assign rfl) ?_
   refine JL_nil ?_
   refine J_region ?_
   refine JL_pure (v := .int .i64 ((j : Int))) rfl (Pu.move rfl) ?_
   refine JL_pure (v := .int .i64 (((j + 1 : Nat) : Int))) rfl (Pu.inc rfl rfl (by omega)) ?_
   refine JL_pure (v := .int .i64 (((j + 1 : Nat) : Int))) rfl (Pu.assign rfl) ?_
   refine JL_nil ?_
   refine ⟨_, ?_, (j + 1), rfl, rfl, (ieq rfl (by omega)), rfl, (Sub.cons 0 rfl Sub.nil), ?_, rfl⟩
   ·omega
   ·omega
  ·skip
   replace h11 := df h11
   have h11n : (kids).length ≤ j := by omega
   refine J_exit _ rfl ?_
   refine J_seq ?_
   refine J_region ?_
   refine JL_pure (v := .int .i64 ((bindsL (kids.take j) : Int))) rfl (Pu.move rfl) ?_
   refine JL_pure (v := .int .i64 ((bindsL (kids.take j) : Int))) rfl (Pu.assign rfl) ?_
   refine JL_nil ?_
   refine J_ret ?_
   refine ⟨.int .i64 ((bindsL (kids.take j) : Int)), [], Ret.one rfl (RV.tmp rfl), Sub.nil, ?_⟩
   exact ⟨by rw [if_neg (by assumption), List.take_of_length_le h11n], rfl⟩
theorem hasNum_ct (k : Int) (H : Heap) : CT Tryz.prog 96 ⟨[.int .i64 (k)]⟩ [] H (fun v N => v = .bool (hasNumB k) ∧ N = []) := by
 refine CT_enter Tryz.func96 rfl rfl ?_
 refine J_seq ?_
 refine J_region ?_
 refine JL_pure (v := .bool (false)) rfl (Pu.assign rfl) ?_
 refine JL_nil ?_
 refine J_cut (fun ρ M => ρ 2 = .bool ((((((decide (k = 1)) || (decide (k = 2))) || (decide (k = 7))) || (decide (k = 8))) || (decide (k = 10))) || (decide (k = 11))) ∧ M = []) ?_ ?_
 ·refine J_region ?_
  refine JL_pure (v := .int .i64 (k)) rfl (Pu.move rfl) ?_
  refine JL_pure (v := .bool (decide (k = 1))) rfl (Pu.eql rfl rfl) ?_
  refine JL_pure (v := .bool (decide (k = 1))) rfl (Pu.move rfl) ?_
  cases h1 : (decide (k = 1)) with
  | true =>
   replace h1 := dt h1
   refine JL_skip rfl ?_
   refine JL_skip rfl ?_
   refine JL_pure (v := .bool (true)) rfl (Pu.pickT rfl rfl) ?_
   refine JL_pure (v := .bool (true)) rfl (Pu.move rfl) ?_
   refine JL_skip rfl ?_
   refine JL_skip rfl ?_
   refine JL_pure (v := .bool (true)) rfl (Pu.pickT rfl rfl) ?_
   refine JL_pure (v := .bool (true)) rfl (Pu.move rfl) ?_
   refine JL_skip rfl ?_
   refine JL_skip rfl ?_
   refine JL_pure (v := .bool (true)) rfl (Pu.pickT rfl rfl) ?_
   refine JL_pure (v := .bool (true)) rfl (Pu.move rfl) ?_
   refine JL_skip rfl ?_
   refine JL_skip rfl ?_
   refine JL_pure (v := .bool (true)) rfl (Pu.pickT rfl rfl) ?_
   refine JL_pure (v := .bool (true)) rfl (Pu.move rfl) ?_
   refine JL_skip rfl ?_
   refine JL_skip rfl ?_
   refine JL_pure (v := .bool (true)) rfl (Pu.pickT rfl rfl) ?_
   refine JL_pure (v := .bool (true)) rfl (Pu.assign rfl) ?_
   refine JL_nil ?_
   first | exact ⟨rfl, rfl⟩ | (exfalso; omega)
  | false =>
   replace h1 := df h1
   refine JL_pure (v := .int .i64 (k)) rfl (Pu.move rfl) ?_
   refine JL_pure (v := .bool (decide (k = 2))) rfl (Pu.eql rfl rfl) ?_
   refine JL_pure (v := .bool (decide (k = 2))) rfl (Pu.pickF rfl rfl) ?_
   refine JL_pure (v := .bool (decide (k = 2))) rfl (Pu.move rfl) ?_
   cases h2 : (decide (k = 2)) with
   | true =>
    replace h2 := dt h2
    refine JL_skip rfl ?_
    refine JL_skip rfl ?_
    refine JL_pure (v := .bool (true)) rfl (Pu.pickT rfl rfl) ?_
    refine JL_pure (v := .bool (true)) rfl (Pu.move rfl) ?_
    refine JL_skip rfl ?_
    refine JL_skip rfl ?_
    refine JL_pure (v := .bool (true)) rfl (Pu.pickT rfl rfl) ?_
    refine JL_pure (v := .bool (true)) rfl (Pu.move rfl) ?_
    refine JL_skip rfl ?_
    refine JL_skip rfl ?_
    refine JL_pure (v := .bool (true)) rfl (Pu.pickT rfl rfl) ?_
    refine JL_pure (v := .bool (true)) rfl (Pu.move rfl) ?_
    refine JL_skip rfl ?_
    refine JL_skip rfl ?_
    refine JL_pure (v := .bool (true)) rfl (Pu.pickT rfl rfl) ?_
    refine JL_pure (v := .bool (true)) rfl (Pu.assign rfl) ?_
    refine JL_nil ?_
    first | exact ⟨rfl, rfl⟩ | (exfalso; omega)
   | false =>
    replace h2 := df h2
    refine JL_pure (v := .int .i64 (k)) rfl (Pu.move rfl) ?_
    refine JL_pure (v := .bool (decide (k = 7))) rfl (Pu.eql rfl rfl) ?_
    refine JL_pure (v := .bool (decide (k = 7))) rfl (Pu.pickF rfl rfl) ?_
    refine JL_pure (v := .bool (decide (k = 7))) rfl (Pu.move rfl) ?_
    cases h3 : (decide (k = 7)) with
    | true =>
     replace h3 := dt h3
     refine JL_skip rfl ?_
     refine JL_skip rfl ?_
     refine JL_pure (v := .bool (true)) rfl (Pu.pickT rfl rfl) ?_
     refine JL_pure (v := .bool (true)) rfl (Pu.move rfl) ?_
     refine JL_skip rfl ?_
     refine JL_skip rfl ?_
     refine JL_pure (v := .bool (true)) rfl (Pu.pickT rfl rfl) ?_
     refine JL_pure (v := .bool (true)) rfl (Pu.move rfl) ?_
     refine JL_skip rfl ?_
     refine JL_skip rfl ?_
     refine JL_pure (v := .bool (true)) rfl (Pu.pickT rfl rfl) ?_
     refine JL_pure (v := .bool (true)) rfl (Pu.assign rfl) ?_
     refine JL_nil ?_
     first | exact ⟨rfl, rfl⟩ | (exfalso; omega)
    | false =>
     replace h3 := df h3
     refine JL_pure (v := .int .i64 (k)) rfl (Pu.move rfl) ?_
     refine JL_pure (v := .bool (decide (k = 8))) rfl (Pu.eql rfl rfl) ?_
     refine JL_pure (v := .bool (decide (k = 8))) rfl (Pu.pickF rfl rfl) ?_
     refine JL_pure (v := .bool (decide (k = 8))) rfl (Pu.move rfl) ?_
     cases h4 : (decide (k = 8)) with
     | true =>
      replace h4 := dt h4
      refine JL_skip rfl ?_
      refine JL_skip rfl ?_
      refine JL_pure (v := .bool (true)) rfl (Pu.pickT rfl rfl) ?_
      refine JL_pure (v := .bool (true)) rfl (Pu.move rfl) ?_
      refine JL_skip rfl ?_
      refine JL_skip rfl ?_
      refine JL_pure (v := .bool (true)) rfl (Pu.pickT rfl rfl) ?_
      refine JL_pure (v := .bool (true)) rfl (Pu.assign rfl) ?_
      refine JL_nil ?_
      first | exact ⟨rfl, rfl⟩ | (exfalso; omega)
     | false =>
      replace h4 := df h4
      refine JL_pure (v := .int .i64 (k)) rfl (Pu.move rfl) ?_
      refine JL_pure (v := .bool (decide (k = 10))) rfl (Pu.eql rfl rfl) ?_
      refine JL_pure (v := .bool (decide (k = 10))) rfl (Pu.pickF rfl rfl) ?_
      refine JL_pure (v := .bool (decide (k = 10))) rfl (Pu.move rfl) ?_
      cases h5 : (decide (k = 10)) with
      | true =>
       replace h5 := dt h5
       refine JL_skip rfl ?_
       refine JL_skip rfl ?_
       refine JL_pure (v := .bool (true)) rfl (Pu.pickT rfl rfl) ?_
       refine JL_pure (v := .bool (true)) rfl (Pu.assign rfl) ?_
       refine JL_nil ?_
       first | exact ⟨rfl, rfl⟩ | (exfalso; omega)
      | false =>
       replace h5 := df h5
       refine JL_pure (v := .int .i64 (k)) rfl (Pu.move rfl) ?_
       refine JL_pure (v := .bool (decide (k = 11))) rfl (Pu.eql rfl rfl) ?_
       refine JL_pure (v := .bool (decide (k = 11))) rfl (Pu.pickF rfl rfl) ?_
       refine JL_pure (v := .bool (decide (k = 11))) rfl (Pu.assign rfl) ?_
       refine JL_nil ?_
       first | exact ⟨rfl, rfl⟩ | (exfalso; omega)
 ·rintro ρ6 _ ⟨e7, rfl⟩
  obtain ⟨ρ8, rfl⟩ := reopen_ex (uc e7 un)
  clear e7
  refine J_ret ?_
  refine ⟨.bool ((((((decide (k = 1)) || (decide (k = 2))) || (decide (k = 7))) || (decide (k = 8))) || (decide (k = 10))) || (decide (k = 11))), [], Ret.one rfl (RV.tmp rfl), Sub.nil, ?_⟩
  exact ⟨by simp_all [hasNumB], rfl⟩
theorem hasRef_ct (k : Int) (H : Heap) : CT Tryz.prog 97 ⟨[.int .i64 (k)]⟩ [] H (fun v N => v = .bool (hasRefB k) ∧ N = []) := by
 refine CT_enter Tryz.func97 rfl rfl ?_
 refine J_seq ?_
 refine J_region ?_
 refine JL_pure (v := .bool (false)) rfl (Pu.assign rfl) ?_
 refine JL_nil ?_
 refine J_cut (fun ρ M => ρ 2 = .bool ((((decide (k = 6)) || (decide (k = 8))) || (decide (k = 11))) || (decide (k = 12))) ∧ M = []) ?_ ?_
 ·refine J_region ?_
  refine JL_pure (v := .int .i64 (k)) rfl (Pu.move rfl) ?_
  refine JL_pure (v := .bool (decide (k = 6))) rfl (Pu.eql rfl rfl) ?_
  refine JL_pure (v := .bool (decide (k = 6))) rfl (Pu.move rfl) ?_
  cases h1 : (decide (k = 6)) with
  | true =>
   replace h1 := dt h1
   refine JL_skip rfl ?_
   refine JL_skip rfl ?_
   refine JL_pure (v := .bool (true)) rfl (Pu.pickT rfl rfl) ?_
   refine JL_pure (v := .bool (true)) rfl (Pu.move rfl) ?_
   refine JL_skip rfl ?_
   refine JL_skip rfl ?_
   refine JL_pure (v := .bool (true)) rfl (Pu.pickT rfl rfl) ?_
   refine JL_pure (v := .bool (true)) rfl (Pu.move rfl) ?_
   refine JL_skip rfl ?_
   refine JL_skip rfl ?_
   refine JL_pure (v := .bool (true)) rfl (Pu.pickT rfl rfl) ?_
   refine JL_pure (v := .bool (true)) rfl (Pu.assign rfl) ?_
   refine JL_nil ?_
   first | exact ⟨rfl, rfl⟩ | (exfalso; omega)
  | false =>
   replace h1 := df h1
   refine JL_pure (v := .int .i64 (k)) rfl (Pu.move rfl) ?_
   refine JL_pure (v := .bool (decide (k = 8))) rfl (Pu.eql rfl rfl) ?_
   refine JL_pure (v := .bool (decide (k = 8))) rfl (Pu.pickF rfl rfl) ?_
   refine JL_pure (v := .bool (decide (k = 8))) rfl (Pu.move rfl) ?_
   cases h2 : (decide (k = 8)) with
   | true =>
    replace h2 := dt h2
    refine JL_skip rfl ?_
    refine JL_skip rfl ?_
    refine JL_pure (v := .bool (true)) rfl (Pu.pickT rfl rfl) ?_
    refine JL_pure (v := .bool (true)) rfl (Pu.move rfl) ?_
    refine JL_skip rfl ?_
    refine JL_skip rfl ?_
    refine JL_pure (v := .bool (true)) rfl (Pu.pickT rfl rfl) ?_
    refine JL_pure (v := .bool (true)) rfl (Pu.assign rfl) ?_
    refine JL_nil ?_
    first | exact ⟨rfl, rfl⟩ | (exfalso; omega)
   | false =>
    replace h2 := df h2
    refine JL_pure (v := .int .i64 (k)) rfl (Pu.move rfl) ?_
    refine JL_pure (v := .bool (decide (k = 11))) rfl (Pu.eql rfl rfl) ?_
    refine JL_pure (v := .bool (decide (k = 11))) rfl (Pu.pickF rfl rfl) ?_
    refine JL_pure (v := .bool (decide (k = 11))) rfl (Pu.move rfl) ?_
    cases h3 : (decide (k = 11)) with
    | true =>
     replace h3 := dt h3
     refine JL_skip rfl ?_
     refine JL_skip rfl ?_
     refine JL_pure (v := .bool (true)) rfl (Pu.pickT rfl rfl) ?_
     refine JL_pure (v := .bool (true)) rfl (Pu.assign rfl) ?_
     refine JL_nil ?_
     first | exact ⟨rfl, rfl⟩ | (exfalso; omega)
    | false =>
     replace h3 := df h3
     refine JL_pure (v := .int .i64 (k)) rfl (Pu.move rfl) ?_
     refine JL_pure (v := .bool (decide (k = 12))) rfl (Pu.eql rfl rfl) ?_
     refine JL_pure (v := .bool (decide (k = 12))) rfl (Pu.pickF rfl rfl) ?_
     refine JL_pure (v := .bool (decide (k = 12))) rfl (Pu.assign rfl) ?_
     refine JL_nil ?_
     first | exact ⟨rfl, rfl⟩ | (exfalso; omega)
 ·rintro ρ4 _ ⟨e5, rfl⟩
  obtain ⟨ρ6, rfl⟩ := reopen_ex (uc e5 un)
  clear e5
  refine J_ret ?_
  refine ⟨.bool ((((decide (k = 6)) || (decide (k = 8))) || (decide (k = 11))) || (decide (k = 12))), [], Ret.one rfl (RV.tmp rfl), Sub.nil, ?_⟩
  exact ⟨by simp_all [hasRefB], rfl⟩
theorem kidsR_ct (k : Int) (H : Heap) : CT Tryz.prog 98 ⟨[.int .i64 (k)]⟩ [] H (fun v N => v = .tuple ⟨[.int .i64 (loK k), .int .i64 (hiK k)]⟩ ∧ N = []) := by
 refine CT_enter Tryz.func98 rfl rfl ?_
 refine J_seq ?_
 refine J_region ?_
 refine JL_pure (v := .int .i64 (0)) rfl (Pu.assign rfl) ?_
 refine JL_pure (v := .int .i64 (0)) rfl (Pu.assign rfl) ?_
 refine JL_nil ?_
 refine J_seq ?_
 refine J_seq ?_
 refine J_region ?_
 refine JL_pure (v := .int .i64 (k)) rfl (Pu.move rfl) ?_
 refine JL_nil ?_
 refine J_block ?_
 refine J_seq ?_
 refine J_seq ?_
 refine J_region ?_
 refine JL_pure (v := .bool (decide (k = 3))) rfl (Pu.eql rfl rfl) ?_
 refine JL_pure (v := .bool (decide (k = 3))) rfl (Pu.assign rfl) ?_
 refine JL_nil ?_
 refine J_cond (b := decide (k = 3)) rfl (fun h1 => ?_) (fun h1 => ?_)
 ·skip
  replace h1 := dt h1
  refine J_skip ?_
  refine J_cond (b := decide (k = 3)) rfl (fun _ => ?_) (fun h2 => absurd h1 (df h2))
  refine J_seq ?_
  refine J_region ?_
  refine JL_pure (v := .int .i64 (1)) rfl (Pu.assign rfl) ?_
  refine JL_pure (v := .int .i64 (1)) rfl (Pu.assign rfl) ?_
  refine JL_nil ?_
  refine J_ret ?_
  refine ⟨.tuple ⟨[.int .i64 (1), .int .i64 (1)]⟩, [], Ret.two rfl (RV.tmp rfl) (RV.tmp rfl), Sub.nil, ?_⟩
  exact ⟨by simp_all [loK, hiK], rfl⟩
 ·skip
  replace h1 := df h1
  refine J_seq ?_
  refine J_region ?_
  refine JL_pure (v := .bool (decide (k = 9))) rfl (Pu.eql rfl rfl) ?_
  refine JL_pure (v := .bool (decide (k = 9))) rfl (Pu.assign rfl) ?_
  refine JL_nil ?_
  refine J_cond (b := decide (k = 9)) rfl (fun h3 => ?_) (fun h3 => ?_)
  ·skip
   replace h3 := dt h3
   refine J_skip ?_
   refine J_cond (b := decide (k = 9)) rfl (fun _ => ?_) (fun h4 => absurd h3 (df h4))
   refine J_seq ?_
   refine J_region ?_
   refine JL_pure (v := .int .i64 (1)) rfl (Pu.assign rfl) ?_
   refine JL_pure (v := .int .i64 (1)) rfl (Pu.assign rfl) ?_
   refine JL_nil ?_
   refine J_ret ?_
   refine ⟨.tuple ⟨[.int .i64 (1), .int .i64 (1)]⟩, [], Ret.two rfl (RV.tmp rfl) (RV.tmp rfl), Sub.nil, ?_⟩
   exact ⟨by simp_all [loK, hiK], rfl⟩
  ·skip
   replace h3 := df h3
   refine J_region ?_
   refine JL_pure (v := .bool (decide (k = 11))) rfl (Pu.eql rfl rfl) ?_
   refine JL_pure (v := .bool (decide (k = 11))) rfl (Pu.assign rfl) ?_
   refine JL_nil ?_
   refine J_cond (b := decide (k = 11)) rfl (fun h5 => ?_) (fun h5 => ?_)
   ·skip
    replace h5 := dt h5
    refine J_seq ?_
    refine J_region ?_
    refine JL_pure (v := .int .i64 (1)) rfl (Pu.assign rfl) ?_
    refine JL_pure (v := .int .i64 (1)) rfl (Pu.assign rfl) ?_
    refine JL_nil ?_
    refine J_ret ?_
    refine ⟨.tuple ⟨[.int .i64 (1), .int .i64 (1)]⟩, [], Ret.two rfl (RV.tmp rfl) (RV.tmp rfl), Sub.nil, ?_⟩
    exact ⟨by simp_all [loK, hiK], rfl⟩
   ·skip
    replace h5 := df h5
    refine J_seq ?_
    refine J_seq ?_
    refine J_region ?_
    refine JL_pure (v := .bool (decide (k = 4))) rfl (Pu.eql rfl rfl) ?_
    refine JL_pure (v := .bool (decide (k = 4))) rfl (Pu.assign rfl) ?_
    refine JL_nil ?_
    refine J_cond (b := decide (k = 4)) rfl (fun h6 => ?_) (fun h6 => ?_)
    ·skip
     replace h6 := dt h6
     refine J_skip ?_
     refine J_cond (b := decide (k = 4)) rfl (fun _ => ?_) (fun h7 => absurd h6 (df h7))
     refine J_seq ?_
     refine J_region ?_
     refine JL_pure (v := .int .i64 (2)) rfl (Pu.assign rfl) ?_
     refine JL_pure (v := .int .i64 (2)) rfl (Pu.assign rfl) ?_
     refine JL_nil ?_
     refine J_ret ?_
     refine ⟨.tuple ⟨[.int .i64 (2), .int .i64 (2)]⟩, [], Ret.two rfl (RV.tmp rfl) (RV.tmp rfl), Sub.nil, ?_⟩
     exact ⟨by simp_all [loK, hiK], rfl⟩
    ·skip
     replace h6 := df h6
     refine J_seq ?_
     refine J_region ?_
     refine JL_pure (v := .bool (decide (k = 5))) rfl (Pu.eql rfl rfl) ?_
     refine JL_pure (v := .bool (decide (k = 5))) rfl (Pu.assign rfl) ?_
     refine JL_nil ?_
     refine J_cond (b := decide (k = 5)) rfl (fun h8 => ?_) (fun h8 => ?_)
     ·skip
      replace h8 := dt h8
      refine J_skip ?_
      refine J_cond (b := decide (k = 5)) rfl (fun _ => ?_) (fun h9 => absurd h8 (df h9))
      refine J_seq ?_
      refine J_region ?_
      refine JL_pure (v := .int .i64 (2)) rfl (Pu.assign rfl) ?_
      refine JL_pure (v := .int .i64 (2)) rfl (Pu.assign rfl) ?_
      refine JL_nil ?_
      refine J_ret ?_
      refine ⟨.tuple ⟨[.int .i64 (2), .int .i64 (2)]⟩, [], Ret.two rfl (RV.tmp rfl) (RV.tmp rfl), Sub.nil, ?_⟩
      exact ⟨by simp_all [loK, hiK], rfl⟩
     ·skip
      replace h8 := df h8
      refine J_region ?_
      refine JL_pure (v := .bool (decide (k = 10))) rfl (Pu.eql rfl rfl) ?_
      refine JL_pure (v := .bool (decide (k = 10))) rfl (Pu.assign rfl) ?_
      refine JL_nil ?_
      refine J_cond (b := decide (k = 10)) rfl (fun h10 => ?_) (fun h10 => ?_)
      ·skip
       replace h10 := dt h10
       refine J_seq ?_
       refine J_region ?_
       refine JL_pure (v := .int .i64 (2)) rfl (Pu.assign rfl) ?_
       refine JL_pure (v := .int .i64 (2)) rfl (Pu.assign rfl) ?_
       refine JL_nil ?_
       refine J_ret ?_
       refine ⟨.tuple ⟨[.int .i64 (2), .int .i64 (2)]⟩, [], Ret.two rfl (RV.tmp rfl) (RV.tmp rfl), Sub.nil, ?_⟩
       exact ⟨by simp_all [loK, hiK], rfl⟩
      ·skip
       replace h10 := df h10
       refine J_seq ?_
       refine J_region ?_
       refine JL_pure (v := .bool (decide (k = 8))) rfl (Pu.eql rfl rfl) ?_
       refine JL_pure (v := .bool (decide (k = 8))) rfl (Pu.assign rfl) ?_
       refine JL_nil ?_
       refine J_cond (b := decide (k = 8)) rfl (fun h11 => ?_) (fun h11 => ?_)
       ·skip
        replace h11 := dt h11
        refine J_seq ?_
        refine J_region ?_
        refine JL_pure (v := .int .i64 (0)) rfl (Pu.assign rfl) ?_
        refine JL_pure (v := .int .i64 (4)) rfl (Pu.assign rfl) ?_
        refine JL_nil ?_
        refine J_ret ?_
        refine ⟨.tuple ⟨[.int .i64 (0), .int .i64 (4)]⟩, [], Ret.two rfl (RV.tmp rfl) (RV.tmp rfl), Sub.nil, ?_⟩
        exact ⟨by simp_all [loK, hiK], rfl⟩
       ·skip
        replace h11 := df h11
        refine J_seq ?_
        refine J_region ?_
        refine JL_pure (v := .bool (decide (k = 12))) rfl (Pu.eql rfl rfl) ?_
        refine JL_pure (v := .bool (decide (k = 12))) rfl (Pu.assign rfl) ?_
        refine JL_nil ?_
        refine J_cond (b := decide (k = 12)) rfl (fun h12 => ?_) (fun h12 => ?_)
        ·skip
         replace h12 := dt h12
         refine J_seq ?_
         refine J_region ?_
         refine JL_pure (v := .int .i64 (2)) rfl (Pu.assign rfl) ?_
         refine JL_pure (v := .int .i64 (10)) rfl (Pu.assign rfl) ?_
         refine JL_nil ?_
         refine J_ret ?_
         refine ⟨.tuple ⟨[.int .i64 (2), .int .i64 (10)]⟩, [], Ret.two rfl (RV.tmp rfl) (RV.tmp rfl), Sub.nil, ?_⟩
         exact ⟨by simp_all [loK, hiK], rfl⟩
        ·skip
         replace h12 := df h12
         refine J_skip ?_
         refine J_seq ?_
         refine J_region ?_
         refine JL_pure (v := .int .i64 (0)) rfl (Pu.assign rfl) ?_
         refine JL_pure (v := .int .i64 (0)) rfl (Pu.assign rfl) ?_
         refine JL_nil ?_
         refine J_ret ?_
         refine ⟨.tuple ⟨[.int .i64 (0), .int .i64 (0)]⟩, [], Ret.two rfl (RV.tmp rfl) (RV.tmp rfl), Sub.nil, ?_⟩
         exact ⟨by simp_all [loK, hiK], rfl⟩
theorem fields_ct (k : Int) (H : Heap) : CT Tryz.prog 105 ⟨[.int .i64 (k)]⟩ [] H (fun v N => v = .agg ⟨[.bool (fN k), .bool (fR k), .bool (fC k)]⟩ ∧ N = []) := by
 refine CT_enter Tryz.func105 rfl rfl ?_
 refine J_seq ?_
 refine J_region ?_
 refine JL_run rfl (Runs_alloc (l := [.bool (false), .bool (false), .bool (false)]) Tryz.zeroValue136 rfl fun b1 => ?_)
 refine JL_nil ?_
 refine J_seq ?_
 refine J_region ?_
 refine JL_run rfl (Runs_alloc (l := [.bool (false), .bool (false), .bool (false)]) Tryz.zeroValue136 rfl fun b2 => ?_)
 refine JL_nil ?_
 refine J_seq ?_
 refine J_seq ?_
 refine J_region ?_
 refine JL_pure (v := .int .i64 (k)) rfl (Pu.move rfl) ?_
 refine JL_nil ?_
 refine J_block ?_
 refine J_seq ?_
 refine J_seq ?_
 refine J_region ?_
 refine JL_pure (v := .bool (decide (k = 1))) rfl (Pu.eql rfl rfl) ?_
 refine JL_pure (v := .bool (decide (k = 1))) rfl (Pu.assign rfl) ?_
 refine JL_nil ?_
 refine J_cond (b := decide (k = 1)) rfl (fun h3 => ?_) (fun h3 => ?_)
 ·skip
  replace h3 := dt h3
  refine J_skip ?_
  refine J_cond (b := decide (k = 1)) rfl (fun _ => ?_) (fun h4 => absurd h3 (df h4))
  refine J_region ?_
  refine JL_pure (v := .pointer (some ⟨b2, 0, none⟩)) rfl (Pu.idxA 0 Tryz.runUnderlying136 ty4 rfl rfl (by decide) (by decide)) ?_
  refine JL_run rfl (Runs_storeB 0 (vs := [.bool (true)]) (l := [.bool (true), .bool (false), .bool (false)]) ty4 rfl rfl rfl rfl rfl (okc_cons rfl okc_nil) rfl ?_)
  refine JL_nil ?_
  refine J_seq ?_
  refine J_region ?_
  refine JL_run rfl (Pu_load ty136 rfl (At.bx 0 rfl) rfl ?_)
  refine JL_run rfl (Runs_storeB 1 (vs := [.bool (true), .bool (false), .bool (false)]) (l := [.bool (true), .bool (false), .bool (false)]) ty136 rfl rfl rfl rfl rfl (okc_cons rfl (okc_cons rfl (okc_cons rfl okc_nil))) rfl ?_)
  refine JL_nil ?_
  refine J_ret ?_
  refine ⟨.agg ⟨[.bool (true), .bool (false), .bool (false)]⟩, [], Ret.one rfl (RV.cell ty136 rfl (At.bx 1 rfl) rfl), Sub.nil, ?_⟩
  exact ⟨by simp_all [fN, fR, fC], rfl⟩
 ·skip
  replace h3 := df h3
  refine J_seq ?_
  refine J_region ?_
  refine JL_pure (v := .bool (decide (k = 2))) rfl (Pu.eql rfl rfl) ?_
  refine JL_pure (v := .bool (decide (k = 2))) rfl (Pu.assign rfl) ?_
  refine JL_nil ?_
  refine J_cond (b := decide (k = 2)) rfl (fun h5 => ?_) (fun h5 => ?_)
  ·skip
   replace h5 := dt h5
   refine J_skip ?_
   refine J_cond (b := decide (k = 2)) rfl (fun _ => ?_) (fun h6 => absurd h5 (df h6))
   refine J_region ?_
   refine JL_pure (v := .pointer (some ⟨b2, 0, none⟩)) rfl (Pu.idxA 0 Tryz.runUnderlying136 ty4 rfl rfl (by decide) (by decide)) ?_
   refine JL_run rfl (Runs_storeB 0 (vs := [.bool (true)]) (l := [.bool (true), .bool (false), .bool (false)]) ty4 rfl rfl rfl rfl rfl (okc_cons rfl okc_nil) rfl ?_)
   refine JL_nil ?_
   refine J_seq ?_
   refine J_region ?_
   refine JL_run rfl (Pu_load ty136 rfl (At.bx 0 rfl) rfl ?_)
   refine JL_run rfl (Runs_storeB 1 (vs := [.bool (true), .bool (false), .bool (false)]) (l := [.bool (true), .bool (false), .bool (false)]) ty136 rfl rfl rfl rfl rfl (okc_cons rfl (okc_cons rfl (okc_cons rfl okc_nil))) rfl ?_)
   refine JL_nil ?_
   refine J_ret ?_
   refine ⟨.agg ⟨[.bool (true), .bool (false), .bool (false)]⟩, [], Ret.one rfl (RV.cell ty136 rfl (At.bx 1 rfl) rfl), Sub.nil, ?_⟩
   exact ⟨by simp_all [fN, fR, fC], rfl⟩
  ·skip
   replace h5 := df h5
   refine J_seq ?_
   refine J_region ?_
   refine JL_pure (v := .bool (decide (k = 7))) rfl (Pu.eql rfl rfl) ?_
   refine JL_pure (v := .bool (decide (k = 7))) rfl (Pu.assign rfl) ?_
   refine JL_nil ?_
   refine J_cond (b := decide (k = 7)) rfl (fun h7 => ?_) (fun h7 => ?_)
   ·skip
    replace h7 := dt h7
    refine J_skip ?_
    refine J_cond (b := decide (k = 7)) rfl (fun _ => ?_) (fun h8 => absurd h7 (df h8))
    refine J_region ?_
    refine JL_pure (v := .pointer (some ⟨b2, 0, none⟩)) rfl (Pu.idxA 0 Tryz.runUnderlying136 ty4 rfl rfl (by decide) (by decide)) ?_
    refine JL_run rfl (Runs_storeB 0 (vs := [.bool (true)]) (l := [.bool (true), .bool (false), .bool (false)]) ty4 rfl rfl rfl rfl rfl (okc_cons rfl okc_nil) rfl ?_)
    refine JL_nil ?_
    refine J_seq ?_
    refine J_region ?_
    refine JL_run rfl (Pu_load ty136 rfl (At.bx 0 rfl) rfl ?_)
    refine JL_run rfl (Runs_storeB 1 (vs := [.bool (true), .bool (false), .bool (false)]) (l := [.bool (true), .bool (false), .bool (false)]) ty136 rfl rfl rfl rfl rfl (okc_cons rfl (okc_cons rfl (okc_cons rfl okc_nil))) rfl ?_)
    refine JL_nil ?_
    refine J_ret ?_
    refine ⟨.agg ⟨[.bool (true), .bool (false), .bool (false)]⟩, [], Ret.one rfl (RV.cell ty136 rfl (At.bx 1 rfl) rfl), Sub.nil, ?_⟩
    exact ⟨by simp_all [fN, fR, fC], rfl⟩
   ·skip
    replace h7 := df h7
    refine J_region ?_
    refine JL_pure (v := .bool (decide (k = 10))) rfl (Pu.eql rfl rfl) ?_
    refine JL_pure (v := .bool (decide (k = 10))) rfl (Pu.assign rfl) ?_
    refine JL_nil ?_
    refine J_cond (b := decide (k = 10)) rfl (fun h9 => ?_) (fun h9 => ?_)
    ·skip
     replace h9 := dt h9
     refine J_region ?_
     refine JL_pure (v := .pointer (some ⟨b2, 0, none⟩)) rfl (Pu.idxA 0 Tryz.runUnderlying136 ty4 rfl rfl (by decide) (by decide)) ?_
     refine JL_run rfl (Runs_storeB 0 (vs := [.bool (true)]) (l := [.bool (true), .bool (false), .bool (false)]) ty4 rfl rfl rfl rfl rfl (okc_cons rfl okc_nil) rfl ?_)
     refine JL_nil ?_
     refine J_seq ?_
     refine J_region ?_
     refine JL_run rfl (Pu_load ty136 rfl (At.bx 0 rfl) rfl ?_)
     refine JL_run rfl (Runs_storeB 1 (vs := [.bool (true), .bool (false), .bool (false)]) (l := [.bool (true), .bool (false), .bool (false)]) ty136 rfl rfl rfl rfl rfl (okc_cons rfl (okc_cons rfl (okc_cons rfl okc_nil))) rfl ?_)
     refine JL_nil ?_
     refine J_ret ?_
     refine ⟨.agg ⟨[.bool (true), .bool (false), .bool (false)]⟩, [], Ret.one rfl (RV.cell ty136 rfl (At.bx 1 rfl) rfl), Sub.nil, ?_⟩
     exact ⟨by simp_all [fN, fR, fC], rfl⟩
    ·skip
     replace h9 := df h9
     refine J_seq ?_
     refine J_seq ?_
     refine J_region ?_
     refine JL_pure (v := .bool (decide (k = 8))) rfl (Pu.eql rfl rfl) ?_
     refine JL_pure (v := .bool (decide (k = 8))) rfl (Pu.assign rfl) ?_
     refine JL_nil ?_
     refine J_cond (b := decide (k = 8)) rfl (fun h10 => ?_) (fun h10 => ?_)
     ·skip
      replace h10 := dt h10
      refine J_skip ?_
      refine J_cond (b := decide (k = 8)) rfl (fun _ => ?_) (fun h11 => absurd h10 (df h11))
      refine J_region ?_
      refine JL_pure (v := .pointer (some ⟨b2, 0, none⟩)) rfl (Pu.idxA 0 Tryz.runUnderlying136 ty4 rfl rfl (by decide) (by decide)) ?_
      refine JL_run rfl (Runs_storeB 0 (vs := [.bool (true)]) (l := [.bool (true), .bool (false), .bool (false)]) ty4 rfl rfl rfl rfl rfl (okc_cons rfl okc_nil) rfl ?_)
      refine JL_pure (v := .pointer (some ⟨b2, 1, none⟩)) rfl (Pu.idxA 1 Tryz.runUnderlying136 ty4 rfl rfl (by decide) (by decide)) ?_
      refine JL_run rfl (Runs_storeB 0 (vs := [.bool (true)]) (l := [.bool (true), .bool (true), .bool (false)]) ty4 rfl rfl rfl rfl rfl (okc_cons rfl okc_nil) rfl ?_)
      refine JL_nil ?_
      refine J_seq ?_
      refine J_region ?_
      refine JL_run rfl (Pu_load ty136 rfl (At.bx 0 rfl) rfl ?_)
      refine JL_run rfl (Runs_storeB 1 (vs := [.bool (true), .bool (true), .bool (false)]) (l := [.bool (true), .bool (true), .bool (false)]) ty136 rfl rfl rfl rfl rfl (okc_cons rfl (okc_cons rfl (okc_cons rfl okc_nil))) rfl ?_)
      refine JL_nil ?_
      refine J_ret ?_
      refine ⟨.agg ⟨[.bool (true), .bool (true), .bool (false)]⟩, [], Ret.one rfl (RV.cell ty136 rfl (At.bx 1 rfl) rfl), Sub.nil, ?_⟩
      exact ⟨by simp_all [fN, fR, fC], rfl⟩
     ·skip
      replace h10 := df h10
      refine J_region ?_
      refine JL_pure (v := .bool (decide (k = 11))) rfl (Pu.eql rfl rfl) ?_
      refine JL_pure (v := .bool (decide (k = 11))) rfl (Pu.assign rfl) ?_
      refine JL_nil ?_
      refine J_cond (b := decide (k = 11)) rfl (fun h12 => ?_) (fun h12 => ?_)
      ·skip
       replace h12 := dt h12
       refine J_region ?_
       refine JL_pure (v := .pointer (some ⟨b2, 0, none⟩)) rfl (Pu.idxA 0 Tryz.runUnderlying136 ty4 rfl rfl (by decide) (by decide)) ?_
       refine JL_run rfl (Runs_storeB 0 (vs := [.bool (true)]) (l := [.bool (true), .bool (false), .bool (false)]) ty4 rfl rfl rfl rfl rfl (okc_cons rfl okc_nil) rfl ?_)
       refine JL_pure (v := .pointer (some ⟨b2, 1, none⟩)) rfl (Pu.idxA 1 Tryz.runUnderlying136 ty4 rfl rfl (by decide) (by decide)) ?_
       refine JL_run rfl (Runs_storeB 0 (vs := [.bool (true)]) (l := [.bool (true), .bool (true), .bool (false)]) ty4 rfl rfl rfl rfl rfl (okc_cons rfl okc_nil) rfl ?_)
       refine JL_nil ?_
       refine J_seq ?_
       refine J_region ?_
       refine JL_run rfl (Pu_load ty136 rfl (At.bx 0 rfl) rfl ?_)
       refine JL_run rfl (Runs_storeB 1 (vs := [.bool (true), .bool (true), .bool (false)]) (l := [.bool (true), .bool (true), .bool (false)]) ty136 rfl rfl rfl rfl rfl (okc_cons rfl (okc_cons rfl (okc_cons rfl okc_nil))) rfl ?_)
       refine JL_nil ?_
       refine J_ret ?_
       refine ⟨.agg ⟨[.bool (true), .bool (true), .bool (false)]⟩, [], Ret.one rfl (RV.cell ty136 rfl (At.bx 1 rfl) rfl), Sub.nil, ?_⟩
       exact ⟨by simp_all [fN, fR, fC], rfl⟩
      ·skip
       replace h12 := df h12
       refine J_seq ?_
       refine J_seq ?_
       refine J_region ?_
       refine JL_pure (v := .bool (decide (k = 6))) rfl (Pu.eql rfl rfl) ?_
       refine JL_pure (v := .bool (decide (k = 6))) rfl (Pu.assign rfl) ?_
       refine JL_nil ?_
       refine J_cond (b := decide (k = 6)) rfl (fun h13 => ?_) (fun h13 => ?_)
       ·skip
        replace h13 := dt h13
        refine J_skip ?_
        refine J_cond (b := decide (k = 6)) rfl (fun _ => ?_) (fun h14 => absurd h13 (df h14))
        refine J_region ?_
        refine JL_pure (v := .pointer (some ⟨b2, 1, none⟩)) rfl (Pu.idxA 1 Tryz.runUnderlying136 ty4 rfl rfl (by decide) (by decide)) ?_
        refine JL_run rfl (Runs_storeB 0 (vs := [.bool (true)]) (l := [.bool (false), .bool (true), .bool (false)]) ty4 rfl rfl rfl rfl rfl (okc_cons rfl okc_nil) rfl ?_)
        refine JL_nil ?_
        refine J_seq ?_
        refine J_region ?_
        refine JL_run rfl (Pu_load ty136 rfl (At.bx 0 rfl) rfl ?_)
        refine JL_run rfl (Runs_storeB 1 (vs := [.bool (false), .bool (true), .bool (false)]) (l := [.bool (false), .bool (true), .bool (false)]) ty136 rfl rfl rfl rfl rfl (okc_cons rfl (okc_cons rfl (okc_cons rfl okc_nil))) rfl ?_)
        refine JL_nil ?_
        refine J_ret ?_
        refine ⟨.agg ⟨[.bool (false), .bool (true), .bool (false)]⟩, [], Ret.one rfl (RV.cell ty136 rfl (At.bx 1 rfl) rfl), Sub.nil, ?_⟩
        exact ⟨by simp_all [fN, fR, fC], rfl⟩
       ·skip
        replace h13 := df h13
        refine J_region ?_
        refine JL_pure (v := .bool (decide (k = 12))) rfl (Pu.eql rfl rfl) ?_
        refine JL_pure (v := .bool (decide (k = 12))) rfl (Pu.assign rfl) ?_
        refine JL_nil ?_
        refine J_cond (b := decide (k = 12)) rfl (fun h15 => ?_) (fun h15 => ?_)
        ·skip
         replace h15 := dt h15
         refine J_region ?_
         refine JL_pure (v := .pointer (some ⟨b2, 1, none⟩)) rfl (Pu.idxA 1 Tryz.runUnderlying136 ty4 rfl rfl (by decide) (by decide)) ?_
         refine JL_run rfl (Runs_storeB 0 (vs := [.bool (true)]) (l := [.bool (false), .bool (true), .bool (false)]) ty4 rfl rfl rfl rfl rfl (okc_cons rfl okc_nil) rfl ?_)
         refine JL_nil ?_
         refine J_seq ?_
         refine J_region ?_
         refine JL_run rfl (Pu_load ty136 rfl (At.bx 0 rfl) rfl ?_)
         refine JL_run rfl (Runs_storeB 1 (vs := [.bool (false), .bool (true), .bool (false)]) (l := [.bool (false), .bool (true), .bool (false)]) ty136 rfl rfl rfl rfl rfl (okc_cons rfl (okc_cons rfl (okc_cons rfl okc_nil))) rfl ?_)
         refine JL_nil ?_
         refine J_ret ?_
         refine ⟨.agg ⟨[.bool (false), .bool (true), .bool (false)]⟩, [], Ret.one rfl (RV.cell ty136 rfl (At.bx 1 rfl) rfl), Sub.nil, ?_⟩
         exact ⟨by simp_all [fN, fR, fC], rfl⟩
        ·skip
         replace h15 := df h15
         refine J_seq ?_
         refine J_region ?_
         refine JL_pure (v := .bool (decide (k = 9))) rfl (Pu.eql rfl rfl) ?_
         refine JL_pure (v := .bool (decide (k = 9))) rfl (Pu.assign rfl) ?_
         refine JL_nil ?_
         refine J_cond (b := decide (k = 9)) rfl (fun h16 => ?_) (fun h16 => ?_)
         ·skip
          replace h16 := dt h16
          refine J_region ?_
          refine JL_pure (v := .pointer (some ⟨b2, 2, none⟩)) rfl (Pu.idxA 2 Tryz.runUnderlying136 ty4 rfl rfl (by decide) (by decide)) ?_
          refine JL_run rfl (Runs_storeB 0 (vs := [.bool (true)]) (l := [.bool (false), .bool (false), .bool (true)]) ty4 rfl rfl rfl rfl rfl (okc_cons rfl okc_nil) rfl ?_)
          refine JL_nil ?_
          refine J_seq ?_
          refine J_region ?_
          refine JL_run rfl (Pu_load ty136 rfl (At.bx 0 rfl) rfl ?_)
          refine JL_run rfl (Runs_storeB 1 (vs := [.bool (false), .bool (false), .bool (true)]) (l := [.bool (false), .bool (false), .bool (true)]) ty136 rfl rfl rfl rfl rfl (okc_cons rfl (okc_cons rfl (okc_cons rfl okc_nil))) rfl ?_)
          refine JL_nil ?_
          refine J_ret ?_
          refine ⟨.agg ⟨[.bool (false), .bool (false), .bool (true)]⟩, [], Ret.one rfl (RV.cell ty136 rfl (At.bx 1 rfl) rfl), Sub.nil, ?_⟩
          exact ⟨by simp_all [fN, fR, fC], rfl⟩
         ·skip
          replace h16 := df h16
          refine J_skip ?_
          refine J_seq ?_
          refine J_region ?_
          refine JL_run rfl (Pu_load ty136 rfl (At.bx 0 rfl) rfl ?_)
          refine JL_run rfl (Runs_storeB 1 (vs := [.bool (false), .bool (false), .bool (false)]) (l := [.bool (false), .bool (false), .bool (false)]) ty136 rfl rfl rfl rfl rfl (okc_cons rfl (okc_cons rfl (okc_cons rfl okc_nil))) rfl ?_)
          refine JL_nil ?_
          refine J_ret ?_
          refine ⟨.agg ⟨[.bool (false), .bool (false), .bool (false)]⟩, [], Ret.one rfl (RV.cell ty136 rfl (At.bx 1 rfl) rfl), Sub.nil, ?_⟩
          exact ⟨by simp_all [fN, fR, fC], rfl⟩
theorem patternFields_ct (k : Int) (H : Heap) : CT Tryz.prog 113 ⟨[.int .i64 (k)]⟩ [] H (fun v N => v = .agg ⟨[.bool (pfN k), .bool (pfR k), .bool false]⟩ ∧ N = []) := by
 refine CT_enter Tryz.func113 rfl rfl ?_
 refine J_seq ?_
 refine J_region ?_
 refine JL_run rfl (Runs_alloc (l := [.bool (false), .bool (false), .bool (false)]) Tryz.zeroValue136 rfl fun b1 => ?_)
 refine JL_nil ?_
 refine J_seq ?_
 refine J_seq ?_
 refine J_region ?_
 refine JL_pure (v := .int .i64 (k)) rfl (Pu.move rfl) ?_
 refine JL_nil ?_
 refine J_block ?_
 refine J_seq ?_
 refine J_region ?_
 refine JL_pure (v := .bool (decide (k = 2))) rfl (Pu.eql rfl rfl) ?_
 refine JL_pure (v := .bool (decide (k = 2))) rfl (Pu.assign rfl) ?_
 refine JL_nil ?_
 refine J_cond (b := decide (k = 2)) rfl (fun h2 => ?_) (fun h2 => ?_)
 ·skip
  replace h2 := dt h2
  refine J_seq ?_
  refine J_region ?_
  refine JL_pure (v := .agg ⟨[.bool (true), .bool (false), .bool (false)]⟩) rfl (Pu.build (pv := [(0, .bool (true)), (1, .bool (false)), (2, .bool (false))]) (l := [.bool (true), .bool (false), .bool (false)]) rfl (bld136_0_1_2 _ _ _)) ?_
  refine JL_run rfl (Runs_storeB 0 (vs := [.bool (true), .bool (false), .bool (false)]) (l := [.bool (true), .bool (false), .bool (false)]) ty136 rfl rfl rfl rfl rfl (okc_cons rfl (okc_cons rfl (okc_cons rfl okc_nil))) rfl ?_)
  refine JL_nil ?_
  refine J_ret ?_
  refine ⟨.agg ⟨[.bool (true), .bool (false), .bool (false)]⟩, [], Ret.one rfl (RV.cell ty136 rfl (At.bx 0 rfl) rfl), Sub.nil, ?_⟩
  exact ⟨by simp_all [pfN, pfR], rfl⟩
 ·skip
  replace h2 := df h2
  refine J_seq ?_
  refine J_region ?_
  refine JL_pure (v := .bool (decide (k = 3))) rfl (Pu.eql rfl rfl) ?_
  refine JL_pure (v := .bool (decide (k = 3))) rfl (Pu.assign rfl) ?_
  refine JL_nil ?_
  refine J_cond (b := decide (k = 3)) rfl (fun h3 => ?_) (fun h3 => ?_)
  ·skip
   replace h3 := dt h3
   refine J_seq ?_
   refine J_region ?_
   refine JL_pure (v := .agg ⟨[.bool (true), .bool (true), .bool (false)]⟩) rfl (Pu.build (pv := [(0, .bool (true)), (1, .bool (true)), (2, .bool (false))]) (l := [.bool (true), .bool (true), .bool (false)]) rfl (bld136_0_1_2 _ _ _)) ?_
   refine JL_run rfl (Runs_storeB 0 (vs := [.bool (true), .bool (true), .bool (false)]) (l := [.bool (true), .bool (true), .bool (false)]) ty136 rfl rfl rfl rfl rfl (okc_cons rfl (okc_cons rfl (okc_cons rfl okc_nil))) rfl ?_)
   refine JL_nil ?_
   refine J_ret ?_
   refine ⟨.agg ⟨[.bool (true), .bool (true), .bool (false)]⟩, [], Ret.one rfl (RV.cell ty136 rfl (At.bx 0 rfl) rfl), Sub.nil, ?_⟩
   exact ⟨by simp_all [pfN, pfR], rfl⟩
  ·skip
   replace h3 := df h3
   refine J_skip ?_
   refine J_seq ?_
   refine J_region ?_
   refine JL_pure (v := .agg ⟨[.bool (false), .bool (false), .bool (false)]⟩) rfl (Pu.build (pv := []) (l := [.bool (false), .bool (false), .bool (false)]) rfl bld136_) ?_
   refine JL_run rfl (Runs_storeB 0 (vs := [.bool (false), .bool (false), .bool (false)]) (l := [.bool (false), .bool (false), .bool (false)]) ty136 rfl rfl rfl rfl rfl (okc_cons rfl (okc_cons rfl (okc_cons rfl okc_nil))) rfl ?_)
   refine JL_nil ?_
   refine J_ret ?_
   refine ⟨.agg ⟨[.bool (false), .bool (false), .bool (false)]⟩, [], Ret.one rfl (RV.cell ty136 rfl (At.bx 0 rfl) rfl), Sub.nil, ?_⟩
   exact ⟨by simp_all [pfN, pfR], rfl⟩
theorem clash_ct (a b c : Bool) (n : Int) (r : Sm) (m : Int) (H : Heap) : CT Tryz.prog 104 ⟨[.agg ⟨[.bool (a), .bool (b), .bool (c)]⟩, .int .i64 (n), .agg ⟨sC (r)⟩, .int .i64 (m)]⟩ [] H (fun v N => v = .bool (clashB a b c n r m) ∧ N = []) := by
 refine CT_enter Tryz.func104 rfl rfl ?_
 refine J_seq ?_
 refine J_region ?_
 refine JL_run rfl (Runs_box (l := [.bool (a), .bool (b), .bool (c)]) rfl rfl fun b1 => ?_)
 refine JL_run rfl (Runs_box (l := sC (r)) rfl rfl fun b2 => ?_)
 refine JL_pure (v := .bool (false)) rfl (Pu.assign rfl) ?_
 refine JL_nil ?_
 refine J_seq ?_
 refine J_region ?_
 refine JL_pure (v := .int .i64 (n)) rfl (Pu.move rfl) ?_
 refine JL_pure (v := .bool (!decide (n = 0))) rfl (Pu.neq rfl rfl) ?_
 refine JL_run rfl (Pu_load ty23 rfl (At.bx 0 rfl) (sub_a rfl) ?_)
 refine JL_pure (v := .agg ⟨sC (zS)⟩) rfl (Pu.build (pv := []) (l := sC (zS)) rfl bld23_) ?_
 refine JL_pure (v := .bool (!decide (r = zS))) rfl (neqS rfl rfl) ?_
 refine JL_pure (v := .int .i64 (m)) rfl (Pu.move rfl) ?_
 refine JL_pure (v := .bool (decide (0 < m))) rfl (Pu.gtr rfl rfl) ?_
 refine JL_pure (v := .agg ⟨[.bool (!decide (n = 0)), .bool (!decide (r = zS)), .bool (decide (0 < m))]⟩) rfl (Pu.build (pv := [(0, .bool (!decide (n = 0))), (1, .bool (!decide (r = zS))), (2, .bool (decide (0 < m)))]) (l := [.bool (!decide (n = 0)), .bool (!decide (r = zS)), .bool (decide (0 < m))]) rfl (bld136_0_1_2 _ _ _)) ?_
 refine JL_run rfl (Runs_alloc (l := [.bool (false), .bool (false), .bool (false)]) Tryz.zeroValue136 rfl fun b3 => ?_)
 refine JL_run rfl (Runs_storeB 0 (vs := [.bool (!decide (n = 0)), .bool (!decide (r = zS)), .bool (decide (0 < m))]) (l := [.bool (!decide (n = 0)), .bool (!decide (r = zS)), .bool (decide (0 < m))]) ty136 rfl rfl rfl rfl rfl (okc_cons rfl (okc_cons rfl (okc_cons rfl okc_nil))) rfl ?_)
 refine JL_nil ?_
 refine J_seq ?_
 refine J_region ?_
 refine JL_run rfl (Pu_load ty136 rfl (At.bx 0 rfl) rfl ?_)
 refine JL_run rfl (Runs_alloc (l := [.bool (false), .bool (false), .bool (false)]) Tryz.zeroValue136 rfl fun b4 => ?_)
 refine JL_run rfl (Runs_storeB 0 (vs := [.bool (!decide (n = 0)), .bool (!decide (r = zS)), .bool (decide (0 < m))]) (l := [.bool (!decide (n = 0)), .bool (!decide (r = zS)), .bool (decide (0 < m))]) ty136 rfl rfl rfl rfl rfl (okc_cons rfl (okc_cons rfl (okc_cons rfl okc_nil))) rfl ?_)
 refine JL_nil ?_
 refine J_seq ?_
 refine J_seq ?_
 refine J_region ?_
 refine JL_pure (v := .int .i64 (0)) rfl (Pu.move rfl) ?_
 refine JL_nil ?_
 refine J_block ?_
 refine J_rounds 4 ?_
 refine JR_succ ?_
 refine J_seq ?_
 refine J_region ?_
 refine JL_pure (v := .bool (true)) rfl (show Pu _ _ _ (.bool (decide ((0 : Int) < 3))) from Pu.lss rfl rfl) ?_
 refine JL_nil ?_
 refine J_seq ?_
 refine J_cond (b := true) rfl (fun _ => ?_) (fun h => absurd h (by simp))
 refine J_skip ?_
 refine J_seq ?_
 refine J_block ?_
 refine J_seq ?_
 refine J_region ?_
 refine JL_pure (v := .int .i64 (0)) rfl (Pu.move rfl) ?_
 refine JL_pure (v := .int .i64 (0)) rfl (Pu.assign rfl) ?_
 refine JL_nil ?_
 refine J_weak (N := fun ρ M => ρ 4 = .pointer (some ⟨b1, 0, none⟩) ∧ ρ 8 = .bool (false) ∧ ρ 9 = .pointer (some ⟨b3, 0, none⟩) ∧ ρ 10 = .pointer (some ⟨b4, 0, none⟩) ∧ ρ 21 = .int .i64 (0) ∧ M = [[(b4, .cells ⟨[.bool ((!decide (n = 0)) && (a)), .bool (!decide (r = zS)), .bool (decide (0 < m))]⟩ 136 (0, 0))], [(b3, .cells ⟨[.bool (!decide (n = 0)), .bool (!decide (r = zS)), .bool (decide (0 < m))]⟩ 136 (0, 0))], [(b2, .cells ⟨sC (r)⟩ 23 (0, 0))], [(b1, .cells ⟨[.bool (a), .bool (b), .bool (c)]⟩ 136 (0, 0))]]) ?_ ?_
 ·refine J_region ?_
  refine JL_pure (v := .int .i64 (0)) rfl (Pu.move rfl) ?_
  refine JL_pure (v := .int .i64 (0)) rfl (Pu.move rfl) ?_
  refine JL_pure (v := .pointer (some ⟨b3, 0, none⟩)) rfl (Pu.idxA 0 Tryz.runUnderlying136 ty4 rfl rfl (by decide) (by decide)) ?_
  refine JL_run rfl (Pu_load1 ty4 rfl (At.bx 1 rfl) rfl ?_)
  refine JL_pure (v := .bool (!decide (n = 0))) rfl (Pu.move rfl) ?_
  cases h5 : (!decide (n = 0)) with
  | true =>
   replace h5 := nt h5
   replace h5 := df h5
   refine JL_pure (v := .int .i64 (0)) rfl (Pu.move rfl) ?_
   refine JL_pure (v := .pointer (some ⟨b1, 0, none⟩)) rfl (Pu.idxA 0 Tryz.runUnderlying136 ty4 rfl rfl (by decide) (by decide)) ?_
   refine JL_run rfl (Pu_load1 ty4 rfl (At.bx 3 rfl) rfl ?_)
   refine JL_pure (v := .bool (a)) rfl (Pu.pickT rfl rfl) ?_
   refine JL_pure (v := .pointer (some ⟨b4, 0, none⟩)) rfl (Pu.idxA 0 Tryz.runUnderlying136 ty4 rfl rfl (by decide) (by decide)) ?_
   refine JL_run rfl (Runs_storeB 0 (vs := [.bool (a)]) (l := [.bool (a), .bool (!decide (r = zS)), .bool (decide (0 < m))]) ty4 rfl rfl rfl rfl rfl (okc_cons rfl okc_nil) rfl ?_)
   refine JL_nil ?_
   first | exact ⟨rfl, rfl, rfl, rfl, rfl, rfl⟩ | (exfalso; omega)
  | false =>
   replace h5 := nf h5
   replace h5 := dt h5
   refine JL_skip rfl ?_
   refine JL_skip rfl ?_
   refine JL_skip rfl ?_
   refine JL_pure (v := .bool (false)) rfl (Pu.pickF rfl rfl) ?_
   refine JL_pure (v := .pointer (some ⟨b4, 0, none⟩)) rfl (Pu.idxA 0 Tryz.runUnderlying136 ty4 rfl rfl (by decide) (by decide)) ?_
   refine JL_run rfl (Runs_storeB 0 (vs := [.bool (false)]) (l := [.bool (false), .bool (!decide (r = zS)), .bool (decide (0 < m))]) ty4 rfl rfl rfl rfl rfl (okc_cons rfl okc_nil) rfl ?_)
   refine JL_nil ?_
   first | exact ⟨rfl, rfl, rfl, rfl, rfl, rfl⟩ | (exfalso; omega)
 ·rintro ρ6 _ ⟨e7, e8, e9, e10, e11, rfl⟩
  obtain ⟨ρ12, rfl⟩ := reopen_ex (uc e7 (uc e8 (uc e9 (uc e10 (uc e11 un)))))
  clear e7 e8 e9 e10 e11
  refine J_region ?_
  refine JL_pure (v := .int .i64 (1)) rfl (Pu.arith rfl rfl rfl) ?_
  refine JL_pure (v := .int .i64 (1)) rfl (Pu.move rfl) ?_
  refine JL_nil ?_
  refine JR_succ ?_
  refine J_seq ?_
  refine J_region ?_
  refine JL_pure (v := .bool (true)) rfl (show Pu _ _ _ (.bool (decide ((1 : Int) < 3))) from Pu.lss rfl rfl) ?_
  refine JL_nil ?_
  refine J_seq ?_
  refine J_cond (b := true) rfl (fun _ => ?_) (fun h => absurd h (by simp))
  refine J_skip ?_
  refine J_seq ?_
  refine J_block ?_
  refine J_seq ?_
  refine J_region ?_
  refine JL_pure (v := .int .i64 (1)) rfl (Pu.move rfl) ?_
  refine JL_pure (v := .int .i64 (1)) rfl (Pu.assign rfl) ?_
  refine JL_nil ?_
  refine J_weak (N := fun ρ M => ρ 4 = .pointer (some ⟨b1, 0, none⟩) ∧ ρ 8 = .bool (false) ∧ ρ 9 = .pointer (some ⟨b3, 0, none⟩) ∧ ρ 10 = .pointer (some ⟨b4, 0, none⟩) ∧ ρ 21 = .int .i64 (1) ∧ M = [[(b4, .cells ⟨[.bool ((!decide (n = 0)) && (a)), .bool ((!decide (r = zS)) && (b)), .bool (decide (0 < m))]⟩ 136 (0, 0))], [(b3, .cells ⟨[.bool (!decide (n = 0)), .bool (!decide (r = zS)), .bool (decide (0 < m))]⟩ 136 (0, 0))], [(b2, .cells ⟨sC (r)⟩ 23 (0, 0))], [(b1, .cells ⟨[.bool (a), .bool (b), .bool (c)]⟩ 136 (0, 0))]]) ?_ ?_
  ·refine J_region ?_
   refine JL_pure (v := .int .i64 (1)) rfl (Pu.move rfl) ?_
   refine JL_pure (v := .int .i64 (1)) rfl (Pu.move rfl) ?_
   refine JL_pure (v := .pointer (some ⟨b3, 1, none⟩)) rfl (Pu.idxA 1 Tryz.runUnderlying136 ty4 rfl rfl (by decide) (by decide)) ?_
   refine JL_run rfl (Pu_load1 ty4 rfl (At.bx 1 rfl) rfl ?_)
   refine JL_pure (v := .bool (!decide (r = zS))) rfl (Pu.move rfl) ?_
   cases h13 : (!decide (r = zS)) with
   | true =>
    replace h13 := nt h13
    replace h13 := df h13
    refine JL_pure (v := .int .i64 (1)) rfl (Pu.move rfl) ?_
    refine JL_pure (v := .pointer (some ⟨b1, 1, none⟩)) rfl (Pu.idxA 1 Tryz.runUnderlying136 ty4 rfl rfl (by decide) (by decide)) ?_
    refine JL_run rfl (Pu_load1 ty4 rfl (At.bx 3 rfl) rfl ?_)
    refine JL_pure (v := .bool (b)) rfl (Pu.pickT rfl rfl) ?_
    refine JL_pure (v := .pointer (some ⟨b4, 1, none⟩)) rfl (Pu.idxA 1 Tryz.runUnderlying136 ty4 rfl rfl (by decide) (by decide)) ?_
    refine JL_run rfl (Runs_storeB 0 (vs := [.bool (b)]) (l := [.bool ((!decide (n = 0)) && (a)), .bool (b), .bool (decide (0 < m))]) ty4 rfl rfl rfl rfl rfl (okc_cons rfl okc_nil) rfl ?_)
    refine JL_nil ?_
    first | exact ⟨rfl, rfl, rfl, rfl, rfl, rfl⟩ | (exfalso; omega)
   | false =>
    replace h13 := nf h13
    replace h13 := dt h13
    refine JL_skip rfl ?_
    refine JL_skip rfl ?_
    refine JL_skip rfl ?_
    refine JL_pure (v := .bool (false)) rfl (Pu.pickF rfl rfl) ?_
    refine JL_pure (v := .pointer (some ⟨b4, 1, none⟩)) rfl (Pu.idxA 1 Tryz.runUnderlying136 ty4 rfl rfl (by decide) (by decide)) ?_
    refine JL_run rfl (Runs_storeB 0 (vs := [.bool (false)]) (l := [.bool ((!decide (n = 0)) && (a)), .bool (false), .bool (decide (0 < m))]) ty4 rfl rfl rfl rfl rfl (okc_cons rfl okc_nil) rfl ?_)
    refine JL_nil ?_
    first | exact ⟨rfl, rfl, rfl, rfl, rfl, rfl⟩ | (exfalso; omega)
  ·rintro ρ14 _ ⟨e15, e16, e17, e18, e19, rfl⟩
   obtain ⟨ρ20, rfl⟩ := reopen_ex (uc e15 (uc e16 (uc e17 (uc e18 (uc e19 un)))))
   clear e15 e16 e17 e18 e19
   refine J_region ?_
   refine JL_pure (v := .int .i64 (2)) rfl (Pu.arith rfl rfl rfl) ?_
   refine JL_pure (v := .int .i64 (2)) rfl (Pu.move rfl) ?_
   refine JL_nil ?_
   refine JR_succ ?_
   refine J_seq ?_
   refine J_region ?_
   refine JL_pure (v := .bool (true)) rfl (show Pu _ _ _ (.bool (decide ((2 : Int) < 3))) from Pu.lss rfl rfl) ?_
   refine JL_nil ?_
   refine J_seq ?_
   refine J_cond (b := true) rfl (fun _ => ?_) (fun h => absurd h (by simp))
   refine J_skip ?_
   refine J_seq ?_
   refine J_block ?_
   refine J_seq ?_
   refine J_region ?_
   refine JL_pure (v := .int .i64 (2)) rfl (Pu.move rfl) ?_
   refine JL_pure (v := .int .i64 (2)) rfl (Pu.assign rfl) ?_
   refine JL_nil ?_
   refine J_weak (N := fun ρ M => ρ 4 = .pointer (some ⟨b1, 0, none⟩) ∧ ρ 8 = .bool (false) ∧ ρ 9 = .pointer (some ⟨b3, 0, none⟩) ∧ ρ 10 = .pointer (some ⟨b4, 0, none⟩) ∧ ρ 21 = .int .i64 (2) ∧ M = [[(b4, .cells ⟨[.bool ((!decide (n = 0)) && (a)), .bool ((!decide (r = zS)) && (b)), .bool ((decide (0 < m)) && (c))]⟩ 136 (0, 0))], [(b3, .cells ⟨[.bool (!decide (n = 0)), .bool (!decide (r = zS)), .bool (decide (0 < m))]⟩ 136 (0, 0))], [(b2, .cells ⟨sC (r)⟩ 23 (0, 0))], [(b1, .cells ⟨[.bool (a), .bool (b), .bool (c)]⟩ 136 (0, 0))]]) ?_ ?_
   ·refine J_region ?_
    refine JL_pure (v := .int .i64 (2)) rfl (Pu.move rfl) ?_
    refine JL_pure (v := .int .i64 (2)) rfl (Pu.move rfl) ?_
    refine JL_pure (v := .pointer (some ⟨b3, 2, none⟩)) rfl (Pu.idxA 2 Tryz.runUnderlying136 ty4 rfl rfl (by decide) (by decide)) ?_
    refine JL_run rfl (Pu_load1 ty4 rfl (At.bx 1 rfl) rfl ?_)
    refine JL_pure (v := .bool (decide (0 < m))) rfl (Pu.move rfl) ?_
    cases h21 : (decide (0 < m)) with
    | true =>
     replace h21 := dt h21
     refine JL_pure (v := .int .i64 (2)) rfl (Pu.move rfl) ?_
     refine JL_pure (v := .pointer (some ⟨b1, 2, none⟩)) rfl (Pu.idxA 2 Tryz.runUnderlying136 ty4 rfl rfl (by decide) (by decide)) ?_
     refine JL_run rfl (Pu_load1 ty4 rfl (At.bx 3 rfl) rfl ?_)
     refine JL_pure (v := .bool (c)) rfl (Pu.pickT rfl rfl) ?_
     refine JL_pure (v := .pointer (some ⟨b4, 2, none⟩)) rfl (Pu.idxA 2 Tryz.runUnderlying136 ty4 rfl rfl (by decide) (by decide)) ?_
     refine JL_run rfl (Runs_storeB 0 (vs := [.bool (c)]) (l := [.bool ((!decide (n = 0)) && (a)), .bool ((!decide (r = zS)) && (b)), .bool (c)]) ty4 rfl rfl rfl rfl rfl (okc_cons rfl okc_nil) rfl ?_)
     refine JL_nil ?_
     first | exact ⟨rfl, rfl, rfl, rfl, rfl, rfl⟩ | (exfalso; omega)
    | false =>
     replace h21 := df h21
     refine JL_skip rfl ?_
     refine JL_skip rfl ?_
     refine JL_skip rfl ?_
     refine JL_pure (v := .bool (false)) rfl (Pu.pickF rfl rfl) ?_
     refine JL_pure (v := .pointer (some ⟨b4, 2, none⟩)) rfl (Pu.idxA 2 Tryz.runUnderlying136 ty4 rfl rfl (by decide) (by decide)) ?_
     refine JL_run rfl (Runs_storeB 0 (vs := [.bool (false)]) (l := [.bool ((!decide (n = 0)) && (a)), .bool ((!decide (r = zS)) && (b)), .bool (false)]) ty4 rfl rfl rfl rfl rfl (okc_cons rfl okc_nil) rfl ?_)
     refine JL_nil ?_
     first | exact ⟨rfl, rfl, rfl, rfl, rfl, rfl⟩ | (exfalso; omega)
   ·rintro ρ22 _ ⟨e23, e24, e25, e26, e27, rfl⟩
    obtain ⟨ρ28, rfl⟩ := reopen_ex (uc e23 (uc e24 (uc e25 (uc e26 (uc e27 un)))))
    clear e23 e24 e25 e26 e27
    refine J_region ?_
    refine JL_pure (v := .int .i64 (3)) rfl (Pu.arith rfl rfl rfl) ?_
    refine JL_pure (v := .int .i64 (3)) rfl (Pu.move rfl) ?_
    refine JL_nil ?_
    refine JR_succ ?_
    refine J_seq ?_
    refine J_region ?_
    refine JL_pure (v := .bool (false)) rfl (show Pu _ _ _ (.bool (decide ((3 : Int) < 3))) from Pu.lss rfl rfl) ?_
    refine JL_nil ?_
    refine J_seq ?_
    refine J_cond (b := false) rfl (fun h => absurd h (by simp)) (fun _ => ?_)
    refine J_exit _ rfl ?_
    refine J_seq ?_
    refine J_region ?_
    refine JL_run rfl (Pu_load ty136 rfl (At.bx 0 rfl) rfl ?_)
    refine JL_run rfl (Pu_load ty136 rfl (At.bx 1 rfl) rfl ?_)
    refine JL_pure (v := .bool (!((((!decide (n = 0)) && (a)) == (!decide (n = 0))) && ((((!decide (r = zS)) && (b)) == (!decide (r = zS))) && (((decide (0 < m)) && (c)) == (decide (0 < m))))))) rfl (neqB3 rfl rfl) ?_
    refine JL_pure (v := .bool (!((((!decide (n = 0)) && (a)) == (!decide (n = 0))) && ((((!decide (r = zS)) && (b)) == (!decide (r = zS))) && (((decide (0 < m)) && (c)) == (decide (0 < m))))))) rfl (Pu.assign rfl) ?_
    refine JL_nil ?_
    refine J_ret ?_
    refine ⟨.bool (!((((!decide (n = 0)) && (a)) == (!decide (n = 0))) && ((((!decide (r = zS)) && (b)) == (!decide (r = zS))) && (((decide (0 < m)) && (c)) == (decide (0 < m)))))), [], Ret.one rfl (RV.tmp rfl), Sub.nil, ?_⟩
    exact ⟨by unfold clashB; congr 1; cases a <;> cases b <;> cases c <;> simp, rfl⟩
theorem kidsT_ct (k n : Int) (H : Heap) : CT Tryz.prog 106 ⟨[.int .i64 (k), .int .i64 (n)]⟩ [] H (fun v N => v = .bool (kidsB k n) ∧ N = []) := by
 refine CT_enter Tryz.func106 rfl rfl ?_
 refine J_seq ?_
 refine J_region ?_
 refine JL_pure (v := .bool (false)) rfl (Pu.assign rfl) ?_
 refine JL_nil ?_
 refine J_seq ?_
 refine J_seq ?_
 refine J_region ?_
 refine JL_pure (v := .int .i64 (k)) rfl (Pu.move rfl) ?_
 refine JL_nil ?_
 refine J_block ?_
 refine J_seq ?_
 refine J_seq ?_
 refine J_region ?_
 refine JL_pure (v := .bool (decide (k = 3))) rfl (Pu.eql rfl rfl) ?_
 refine JL_pure (v := .bool (decide (k = 3))) rfl (Pu.assign rfl) ?_
 refine JL_nil ?_
 refine J_cond (b := decide (k = 3)) rfl (fun h1 => ?_) (fun h1 => ?_)
 ·skip
  replace h1 := dt h1
  refine J_skip ?_
  refine J_cond (b := decide (k = 3)) rfl (fun _ => ?_) (fun h2 => absurd h1 (df h2))
  refine J_seq ?_
  refine J_region ?_
  refine JL_pure (v := .int .i64 (n)) rfl (Pu.move rfl) ?_
  refine JL_pure (v := .bool (decide (n = 1))) rfl (Pu.eql rfl rfl) ?_
  refine JL_pure (v := .bool (decide (n = 1))) rfl (Pu.assign rfl) ?_
  refine JL_nil ?_
  refine J_ret ?_
  refine ⟨.bool (decide (n = 1)), [], Ret.one rfl (RV.tmp rfl), Sub.nil, ?_⟩
  exact ⟨by simp_all [kidsB], rfl⟩
 ·skip
  replace h1 := df h1
  refine J_seq ?_
  refine J_region ?_
  refine JL_pure (v := .bool (decide (k = 9))) rfl (Pu.eql rfl rfl) ?_
  refine JL_pure (v := .bool (decide (k = 9))) rfl (Pu.assign rfl) ?_
  refine JL_nil ?_
  refine J_cond (b := decide (k = 9)) rfl (fun h3 => ?_) (fun h3 => ?_)
  ·skip
   replace h3 := dt h3
   refine J_skip ?_
   refine J_cond (b := decide (k = 9)) rfl (fun _ => ?_) (fun h4 => absurd h3 (df h4))
   refine J_seq ?_
   refine J_region ?_
   refine JL_pure (v := .int .i64 (n)) rfl (Pu.move rfl) ?_
   refine JL_pure (v := .bool (decide (n = 1))) rfl (Pu.eql rfl rfl) ?_
   refine JL_pure (v := .bool (decide (n = 1))) rfl (Pu.assign rfl) ?_
   refine JL_nil ?_
   refine J_ret ?_
   refine ⟨.bool (decide (n = 1)), [], Ret.one rfl (RV.tmp rfl), Sub.nil, ?_⟩
   exact ⟨by simp_all [kidsB], rfl⟩
  ·skip
   replace h3 := df h3
   refine J_region ?_
   refine JL_pure (v := .bool (decide (k = 11))) rfl (Pu.eql rfl rfl) ?_
   refine JL_pure (v := .bool (decide (k = 11))) rfl (Pu.assign rfl) ?_
   refine JL_nil ?_
   refine J_cond (b := decide (k = 11)) rfl (fun h5 => ?_) (fun h5 => ?_)
   ·skip
    replace h5 := dt h5
    refine J_seq ?_
    refine J_region ?_
    refine JL_pure (v := .int .i64 (n)) rfl (Pu.move rfl) ?_
    refine JL_pure (v := .bool (decide (n = 1))) rfl (Pu.eql rfl rfl) ?_
    refine JL_pure (v := .bool (decide (n = 1))) rfl (Pu.assign rfl) ?_
    refine JL_nil ?_
    refine J_ret ?_
    refine ⟨.bool (decide (n = 1)), [], Ret.one rfl (RV.tmp rfl), Sub.nil, ?_⟩
    exact ⟨by simp_all [kidsB], rfl⟩
   ·skip
    replace h5 := df h5
    refine J_seq ?_
    refine J_seq ?_
    refine J_region ?_
    refine JL_pure (v := .bool (decide (k = 4))) rfl (Pu.eql rfl rfl) ?_
    refine JL_pure (v := .bool (decide (k = 4))) rfl (Pu.assign rfl) ?_
    refine JL_nil ?_
    refine J_cond (b := decide (k = 4)) rfl (fun h6 => ?_) (fun h6 => ?_)
    ·skip
     replace h6 := dt h6
     refine J_skip ?_
     refine J_cond (b := decide (k = 4)) rfl (fun _ => ?_) (fun h7 => absurd h6 (df h7))
     refine J_seq ?_
     refine J_region ?_
     refine JL_pure (v := .int .i64 (n)) rfl (Pu.move rfl) ?_
     refine JL_pure (v := .bool (decide (n = 2))) rfl (Pu.eql rfl rfl) ?_
     refine JL_pure (v := .bool (decide (n = 2))) rfl (Pu.assign rfl) ?_
     refine JL_nil ?_
     refine J_ret ?_
     refine ⟨.bool (decide (n = 2)), [], Ret.one rfl (RV.tmp rfl), Sub.nil, ?_⟩
     exact ⟨by simp_all [kidsB], rfl⟩
    ·skip
     replace h6 := df h6
     refine J_seq ?_
     refine J_region ?_
     refine JL_pure (v := .bool (decide (k = 5))) rfl (Pu.eql rfl rfl) ?_
     refine JL_pure (v := .bool (decide (k = 5))) rfl (Pu.assign rfl) ?_
     refine JL_nil ?_
     refine J_cond (b := decide (k = 5)) rfl (fun h8 => ?_) (fun h8 => ?_)
     ·skip
      replace h8 := dt h8
      refine J_skip ?_
      refine J_cond (b := decide (k = 5)) rfl (fun _ => ?_) (fun h9 => absurd h8 (df h9))
      refine J_seq ?_
      refine J_region ?_
      refine JL_pure (v := .int .i64 (n)) rfl (Pu.move rfl) ?_
      refine JL_pure (v := .bool (decide (n = 2))) rfl (Pu.eql rfl rfl) ?_
      refine JL_pure (v := .bool (decide (n = 2))) rfl (Pu.assign rfl) ?_
      refine JL_nil ?_
      refine J_ret ?_
      refine ⟨.bool (decide (n = 2)), [], Ret.one rfl (RV.tmp rfl), Sub.nil, ?_⟩
      exact ⟨by simp_all [kidsB], rfl⟩
     ·skip
      replace h8 := df h8
      refine J_region ?_
      refine JL_pure (v := .bool (decide (k = 10))) rfl (Pu.eql rfl rfl) ?_
      refine JL_pure (v := .bool (decide (k = 10))) rfl (Pu.assign rfl) ?_
      refine JL_nil ?_
      refine J_cond (b := decide (k = 10)) rfl (fun h10 => ?_) (fun h10 => ?_)
      ·skip
       replace h10 := dt h10
       refine J_seq ?_
       refine J_region ?_
       refine JL_pure (v := .int .i64 (n)) rfl (Pu.move rfl) ?_
       refine JL_pure (v := .bool (decide (n = 2))) rfl (Pu.eql rfl rfl) ?_
       refine JL_pure (v := .bool (decide (n = 2))) rfl (Pu.assign rfl) ?_
       refine JL_nil ?_
       refine J_ret ?_
       refine ⟨.bool (decide (n = 2)), [], Ret.one rfl (RV.tmp rfl), Sub.nil, ?_⟩
       exact ⟨by simp_all [kidsB], rfl⟩
      ·skip
       replace h10 := df h10
       refine J_seq ?_
       refine J_region ?_
       refine JL_pure (v := .bool (decide (k = 8))) rfl (Pu.eql rfl rfl) ?_
       refine JL_pure (v := .bool (decide (k = 8))) rfl (Pu.assign rfl) ?_
       refine JL_nil ?_
       refine J_cond (b := decide (k = 8)) rfl (fun h11 => ?_) (fun h11 => ?_)
       ·skip
        replace h11 := dt h11
        refine J_seq ?_
        refine J_region ?_
        refine JL_pure (v := .int .i64 (n)) rfl (Pu.move rfl) ?_
        refine JL_pure (v := .bool (decide (n ≤ 4))) rfl (Pu.leq rfl rfl) ?_
        refine JL_pure (v := .bool (decide (n ≤ 4))) rfl (Pu.assign rfl) ?_
        refine JL_nil ?_
        refine J_ret ?_
        refine ⟨.bool (decide (n ≤ 4)), [], Ret.one rfl (RV.tmp rfl), Sub.nil, ?_⟩
        exact ⟨by simp_all [kidsB], rfl⟩
       ·skip
        replace h11 := df h11
        refine J_seq ?_
        refine J_region ?_
        refine JL_pure (v := .bool (decide (k = 12))) rfl (Pu.eql rfl rfl) ?_
        refine JL_pure (v := .bool (decide (k = 12))) rfl (Pu.assign rfl) ?_
        refine JL_nil ?_
        refine J_cond (b := decide (k = 12)) rfl (fun h12 => ?_) (fun h12 => ?_)
        ·skip
         replace h12 := dt h12
         refine J_seq ?_
         refine J_region ?_
         refine JL_pure (v := .int .i64 (n)) rfl (Pu.move rfl) ?_
         refine JL_call rfl Tryz.call49 rfl (fun hin => off_ct _ _ _ _) rfl ?_
         rintro _ _ ⟨rfl, rfl⟩
         refine JL_pure (v := .bool (!(decide (n < 2 ∨ 10 < n)))) rfl (Pu.not rfl) ?_
         refine JL_pure (v := .bool (!(decide (n < 2 ∨ 10 < n)))) rfl (Pu.assign rfl) ?_
         refine JL_nil ?_
         refine J_ret ?_
         refine ⟨.bool (!(decide (n < 2 ∨ 10 < n))), [], Ret.one rfl (RV.tmp rfl), Sub.nil, ?_⟩
         exact ⟨by simp_all [kidsB], rfl⟩
        ·skip
         replace h12 := df h12
         refine J_skip ?_
         refine J_seq ?_
         refine J_region ?_
         refine JL_pure (v := .int .i64 (n)) rfl (Pu.move rfl) ?_
         refine JL_pure (v := .bool (decide (n = 0))) rfl (Pu.eql rfl rfl) ?_
         refine JL_pure (v := .bool (decide (n = 0))) rfl (Pu.assign rfl) ?_
         refine JL_nil ?_
         refine J_ret ?_
         refine ⟨.bool (decide (n = 0)), [], Ret.one rfl (RV.tmp rfl), Sub.nil, ?_⟩
         exact ⟨by simp_all [kidsB], rfl⟩
end Go.Proofs.YtbfjkdhfelmioaaGreat.Hs
/-! Walks, printed by a program of this session's own (gen.py). -/
namespace Go.Proofs.YtbfjkdhfelmioaaGreat.Hs
open Go Go.Proofs
set_option maxRecDepth 100000
set_option linter.unusedVariables false
set_option linter.unusedSimpArgs false
attribute [local irreducible] JL J CT wlo
theorem idxI_ct (g : Nat) (fs cv : List Value) (hcall : ∀ args w, (callFunc g args).run Tryz.prog w = .ok (.enter g args) w) (pr : Int → Bool) (l : List Int) (v : Value) (H : Heap) (hl : rdS RI 1 H v l) (hg : ∀ x ∈ l, ∀ h, Hle H h → CT Tryz.prog g ⟨fs ++ [.int .i64 x] ++ cv⟩ [] h (fun v N => v = .bool (pr x) ∧ N = [])) : CT Tryz.prog 102 ⟨[v, .func (.func g) ⟨fs⟩ ⟨cv⟩]⟩ [] H (fun v N => v = .int .i64 (fstI pr l 0) ∧ N = []) := by
 refine CT_enter Tryz.func102 rfl rfl ?_
 refine J_seq ?_
 refine J_region ?_
 refine JL_pure (v := .int .i64 (0)) rfl (Pu.assign rfl) ?_
 refine JL_nil ?_
 refine J_seq ?_
 refine J_seq ?_
 refine J_region ?_
 refine JL_pure (v := v) rfl (Pu.move rfl) ?_
 obtain ⟨a1, cap1, hv1⟩ := hl.sl
 have hle1 := hl.le
 refine JL_pure (v := .int .i64 (((l).length : Int))) rfl (Pu.lenSl Tryz.runUnderlying49 hv1) ?_
 refine JL_pure (v := .int .i64 (0)) rfl (Pu.move rfl) ?_
 refine JL_nil ?_
 refine J_block ?_
 refine J_loop (fun k ρ M => ∃ (j : Nat), ρ 0 = v ∧ ρ 1 = .func (.func g) ⟨fs⟩ ⟨cv⟩ ∧ ρ 4 = .int .i64 (0) ∧ ρ 7 = .int .i64 (((l).length : Int)) ∧ ρ 8 = .int .i64 ((j : Int)) ∧ Sub [] M ∧ j ≤ (l).length ∧ fstI pr (l.drop j) j = fstI pr l 0 ∧ k = (l).length - j) _ ⟨0, rfl, rfl, rfl, rfl, rfl, Sub.nil, Nat.zero_le _, rfl, rfl⟩ ?_
 rintro _ ρ2 _ ⟨j, e3, e4, e5, e6, e7, hm8, hj, hinv, rfl⟩
 obtain ⟨ρ9, rfl⟩ := reopen_ex (uc e3 (uc e4 (uc e5 (uc e6 (uc e7 un)))))
 clear e3 e4 e5 e6 e7
 refine J_sub hm8 ?_
 refine J_seq ?_
 refine J_region ?_
 refine JL_pure (v := .bool (decide ((j : Int) < ((l).length : Int)))) rfl (Pu.lss rfl rfl) ?_
 refine JL_nil ?_
 refine J_seq ?_
 refine J_cond (b := decide ((j : Int) < ((l).length : Int))) rfl (fun h10 => ?_) (fun h10 => ?_)
 ·skip
  replace h10 := dt h10
  have h10n : j < (l).length := by omega
  have hlenl := hl.le
  refine J_skip ?_
  refine J_seq ?_
  refine J_block ?_
  refine J_seq ?_
  refine J_region ?_
  refine JL_pure (v := .int .i64 ((j : Int))) rfl (Pu.move rfl) ?_
  refine JL_pure (v := .int .i64 ((j : Int))) rfl (Pu.assign rfl) ?_
  refine JL_nil ?_
  refine J_seq ?_
  refine J_region ?_
  refine JL_pure (v := .func (.func g) ⟨fs⟩ ⟨cv⟩) rfl (Pu.move rfl) ?_
  refine JL_pure (v := v) rfl (Pu.move rfl) ?_
  refine JL_pure (v := .int .i64 ((j : Int))) rfl (Pu.move rfl) ?_
  obtain ⟨b11, o11, cap11, row11, T11, fr11, cs11, hv11, hb11, hs11, hE11⟩ := hl.get j (by first | assumption | omega | decide | simp)
  refine JL_pure (v := .pointer (some ⟨b11, o11 + j * 1, none⟩)) rfl (Pu.idx j Tryz.runUnderlying49 ty3 hv11 rfl rfl (by first | assumption | omega | decide | simp)) ?_
  refine JL_run rfl (Pu_load1 ty3 rfl (At.im hb11) (sub_one ((show cs11 = [Value.int .i64 ((l)[j])] from hE11) ▸ hs11)) ?_)
  refine JL_call rfl hcall rfl (fun hin => hg _ (List.getElem_mem h10n) _ (Hle.hu _ _)) rfl ?_
  rintro _ _ ⟨rfl, rfl⟩
  refine JL_nil ?_
  refine J_cond (b := pr ((l)[j])) rfl (fun h12 => ?_) (fun h12 => ?_)
  ·skip
   refine J_seq ?_
   refine J_region ?_
   refine JL_pure (v := .int .i64 ((j : Int))) rfl (Pu.move rfl) ?_
   refine JL_pure (v := .int .i64 ((j : Int))) rfl (Pu.assign rfl) ?_
   refine JL_nil ?_
   refine J_ret ?_
   refine ⟨.int .i64 ((j : Int)), [], Ret.one rfl (RV.tmp rfl), Sub.nil, ?_⟩
   exact ⟨by rw [← hinv, dropc h10n, fstI, if_pos h12], rfl⟩
  ·skip
   refine J_skip ?_
   refine J_region ?_
   refine JL_pure (v := .int .i64 (((j + 1 : Nat) : Int))) rfl (Pu.inc rfl rfl (by omega)) ?_
   refine JL_pure (v := .int .i64 (((j + 1 : Nat) : Int))) rfl (Pu.move rfl) ?_
   refine JL_nil ?_
   refine ⟨_, ?_, (j + 1), rfl, rfl, rfl, rfl, rfl, Sub.nil, ?_, ?_, rfl⟩
   ·omega
   ·omega
   ·rw [dropc h10n, fstI, if_neg (by simp [h12])] at hinv; exact hinv
 ·skip
  replace h10 := df h10
  have h10n : (l).length ≤ j := by omega
  refine J_exit _ rfl ?_
  refine J_seq ?_
  refine J_region ?_
  refine JL_pure (v := .int .i64 (-1)) rfl (Pu.assign rfl) ?_
  refine JL_nil ?_
  refine J_ret ?_
  refine ⟨.int .i64 (-1), [], Ret.one rfl (RV.tmp rfl), Sub.nil, ?_⟩
  exact ⟨by rw [← hinv, dropn h10n]; rfl, rfl⟩
theorem containsI_ct (g : Nat) (fs cv : List Value) (hcall : ∀ args w, (callFunc g args).run Tryz.prog w = .ok (.enter g args) w) (pr : Int → Bool) (l : List Int) (v : Value) (H : Heap) (hl : rdS RI 1 H v l) (hg : ∀ x ∈ l, ∀ h, Hle H h → CT Tryz.prog g ⟨fs ++ [.int .i64 x] ++ cv⟩ [] h (fun v N => v = .bool (pr x) ∧ N = [])) : CT Tryz.prog 84 ⟨[v, .func (.func g) ⟨fs⟩ ⟨cv⟩]⟩ [] H (fun v N => v = .bool (l.any pr) ∧ N = []) := by
 refine CT_enter Tryz.func84 rfl rfl ?_
 refine J_seq ?_
 refine J_region ?_
 refine JL_pure (v := .bool (false)) rfl (Pu.assign rfl) ?_
 refine JL_nil ?_
 refine J_seq ?_
 refine J_region ?_
 refine JL_pure (v := v) rfl (Pu.move rfl) ?_
 refine JL_pure (v := .func (.func g) ⟨fs⟩ ⟨cv⟩) rfl (Pu.move rfl) ?_
 refine JL_call rfl Tryz.call102 rfl (fun hin => idxI_ct g fs cv hcall pr _ _ _ (RIs.mono (Hle.hu _ _) hl) (fun x hx h hh => hg x hx h (Hle.trans (Hle.hu _ _) hh))) rfl ?_
 rintro _ _ ⟨rfl, rfl⟩
 refine JL_pure (v := .bool (decide (0 ≤ fstI pr l 0))) rfl (Pu.geq rfl rfl) ?_
 refine JL_pure (v := .bool (decide (0 ≤ fstI pr l 0))) rfl (Pu.assign rfl) ?_
 refine JL_nil ?_
 refine J_ret ?_
 refine ⟨.bool (decide (0 ≤ fstI pr l 0)), [], Ret.one rfl (RV.tmp rfl), Sub.nil, ?_⟩
 exact ⟨by rw [← fstI_any pr l 0], rfl⟩
theorem every1_ct (g : Nat) (fs cv : List Value) (hcall : ∀ args w, (callFunc g args).run Tryz.prog w = .ok (.enter g args) w) (pr : Int → Bool) (x : Int) (H : Heap) (bP : Nat) (hP : H bP = some (.cells ⟨[.func (.func g) ⟨fs⟩ ⟨cv⟩]⟩ 83 (0, 0))) (hg : ∀ h, Hle H h → CT Tryz.prog g ⟨fs ++ [.int .i64 x] ++ cv⟩ [] h (fun v N => v = .bool (pr x) ∧ N = [])) : CT Tryz.prog 85 ⟨[.int .i64 (x), .pointer (some ⟨bP, 0, none⟩)]⟩ [] H (fun v N => v = .bool (!pr x) ∧ N = []) := by
 refine CT_enter Tryz.func85 rfl rfl ?_
 refine J_seq ?_
 refine J_region ?_
 refine JL_pure (v := .bool (false)) rfl (Pu.assign rfl) ?_
 refine JL_nil ?_
 refine J_seq ?_
 refine J_region ?_
 refine JL_run rfl (Pu_load1 ty83 rfl (At.im hP) rfl ?_)
 refine JL_pure (v := .int .i64 (x)) rfl (Pu.move rfl) ?_
 refine JL_call rfl hcall rfl (fun hin => hg _ (Hle.hu _ _)) rfl ?_
 rintro _ _ ⟨rfl, rfl⟩
 refine JL_pure (v := .bool (!(pr (x)))) rfl (Pu.not rfl) ?_
 refine JL_pure (v := .bool (!(pr (x)))) rfl (Pu.assign rfl) ?_
 refine JL_nil ?_
 refine J_ret ?_
 refine ⟨.bool (!(pr (x))), [], Ret.one rfl (RV.tmp rfl), Sub.nil, ?_⟩
 exact ⟨rfl, rfl⟩
theorem every_ct (g : Nat) (fs cv : List Value) (hcall : ∀ args w, (callFunc g args).run Tryz.prog w = .ok (.enter g args) w) (pr : Int → Bool) (l : List Int) (v : Value) (H : Heap) (hl : rdS RI 1 H v l) (hg : ∀ x ∈ l, ∀ h, Hle H h → CT Tryz.prog g ⟨fs ++ [.int .i64 x] ++ cv⟩ [] h (fun v N => v = .bool (pr x) ∧ N = [])) : CT Tryz.prog 50 ⟨[v, .func (.func g) ⟨fs⟩ ⟨cv⟩]⟩ [] H (fun v N => v = .bool (l.all pr) ∧ N = []) := by
 refine CT_enter Tryz.func50 rfl rfl ?_
 refine J_seq ?_
 refine J_region ?_
 refine JL_run rfl (Runs_box (l := [.func (.func g) ⟨fs⟩ ⟨cv⟩]) rfl rfl fun b1 => ?_)
 refine JL_pure (v := .bool (false)) rfl (Pu.assign rfl) ?_
 refine JL_nil ?_
 refine J_seq ?_
 refine J_region ?_
 refine JL_pure (v := v) rfl (Pu.move rfl) ?_
 refine JL_pure (v := .func (.func 85) ⟨[]⟩ ⟨[.pointer (some ⟨b1, 0, none⟩)]⟩) rfl (Pu.makeFunc rfl rfl) ?_
 refine JL_call rfl Tryz.call84 rfl (fun hin => containsI_ct 85 [] [.pointer (some ⟨b1, 0, none⟩)] Tryz.call85 (fun x => !pr x) _ _ _ (RIs.mono (Hle.hu _ _) hl) (fun x hx h hh => every1_ct g fs cv hcall pr x h b1 (hh _ _ (hin 0 _ rfl _ _ List.mem_cons_self)) (fun h2 hh2 => hg x hx h2 (Hle.trans (Hle.trans (Hle.hu _ _) hh) hh2)))) rfl ?_
 rintro _ _ ⟨rfl, rfl⟩
 refine JL_pure (v := .bool (!((l).any (fun x => !pr x)))) rfl (Pu.not rfl) ?_
 refine JL_pure (v := .bool (!((l).any (fun x => !pr x)))) rfl (Pu.assign rfl) ?_
 refine JL_nil ?_
 refine J_ret ?_
 refine ⟨.bool (!((l).any (fun x => !pr x))), [], Ret.one rfl (RV.tmp rfl), Sub.nil, ?_⟩
 exact ⟨by simp [List.not_any_eq_all_not], rfl⟩
theorem shiftO_ct (n dy fr : Int) (H : Heap) (bF bD : Nat) (hF : H bF = some (.cells ⟨[.int .i64 fr]⟩ 3 (0, 0))) (hD : H bD = some (.cells ⟨[.int .i64 dy]⟩ 3 (0, 0))) (hn0 : 0 ≤ n) (hn1 : n ≤ 60) (hd0 : -60 ≤ dy) (hd1 : dy ≤ 60) : CT Tryz.prog 52 ⟨[.int .i64 (n), .pointer (some ⟨bF, 0, none⟩), .pointer (some ⟨bD, 0, none⟩)]⟩ [] H (fun v N => v = .bool (mvOk dy fr n) ∧ N = []) := by
 refine CT_enter Tryz.func52 rfl rfl ?_
 refine J_seq ?_
 refine J_region ?_
 refine JL_pure (v := .bool (false)) rfl (Pu.assign rfl) ?_
 refine JL_nil ?_
 refine J_seq ?_
 refine J_region ?_
 refine JL_pure (v := .int .i64 (n)) rfl (Pu.move rfl) ?_
 refine JL_run rfl (Pu_load1 ty3 rfl (At.im hF) rfl ?_)
 refine JL_pure (v := .bool (decide (n < fr))) rfl (Pu.lss rfl rfl) ?_
 refine JL_pure (v := .bool (decide (n < fr))) rfl (Pu.move rfl) ?_
 cases h1 : (decide (n < fr)) with
 | true =>
  replace h1 := dt h1
  refine JL_skip rfl ?_
  refine JL_skip rfl ?_
  refine JL_skip rfl ?_
  refine JL_skip rfl ?_
  refine JL_skip rfl ?_
  refine JL_skip rfl ?_
  refine JL_pure (v := .bool (true)) rfl (Pu.pickT rfl rfl) ?_
  refine JL_pure (v := .bool (true)) rfl (Pu.assign rfl) ?_
  refine JL_nil ?_
  refine J_ret ?_
  refine ⟨.bool (true), [], Ret.one rfl (RV.tmp rfl), Sub.nil, ?_⟩
  exact ⟨by simp only [mvOk]; simp_all <;> omega, rfl⟩
 | false =>
  replace h1 := df h1
  refine JL_pure (v := .int .i64 (n)) rfl (Pu.move rfl) ?_
  refine JL_run rfl (Pu_load1 ty3 rfl (At.im hD) rfl ?_)
  refine JL_pure (v := .int .i64 (n + dy)) rfl (Pu.add64 rfl rfl (by first | omega | (constructor <;> omega))) ?_
  refine JL_run rfl (Pu_load1 ty3 rfl (At.im hF) rfl ?_)
  refine JL_call rfl Tryz.call49 rfl (fun hin => off_ct _ _ _ _) rfl ?_
  rintro _ _ ⟨rfl, rfl⟩
  refine JL_pure (v := .bool (!(decide (n + dy < fr ∨ 59 < n + dy)))) rfl (Pu.not rfl) ?_
  refine JL_pure (v := .bool (!(decide (n + dy < fr ∨ 59 < n + dy)))) rfl (Pu.pickF rfl rfl) ?_
  refine JL_pure (v := .bool (!(decide (n + dy < fr ∨ 59 < n + dy)))) rfl (Pu.assign rfl) ?_
  refine JL_nil ?_
  refine J_ret ?_
  refine ⟨.bool (!(decide (n + dy < fr ∨ 59 < n + dy))), [], Ret.one rfl (RV.tmp rfl), Sub.nil, ?_⟩
  exact ⟨by simp only [mvOk]; simp_all <;> omega, rfl⟩
theorem freeV_ct (n b : Int) (s : List Int) (r : Nat) (H : Heap) (bM : Nat) (hM : H bM = some (.cells ⟨[.map (some r)]⟩ 117 (0, 0))) (hn0 : 0 ≤ n) (hn1 : n ≤ 2000000) (hb0 : 0 ≤ b) (hb1 : b ≤ 2000000) : CT Tryz.prog 86 ⟨[.int .i64 (n), .int .i64 (b), .pointer (some ⟨bM, 0, none⟩)]⟩ [metC r (s)] H (fun v N => ∃ cs k, v = .agg ⟨cs⟩ ∧ N = [k, metC r (metV n b s).2] ∧ OT (metV n b s).1 cs k) := by
 refine CT_enter Tryz.func86 rfl rfl ?_
 refine J_seq ?_
 refine J_region ?_
 refine JL_run rfl (Runs_alloc (l := pkT (0) (0) (zS) (.slice none 0 0) (.slice none 0 0)) Tryz.zeroValue27 rfl fun b1 => ?_)
 refine JL_nil ?_
 refine J_seq ?_
 refine J_region ?_
 refine JL_run rfl (Pu_load1 ty117 rfl (At.im hM) rfl ?_)
 refine JL_pure (v := .int .i64 (n)) rfl (Pu.move rfl) ?_
 refine JL_run rfl (Runs_mapUpdate (i := 1) Tryz.underlying117 Tryz.underlying3 rfl rfl rfl rfl ?_)
 refine JL_nil ?_
 refine J_seq ?_
 refine J_region ?_
 refine JL_pure (v := .int .i64 (n)) rfl (Pu.move rfl) ?_
 refine JL_pure (v := .int .i64 (b)) rfl (Pu.move rfl) ?_
 refine JL_call rfl Tryz.call56 rfl (fun hin => stay_ct _ _ _ (by unfold inI; omega)) rfl ?_
 rintro _ _ ⟨cs2, k2, rfl, rfl, hO2⟩
 refine JL_run rfl (Runs_storeB 1 (vs := cs2) (l := cs2) ty27 rfl rfl rfl rfl hO2.len hO2.ok (spl_a (n := 36) rfl hO2.len) ?_)
 refine JL_nil ?_
 refine J_ret ?_
 refine ⟨.agg ⟨cs2⟩, [k2, metC r (addK (s) (n))], Ret.one rfl (RV.cell ty27 rfl (At.bx 1 rfl) (sub_a hO2.len)), (Sub.cons 0 rfl (Sub.cons 1 rfl Sub.nil)), ?_⟩
 exact ⟨_, _, rfl, rfl, hO2⟩
theorem freeP_ct (t : Tm) (cs : List Value) (H : Heap) (ht : RT H cs t) (hz : sizeT t ≤ 900000) (hv : vOK t) : CT Tryz.prog 51 ⟨[.agg ⟨cs⟩]⟩ [] H (fun v N => ∃ u k, v = u ∧ N = [k] ∧ Own 3 1 u (ints (freeP t)) k) := by
 refine CT_enter Tryz.func51 rfl rfl ?_
 refine J_seq ?_
 refine J_region ?_
 refine JL_run rfl (Runs_box (l := cs) rfl rfl fun b1 => ?_)
 refine JL_pure (v := .slice none 0 0) rfl (Pu.assign rfl) ?_
 refine JL_nil ?_
 refine J_seq ?_
 refine J_region ?_
 refine JL_run rfl (Runs_makeMap fun r2 => ?_)
 refine JL_run rfl (Runs_alloc (l := [.map none]) Tryz.zeroValue117 rfl fun b3 => ?_)
 refine JL_run rfl (Runs_storeB 0 (vs := [.map (some r2)]) (l := [.map (some r2)]) ty117 rfl rfl rfl rfl rfl (okc_cons rfl okc_nil) rfl ?_)
 refine JL_nil ?_
 refine J_seq ?_
 refine J_region ?_
 refine JL_pure (v := .func (.func 86) ⟨[]⟩ ⟨[.pointer (some ⟨b3, 0, none⟩)]⟩) rfl (Pu.makeFunc rfl rfl) ?_
 refine JL_pure (v := .agg ⟨[.func (.func 86) ⟨[]⟩ ⟨[.pointer (some ⟨b3, 0, none⟩)]⟩, .func (.func 57) ⟨[]⟩ ⟨[]⟩]⟩) rfl (Pu.build (pv := [(0, .func (.func 86) ⟨[]⟩ ⟨[.pointer (some ⟨b3, 0, none⟩)]⟩), (1, .func (.func 57) ⟨[]⟩ ⟨[]⟩)]) (l := [.func (.func 86) ⟨[]⟩ ⟨[.pointer (some ⟨b3, 0, none⟩)]⟩, .func (.func 57) ⟨[]⟩ ⟨[]⟩]) rfl (bld89_0_1 _ _ _ _ _ _)) ?_
 refine JL_run rfl (Pu_load ty27 rfl (At.bx 2 rfl) (sub_a (RT_len ht)) ?_)
 refine JL_call1 1 rfl Tryz.call58 rfl rfl (fun hin => mapTerm_ct 57 [] [] Tryz.call57 (fun s => s) 86 [] [.pointer (some ⟨b3, 0, none⟩)] Tryz.call86 (List Int) (metC r2) (fun _ => True) metV (fun _ _ _ _ => trivial) _ _ _ _ _ (RT.mono (Hle.hu _ _) ht) (by omega) hv (by decide) (by omega) trivial (fun s h hh => same_ct s h) (fun n b s h hh _ h1 h2 h3 h4 => freeV_ct n b s r2 h b3 (hh _ _ (hin 0 _ rfl _ _ List.mem_cons_self)) h1 h2 h3 h4)) rfl ?_
 rintro _ _ ⟨cs4, k4, rfl, rfl, hO4⟩
 refine JL_nil ?_
 refine J_seq ?_
 refine J_region ?_
 refine JL_pure (v := .slice none 0 0) rfl (Pu.assign rfl) ?_
 refine JL_nil ?_
 refine J_seq ?_
 refine J_seq ?_
 refine J_region ?_
 refine JL_pure (v := .int .i64 (0)) rfl (Pu.move rfl) ?_
 refine JL_nil ?_
 refine J_block ?_
 refine J_loop (fun k ρ M => ∃ (j : Nat) (v : Value) (k1 : Chunk), ρ 2 = .slice none 0 0 ∧ ρ 3 = .pointer (some ⟨b3, 0, none⟩) ∧ ρ 4 = v ∧ ρ 11 = .int .i64 ((j : Int)) ∧ Sub [k1, metC r2 (metT (t)), [(b3, .cells ⟨[.map (some r2)]⟩ 117 (0, 0))]] M ∧ j ≤ 60 ∧ Own 3 1 v (ints (upTo (metF (metT t)) j)) k1 ∧ k = 60 - j) _ ⟨0, (.slice none 0 0), [], rfl, rfl, rfl, rfl, (Sub.emp (Sub.cons 1 rfl (Sub.cons 1 rfl Sub.nil))), Nat.zero_le _, Own.nil, rfl⟩ ?_
 rintro _ ρ5 _ ⟨j, v, k1, e6, e7, e8, e9, hm10, hj, ho, rfl⟩
 obtain ⟨ρ11, rfl⟩ := reopen_ex (uc e6 (uc e7 (uc e8 (uc e9 un))))
 clear e6 e7 e8 e9
 refine J_sub hm10 ?_
 refine J_seq ?_
 refine J_region ?_
 refine JL_pure (v := .bool (decide ((j : Int) < 60))) rfl (Pu.lss rfl rfl) ?_
 refine JL_nil ?_
 refine J_seq ?_
 refine J_cond (b := decide ((j : Int) < 60)) rfl (fun h12 => ?_) (fun h12 => ?_)
 ·skip
  replace h12 := dt h12
  have h12n : j < 60 := by omega
  have hul := upTo_len (metF (metT t)) j
  have hil := ints_len (upTo (metF (metT t)) j)
  have hge := metF_get (metT t) j h12n
  refine J_skip ?_
  refine J_seq ?_
  refine J_block ?_
  refine J_seq ?_
  refine J_region ?_
  refine JL_pure (v := .int .i64 ((j : Int))) rfl (Pu.move rfl) ?_
  refine JL_pure (v := .int .i64 ((j : Int))) rfl (Pu.assign rfl) ?_
  refine JL_nil ?_
  refine J_seq ?_
  refine J_region ?_
  refine JL_run rfl (Pu_load1 ty117 rfl (At.bx 2 rfl) rfl ?_)
  refine JL_pure (v := .int .i64 ((j : Int))) rfl (Pu.move rfl) ?_
  refine JL_run rfl (Runs_lookup (i := 1) Tryz.underlying117 Tryz.underlying3 Tryz.zeroValue4 rfl rfl rfl ?_)
  refine JL_nil ?_
  refine J_cond (b := decide ((j : Int) ∈ (metT (t)))) rfl (fun h13 => ?_) (fun h13 => ?_)
  ·skip
   replace h13 := dt h13
   refine J_region ?_
   refine JL_pure (v := v) rfl (Pu.move rfl) ?_
   refine JL_pure (v := .int .i64 ((j : Int))) rfl (Pu.move rfl) ?_
   refine JL_run rfl (Runs_buildSlice (vs := [.int .i64 ((j : Int))]) [[.int .i64 ((j : Int))]] Tryz.runUnderlying49 el3 rfl rfl (by intro e he; simp only [List.mem_cons, List.not_mem_nil, or_false] at he; subst he; exact rfl) rfl (by decide) fun b14 k14 ho14 hk14 => ?_)
   have hlens15 : ∀ e ∈ ([[.int .i64 ((j : Int))]] : List (List Value)), List.length e = 1 := by
    intro e he; simp only [List.mem_cons, List.not_mem_nil, or_false] at he
    rcases he with rfl
    ·exact rfl
   have hoks15 : ∀ e ∈ ([[.int .i64 ((j : Int))]] : List (List Value)), okc e := by
    intro e he; simp only [List.mem_cons, List.not_mem_nil, or_false] at he
    rcases he with rfl
    ·exact (okc_cons rfl okc_nil)
   refine JL_run rfl (Runs_append (i := 1) (n := 1) (es' := [[.int .i64 ((j : Int))]]) Tryz.runUnderlying49 Tryz.runUnderlying49 (Or.inl rfl) el3 rfl rfl rfl ho (fun F w m => Src.row (((At.k 0 rfl (by rw [hk14]; exact List.mem_cons_self))).heap m) (sub_a (flatten_len hlens15))) rfl hlens15 hoks15 (by decide) (by omega) fun v15 k15 ho15 => ?_)
   refine JL_pure (v := v15) rfl (Pu.assign rfl) ?_
   refine JL_nil ?_
   refine J_region ?_
   refine JL_pure (v := .int .i64 (((j + 1 : Nat) : Int))) rfl (Pu.inc rfl rfl (by omega)) ?_
   refine JL_pure (v := .int .i64 (((j + 1 : Nat) : Int))) rfl (Pu.move rfl) ?_
   refine JL_nil ?_
   refine ⟨_, ?_, (j + 1), (v15), (k15), rfl, rfl, rfl, rfl, (Sub.cons 1 rfl (Sub.cons 1 rfl (Sub.cons 1 rfl Sub.nil))), ?_, ?_, rfl⟩
   ·omega
   ·omega
   ·rw [upTo_succ, hge, if_pos (by simp [h13]), ints_snoc]; exact ho15
  ·skip
   replace h13 := df h13
   refine J_skip ?_
   refine J_region ?_
   refine JL_pure (v := .int .i64 (((j + 1 : Nat) : Int))) rfl (Pu.inc rfl rfl (by omega)) ?_
   refine JL_pure (v := .int .i64 (((j + 1 : Nat) : Int))) rfl (Pu.move rfl) ?_
   refine JL_nil ?_
   refine ⟨_, ?_, (j + 1), (v), (k1), rfl, rfl, rfl, rfl, (Sub.cons 0 rfl (Sub.cons 0 rfl (Sub.cons 0 rfl Sub.nil))), ?_, ?_, rfl⟩
   ·omega
   ·omega
   ·rw [upTo_succ, hge, if_neg (by simp [h13])]; exact ho
 ·skip
  replace h12 := df h12
  have h12n : 60 ≤ j := by omega
  refine J_exit _ rfl ?_
  refine J_seq ?_
  refine J_region ?_
  refine JL_pure (v := v) rfl (Pu.move rfl) ?_
  refine JL_pure (v := v) rfl (Pu.assign rfl) ?_
  refine JL_nil ?_
  refine J_ret ?_
  refine ⟨v, [k1], Ret.one rfl (RV.tmp rfl), (Sub.cons 0 rfl Sub.nil), ?_⟩
  obtain rfl : j = 60 := by omega
  exact ⟨v, k1, rfl, rfl, ho⟩
end Go.Proofs.YtbfjkdhfelmioaaGreat.Hs
