import Derived.Test.YtdeinimmmjichaaGreatChecksh
import Derived.Laws.RangeString
/-! Strings: rows of them, ranges over them, names of one letter. -/
namespace Go.Proofs.YtdeinimmmjichaaGreat.Hs
open Go
/-- the name of one letter -/
def ltr (i : Nat) : ByteArray := ⟨#[UInt8.ofNat (97 + i)]⟩
def strs (l : List ByteArray) : List (List Value) := l.map fun n => [.string n]
theorem strs_len (l : List ByteArray) : (strs l).length = l.length := by simp [strs]
theorem strs_snoc (l : List ByteArray) (n : ByteArray) : strs (l ++ [n]) = strs l ++ [[.string n]] := by simp [strs]
theorem strs_app (l m : List ByteArray) : strs (l ++ m) = strs l ++ strs m := by simp [strs]
theorem strs_get (l : List ByteArray) (j : Nat) (h : j < l.length) : (strs l)[j]'(by rw [strs_len]; exact h) = [.string l[j]] := by simp [strs]
theorem strs_len1 (l : List ByteArray) : ∀ e ∈ strs l, e.length = 1 := by
  intro e he; obtain ⟨n, _, rfl⟩ := List.mem_map.1 he; rfl
theorem strs_ok (l : List ByteArray) : ∀ e ∈ strs l, okc e := by
  intro e he; obtain ⟨n, _, rfl⟩ := List.mem_map.1 he; exact okc_cons rfl okc_nil
def RS (_ : Heap) (cs : List Value) (n : ByteArray) : Prop := cs = [.string n]
theorem RSs.mono {h h' : Heap} (hh : Hle h h') {v : Value} {l : List ByteArray} (q : Hs.rdS RS 1 h v l) : Hs.rdS RS 1 h' v l := rdS.mono q hh fun _ _ _ e => e
theorem own_strs {T : TypeId} {v : Value} {l : List ByteArray} {k : Chunk} {h : Heap} (o : Own T 1 v (strs l) k) (hn : l.length ≤ 9223372036854775807) (hk : Has k h) : Hs.rdS RS 1 h v l :=
  o.rdS (strs_len l).symm hn hk fun i _ h2 => strs_get l i h2
theorem rdS.none {α : Type} {E : Heap → List Value → α → Prop} {sz : Nat} {h : Heap} {a : Option Addr} {cap : Nat} : Hs.rdS E sz h (.slice a 0 cap) [] := ⟨a, cap, rfl, by simp, .inl rfl⟩
/-- What a row of strings gives to append. -/
theorem strs_src {P : Program} {H : Heap} {v : Value} {l : List ByteArray} (h : Hs.rdS RS 1 H v l) : ∀ w L, Mem w L H → Src P 1 w v l.length (strs l).flatten := by
  obtain ⟨es, e1, e2, e3, e4⟩ := rdS.src (P := P) h
  have : es = strs l := by
    apply List.ext_getElem
    · rw [e1, strs_len]
    · intro i h1 h2
      have := e2 i h1 (by omega)
      rw [strs_get l i (by omega)]; exact this
  subst this
  intro w L m
  exact e4 w L H (Hle.refl _) m
theorem own_src {P : Program} {H : Heap} {T : TypeId} {v : Value} {l : List ByteArray} {k : Chunk} {M : List Chunk} {i : Nat} (o : Own T 1 v (strs l) k) (hi : M[i]? = some k) : ∀ F w, Mem w (M.flatten ++ F) H → Src P 1 w v l.length (strs l).flatten := by
  intro F w m
  rcases o.2 with ⟨e, e2, e3⟩ | ⟨b, cap, sp, e, e2, e3, e4⟩
  · have : l = [] := by have := strs_len l; rw [e2] at this; exact List.eq_nil_of_length_eq_zero this.symm
    subst this
    rw [e]; exact Src.nil
  · subst e
    have hb : w.heap[b]? = some (.cells ⟨(strs l).flatten ++ sp⟩ T (0, 0)) := (At.k (M := M) (H := H) i hi (by rw [e2]; simp)).heap m
    have := Src.row (P := P) (cap := cap) (n := l.length) hb (by have := sub_flat (sp := sp) o.1; rwa [strs_len] at this)
    rw [strs_len]; exact this

/-- the place of a string in a row -/
def fstS (x : ByteArray) : List ByteArray → Nat → Int
  | [], _ => -1
  | y :: l, i => if x = y then (i : Int) else fstS x l (i + 1)
theorem fstS_mem (x : ByteArray) (l : List ByteArray) : ∀ i, decide (0 ≤ fstS x l i) = l.any (fun y => decide (x = y)) := by
  induction l with
  | nil => intro i; simp [fstS]
  | cons y l ih =>
    intro i
    rw [fstS]
    by_cases h : x = y
    · rw [if_pos h, List.any_cons, decide_eq_true h]; simp
    · rw [if_neg h, ih, List.any_cons, decide_eq_false h]; rfl
/-- the place of a bool in a row -/
def fstB (x : Bool) : List Bool → Nat → Int
  | [], _ => -1
  | y :: l, i => if x = y then (i : Int) else fstB x l (i + 1)

def itC (r : Nat) (s : ByteArray) (p : Nat) : Chunk := [(r, .stringIter s p)]
section
variable {c : Cx} {H : Heap} {ρ : Nat → Value} {M : List Chunk} {K : Value → List Chunk → Prop} {d : Option Nat} {ot : TypeId} {pos : String} {af : Array Edge} {g : Option (Nat × Bool)} {x y z : Operand}
theorem Runs_rangeS {T : TypeId} {s : ByteArray} (hT : c.P.underlying T = some .string) (hx : ev c.n ρ x = .string s) (h : ∀ r, K (.pointer (some ⟨r, 0, none⟩)) (itC r s 0 :: M)) : Runs c H ⟨d, .range T x, ot, pos, af, g⟩ ρ M K := fun F w m => by
  refine ⟨.pointer (some ⟨w.heap.size, 0, none⟩), { w with heap := w.heap.push (.stringIter s 0) }, [(w.heap.size, .stringIter s 0)] :: M, .inl ?_, m.push (w' := { w with heap := w.heap.push (.stringIter s 0) }) rfl, h _⟩
  simp [execOp, Instr.range, hx, run_underlying hT, Result.andThen]
theorem Runs_nextA {i r p : Nat} {s : ByteArray} (hx : ev c.n ρ x = .pointer (some ⟨r, 0, none⟩)) (hi : M[i]? = some (itC r s p)) (hp : p < s.size) (ha : (s[p]'hp).toNat < 128)
    (h : K (.tuple ⟨[.bool true, .int .i64 p, .int .i32 ((s[p]'hp).toNat : Int)]⟩) (M.set i (itC r s (p + 1)))) : Runs c H ⟨d, .next x true, ot, pos, af, g⟩ ρ M K := fun F w m => by
  have hb : w.heap[r]? = some (.stringIter s p) := (m.perm ((flatten_at hi).append_right F)).own r _ (List.mem_cons_self ..)
  refine ⟨_, _, _, .inl ?_, m.put (o' := .stringIter s (p + 1)) hi, h⟩
  have hg : (getObj r).run c.P w = .ok (.stringIter s p) w := by simp [getObj, Sem.run, hb]
  have hs : (setObj r (.stringIter s (p + 1))).run c.P w = .ok () { w with heap := w.heap.setIfInBounds r (.stringIter s (p + 1)) } := by simp [setObj, Sem.run, hb]
  simp only [execOp, Instr.next, hx, Sem.run_bind, hg, Result.andThen, hp, if_true, decode_ascii s p hp ha, hs]
  simp [goInt]
theorem Runs_nextE {i r p : Nat} {s : ByteArray} (hx : ev c.n ρ x = .pointer (some ⟨r, 0, none⟩)) (hi : M[i]? = some (itC r s p)) (hp : ¬ p < s.size)
    (h : K (.tuple ⟨[.bool false]⟩) M) : Runs c H ⟨d, .next x true, ot, pos, af, g⟩ ρ M K := fun F w m => by
  have hb : w.heap[r]? = some (.stringIter s p) := (m.perm ((flatten_at hi).append_right F)).own r _ (List.mem_cons_self ..)
  refine ⟨_, _, _, .inl ?_, m, h⟩
  have hg : (getObj r).run c.P w = .ok (.stringIter s p) w := by simp [getObj, Sem.run, hb]
  simp [execOp, Instr.next, hx, hg, Result.andThen, hp]
end
theorem w32 {a : Int} (h : -2147483648 ≤ a ∧ a ≤ 2147483647) : IntKind.i32.wrap a = a := by
  exact IntWalk.i32_in a h
section
variable {P : Program} {e : Operand → Value} {T T' : TypeId} {x : Operand} {k : IntKind} {a : Int} {d : Option Nat} {ot : TypeId} {pos : String} {af : Array Edge} {g : Option (Nat × Bool)}
theorem Pu.convS {s : ByteArray} {t : TypeDesc} (hs : ∀ w, (underlying T).run P w = .ok t w) (hT : ∀ w, (underlying T').run P w = .ok .string w) (hx : e x = .int k a) (hv : Utf8.encode a = s) : Pu P e ⟨d, .convert T T' x, ot, pos, af, g⟩ (.string s) := fun w => by
  subst hv
  simp [execOp, convert, hs, hT, hx, Result.andThen, Conv.intToString]
end
theorem ltr_size (i : Nat) : (ltr i).size = 1 := rfl
theorem ltr_get (i : Nat) (h : i < 26) : ((ltr i)[0]'(by rw [ltr_size]; decide)).toNat = 97 + i := by
  show (UInt8.ofNat (97 + i)).toNat = 97 + i
  simp; omega
theorem ltr_enc : ∀ i : Nat, i < 26 → Utf8.encode ((97 + i : Nat) : Int) = ltr i := by decide
theorem ltr_enc' (i : Nat) (h : i < 26) : Utf8.encode (97 + (i : Int)) = ltr i := by have := ltr_enc i h; simpa using this
section
variable {c : Cx} {H : Heap} {ρ : Nat → Value} {M : List Chunk} {K : Value → List Chunk → Prop} {d : Option Nat} {ot : TypeId} {pos : String} {af : Array Edge} {g : Option (Nat × Bool)} {x : Operand}
theorem Runs_nextL {i r k : Nat} (hx : ev c.n ρ x = .pointer (some ⟨r, 0, none⟩)) (hi : M[i]? = some (itC r (ltr k) 0)) (hk : k < 26)
    (h : K (.tuple ⟨[.bool true, .int .i64 0, .int .i32 (97 + (k : Int))]⟩) (M.set i (itC r (ltr k) 1))) : Runs c H ⟨d, .next x true, ot, pos, af, g⟩ ρ M K := by
  have hg := ltr_get k hk
  refine Runs_nextA hx hi (by rw [ltr_size]; decide) (by omega) ?_
  rw [hg]
  simpa using h
end
def markL (i : Nat) (l : List Bool) : List Bool := if i < l.length then l.set i true else l
/-- What is known of a term with names: the names on the way down, one Kid after the other. -/
def NC : List (List ByteArray) → List Value → Chunk → Prop
  | [], cs, _ => cs.length = 37 ∧ okc cs
  | x :: xs, cs, c => ∃ k n r ns ks cv e k1 k2 k3, cs = pkT k n r ns ks ++ [cv] ∧ cv.oneCell' = true ∧ Own 9 1 ns (strs x) k1 ∧ Own 75 37 ks [e] k2 ∧ NC xs e k3 ∧ c = k1 ++ (k2 ++ k3)
theorem NC.len : ∀ {xs : List (List ByteArray)} {cs : List Value} {c : Chunk}, NC xs cs c → cs.length = 37
  | [], _, _, h => h.1
  | _ :: _, _, _, ⟨_, _, _, _, _, _, _, _, _, _, h, _⟩ => by rw [h]; rfl
theorem NC.ok : ∀ {xs : List (List ByteArray)} {cs : List Value} {c : Chunk}, NC xs cs c → okc cs
  | [], _, _, h => h.2
  | _ :: _, _, _, ⟨_, _, _, _, _, _, _, _, _, _, h, h1, h2, h3, _⟩ => by rw [h]; exact okc_app (pkT_ok h2.one h3.one) (okc_cons h1 okc_nil)
theorem spl_l {a b a' vs : List Value} {off : Nat} (h : spl a off vs = some a') : spl (a ++ b) off vs = some (a' ++ b) := by
  obtain ⟨h1, h2⟩ := spl_some h
  rw [spl_mk (by rw [List.length_append]; omega), h2, List.take_append_of_le_length (by omega), List.drop_append_of_le_length (by omega)]
  simp
theorem markL_len (i : Nat) (l : List Bool) : (markL i l).length = l.length := by unfold markL; split <;> simp
theorem int_r {P : Program} {f : FuncId} {a : Array Value} {M : List Chunk} {H : Heap} {x r : Int} (h : CT P f a M H (fun v N => v = .int .i64 x ∧ N = [])) (hr : x = r) : CT P f a M H (fun v N => v = .int .i64 r ∧ N = []) := hr ▸ h
noncomputable def eqL {α : Type} (l m : List α) : Bool := @decide (l = m) (Classical.propDecidable _)
theorem eqL_true {α : Type} {l m : List α} (h : l = m) : eqL l m = true := by unfold eqL; simp [h]
theorem eqL_false {α : Type} {l m : List α} (h : ¬ l = m) : eqL l m = false := by unfold eqL; simp [h]
end Go.Proofs.YtdeinimmmjichaaGreat.Hs
/-! The examples of the chapter, in plain Lean. -/
namespace Go.Proofs.YtdeinimmmjichaaGreat.Hs
open Go Go.Proofs
def eVa (n : Int) : Tm := .mk 1 n zS [] []
def eNu (n : Int) : Tm := .mk 2 n zS [] []
def eLa (t : Tm) : Tm := .mk 3 0 zS [t] []
def eAp (t u : Tm) : Tm := .mk 4 0 zS [t, u] []
def eLam : Tm := eLa (eAp (eVa 0) (eVa 1))
theorem free_lam : freeE eLam = ([0], 0) := by kernel_rfl
theorem five_lam : substP eLam 0 (eNu 5) = (eLa (eAp (eVa 0) (eNu 5)), 0) := by kernel_rfl
theorem three_lam : substP eLam 0 (eVa 3) = (eLa (eAp (eVa 0) (eVa 4)), 0) := by kernel_rfl
theorem up_lam : shiftP eLam 2 0 = (eLa (eAp (eVa 0) (eVa 3)), 0) := by kernel_rfl
theorem down_va : shiftP (eVa 0) (-1) 0 = (zT, 1) := by kernel_rfl
def eLL : Tm := eLa (eLa (eVa 1))
theorem right_ll : rightT [eLL] = 0 := by kernel_rfl
theorem free_ll : freeE eLL = ([], 0) := by kernel_rfl
theorem check_h2 : checkT 0 0 (.mk 12 0 zS [eNu 1, eVa 0] []) = 0 := by kernel_rfl
theorem check_h1 : checkT 0 0 (.mk 12 0 zS [eNu 1] []) = 2 := by kernel_rfl
/-- the cells of the first of two results -/
def tcel : Value → List Value
  | .tuple ⟨[.agg ⟨cs⟩, _]⟩ => cs
  | _ => []
theorem ble_at {P : Program} {f : FuncId} {a : Array Value} {M : List Chunk} {H : Heap} {x : Tm × Int} {d : Tm} {e : Int} (h : CT P f a M H (fun v N => ∃ cs k, v = .tuple ⟨[.agg ⟨cs⟩, .int .i64 x.2]⟩ ∧ N = [k] ∧ OT x.1 cs k)) (hx : x = (d, e)) :
    CT P f a M H (fun v N => ∃ cs k, v = .tuple ⟨[.agg ⟨cs⟩, .int .i64 e]⟩ ∧ N = [k] ∧ OT d cs k) := by subst hx; exact h
theorem bool_r {P : Program} {f : FuncId} {a : Array Value} {M : List Chunk} {H : Heap} {x r : Bool} (h : CT P f a M H (fun v N => v = .bool x ∧ N = [])) (hr : x = r) : CT P f a M H (fun v N => v = .bool r ∧ N = []) := hr ▸ h
section
variable {c : Cx} {H : Heap} {ρ : Nat → Value} {M : List Chunk} {K : Value → List Chunk → Prop} {d : Option Nat} {ot : TypeId} {pos : String} {af : Array Edge} {g : Option (Nat × Bool)} {x y : Operand}
/-- the first nothing of a slice -/
theorem Runs_slice0 {T el : TypeId} {sz n cap : Nat} {a : Option Addr} {k : IntKind} (hT : ∀ w, (underlying T).run c.P w = .ok (.slice el) w) (hsz : ∀ w, (sizeOf el).run c.P w = .ok sz w) (hx : ev c.n ρ x = .slice a n cap) (hy : ev c.n ρ y = .int k 0)
    (h : ∀ a' cap', K (.slice a' 0 cap') M) : Runs c H ⟨d, .slice T x none (some y) none, ot, pos, af, g⟩ ρ M K := fun F w m => by
  refine ⟨_, w, M, .inl ?_, m, h (if cap = 0 then a else a.map (·.add (0 * sz))) (cap - 0)⟩
  simp [execOp, Instr.sliceAt, Instr.slice, Instr.sliceBounds, Instr.sliceBound, asIntOf, hx, hy, hT, hsz, Result.andThen]
end
end Go.Proofs.YtdeinimmmjichaaGreat.Hs
/-! Layer 4, the plain law, third part: sizes. No program here. -/
namespace Go.Proofs.YtdeinimmmjichaaGreat.Hs
open Go
theorem great_size {t : Tm} (h : (cnT stG 0 t 0).1 = false) : sizeT t ≤ 400 := by
  have h1 := cnT_size t 0 0 h
  have h2 := cnGT_le t 0 0 h
  omega
theorem checkR_ok {t : Tm} (h : checkR 60 8 t = 0) : sizeT t ≤ 300 ∧ vOK t ∧ tidy t := by
  have := checkT_ok (by rw [check_eq]; exact h : checkT 60 8 t = 0)
  exact ⟨this.1, this.2.1, this.2.2.1⟩
end Go.Proofs.YtdeinimmmjichaaGreat.Hs
/-! What TermChecks asks beside, in plain Lean; readings of a match. -/
namespace Go.Proofs.YtdeinimmmjichaaGreat.Hs
open Go Go.Proofs
def ofP (p : Pt) : Tm := .mk 9 0 zS [eNu 0] [(p, eNu 0)]
def sizeE (t : Tm) : Int × Int := if checkR 60 8 t = 0 then ((sizeT t : Int), 0) else (0, checkR 60 8 t)
def bindsE (p : Pt) : Int × Int := if checkR 60 8 (ofP p) = 0 then ((binds p : Int), 0) else (0, checkR 60 8 (ofP p))
theorem size_of (p : Pt) : sizeT (ofP p) = sizeP p + 3 := by
  simp only [ofP, eNu, sizeT, sizeTs, sizeCs]; omega
theorem binds_of {p : Pt} (h : sizeP p ≤ 300000) : binds p ≤ 1000000 := by
  have := binds_le p; omega
theorem eqPk0 (k n k' n' : Int) (r r' : Sm) (l l' : List Pt) : (((decide (k = k')) && ((decide (n = n')) && (decide (r = r')))) && (decide (l = l'))) = decide (Pt.mk k n r l = Pt.mk k' n' r' l') := by
  rw [Bool.eq_iff_iff]; simp [and_assoc]
theorem eqPk (k n : Int) (r : Sm) (l : List Pt) (q : Pt) : (((decide (k = q.kind)) && ((decide (n = q.num)) && (decide (r = q.ref)))) && (decide (l = q.kids))) = decide (Pt.mk k n r l = q) := by
  cases q; exact eqPk0 ..
theorem Own.rdC1 {T : TypeId} {v : Value} {a b : List Value} {k : Chunk} {h : Heap} {p : Pt} {t : Tm} (o : Own T 71 v [a ++ b] k) (hk : Has k h) (hp : RP h a p) (ht : RT h b t) : Hs.rdS RC 71 h v [(p, t)] :=
  o.rdS rfl (by simp) hk fun i h1 _ => by
    have : i = 0 := by simpa using h1
    subst this; exact ⟨a, b, rfl, hp, ht⟩
theorem RT_nu {h : Heap} : RT h (pkT 2 0 zS (.slice none 0 0) (.slice none 0 0)) (eNu 0) := (OT_leaf (by unfold inI; omega) (by unfold inI; omega)).rd Has.nil
theorem RT_of {h : Heap} {v u : Value} {t : Tm} {l : List (Pt × Tm)} (hv : Hs.rdS RT 36 h v [t]) (hu : Hs.rdS RC 71 h u l) : RT h (pkT 9 0 zS v u) (.mk 9 0 zS [t] l) :=
  RT_mk.2 ⟨_, _, rfl, by unfold inI; omega, by unfold inI; omega, hv, hu⟩
theorem sizeE_err (t : Tm) : (sizeE t).2 = checkR 60 8 t := by unfold sizeE; split <;> simp_all
theorem sizeE_is {t : Tm} (h : checkR 60 8 t = 0) : (sizeE t).1 = (extT 400 t).1 := by
  have hs := (checkR_ok h).1
  rw [sizeE, if_pos h, (extT_exact t 400 (by omega)).1 (by omega)]
theorem sizeE_not {t : Tm} (h : ¬ checkR 60 8 t = 0) : (sizeE t).1 = 0 := by rw [sizeE, if_neg h]
theorem freeE_err (t : Tm) : (freeE t).2 = checkR 60 8 t := by
  unfold freeE; rw [rightT_one]; split <;> simp_all
theorem freeE_is {t : Tm} (h : checkR 60 8 t = 0) : (freeE t).1 = freeR t := by
  rw [freeE, rightT_one, if_pos h]; exact freeP_eq (checkR_ok h).2.2
theorem freeE_not {t : Tm} (h : ¬ checkR 60 8 t = 0) : (freeE t).1 = [] := by rw [freeE, rightT_one, if_neg h]
theorem freeE_len (t : Tm) : (freeE t).1.length ≤ 60 := by
  unfold freeE; split
  · exact freeP_len t
  · simp
theorem freeR_len {t : Tm} (h : checkR 60 8 t = 0) : (freeR t).length ≤ 60 := by rw [← freeE_is h]; exact freeE_len t
section
variable {P : Program} {e : Operand → Value} {i : Oper}
theorem Pu.to {v v' : Value} (h : Pu P e i v) (q : v = v') : Pu P e i v' := q ▸ h
theorem Pu.decT {p : Prop} {_ : Decidable p} (h : Pu P e i (.bool (decide p))) (q : p) : Pu P e i (.bool true) := h.to (congrArg Value.bool (decide_eq_true q))
theorem Pu.beqT {b c : Bool} (h : Pu P e i (.bool (b == c))) (q : b = c) : Pu P e i (.bool true) := h.to (congrArg Value.bool (by simp [q]))
end
end Go.Proofs.YtdeinimmmjichaaGreat.Hs
/-! Walks, printed by a program of this session's own (gen.py). -/
namespace Go.Proofs.YtdeinimmmjichaaGreat.Hs
open Go Go.Proofs
set_option maxRecDepth 100000
set_option linter.unusedVariables false
set_option linter.unusedSimpArgs false
attribute [local irreducible] JL J CT wlo
theorem more_ct (k j : Int) (H : Heap) : CT Tryz.prog 101 ⟨[.int .i64 (k), .int .i64 (j)]⟩ [] H (fun v N => v = .int .i64 (more k j) ∧ N = []) := by
 refine CT_enter Tryz.func101 rfl rfl ?_
 refine J_seq ?_
 refine J_region ?_
 refine JL_pure (v := .int .i64 (0)) rfl (Pu.assign rfl) ?_
 refine JL_nil ?_
 refine J_seq ?_
 refine J_block ?_
 refine J_seq ?_
 refine J_seq ?_
 refine J_region ?_
 refine JL_pure (v := .int .i64 (k)) rfl (Pu.move rfl) ?_
 refine JL_pure (v := .bool (decide (k = 3))) rfl (Pu.eql rfl rfl) ?_
 refine JL_pure (v := .bool (decide (k = 3))) rfl (Pu.assign rfl) ?_
 refine JL_nil ?_
 refine J_cond (b := decide (k = 3)) rfl (fun h1 => ?_) (fun h1 => ?_)
 ·skip
  replace h1 := dt h1
  refine J_skip ?_
  refine J_cond (b := decide (k = 3)) rfl (fun _ => ?_) (fun h2 => absurd h1 (df h2))
  refine J_seq ?_
  refine J_region ?_
  refine JL_pure (v := .int .i64 (1)) rfl (Pu.assign rfl) ?_
  refine JL_nil ?_
  refine J_ret ?_
  refine ⟨.int .i64 (1), [], Ret.one rfl (RV.tmp rfl), Sub.nil, ?_⟩
  exact ⟨by first | (simp_all [more]; done) | (congr 1; unfold more; simp_all; try omega), rfl⟩
 ·skip
  replace h1 := df h1
  refine J_cut (fun ρ M => ρ 0 = .int .i64 (k) ∧ ρ 1 = .int .i64 (j) ∧ ρ 4 = .int .i64 (0) ∧ ρ 5 = .bool ((decide (k = 5)) && (decide (j = 1))) ∧ M = []) ?_ ?_
  ·refine J_region ?_
   refine JL_pure (v := .int .i64 (k)) rfl (Pu.move rfl) ?_
   refine JL_pure (v := .bool (decide (k = 5))) rfl (Pu.eql rfl rfl) ?_
   refine JL_pure (v := .bool (decide (k = 5))) rfl (Pu.move rfl) ?_
   cases h3 : (decide (k = 5)) with
   | true =>
    replace h3 := dt h3
    refine JL_pure (v := .int .i64 (j)) rfl (Pu.move rfl) ?_
    refine JL_pure (v := .bool (decide (j = 1))) rfl (Pu.eql rfl rfl) ?_
    refine JL_pure (v := .bool (decide (j = 1))) rfl (Pu.pickT rfl rfl) ?_
    refine JL_pure (v := .bool (decide (j = 1))) rfl (Pu.assign rfl) ?_
    refine JL_nil ?_
    first | exact ⟨rfl, rfl, rfl, rfl, rfl⟩ | (exfalso; omega)
   | false =>
    replace h3 := df h3
    refine JL_skip rfl ?_
    refine JL_skip rfl ?_
    refine JL_pure (v := .bool (false)) rfl (Pu.pickF rfl rfl) ?_
    refine JL_pure (v := .bool (false)) rfl (Pu.assign rfl) ?_
    refine JL_nil ?_
    first | exact ⟨rfl, rfl, rfl, rfl, rfl⟩ | (exfalso; omega)
  ·rintro ρ4 _ ⟨e5, e6, e7, e8, rfl⟩
   obtain ⟨ρ9, rfl⟩ := reopen_ex (uc e5 (uc e6 (uc e7 (uc e8 un))))
   clear e5 e6 e7 e8
   refine J_cond (b := (decide (k = 5)) && (decide (j = 1))) rfl (fun h10 => ?_) (fun h10 => ?_)
   ·skip
    obtain ⟨h10a, h10b⟩ := andT h10
    replace h10a := dt h10a
    replace h10b := dt h10b
    refine J_skip ?_
    refine J_cond (b := (decide (k = 5)) && (decide (j = 1))) rfl (fun h11 => ?_) (fun h11 => ?_)
    ·skip
     obtain ⟨h11a, h11b⟩ := andT h11
     replace h11a := dt h11a
     replace h11b := dt h11b
     refine J_seq ?_
     refine J_region ?_
     refine JL_pure (v := .int .i64 (1)) rfl (Pu.assign rfl) ?_
     refine JL_nil ?_
     refine J_ret ?_
     refine ⟨.int .i64 (1), [], Ret.one rfl (RV.tmp rfl), Sub.nil, ?_⟩
     exact ⟨by first | (simp_all [more]; done) | (congr 1; unfold more; simp_all; try omega), rfl⟩
    ·skip
     refine J_cut (fun ρ M => ρ 4 = .int .i64 (0) ∧ ρ 20 = .bool ((decide (k = 12)) && (decide (1 < j))) ∧ M = []) ?_ ?_
     ·refine J_region ?_
      refine JL_pure (v := .int .i64 (k)) rfl (Pu.move rfl) ?_
      refine JL_pure (v := .bool (decide (k = 12))) rfl (Pu.eql rfl rfl) ?_
      refine JL_pure (v := .bool (decide (k = 12))) rfl (Pu.move rfl) ?_
      cases h12 : (decide (k = 12)) with
      | true =>
       replace h12 := dt h12
       refine JL_pure (v := .int .i64 (j)) rfl (Pu.move rfl) ?_
       refine JL_pure (v := .bool (decide (1 < j))) rfl (Pu.gtr rfl rfl) ?_
       refine JL_pure (v := .bool (decide (1 < j))) rfl (Pu.pickT rfl rfl) ?_
       refine JL_pure (v := .bool (decide (1 < j))) rfl (Pu.assign rfl) ?_
       refine JL_nil ?_
       first | exact ⟨rfl, rfl, rfl⟩ | (exfalso; omega)
      | false =>
       replace h12 := df h12
       refine JL_skip rfl ?_
       refine JL_skip rfl ?_
       refine JL_pure (v := .bool (false)) rfl (Pu.pickF rfl rfl) ?_
       refine JL_pure (v := .bool (false)) rfl (Pu.assign rfl) ?_
       refine JL_nil ?_
       first | exact ⟨rfl, rfl, rfl⟩ | (exfalso; omega)
     ·rintro ρ13 _ ⟨e14, e15, rfl⟩
      obtain ⟨ρ16, rfl⟩ := reopen_ex (uc e14 (uc e15 un))
      clear e14 e15
      refine J_cond (b := (decide (k = 12)) && (decide (1 < j))) rfl (fun h17 => ?_) (fun h17 => ?_)
      ·skip
       obtain ⟨h17a, h17b⟩ := andT h17
       replace h17a := dt h17a
       replace h17b := dt h17b
       refine J_seq ?_
       refine J_region ?_
       refine JL_pure (v := .int .i64 (2)) rfl (Pu.assign rfl) ?_
       refine JL_nil ?_
       refine J_ret ?_
       refine ⟨.int .i64 (2), [], Ret.one rfl (RV.tmp rfl), Sub.nil, ?_⟩
       exact ⟨by first | (simp_all [more]; done) | (congr 1; unfold more; simp_all; try omega), rfl⟩
      ·skip
       refine J_skip ?_
       refine J_seq ?_
       refine J_region ?_
       refine JL_pure (v := .int .i64 (0)) rfl (Pu.assign rfl) ?_
       refine JL_nil ?_
       refine J_ret ?_
       refine ⟨.int .i64 (0), [], Ret.one rfl (RV.tmp rfl), Sub.nil, ?_⟩
       exact ⟨by first | (simp_all [more]; done) | (congr 1; unfold more; simp_all; try omega), rfl⟩
   ·skip
    refine J_weak (N := fun ρ M => ρ 0 = .int .i64 (k) ∧ ρ 1 = .int .i64 (j) ∧ ρ 4 = .int .i64 (0) ∧ ρ 5 = .bool ((decide (k = 12)) && (decide (j = 1))) ∧ M = []) ?_ ?_
    ·refine J_region ?_
     refine JL_pure (v := .int .i64 (k)) rfl (Pu.move rfl) ?_
     refine JL_pure (v := .bool (decide (k = 12))) rfl (Pu.eql rfl rfl) ?_
     refine JL_pure (v := .bool (decide (k = 12))) rfl (Pu.move rfl) ?_
     cases h18 : (decide (k = 12)) with
     | true =>
      replace h18 := dt h18
      refine JL_pure (v := .int .i64 (j)) rfl (Pu.move rfl) ?_
      refine JL_pure (v := .bool (decide (j = 1))) rfl (Pu.eql rfl rfl) ?_
      refine JL_pure (v := .bool (decide (j = 1))) rfl (Pu.pickT rfl rfl) ?_
      refine JL_pure (v := .bool (decide (j = 1))) rfl (Pu.assign rfl) ?_
      refine JL_nil ?_
      first | exact ⟨rfl, rfl, rfl, rfl, rfl⟩ | (exfalso; omega)
     | false =>
      replace h18 := df h18
      refine JL_skip rfl ?_
      refine JL_skip rfl ?_
      refine JL_pure (v := .bool (false)) rfl (Pu.pickF rfl rfl) ?_
      refine JL_pure (v := .bool (false)) rfl (Pu.assign rfl) ?_
      refine JL_nil ?_
      first | exact ⟨rfl, rfl, rfl, rfl, rfl⟩ | (exfalso; omega)
    ·rintro ρ19 _ ⟨e20, e21, e22, e23, rfl⟩
     obtain ⟨ρ24, rfl⟩ := reopen_ex (uc e20 (uc e21 (uc e22 (uc e23 un))))
     clear e20 e21 e22 e23
     refine J_cond (b := (decide (k = 12)) && (decide (j = 1))) rfl (fun h25 => ?_) (fun h25 => ?_)
     ·skip
      obtain ⟨h25a, h25b⟩ := andT h25
      replace h25a := dt h25a
      replace h25b := dt h25b
      refine J_seq ?_
      refine J_region ?_
      refine JL_pure (v := .int .i64 (1)) rfl (Pu.assign rfl) ?_
      refine JL_nil ?_
      refine J_ret ?_
      refine ⟨.int .i64 (1), [], Ret.one rfl (RV.tmp rfl), Sub.nil, ?_⟩
      exact ⟨by first | (simp_all [more]; done) | (congr 1; unfold more; simp_all; try omega), rfl⟩
     ·skip
      refine J_cut (fun ρ M => ρ 4 = .int .i64 (0) ∧ ρ 20 = .bool ((decide (k = 12)) && (decide (1 < j))) ∧ M = []) ?_ ?_
      ·refine J_region ?_
       refine JL_pure (v := .int .i64 (k)) rfl (Pu.move rfl) ?_
       refine JL_pure (v := .bool (decide (k = 12))) rfl (Pu.eql rfl rfl) ?_
       refine JL_pure (v := .bool (decide (k = 12))) rfl (Pu.move rfl) ?_
       cases h26 : (decide (k = 12)) with
       | true =>
        replace h26 := dt h26
        refine JL_pure (v := .int .i64 (j)) rfl (Pu.move rfl) ?_
        refine JL_pure (v := .bool (decide (1 < j))) rfl (Pu.gtr rfl rfl) ?_
        refine JL_pure (v := .bool (decide (1 < j))) rfl (Pu.pickT rfl rfl) ?_
        refine JL_pure (v := .bool (decide (1 < j))) rfl (Pu.assign rfl) ?_
        refine JL_nil ?_
        first | exact ⟨rfl, rfl, rfl⟩ | (exfalso; omega)
       | false =>
        replace h26 := df h26
        refine JL_skip rfl ?_
        refine JL_skip rfl ?_
        refine JL_pure (v := .bool (false)) rfl (Pu.pickF rfl rfl) ?_
        refine JL_pure (v := .bool (false)) rfl (Pu.assign rfl) ?_
        refine JL_nil ?_
        first | exact ⟨rfl, rfl, rfl⟩ | (exfalso; omega)
      ·rintro ρ27 _ ⟨e28, e29, rfl⟩
       obtain ⟨ρ30, rfl⟩ := reopen_ex (uc e28 (uc e29 un))
       clear e28 e29
       refine J_cond (b := (decide (k = 12)) && (decide (1 < j))) rfl (fun h31 => ?_) (fun h31 => ?_)
       ·skip
        obtain ⟨h31a, h31b⟩ := andT h31
        replace h31a := dt h31a
        replace h31b := dt h31b
        refine J_seq ?_
        refine J_region ?_
        refine JL_pure (v := .int .i64 (2)) rfl (Pu.assign rfl) ?_
        refine JL_nil ?_
        refine J_ret ?_
        refine ⟨.int .i64 (2), [], Ret.one rfl (RV.tmp rfl), Sub.nil, ?_⟩
        exact ⟨by first | (simp_all [more]; done) | (congr 1; unfold more; simp_all; try omega), rfl⟩
       ·skip
        refine J_skip ?_
        refine J_seq ?_
        refine J_region ?_
        refine JL_pure (v := .int .i64 (0)) rfl (Pu.assign rfl) ?_
        refine JL_nil ?_
        refine J_ret ?_
        refine ⟨.int .i64 (0), [], Ret.one rfl (RV.tmp rfl), Sub.nil, ?_⟩
        exact ⟨by first | (simp_all [more]; done) | (congr 1; unfold more; simp_all; try omega), rfl⟩
theorem off_ct (n lo hi : Int) (H : Heap) : CT Tryz.prog 76 ⟨[.int .i64 (n), .int .i64 (lo), .int .i64 (hi)]⟩ [] H (fun v N => v = .bool (decide (n < lo ∨ hi < n)) ∧ N = []) := by
 refine CT_enter Tryz.func76 rfl rfl ?_
 refine J_seq ?_
 refine J_region ?_
 refine JL_pure (v := .bool (false)) rfl (Pu.assign rfl) ?_
 refine JL_nil ?_
 refine J_cut (fun ρ M => ρ 6 = .bool ((decide (n < lo)) || (decide (hi < n))) ∧ M = []) ?_ ?_
 ·refine J_region ?_
  refine JL_pure (v := .int .i64 (n)) rfl (Pu.move rfl) ?_
  refine JL_pure (v := .int .i64 (lo)) rfl (Pu.move rfl) ?_
  refine JL_pure (v := .bool (decide (n < lo))) rfl (Pu.lss rfl rfl) ?_
  refine JL_pure (v := .bool (decide (n < lo))) rfl (Pu.move rfl) ?_
  cases h1 : (decide (n < lo)) with
  | true =>
   replace h1 := dt h1
   refine JL_skip rfl ?_
   refine JL_skip rfl ?_
   refine JL_skip rfl ?_
   refine JL_pure (v := .bool (true)) rfl (Pu.pickT rfl rfl) ?_
   refine JL_pure (v := .bool (true)) rfl (Pu.assign rfl) ?_
   refine JL_nil ?_
   first | exact ⟨rfl, rfl⟩ | (exfalso; omega)
  | false =>
   replace h1 := df h1
   refine JL_pure (v := .int .i64 (n)) rfl (Pu.move rfl) ?_
   refine JL_pure (v := .int .i64 (hi)) rfl (Pu.move rfl) ?_
   refine JL_pure (v := .bool (decide (hi < n))) rfl (Pu.gtr rfl rfl) ?_
   refine JL_pure (v := .bool (decide (hi < n))) rfl (Pu.pickF rfl rfl) ?_
   refine JL_pure (v := .bool (decide (hi < n))) rfl (Pu.assign rfl) ?_
   refine JL_nil ?_
   first | exact ⟨rfl, rfl⟩ | (exfalso; omega)
 ·rintro ρ2 _ ⟨e3, rfl⟩
  obtain ⟨ρ4, rfl⟩ := reopen_ex (uc e3 un)
  clear e3
  refine J_ret ?_
  refine ⟨.bool ((decide (n < lo)) || (decide (hi < n))), [], Ret.one rfl (RV.tmp rfl), Sub.nil, ?_⟩
  exact ⟨by simp, rfl⟩
theorem binds_ct : ∀ (p : Pt) (cs : List Value) (H : Heap), RP H cs p → binds p ≤ 1000000 → CT Tryz.prog 53 ⟨[.agg ⟨cs⟩]⟩ [] H (fun v N => v = .int .i64 (binds p : Int) ∧ N = []) := by
 intro p
 induction p using Pt.ind with
 | h kind num ref kids ih =>
 intro cs H hp hb
 obtain ⟨ks, rfl, hk, hn, hks⟩ := RP_mk.1 hp
 rw [binds] at hb ⊢
 refine CT_enter Tryz.func53 rfl rfl ?_
 refine J_seq ?_
 refine J_region ?_
 refine JL_run rfl (Runs_box (l := pkP (kind) (num) (ref) (ks)) rfl rfl fun b1 => ?_)
 refine JL_pure (v := .int .i64 (0)) rfl (Pu.assign rfl) ?_
 refine JL_nil ?_
 refine J_seq ?_
 refine J_seq ?_
 refine J_region ?_
 refine JL_pure (v := .pointer (some ⟨b1, 0, none⟩)) rfl (fa30_0 rfl rfl) ?_
 refine JL_run rfl (Pu_load1 ty3 rfl (At.bx 0 rfl) (pkP_0 ..) ?_)
 refine JL_pure (v := .bool (decide (kind = 1))) rfl (Pu.eql rfl rfl) ?_
 refine JL_nil ?_
 refine J_cond (b := decide (kind = 1)) rfl (fun h2 => ?_) (fun h2 => ?_)
 ·skip
  replace h2 := dt h2
  refine J_seq ?_
  refine J_region ?_
  refine JL_pure (v := .int .i64 (1)) rfl (Pu.assign rfl) ?_
  refine JL_nil ?_
  refine J_ret ?_
  refine ⟨.int .i64 (1), [], Ret.one rfl (RV.tmp rfl), Sub.nil, ?_⟩
  exact ⟨by rw [if_pos (by assumption)]; rfl, rfl⟩
 ·skip
  replace h2 := df h2
  refine J_skip ?_
  refine J_seq ?_
  refine J_region ?_
  refine JL_pure (v := .int .i64 (0)) rfl (Pu.assign rfl) ?_
  refine JL_nil ?_
  refine J_seq ?_
  refine J_seq ?_
  refine J_region ?_
  refine JL_pure (v := .pointer (some ⟨b1, 34, none⟩)) rfl (fa30_3 rfl rfl) ?_
  refine JL_run rfl (Pu_load1 ty28 rfl (At.bx 0 rfl) (pkP_34 ..) ?_)
  obtain ⟨a3, cap3, hv3⟩ := hks.sl
  have hle3 := hks.le
  refine JL_pure (v := .int .i64 (((kids).length : Int))) rfl (Pu.lenSl Tryz.runUnderlying28 hv3) ?_
  refine JL_pure (v := .int .i64 (0)) rfl (Pu.move rfl) ?_
  refine JL_nil ?_
  refine J_block ?_
  refine J_loop (fun k ρ M => ∃ (j : Nat), ρ 2 = .int .i64 (0) ∧ ρ 3 = .int .i64 ((bindsL (kids.take j) : Int)) ∧ ρ 10 = ks ∧ ρ 11 = .int .i64 (((kids).length : Int)) ∧ ρ 12 = .int .i64 ((j : Int)) ∧ Sub [[(b1, .cells ⟨pkP (kind) (num) (ref) (ks)⟩ 30 (0, 0))]] M ∧ j ≤ (kids).length ∧ k = (kids).length - j) _ ⟨0, rfl, rfl, rfl, rfl, rfl, (Sk Sub.nil), Nat.zero_le _, rfl⟩ ?_
  rintro _ ρ4 _ ⟨j, e5, e6, e7, e8, e9, hm10, hj, rfl⟩
  obtain ⟨ρ11, rfl⟩ := reopen_ex (uc e5 (uc e6 (uc e7 (uc e8 (uc e9 un)))))
  clear e5 e6 e7 e8 e9
  refine J_sub hm10 ?_
  have hlen := hks.le
  refine J_seq ?_
  refine J_region ?_
  refine JL_pure (v := .bool (decide ((j : Int) < ((kids).length : Int)))) rfl (Pu.lss rfl rfl) ?_
  refine JL_nil ?_
  refine J_seq ?_
  refine J_cond (b := decide ((j : Int) < ((kids).length : Int))) rfl (fun h12 => ?_) (fun h12 => ?_)
  ·skip
   replace h12 := dt h12
   have h12n : j < (kids).length := by omega
   have hm1 := binds_mem kids _ (List.getElem_mem h12n)
   have hm2 := bindsL_take kids _ h12n
   have hm3 := bindsL_take_le kids (j + 1)
   rw [if_neg (by assumption)] at hb
   refine J_skip ?_
   refine J_seq ?_
   refine J_block ?_
   refine J_seq ?_
   refine J_region ?_
   obtain ⟨b13, o13, cap13, row13, T13, fr13, cs13, hv13, hb13, hs13, hE13⟩ := hks.get j (by first | assumption | omega | decide | simp)
   refine JL_pure (v := .pointer (some ⟨b13, o13 + j * 35, none⟩)) rfl (Pu.idx j Tryz.runUnderlying28 ty30 hv13 rfl rfl (by first | assumption | omega | decide | simp)) ?_
   refine JL_run rfl (Pu_load ty30 rfl (At.im hb13) hs13 ?_)
   refine JL_run rfl (Runs_alloc (l := pkP (0) (0) (zS) (.slice none 0 0)) Tryz.zeroValue30 rfl fun b14 => ?_)
   refine JL_run rfl (Runs_storeB 0 (vs := cs13) (l := cs13) ty30 rfl rfl rfl rfl (RP_len hE13) (RP_ok hE13) (spl_a (n := 35) rfl (RP_len hE13)) ?_)
   refine JL_nil ?_
   refine J_region ?_
   refine JL_pure (v := .int .i64 ((bindsL (kids.take j) : Int))) rfl (Pu.move rfl) ?_
   refine JL_run rfl (Pu_load ty30 rfl (At.bx 0 rfl) (sub_a (RP_len hE13)) ?_)
   refine JL_call rfl Tryz.call53 rfl (fun hin => ih _ (List.getElem_mem h12n) _ _ (RP.mono (Hle.hu _ _) hE13) (by omega)) rfl ?_
   rintro _ _ ⟨rfl, rfl⟩
   refine JL_pure (v := .int .i64 ((bindsL (kids.take j) : Int) + ((binds ((kids)[j]) : Int)))) rfl (Pu.add64 rfl rfl (by first | omega | (constructor <;> omega))) ?_
   refine JL_pure (v := .int .i64 ((bindsL (kids.take j) : Int) + ((binds ((kids)[j]) : Int)))) rfl (Pu.assign rfl) ?_
   refine JL_nil ?_
   refine J_region ?_
   refine JL_pure (v := .int .i64 (((j + 1 : Nat) : Int))) rfl (Pu.inc rfl rfl (by omega)) ?_
   refine JL_pure (v := .int .i64 (((j + 1 : Nat) : Int))) rfl (Pu.move rfl) ?_
   refine JL_nil ?_
   refine ⟨_, ?_, (j + 1), rfl, (ieq rfl (by omega)), rfl, rfl, rfl, (Sd (Sk Sub.nil)), ?_, rfl⟩
   ·omega
   ·omega
  ·skip
   replace h12 := df h12
   have h12n : (kids).length ≤ j := by omega
   refine J_exit _ rfl ?_
   refine J_seq ?_
   refine J_region ?_
   refine JL_pure (v := .int .i64 ((bindsL (kids.take j) : Int))) rfl (Pu.move rfl) ?_
   refine JL_pure (v := .int .i64 ((bindsL (kids.take j) : Int))) rfl (Pu.assign rfl) ?_
   refine JL_nil ?_
   refine J_ret ?_
   refine ⟨.int .i64 ((bindsL (kids.take j) : Int)), [], Ret.one rfl (RV.tmp rfl), Sub.nil, ?_⟩
   exact ⟨by rw [if_neg (by assumption), List.take_of_length_le h12n], rfl⟩
end Go.Proofs.YtdeinimmmjichaaGreat.Hs
/-! Walks, printed by a program of this session's own (gen.py). -/
namespace Go.Proofs.YtdeinimmmjichaaGreat.Hs
open Go Go.Proofs
set_option maxRecDepth 100000
set_option linter.unusedVariables false
set_option linter.unusedSimpArgs false
attribute [local irreducible] JL J CT wlo
theorem moreR_ct (k j : Int) (H : Heap) : CT Tryz.prog 87 ⟨[.int .i64 (k), .int .i64 (j)]⟩ [] H (fun v N => v = .int .i64 (more k j) ∧ N = []) := by
 refine CT_enter Tryz.func87 rfl rfl ?_
 refine J_seq ?_
 refine J_region ?_
 refine JL_pure (v := .int .i64 (0)) rfl (Pu.assign rfl) ?_
 refine JL_nil ?_
 refine J_seq ?_
 refine J_block ?_
 refine J_seq ?_
 refine J_seq ?_
 refine J_region ?_
 refine JL_pure (v := .int .i64 (k)) rfl (Pu.move rfl) ?_
 refine JL_pure (v := .bool (decide (k = 3))) rfl (Pu.eql rfl rfl) ?_
 refine JL_pure (v := .bool (decide (k = 3))) rfl (Pu.assign rfl) ?_
 refine JL_nil ?_
 refine J_cond (b := decide (k = 3)) rfl (fun h1 => ?_) (fun h1 => ?_)
 ·skip
  replace h1 := dt h1
  refine J_skip ?_
  refine J_cond (b := decide (k = 3)) rfl (fun _ => ?_) (fun h2 => absurd h1 (df h2))
  refine J_seq ?_
  refine J_region ?_
  refine JL_pure (v := .int .i64 (1)) rfl (Pu.assign rfl) ?_
  refine JL_nil ?_
  refine J_ret ?_
  refine ⟨.int .i64 (1), [], Ret.one rfl (RV.tmp rfl), Sub.nil, ?_⟩
  exact ⟨by first | (simp_all [more]; done) | (congr 1; unfold more; simp_all; try omega), rfl⟩
 ·skip
  replace h1 := df h1
  refine J_cut (fun ρ M => ρ 0 = .int .i64 (k) ∧ ρ 1 = .int .i64 (j) ∧ ρ 4 = .int .i64 (0) ∧ ρ 5 = .bool ((decide (k = 5)) && (decide (j = 1))) ∧ M = []) ?_ ?_
  ·refine J_region ?_
   refine JL_pure (v := .int .i64 (k)) rfl (Pu.move rfl) ?_
   refine JL_pure (v := .bool (decide (k = 5))) rfl (Pu.eql rfl rfl) ?_
   refine JL_pure (v := .bool (decide (k = 5))) rfl (Pu.move rfl) ?_
   cases h3 : (decide (k = 5)) with
   | true =>
    replace h3 := dt h3
    refine JL_pure (v := .int .i64 (j)) rfl (Pu.move rfl) ?_
    refine JL_pure (v := .bool (decide (j = 1))) rfl (Pu.eql rfl rfl) ?_
    refine JL_pure (v := .bool (decide (j = 1))) rfl (Pu.pickT rfl rfl) ?_
    refine JL_pure (v := .bool (decide (j = 1))) rfl (Pu.assign rfl) ?_
    refine JL_nil ?_
    first | exact ⟨rfl, rfl, rfl, rfl, rfl⟩ | (exfalso; omega)
   | false =>
    replace h3 := df h3
    refine JL_skip rfl ?_
    refine JL_skip rfl ?_
    refine JL_pure (v := .bool (false)) rfl (Pu.pickF rfl rfl) ?_
    refine JL_pure (v := .bool (false)) rfl (Pu.assign rfl) ?_
    refine JL_nil ?_
    first | exact ⟨rfl, rfl, rfl, rfl, rfl⟩ | (exfalso; omega)
  ·rintro ρ4 _ ⟨e5, e6, e7, e8, rfl⟩
   obtain ⟨ρ9, rfl⟩ := reopen_ex (uc e5 (uc e6 (uc e7 (uc e8 un))))
   clear e5 e6 e7 e8
   refine J_cond (b := (decide (k = 5)) && (decide (j = 1))) rfl (fun h10 => ?_) (fun h10 => ?_)
   ·skip
    obtain ⟨h10a, h10b⟩ := andT h10
    replace h10a := dt h10a
    replace h10b := dt h10b
    refine J_skip ?_
    refine J_cond (b := (decide (k = 5)) && (decide (j = 1))) rfl (fun h11 => ?_) (fun h11 => ?_)
    ·skip
     obtain ⟨h11a, h11b⟩ := andT h11
     replace h11a := dt h11a
     replace h11b := dt h11b
     refine J_seq ?_
     refine J_region ?_
     refine JL_pure (v := .int .i64 (1)) rfl (Pu.assign rfl) ?_
     refine JL_nil ?_
     refine J_ret ?_
     refine ⟨.int .i64 (1), [], Ret.one rfl (RV.tmp rfl), Sub.nil, ?_⟩
     exact ⟨by first | (simp_all [more]; done) | (congr 1; unfold more; simp_all; try omega), rfl⟩
    ·skip
     refine J_cut (fun ρ M => ρ 4 = .int .i64 (0) ∧ ρ 20 = .bool ((decide (k = 12)) && (decide (1 < j))) ∧ M = []) ?_ ?_
     ·refine J_region ?_
      refine JL_pure (v := .int .i64 (k)) rfl (Pu.move rfl) ?_
      refine JL_pure (v := .bool (decide (k = 12))) rfl (Pu.eql rfl rfl) ?_
      refine JL_pure (v := .bool (decide (k = 12))) rfl (Pu.move rfl) ?_
      cases h12 : (decide (k = 12)) with
      | true =>
       replace h12 := dt h12
       refine JL_pure (v := .int .i64 (j)) rfl (Pu.move rfl) ?_
       refine JL_pure (v := .bool (decide (1 < j))) rfl (Pu.gtr rfl rfl) ?_
       refine JL_pure (v := .bool (decide (1 < j))) rfl (Pu.pickT rfl rfl) ?_
       refine JL_pure (v := .bool (decide (1 < j))) rfl (Pu.assign rfl) ?_
       refine JL_nil ?_
       first | exact ⟨rfl, rfl, rfl⟩ | (exfalso; omega)
      | false =>
       replace h12 := df h12
       refine JL_skip rfl ?_
       refine JL_skip rfl ?_
       refine JL_pure (v := .bool (false)) rfl (Pu.pickF rfl rfl) ?_
       refine JL_pure (v := .bool (false)) rfl (Pu.assign rfl) ?_
       refine JL_nil ?_
       first | exact ⟨rfl, rfl, rfl⟩ | (exfalso; omega)
     ·rintro ρ13 _ ⟨e14, e15, rfl⟩
      obtain ⟨ρ16, rfl⟩ := reopen_ex (uc e14 (uc e15 un))
      clear e14 e15
      refine J_cond (b := (decide (k = 12)) && (decide (1 < j))) rfl (fun h17 => ?_) (fun h17 => ?_)
      ·skip
       obtain ⟨h17a, h17b⟩ := andT h17
       replace h17a := dt h17a
       replace h17b := dt h17b
       refine J_seq ?_
       refine J_region ?_
       refine JL_pure (v := .int .i64 (2)) rfl (Pu.assign rfl) ?_
       refine JL_nil ?_
       refine J_ret ?_
       refine ⟨.int .i64 (2), [], Ret.one rfl (RV.tmp rfl), Sub.nil, ?_⟩
       exact ⟨by first | (simp_all [more]; done) | (congr 1; unfold more; simp_all; try omega), rfl⟩
      ·skip
       refine J_skip ?_
       refine J_seq ?_
       refine J_region ?_
       refine JL_pure (v := .int .i64 (0)) rfl (Pu.assign rfl) ?_
       refine JL_nil ?_
       refine J_ret ?_
       refine ⟨.int .i64 (0), [], Ret.one rfl (RV.tmp rfl), Sub.nil, ?_⟩
       exact ⟨by first | (simp_all [more]; done) | (congr 1; unfold more; simp_all; try omega), rfl⟩
   ·skip
    refine J_weak (N := fun ρ M => ρ 0 = .int .i64 (k) ∧ ρ 1 = .int .i64 (j) ∧ ρ 4 = .int .i64 (0) ∧ ρ 5 = .bool ((decide (k = 12)) && (decide (j = 1))) ∧ M = []) ?_ ?_
    ·refine J_region ?_
     refine JL_pure (v := .int .i64 (k)) rfl (Pu.move rfl) ?_
     refine JL_pure (v := .bool (decide (k = 12))) rfl (Pu.eql rfl rfl) ?_
     refine JL_pure (v := .bool (decide (k = 12))) rfl (Pu.move rfl) ?_
     cases h18 : (decide (k = 12)) with
     | true =>
      replace h18 := dt h18
      refine JL_pure (v := .int .i64 (j)) rfl (Pu.move rfl) ?_
      refine JL_pure (v := .bool (decide (j = 1))) rfl (Pu.eql rfl rfl) ?_
      refine JL_pure (v := .bool (decide (j = 1))) rfl (Pu.pickT rfl rfl) ?_
      refine JL_pure (v := .bool (decide (j = 1))) rfl (Pu.assign rfl) ?_
      refine JL_nil ?_
      first | exact ⟨rfl, rfl, rfl, rfl, rfl⟩ | (exfalso; omega)
     | false =>
      replace h18 := df h18
      refine JL_skip rfl ?_
      refine JL_skip rfl ?_
      refine JL_pure (v := .bool (false)) rfl (Pu.pickF rfl rfl) ?_
      refine JL_pure (v := .bool (false)) rfl (Pu.assign rfl) ?_
      refine JL_nil ?_
      first | exact ⟨rfl, rfl, rfl, rfl, rfl⟩ | (exfalso; omega)
    ·rintro ρ19 _ ⟨e20, e21, e22, e23, rfl⟩
     obtain ⟨ρ24, rfl⟩ := reopen_ex (uc e20 (uc e21 (uc e22 (uc e23 un))))
     clear e20 e21 e22 e23
     refine J_cond (b := (decide (k = 12)) && (decide (j = 1))) rfl (fun h25 => ?_) (fun h25 => ?_)
     ·skip
      obtain ⟨h25a, h25b⟩ := andT h25
      replace h25a := dt h25a
      replace h25b := dt h25b
      refine J_seq ?_
      refine J_region ?_
      refine JL_pure (v := .int .i64 (1)) rfl (Pu.assign rfl) ?_
      refine JL_nil ?_
      refine J_ret ?_
      refine ⟨.int .i64 (1), [], Ret.one rfl (RV.tmp rfl), Sub.nil, ?_⟩
      exact ⟨by first | (simp_all [more]; done) | (congr 1; unfold more; simp_all; try omega), rfl⟩
     ·skip
      refine J_cut (fun ρ M => ρ 4 = .int .i64 (0) ∧ ρ 20 = .bool ((decide (k = 12)) && (decide (1 < j))) ∧ M = []) ?_ ?_
      ·refine J_region ?_
       refine JL_pure (v := .int .i64 (k)) rfl (Pu.move rfl) ?_
       refine JL_pure (v := .bool (decide (k = 12))) rfl (Pu.eql rfl rfl) ?_
       refine JL_pure (v := .bool (decide (k = 12))) rfl (Pu.move rfl) ?_
       cases h26 : (decide (k = 12)) with
       | true =>
        replace h26 := dt h26
        refine JL_pure (v := .int .i64 (j)) rfl (Pu.move rfl) ?_
        refine JL_pure (v := .bool (decide (1 < j))) rfl (Pu.gtr rfl rfl) ?_
        refine JL_pure (v := .bool (decide (1 < j))) rfl (Pu.pickT rfl rfl) ?_
        refine JL_pure (v := .bool (decide (1 < j))) rfl (Pu.assign rfl) ?_
        refine JL_nil ?_
        first | exact ⟨rfl, rfl, rfl⟩ | (exfalso; omega)
       | false =>
        replace h26 := df h26
        refine JL_skip rfl ?_
        refine JL_skip rfl ?_
        refine JL_pure (v := .bool (false)) rfl (Pu.pickF rfl rfl) ?_
        refine JL_pure (v := .bool (false)) rfl (Pu.assign rfl) ?_
        refine JL_nil ?_
        first | exact ⟨rfl, rfl, rfl⟩ | (exfalso; omega)
      ·rintro ρ27 _ ⟨e28, e29, rfl⟩
       obtain ⟨ρ30, rfl⟩ := reopen_ex (uc e28 (uc e29 un))
       clear e28 e29
       refine J_cond (b := (decide (k = 12)) && (decide (1 < j))) rfl (fun h31 => ?_) (fun h31 => ?_)
       ·skip
        obtain ⟨h31a, h31b⟩ := andT h31
        replace h31a := dt h31a
        replace h31b := dt h31b
        refine J_seq ?_
        refine J_region ?_
        refine JL_pure (v := .int .i64 (2)) rfl (Pu.assign rfl) ?_
        refine JL_nil ?_
        refine J_ret ?_
        refine ⟨.int .i64 (2), [], Ret.one rfl (RV.tmp rfl), Sub.nil, ?_⟩
        exact ⟨by first | (simp_all [more]; done) | (congr 1; unfold more; simp_all; try omega), rfl⟩
       ·skip
        refine J_skip ?_
        refine J_seq ?_
        refine J_region ?_
        refine JL_pure (v := .int .i64 (0)) rfl (Pu.assign rfl) ?_
        refine JL_nil ?_
        refine J_ret ?_
        refine ⟨.int .i64 (0), [], Ret.one rfl (RV.tmp rfl), Sub.nil, ?_⟩
        exact ⟨by first | (simp_all [more]; done) | (congr 1; unfold more; simp_all; try omega), rfl⟩
theorem offR_ct (n lo hi : Int) (H : Heap) : CT Tryz.prog 94 ⟨[.int .i64 (n), .int .i64 (lo), .int .i64 (hi)]⟩ [] H (fun v N => v = .bool (decide (n < lo ∨ hi < n)) ∧ N = []) := by
 refine CT_enter Tryz.func94 rfl rfl ?_
 refine J_seq ?_
 refine J_region ?_
 refine JL_pure (v := .bool (false)) rfl (Pu.assign rfl) ?_
 refine JL_nil ?_
 refine J_cut (fun ρ M => ρ 6 = .bool ((decide (n < lo)) || (decide (hi < n))) ∧ M = []) ?_ ?_
 ·refine J_region ?_
  refine JL_pure (v := .int .i64 (n)) rfl (Pu.move rfl) ?_
  refine JL_pure (v := .int .i64 (lo)) rfl (Pu.move rfl) ?_
  refine JL_pure (v := .bool (decide (n < lo))) rfl (Pu.lss rfl rfl) ?_
  refine JL_pure (v := .bool (decide (n < lo))) rfl (Pu.move rfl) ?_
  cases h1 : (decide (n < lo)) with
  | true =>
   replace h1 := dt h1
   refine JL_skip rfl ?_
   refine JL_skip rfl ?_
   refine JL_skip rfl ?_
   refine JL_pure (v := .bool (true)) rfl (Pu.pickT rfl rfl) ?_
   refine JL_pure (v := .bool (true)) rfl (Pu.assign rfl) ?_
   refine JL_nil ?_
   first | exact ⟨rfl, rfl⟩ | (exfalso; omega)
  | false =>
   replace h1 := df h1
   refine JL_pure (v := .int .i64 (n)) rfl (Pu.move rfl) ?_
   refine JL_pure (v := .int .i64 (hi)) rfl (Pu.move rfl) ?_
   refine JL_pure (v := .bool (decide (hi < n))) rfl (Pu.gtr rfl rfl) ?_
   refine JL_pure (v := .bool (decide (hi < n))) rfl (Pu.pickF rfl rfl) ?_
   refine JL_pure (v := .bool (decide (hi < n))) rfl (Pu.assign rfl) ?_
   refine JL_nil ?_
   first | exact ⟨rfl, rfl⟩ | (exfalso; omega)
 ·rintro ρ2 _ ⟨e3, rfl⟩
  obtain ⟨ρ4, rfl⟩ := reopen_ex (uc e3 un)
  clear e3
  refine J_ret ?_
  refine ⟨.bool ((decide (n < lo)) || (decide (hi < n))), [], Ret.one rfl (RV.tmp rfl), Sub.nil, ?_⟩
  exact ⟨by simp, rfl⟩
theorem bindsR_ct : ∀ (p : Pt) (cs : List Value) (H : Heap), RP H cs p → binds p ≤ 1000000 → CT Tryz.prog 49 ⟨[.agg ⟨cs⟩]⟩ [] H (fun v N => v = .int .i64 (binds p : Int) ∧ N = []) := by
 intro p
 induction p using Pt.ind with
 | h kind num ref kids ih =>
 intro cs H hp hb
 obtain ⟨ks, rfl, hk, hn, hks⟩ := RP_mk.1 hp
 rw [binds] at hb ⊢
 refine CT_enter Tryz.func49 rfl rfl ?_
 refine J_seq ?_
 refine J_region ?_
 refine JL_run rfl (Runs_box (l := pkP (kind) (num) (ref) (ks)) rfl rfl fun b1 => ?_)
 refine JL_pure (v := .int .i64 (0)) rfl (Pu.assign rfl) ?_
 refine JL_nil ?_
 refine J_seq ?_
 refine J_seq ?_
 refine J_region ?_
 refine JL_pure (v := .pointer (some ⟨b1, 0, none⟩)) rfl (fa30_0 rfl rfl) ?_
 refine JL_run rfl (Pu_load1 ty3 rfl (At.bx 0 rfl) (pkP_0 ..) ?_)
 refine JL_pure (v := .bool (decide (kind = 1))) rfl (Pu.eql rfl rfl) ?_
 refine JL_nil ?_
 refine J_cond (b := decide (kind = 1)) rfl (fun h2 => ?_) (fun h2 => ?_)
 ·skip
  replace h2 := dt h2
  refine J_seq ?_
  refine J_region ?_
  refine JL_pure (v := .int .i64 (1)) rfl (Pu.assign rfl) ?_
  refine JL_nil ?_
  refine J_ret ?_
  refine ⟨.int .i64 (1), [], Ret.one rfl (RV.tmp rfl), Sub.nil, ?_⟩
  exact ⟨by rw [if_pos (by assumption)]; rfl, rfl⟩
 ·skip
  replace h2 := df h2
  refine J_skip ?_
  refine J_seq ?_
  refine J_region ?_
  refine JL_pure (v := .int .i64 (0)) rfl (Pu.assign rfl) ?_
  refine JL_nil ?_
  refine J_seq ?_
  refine J_seq ?_
  refine J_region ?_
  refine JL_pure (v := .int .i64 (0)) rfl (Pu.assign rfl) ?_
  refine JL_nil ?_
  refine J_block ?_
  refine J_loop (fun k ρ M => ∃ (j : Nat), ρ 1 = .pointer (some ⟨b1, 0, none⟩) ∧ ρ 2 = .int .i64 (0) ∧ ρ 3 = .int .i64 ((bindsL (kids.take j) : Int)) ∧ ρ 4 = .int .i64 ((j : Int)) ∧ Sub [[(b1, .cells ⟨pkP (kind) (num) (ref) (ks)⟩ 30 (0, 0))]] M ∧ j ≤ (kids).length ∧ k = (kids).length - j) _ ⟨0, rfl, rfl, rfl, rfl, (Sk Sub.nil), Nat.zero_le _, rfl⟩ ?_
  rintro _ ρ3 _ ⟨j, e4, e5, e6, e7, hm8, hj, rfl⟩
  obtain ⟨ρ9, rfl⟩ := reopen_ex (uc e4 (uc e5 (uc e6 (uc e7 un))))
  clear e4 e5 e6 e7
  refine J_sub hm8 ?_
  have hlen := hks.le
  refine J_seq ?_
  refine J_seq ?_
  refine J_region ?_
  refine JL_pure (v := .int .i64 ((j : Int))) rfl (Pu.move rfl) ?_
  refine JL_pure (v := .pointer (some ⟨b1, 34, none⟩)) rfl (fa30_3 rfl rfl) ?_
  refine JL_run rfl (Pu_load1 ty28 rfl (At.bx 0 rfl) (pkP_34 ..) ?_)
  obtain ⟨a10, cap10, hv10⟩ := hks.sl
  have hle10 := hks.le
  refine JL_pure (v := .int .i64 (((kids).length : Int))) rfl (Pu.lenSl Tryz.runUnderlying28 hv10) ?_
  refine JL_pure (v := .bool (decide ((j : Int) < ((kids).length : Int)))) rfl (Pu.lss rfl rfl) ?_
  refine JL_nil ?_
  refine J_cond (b := decide ((j : Int) < ((kids).length : Int))) rfl (fun h11 => ?_) (fun h11 => ?_)
  ·skip
   replace h11 := dt h11
   have h11n : j < (kids).length := by omega
   have hm1 := binds_mem kids _ (List.getElem_mem h11n)
   have hm2 := bindsL_take kids _ h11n
   have hm3 := bindsL_take_le kids (j + 1)
   rw [if_neg (by assumption)] at hb
   refine J_skip ?_
   refine J_seq ?_
   refine J_block ?_
   refine J_region ?_
   refine JL_pure (v := .int .i64 ((bindsL (kids.take j) : Int))) rfl (Pu.move rfl) ?_
   refine JL_pure (v := .pointer (some ⟨b1, 34, none⟩)) rfl (fa30_3 rfl rfl) ?_
   refine JL_run rfl (Pu_load1 ty28 rfl (At.bx 0 rfl) (pkP_34 ..) ?_)
   refine JL_pure (v := .int .i64 ((j : Int))) rfl (Pu.move rfl) ?_
   obtain ⟨b12, o12, cap12, row12, T12, fr12, cs12, hv12, hb12, hs12, hE12⟩ := hks.get j (by first | assumption | omega | decide | simp)
   refine JL_pure (v := .pointer (some ⟨b12, o12 + j * 35, none⟩)) rfl (Pu.idx j Tryz.runUnderlying28 ty30 hv12 rfl rfl (by first | assumption | omega | decide | simp)) ?_
   refine JL_run rfl (Pu_load ty30 rfl (At.im hb12) hs12 ?_)
   refine JL_call rfl Tryz.call49 rfl (fun hin => ih _ (List.getElem_mem h11n) _ _ (RP.mono (Hle.hu _ _) hE12) (by omega)) rfl ?_
   rintro _ _ ⟨rfl, rfl⟩
   refine JL_pure (v := .int .i64 ((bindsL (kids.take j) : Int) + ((binds ((kids)[j]) : Int)))) rfl (Pu.add64 rfl rfl (by first | omega | (constructor <;> omega))) ?_
   refine JL_pure (v := .int .i64 ((bindsL (kids.take j) : Int) + ((binds ((kids)[j]) : Int)))) rfl (Pu.assign rfl) ?_
   refine JL_nil ?_
   refine J_region ?_
   refine JL_pure (v := .int .i64 ((j : Int))) rfl (Pu.move rfl) ?_
   refine JL_pure (v := .int .i64 (((j + 1 : Nat) : Int))) rfl (Pu.inc rfl rfl (by omega)) ?_
   refine JL_pure (v := .int .i64 (((j + 1 : Nat) : Int))) rfl (Pu.assign rfl) ?_
   refine JL_nil ?_
   refine ⟨_, ?_, (j + 1), rfl, rfl, (ieq rfl (by omega)), rfl, (Sk Sub.nil), ?_, rfl⟩
   ·omega
   ·omega
  ·skip
   replace h11 := df h11
   have h11n : (kids).length ≤ j := by omega
   refine J_exit _ rfl ?_
   refine J_seq ?_
   refine J_region ?_
   refine JL_pure (v := .int .i64 ((bindsL (kids.take j) : Int))) rfl (Pu.move rfl) ?_
   refine JL_pure (v := .int .i64 ((bindsL (kids.take j) : Int))) rfl (Pu.assign rfl) ?_
   refine JL_nil ?_
   refine J_ret ?_
   refine ⟨.int .i64 ((bindsL (kids.take j) : Int)), [], Ret.one rfl (RV.tmp rfl), Sub.nil, ?_⟩
   exact ⟨by rw [if_neg (by assumption), List.take_of_length_le h11n], rfl⟩
theorem hasNum_ct (k : Int) (H : Heap) : CT Tryz.prog 95 ⟨[.int .i64 (k)]⟩ [] H (fun v N => v = .bool (hasNumB k) ∧ N = []) := by
 refine CT_enter Tryz.func95 rfl rfl ?_
 refine J_seq ?_
 refine J_region ?_
 refine JL_pure (v := .bool (false)) rfl (Pu.assign rfl) ?_
 refine JL_nil ?_
 refine J_cut (fun ρ M => ρ 2 = .bool ((((((decide (k = 1)) || (decide (k = 2))) || (decide (k = 7))) || (decide (k = 8))) || (decide (k = 10))) || (decide (k = 11))) ∧ M = []) ?_ ?_
 ·refine J_region ?_
  refine JL_pure (v := .int .i64 (k)) rfl (Pu.move rfl) ?_
  refine JL_pure (v := .bool (decide (k = 1))) rfl (Pu.eql rfl rfl) ?_
  refine JL_pure (v := .bool (decide (k = 1))) rfl (Pu.move rfl) ?_
  cases h1 : (decide (k = 1)) with
  | true =>
   replace h1 := dt h1
   refine JL_skip rfl ?_
   refine JL_skip rfl ?_
   refine JL_pure (v := .bool (true)) rfl (Pu.pickT rfl rfl) ?_
   refine JL_pure (v := .bool (true)) rfl (Pu.move rfl) ?_
   refine JL_skip rfl ?_
   refine JL_skip rfl ?_
   refine JL_pure (v := .bool (true)) rfl (Pu.pickT rfl rfl) ?_
   refine JL_pure (v := .bool (true)) rfl (Pu.move rfl) ?_
   refine JL_skip rfl ?_
   refine JL_skip rfl ?_
   refine JL_pure (v := .bool (true)) rfl (Pu.pickT rfl rfl) ?_
   refine JL_pure (v := .bool (true)) rfl (Pu.move rfl) ?_
   refine JL_skip rfl ?_
   refine JL_skip rfl ?_
   refine JL_pure (v := .bool (true)) rfl (Pu.pickT rfl rfl) ?_
   refine JL_pure (v := .bool (true)) rfl (Pu.move rfl) ?_
   refine JL_skip rfl ?_
   refine JL_skip rfl ?_
   refine JL_pure (v := .bool (true)) rfl (Pu.pickT rfl rfl) ?_
   refine JL_pure (v := .bool (true)) rfl (Pu.assign rfl) ?_
   refine JL_nil ?_
   first | exact ⟨rfl, rfl⟩ | (exfalso; omega)
  | false =>
   replace h1 := df h1
   refine JL_pure (v := .int .i64 (k)) rfl (Pu.move rfl) ?_
   refine JL_pure (v := .bool (decide (k = 2))) rfl (Pu.eql rfl rfl) ?_
   refine JL_pure (v := .bool (decide (k = 2))) rfl (Pu.pickF rfl rfl) ?_
   refine JL_pure (v := .bool (decide (k = 2))) rfl (Pu.move rfl) ?_
   cases h2 : (decide (k = 2)) with
   | true =>
    replace h2 := dt h2
    refine JL_skip rfl ?_
    refine JL_skip rfl ?_
    refine JL_pure (v := .bool (true)) rfl (Pu.pickT rfl rfl) ?_
    refine JL_pure (v := .bool (true)) rfl (Pu.move rfl) ?_
    refine JL_skip rfl ?_
    refine JL_skip rfl ?_
    refine JL_pure (v := .bool (true)) rfl (Pu.pickT rfl rfl) ?_
    refine JL_pure (v := .bool (true)) rfl (Pu.move rfl) ?_
    refine JL_skip rfl ?_
    refine JL_skip rfl ?_
    refine JL_pure (v := .bool (true)) rfl (Pu.pickT rfl rfl) ?_
    refine JL_pure (v := .bool (true)) rfl (Pu.move rfl) ?_
    refine JL_skip rfl ?_
    refine JL_skip rfl ?_
    refine JL_pure (v := .bool (true)) rfl (Pu.pickT rfl rfl) ?_
    refine JL_pure (v := .bool (true)) rfl (Pu.assign rfl) ?_
    refine JL_nil ?_
    first | exact ⟨rfl, rfl⟩ | (exfalso; omega)
   | false =>
    replace h2 := df h2
    refine JL_pure (v := .int .i64 (k)) rfl (Pu.move rfl) ?_
    refine JL_pure (v := .bool (decide (k = 7))) rfl (Pu.eql rfl rfl) ?_
    refine JL_pure (v := .bool (decide (k = 7))) rfl (Pu.pickF rfl rfl) ?_
    refine JL_pure (v := .bool (decide (k = 7))) rfl (Pu.move rfl) ?_
    cases h3 : (decide (k = 7)) with
    | true =>
     replace h3 := dt h3
     refine JL_skip rfl ?_
     refine JL_skip rfl ?_
     refine JL_pure (v := .bool (true)) rfl (Pu.pickT rfl rfl) ?_
     refine JL_pure (v := .bool (true)) rfl (Pu.move rfl) ?_
     refine JL_skip rfl ?_
     refine JL_skip rfl ?_
     refine JL_pure (v := .bool (true)) rfl (Pu.pickT rfl rfl) ?_
     refine JL_pure (v := .bool (true)) rfl (Pu.move rfl) ?_
     refine JL_skip rfl ?_
     refine JL_skip rfl ?_
     refine JL_pure (v := .bool (true)) rfl (Pu.pickT rfl rfl) ?_
     refine JL_pure (v := .bool (true)) rfl (Pu.assign rfl) ?_
     refine JL_nil ?_
     first | exact ⟨rfl, rfl⟩ | (exfalso; omega)
    | false =>
     replace h3 := df h3
     refine JL_pure (v := .int .i64 (k)) rfl (Pu.move rfl) ?_
     refine JL_pure (v := .bool (decide (k = 8))) rfl (Pu.eql rfl rfl) ?_
     refine JL_pure (v := .bool (decide (k = 8))) rfl (Pu.pickF rfl rfl) ?_
     refine JL_pure (v := .bool (decide (k = 8))) rfl (Pu.move rfl) ?_
     cases h4 : (decide (k = 8)) with
     | true =>
      replace h4 := dt h4
      refine JL_skip rfl ?_
      refine JL_skip rfl ?_
      refine JL_pure (v := .bool (true)) rfl (Pu.pickT rfl rfl) ?_
      refine JL_pure (v := .bool (true)) rfl (Pu.move rfl) ?_
      refine JL_skip rfl ?_
      refine JL_skip rfl ?_
      refine JL_pure (v := .bool (true)) rfl (Pu.pickT rfl rfl) ?_
      refine JL_pure (v := .bool (true)) rfl (Pu.assign rfl) ?_
      refine JL_nil ?_
      first | exact ⟨rfl, rfl⟩ | (exfalso; omega)
     | false =>
      replace h4 := df h4
      refine JL_pure (v := .int .i64 (k)) rfl (Pu.move rfl) ?_
      refine JL_pure (v := .bool (decide (k = 10))) rfl (Pu.eql rfl rfl) ?_
      refine JL_pure (v := .bool (decide (k = 10))) rfl (Pu.pickF rfl rfl) ?_
      refine JL_pure (v := .bool (decide (k = 10))) rfl (Pu.move rfl) ?_
      cases h5 : (decide (k = 10)) with
      | true =>
       replace h5 := dt h5
       refine JL_skip rfl ?_
       refine JL_skip rfl ?_
       refine JL_pure (v := .bool (true)) rfl (Pu.pickT rfl rfl) ?_
       refine JL_pure (v := .bool (true)) rfl (Pu.assign rfl) ?_
       refine JL_nil ?_
       first | exact ⟨rfl, rfl⟩ | (exfalso; omega)
      | false =>
       replace h5 := df h5
       refine JL_pure (v := .int .i64 (k)) rfl (Pu.move rfl) ?_
       refine JL_pure (v := .bool (decide (k = 11))) rfl (Pu.eql rfl rfl) ?_
       refine JL_pure (v := .bool (decide (k = 11))) rfl (Pu.pickF rfl rfl) ?_
       refine JL_pure (v := .bool (decide (k = 11))) rfl (Pu.assign rfl) ?_
       refine JL_nil ?_
       first | exact ⟨rfl, rfl⟩ | (exfalso; omega)
 ·rintro ρ6 _ ⟨e7, rfl⟩
  obtain ⟨ρ8, rfl⟩ := reopen_ex (uc e7 un)
  clear e7
  refine J_ret ?_
  refine ⟨.bool ((((((decide (k = 1)) || (decide (k = 2))) || (decide (k = 7))) || (decide (k = 8))) || (decide (k = 10))) || (decide (k = 11))), [], Ret.one rfl (RV.tmp rfl), Sub.nil, ?_⟩
  exact ⟨by simp_all [hasNumB], rfl⟩
theorem hasRef_ct (k : Int) (H : Heap) : CT Tryz.prog 96 ⟨[.int .i64 (k)]⟩ [] H (fun v N => v = .bool (hasRefB k) ∧ N = []) := by
 refine CT_enter Tryz.func96 rfl rfl ?_
 refine J_seq ?_
 refine J_region ?_
 refine JL_pure (v := .bool (false)) rfl (Pu.assign rfl) ?_
 refine JL_nil ?_
 refine J_cut (fun ρ M => ρ 2 = .bool ((((decide (k = 6)) || (decide (k = 8))) || (decide (k = 11))) || (decide (k = 12))) ∧ M = []) ?_ ?_
 ·refine J_region ?_
  refine JL_pure (v := .int .i64 (k)) rfl (Pu.move rfl) ?_
  refine JL_pure (v := .bool (decide (k = 6))) rfl (Pu.eql rfl rfl) ?_
  refine JL_pure (v := .bool (decide (k = 6))) rfl (Pu.move rfl) ?_
  cases h1 : (decide (k = 6)) with
  | true =>
   replace h1 := dt h1
   refine JL_skip rfl ?_
   refine JL_skip rfl ?_
   refine JL_pure (v := .bool (true)) rfl (Pu.pickT rfl rfl) ?_
   refine JL_pure (v := .bool (true)) rfl (Pu.move rfl) ?_
   refine JL_skip rfl ?_
   refine JL_skip rfl ?_
   refine JL_pure (v := .bool (true)) rfl (Pu.pickT rfl rfl) ?_
   refine JL_pure (v := .bool (true)) rfl (Pu.move rfl) ?_
   refine JL_skip rfl ?_
   refine JL_skip rfl ?_
   refine JL_pure (v := .bool (true)) rfl (Pu.pickT rfl rfl) ?_
   refine JL_pure (v := .bool (true)) rfl (Pu.assign rfl) ?_
   refine JL_nil ?_
   first | exact ⟨rfl, rfl⟩ | (exfalso; omega)
  | false =>
   replace h1 := df h1
   refine JL_pure (v := .int .i64 (k)) rfl (Pu.move rfl) ?_
   refine JL_pure (v := .bool (decide (k = 8))) rfl (Pu.eql rfl rfl) ?_
   refine JL_pure (v := .bool (decide (k = 8))) rfl (Pu.pickF rfl rfl) ?_
   refine JL_pure (v := .bool (decide (k = 8))) rfl (Pu.move rfl) ?_
   cases h2 : (decide (k = 8)) with
   | true =>
    replace h2 := dt h2
    refine JL_skip rfl ?_
    refine JL_skip rfl ?_
    refine JL_pure (v := .bool (true)) rfl (Pu.pickT rfl rfl) ?_
    refine JL_pure (v := .bool (true)) rfl (Pu.move rfl) ?_
    refine JL_skip rfl ?_
    refine JL_skip rfl ?_
    refine JL_pure (v := .bool (true)) rfl (Pu.pickT rfl rfl) ?_
    refine JL_pure (v := .bool (true)) rfl (Pu.assign rfl) ?_
    refine JL_nil ?_
    first | exact ⟨rfl, rfl⟩ | (exfalso; omega)
   | false =>
    replace h2 := df h2
    refine JL_pure (v := .int .i64 (k)) rfl (Pu.move rfl) ?_
    refine JL_pure (v := .bool (decide (k = 11))) rfl (Pu.eql rfl rfl) ?_
    refine JL_pure (v := .bool (decide (k = 11))) rfl (Pu.pickF rfl rfl) ?_
    refine JL_pure (v := .bool (decide (k = 11))) rfl (Pu.move rfl) ?_
    cases h3 : (decide (k = 11)) with
    | true =>
     replace h3 := dt h3
     refine JL_skip rfl ?_
     refine JL_skip rfl ?_
     refine JL_pure (v := .bool (true)) rfl (Pu.pickT rfl rfl) ?_
     refine JL_pure (v := .bool (true)) rfl (Pu.assign rfl) ?_
     refine JL_nil ?_
     first | exact ⟨rfl, rfl⟩ | (exfalso; omega)
    | false =>
     replace h3 := df h3
     refine JL_pure (v := .int .i64 (k)) rfl (Pu.move rfl) ?_
     refine JL_pure (v := .bool (decide (k = 12))) rfl (Pu.eql rfl rfl) ?_
     refine JL_pure (v := .bool (decide (k = 12))) rfl (Pu.pickF rfl rfl) ?_
     refine JL_pure (v := .bool (decide (k = 12))) rfl (Pu.assign rfl) ?_
     refine JL_nil ?_
     first | exact ⟨rfl, rfl⟩ | (exfalso; omega)
 ·rintro ρ4 _ ⟨e5, rfl⟩
  obtain ⟨ρ6, rfl⟩ := reopen_ex (uc e5 un)
  clear e5
  refine J_ret ?_
  refine ⟨.bool ((((decide (k = 6)) || (decide (k = 8))) || (decide (k = 11))) || (decide (k = 12))), [], Ret.one rfl (RV.tmp rfl), Sub.nil, ?_⟩
  exact ⟨by simp_all [hasRefB], rfl⟩
theorem kidsR_ct (k : Int) (H : Heap) : CT Tryz.prog 97 ⟨[.int .i64 (k)]⟩ [] H (fun v N => v = .tuple ⟨[.int .i64 (loK k), .int .i64 (hiK k)]⟩ ∧ N = []) := by
 refine CT_enter Tryz.func97 rfl rfl ?_
 refine J_seq ?_
 refine J_region ?_
 refine JL_pure (v := .int .i64 (0)) rfl (Pu.assign rfl) ?_
 refine JL_pure (v := .int .i64 (0)) rfl (Pu.assign rfl) ?_
 refine JL_nil ?_
 refine J_seq ?_
 refine J_seq ?_
 refine J_region ?_
 refine JL_pure (v := .int .i64 (k)) rfl (Pu.move rfl) ?_
 refine JL_nil ?_
 refine J_block ?_
 refine J_seq ?_
 refine J_seq ?_
 refine J_region ?_
 refine JL_pure (v := .bool (decide (k = 3))) rfl (Pu.eql rfl rfl) ?_
 refine JL_pure (v := .bool (decide (k = 3))) rfl (Pu.assign rfl) ?_
 refine JL_nil ?_
 refine J_cond (b := decide (k = 3)) rfl (fun h1 => ?_) (fun h1 => ?_)
 ·skip
  replace h1 := dt h1
  refine J_skip ?_
  refine J_cond (b := decide (k = 3)) rfl (fun _ => ?_) (fun h2 => absurd h1 (df h2))
  refine J_seq ?_
  refine J_region ?_
  refine JL_pure (v := .int .i64 (1)) rfl (Pu.assign rfl) ?_
  refine JL_pure (v := .int .i64 (1)) rfl (Pu.assign rfl) ?_
  refine JL_nil ?_
  refine J_ret ?_
  refine ⟨.tuple ⟨[.int .i64 (1), .int .i64 (1)]⟩, [], Ret.two rfl (RV.tmp rfl) (RV.tmp rfl), Sub.nil, ?_⟩
  exact ⟨by simp_all [loK, hiK], rfl⟩
 ·skip
  replace h1 := df h1
  refine J_seq ?_
  refine J_region ?_
  refine JL_pure (v := .bool (decide (k = 9))) rfl (Pu.eql rfl rfl) ?_
  refine JL_pure (v := .bool (decide (k = 9))) rfl (Pu.assign rfl) ?_
  refine JL_nil ?_
  refine J_cond (b := decide (k = 9)) rfl (fun h3 => ?_) (fun h3 => ?_)
  ·skip
   replace h3 := dt h3
   refine J_skip ?_
   refine J_cond (b := decide (k = 9)) rfl (fun _ => ?_) (fun h4 => absurd h3 (df h4))
   refine J_seq ?_
   refine J_region ?_
   refine JL_pure (v := .int .i64 (1)) rfl (Pu.assign rfl) ?_
   refine JL_pure (v := .int .i64 (1)) rfl (Pu.assign rfl) ?_
   refine JL_nil ?_
   refine J_ret ?_
   refine ⟨.tuple ⟨[.int .i64 (1), .int .i64 (1)]⟩, [], Ret.two rfl (RV.tmp rfl) (RV.tmp rfl), Sub.nil, ?_⟩
   exact ⟨by simp_all [loK, hiK], rfl⟩
  ·skip
   replace h3 := df h3
   refine J_region ?_
   refine JL_pure (v := .bool (decide (k = 11))) rfl (Pu.eql rfl rfl) ?_
   refine JL_pure (v := .bool (decide (k = 11))) rfl (Pu.assign rfl) ?_
   refine JL_nil ?_
   refine J_cond (b := decide (k = 11)) rfl (fun h5 => ?_) (fun h5 => ?_)
   ·skip
    replace h5 := dt h5
    refine J_seq ?_
    refine J_region ?_
    refine JL_pure (v := .int .i64 (1)) rfl (Pu.assign rfl) ?_
    refine JL_pure (v := .int .i64 (1)) rfl (Pu.assign rfl) ?_
    refine JL_nil ?_
    refine J_ret ?_
    refine ⟨.tuple ⟨[.int .i64 (1), .int .i64 (1)]⟩, [], Ret.two rfl (RV.tmp rfl) (RV.tmp rfl), Sub.nil, ?_⟩
    exact ⟨by simp_all [loK, hiK], rfl⟩
   ·skip
    replace h5 := df h5
    refine J_seq ?_
    refine J_seq ?_
    refine J_region ?_
    refine JL_pure (v := .bool (decide (k = 4))) rfl (Pu.eql rfl rfl) ?_
    refine JL_pure (v := .bool (decide (k = 4))) rfl (Pu.assign rfl) ?_
    refine JL_nil ?_
    refine J_cond (b := decide (k = 4)) rfl (fun h6 => ?_) (fun h6 => ?_)
    ·skip
     replace h6 := dt h6
     refine J_skip ?_
     refine J_cond (b := decide (k = 4)) rfl (fun _ => ?_) (fun h7 => absurd h6 (df h7))
     refine J_seq ?_
     refine J_region ?_
     refine JL_pure (v := .int .i64 (2)) rfl (Pu.assign rfl) ?_
     refine JL_pure (v := .int .i64 (2)) rfl (Pu.assign rfl) ?_
     refine JL_nil ?_
     refine J_ret ?_
     refine ⟨.tuple ⟨[.int .i64 (2), .int .i64 (2)]⟩, [], Ret.two rfl (RV.tmp rfl) (RV.tmp rfl), Sub.nil, ?_⟩
     exact ⟨by simp_all [loK, hiK], rfl⟩
    ·skip
     replace h6 := df h6
     refine J_seq ?_
     refine J_region ?_
     refine JL_pure (v := .bool (decide (k = 5))) rfl (Pu.eql rfl rfl) ?_
     refine JL_pure (v := .bool (decide (k = 5))) rfl (Pu.assign rfl) ?_
     refine JL_nil ?_
     refine J_cond (b := decide (k = 5)) rfl (fun h8 => ?_) (fun h8 => ?_)
     ·skip
      replace h8 := dt h8
      refine J_skip ?_
      refine J_cond (b := decide (k = 5)) rfl (fun _ => ?_) (fun h9 => absurd h8 (df h9))
      refine J_seq ?_
      refine J_region ?_
      refine JL_pure (v := .int .i64 (2)) rfl (Pu.assign rfl) ?_
      refine JL_pure (v := .int .i64 (2)) rfl (Pu.assign rfl) ?_
      refine JL_nil ?_
      refine J_ret ?_
      refine ⟨.tuple ⟨[.int .i64 (2), .int .i64 (2)]⟩, [], Ret.two rfl (RV.tmp rfl) (RV.tmp rfl), Sub.nil, ?_⟩
      exact ⟨by simp_all [loK, hiK], rfl⟩
     ·skip
      replace h8 := df h8
      refine J_region ?_
      refine JL_pure (v := .bool (decide (k = 10))) rfl (Pu.eql rfl rfl) ?_
      refine JL_pure (v := .bool (decide (k = 10))) rfl (Pu.assign rfl) ?_
      refine JL_nil ?_
      refine J_cond (b := decide (k = 10)) rfl (fun h10 => ?_) (fun h10 => ?_)
      ·skip
       replace h10 := dt h10
       refine J_seq ?_
       refine J_region ?_
       refine JL_pure (v := .int .i64 (2)) rfl (Pu.assign rfl) ?_
       refine JL_pure (v := .int .i64 (2)) rfl (Pu.assign rfl) ?_
       refine JL_nil ?_
       refine J_ret ?_
       refine ⟨.tuple ⟨[.int .i64 (2), .int .i64 (2)]⟩, [], Ret.two rfl (RV.tmp rfl) (RV.tmp rfl), Sub.nil, ?_⟩
       exact ⟨by simp_all [loK, hiK], rfl⟩
      ·skip
       replace h10 := df h10
       refine J_seq ?_
       refine J_region ?_
       refine JL_pure (v := .bool (decide (k = 8))) rfl (Pu.eql rfl rfl) ?_
       refine JL_pure (v := .bool (decide (k = 8))) rfl (Pu.assign rfl) ?_
       refine JL_nil ?_
       refine J_cond (b := decide (k = 8)) rfl (fun h11 => ?_) (fun h11 => ?_)
       ·skip
        replace h11 := dt h11
        refine J_seq ?_
        refine J_region ?_
        refine JL_pure (v := .int .i64 (0)) rfl (Pu.assign rfl) ?_
        refine JL_pure (v := .int .i64 (4)) rfl (Pu.assign rfl) ?_
        refine JL_nil ?_
        refine J_ret ?_
        refine ⟨.tuple ⟨[.int .i64 (0), .int .i64 (4)]⟩, [], Ret.two rfl (RV.tmp rfl) (RV.tmp rfl), Sub.nil, ?_⟩
        exact ⟨by simp_all [loK, hiK], rfl⟩
       ·skip
        replace h11 := df h11
        refine J_seq ?_
        refine J_region ?_
        refine JL_pure (v := .bool (decide (k = 12))) rfl (Pu.eql rfl rfl) ?_
        refine JL_pure (v := .bool (decide (k = 12))) rfl (Pu.assign rfl) ?_
        refine JL_nil ?_
        refine J_cond (b := decide (k = 12)) rfl (fun h12 => ?_) (fun h12 => ?_)
        ·skip
         replace h12 := dt h12
         refine J_seq ?_
         refine J_region ?_
         refine JL_pure (v := .int .i64 (2)) rfl (Pu.assign rfl) ?_
         refine JL_pure (v := .int .i64 (10)) rfl (Pu.assign rfl) ?_
         refine JL_nil ?_
         refine J_ret ?_
         refine ⟨.tuple ⟨[.int .i64 (2), .int .i64 (10)]⟩, [], Ret.two rfl (RV.tmp rfl) (RV.tmp rfl), Sub.nil, ?_⟩
         exact ⟨by simp_all [loK, hiK], rfl⟩
        ·skip
         replace h12 := df h12
         refine J_skip ?_
         refine J_seq ?_
         refine J_region ?_
         refine JL_pure (v := .int .i64 (0)) rfl (Pu.assign rfl) ?_
         refine JL_pure (v := .int .i64 (0)) rfl (Pu.assign rfl) ?_
         refine JL_nil ?_
         refine J_ret ?_
         refine ⟨.tuple ⟨[.int .i64 (0), .int .i64 (0)]⟩, [], Ret.two rfl (RV.tmp rfl) (RV.tmp rfl), Sub.nil, ?_⟩
         exact ⟨by simp_all [loK, hiK], rfl⟩
theorem fields_ct (k : Int) (H : Heap) : CT Tryz.prog 110 ⟨[.int .i64 (k)]⟩ [] H (fun v N => v = .agg ⟨[.bool (fN k), .bool (fR k), .bool (fC k)]⟩ ∧ N = []) := by
 refine CT_enter Tryz.func110 rfl rfl ?_
 refine J_seq ?_
 refine J_region ?_
 refine JL_run rfl (Runs_alloc (l := [.bool (false), .bool (false), .bool (false)]) Tryz.zeroValue141 rfl fun b1 => ?_)
 refine JL_nil ?_
 refine J_seq ?_
 refine J_region ?_
 refine JL_run rfl (Runs_alloc (l := [.bool (false), .bool (false), .bool (false)]) Tryz.zeroValue141 rfl fun b2 => ?_)
 refine JL_nil ?_
 refine J_seq ?_
 refine J_seq ?_
 refine J_region ?_
 refine JL_pure (v := .int .i64 (k)) rfl (Pu.move rfl) ?_
 refine JL_nil ?_
 refine J_block ?_
 refine J_seq ?_
 refine J_seq ?_
 refine J_region ?_
 refine JL_pure (v := .bool (decide (k = 1))) rfl (Pu.eql rfl rfl) ?_
 refine JL_pure (v := .bool (decide (k = 1))) rfl (Pu.assign rfl) ?_
 refine JL_nil ?_
 refine J_cond (b := decide (k = 1)) rfl (fun h3 => ?_) (fun h3 => ?_)
 ·skip
  replace h3 := dt h3
  refine J_skip ?_
  refine J_cond (b := decide (k = 1)) rfl (fun _ => ?_) (fun h4 => absurd h3 (df h4))
  refine J_region ?_
  refine JL_pure (v := .pointer (some ⟨b2, 0, none⟩)) rfl (Pu.idxA 0 Tryz.runUnderlying141 ty4 rfl rfl (by decide) (by decide)) ?_
  refine JL_run rfl (Runs_storeB 0 (vs := [.bool (true)]) (l := [.bool (true), .bool (false), .bool (false)]) ty4 rfl rfl rfl rfl rfl (okc_cons rfl okc_nil) rfl ?_)
  refine JL_nil ?_
  refine J_seq ?_
  refine J_region ?_
  refine JL_run rfl (Pu_load ty141 rfl (At.bx 0 rfl) rfl ?_)
  refine JL_run rfl (Runs_storeB 1 (vs := [.bool (true), .bool (false), .bool (false)]) (l := [.bool (true), .bool (false), .bool (false)]) ty141 rfl rfl rfl rfl rfl (okc_cons rfl (okc_cons rfl (okc_cons rfl okc_nil))) rfl ?_)
  refine JL_nil ?_
  refine J_ret ?_
  refine ⟨.agg ⟨[.bool (true), .bool (false), .bool (false)]⟩, [], Ret.one rfl (RV.cell ty141 rfl (At.bx 1 rfl) rfl), Sub.nil, ?_⟩
  exact ⟨by simp_all [fN, fR, fC], rfl⟩
 ·skip
  replace h3 := df h3
  refine J_seq ?_
  refine J_region ?_
  refine JL_pure (v := .bool (decide (k = 2))) rfl (Pu.eql rfl rfl) ?_
  refine JL_pure (v := .bool (decide (k = 2))) rfl (Pu.assign rfl) ?_
  refine JL_nil ?_
  refine J_cond (b := decide (k = 2)) rfl (fun h5 => ?_) (fun h5 => ?_)
  ·skip
   replace h5 := dt h5
   refine J_skip ?_
   refine J_cond (b := decide (k = 2)) rfl (fun _ => ?_) (fun h6 => absurd h5 (df h6))
   refine J_region ?_
   refine JL_pure (v := .pointer (some ⟨b2, 0, none⟩)) rfl (Pu.idxA 0 Tryz.runUnderlying141 ty4 rfl rfl (by decide) (by decide)) ?_
   refine JL_run rfl (Runs_storeB 0 (vs := [.bool (true)]) (l := [.bool (true), .bool (false), .bool (false)]) ty4 rfl rfl rfl rfl rfl (okc_cons rfl okc_nil) rfl ?_)
   refine JL_nil ?_
   refine J_seq ?_
   refine J_region ?_
   refine JL_run rfl (Pu_load ty141 rfl (At.bx 0 rfl) rfl ?_)
   refine JL_run rfl (Runs_storeB 1 (vs := [.bool (true), .bool (false), .bool (false)]) (l := [.bool (true), .bool (false), .bool (false)]) ty141 rfl rfl rfl rfl rfl (okc_cons rfl (okc_cons rfl (okc_cons rfl okc_nil))) rfl ?_)
   refine JL_nil ?_
   refine J_ret ?_
   refine ⟨.agg ⟨[.bool (true), .bool (false), .bool (false)]⟩, [], Ret.one rfl (RV.cell ty141 rfl (At.bx 1 rfl) rfl), Sub.nil, ?_⟩
   exact ⟨by simp_all [fN, fR, fC], rfl⟩
  ·skip
   replace h5 := df h5
   refine J_seq ?_
   refine J_region ?_
   refine JL_pure (v := .bool (decide (k = 7))) rfl (Pu.eql rfl rfl) ?_
   refine JL_pure (v := .bool (decide (k = 7))) rfl (Pu.assign rfl) ?_
   refine JL_nil ?_
   refine J_cond (b := decide (k = 7)) rfl (fun h7 => ?_) (fun h7 => ?_)
   ·skip
    replace h7 := dt h7
    refine J_skip ?_
    refine J_cond (b := decide (k = 7)) rfl (fun _ => ?_) (fun h8 => absurd h7 (df h8))
    refine J_region ?_
    refine JL_pure (v := .pointer (some ⟨b2, 0, none⟩)) rfl (Pu.idxA 0 Tryz.runUnderlying141 ty4 rfl rfl (by decide) (by decide)) ?_
    refine JL_run rfl (Runs_storeB 0 (vs := [.bool (true)]) (l := [.bool (true), .bool (false), .bool (false)]) ty4 rfl rfl rfl rfl rfl (okc_cons rfl okc_nil) rfl ?_)
    refine JL_nil ?_
    refine J_seq ?_
    refine J_region ?_
    refine JL_run rfl (Pu_load ty141 rfl (At.bx 0 rfl) rfl ?_)
    refine JL_run rfl (Runs_storeB 1 (vs := [.bool (true), .bool (false), .bool (false)]) (l := [.bool (true), .bool (false), .bool (false)]) ty141 rfl rfl rfl rfl rfl (okc_cons rfl (okc_cons rfl (okc_cons rfl okc_nil))) rfl ?_)
    refine JL_nil ?_
    refine J_ret ?_
    refine ⟨.agg ⟨[.bool (true), .bool (false), .bool (false)]⟩, [], Ret.one rfl (RV.cell ty141 rfl (At.bx 1 rfl) rfl), Sub.nil, ?_⟩
    exact ⟨by simp_all [fN, fR, fC], rfl⟩
   ·skip
    replace h7 := df h7
    refine J_region ?_
    refine JL_pure (v := .bool (decide (k = 10))) rfl (Pu.eql rfl rfl) ?_
    refine JL_pure (v := .bool (decide (k = 10))) rfl (Pu.assign rfl) ?_
    refine JL_nil ?_
    refine J_cond (b := decide (k = 10)) rfl (fun h9 => ?_) (fun h9 => ?_)
    ·skip
     replace h9 := dt h9
     refine J_region ?_
     refine JL_pure (v := .pointer (some ⟨b2, 0, none⟩)) rfl (Pu.idxA 0 Tryz.runUnderlying141 ty4 rfl rfl (by decide) (by decide)) ?_
     refine JL_run rfl (Runs_storeB 0 (vs := [.bool (true)]) (l := [.bool (true), .bool (false), .bool (false)]) ty4 rfl rfl rfl rfl rfl (okc_cons rfl okc_nil) rfl ?_)
     refine JL_nil ?_
     refine J_seq ?_
     refine J_region ?_
     refine JL_run rfl (Pu_load ty141 rfl (At.bx 0 rfl) rfl ?_)
     refine JL_run rfl (Runs_storeB 1 (vs := [.bool (true), .bool (false), .bool (false)]) (l := [.bool (true), .bool (false), .bool (false)]) ty141 rfl rfl rfl rfl rfl (okc_cons rfl (okc_cons rfl (okc_cons rfl okc_nil))) rfl ?_)
     refine JL_nil ?_
     refine J_ret ?_
     refine ⟨.agg ⟨[.bool (true), .bool (false), .bool (false)]⟩, [], Ret.one rfl (RV.cell ty141 rfl (At.bx 1 rfl) rfl), Sub.nil, ?_⟩
     exact ⟨by simp_all [fN, fR, fC], rfl⟩
    ·skip
     replace h9 := df h9
     refine J_seq ?_
     refine J_seq ?_
     refine J_region ?_
     refine JL_pure (v := .bool (decide (k = 8))) rfl (Pu.eql rfl rfl) ?_
     refine JL_pure (v := .bool (decide (k = 8))) rfl (Pu.assign rfl) ?_
     refine JL_nil ?_
     refine J_cond (b := decide (k = 8)) rfl (fun h10 => ?_) (fun h10 => ?_)
     ·skip
      replace h10 := dt h10
      refine J_skip ?_
      refine J_cond (b := decide (k = 8)) rfl (fun _ => ?_) (fun h11 => absurd h10 (df h11))
      refine J_region ?_
      refine JL_pure (v := .pointer (some ⟨b2, 0, none⟩)) rfl (Pu.idxA 0 Tryz.runUnderlying141 ty4 rfl rfl (by decide) (by decide)) ?_
      refine JL_run rfl (Runs_storeB 0 (vs := [.bool (true)]) (l := [.bool (true), .bool (false), .bool (false)]) ty4 rfl rfl rfl rfl rfl (okc_cons rfl okc_nil) rfl ?_)
      refine JL_pure (v := .pointer (some ⟨b2, 1, none⟩)) rfl (Pu.idxA 1 Tryz.runUnderlying141 ty4 rfl rfl (by decide) (by decide)) ?_
      refine JL_run rfl (Runs_storeB 0 (vs := [.bool (true)]) (l := [.bool (true), .bool (true), .bool (false)]) ty4 rfl rfl rfl rfl rfl (okc_cons rfl okc_nil) rfl ?_)
      refine JL_nil ?_
      refine J_seq ?_
      refine J_region ?_
      refine JL_run rfl (Pu_load ty141 rfl (At.bx 0 rfl) rfl ?_)
      refine JL_run rfl (Runs_storeB 1 (vs := [.bool (true), .bool (true), .bool (false)]) (l := [.bool (true), .bool (true), .bool (false)]) ty141 rfl rfl rfl rfl rfl (okc_cons rfl (okc_cons rfl (okc_cons rfl okc_nil))) rfl ?_)
      refine JL_nil ?_
      refine J_ret ?_
      refine ⟨.agg ⟨[.bool (true), .bool (true), .bool (false)]⟩, [], Ret.one rfl (RV.cell ty141 rfl (At.bx 1 rfl) rfl), Sub.nil, ?_⟩
      exact ⟨by simp_all [fN, fR, fC], rfl⟩
     ·skip
      replace h10 := df h10
      refine J_region ?_
      refine JL_pure (v := .bool (decide (k = 11))) rfl (Pu.eql rfl rfl) ?_
      refine JL_pure (v := .bool (decide (k = 11))) rfl (Pu.assign rfl) ?_
      refine JL_nil ?_
      refine J_cond (b := decide (k = 11)) rfl (fun h12 => ?_) (fun h12 => ?_)
      ·skip
       replace h12 := dt h12
       refine J_region ?_
       refine JL_pure (v := .pointer (some ⟨b2, 0, none⟩)) rfl (Pu.idxA 0 Tryz.runUnderlying141 ty4 rfl rfl (by decide) (by decide)) ?_
       refine JL_run rfl (Runs_storeB 0 (vs := [.bool (true)]) (l := [.bool (true), .bool (false), .bool (false)]) ty4 rfl rfl rfl rfl rfl (okc_cons rfl okc_nil) rfl ?_)
       refine JL_pure (v := .pointer (some ⟨b2, 1, none⟩)) rfl (Pu.idxA 1 Tryz.runUnderlying141 ty4 rfl rfl (by decide) (by decide)) ?_
       refine JL_run rfl (Runs_storeB 0 (vs := [.bool (true)]) (l := [.bool (true), .bool (true), .bool (false)]) ty4 rfl rfl rfl rfl rfl (okc_cons rfl okc_nil) rfl ?_)
       refine JL_nil ?_
       refine J_seq ?_
       refine J_region ?_
       refine JL_run rfl (Pu_load ty141 rfl (At.bx 0 rfl) rfl ?_)
       refine JL_run rfl (Runs_storeB 1 (vs := [.bool (true), .bool (true), .bool (false)]) (l := [.bool (true), .bool (true), .bool (false)]) ty141 rfl rfl rfl rfl rfl (okc_cons rfl (okc_cons rfl (okc_cons rfl okc_nil))) rfl ?_)
       refine JL_nil ?_
       refine J_ret ?_
       refine ⟨.agg ⟨[.bool (true), .bool (true), .bool (false)]⟩, [], Ret.one rfl (RV.cell ty141 rfl (At.bx 1 rfl) rfl), Sub.nil, ?_⟩
       exact ⟨by simp_all [fN, fR, fC], rfl⟩
      ·skip
       replace h12 := df h12
       refine J_seq ?_
       refine J_seq ?_
       refine J_region ?_
       refine JL_pure (v := .bool (decide (k = 6))) rfl (Pu.eql rfl rfl) ?_
       refine JL_pure (v := .bool (decide (k = 6))) rfl (Pu.assign rfl) ?_
       refine JL_nil ?_
       refine J_cond (b := decide (k = 6)) rfl (fun h13 => ?_) (fun h13 => ?_)
       ·skip
        replace h13 := dt h13
        refine J_skip ?_
        refine J_cond (b := decide (k = 6)) rfl (fun _ => ?_) (fun h14 => absurd h13 (df h14))
        refine J_region ?_
        refine JL_pure (v := .pointer (some ⟨b2, 1, none⟩)) rfl (Pu.idxA 1 Tryz.runUnderlying141 ty4 rfl rfl (by decide) (by decide)) ?_
        refine JL_run rfl (Runs_storeB 0 (vs := [.bool (true)]) (l := [.bool (false), .bool (true), .bool (false)]) ty4 rfl rfl rfl rfl rfl (okc_cons rfl okc_nil) rfl ?_)
        refine JL_nil ?_
        refine J_seq ?_
        refine J_region ?_
        refine JL_run rfl (Pu_load ty141 rfl (At.bx 0 rfl) rfl ?_)
        refine JL_run rfl (Runs_storeB 1 (vs := [.bool (false), .bool (true), .bool (false)]) (l := [.bool (false), .bool (true), .bool (false)]) ty141 rfl rfl rfl rfl rfl (okc_cons rfl (okc_cons rfl (okc_cons rfl okc_nil))) rfl ?_)
        refine JL_nil ?_
        refine J_ret ?_
        refine ⟨.agg ⟨[.bool (false), .bool (true), .bool (false)]⟩, [], Ret.one rfl (RV.cell ty141 rfl (At.bx 1 rfl) rfl), Sub.nil, ?_⟩
        exact ⟨by simp_all [fN, fR, fC], rfl⟩
       ·skip
        replace h13 := df h13
        refine J_region ?_
        refine JL_pure (v := .bool (decide (k = 12))) rfl (Pu.eql rfl rfl) ?_
        refine JL_pure (v := .bool (decide (k = 12))) rfl (Pu.assign rfl) ?_
        refine JL_nil ?_
        refine J_cond (b := decide (k = 12)) rfl (fun h15 => ?_) (fun h15 => ?_)
        ·skip
         replace h15 := dt h15
         refine J_region ?_
         refine JL_pure (v := .pointer (some ⟨b2, 1, none⟩)) rfl (Pu.idxA 1 Tryz.runUnderlying141 ty4 rfl rfl (by decide) (by decide)) ?_
         refine JL_run rfl (Runs_storeB 0 (vs := [.bool (true)]) (l := [.bool (false), .bool (true), .bool (false)]) ty4 rfl rfl rfl rfl rfl (okc_cons rfl okc_nil) rfl ?_)
         refine JL_nil ?_
         refine J_seq ?_
         refine J_region ?_
         refine JL_run rfl (Pu_load ty141 rfl (At.bx 0 rfl) rfl ?_)
         refine JL_run rfl (Runs_storeB 1 (vs := [.bool (false), .bool (true), .bool (false)]) (l := [.bool (false), .bool (true), .bool (false)]) ty141 rfl rfl rfl rfl rfl (okc_cons rfl (okc_cons rfl (okc_cons rfl okc_nil))) rfl ?_)
         refine JL_nil ?_
         refine J_ret ?_
         refine ⟨.agg ⟨[.bool (false), .bool (true), .bool (false)]⟩, [], Ret.one rfl (RV.cell ty141 rfl (At.bx 1 rfl) rfl), Sub.nil, ?_⟩
         exact ⟨by simp_all [fN, fR, fC], rfl⟩
        ·skip
         replace h15 := df h15
         refine J_seq ?_
         refine J_region ?_
         refine JL_pure (v := .bool (decide (k = 9))) rfl (Pu.eql rfl rfl) ?_
         refine JL_pure (v := .bool (decide (k = 9))) rfl (Pu.assign rfl) ?_
         refine JL_nil ?_
         refine J_cond (b := decide (k = 9)) rfl (fun h16 => ?_) (fun h16 => ?_)
         ·skip
          replace h16 := dt h16
          refine J_region ?_
          refine JL_pure (v := .pointer (some ⟨b2, 2, none⟩)) rfl (Pu.idxA 2 Tryz.runUnderlying141 ty4 rfl rfl (by decide) (by decide)) ?_
          refine JL_run rfl (Runs_storeB 0 (vs := [.bool (true)]) (l := [.bool (false), .bool (false), .bool (true)]) ty4 rfl rfl rfl rfl rfl (okc_cons rfl okc_nil) rfl ?_)
          refine JL_nil ?_
          refine J_seq ?_
          refine J_region ?_
          refine JL_run rfl (Pu_load ty141 rfl (At.bx 0 rfl) rfl ?_)
          refine JL_run rfl (Runs_storeB 1 (vs := [.bool (false), .bool (false), .bool (true)]) (l := [.bool (false), .bool (false), .bool (true)]) ty141 rfl rfl rfl rfl rfl (okc_cons rfl (okc_cons rfl (okc_cons rfl okc_nil))) rfl ?_)
          refine JL_nil ?_
          refine J_ret ?_
          refine ⟨.agg ⟨[.bool (false), .bool (false), .bool (true)]⟩, [], Ret.one rfl (RV.cell ty141 rfl (At.bx 1 rfl) rfl), Sub.nil, ?_⟩
          exact ⟨by simp_all [fN, fR, fC], rfl⟩
         ·skip
          replace h16 := df h16
          refine J_skip ?_
          refine J_seq ?_
          refine J_region ?_
          refine JL_run rfl (Pu_load ty141 rfl (At.bx 0 rfl) rfl ?_)
          refine JL_run rfl (Runs_storeB 1 (vs := [.bool (false), .bool (false), .bool (false)]) (l := [.bool (false), .bool (false), .bool (false)]) ty141 rfl rfl rfl rfl rfl (okc_cons rfl (okc_cons rfl (okc_cons rfl okc_nil))) rfl ?_)
          refine JL_nil ?_
          refine J_ret ?_
          refine ⟨.agg ⟨[.bool (false), .bool (false), .bool (false)]⟩, [], Ret.one rfl (RV.cell ty141 rfl (At.bx 1 rfl) rfl), Sub.nil, ?_⟩
          exact ⟨by simp_all [fN, fR, fC], rfl⟩
theorem patternFields_ct (k : Int) (H : Heap) : CT Tryz.prog 118 ⟨[.int .i64 (k)]⟩ [] H (fun v N => v = .agg ⟨[.bool (pfN k), .bool (pfR k), .bool false]⟩ ∧ N = []) := by
 refine CT_enter Tryz.func118 rfl rfl ?_
 refine J_seq ?_
 refine J_region ?_
 refine JL_run rfl (Runs_alloc (l := [.bool (false), .bool (false), .bool (false)]) Tryz.zeroValue141 rfl fun b1 => ?_)
 refine JL_nil ?_
 refine J_seq ?_
 refine J_seq ?_
 refine J_region ?_
 refine JL_pure (v := .int .i64 (k)) rfl (Pu.move rfl) ?_
 refine JL_nil ?_
 refine J_block ?_
 refine J_seq ?_
 refine J_region ?_
 refine JL_pure (v := .bool (decide (k = 2))) rfl (Pu.eql rfl rfl) ?_
 refine JL_pure (v := .bool (decide (k = 2))) rfl (Pu.assign rfl) ?_
 refine JL_nil ?_
 refine J_cond (b := decide (k = 2)) rfl (fun h2 => ?_) (fun h2 => ?_)
 ·skip
  replace h2 := dt h2
  refine J_seq ?_
  refine J_region ?_
  refine JL_pure (v := .agg ⟨[.bool (true), .bool (false), .bool (false)]⟩) rfl (Pu.build (pv := [(0, .bool (true)), (1, .bool (false)), (2, .bool (false))]) (l := [.bool (true), .bool (false), .bool (false)]) rfl (bld141_0_1_2 _ _ _)) ?_
  refine JL_run rfl (Runs_storeB 0 (vs := [.bool (true), .bool (false), .bool (false)]) (l := [.bool (true), .bool (false), .bool (false)]) ty141 rfl rfl rfl rfl rfl (okc_cons rfl (okc_cons rfl (okc_cons rfl okc_nil))) rfl ?_)
  refine JL_nil ?_
  refine J_ret ?_
  refine ⟨.agg ⟨[.bool (true), .bool (false), .bool (false)]⟩, [], Ret.one rfl (RV.cell ty141 rfl (At.bx 0 rfl) rfl), Sub.nil, ?_⟩
  exact ⟨by simp_all [pfN, pfR], rfl⟩
 ·skip
  replace h2 := df h2
  refine J_seq ?_
  refine J_region ?_
  refine JL_pure (v := .bool (decide (k = 3))) rfl (Pu.eql rfl rfl) ?_
  refine JL_pure (v := .bool (decide (k = 3))) rfl (Pu.assign rfl) ?_
  refine JL_nil ?_
  refine J_cond (b := decide (k = 3)) rfl (fun h3 => ?_) (fun h3 => ?_)
  ·skip
   replace h3 := dt h3
   refine J_seq ?_
   refine J_region ?_
   refine JL_pure (v := .agg ⟨[.bool (true), .bool (true), .bool (false)]⟩) rfl (Pu.build (pv := [(0, .bool (true)), (1, .bool (true)), (2, .bool (false))]) (l := [.bool (true), .bool (true), .bool (false)]) rfl (bld141_0_1_2 _ _ _)) ?_
   refine JL_run rfl (Runs_storeB 0 (vs := [.bool (true), .bool (true), .bool (false)]) (l := [.bool (true), .bool (true), .bool (false)]) ty141 rfl rfl rfl rfl rfl (okc_cons rfl (okc_cons rfl (okc_cons rfl okc_nil))) rfl ?_)
   refine JL_nil ?_
   refine J_ret ?_
   refine ⟨.agg ⟨[.bool (true), .bool (true), .bool (false)]⟩, [], Ret.one rfl (RV.cell ty141 rfl (At.bx 0 rfl) rfl), Sub.nil, ?_⟩
   exact ⟨by simp_all [pfN, pfR], rfl⟩
  ·skip
   replace h3 := df h3
   refine J_skip ?_
   refine J_seq ?_
   refine J_region ?_
   refine JL_pure (v := .agg ⟨[.bool (false), .bool (false), .bool (false)]⟩) rfl (Pu.build (pv := []) (l := [.bool (false), .bool (false), .bool (false)]) rfl bld141_) ?_
   refine JL_run rfl (Runs_storeB 0 (vs := [.bool (false), .bool (false), .bool (false)]) (l := [.bool (false), .bool (false), .bool (false)]) ty141 rfl rfl rfl rfl rfl (okc_cons rfl (okc_cons rfl (okc_cons rfl okc_nil))) rfl ?_)
   refine JL_nil ?_
   refine J_ret ?_
   refine ⟨.agg ⟨[.bool (false), .bool (false), .bool (false)]⟩, [], Ret.one rfl (RV.cell ty141 rfl (At.bx 0 rfl) rfl), Sub.nil, ?_⟩
   exact ⟨by simp_all [pfN, pfR], rfl⟩
theorem clash_ct (a b c : Bool) (n : Int) (r : Sm) (m : Int) (H : Heap) : CT Tryz.prog 109 ⟨[.agg ⟨[.bool (a), .bool (b), .bool (c)]⟩, .int .i64 (n), .agg ⟨sC (r)⟩, .int .i64 (m)]⟩ [] H (fun v N => v = .bool (clashB a b c n r m) ∧ N = []) := by
 refine CT_enter Tryz.func109 rfl rfl ?_
 refine J_seq ?_
 refine J_region ?_
 refine JL_run rfl (Runs_box (l := [.bool (a), .bool (b), .bool (c)]) rfl rfl fun b1 => ?_)
 refine JL_run rfl (Runs_box (l := sC (r)) rfl rfl fun b2 => ?_)
 refine JL_pure (v := .bool (false)) rfl (Pu.assign rfl) ?_
 refine JL_nil ?_
 refine J_seq ?_
 refine J_region ?_
 refine JL_pure (v := .int .i64 (n)) rfl (Pu.move rfl) ?_
 refine JL_pure (v := .bool (!decide (n = 0))) rfl (Pu.neq rfl rfl) ?_
 refine JL_run rfl (Pu_load ty23 rfl (At.bx 0 rfl) (sub_a rfl) ?_)
 refine JL_pure (v := .agg ⟨sC (zS)⟩) rfl (Pu.build (pv := []) (l := sC (zS)) rfl bld23_) ?_
 refine JL_pure (v := .bool (!decide (r = zS))) rfl (neqS rfl rfl) ?_
 refine JL_pure (v := .int .i64 (m)) rfl (Pu.move rfl) ?_
 refine JL_pure (v := .bool (decide (0 < m))) rfl (Pu.gtr rfl rfl) ?_
 refine JL_pure (v := .agg ⟨[.bool (!decide (n = 0)), .bool (!decide (r = zS)), .bool (decide (0 < m))]⟩) rfl (Pu.build (pv := [(0, .bool (!decide (n = 0))), (1, .bool (!decide (r = zS))), (2, .bool (decide (0 < m)))]) (l := [.bool (!decide (n = 0)), .bool (!decide (r = zS)), .bool (decide (0 < m))]) rfl (bld141_0_1_2 _ _ _)) ?_
 refine JL_run rfl (Runs_alloc (l := [.bool (false), .bool (false), .bool (false)]) Tryz.zeroValue141 rfl fun b3 => ?_)
 refine JL_run rfl (Runs_storeB 0 (vs := [.bool (!decide (n = 0)), .bool (!decide (r = zS)), .bool (decide (0 < m))]) (l := [.bool (!decide (n = 0)), .bool (!decide (r = zS)), .bool (decide (0 < m))]) ty141 rfl rfl rfl rfl rfl (okc_cons rfl (okc_cons rfl (okc_cons rfl okc_nil))) rfl ?_)
 refine JL_nil ?_
 refine J_seq ?_
 refine J_region ?_
 refine JL_run rfl (Pu_load ty141 rfl (At.bx 0 rfl) rfl ?_)
 refine JL_run rfl (Runs_alloc (l := [.bool (false), .bool (false), .bool (false)]) Tryz.zeroValue141 rfl fun b4 => ?_)
 refine JL_run rfl (Runs_storeB 0 (vs := [.bool (!decide (n = 0)), .bool (!decide (r = zS)), .bool (decide (0 < m))]) (l := [.bool (!decide (n = 0)), .bool (!decide (r = zS)), .bool (decide (0 < m))]) ty141 rfl rfl rfl rfl rfl (okc_cons rfl (okc_cons rfl (okc_cons rfl okc_nil))) rfl ?_)
 refine JL_nil ?_
 refine J_seq ?_
 refine J_seq ?_
 refine J_region ?_
 refine JL_pure (v := .int .i64 (0)) rfl (Pu.move rfl) ?_
 refine JL_nil ?_
 refine J_block ?_
 refine J_rounds 4 ?_
 refine JR_succ ?_
 refine J_seq ?_
 refine J_region ?_
 refine JL_pure (v := .bool (true)) rfl (show Pu _ _ _ (.bool (decide ((0 : Int) < 3))) from Pu.lss rfl rfl) ?_
 refine JL_nil ?_
 refine J_seq ?_
 refine J_cond (b := true) rfl (fun _ => ?_) (fun h => absurd h (by simp))
 refine J_skip ?_
 refine J_seq ?_
 refine J_block ?_
 refine J_seq ?_
 refine J_region ?_
 refine JL_pure (v := .int .i64 (0)) rfl (Pu.move rfl) ?_
 refine JL_pure (v := .int .i64 (0)) rfl (Pu.assign rfl) ?_
 refine JL_nil ?_
 refine J_weak (N := fun ρ M => ρ 4 = .pointer (some ⟨b1, 0, none⟩) ∧ ρ 8 = .bool (false) ∧ ρ 9 = .pointer (some ⟨b3, 0, none⟩) ∧ ρ 10 = .pointer (some ⟨b4, 0, none⟩) ∧ ρ 21 = .int .i64 (0) ∧ M = [[(b4, .cells ⟨[.bool ((!decide (n = 0)) && (a)), .bool (!decide (r = zS)), .bool (decide (0 < m))]⟩ 141 (0, 0))], [(b3, .cells ⟨[.bool (!decide (n = 0)), .bool (!decide (r = zS)), .bool (decide (0 < m))]⟩ 141 (0, 0))], [(b2, .cells ⟨sC (r)⟩ 23 (0, 0))], [(b1, .cells ⟨[.bool (a), .bool (b), .bool (c)]⟩ 141 (0, 0))]]) ?_ ?_
 ·refine J_region ?_
  refine JL_pure (v := .int .i64 (0)) rfl (Pu.move rfl) ?_
  refine JL_pure (v := .int .i64 (0)) rfl (Pu.move rfl) ?_
  refine JL_pure (v := .pointer (some ⟨b3, 0, none⟩)) rfl (Pu.idxA 0 Tryz.runUnderlying141 ty4 rfl rfl (by decide) (by decide)) ?_
  refine JL_run rfl (Pu_load1 ty4 rfl (At.bx 1 rfl) rfl ?_)
  refine JL_pure (v := .bool (!decide (n = 0))) rfl (Pu.move rfl) ?_
  cases h5 : (!decide (n = 0)) with
  | true =>
   replace h5 := nt h5
   replace h5 := df h5
   refine JL_pure (v := .int .i64 (0)) rfl (Pu.move rfl) ?_
   refine JL_pure (v := .pointer (some ⟨b1, 0, none⟩)) rfl (Pu.idxA 0 Tryz.runUnderlying141 ty4 rfl rfl (by decide) (by decide)) ?_
   refine JL_run rfl (Pu_load1 ty4 rfl (At.bx 3 rfl) rfl ?_)
   refine JL_pure (v := .bool (a)) rfl (Pu.pickT rfl rfl) ?_
   refine JL_pure (v := .pointer (some ⟨b4, 0, none⟩)) rfl (Pu.idxA 0 Tryz.runUnderlying141 ty4 rfl rfl (by decide) (by decide)) ?_
   refine JL_run rfl (Runs_storeB 0 (vs := [.bool (a)]) (l := [.bool (a), .bool (!decide (r = zS)), .bool (decide (0 < m))]) ty4 rfl rfl rfl rfl rfl (okc_cons rfl okc_nil) rfl ?_)
   refine JL_nil ?_
   first | exact ⟨rfl, rfl, rfl, rfl, rfl, rfl⟩ | (exfalso; omega)
  | false =>
   replace h5 := nf h5
   replace h5 := dt h5
   refine JL_skip rfl ?_
   refine JL_skip rfl ?_
   refine JL_skip rfl ?_
   refine JL_pure (v := .bool (false)) rfl (Pu.pickF rfl rfl) ?_
   refine JL_pure (v := .pointer (some ⟨b4, 0, none⟩)) rfl (Pu.idxA 0 Tryz.runUnderlying141 ty4 rfl rfl (by decide) (by decide)) ?_
   refine JL_run rfl (Runs_storeB 0 (vs := [.bool (false)]) (l := [.bool (false), .bool (!decide (r = zS)), .bool (decide (0 < m))]) ty4 rfl rfl rfl rfl rfl (okc_cons rfl okc_nil) rfl ?_)
   refine JL_nil ?_
   first | exact ⟨rfl, rfl, rfl, rfl, rfl, rfl⟩ | (exfalso; omega)
 ·rintro ρ6 _ ⟨e7, e8, e9, e10, e11, rfl⟩
  obtain ⟨ρ12, rfl⟩ := reopen_ex (uc e7 (uc e8 (uc e9 (uc e10 (uc e11 un)))))
  clear e7 e8 e9 e10 e11
  refine J_region ?_
  refine JL_pure (v := .int .i64 (1)) rfl (Pu.arith rfl rfl rfl) ?_
  refine JL_pure (v := .int .i64 (1)) rfl (Pu.move rfl) ?_
  refine JL_nil ?_
  refine JR_succ ?_
  refine J_seq ?_
  refine J_region ?_
  refine JL_pure (v := .bool (true)) rfl (show Pu _ _ _ (.bool (decide ((1 : Int) < 3))) from Pu.lss rfl rfl) ?_
  refine JL_nil ?_
  refine J_seq ?_
  refine J_cond (b := true) rfl (fun _ => ?_) (fun h => absurd h (by simp))
  refine J_skip ?_
  refine J_seq ?_
  refine J_block ?_
  refine J_seq ?_
  refine J_region ?_
  refine JL_pure (v := .int .i64 (1)) rfl (Pu.move rfl) ?_
  refine JL_pure (v := .int .i64 (1)) rfl (Pu.assign rfl) ?_
  refine JL_nil ?_
  refine J_weak (N := fun ρ M => ρ 4 = .pointer (some ⟨b1, 0, none⟩) ∧ ρ 8 = .bool (false) ∧ ρ 9 = .pointer (some ⟨b3, 0, none⟩) ∧ ρ 10 = .pointer (some ⟨b4, 0, none⟩) ∧ ρ 21 = .int .i64 (1) ∧ M = [[(b4, .cells ⟨[.bool ((!decide (n = 0)) && (a)), .bool ((!decide (r = zS)) && (b)), .bool (decide (0 < m))]⟩ 141 (0, 0))], [(b3, .cells ⟨[.bool (!decide (n = 0)), .bool (!decide (r = zS)), .bool (decide (0 < m))]⟩ 141 (0, 0))], [(b2, .cells ⟨sC (r)⟩ 23 (0, 0))], [(b1, .cells ⟨[.bool (a), .bool (b), .bool (c)]⟩ 141 (0, 0))]]) ?_ ?_
  ·refine J_region ?_
   refine JL_pure (v := .int .i64 (1)) rfl (Pu.move rfl) ?_
   refine JL_pure (v := .int .i64 (1)) rfl (Pu.move rfl) ?_
   refine JL_pure (v := .pointer (some ⟨b3, 1, none⟩)) rfl (Pu.idxA 1 Tryz.runUnderlying141 ty4 rfl rfl (by decide) (by decide)) ?_
   refine JL_run rfl (Pu_load1 ty4 rfl (At.bx 1 rfl) rfl ?_)
   refine JL_pure (v := .bool (!decide (r = zS))) rfl (Pu.move rfl) ?_
   cases h13 : (!decide (r = zS)) with
   | true =>
    replace h13 := nt h13
    replace h13 := df h13
    refine JL_pure (v := .int .i64 (1)) rfl (Pu.move rfl) ?_
    refine JL_pure (v := .pointer (some ⟨b1, 1, none⟩)) rfl (Pu.idxA 1 Tryz.runUnderlying141 ty4 rfl rfl (by decide) (by decide)) ?_
    refine JL_run rfl (Pu_load1 ty4 rfl (At.bx 3 rfl) rfl ?_)
    refine JL_pure (v := .bool (b)) rfl (Pu.pickT rfl rfl) ?_
    refine JL_pure (v := .pointer (some ⟨b4, 1, none⟩)) rfl (Pu.idxA 1 Tryz.runUnderlying141 ty4 rfl rfl (by decide) (by decide)) ?_
    refine JL_run rfl (Runs_storeB 0 (vs := [.bool (b)]) (l := [.bool ((!decide (n = 0)) && (a)), .bool (b), .bool (decide (0 < m))]) ty4 rfl rfl rfl rfl rfl (okc_cons rfl okc_nil) rfl ?_)
    refine JL_nil ?_
    first | exact ⟨rfl, rfl, rfl, rfl, rfl, rfl⟩ | (exfalso; omega)
   | false =>
    replace h13 := nf h13
    replace h13 := dt h13
    refine JL_skip rfl ?_
    refine JL_skip rfl ?_
    refine JL_skip rfl ?_
    refine JL_pure (v := .bool (false)) rfl (Pu.pickF rfl rfl) ?_
    refine JL_pure (v := .pointer (some ⟨b4, 1, none⟩)) rfl (Pu.idxA 1 Tryz.runUnderlying141 ty4 rfl rfl (by decide) (by decide)) ?_
    refine JL_run rfl (Runs_storeB 0 (vs := [.bool (false)]) (l := [.bool ((!decide (n = 0)) && (a)), .bool (false), .bool (decide (0 < m))]) ty4 rfl rfl rfl rfl rfl (okc_cons rfl okc_nil) rfl ?_)
    refine JL_nil ?_
    first | exact ⟨rfl, rfl, rfl, rfl, rfl, rfl⟩ | (exfalso; omega)
  ·rintro ρ14 _ ⟨e15, e16, e17, e18, e19, rfl⟩
   obtain ⟨ρ20, rfl⟩ := reopen_ex (uc e15 (uc e16 (uc e17 (uc e18 (uc e19 un)))))
   clear e15 e16 e17 e18 e19
   refine J_region ?_
   refine JL_pure (v := .int .i64 (2)) rfl (Pu.arith rfl rfl rfl) ?_
   refine JL_pure (v := .int .i64 (2)) rfl (Pu.move rfl) ?_
   refine JL_nil ?_
   refine JR_succ ?_
   refine J_seq ?_
   refine J_region ?_
   refine JL_pure (v := .bool (true)) rfl (show Pu _ _ _ (.bool (decide ((2 : Int) < 3))) from Pu.lss rfl rfl) ?_
   refine JL_nil ?_
   refine J_seq ?_
   refine J_cond (b := true) rfl (fun _ => ?_) (fun h => absurd h (by simp))
   refine J_skip ?_
   refine J_seq ?_
   refine J_block ?_
   refine J_seq ?_
   refine J_region ?_
   refine JL_pure (v := .int .i64 (2)) rfl (Pu.move rfl) ?_
   refine JL_pure (v := .int .i64 (2)) rfl (Pu.assign rfl) ?_
   refine JL_nil ?_
   refine J_weak (N := fun ρ M => ρ 4 = .pointer (some ⟨b1, 0, none⟩) ∧ ρ 8 = .bool (false) ∧ ρ 9 = .pointer (some ⟨b3, 0, none⟩) ∧ ρ 10 = .pointer (some ⟨b4, 0, none⟩) ∧ ρ 21 = .int .i64 (2) ∧ M = [[(b4, .cells ⟨[.bool ((!decide (n = 0)) && (a)), .bool ((!decide (r = zS)) && (b)), .bool ((decide (0 < m)) && (c))]⟩ 141 (0, 0))], [(b3, .cells ⟨[.bool (!decide (n = 0)), .bool (!decide (r = zS)), .bool (decide (0 < m))]⟩ 141 (0, 0))], [(b2, .cells ⟨sC (r)⟩ 23 (0, 0))], [(b1, .cells ⟨[.bool (a), .bool (b), .bool (c)]⟩ 141 (0, 0))]]) ?_ ?_
   ·refine J_region ?_
    refine JL_pure (v := .int .i64 (2)) rfl (Pu.move rfl) ?_
    refine JL_pure (v := .int .i64 (2)) rfl (Pu.move rfl) ?_
    refine JL_pure (v := .pointer (some ⟨b3, 2, none⟩)) rfl (Pu.idxA 2 Tryz.runUnderlying141 ty4 rfl rfl (by decide) (by decide)) ?_
    refine JL_run rfl (Pu_load1 ty4 rfl (At.bx 1 rfl) rfl ?_)
    refine JL_pure (v := .bool (decide (0 < m))) rfl (Pu.move rfl) ?_
    cases h21 : (decide (0 < m)) with
    | true =>
     replace h21 := dt h21
     refine JL_pure (v := .int .i64 (2)) rfl (Pu.move rfl) ?_
     refine JL_pure (v := .pointer (some ⟨b1, 2, none⟩)) rfl (Pu.idxA 2 Tryz.runUnderlying141 ty4 rfl rfl (by decide) (by decide)) ?_
     refine JL_run rfl (Pu_load1 ty4 rfl (At.bx 3 rfl) rfl ?_)
     refine JL_pure (v := .bool (c)) rfl (Pu.pickT rfl rfl) ?_
     refine JL_pure (v := .pointer (some ⟨b4, 2, none⟩)) rfl (Pu.idxA 2 Tryz.runUnderlying141 ty4 rfl rfl (by decide) (by decide)) ?_
     refine JL_run rfl (Runs_storeB 0 (vs := [.bool (c)]) (l := [.bool ((!decide (n = 0)) && (a)), .bool ((!decide (r = zS)) && (b)), .bool (c)]) ty4 rfl rfl rfl rfl rfl (okc_cons rfl okc_nil) rfl ?_)
     refine JL_nil ?_
     first | exact ⟨rfl, rfl, rfl, rfl, rfl, rfl⟩ | (exfalso; omega)
    | false =>
     replace h21 := df h21
     refine JL_skip rfl ?_
     refine JL_skip rfl ?_
     refine JL_skip rfl ?_
     refine JL_pure (v := .bool (false)) rfl (Pu.pickF rfl rfl) ?_
     refine JL_pure (v := .pointer (some ⟨b4, 2, none⟩)) rfl (Pu.idxA 2 Tryz.runUnderlying141 ty4 rfl rfl (by decide) (by decide)) ?_
     refine JL_run rfl (Runs_storeB 0 (vs := [.bool (false)]) (l := [.bool ((!decide (n = 0)) && (a)), .bool ((!decide (r = zS)) && (b)), .bool (false)]) ty4 rfl rfl rfl rfl rfl (okc_cons rfl okc_nil) rfl ?_)
     refine JL_nil ?_
     first | exact ⟨rfl, rfl, rfl, rfl, rfl, rfl⟩ | (exfalso; omega)
   ·rintro ρ22 _ ⟨e23, e24, e25, e26, e27, rfl⟩
    obtain ⟨ρ28, rfl⟩ := reopen_ex (uc e23 (uc e24 (uc e25 (uc e26 (uc e27 un)))))
    clear e23 e24 e25 e26 e27
    refine J_region ?_
    refine JL_pure (v := .int .i64 (3)) rfl (Pu.arith rfl rfl rfl) ?_
    refine JL_pure (v := .int .i64 (3)) rfl (Pu.move rfl) ?_
    refine JL_nil ?_
    refine JR_succ ?_
    refine J_seq ?_
    refine J_region ?_
    refine JL_pure (v := .bool (false)) rfl (show Pu _ _ _ (.bool (decide ((3 : Int) < 3))) from Pu.lss rfl rfl) ?_
    refine JL_nil ?_
    refine J_seq ?_
    refine J_cond (b := false) rfl (fun h => absurd h (by simp)) (fun _ => ?_)
    refine J_exit _ rfl ?_
    refine J_seq ?_
    refine J_region ?_
    refine JL_run rfl (Pu_load ty141 rfl (At.bx 0 rfl) rfl ?_)
    refine JL_run rfl (Pu_load ty141 rfl (At.bx 1 rfl) rfl ?_)
    refine JL_pure (v := .bool (!((((!decide (n = 0)) && (a)) == (!decide (n = 0))) && ((((!decide (r = zS)) && (b)) == (!decide (r = zS))) && (((decide (0 < m)) && (c)) == (decide (0 < m))))))) rfl (neqB3 rfl rfl) ?_
    refine JL_pure (v := .bool (!((((!decide (n = 0)) && (a)) == (!decide (n = 0))) && ((((!decide (r = zS)) && (b)) == (!decide (r = zS))) && (((decide (0 < m)) && (c)) == (decide (0 < m))))))) rfl (Pu.assign rfl) ?_
    refine JL_nil ?_
    refine J_ret ?_
    refine ⟨.bool (!((((!decide (n = 0)) && (a)) == (!decide (n = 0))) && ((((!decide (r = zS)) && (b)) == (!decide (r = zS))) && (((decide (0 < m)) && (c)) == (decide (0 < m)))))), [], Ret.one rfl (RV.tmp rfl), Sub.nil, ?_⟩
    exact ⟨by unfold clashB; congr 1; cases a <;> cases b <;> cases c <;> simp, rfl⟩
theorem kidsT_ct (k n : Int) (H : Heap) : CT Tryz.prog 111 ⟨[.int .i64 (k), .int .i64 (n)]⟩ [] H (fun v N => v = .bool (kidsB k n) ∧ N = []) := by
 refine CT_enter Tryz.func111 rfl rfl ?_
 refine J_seq ?_
 refine J_region ?_
 refine JL_pure (v := .bool (false)) rfl (Pu.assign rfl) ?_
 refine JL_nil ?_
 refine J_seq ?_
 refine J_seq ?_
 refine J_region ?_
 refine JL_pure (v := .int .i64 (k)) rfl (Pu.move rfl) ?_
 refine JL_nil ?_
 refine J_block ?_
 refine J_seq ?_
 refine J_seq ?_
 refine J_region ?_
 refine JL_pure (v := .bool (decide (k = 3))) rfl (Pu.eql rfl rfl) ?_
 refine JL_pure (v := .bool (decide (k = 3))) rfl (Pu.assign rfl) ?_
 refine JL_nil ?_
 refine J_cond (b := decide (k = 3)) rfl (fun h1 => ?_) (fun h1 => ?_)
 ·skip
  replace h1 := dt h1
  refine J_skip ?_
  refine J_cond (b := decide (k = 3)) rfl (fun _ => ?_) (fun h2 => absurd h1 (df h2))
  refine J_seq ?_
  refine J_region ?_
  refine JL_pure (v := .int .i64 (n)) rfl (Pu.move rfl) ?_
  refine JL_pure (v := .bool (decide (n = 1))) rfl (Pu.eql rfl rfl) ?_
  refine JL_pure (v := .bool (decide (n = 1))) rfl (Pu.assign rfl) ?_
  refine JL_nil ?_
  refine J_ret ?_
  refine ⟨.bool (decide (n = 1)), [], Ret.one rfl (RV.tmp rfl), Sub.nil, ?_⟩
  exact ⟨by simp_all [kidsB], rfl⟩
 ·skip
  replace h1 := df h1
  refine J_seq ?_
  refine J_region ?_
  refine JL_pure (v := .bool (decide (k = 9))) rfl (Pu.eql rfl rfl) ?_
  refine JL_pure (v := .bool (decide (k = 9))) rfl (Pu.assign rfl) ?_
  refine JL_nil ?_
  refine J_cond (b := decide (k = 9)) rfl (fun h3 => ?_) (fun h3 => ?_)
  ·skip
   replace h3 := dt h3
   refine J_skip ?_
   refine J_cond (b := decide (k = 9)) rfl (fun _ => ?_) (fun h4 => absurd h3 (df h4))
   refine J_seq ?_
   refine J_region ?_
   refine JL_pure (v := .int .i64 (n)) rfl (Pu.move rfl) ?_
   refine JL_pure (v := .bool (decide (n = 1))) rfl (Pu.eql rfl rfl) ?_
   refine JL_pure (v := .bool (decide (n = 1))) rfl (Pu.assign rfl) ?_
   refine JL_nil ?_
   refine J_ret ?_
   refine ⟨.bool (decide (n = 1)), [], Ret.one rfl (RV.tmp rfl), Sub.nil, ?_⟩
   exact ⟨by simp_all [kidsB], rfl⟩
  ·skip
   replace h3 := df h3
   refine J_region ?_
   refine JL_pure (v := .bool (decide (k = 11))) rfl (Pu.eql rfl rfl) ?_
   refine JL_pure (v := .bool (decide (k = 11))) rfl (Pu.assign rfl) ?_
   refine JL_nil ?_
   refine J_cond (b := decide (k = 11)) rfl (fun h5 => ?_) (fun h5 => ?_)
   ·skip
    replace h5 := dt h5
    refine J_seq ?_
    refine J_region ?_
    refine JL_pure (v := .int .i64 (n)) rfl (Pu.move rfl) ?_
    refine JL_pure (v := .bool (decide (n = 1))) rfl (Pu.eql rfl rfl) ?_
    refine JL_pure (v := .bool (decide (n = 1))) rfl (Pu.assign rfl) ?_
    refine JL_nil ?_
    refine J_ret ?_
    refine ⟨.bool (decide (n = 1)), [], Ret.one rfl (RV.tmp rfl), Sub.nil, ?_⟩
    exact ⟨by simp_all [kidsB], rfl⟩
   ·skip
    replace h5 := df h5
    refine J_seq ?_
    refine J_seq ?_
    refine J_region ?_
    refine JL_pure (v := .bool (decide (k = 4))) rfl (Pu.eql rfl rfl) ?_
    refine JL_pure (v := .bool (decide (k = 4))) rfl (Pu.assign rfl) ?_
    refine JL_nil ?_
    refine J_cond (b := decide (k = 4)) rfl (fun h6 => ?_) (fun h6 => ?_)
    ·skip
     replace h6 := dt h6
     refine J_skip ?_
     refine J_cond (b := decide (k = 4)) rfl (fun _ => ?_) (fun h7 => absurd h6 (df h7))
     refine J_seq ?_
     refine J_region ?_
     refine JL_pure (v := .int .i64 (n)) rfl (Pu.move rfl) ?_
     refine JL_pure (v := .bool (decide (n = 2))) rfl (Pu.eql rfl rfl) ?_
     refine JL_pure (v := .bool (decide (n = 2))) rfl (Pu.assign rfl) ?_
     refine JL_nil ?_
     refine J_ret ?_
     refine ⟨.bool (decide (n = 2)), [], Ret.one rfl (RV.tmp rfl), Sub.nil, ?_⟩
     exact ⟨by simp_all [kidsB], rfl⟩
    ·skip
     replace h6 := df h6
     refine J_seq ?_
     refine J_region ?_
     refine JL_pure (v := .bool (decide (k = 5))) rfl (Pu.eql rfl rfl) ?_
     refine JL_pure (v := .bool (decide (k = 5))) rfl (Pu.assign rfl) ?_
     refine JL_nil ?_
     refine J_cond (b := decide (k = 5)) rfl (fun h8 => ?_) (fun h8 => ?_)
     ·skip
      replace h8 := dt h8
      refine J_skip ?_
      refine J_cond (b := decide (k = 5)) rfl (fun _ => ?_) (fun h9 => absurd h8 (df h9))
      refine J_seq ?_
      refine J_region ?_
      refine JL_pure (v := .int .i64 (n)) rfl (Pu.move rfl) ?_
      refine JL_pure (v := .bool (decide (n = 2))) rfl (Pu.eql rfl rfl) ?_
      refine JL_pure (v := .bool (decide (n = 2))) rfl (Pu.assign rfl) ?_
      refine JL_nil ?_
      refine J_ret ?_
      refine ⟨.bool (decide (n = 2)), [], Ret.one rfl (RV.tmp rfl), Sub.nil, ?_⟩
      exact ⟨by simp_all [kidsB], rfl⟩
     ·skip
      replace h8 := df h8
      refine J_region ?_
      refine JL_pure (v := .bool (decide (k = 10))) rfl (Pu.eql rfl rfl) ?_
      refine JL_pure (v := .bool (decide (k = 10))) rfl (Pu.assign rfl) ?_
      refine JL_nil ?_
      refine J_cond (b := decide (k = 10)) rfl (fun h10 => ?_) (fun h10 => ?_)
      ·skip
       replace h10 := dt h10
       refine J_seq ?_
       refine J_region ?_
       refine JL_pure (v := .int .i64 (n)) rfl (Pu.move rfl) ?_
       refine JL_pure (v := .bool (decide (n = 2))) rfl (Pu.eql rfl rfl) ?_
       refine JL_pure (v := .bool (decide (n = 2))) rfl (Pu.assign rfl) ?_
       refine JL_nil ?_
       refine J_ret ?_
       refine ⟨.bool (decide (n = 2)), [], Ret.one rfl (RV.tmp rfl), Sub.nil, ?_⟩
       exact ⟨by simp_all [kidsB], rfl⟩
      ·skip
       replace h10 := df h10
       refine J_seq ?_
       refine J_region ?_
       refine JL_pure (v := .bool (decide (k = 8))) rfl (Pu.eql rfl rfl) ?_
       refine JL_pure (v := .bool (decide (k = 8))) rfl (Pu.assign rfl) ?_
       refine JL_nil ?_
       refine J_cond (b := decide (k = 8)) rfl (fun h11 => ?_) (fun h11 => ?_)
       ·skip
        replace h11 := dt h11
        refine J_seq ?_
        refine J_region ?_
        refine JL_pure (v := .int .i64 (n)) rfl (Pu.move rfl) ?_
        refine JL_pure (v := .bool (decide (n ≤ 4))) rfl (Pu.leq rfl rfl) ?_
        refine JL_pure (v := .bool (decide (n ≤ 4))) rfl (Pu.assign rfl) ?_
        refine JL_nil ?_
        refine J_ret ?_
        refine ⟨.bool (decide (n ≤ 4)), [], Ret.one rfl (RV.tmp rfl), Sub.nil, ?_⟩
        exact ⟨by simp_all [kidsB], rfl⟩
       ·skip
        replace h11 := df h11
        refine J_seq ?_
        refine J_region ?_
        refine JL_pure (v := .bool (decide (k = 12))) rfl (Pu.eql rfl rfl) ?_
        refine JL_pure (v := .bool (decide (k = 12))) rfl (Pu.assign rfl) ?_
        refine JL_nil ?_
        refine J_cond (b := decide (k = 12)) rfl (fun h12 => ?_) (fun h12 => ?_)
        ·skip
         replace h12 := dt h12
         refine J_seq ?_
         refine J_region ?_
         refine JL_pure (v := .int .i64 (n)) rfl (Pu.move rfl) ?_
         refine JL_call rfl Tryz.call76 rfl (fun hin => off_ct _ _ _ _) rfl ?_
         rintro _ _ ⟨rfl, rfl⟩
         refine JL_pure (v := .bool (!(decide (n < 2 ∨ 10 < n)))) rfl (Pu.not rfl) ?_
         refine JL_pure (v := .bool (!(decide (n < 2 ∨ 10 < n)))) rfl (Pu.assign rfl) ?_
         refine JL_nil ?_
         refine J_ret ?_
         refine ⟨.bool (!(decide (n < 2 ∨ 10 < n))), [], Ret.one rfl (RV.tmp rfl), Sub.nil, ?_⟩
         exact ⟨by simp_all [kidsB], rfl⟩
        ·skip
         replace h12 := df h12
         refine J_skip ?_
         refine J_seq ?_
         refine J_region ?_
         refine JL_pure (v := .int .i64 (n)) rfl (Pu.move rfl) ?_
         refine JL_pure (v := .bool (decide (n = 0))) rfl (Pu.eql rfl rfl) ?_
         refine JL_pure (v := .bool (decide (n = 0))) rfl (Pu.assign rfl) ?_
         refine JL_nil ?_
         refine J_ret ?_
         refine ⟨.bool (decide (n = 0)), [], Ret.one rfl (RV.tmp rfl), Sub.nil, ?_⟩
         exact ⟨by simp_all [kidsB], rfl⟩
end Go.Proofs.YtdeinimmmjichaaGreat.Hs
/-! Walks, printed by a program of this session's own (gen.py). -/
namespace Go.Proofs.YtdeinimmmjichaaGreat.Hs
open Go Go.Proofs
set_option maxRecDepth 100000
set_option linter.unusedVariables false
set_option linter.unusedSimpArgs false
attribute [local irreducible] JL J CT wlo
theorem patternError_ct (kind num : Int) (ref : Sm) (ks : Value) (kids : List Pt) (H : Heap) (hks : rdS RP 35 H ks kids) : CT Tryz.prog 112 ⟨[.agg ⟨pkP (kind) (num) (ref) (ks)⟩]⟩ [] H (fun v N => v = .int .i64 (pErr kind num ref kids.length) ∧ N = []) := by
 refine CT_enter Tryz.func112 rfl rfl ?_
 refine J_seq ?_
 refine J_region ?_
 refine JL_run rfl (Runs_box (l := pkP (kind) (num) (ref) (ks)) rfl rfl fun b1 => ?_)
 refine JL_pure (v := .int .i64 (0)) rfl (Pu.assign rfl) ?_
 refine JL_nil ?_
 refine J_seq ?_
 refine J_region ?_
 refine JL_pure (v := .int .i64 (0)) rfl (Pu.assign rfl) ?_
 refine JL_nil ?_
 refine J_seq ?_
 refine J_seq ?_
 refine J_region ?_
 refine JL_pure (v := .pointer (some ⟨b1, 0, none⟩)) rfl (fa30_0 rfl rfl) ?_
 refine JL_run rfl (Pu_load1 ty3 rfl (At.bx 0 rfl) (pkP_0 ..) ?_)
 refine JL_pure (v := .bool (decide (kind = 3))) rfl (Pu.eql rfl rfl) ?_
 refine JL_nil ?_
 refine J_cond (b := decide (kind = 3)) rfl (fun h2 => ?_) (fun h2 => ?_)
 ·skip
  replace h2 := dt h2
  refine J_region ?_
  refine JL_pure (v := .int .i64 (4)) rfl (Pu.assign rfl) ?_
  refine JL_nil ?_
  refine J_seq ?_
  refine J_block ?_
  refine J_seq ?_
  refine J_region ?_
  refine JL_pure (v := .pointer (some ⟨b1, 0, none⟩)) rfl (fa30_0 rfl rfl) ?_
  refine JL_run rfl (Pu_load1 ty3 rfl (At.bx 0 rfl) (pkP_0 ..) ?_)
  refine JL_call rfl Tryz.call76 rfl (fun hin => off_ct _ _ _ _) rfl ?_
  rintro _ _ ⟨rfl, rfl⟩
  refine JL_pure (v := .bool (decide (kind < 1 ∨ 3 < kind))) rfl (Pu.assign rfl) ?_
  refine JL_nil ?_
  refine J_cond (b := decide (kind < 1 ∨ 3 < kind)) rfl (fun h3 => ?_) (fun h3 => ?_)
  ·skip
   replace h3 := dt h3
   refine J_seq ?_
   refine J_region ?_
   refine JL_pure (v := .int .i64 (3)) rfl (Pu.assign rfl) ?_
   refine JL_nil ?_
   refine J_ret ?_
   refine ⟨.int .i64 (3), [], Ret.one rfl (RV.tmp rfl), Sub.nil, ?_⟩
   exact ⟨by refine congrArg (Value.int .i64) ?_; simp only [pErr]; (repeat' split) <;> first | rfl | omega | (exfalso; simp_all; done) | (exfalso; simp_all; omega) | grind, rfl⟩
  ·skip
   replace h3 := df h3
   refine J_seq ?_
   refine J_draw mixed #[0, 1, 3, 0, 8, 0, 32, 127, 255] 7 7 1 rfl (by kernel_rfl) (fun i r4 N4 => match i with | 0 => (r4 0) = .pointer (some ⟨b1, 0, none⟩) | 1 => (r4 1) = .int .i64 (kind) | 2 => (r4 2) = .agg ⟨[.bool (pfN (kind)), .bool (pfR (kind)), .bool (false)]⟩ | 3 => (r4 3) = .pointer (some ⟨b1, 1, none⟩) | 4 => (r4 4) = .int .i64 (num) | 5 => (r4 5) = .pointer (some ⟨b1, 2, none⟩) | 6 => (r4 6) = .agg ⟨sC (ref)⟩ | _ => True) ⟨?_, ?_, ?_, ?_, ?_, ?_, ?_, trivial⟩ ?_
   ·intro ρ r4 N4 B hB hBa hp hr hr0
    have q1 : ρ 1 = .pointer (some ⟨b1, 0, none⟩) := hr0 1 (by kernel_rfl)
    obtain ⟨ρ5, rfl⟩ := reopen_ex (uc q1 un)
    clear q1
    refine JL_pure (v := .pointer (some ⟨b1, 0, none⟩)) rfl (fa30_0 rfl rfl) ?_
    refine JL_nil ?_
    exact ⟨.pointer (some ⟨b1, 0, none⟩), [], rfl, (Sub.emp Sub.refl), rfl⟩
   ·intro ρ r4 N4 B hB hBa hp hr hr0
    have q12 : ρ 12 = .pointer (some ⟨b1, 0, none⟩) := (hr 0 _ _ (by decide) rfl rfl rfl).trans (hp 0 (by decide) rfl)
    obtain ⟨ρ6, rfl⟩ := reopen_ex (uc q12 un)
    clear q12
    refine JL_run rfl (Pu_load1 ty3 rfl (At.bx 7 (made_old ((hB 0 (by decide)).trans rfl))) (pkP_0 ..) ?_)
    refine JL_nil ?_
    exact ⟨.int .i64 (kind), [], rfl, (Sub.emp Sub.refl), rfl⟩
   ·intro ρ r4 N4 B hB hBa hp hr hr0
    have q13 : ρ 13 = .int .i64 (kind) := (hr 1 _ _ (by decide) rfl rfl rfl).trans (hp 1 (by decide) rfl)
    obtain ⟨ρ7, rfl⟩ := reopen_ex (uc q13 un)
    clear q13
    refine JL_call rfl Tryz.call118 rfl (fun hin => patternFields_ct _ _) rfl ?_
    rintro _ _ ⟨rfl, rfl⟩
    refine JL_nil ?_
    exact ⟨.agg ⟨[.bool (pfN (kind)), .bool (pfR (kind)), .bool (false)]⟩, [], rfl, (Sub.emp Sub.refl), rfl⟩
   ·intro ρ r4 N4 B hB hBa hp hr hr0
    have q1 : ρ 1 = .pointer (some ⟨b1, 0, none⟩) := hr0 1 (by kernel_rfl)
    obtain ⟨ρ8, rfl⟩ := reopen_ex (uc q1 un)
    clear q1
    refine JL_pure (v := .pointer (some ⟨b1, 1, none⟩)) rfl (fa30_1 rfl rfl) ?_
    refine JL_nil ?_
    exact ⟨.pointer (some ⟨b1, 1, none⟩), [], rfl, (Sub.emp Sub.refl), rfl⟩
   ·intro ρ r4 N4 B hB hBa hp hr hr0
    have q15 : ρ 15 = .pointer (some ⟨b1, 1, none⟩) := (hr 3 _ _ (by decide) rfl rfl rfl).trans (hp 3 (by decide) rfl)
    obtain ⟨ρ9, rfl⟩ := reopen_ex (uc q15 un)
    clear q15
    refine JL_run rfl (Pu_load1 ty3 rfl (At.bx 7 (made_old ((hB 0 (by decide)).trans rfl))) (pkP_1 ..) ?_)
    refine JL_nil ?_
    exact ⟨.int .i64 (num), [], rfl, (Sub.emp Sub.refl), rfl⟩
   ·intro ρ r4 N4 B hB hBa hp hr hr0
    have q1 : ρ 1 = .pointer (some ⟨b1, 0, none⟩) := hr0 1 (by kernel_rfl)
    obtain ⟨ρ10, rfl⟩ := reopen_ex (uc q1 un)
    clear q1
    refine JL_pure (v := .pointer (some ⟨b1, 2, none⟩)) rfl (fa30_2 rfl rfl) ?_
    refine JL_nil ?_
    exact ⟨.pointer (some ⟨b1, 2, none⟩), [], rfl, (Sub.emp Sub.refl), rfl⟩
   ·intro ρ r4 N4 B hB hBa hp hr hr0
    have q17 : ρ 17 = .pointer (some ⟨b1, 2, none⟩) := (hr 5 _ _ (by decide) rfl rfl rfl).trans (hp 5 (by decide) rfl)
    obtain ⟨ρ11, rfl⟩ := reopen_ex (uc q17 un)
    clear q17
    refine JL_run rfl (Pu_load ty23 rfl (At.bx 7 (made_old ((hB 0 (by decide)).trans rfl))) (pkP_2 ..) ?_)
    refine JL_nil ?_
    exact ⟨.agg ⟨sC (ref)⟩, [], rfl, (Sub.emp Sub.refl), rfl⟩
   ·intro ρ r4 N4 hp hr hr0
    have q1 : ρ 1 = .pointer (some ⟨b1, 0, none⟩) := hr0 1 (by kernel_rfl)
    have q2 : ρ 2 = .int .i64 (0) := hr0 2 (by kernel_rfl)
    have q3 : ρ 3 = .int .i64 (4) := hr0 3 (by kernel_rfl)
    have q14 : ρ 14 = .agg ⟨[.bool (pfN (kind)), .bool (pfR (kind)), .bool (false)]⟩ := (hr 2 _ _ (by decide) rfl rfl).trans (hp 2 (by decide))
    have q16 : ρ 16 = .int .i64 (num) := (hr 4 _ _ (by decide) rfl rfl).trans (hp 4 (by decide))
    have q18 : ρ 18 = .agg ⟨sC (ref)⟩ := (hr 6 _ _ (by decide) rfl rfl).trans (hp 6 (by decide))
    obtain ⟨ρ12, rfl⟩ := reopen_ex (uc q1 (uc q2 (uc q3 (uc q14 (uc q16 (uc q18 un))))))
    clear q1 q2 q3 q14 q16 q18
    clear hp hr hr0 
    refine JL_sub (M' := [(N4 0), (N4 1), (N4 2), (N4 3), (N4 4), (N4 5), (N4 6), [(b1, .cells ⟨pkP (kind) (num) (ref) (ks)⟩ 30 (0, 0))]]) Sub.refl ?_
    refine JL_sub (M' := [[(b1, .cells ⟨pkP (kind) (num) (ref) (ks)⟩ 30 (0, 0))]]) (Sd (Sd (Sd (Sd (Sd (Sd (Sd (Sk Sub.nil)))))))) ?_
    show JL _ _ _ [_, _] _ _ _
    refine JL_call rfl Tryz.call109 rfl (fun hin => clash_ct _ _ _ _ _ _ _) rfl ?_
    rintro _ _ ⟨rfl, rfl⟩
    refine JL_pure (v := .bool (clashB (pfN (kind)) (pfR (kind)) (false) (num) (ref) (0))) rfl (Pu.assign rfl) ?_
    refine JL_nil ?_
    refine J_cond (b := clashB (pfN (kind)) (pfR (kind)) (false) (num) (ref) (0)) rfl (fun h13 => ?_) (fun h13 => ?_)
    ·skip
     refine J_seq ?_
     refine J_region ?_
     refine JL_pure (v := .int .i64 (7)) rfl (Pu.assign rfl) ?_
     refine JL_nil ?_
     refine J_ret ?_
     refine ⟨.int .i64 (7), [], Ret.one rfl (RV.tmp rfl), Sub.nil, ?_⟩
     exact ⟨by refine congrArg (Value.int .i64) ?_; simp only [pErr]; (repeat' split) <;> first | rfl | omega | (exfalso; simp_all; done) | (exfalso; simp_all; omega) | grind, rfl⟩
    ·skip
     refine J_seq ?_
     refine J_region ?_
     refine JL_pure (v := .pointer (some ⟨b1, 34, none⟩)) rfl (fa30_3 rfl rfl) ?_
     refine JL_run rfl (Pu_load1 ty28 rfl (At.bx 0 rfl) (pkP_34 ..) ?_)
     obtain ⟨a14, cap14, hv14⟩ := hks.sl
     have hle14 := hks.le
     refine JL_pure (v := .int .i64 (((kids).length : Int))) rfl (Pu.lenSl Tryz.runUnderlying28 hv14) ?_
     refine JL_pure (v := .int .i64 (4)) rfl (Pu.move rfl) ?_
     refine JL_pure (v := .bool (decide (4 < ((kids).length : Int)))) rfl (Pu.gtr rfl rfl) ?_
     refine JL_pure (v := .bool (decide (4 < ((kids).length : Int)))) rfl (Pu.assign rfl) ?_
     refine JL_nil ?_
     refine J_cond (b := decide (4 < ((kids).length : Int))) rfl (fun h15 => ?_) (fun h15 => ?_)
     ·skip
      replace h15 := dt h15
      refine J_seq ?_
      refine J_region ?_
      refine JL_pure (v := .int .i64 (2)) rfl (Pu.assign rfl) ?_
      refine JL_nil ?_
      refine J_ret ?_
      refine ⟨.int .i64 (2), [], Ret.one rfl (RV.tmp rfl), Sub.nil, ?_⟩
      exact ⟨by refine congrArg (Value.int .i64) ?_; simp only [pErr]; (repeat' split) <;> first | rfl | omega | (exfalso; simp_all; done) | (exfalso; simp_all; omega) | grind, rfl⟩
     ·skip
      replace h15 := df h15
      refine J_seq ?_
      refine J_cut (fun ρ M => ρ 1 = .pointer (some ⟨b1, 0, none⟩) ∧ ρ 2 = .int .i64 (0) ∧ ρ 26 = .bool ((decide (kind = 2)) && (decide (num < 0 ∨ 1073741824 < num))) ∧ M = [[(b1, .cells ⟨pkP (kind) (num) (ref) (ks)⟩ 30 (0, 0))]]) ?_ ?_
      ·refine J_region ?_
       refine JL_pure (v := .pointer (some ⟨b1, 0, none⟩)) rfl (fa30_0 rfl rfl) ?_
       refine JL_run rfl (Pu_load1 ty3 rfl (At.bx 0 rfl) (pkP_0 ..) ?_)
       refine JL_pure (v := .bool (decide (kind = 2))) rfl (Pu.eql rfl rfl) ?_
       refine JL_pure (v := .bool (decide (kind = 2))) rfl (Pu.move rfl) ?_
       cases h16 : (decide (kind = 2)) with
       | true =>
        replace h16 := dt h16
        refine JL_pure (v := .pointer (some ⟨b1, 1, none⟩)) rfl (fa30_1 rfl rfl) ?_
        refine JL_run rfl (Pu_load1 ty3 rfl (At.bx 0 rfl) (pkP_1 ..) ?_)
        refine JL_call rfl Tryz.call76 rfl (fun hin => off_ct _ _ _ _) rfl ?_
        rintro _ _ ⟨rfl, rfl⟩
        refine JL_pure (v := .bool (decide (num < 0 ∨ 1073741824 < num))) rfl (Pu.pickT rfl rfl) ?_
        refine JL_pure (v := .bool (decide (num < 0 ∨ 1073741824 < num))) rfl (Pu.assign rfl) ?_
        refine JL_nil ?_
        first | exact ⟨rfl, rfl, rfl, rfl⟩ | (exfalso; omega)
       | false =>
        replace h16 := df h16
        refine JL_skip rfl ?_
        refine JL_skip rfl ?_
        refine JL_skip rfl ?_
        refine JL_pure (v := .bool (false)) rfl (Pu.pickF rfl rfl) ?_
        refine JL_pure (v := .bool (false)) rfl (Pu.assign rfl) ?_
        refine JL_nil ?_
        first | exact ⟨rfl, rfl, rfl, rfl⟩ | (exfalso; omega)
      ·rintro ρ17 _ ⟨e18, e19, e20, rfl⟩
       obtain ⟨ρ21, rfl⟩ := reopen_ex (uc e18 (uc e19 (uc e20 un)))
       clear e18 e19 e20
       refine J_cond (b := (decide (kind = 2)) && (decide (num < 0 ∨ 1073741824 < num))) rfl (fun h22 => ?_) (fun h22 => ?_)
       ·skip
        obtain ⟨h22a, h22b⟩ := andT h22
        replace h22a := dt h22a
        replace h22b := dt h22b
        refine J_skip ?_
        refine J_cond (b := (decide (kind = 2)) && (decide (num < 0 ∨ 1073741824 < num))) rfl (fun h23 => ?_) (fun h23 => ?_)
        ·skip
         obtain ⟨h23a, h23b⟩ := andT h23
         replace h23a := dt h23a
         replace h23b := dt h23b
         refine J_seq ?_
         refine J_region ?_
         refine JL_pure (v := .int .i64 (3)) rfl (Pu.assign rfl) ?_
         refine JL_nil ?_
         refine J_ret ?_
         refine ⟨.int .i64 (3), [], Ret.one rfl (RV.tmp rfl), Sub.nil, ?_⟩
         exact ⟨by refine congrArg (Value.int .i64) ?_; simp only [pErr]; (repeat' split) <;> first | rfl | omega | (exfalso; simp_all; done) | (exfalso; simp_all; omega) | grind, rfl⟩
        ·skip
         refine J_skip ?_
         refine J_seq ?_
         refine J_region ?_
         refine JL_pure (v := .int .i64 (0)) rfl (Pu.assign rfl) ?_
         refine JL_nil ?_
         refine J_ret ?_
         refine ⟨.int .i64 (0), [], Ret.one rfl (RV.tmp rfl), Sub.nil, ?_⟩
         exact ⟨by refine congrArg (Value.int .i64) ?_; simp only [pErr]; (repeat' split) <;> first | rfl | omega | (exfalso; simp_all; done) | (exfalso; simp_all; omega) | grind, rfl⟩
       ·skip
        refine J_weak (N := fun ρ M => ρ 2 = .int .i64 (0) ∧ ρ 26 = .bool ((decide (kind = 3)) && (decide (num < 0 ∨ 7 < num))) ∧ M = [[(b1, .cells ⟨pkP (kind) (num) (ref) (ks)⟩ 30 (0, 0))]]) ?_ ?_
        ·refine J_region ?_
         refine JL_pure (v := .pointer (some ⟨b1, 0, none⟩)) rfl (fa30_0 rfl rfl) ?_
         refine JL_run rfl (Pu_load1 ty3 rfl (At.bx 0 rfl) (pkP_0 ..) ?_)
         refine JL_pure (v := .bool (decide (kind = 3))) rfl (Pu.eql rfl rfl) ?_
         refine JL_pure (v := .bool (decide (kind = 3))) rfl (Pu.move rfl) ?_
         cases h24 : (decide (kind = 3)) with
         | true =>
          replace h24 := dt h24
          refine JL_pure (v := .pointer (some ⟨b1, 1, none⟩)) rfl (fa30_1 rfl rfl) ?_
          refine JL_run rfl (Pu_load1 ty3 rfl (At.bx 0 rfl) (pkP_1 ..) ?_)
          refine JL_call rfl Tryz.call76 rfl (fun hin => off_ct _ _ _ _) rfl ?_
          rintro _ _ ⟨rfl, rfl⟩
          refine JL_pure (v := .bool (decide (num < 0 ∨ 7 < num))) rfl (Pu.pickT rfl rfl) ?_
          refine JL_pure (v := .bool (decide (num < 0 ∨ 7 < num))) rfl (Pu.assign rfl) ?_
          refine JL_nil ?_
          first | exact ⟨rfl, rfl, rfl⟩ | (exfalso; omega)
         | false =>
          replace h24 := df h24
          refine JL_skip rfl ?_
          refine JL_skip rfl ?_
          refine JL_skip rfl ?_
          refine JL_pure (v := .bool (false)) rfl (Pu.pickF rfl rfl) ?_
          refine JL_pure (v := .bool (false)) rfl (Pu.assign rfl) ?_
          refine JL_nil ?_
          first | exact ⟨rfl, rfl, rfl⟩ | (exfalso; omega)
        ·rintro ρ25 _ ⟨e26, e27, rfl⟩
         obtain ⟨ρ28, rfl⟩ := reopen_ex (uc e26 (uc e27 un))
         clear e26 e27
         refine J_cond (b := (decide (kind = 3)) && (decide (num < 0 ∨ 7 < num))) rfl (fun h29 => ?_) (fun h29 => ?_)
         ·skip
          obtain ⟨h29a, h29b⟩ := andT h29
          replace h29a := dt h29a
          replace h29b := dt h29b
          refine J_seq ?_
          refine J_region ?_
          refine JL_pure (v := .int .i64 (3)) rfl (Pu.assign rfl) ?_
          refine JL_nil ?_
          refine J_ret ?_
          refine ⟨.int .i64 (3), [], Ret.one rfl (RV.tmp rfl), Sub.nil, ?_⟩
          exact ⟨by refine congrArg (Value.int .i64) ?_; simp only [pErr]; (repeat' split) <;> first | rfl | omega | (exfalso; simp_all; done) | (exfalso; simp_all; omega) | grind, rfl⟩
         ·skip
          refine J_skip ?_
          refine J_seq ?_
          refine J_region ?_
          refine JL_pure (v := .int .i64 (0)) rfl (Pu.assign rfl) ?_
          refine JL_nil ?_
          refine J_ret ?_
          refine ⟨.int .i64 (0), [], Ret.one rfl (RV.tmp rfl), Sub.nil, ?_⟩
          exact ⟨by refine congrArg (Value.int .i64) ?_; simp only [pErr]; (repeat' split) <;> first | rfl | omega | (exfalso; simp_all; done) | (exfalso; simp_all; omega) | grind, rfl⟩
 ·skip
  replace h2 := df h2
  refine J_skip ?_
  refine J_seq ?_
  refine J_block ?_
  refine J_seq ?_
  refine J_region ?_
  refine JL_pure (v := .pointer (some ⟨b1, 0, none⟩)) rfl (fa30_0 rfl rfl) ?_
  refine JL_run rfl (Pu_load1 ty3 rfl (At.bx 0 rfl) (pkP_0 ..) ?_)
  refine JL_call rfl Tryz.call76 rfl (fun hin => off_ct _ _ _ _) rfl ?_
  rintro _ _ ⟨rfl, rfl⟩
  refine JL_pure (v := .bool (decide (kind < 1 ∨ 3 < kind))) rfl (Pu.assign rfl) ?_
  refine JL_nil ?_
  refine J_cond (b := decide (kind < 1 ∨ 3 < kind)) rfl (fun h30 => ?_) (fun h30 => ?_)
  ·skip
   replace h30 := dt h30
   refine J_seq ?_
   refine J_region ?_
   refine JL_pure (v := .int .i64 (3)) rfl (Pu.assign rfl) ?_
   refine JL_nil ?_
   refine J_ret ?_
   refine ⟨.int .i64 (3), [], Ret.one rfl (RV.tmp rfl), Sub.nil, ?_⟩
   exact ⟨by refine congrArg (Value.int .i64) ?_; simp only [pErr]; (repeat' split) <;> first | rfl | omega | (exfalso; simp_all; done) | (exfalso; simp_all; omega) | grind, rfl⟩
  ·skip
   replace h30 := df h30
   refine J_seq ?_
   refine J_draw mixed #[0, 1, 3, 0, 8, 0, 32, 127, 255] 7 7 1 rfl (by kernel_rfl) (fun i r31 N31 => match i with | 0 => (r31 0) = .pointer (some ⟨b1, 0, none⟩) | 1 => (r31 1) = .int .i64 (kind) | 2 => (r31 2) = .agg ⟨[.bool (pfN (kind)), .bool (pfR (kind)), .bool (false)]⟩ | 3 => (r31 3) = .pointer (some ⟨b1, 1, none⟩) | 4 => (r31 4) = .int .i64 (num) | 5 => (r31 5) = .pointer (some ⟨b1, 2, none⟩) | 6 => (r31 6) = .agg ⟨sC (ref)⟩ | _ => True) ⟨?_, ?_, ?_, ?_, ?_, ?_, ?_, trivial⟩ ?_
   ·intro ρ r31 N31 B hB hBa hp hr hr0
    have q1 : ρ 1 = .pointer (some ⟨b1, 0, none⟩) := hr0 1 (by kernel_rfl)
    obtain ⟨ρ32, rfl⟩ := reopen_ex (uc q1 un)
    clear q1
    refine JL_pure (v := .pointer (some ⟨b1, 0, none⟩)) rfl (fa30_0 rfl rfl) ?_
    refine JL_nil ?_
    exact ⟨.pointer (some ⟨b1, 0, none⟩), [], rfl, (Sub.emp Sub.refl), rfl⟩
   ·intro ρ r31 N31 B hB hBa hp hr hr0
    have q12 : ρ 12 = .pointer (some ⟨b1, 0, none⟩) := (hr 0 _ _ (by decide) rfl rfl rfl).trans (hp 0 (by decide) rfl)
    obtain ⟨ρ33, rfl⟩ := reopen_ex (uc q12 un)
    clear q12
    refine JL_run rfl (Pu_load1 ty3 rfl (At.bx 7 (made_old ((hB 0 (by decide)).trans rfl))) (pkP_0 ..) ?_)
    refine JL_nil ?_
    exact ⟨.int .i64 (kind), [], rfl, (Sub.emp Sub.refl), rfl⟩
   ·intro ρ r31 N31 B hB hBa hp hr hr0
    have q13 : ρ 13 = .int .i64 (kind) := (hr 1 _ _ (by decide) rfl rfl rfl).trans (hp 1 (by decide) rfl)
    obtain ⟨ρ34, rfl⟩ := reopen_ex (uc q13 un)
    clear q13
    refine JL_call rfl Tryz.call118 rfl (fun hin => patternFields_ct _ _) rfl ?_
    rintro _ _ ⟨rfl, rfl⟩
    refine JL_nil ?_
    exact ⟨.agg ⟨[.bool (pfN (kind)), .bool (pfR (kind)), .bool (false)]⟩, [], rfl, (Sub.emp Sub.refl), rfl⟩
   ·intro ρ r31 N31 B hB hBa hp hr hr0
    have q1 : ρ 1 = .pointer (some ⟨b1, 0, none⟩) := hr0 1 (by kernel_rfl)
    obtain ⟨ρ35, rfl⟩ := reopen_ex (uc q1 un)
    clear q1
    refine JL_pure (v := .pointer (some ⟨b1, 1, none⟩)) rfl (fa30_1 rfl rfl) ?_
    refine JL_nil ?_
    exact ⟨.pointer (some ⟨b1, 1, none⟩), [], rfl, (Sub.emp Sub.refl), rfl⟩
   ·intro ρ r31 N31 B hB hBa hp hr hr0
    have q15 : ρ 15 = .pointer (some ⟨b1, 1, none⟩) := (hr 3 _ _ (by decide) rfl rfl rfl).trans (hp 3 (by decide) rfl)
    obtain ⟨ρ36, rfl⟩ := reopen_ex (uc q15 un)
    clear q15
    refine JL_run rfl (Pu_load1 ty3 rfl (At.bx 7 (made_old ((hB 0 (by decide)).trans rfl))) (pkP_1 ..) ?_)
    refine JL_nil ?_
    exact ⟨.int .i64 (num), [], rfl, (Sub.emp Sub.refl), rfl⟩
   ·intro ρ r31 N31 B hB hBa hp hr hr0
    have q1 : ρ 1 = .pointer (some ⟨b1, 0, none⟩) := hr0 1 (by kernel_rfl)
    obtain ⟨ρ37, rfl⟩ := reopen_ex (uc q1 un)
    clear q1
    refine JL_pure (v := .pointer (some ⟨b1, 2, none⟩)) rfl (fa30_2 rfl rfl) ?_
    refine JL_nil ?_
    exact ⟨.pointer (some ⟨b1, 2, none⟩), [], rfl, (Sub.emp Sub.refl), rfl⟩
   ·intro ρ r31 N31 B hB hBa hp hr hr0
    have q17 : ρ 17 = .pointer (some ⟨b1, 2, none⟩) := (hr 5 _ _ (by decide) rfl rfl rfl).trans (hp 5 (by decide) rfl)
    obtain ⟨ρ38, rfl⟩ := reopen_ex (uc q17 un)
    clear q17
    refine JL_run rfl (Pu_load ty23 rfl (At.bx 7 (made_old ((hB 0 (by decide)).trans rfl))) (pkP_2 ..) ?_)
    refine JL_nil ?_
    exact ⟨.agg ⟨sC (ref)⟩, [], rfl, (Sub.emp Sub.refl), rfl⟩
   ·intro ρ r31 N31 hp hr hr0
    have q1 : ρ 1 = .pointer (some ⟨b1, 0, none⟩) := hr0 1 (by kernel_rfl)
    have q2 : ρ 2 = .int .i64 (0) := hr0 2 (by kernel_rfl)
    have q3 : ρ 3 = .int .i64 (0) := hr0 3 (by kernel_rfl)
    have q14 : ρ 14 = .agg ⟨[.bool (pfN (kind)), .bool (pfR (kind)), .bool (false)]⟩ := (hr 2 _ _ (by decide) rfl rfl).trans (hp 2 (by decide))
    have q16 : ρ 16 = .int .i64 (num) := (hr 4 _ _ (by decide) rfl rfl).trans (hp 4 (by decide))
    have q18 : ρ 18 = .agg ⟨sC (ref)⟩ := (hr 6 _ _ (by decide) rfl rfl).trans (hp 6 (by decide))
    obtain ⟨ρ39, rfl⟩ := reopen_ex (uc q1 (uc q2 (uc q3 (uc q14 (uc q16 (uc q18 un))))))
    clear q1 q2 q3 q14 q16 q18
    clear hp hr hr0 
    refine JL_sub (M' := [(N31 0), (N31 1), (N31 2), (N31 3), (N31 4), (N31 5), (N31 6), [(b1, .cells ⟨pkP (kind) (num) (ref) (ks)⟩ 30 (0, 0))]]) Sub.refl ?_
    refine JL_sub (M' := [[(b1, .cells ⟨pkP (kind) (num) (ref) (ks)⟩ 30 (0, 0))]]) (Sd (Sd (Sd (Sd (Sd (Sd (Sd (Sk Sub.nil)))))))) ?_
    show JL _ _ _ [_, _] _ _ _
    refine JL_call rfl Tryz.call109 rfl (fun hin => clash_ct _ _ _ _ _ _ _) rfl ?_
    rintro _ _ ⟨rfl, rfl⟩
    refine JL_pure (v := .bool (clashB (pfN (kind)) (pfR (kind)) (false) (num) (ref) (0))) rfl (Pu.assign rfl) ?_
    refine JL_nil ?_
    refine J_cond (b := clashB (pfN (kind)) (pfR (kind)) (false) (num) (ref) (0)) rfl (fun h40 => ?_) (fun h40 => ?_)
    ·skip
     refine J_seq ?_
     refine J_region ?_
     refine JL_pure (v := .int .i64 (7)) rfl (Pu.assign rfl) ?_
     refine JL_nil ?_
     refine J_ret ?_
     refine ⟨.int .i64 (7), [], Ret.one rfl (RV.tmp rfl), Sub.nil, ?_⟩
     exact ⟨by refine congrArg (Value.int .i64) ?_; simp only [pErr]; (repeat' split) <;> first | rfl | omega | (exfalso; simp_all; done) | (exfalso; simp_all; omega) | grind, rfl⟩
    ·skip
     refine J_seq ?_
     refine J_region ?_
     refine JL_pure (v := .pointer (some ⟨b1, 34, none⟩)) rfl (fa30_3 rfl rfl) ?_
     refine JL_run rfl (Pu_load1 ty28 rfl (At.bx 0 rfl) (pkP_34 ..) ?_)
     obtain ⟨a41, cap41, hv41⟩ := hks.sl
     have hle41 := hks.le
     refine JL_pure (v := .int .i64 (((kids).length : Int))) rfl (Pu.lenSl Tryz.runUnderlying28 hv41) ?_
     refine JL_pure (v := .int .i64 (0)) rfl (Pu.move rfl) ?_
     refine JL_pure (v := .bool (decide (0 < ((kids).length : Int)))) rfl (Pu.gtr rfl rfl) ?_
     refine JL_pure (v := .bool (decide (0 < ((kids).length : Int)))) rfl (Pu.assign rfl) ?_
     refine JL_nil ?_
     refine J_cond (b := decide (0 < ((kids).length : Int))) rfl (fun h42 => ?_) (fun h42 => ?_)
     ·skip
      replace h42 := dt h42
      refine J_seq ?_
      refine J_region ?_
      refine JL_pure (v := .int .i64 (2)) rfl (Pu.assign rfl) ?_
      refine JL_nil ?_
      refine J_ret ?_
      refine ⟨.int .i64 (2), [], Ret.one rfl (RV.tmp rfl), Sub.nil, ?_⟩
      exact ⟨by refine congrArg (Value.int .i64) ?_; simp only [pErr]; (repeat' split) <;> first | rfl | omega | (exfalso; simp_all; done) | (exfalso; simp_all; omega) | grind, rfl⟩
     ·skip
      replace h42 := df h42
      refine J_seq ?_
      refine J_cut (fun ρ M => ρ 1 = .pointer (some ⟨b1, 0, none⟩) ∧ ρ 2 = .int .i64 (0) ∧ ρ 26 = .bool ((decide (kind = 2)) && (decide (num < 0 ∨ 1073741824 < num))) ∧ M = [[(b1, .cells ⟨pkP (kind) (num) (ref) (ks)⟩ 30 (0, 0))]]) ?_ ?_
      ·refine J_region ?_
       refine JL_pure (v := .pointer (some ⟨b1, 0, none⟩)) rfl (fa30_0 rfl rfl) ?_
       refine JL_run rfl (Pu_load1 ty3 rfl (At.bx 0 rfl) (pkP_0 ..) ?_)
       refine JL_pure (v := .bool (decide (kind = 2))) rfl (Pu.eql rfl rfl) ?_
       refine JL_pure (v := .bool (decide (kind = 2))) rfl (Pu.move rfl) ?_
       cases h43 : (decide (kind = 2)) with
       | true =>
        replace h43 := dt h43
        refine JL_pure (v := .pointer (some ⟨b1, 1, none⟩)) rfl (fa30_1 rfl rfl) ?_
        refine JL_run rfl (Pu_load1 ty3 rfl (At.bx 0 rfl) (pkP_1 ..) ?_)
        refine JL_call rfl Tryz.call76 rfl (fun hin => off_ct _ _ _ _) rfl ?_
        rintro _ _ ⟨rfl, rfl⟩
        refine JL_pure (v := .bool (decide (num < 0 ∨ 1073741824 < num))) rfl (Pu.pickT rfl rfl) ?_
        refine JL_pure (v := .bool (decide (num < 0 ∨ 1073741824 < num))) rfl (Pu.assign rfl) ?_
        refine JL_nil ?_
        first | exact ⟨rfl, rfl, rfl, rfl⟩ | (exfalso; omega)
       | false =>
        replace h43 := df h43
        refine JL_skip rfl ?_
        refine JL_skip rfl ?_
        refine JL_skip rfl ?_
        refine JL_pure (v := .bool (false)) rfl (Pu.pickF rfl rfl) ?_
        refine JL_pure (v := .bool (false)) rfl (Pu.assign rfl) ?_
        refine JL_nil ?_
        first | exact ⟨rfl, rfl, rfl, rfl⟩ | (exfalso; omega)
      ·rintro ρ44 _ ⟨e45, e46, e47, rfl⟩
       obtain ⟨ρ48, rfl⟩ := reopen_ex (uc e45 (uc e46 (uc e47 un)))
       clear e45 e46 e47
       refine J_cond (b := (decide (kind = 2)) && (decide (num < 0 ∨ 1073741824 < num))) rfl (fun h49 => ?_) (fun h49 => ?_)
       ·skip
        obtain ⟨h49a, h49b⟩ := andT h49
        replace h49a := dt h49a
        replace h49b := dt h49b
        refine J_skip ?_
        refine J_cond (b := (decide (kind = 2)) && (decide (num < 0 ∨ 1073741824 < num))) rfl (fun h50 => ?_) (fun h50 => ?_)
        ·skip
         obtain ⟨h50a, h50b⟩ := andT h50
         replace h50a := dt h50a
         replace h50b := dt h50b
         refine J_seq ?_
         refine J_region ?_
         refine JL_pure (v := .int .i64 (3)) rfl (Pu.assign rfl) ?_
         refine JL_nil ?_
         refine J_ret ?_
         refine ⟨.int .i64 (3), [], Ret.one rfl (RV.tmp rfl), Sub.nil, ?_⟩
         exact ⟨by refine congrArg (Value.int .i64) ?_; simp only [pErr]; (repeat' split) <;> first | rfl | omega | (exfalso; simp_all; done) | (exfalso; simp_all; omega) | grind, rfl⟩
        ·skip
         refine J_skip ?_
         refine J_seq ?_
         refine J_region ?_
         refine JL_pure (v := .int .i64 (0)) rfl (Pu.assign rfl) ?_
         refine JL_nil ?_
         refine J_ret ?_
         refine ⟨.int .i64 (0), [], Ret.one rfl (RV.tmp rfl), Sub.nil, ?_⟩
         exact ⟨by refine congrArg (Value.int .i64) ?_; simp only [pErr]; (repeat' split) <;> first | rfl | omega | (exfalso; simp_all; done) | (exfalso; simp_all; omega) | grind, rfl⟩
       ·skip
        refine J_weak (N := fun ρ M => ρ 2 = .int .i64 (0) ∧ ρ 26 = .bool ((decide (kind = 3)) && (decide (num < 0 ∨ 7 < num))) ∧ M = [[(b1, .cells ⟨pkP (kind) (num) (ref) (ks)⟩ 30 (0, 0))]]) ?_ ?_
        ·refine J_region ?_
         refine JL_pure (v := .pointer (some ⟨b1, 0, none⟩)) rfl (fa30_0 rfl rfl) ?_
         refine JL_run rfl (Pu_load1 ty3 rfl (At.bx 0 rfl) (pkP_0 ..) ?_)
         refine JL_pure (v := .bool (decide (kind = 3))) rfl (Pu.eql rfl rfl) ?_
         refine JL_pure (v := .bool (decide (kind = 3))) rfl (Pu.move rfl) ?_
         cases h51 : (decide (kind = 3)) with
         | true =>
          replace h51 := dt h51
          refine JL_pure (v := .pointer (some ⟨b1, 1, none⟩)) rfl (fa30_1 rfl rfl) ?_
          refine JL_run rfl (Pu_load1 ty3 rfl (At.bx 0 rfl) (pkP_1 ..) ?_)
          refine JL_call rfl Tryz.call76 rfl (fun hin => off_ct _ _ _ _) rfl ?_
          rintro _ _ ⟨rfl, rfl⟩
          refine JL_pure (v := .bool (decide (num < 0 ∨ 7 < num))) rfl (Pu.pickT rfl rfl) ?_
          refine JL_pure (v := .bool (decide (num < 0 ∨ 7 < num))) rfl (Pu.assign rfl) ?_
          refine JL_nil ?_
          first | exact ⟨rfl, rfl, rfl⟩ | (exfalso; omega)
         | false =>
          replace h51 := df h51
          refine JL_skip rfl ?_
          refine JL_skip rfl ?_
          refine JL_skip rfl ?_
          refine JL_pure (v := .bool (false)) rfl (Pu.pickF rfl rfl) ?_
          refine JL_pure (v := .bool (false)) rfl (Pu.assign rfl) ?_
          refine JL_nil ?_
          first | exact ⟨rfl, rfl, rfl⟩ | (exfalso; omega)
        ·rintro ρ52 _ ⟨e53, e54, rfl⟩
         obtain ⟨ρ55, rfl⟩ := reopen_ex (uc e53 (uc e54 un))
         clear e53 e54
         refine J_cond (b := (decide (kind = 3)) && (decide (num < 0 ∨ 7 < num))) rfl (fun h56 => ?_) (fun h56 => ?_)
         ·skip
          obtain ⟨h56a, h56b⟩ := andT h56
          replace h56a := dt h56a
          replace h56b := dt h56b
          refine J_seq ?_
          refine J_region ?_
          refine JL_pure (v := .int .i64 (3)) rfl (Pu.assign rfl) ?_
          refine JL_nil ?_
          refine J_ret ?_
          refine ⟨.int .i64 (3), [], Ret.one rfl (RV.tmp rfl), Sub.nil, ?_⟩
          exact ⟨by refine congrArg (Value.int .i64) ?_; simp only [pErr]; (repeat' split) <;> first | rfl | omega | (exfalso; simp_all; done) | (exfalso; simp_all; omega) | grind, rfl⟩
         ·skip
          refine J_skip ?_
          refine J_seq ?_
          refine J_region ?_
          refine JL_pure (v := .int .i64 (0)) rfl (Pu.assign rfl) ?_
          refine JL_nil ?_
          refine J_ret ?_
          refine ⟨.int .i64 (0), [], Ret.one rfl (RV.tmp rfl), Sub.nil, ?_⟩
          exact ⟨by refine congrArg (Value.int .i64) ?_; simp only [pErr]; (repeat' split) <;> first | rfl | omega | (exfalso; simp_all; done) | (exfalso; simp_all; omega) | grind, rfl⟩
theorem patternsError_ct : ∀ (p : Pt) (cs : List Value) (H : Heap), RP H cs p → CT Tryz.prog 93 ⟨[.agg ⟨cs⟩]⟩ [] H (fun v N => v = .int .i64 (pErrs p) ∧ N = []) := by
 intro p
 induction p using Pt.ind with
 | h kind num ref kids ih =>
 intro cs H hp
 obtain ⟨ks, rfl, hk, hn, hks⟩ := RP_mk.1 hp
 refine CT_enter Tryz.func93 rfl rfl ?_
 refine J_seq ?_
 refine J_region ?_
 refine JL_run rfl (Runs_box (l := pkP (kind) (num) (ref) (ks)) rfl rfl fun b1 => ?_)
 refine JL_pure (v := .int .i64 (0)) rfl (Pu.assign rfl) ?_
 refine JL_nil ?_
 refine J_seq ?_
 refine J_region ?_
 refine JL_run rfl (Pu_load ty30 rfl (At.bx 0 rfl) (pkP_a ..) ?_)
 refine JL_call rfl Tryz.call112 rfl (fun hin => patternError_ct _ _ _ _ _ _ (RPs.mono (Hle.hu _ _) hks)) rfl ?_
 rintro _ _ ⟨rfl, rfl⟩
 refine JL_pure (v := .int .i64 (pErr kind num ref (kids).length)) rfl (Pu.assign rfl) ?_
 refine JL_nil ?_
 refine J_seq ?_
 refine J_seq ?_
 refine J_region ?_
 refine JL_pure (v := .int .i64 (0)) rfl (Pu.assign rfl) ?_
 refine JL_nil ?_
 refine J_block ?_
 refine J_loop (fun k ρ M => ∃ (j : Nat) (e : Int), ρ 1 = .pointer (some ⟨b1, 0, none⟩) ∧ ρ 2 = .int .i64 (0) ∧ ρ 3 = .int .i64 (e) ∧ ρ 4 = .int .i64 ((j : Int)) ∧ Sub [[(b1, .cells ⟨pkP (kind) (num) (ref) (ks)⟩ 30 (0, 0))]] M ∧ j ≤ (kids).length ∧ (if e = 0 then pErrsL (kids.drop j) else e) = pErrs (.mk kind num ref kids) ∧ k = (kids).length - j) _ ⟨0, (pErr kind num ref (kids).length), rfl, rfl, rfl, rfl, (Sk Sub.nil), Nat.zero_le _, (by rw [pErrs]; rfl), rfl⟩ ?_
 rintro _ ρ2 _ ⟨j, e, e3, e4, e5, e6, hm7, hj, hinv, rfl⟩
 obtain ⟨ρ8, rfl⟩ := reopen_ex (uc e3 (uc e4 (uc e5 (uc e6 un))))
 clear e3 e4 e5 e6
 refine J_sub hm7 ?_
 have hlen := hks.le
 refine J_seq ?_
 refine J_cut (fun ρ M => ρ 1 = .pointer (some ⟨b1, 0, none⟩) ∧ ρ 2 = .int .i64 (0) ∧ ρ 3 = .int .i64 (e) ∧ ρ 4 = .int .i64 ((j : Int)) ∧ ρ 15 = .bool ((decide ((j : Int) < ((kids).length : Int))) && (decide (e = 0))) ∧ M = [[(b1, .cells ⟨pkP (kind) (num) (ref) (ks)⟩ 30 (0, 0))]]) ?_ ?_
 ·refine J_region ?_
  refine JL_pure (v := .int .i64 ((j : Int))) rfl (Pu.move rfl) ?_
  refine JL_pure (v := .pointer (some ⟨b1, 34, none⟩)) rfl (fa30_3 rfl rfl) ?_
  refine JL_run rfl (Pu_load1 ty28 rfl (At.bx 0 rfl) (pkP_34 ..) ?_)
  obtain ⟨a9, cap9, hv9⟩ := hks.sl
  have hle9 := hks.le
  refine JL_pure (v := .int .i64 (((kids).length : Int))) rfl (Pu.lenSl Tryz.runUnderlying28 hv9) ?_
  refine JL_pure (v := .bool (decide ((j : Int) < ((kids).length : Int)))) rfl (Pu.lss rfl rfl) ?_
  refine JL_pure (v := .bool (decide ((j : Int) < ((kids).length : Int)))) rfl (Pu.move rfl) ?_
  cases h10 : (decide ((j : Int) < ((kids).length : Int))) with
  | true =>
   replace h10 := dt h10
   have h10n : j < (kids).length := by omega
   refine JL_pure (v := .int .i64 (e)) rfl (Pu.move rfl) ?_
   refine JL_pure (v := .bool (decide (e = 0))) rfl (Pu.eql rfl rfl) ?_
   refine JL_pure (v := .bool (decide (e = 0))) rfl (Pu.pickT rfl rfl) ?_
   refine JL_nil ?_
   first | exact ⟨rfl, rfl, rfl, rfl, rfl, rfl⟩ | (exfalso; omega)
  | false =>
   replace h10 := df h10
   have h10n : (kids).length ≤ j := by omega
   refine JL_skip rfl ?_
   refine JL_skip rfl ?_
   refine JL_pure (v := .bool (false)) rfl (Pu.pickF rfl rfl) ?_
   refine JL_nil ?_
   first | exact ⟨rfl, rfl, rfl, rfl, rfl, rfl⟩ | (exfalso; omega)
 ·rintro ρ11 _ ⟨e12, e13, e14, e15, e16, rfl⟩
  obtain ⟨ρ17, rfl⟩ := reopen_ex (uc e12 (uc e13 (uc e14 (uc e15 (uc e16 un)))))
  clear e12 e13 e14 e15 e16
  refine J_cond (b := (decide ((j : Int) < ((kids).length : Int))) && (decide (e = 0))) rfl (fun h18 => ?_) (fun h18 => ?_)
  ·skip
   obtain ⟨h18a, h18b⟩ := andT h18
   replace h18a := dt h18a
   have h18an : j < (kids).length := by omega
   replace h18b := dt h18b
   refine J_skip ?_
   refine J_seq ?_
   refine J_block ?_
   refine J_region ?_
   refine JL_pure (v := .pointer (some ⟨b1, 34, none⟩)) rfl (fa30_3 rfl rfl) ?_
   refine JL_run rfl (Pu_load1 ty28 rfl (At.bx 0 rfl) (pkP_34 ..) ?_)
   refine JL_pure (v := .int .i64 ((j : Int))) rfl (Pu.move rfl) ?_
   obtain ⟨b19, o19, cap19, row19, T19, fr19, cs19, hv19, hb19, hs19, hE19⟩ := hks.get j (by first | assumption | omega | decide | simp)
   refine JL_pure (v := .pointer (some ⟨b19, o19 + j * 35, none⟩)) rfl (Pu.idx j Tryz.runUnderlying28 ty30 hv19 rfl rfl (by first | assumption | omega | decide | simp)) ?_
   refine JL_run rfl (Pu_load ty30 rfl (At.im hb19) hs19 ?_)
   refine JL_call rfl Tryz.call93 rfl (fun hin => ih _ (List.getElem_mem h18an) _ _ (RP.mono (Hle.hu _ _) hE19)) rfl ?_
   rintro _ _ ⟨rfl, rfl⟩
   refine JL_pure (v := .int .i64 (pErrs ((kids)[j]))) rfl (Pu.assign rfl) ?_
   refine JL_nil ?_
   refine J_region ?_
   refine JL_pure (v := .int .i64 ((j : Int))) rfl (Pu.move rfl) ?_
   refine JL_pure (v := .int .i64 (((j + 1 : Nat) : Int))) rfl (Pu.inc rfl rfl (by omega)) ?_
   refine JL_pure (v := .int .i64 (((j + 1 : Nat) : Int))) rfl (Pu.assign rfl) ?_
   refine JL_nil ?_
   refine ⟨_, ?_, (j + 1), (pErrs ((kids)[j])), rfl, rfl, rfl, rfl, (Sk Sub.nil), ?_, ?_, rfl⟩
   ·omega
   ·omega
   ·rw [if_pos (by assumption), dropc h18an, pErrsL] at hinv; exact hinv
  ·skip
   refine J_exit _ rfl ?_
   refine J_seq ?_
   refine J_region ?_
   refine JL_pure (v := .int .i64 (e)) rfl (Pu.move rfl) ?_
   refine JL_pure (v := .int .i64 (e)) rfl (Pu.assign rfl) ?_
   refine JL_nil ?_
   refine J_ret ?_
   refine ⟨.int .i64 (e), [], Ret.one rfl (RV.tmp rfl), Sub.nil, ?_⟩
   refine ⟨?_, rfl⟩
   rw [← hinv]; by_cases he : e = 0
   ·have hj2 : kids.length ≤ j := by
     apply Nat.le_of_not_lt; intro hlt; have : (j : Int) < (kids.length : Int) := by omega
     simp_all
    rw [if_pos he, dropn hj2, he]; rfl
   ·rw [if_neg he]
theorem patternErrorR_ct : ∀ (p : Pt) (cs : List Value) (H : Heap), RP H cs p → CT Tryz.prog 98 ⟨[.agg ⟨cs⟩]⟩ [] H (fun v N => v = .int .i64 (pErrR p) ∧ N = []) := by
 intro p
 induction p using Pt.ind with
 | h kind num ref kids ih =>
 intro cs H hp
 obtain ⟨ks, rfl, hk, hn, hks⟩ := RP_mk.1 hp
 refine CT_enter Tryz.func98 rfl rfl ?_
 refine J_seq ?_
 refine J_region ?_
 refine JL_run rfl (Runs_box (l := pkP (kind) (num) (ref) (ks)) rfl rfl fun b1 => ?_)
 refine JL_pure (v := .int .i64 (0)) rfl (Pu.assign rfl) ?_
 refine JL_nil ?_
 refine J_seq ?_
 refine J_seq ?_
 refine J_region ?_
 refine JL_pure (v := .pointer (some ⟨b1, 0, none⟩)) rfl (fa30_0 rfl rfl) ?_
 refine JL_run rfl (Pu_load1 ty3 rfl (At.bx 0 rfl) (pkP_0 ..) ?_)
 refine JL_call rfl Tryz.call94 rfl (fun hin => offR_ct _ _ _ _) rfl ?_
 rintro _ _ ⟨rfl, rfl⟩
 refine JL_nil ?_
 refine J_cond (b := decide (kind < 1 ∨ 3 < kind)) rfl (fun h2 => ?_) (fun h2 => ?_)
 ·skip
  replace h2 := dt h2
  refine J_seq ?_
  refine J_region ?_
  refine JL_pure (v := .int .i64 (3)) rfl (Pu.assign rfl) ?_
  refine JL_nil ?_
  refine J_ret ?_
  refine ⟨.int .i64 (3), [], Ret.one rfl (RV.tmp rfl), Sub.nil, ?_⟩
  have hx : pHead kind num ref kids.length = 3 := by simp only [pHead]; (repeat' split) <;> first | rfl | omega | (exfalso; simp_all; done) | (exfalso; simp_all; omega) | grind
  exact ⟨by rw [pErrR, hx]; rfl, rfl⟩
 ·skip
  replace h2 := df h2
  refine J_skip ?_
  refine J_seq ?_
  refine J_cut (fun ρ M => ρ 1 = .pointer (some ⟨b1, 0, none⟩) ∧ ρ 2 = .int .i64 (0) ∧ ρ 26 = .bool (((decide (kind = 1)) && (!decide (num = 0))) || ((!decide (kind = 3)) && (!decide (ref = zS)))) ∧ M = [[(b1, .cells ⟨pkP (kind) (num) (ref) (ks)⟩ 30 (0, 0))]]) ?_ ?_
  ·refine J_region ?_
   refine JL_pure (v := .pointer (some ⟨b1, 0, none⟩)) rfl (fa30_0 rfl rfl) ?_
   refine JL_run rfl (Pu_load1 ty3 rfl (At.bx 0 rfl) (pkP_0 ..) ?_)
   refine JL_pure (v := .bool (decide (kind = 1))) rfl (Pu.eql rfl rfl) ?_
   refine JL_pure (v := .bool (decide (kind = 1))) rfl (Pu.move rfl) ?_
   cases h3 : (decide (kind = 1)) with
   | true =>
    replace h3 := dt h3
    refine JL_pure (v := .pointer (some ⟨b1, 1, none⟩)) rfl (fa30_1 rfl rfl) ?_
    refine JL_run rfl (Pu_load1 ty3 rfl (At.bx 0 rfl) (pkP_1 ..) ?_)
    refine JL_pure (v := .bool (!decide (num = 0))) rfl (Pu.neq rfl rfl) ?_
    refine JL_pure (v := .bool (!decide (num = 0))) rfl (Pu.pickT rfl rfl) ?_
    refine JL_pure (v := .bool (!decide (num = 0))) rfl (Pu.move rfl) ?_
    cases h4 : (!decide (num = 0)) with
    | true =>
     replace h4 := nt h4
     replace h4 := df h4
     refine JL_skip rfl ?_
     refine JL_skip rfl ?_
     refine JL_skip rfl ?_
     refine JL_skip rfl ?_
     refine JL_skip rfl ?_
     refine JL_skip rfl ?_
     refine JL_skip rfl ?_
     refine JL_skip rfl ?_
     refine JL_skip rfl ?_
     refine JL_pure (v := .bool (true)) rfl (Pu.pickT rfl rfl) ?_
     refine JL_nil ?_
     first | exact ⟨rfl, rfl, rfl, rfl⟩ | (exfalso; omega)
    | false =>
     replace h4 := nf h4
     replace h4 := dt h4
     refine JL_pure (v := .pointer (some ⟨b1, 0, none⟩)) rfl (fa30_0 rfl rfl) ?_
     refine JL_run rfl (Pu_load1 ty3 rfl (At.bx 0 rfl) (pkP_0 ..) ?_)
     refine JL_pure (v := .bool (!decide (kind = 3))) rfl (Pu.neq rfl rfl) ?_
     refine JL_pure (v := .bool (!decide (kind = 3))) rfl (Pu.move rfl) ?_
     cases h5 : (!decide (kind = 3)) with
     | true =>
      replace h5 := nt h5
      replace h5 := df h5
      refine JL_pure (v := .pointer (some ⟨b1, 2, none⟩)) rfl (fa30_2 rfl rfl) ?_
      refine JL_run rfl (Pu_load ty23 rfl (At.bx 0 rfl) (pkP_2 ..) ?_)
      refine JL_pure (v := .agg ⟨sC (zS)⟩) rfl (Pu.build (pv := []) (l := sC (zS)) rfl bld23_) ?_
      refine JL_pure (v := .bool (!decide (ref = zS))) rfl (neqS rfl rfl) ?_
      refine JL_pure (v := .bool (!decide (ref = zS))) rfl (Pu.pickT rfl rfl) ?_
      refine JL_pure (v := .bool (!decide (ref = zS))) rfl (Pu.pickF rfl rfl) ?_
      refine JL_nil ?_
      first | exact ⟨rfl, rfl, rfl, rfl⟩ | (exfalso; omega)
     | false =>
      replace h5 := nf h5
      replace h5 := dt h5
      refine JL_skip rfl ?_
      refine JL_skip rfl ?_
      refine JL_skip rfl ?_
      refine JL_skip rfl ?_
      refine JL_pure (v := .bool (false)) rfl (Pu.pickF rfl rfl) ?_
      refine JL_pure (v := .bool (false)) rfl (Pu.pickF rfl rfl) ?_
      refine JL_nil ?_
      first | exact ⟨rfl, rfl, rfl, rfl⟩ | (exfalso; omega)
   | false =>
    replace h3 := df h3
    refine JL_skip rfl ?_
    refine JL_skip rfl ?_
    refine JL_skip rfl ?_
    refine JL_pure (v := .bool (false)) rfl (Pu.pickF rfl rfl) ?_
    refine JL_pure (v := .bool (false)) rfl (Pu.move rfl) ?_
    refine JL_pure (v := .pointer (some ⟨b1, 0, none⟩)) rfl (fa30_0 rfl rfl) ?_
    refine JL_run rfl (Pu_load1 ty3 rfl (At.bx 0 rfl) (pkP_0 ..) ?_)
    refine JL_pure (v := .bool (!decide (kind = 3))) rfl (Pu.neq rfl rfl) ?_
    refine JL_pure (v := .bool (!decide (kind = 3))) rfl (Pu.move rfl) ?_
    cases h6 : (!decide (kind = 3)) with
    | true =>
     replace h6 := nt h6
     replace h6 := df h6
     refine JL_pure (v := .pointer (some ⟨b1, 2, none⟩)) rfl (fa30_2 rfl rfl) ?_
     refine JL_run rfl (Pu_load ty23 rfl (At.bx 0 rfl) (pkP_2 ..) ?_)
     refine JL_pure (v := .agg ⟨sC (zS)⟩) rfl (Pu.build (pv := []) (l := sC (zS)) rfl bld23_) ?_
     refine JL_pure (v := .bool (!decide (ref = zS))) rfl (neqS rfl rfl) ?_
     refine JL_pure (v := .bool (!decide (ref = zS))) rfl (Pu.pickT rfl rfl) ?_
     refine JL_pure (v := .bool (!decide (ref = zS))) rfl (Pu.pickF rfl rfl) ?_
     refine JL_nil ?_
     first | exact ⟨rfl, rfl, rfl, rfl⟩ | (exfalso; omega)
    | false =>
     replace h6 := nf h6
     replace h6 := dt h6
     refine JL_skip rfl ?_
     refine JL_skip rfl ?_
     refine JL_skip rfl ?_
     refine JL_skip rfl ?_
     refine JL_pure (v := .bool (false)) rfl (Pu.pickF rfl rfl) ?_
     refine JL_pure (v := .bool (false)) rfl (Pu.pickF rfl rfl) ?_
     refine JL_nil ?_
     first | exact ⟨rfl, rfl, rfl, rfl⟩ | (exfalso; omega)
  ·rintro ρ7 _ ⟨e8, e9, e10, rfl⟩
   obtain ⟨ρ11, rfl⟩ := reopen_ex (uc e8 (uc e9 (uc e10 un)))
   clear e8 e9 e10
   refine J_cond (b := ((decide (kind = 1)) && (!decide (num = 0))) || ((!decide (kind = 3)) && (!decide (ref = zS)))) rfl (fun h12 => ?_) (fun h12 => ?_)
   ·skip
    refine J_seq ?_
    refine J_region ?_
    refine JL_pure (v := .int .i64 (7)) rfl (Pu.assign rfl) ?_
    refine JL_nil ?_
    refine J_ret ?_
    refine ⟨.int .i64 (7), [], Ret.one rfl (RV.tmp rfl), Sub.nil, ?_⟩
    have hx : pHead kind num ref kids.length = 7 := by simp only [pHead]; (repeat' split) <;> first | rfl | omega | (exfalso; simp_all; done) | (exfalso; simp_all; omega) | grind
    exact ⟨by rw [pErrR, hx]; rfl, rfl⟩
   ·skip
    obtain ⟨h12a, h12b⟩ := orF h12
    refine J_skip ?_
    refine J_seq ?_
    refine J_cut (fun ρ M => ρ 1 = .pointer (some ⟨b1, 0, none⟩) ∧ ρ 2 = .int .i64 (0) ∧ ρ 41 = .bool (((!decide (kind = 3)) && (decide (0 < ((kids).length : Int)))) || (decide (4 < ((kids).length : Int)))) ∧ M = [[(b1, .cells ⟨pkP (kind) (num) (ref) (ks)⟩ 30 (0, 0))]]) ?_ ?_
    ·refine J_region ?_
     refine JL_pure (v := .pointer (some ⟨b1, 0, none⟩)) rfl (fa30_0 rfl rfl) ?_
     refine JL_run rfl (Pu_load1 ty3 rfl (At.bx 0 rfl) (pkP_0 ..) ?_)
     refine JL_pure (v := .bool (!decide (kind = 3))) rfl (Pu.neq rfl rfl) ?_
     refine JL_pure (v := .bool (!decide (kind = 3))) rfl (Pu.move rfl) ?_
     cases h13 : (!decide (kind = 3)) with
     | true =>
      replace h13 := nt h13
      replace h13 := df h13
      refine JL_pure (v := .pointer (some ⟨b1, 34, none⟩)) rfl (fa30_3 rfl rfl) ?_
      refine JL_run rfl (Pu_load1 ty28 rfl (At.bx 0 rfl) (pkP_34 ..) ?_)
      obtain ⟨a14, cap14, hv14⟩ := hks.sl
      have hle14 := hks.le
      refine JL_pure (v := .int .i64 (((kids).length : Int))) rfl (Pu.lenSl Tryz.runUnderlying28 hv14) ?_
      refine JL_pure (v := .bool (decide (0 < ((kids).length : Int)))) rfl (Pu.gtr rfl rfl) ?_
      refine JL_pure (v := .bool (decide (0 < ((kids).length : Int)))) rfl (Pu.pickT rfl rfl) ?_
      refine JL_pure (v := .bool (decide (0 < ((kids).length : Int)))) rfl (Pu.move rfl) ?_
      cases h15 : (decide (0 < ((kids).length : Int))) with
      | true =>
       replace h15 := dt h15
       refine JL_skip rfl ?_
       refine JL_skip rfl ?_
       refine JL_skip rfl ?_
       refine JL_skip rfl ?_
       refine JL_pure (v := .bool (true)) rfl (Pu.pickT rfl rfl) ?_
       refine JL_nil ?_
       first | exact ⟨rfl, rfl, rfl, rfl⟩ | (exfalso; omega)
      | false =>
       replace h15 := df h15
       refine JL_pure (v := .pointer (some ⟨b1, 34, none⟩)) rfl (fa30_3 rfl rfl) ?_
       refine JL_run rfl (Pu_load1 ty28 rfl (At.bx 0 rfl) (pkP_34 ..) ?_)
       obtain ⟨a16, cap16, hv16⟩ := hks.sl
       have hle16 := hks.le
       refine JL_pure (v := .int .i64 (((kids).length : Int))) rfl (Pu.lenSl Tryz.runUnderlying28 hv16) ?_
       refine JL_pure (v := .bool (decide (4 < ((kids).length : Int)))) rfl (Pu.gtr rfl rfl) ?_
       refine JL_pure (v := .bool (decide (4 < ((kids).length : Int)))) rfl (Pu.pickF rfl rfl) ?_
       refine JL_nil ?_
       first | exact ⟨rfl, rfl, rfl, rfl⟩ | (exfalso; omega)
     | false =>
      replace h13 := nf h13
      replace h13 := dt h13
      refine JL_skip rfl ?_
      refine JL_skip rfl ?_
      refine JL_skip rfl ?_
      refine JL_skip rfl ?_
      refine JL_pure (v := .bool (false)) rfl (Pu.pickF rfl rfl) ?_
      refine JL_pure (v := .bool (false)) rfl (Pu.move rfl) ?_
      refine JL_pure (v := .pointer (some ⟨b1, 34, none⟩)) rfl (fa30_3 rfl rfl) ?_
      refine JL_run rfl (Pu_load1 ty28 rfl (At.bx 0 rfl) (pkP_34 ..) ?_)
      obtain ⟨a17, cap17, hv17⟩ := hks.sl
      have hle17 := hks.le
      refine JL_pure (v := .int .i64 (((kids).length : Int))) rfl (Pu.lenSl Tryz.runUnderlying28 hv17) ?_
      refine JL_pure (v := .bool (decide (4 < ((kids).length : Int)))) rfl (Pu.gtr rfl rfl) ?_
      refine JL_pure (v := .bool (decide (4 < ((kids).length : Int)))) rfl (Pu.pickF rfl rfl) ?_
      refine JL_nil ?_
      first | exact ⟨rfl, rfl, rfl, rfl⟩ | (exfalso; omega)
    ·rintro ρ18 _ ⟨e19, e20, e21, rfl⟩
     obtain ⟨ρ22, rfl⟩ := reopen_ex (uc e19 (uc e20 (uc e21 un)))
     clear e19 e20 e21
     refine J_cond (b := ((!decide (kind = 3)) && (decide (0 < ((kids).length : Int)))) || (decide (4 < ((kids).length : Int)))) rfl (fun h23 => ?_) (fun h23 => ?_)
     ·skip
      refine J_seq ?_
      refine J_region ?_
      refine JL_pure (v := .int .i64 (2)) rfl (Pu.assign rfl) ?_
      refine JL_nil ?_
      refine J_ret ?_
      refine ⟨.int .i64 (2), [], Ret.one rfl (RV.tmp rfl), Sub.nil, ?_⟩
      have hx : pHead kind num ref kids.length = 2 := by simp only [pHead]; (repeat' split) <;> first | rfl | omega | (exfalso; simp_all; done) | (exfalso; simp_all; omega) | grind
      exact ⟨by rw [pErrR, hx]; rfl, rfl⟩
     ·skip
      obtain ⟨h23a, h23b⟩ := orF h23
      replace h23b := df h23b
      refine J_skip ?_
      refine J_seq ?_
      refine J_cut (fun ρ M => ρ 1 = .pointer (some ⟨b1, 0, none⟩) ∧ ρ 2 = .int .i64 (0) ∧ ρ 59 = .bool (((decide (kind = 2)) && (decide (num < 0 ∨ 1073741824 < num))) || ((decide (kind = 3)) && (decide (num < 0 ∨ 7 < num)))) ∧ M = [[(b1, .cells ⟨pkP (kind) (num) (ref) (ks)⟩ 30 (0, 0))]]) ?_ ?_
      ·refine J_region ?_
       refine JL_pure (v := .pointer (some ⟨b1, 0, none⟩)) rfl (fa30_0 rfl rfl) ?_
       refine JL_run rfl (Pu_load1 ty3 rfl (At.bx 0 rfl) (pkP_0 ..) ?_)
       refine JL_pure (v := .bool (decide (kind = 2))) rfl (Pu.eql rfl rfl) ?_
       refine JL_pure (v := .bool (decide (kind = 2))) rfl (Pu.move rfl) ?_
       cases h24 : (decide (kind = 2)) with
       | true =>
        replace h24 := dt h24
        refine JL_pure (v := .pointer (some ⟨b1, 1, none⟩)) rfl (fa30_1 rfl rfl) ?_
        refine JL_run rfl (Pu_load1 ty3 rfl (At.bx 0 rfl) (pkP_1 ..) ?_)
        refine JL_call rfl Tryz.call94 rfl (fun hin => offR_ct _ _ _ _) rfl ?_
        rintro _ _ ⟨rfl, rfl⟩
        refine JL_pure (v := .bool (decide (num < 0 ∨ 1073741824 < num))) rfl (Pu.pickT rfl rfl) ?_
        refine JL_pure (v := .bool (decide (num < 0 ∨ 1073741824 < num))) rfl (Pu.move rfl) ?_
        cases h25 : (decide (num < 0 ∨ 1073741824 < num)) with
        | true =>
         replace h25 := dt h25
         refine JL_skip rfl ?_
         refine JL_skip rfl ?_
         refine JL_skip rfl ?_
         refine JL_skip rfl ?_
         refine JL_skip rfl ?_
         refine JL_skip rfl ?_
         refine JL_skip rfl ?_
         refine JL_skip rfl ?_
         refine JL_pure (v := .bool (true)) rfl (Pu.pickT rfl rfl) ?_
         refine JL_nil ?_
         first | exact ⟨rfl, rfl, rfl, rfl⟩ | (exfalso; omega)
        | false =>
         replace h25 := df h25
         refine JL_pure (v := .pointer (some ⟨b1, 0, none⟩)) rfl (fa30_0 rfl rfl) ?_
         refine JL_run rfl (Pu_load1 ty3 rfl (At.bx 0 rfl) (pkP_0 ..) ?_)
         refine JL_pure (v := .bool (decide (kind = 3))) rfl (Pu.eql rfl rfl) ?_
         refine JL_pure (v := .bool (decide (kind = 3))) rfl (Pu.move rfl) ?_
         cases h26 : (decide (kind = 3)) with
         | true =>
          replace h26 := dt h26
          refine JL_pure (v := .pointer (some ⟨b1, 1, none⟩)) rfl (fa30_1 rfl rfl) ?_
          refine JL_run rfl (Pu_load1 ty3 rfl (At.bx 0 rfl) (pkP_1 ..) ?_)
          refine JL_call rfl Tryz.call94 rfl (fun hin => offR_ct _ _ _ _) rfl ?_
          rintro _ _ ⟨rfl, rfl⟩
          refine JL_pure (v := .bool (decide (num < 0 ∨ 7 < num))) rfl (Pu.pickT rfl rfl) ?_
          refine JL_pure (v := .bool (decide (num < 0 ∨ 7 < num))) rfl (Pu.pickF rfl rfl) ?_
          refine JL_nil ?_
          first | exact ⟨rfl, rfl, rfl, rfl⟩ | (exfalso; omega)
         | false =>
          replace h26 := df h26
          refine JL_skip rfl ?_
          refine JL_skip rfl ?_
          refine JL_skip rfl ?_
          refine JL_pure (v := .bool (false)) rfl (Pu.pickF rfl rfl) ?_
          refine JL_pure (v := .bool (false)) rfl (Pu.pickF rfl rfl) ?_
          refine JL_nil ?_
          first | exact ⟨rfl, rfl, rfl, rfl⟩ | (exfalso; omega)
       | false =>
        replace h24 := df h24
        refine JL_skip rfl ?_
        refine JL_skip rfl ?_
        refine JL_skip rfl ?_
        refine JL_pure (v := .bool (false)) rfl (Pu.pickF rfl rfl) ?_
        refine JL_pure (v := .bool (false)) rfl (Pu.move rfl) ?_
        refine JL_pure (v := .pointer (some ⟨b1, 0, none⟩)) rfl (fa30_0 rfl rfl) ?_
        refine JL_run rfl (Pu_load1 ty3 rfl (At.bx 0 rfl) (pkP_0 ..) ?_)
        refine JL_pure (v := .bool (decide (kind = 3))) rfl (Pu.eql rfl rfl) ?_
        refine JL_pure (v := .bool (decide (kind = 3))) rfl (Pu.move rfl) ?_
        cases h27 : (decide (kind = 3)) with
        | true =>
         replace h27 := dt h27
         refine JL_pure (v := .pointer (some ⟨b1, 1, none⟩)) rfl (fa30_1 rfl rfl) ?_
         refine JL_run rfl (Pu_load1 ty3 rfl (At.bx 0 rfl) (pkP_1 ..) ?_)
         refine JL_call rfl Tryz.call94 rfl (fun hin => offR_ct _ _ _ _) rfl ?_
         rintro _ _ ⟨rfl, rfl⟩
         refine JL_pure (v := .bool (decide (num < 0 ∨ 7 < num))) rfl (Pu.pickT rfl rfl) ?_
         refine JL_pure (v := .bool (decide (num < 0 ∨ 7 < num))) rfl (Pu.pickF rfl rfl) ?_
         refine JL_nil ?_
         first | exact ⟨rfl, rfl, rfl, rfl⟩ | (exfalso; omega)
        | false =>
         replace h27 := df h27
         refine JL_skip rfl ?_
         refine JL_skip rfl ?_
         refine JL_skip rfl ?_
         refine JL_pure (v := .bool (false)) rfl (Pu.pickF rfl rfl) ?_
         refine JL_pure (v := .bool (false)) rfl (Pu.pickF rfl rfl) ?_
         refine JL_nil ?_
         first | exact ⟨rfl, rfl, rfl, rfl⟩ | (exfalso; omega)
      ·rintro ρ28 _ ⟨e29, e30, e31, rfl⟩
       obtain ⟨ρ32, rfl⟩ := reopen_ex (uc e29 (uc e30 (uc e31 un)))
       clear e29 e30 e31
       refine J_cond (b := ((decide (kind = 2)) && (decide (num < 0 ∨ 1073741824 < num))) || ((decide (kind = 3)) && (decide (num < 0 ∨ 7 < num)))) rfl (fun h33 => ?_) (fun h33 => ?_)
       ·skip
        refine J_seq ?_
        refine J_region ?_
        refine JL_pure (v := .int .i64 (3)) rfl (Pu.assign rfl) ?_
        refine JL_nil ?_
        refine J_ret ?_
        refine ⟨.int .i64 (3), [], Ret.one rfl (RV.tmp rfl), Sub.nil, ?_⟩
        have hx : pHead kind num ref kids.length = 3 := by simp only [pHead]; (repeat' split) <;> first | rfl | omega | (exfalso; simp_all; done) | (exfalso; simp_all; omega) | grind
        exact ⟨by rw [pErrR, hx]; rfl, rfl⟩
       ·skip
        obtain ⟨h33a, h33b⟩ := orF h33
        refine J_skip ?_
        refine J_seq ?_
        refine J_seq ?_
        refine J_region ?_
        refine JL_pure (v := .int .i64 (0)) rfl (Pu.assign rfl) ?_
        refine JL_nil ?_
        refine J_block ?_
        refine J_loop (fun k ρ M => ∃ (j : Nat), ρ 1 = .pointer (some ⟨b1, 0, none⟩) ∧ ρ 2 = .int .i64 (0) ∧ ρ 3 = .int .i64 ((j : Int)) ∧ Sub [[(b1, .cells ⟨pkP (kind) (num) (ref) (ks)⟩ 30 (0, 0))]] M ∧ j ≤ (kids).length ∧ pHead kind num ref kids.length = 0 ∧ pErrRL (kids.drop j) = pErrRL kids ∧ k = (kids).length - j) _ ⟨0, rfl, rfl, rfl, (Sk Sub.nil), Nat.zero_le _, (by simp only [pHead]; (repeat' split) <;> first | rfl | omega | (exfalso; simp_all; done) | (exfalso; simp_all; omega) | grind), rfl, rfl⟩ ?_
        rintro _ ρ34 _ ⟨j, e35, e36, e37, hm38, hj, hh, hinv, rfl⟩
        obtain ⟨ρ39, rfl⟩ := reopen_ex (uc e35 (uc e36 (uc e37 un)))
        clear e35 e36 e37
        refine J_sub hm38 ?_
        have hlen := hks.le
        refine J_seq ?_
        refine J_seq ?_
        refine J_region ?_
        refine JL_pure (v := .int .i64 ((j : Int))) rfl (Pu.move rfl) ?_
        refine JL_pure (v := .pointer (some ⟨b1, 34, none⟩)) rfl (fa30_3 rfl rfl) ?_
        refine JL_run rfl (Pu_load1 ty28 rfl (At.bx 0 rfl) (pkP_34 ..) ?_)
        obtain ⟨a40, cap40, hv40⟩ := hks.sl
        have hle40 := hks.le
        refine JL_pure (v := .int .i64 (((kids).length : Int))) rfl (Pu.lenSl Tryz.runUnderlying28 hv40) ?_
        refine JL_pure (v := .bool (decide ((j : Int) < ((kids).length : Int)))) rfl (Pu.lss rfl rfl) ?_
        refine JL_nil ?_
        refine J_cond (b := decide ((j : Int) < ((kids).length : Int))) rfl (fun h41 => ?_) (fun h41 => ?_)
        ·skip
         replace h41 := dt h41
         have h41n : j < (kids).length := by omega
         refine J_skip ?_
         refine J_seq ?_
         refine J_block ?_
         refine J_seq ?_
         refine J_region ?_
         refine JL_pure (v := .pointer (some ⟨b1, 34, none⟩)) rfl (fa30_3 rfl rfl) ?_
         refine JL_run rfl (Pu_load1 ty28 rfl (At.bx 0 rfl) (pkP_34 ..) ?_)
         refine JL_pure (v := .int .i64 ((j : Int))) rfl (Pu.move rfl) ?_
         obtain ⟨b42, o42, cap42, row42, T42, fr42, cs42, hv42, hb42, hs42, hE42⟩ := hks.get j (by first | assumption | omega | decide | simp)
         refine JL_pure (v := .pointer (some ⟨b42, o42 + j * 35, none⟩)) rfl (Pu.idx j Tryz.runUnderlying28 ty30 hv42 rfl rfl (by first | assumption | omega | decide | simp)) ?_
         refine JL_run rfl (Pu_load ty30 rfl (At.im hb42) hs42 ?_)
         refine JL_call rfl Tryz.call98 rfl (fun hin => ih _ (List.getElem_mem h41n) _ _ (RP.mono (Hle.hu _ _) hE42)) rfl ?_
         rintro _ _ ⟨rfl, rfl⟩
         refine JL_pure (v := .int .i64 (pErrR ((kids)[j]))) rfl (Pu.assign rfl) ?_
         refine JL_nil ?_
         refine J_seq ?_
         refine J_region ?_
         refine JL_pure (v := .int .i64 (pErrR ((kids)[j]))) rfl (Pu.move rfl) ?_
         refine JL_pure (v := .bool (!decide (pErrR ((kids)[j]) = 0))) rfl (Pu.neq rfl rfl) ?_
         refine JL_nil ?_
         refine J_cond (b := !decide (pErrR ((kids)[j]) = 0)) rfl (fun h43 => ?_) (fun h43 => ?_)
         ·skip
          replace h43 := nt h43
          replace h43 := df h43
          refine J_seq ?_
          refine J_region ?_
          refine JL_pure (v := .int .i64 (pErrR ((kids)[j]))) rfl (Pu.move rfl) ?_
          refine JL_pure (v := .int .i64 (pErrR ((kids)[j]))) rfl (Pu.assign rfl) ?_
          refine JL_nil ?_
          refine J_ret ?_
          refine ⟨.int .i64 (pErrR ((kids)[j])), [], Ret.one rfl (RV.tmp rfl), Sub.nil, ?_⟩
          exact ⟨by rw [pErrR, if_pos hh, ← hinv, dropc h41n, pErrRL, if_neg h43], rfl⟩
         ·skip
          replace h43 := nf h43
          replace h43 := dt h43
          refine J_skip ?_
          refine J_region ?_
          refine JL_pure (v := .int .i64 ((j : Int))) rfl (Pu.move rfl) ?_
          refine JL_pure (v := .int .i64 (((j + 1 : Nat) : Int))) rfl (Pu.inc rfl rfl (by omega)) ?_
          refine JL_pure (v := .int .i64 (((j + 1 : Nat) : Int))) rfl (Pu.assign rfl) ?_
          refine JL_nil ?_
          refine ⟨_, ?_, (j + 1), rfl, rfl, rfl, (Sk Sub.nil), ?_, ?_, ?_, rfl⟩
          ·omega
          ·omega
          ·assumption
          ·rw [dropc h41n, pErrRL, if_pos h43] at hinv; exact hinv
        ·skip
         replace h41 := df h41
         have h41n : (kids).length ≤ j := by omega
         refine J_exit _ rfl ?_
         refine J_seq ?_
         refine J_region ?_
         refine JL_pure (v := .int .i64 (0)) rfl (Pu.assign rfl) ?_
         refine JL_nil ?_
         refine J_ret ?_
         refine ⟨.int .i64 (0), [], Ret.one rfl (RV.tmp rfl), Sub.nil, ?_⟩
         exact ⟨by rw [pErrR, if_pos hh, ← hinv, dropn h41n]; rfl, rfl⟩
theorem nodeError_ct : ∀ (t : Tm) (d m b : Int) (cs : List Value) (H : Heap), RT H cs t → 0 ≤ b → b + 2 * sizeT t ≤ 1000000 → CT Tryz.prog 57 ⟨[.agg ⟨cs⟩, .int .i64 d, .int .i64 m, .int .i64 b]⟩ [] H (fun v N => v = .int .i64 (nErr d m b t) ∧ N = []) := by
 intro t
 induction t using Tm.ind with
 | h kind num ref kids cases ih ih' =>
 intro d m b cs H ht hb0 hb
 obtain ⟨ks, cv, rfl, hk, hn, hks, hcv⟩ := RT_mk.1 ht
 rw [sizeT] at hb
 have hn1 : -9223372036854775808 ≤ num := hn.1
 have hn2 : num ≤ 9223372036854775807 := hn.2
 refine CT_enter Tryz.func57 rfl rfl ?_
 refine J_seq ?_
 refine J_region ?_
 refine JL_run rfl (Runs_box (l := pkT (kind) (num) (ref) (ks) (cv)) rfl rfl fun b1 => ?_)
 refine JL_pure (v := .int .i64 (0)) rfl (Pu.assign rfl) ?_
 refine JL_nil ?_
 refine J_seq ?_
 refine J_seq ?_
 refine J_region ?_
 refine JL_pure (v := .pointer (some ⟨b1, 0, none⟩)) rfl (fa27_0 rfl rfl) ?_
 refine JL_run rfl (Pu_load1 ty3 rfl (At.bx 0 rfl) (pkT_0 ..) ?_)
 refine JL_call rfl Tryz.call94 rfl (fun hin => offR_ct _ _ _ _) rfl ?_
 rintro _ _ ⟨rfl, rfl⟩
 refine JL_nil ?_
 refine J_cond (b := decide (kind < 1 ∨ 12 < kind)) rfl (fun h2 => ?_) (fun h2 => ?_)
 ·skip
  replace h2 := dt h2
  refine J_seq ?_
  refine J_region ?_
  refine JL_pure (v := .int .i64 (3)) rfl (Pu.assign rfl) ?_
  refine JL_nil ?_
  refine J_ret ?_
  refine ⟨.int .i64 (3), [], Ret.one rfl (RV.tmp rfl), Sub.nil, ?_⟩
  have hx : nHead d m b kind num ref kids.length cases.length = 3 := by simp only [nHead]; (repeat' split) <;> first | rfl | omega | (exfalso; simp_all; done) | (exfalso; simp_all; omega) | grind
  exact ⟨by rw [nErr, hx]; rfl, rfl⟩
 ·skip
  replace h2 := df h2
  refine J_skip ?_
  refine J_seq ?_
  refine J_cut (fun ρ M => ρ 1 = .int .i64 (d) ∧ ρ 2 = .int .i64 (m) ∧ ρ 3 = .int .i64 (b) ∧ ρ 4 = .pointer (some ⟨b1, 0, none⟩) ∧ ρ 8 = .int .i64 (0) ∧ ρ 51 = .bool ((((!(hasNumB (kind))) && (!decide (num = 0))) || ((!(hasRefB (kind))) && (!decide (ref = zS)))) || ((!decide (kind = 9)) && (decide (0 < ((cases).length : Int))))) ∧ M = [[(b1, .cells ⟨pkT (kind) (num) (ref) (ks) (cv)⟩ 27 (0, 0))]]) ?_ ?_
  ·refine J_region ?_
   refine JL_pure (v := .pointer (some ⟨b1, 0, none⟩)) rfl (fa27_0 rfl rfl) ?_
   refine JL_run rfl (Pu_load1 ty3 rfl (At.bx 0 rfl) (pkT_0 ..) ?_)
   refine JL_call rfl Tryz.call95 rfl (fun hin => hasNum_ct _ _) rfl ?_
   rintro _ _ ⟨rfl, rfl⟩
   refine JL_pure (v := .bool (!(hasNumB (kind)))) rfl (Pu.not rfl) ?_
   refine JL_pure (v := .bool (!(hasNumB (kind)))) rfl (Pu.move rfl) ?_
   cases h3 : (!(hasNumB (kind))) with
   | true =>
    replace h3 := nt h3
    refine JL_pure (v := .pointer (some ⟨b1, 1, none⟩)) rfl (fa27_1 rfl rfl) ?_
    refine JL_run rfl (Pu_load1 ty3 rfl (At.bx 0 rfl) (pkT_1 ..) ?_)
    refine JL_pure (v := .bool (!decide (num = 0))) rfl (Pu.neq rfl rfl) ?_
    refine JL_pure (v := .bool (!decide (num = 0))) rfl (Pu.pickT rfl rfl) ?_
    refine JL_pure (v := .bool (!decide (num = 0))) rfl (Pu.move rfl) ?_
    cases h4 : (!decide (num = 0)) with
    | true =>
     replace h4 := nt h4
     replace h4 := df h4
     refine JL_skip rfl ?_
     refine JL_skip rfl ?_
     refine JL_skip rfl ?_
     refine JL_skip rfl ?_
     refine JL_skip rfl ?_
     refine JL_skip rfl ?_
     refine JL_skip rfl ?_
     refine JL_skip rfl ?_
     refine JL_skip rfl ?_
     refine JL_skip rfl ?_
     refine JL_pure (v := .bool (true)) rfl (Pu.pickT rfl rfl) ?_
     refine JL_pure (v := .bool (true)) rfl (Pu.move rfl) ?_
     refine JL_skip rfl ?_
     refine JL_skip rfl ?_
     refine JL_skip rfl ?_
     refine JL_skip rfl ?_
     refine JL_skip rfl ?_
     refine JL_skip rfl ?_
     refine JL_skip rfl ?_
     refine JL_skip rfl ?_
     refine JL_skip rfl ?_
     refine JL_pure (v := .bool (true)) rfl (Pu.pickT rfl rfl) ?_
     refine JL_nil ?_
     first | exact ⟨rfl, rfl, rfl, rfl, rfl, rfl, rfl⟩ | (exfalso; omega)
    | false =>
     replace h4 := nf h4
     replace h4 := dt h4
     refine JL_pure (v := .pointer (some ⟨b1, 0, none⟩)) rfl (fa27_0 rfl rfl) ?_
     refine JL_run rfl (Pu_load1 ty3 rfl (At.bx 0 rfl) (pkT_0 ..) ?_)
     refine JL_call rfl Tryz.call96 rfl (fun hin => hasRef_ct _ _) rfl ?_
     rintro _ _ ⟨rfl, rfl⟩
     refine JL_pure (v := .bool (!(hasRefB (kind)))) rfl (Pu.not rfl) ?_
     refine JL_pure (v := .bool (!(hasRefB (kind)))) rfl (Pu.move rfl) ?_
     cases h5 : (!(hasRefB (kind))) with
     | true =>
      replace h5 := nt h5
      refine JL_pure (v := .pointer (some ⟨b1, 2, none⟩)) rfl (fa27_2 rfl rfl) ?_
      refine JL_run rfl (Pu_load ty23 rfl (At.bx 0 rfl) (pkT_2 ..) ?_)
      refine JL_pure (v := .agg ⟨sC (zS)⟩) rfl (Pu.build (pv := []) (l := sC (zS)) rfl bld23_) ?_
      refine JL_pure (v := .bool (!decide (ref = zS))) rfl (neqS rfl rfl) ?_
      refine JL_pure (v := .bool (!decide (ref = zS))) rfl (Pu.pickT rfl rfl) ?_
      refine JL_pure (v := .bool (!decide (ref = zS))) rfl (Pu.pickF rfl rfl) ?_
      refine JL_pure (v := .bool (!decide (ref = zS))) rfl (Pu.move rfl) ?_
      cases h6 : (!decide (ref = zS)) with
      | true =>
       replace h6 := nt h6
       replace h6 := df h6
       refine JL_skip rfl ?_
       refine JL_skip rfl ?_
       refine JL_skip rfl ?_
       refine JL_skip rfl ?_
       refine JL_skip rfl ?_
       refine JL_skip rfl ?_
       refine JL_skip rfl ?_
       refine JL_skip rfl ?_
       refine JL_skip rfl ?_
       refine JL_pure (v := .bool (true)) rfl (Pu.pickT rfl rfl) ?_
       refine JL_nil ?_
       first | exact ⟨rfl, rfl, rfl, rfl, rfl, rfl, rfl⟩ | (exfalso; omega)
      | false =>
       replace h6 := nf h6
       replace h6 := dt h6
       refine JL_pure (v := .pointer (some ⟨b1, 0, none⟩)) rfl (fa27_0 rfl rfl) ?_
       refine JL_run rfl (Pu_load1 ty3 rfl (At.bx 0 rfl) (pkT_0 ..) ?_)
       refine JL_pure (v := .bool (!decide (kind = 9))) rfl (Pu.neq rfl rfl) ?_
       refine JL_pure (v := .bool (!decide (kind = 9))) rfl (Pu.move rfl) ?_
       cases h7 : (!decide (kind = 9)) with
       | true =>
        replace h7 := nt h7
        replace h7 := df h7
        refine JL_pure (v := .pointer (some ⟨b1, 35, none⟩)) rfl (fa27_4 rfl rfl) ?_
        refine JL_run rfl (Pu_load1 ty25 rfl (At.bx 0 rfl) (pkT_35 ..) ?_)
        obtain ⟨a8, cap8, hv8⟩ := hcv.sl
        have hle8 := hcv.le
        refine JL_pure (v := .int .i64 (((cases).length : Int))) rfl (Pu.lenSl Tryz.runUnderlying25 hv8) ?_
        refine JL_pure (v := .bool (decide (0 < ((cases).length : Int)))) rfl (Pu.gtr rfl rfl) ?_
        refine JL_pure (v := .bool (decide (0 < ((cases).length : Int)))) rfl (Pu.pickT rfl rfl) ?_
        refine JL_pure (v := .bool (decide (0 < ((cases).length : Int)))) rfl (Pu.pickF rfl rfl) ?_
        refine JL_nil ?_
        first | exact ⟨rfl, rfl, rfl, rfl, rfl, rfl, rfl⟩ | (exfalso; omega)
       | false =>
        replace h7 := nf h7
        replace h7 := dt h7
        refine JL_skip rfl ?_
        refine JL_skip rfl ?_
        refine JL_skip rfl ?_
        refine JL_skip rfl ?_
        refine JL_pure (v := .bool (false)) rfl (Pu.pickF rfl rfl) ?_
        refine JL_pure (v := .bool (false)) rfl (Pu.pickF rfl rfl) ?_
        refine JL_nil ?_
        first | exact ⟨rfl, rfl, rfl, rfl, rfl, rfl, rfl⟩ | (exfalso; omega)
     | false =>
      replace h5 := nf h5
      refine JL_skip rfl ?_
      refine JL_skip rfl ?_
      refine JL_skip rfl ?_
      refine JL_skip rfl ?_
      refine JL_pure (v := .bool (false)) rfl (Pu.pickF rfl rfl) ?_
      refine JL_pure (v := .bool (false)) rfl (Pu.pickF rfl rfl) ?_
      refine JL_pure (v := .bool (false)) rfl (Pu.move rfl) ?_
      refine JL_pure (v := .pointer (some ⟨b1, 0, none⟩)) rfl (fa27_0 rfl rfl) ?_
      refine JL_run rfl (Pu_load1 ty3 rfl (At.bx 0 rfl) (pkT_0 ..) ?_)
      refine JL_pure (v := .bool (!decide (kind = 9))) rfl (Pu.neq rfl rfl) ?_
      refine JL_pure (v := .bool (!decide (kind = 9))) rfl (Pu.move rfl) ?_
      cases h9 : (!decide (kind = 9)) with
      | true =>
       replace h9 := nt h9
       replace h9 := df h9
       refine JL_pure (v := .pointer (some ⟨b1, 35, none⟩)) rfl (fa27_4 rfl rfl) ?_
       refine JL_run rfl (Pu_load1 ty25 rfl (At.bx 0 rfl) (pkT_35 ..) ?_)
       obtain ⟨a10, cap10, hv10⟩ := hcv.sl
       have hle10 := hcv.le
       refine JL_pure (v := .int .i64 (((cases).length : Int))) rfl (Pu.lenSl Tryz.runUnderlying25 hv10) ?_
       refine JL_pure (v := .bool (decide (0 < ((cases).length : Int)))) rfl (Pu.gtr rfl rfl) ?_
       refine JL_pure (v := .bool (decide (0 < ((cases).length : Int)))) rfl (Pu.pickT rfl rfl) ?_
       refine JL_pure (v := .bool (decide (0 < ((cases).length : Int)))) rfl (Pu.pickF rfl rfl) ?_
       refine JL_nil ?_
       first | exact ⟨rfl, rfl, rfl, rfl, rfl, rfl, rfl⟩ | (exfalso; omega)
      | false =>
       replace h9 := nf h9
       replace h9 := dt h9
       refine JL_skip rfl ?_
       refine JL_skip rfl ?_
       refine JL_skip rfl ?_
       refine JL_skip rfl ?_
       refine JL_pure (v := .bool (false)) rfl (Pu.pickF rfl rfl) ?_
       refine JL_pure (v := .bool (false)) rfl (Pu.pickF rfl rfl) ?_
       refine JL_nil ?_
       first | exact ⟨rfl, rfl, rfl, rfl, rfl, rfl, rfl⟩ | (exfalso; omega)
   | false =>
    replace h3 := nf h3
    refine JL_skip rfl ?_
    refine JL_skip rfl ?_
    refine JL_skip rfl ?_
    refine JL_pure (v := .bool (false)) rfl (Pu.pickF rfl rfl) ?_
    refine JL_pure (v := .bool (false)) rfl (Pu.move rfl) ?_
    refine JL_pure (v := .pointer (some ⟨b1, 0, none⟩)) rfl (fa27_0 rfl rfl) ?_
    refine JL_run rfl (Pu_load1 ty3 rfl (At.bx 0 rfl) (pkT_0 ..) ?_)
    refine JL_call rfl Tryz.call96 rfl (fun hin => hasRef_ct _ _) rfl ?_
    rintro _ _ ⟨rfl, rfl⟩
    refine JL_pure (v := .bool (!(hasRefB (kind)))) rfl (Pu.not rfl) ?_
    refine JL_pure (v := .bool (!(hasRefB (kind)))) rfl (Pu.move rfl) ?_
    cases h11 : (!(hasRefB (kind))) with
    | true =>
     replace h11 := nt h11
     refine JL_pure (v := .pointer (some ⟨b1, 2, none⟩)) rfl (fa27_2 rfl rfl) ?_
     refine JL_run rfl (Pu_load ty23 rfl (At.bx 0 rfl) (pkT_2 ..) ?_)
     refine JL_pure (v := .agg ⟨sC (zS)⟩) rfl (Pu.build (pv := []) (l := sC (zS)) rfl bld23_) ?_
     refine JL_pure (v := .bool (!decide (ref = zS))) rfl (neqS rfl rfl) ?_
     refine JL_pure (v := .bool (!decide (ref = zS))) rfl (Pu.pickT rfl rfl) ?_
     refine JL_pure (v := .bool (!decide (ref = zS))) rfl (Pu.pickF rfl rfl) ?_
     refine JL_pure (v := .bool (!decide (ref = zS))) rfl (Pu.move rfl) ?_
     cases h12 : (!decide (ref = zS)) with
     | true =>
      replace h12 := nt h12
      replace h12 := df h12
      refine JL_skip rfl ?_
      refine JL_skip rfl ?_
      refine JL_skip rfl ?_
      refine JL_skip rfl ?_
      refine JL_skip rfl ?_
      refine JL_skip rfl ?_
      refine JL_skip rfl ?_
      refine JL_skip rfl ?_
      refine JL_skip rfl ?_
      refine JL_pure (v := .bool (true)) rfl (Pu.pickT rfl rfl) ?_
      refine JL_nil ?_
      first | exact ⟨rfl, rfl, rfl, rfl, rfl, rfl, rfl⟩ | (exfalso; omega)
     | false =>
      replace h12 := nf h12
      replace h12 := dt h12
      refine JL_pure (v := .pointer (some ⟨b1, 0, none⟩)) rfl (fa27_0 rfl rfl) ?_
      refine JL_run rfl (Pu_load1 ty3 rfl (At.bx 0 rfl) (pkT_0 ..) ?_)
      refine JL_pure (v := .bool (!decide (kind = 9))) rfl (Pu.neq rfl rfl) ?_
      refine JL_pure (v := .bool (!decide (kind = 9))) rfl (Pu.move rfl) ?_
      cases h13 : (!decide (kind = 9)) with
      | true =>
       replace h13 := nt h13
       replace h13 := df h13
       refine JL_pure (v := .pointer (some ⟨b1, 35, none⟩)) rfl (fa27_4 rfl rfl) ?_
       refine JL_run rfl (Pu_load1 ty25 rfl (At.bx 0 rfl) (pkT_35 ..) ?_)
       obtain ⟨a14, cap14, hv14⟩ := hcv.sl
       have hle14 := hcv.le
       refine JL_pure (v := .int .i64 (((cases).length : Int))) rfl (Pu.lenSl Tryz.runUnderlying25 hv14) ?_
       refine JL_pure (v := .bool (decide (0 < ((cases).length : Int)))) rfl (Pu.gtr rfl rfl) ?_
       refine JL_pure (v := .bool (decide (0 < ((cases).length : Int)))) rfl (Pu.pickT rfl rfl) ?_
       refine JL_pure (v := .bool (decide (0 < ((cases).length : Int)))) rfl (Pu.pickF rfl rfl) ?_
       refine JL_nil ?_
       first | exact ⟨rfl, rfl, rfl, rfl, rfl, rfl, rfl⟩ | (exfalso; omega)
      | false =>
       replace h13 := nf h13
       replace h13 := dt h13
       refine JL_skip rfl ?_
       refine JL_skip rfl ?_
       refine JL_skip rfl ?_
       refine JL_skip rfl ?_
       refine JL_pure (v := .bool (false)) rfl (Pu.pickF rfl rfl) ?_
       refine JL_pure (v := .bool (false)) rfl (Pu.pickF rfl rfl) ?_
       refine JL_nil ?_
       first | exact ⟨rfl, rfl, rfl, rfl, rfl, rfl, rfl⟩ | (exfalso; omega)
    | false =>
     replace h11 := nf h11
     refine JL_skip rfl ?_
     refine JL_skip rfl ?_
     refine JL_skip rfl ?_
     refine JL_skip rfl ?_
     refine JL_pure (v := .bool (false)) rfl (Pu.pickF rfl rfl) ?_
     refine JL_pure (v := .bool (false)) rfl (Pu.pickF rfl rfl) ?_
     refine JL_pure (v := .bool (false)) rfl (Pu.move rfl) ?_
     refine JL_pure (v := .pointer (some ⟨b1, 0, none⟩)) rfl (fa27_0 rfl rfl) ?_
     refine JL_run rfl (Pu_load1 ty3 rfl (At.bx 0 rfl) (pkT_0 ..) ?_)
     refine JL_pure (v := .bool (!decide (kind = 9))) rfl (Pu.neq rfl rfl) ?_
     refine JL_pure (v := .bool (!decide (kind = 9))) rfl (Pu.move rfl) ?_
     cases h15 : (!decide (kind = 9)) with
     | true =>
      replace h15 := nt h15
      replace h15 := df h15
      refine JL_pure (v := .pointer (some ⟨b1, 35, none⟩)) rfl (fa27_4 rfl rfl) ?_
      refine JL_run rfl (Pu_load1 ty25 rfl (At.bx 0 rfl) (pkT_35 ..) ?_)
      obtain ⟨a16, cap16, hv16⟩ := hcv.sl
      have hle16 := hcv.le
      refine JL_pure (v := .int .i64 (((cases).length : Int))) rfl (Pu.lenSl Tryz.runUnderlying25 hv16) ?_
      refine JL_pure (v := .bool (decide (0 < ((cases).length : Int)))) rfl (Pu.gtr rfl rfl) ?_
      refine JL_pure (v := .bool (decide (0 < ((cases).length : Int)))) rfl (Pu.pickT rfl rfl) ?_
      refine JL_pure (v := .bool (decide (0 < ((cases).length : Int)))) rfl (Pu.pickF rfl rfl) ?_
      refine JL_nil ?_
      first | exact ⟨rfl, rfl, rfl, rfl, rfl, rfl, rfl⟩ | (exfalso; omega)
     | false =>
      replace h15 := nf h15
      replace h15 := dt h15
      refine JL_skip rfl ?_
      refine JL_skip rfl ?_
      refine JL_skip rfl ?_
      refine JL_skip rfl ?_
      refine JL_pure (v := .bool (false)) rfl (Pu.pickF rfl rfl) ?_
      refine JL_pure (v := .bool (false)) rfl (Pu.pickF rfl rfl) ?_
      refine JL_nil ?_
      first | exact ⟨rfl, rfl, rfl, rfl, rfl, rfl, rfl⟩ | (exfalso; omega)
  ·rintro ρ17 _ ⟨e18, e19, e20, e21, e22, e23, rfl⟩
   obtain ⟨ρ24, rfl⟩ := reopen_ex (uc e18 (uc e19 (uc e20 (uc e21 (uc e22 (uc e23 un))))))
   clear e18 e19 e20 e21 e22 e23
   refine J_cond (b := (((!(hasNumB (kind))) && (!decide (num = 0))) || ((!(hasRefB (kind))) && (!decide (ref = zS)))) || ((!decide (kind = 9)) && (decide (0 < ((cases).length : Int))))) rfl (fun h25 => ?_) (fun h25 => ?_)
   ·skip
    refine J_seq ?_
    refine J_region ?_
    refine JL_pure (v := .int .i64 (7)) rfl (Pu.assign rfl) ?_
    refine JL_nil ?_
    refine J_ret ?_
    refine ⟨.int .i64 (7), [], Ret.one rfl (RV.tmp rfl), Sub.nil, ?_⟩
    have hx : nHead d m b kind num ref kids.length cases.length = 7 := by simp only [nHead]; (repeat' split) <;> first | rfl | omega | (exfalso; simp_all; done) | (exfalso; simp_all; omega) | grind
    exact ⟨by rw [nErr, hx]; rfl, rfl⟩
   ·skip
    obtain ⟨h25a, h25b⟩ := orF h25
    obtain ⟨h25aa, h25ab⟩ := orF h25a
    refine J_skip ?_
    refine J_seq ?_
    refine J_region ?_
    refine JL_pure (v := .pointer (some ⟨b1, 0, none⟩)) rfl (fa27_0 rfl rfl) ?_
    refine JL_run rfl (Pu_load1 ty3 rfl (At.bx 0 rfl) (pkT_0 ..) ?_)
    refine JL_call rfl Tryz.call97 rfl (fun hin => kidsR_ct _ _) rfl ?_
    rintro _ _ ⟨rfl, rfl⟩
    refine JL_pure (v := .tuple ⟨[.int .i64 (loK (kind)), .int .i64 (hiK (kind))]⟩) rfl (Pu.move rfl) ?_
    refine JL_pure (v := .int .i64 (loK (kind))) rfl (Pu.extract rfl rfl) ?_
    refine JL_pure (v := .int .i64 (hiK (kind))) rfl (Pu.extract rfl rfl) ?_
    refine JL_pure (v := .int .i64 (loK (kind))) rfl (Pu.assign rfl) ?_
    refine JL_pure (v := .int .i64 (hiK (kind))) rfl (Pu.assign rfl) ?_
    refine JL_nil ?_
    refine J_seq ?_
    refine J_cut (fun ρ M => ρ 1 = .int .i64 (d) ∧ ρ 2 = .int .i64 (m) ∧ ρ 3 = .int .i64 (b) ∧ ρ 4 = .pointer (some ⟨b1, 0, none⟩) ∧ ρ 8 = .int .i64 (0) ∧ ρ 69 = .bool ((decide (((kids).length : Int) < loK (kind) ∨ hiK (kind) < ((kids).length : Int))) || (decide (8 < ((cases).length : Int)))) ∧ M = [[(b1, .cells ⟨pkT (kind) (num) (ref) (ks) (cv)⟩ 27 (0, 0))]]) ?_ ?_
    ·refine J_region ?_
     refine JL_pure (v := .pointer (some ⟨b1, 34, none⟩)) rfl (fa27_3 rfl rfl) ?_
     refine JL_run rfl (Pu_load1 ty24 rfl (At.bx 0 rfl) (pkT_34 ..) ?_)
     obtain ⟨a26, cap26, hv26⟩ := hks.sl
     have hle26 := hks.le
     refine JL_pure (v := .int .i64 (((kids).length : Int))) rfl (Pu.lenSl Tryz.runUnderlying24 hv26) ?_
     refine JL_pure (v := .int .i64 (loK (kind))) rfl (Pu.move rfl) ?_
     refine JL_pure (v := .int .i64 (hiK (kind))) rfl (Pu.move rfl) ?_
     refine JL_call rfl Tryz.call94 rfl (fun hin => offR_ct _ _ _ _) rfl ?_
     rintro _ _ ⟨rfl, rfl⟩
     refine JL_pure (v := .bool (decide (((kids).length : Int) < loK (kind) ∨ hiK (kind) < ((kids).length : Int)))) rfl (Pu.move rfl) ?_
     cases h27 : (decide (((kids).length : Int) < loK (kind) ∨ hiK (kind) < ((kids).length : Int))) with
     | true =>
      replace h27 := dt h27
      refine JL_skip rfl ?_
      refine JL_skip rfl ?_
      refine JL_skip rfl ?_
      refine JL_skip rfl ?_
      refine JL_pure (v := .bool (true)) rfl (Pu.pickT rfl rfl) ?_
      refine JL_nil ?_
      first | exact ⟨rfl, rfl, rfl, rfl, rfl, rfl, rfl⟩ | (exfalso; omega)
     | false =>
      replace h27 := df h27
      refine JL_pure (v := .pointer (some ⟨b1, 35, none⟩)) rfl (fa27_4 rfl rfl) ?_
      refine JL_run rfl (Pu_load1 ty25 rfl (At.bx 0 rfl) (pkT_35 ..) ?_)
      obtain ⟨a28, cap28, hv28⟩ := hcv.sl
      have hle28 := hcv.le
      refine JL_pure (v := .int .i64 (((cases).length : Int))) rfl (Pu.lenSl Tryz.runUnderlying25 hv28) ?_
      refine JL_pure (v := .bool (decide (8 < ((cases).length : Int)))) rfl (Pu.gtr rfl rfl) ?_
      refine JL_pure (v := .bool (decide (8 < ((cases).length : Int)))) rfl (Pu.pickF rfl rfl) ?_
      refine JL_nil ?_
      first | exact ⟨rfl, rfl, rfl, rfl, rfl, rfl, rfl⟩ | (exfalso; omega)
    ·rintro ρ29 _ ⟨e30, e31, e32, e33, e34, e35, rfl⟩
     obtain ⟨ρ36, rfl⟩ := reopen_ex (uc e30 (uc e31 (uc e32 (uc e33 (uc e34 (uc e35 un))))))
     clear e30 e31 e32 e33 e34 e35
     refine J_cond (b := (decide (((kids).length : Int) < loK (kind) ∨ hiK (kind) < ((kids).length : Int))) || (decide (8 < ((cases).length : Int)))) rfl (fun h37 => ?_) (fun h37 => ?_)
     ·skip
      refine J_seq ?_
      refine J_region ?_
      refine JL_pure (v := .int .i64 (2)) rfl (Pu.assign rfl) ?_
      refine JL_nil ?_
      refine J_ret ?_
      refine ⟨.int .i64 (2), [], Ret.one rfl (RV.tmp rfl), Sub.nil, ?_⟩
      have hx : nHead d m b kind num ref kids.length cases.length = 2 := by simp only [nHead]; (repeat' split) <;> first | rfl | omega | (exfalso; simp_all; done) | (exfalso; simp_all; omega) | grind
      exact ⟨by rw [nErr, hx]; rfl, rfl⟩
     ·skip
      obtain ⟨h37a, h37b⟩ := orF h37
      replace h37a := df h37a
      replace h37b := df h37b
      refine J_skip ?_
      refine J_seq ?_
      refine J_cut (fun ρ M => ρ 1 = .int .i64 (d) ∧ ρ 2 = .int .i64 (m) ∧ ρ 3 = .int .i64 (b) ∧ ρ 4 = .pointer (some ⟨b1, 0, none⟩) ∧ ρ 8 = .int .i64 (0) ∧ ρ 102 = .bool ((((decide (kind = 2)) && (decide (num < 0 ∨ 1073741824 < num))) || ((decide (kind = 10)) && (decide (num < 1 ∨ 5 < num)))) || (((decide (kind = 8)) || (decide (kind = 11))) && (decide (num < 0 ∨ 7 < num)))) ∧ M = [[(b1, .cells ⟨pkT (kind) (num) (ref) (ks) (cv)⟩ 27 (0, 0))]]) ?_ ?_
      ·refine J_region ?_
       refine JL_pure (v := .pointer (some ⟨b1, 0, none⟩)) rfl (fa27_0 rfl rfl) ?_
       refine JL_run rfl (Pu_load1 ty3 rfl (At.bx 0 rfl) (pkT_0 ..) ?_)
       refine JL_pure (v := .bool (decide (kind = 2))) rfl (Pu.eql rfl rfl) ?_
       refine JL_pure (v := .bool (decide (kind = 2))) rfl (Pu.move rfl) ?_
       cases h38 : (decide (kind = 2)) with
       | true =>
        replace h38 := dt h38
        refine JL_pure (v := .pointer (some ⟨b1, 1, none⟩)) rfl (fa27_1 rfl rfl) ?_
        refine JL_run rfl (Pu_load1 ty3 rfl (At.bx 0 rfl) (pkT_1 ..) ?_)
        refine JL_call rfl Tryz.call94 rfl (fun hin => offR_ct _ _ _ _) rfl ?_
        rintro _ _ ⟨rfl, rfl⟩
        refine JL_pure (v := .bool (decide (num < 0 ∨ 1073741824 < num))) rfl (Pu.pickT rfl rfl) ?_
        refine JL_pure (v := .bool (decide (num < 0 ∨ 1073741824 < num))) rfl (Pu.move rfl) ?_
        cases h39 : (decide (num < 0 ∨ 1073741824 < num)) with
        | true =>
         replace h39 := dt h39
         refine JL_skip rfl ?_
         refine JL_skip rfl ?_
         refine JL_skip rfl ?_
         refine JL_skip rfl ?_
         refine JL_skip rfl ?_
         refine JL_skip rfl ?_
         refine JL_skip rfl ?_
         refine JL_skip rfl ?_
         refine JL_pure (v := .bool (true)) rfl (Pu.pickT rfl rfl) ?_
         refine JL_pure (v := .bool (true)) rfl (Pu.move rfl) ?_
         refine JL_skip rfl ?_
         refine JL_skip rfl ?_
         refine JL_skip rfl ?_
         refine JL_skip rfl ?_
         refine JL_skip rfl ?_
         refine JL_skip rfl ?_
         refine JL_skip rfl ?_
         refine JL_skip rfl ?_
         refine JL_skip rfl ?_
         refine JL_skip rfl ?_
         refine JL_skip rfl ?_
         refine JL_skip rfl ?_
         refine JL_skip rfl ?_
         refine JL_pure (v := .bool (true)) rfl (Pu.pickT rfl rfl) ?_
         refine JL_nil ?_
         first | exact ⟨rfl, rfl, rfl, rfl, rfl, rfl, rfl⟩ | (exfalso; omega)
        | false =>
         replace h39 := df h39
         refine JL_pure (v := .pointer (some ⟨b1, 0, none⟩)) rfl (fa27_0 rfl rfl) ?_
         refine JL_run rfl (Pu_load1 ty3 rfl (At.bx 0 rfl) (pkT_0 ..) ?_)
         refine JL_pure (v := .bool (decide (kind = 10))) rfl (Pu.eql rfl rfl) ?_
         refine JL_pure (v := .bool (decide (kind = 10))) rfl (Pu.move rfl) ?_
         cases h40 : (decide (kind = 10)) with
         | true =>
          replace h40 := dt h40
          refine JL_pure (v := .pointer (some ⟨b1, 1, none⟩)) rfl (fa27_1 rfl rfl) ?_
          refine JL_run rfl (Pu_load1 ty3 rfl (At.bx 0 rfl) (pkT_1 ..) ?_)
          refine JL_call rfl Tryz.call94 rfl (fun hin => offR_ct _ _ _ _) rfl ?_
          rintro _ _ ⟨rfl, rfl⟩
          refine JL_pure (v := .bool (decide (num < 1 ∨ 5 < num))) rfl (Pu.pickT rfl rfl) ?_
          refine JL_pure (v := .bool (decide (num < 1 ∨ 5 < num))) rfl (Pu.pickF rfl rfl) ?_
          refine JL_pure (v := .bool (decide (num < 1 ∨ 5 < num))) rfl (Pu.move rfl) ?_
          cases h41 : (decide (num < 1 ∨ 5 < num)) with
          | true =>
           replace h41 := dt h41
           refine JL_skip rfl ?_
           refine JL_skip rfl ?_
           refine JL_skip rfl ?_
           refine JL_skip rfl ?_
           refine JL_skip rfl ?_
           refine JL_skip rfl ?_
           refine JL_skip rfl ?_
           refine JL_skip rfl ?_
           refine JL_skip rfl ?_
           refine JL_skip rfl ?_
           refine JL_skip rfl ?_
           refine JL_skip rfl ?_
           refine JL_skip rfl ?_
           refine JL_pure (v := .bool (true)) rfl (Pu.pickT rfl rfl) ?_
           refine JL_nil ?_
           first | exact ⟨rfl, rfl, rfl, rfl, rfl, rfl, rfl⟩ | (exfalso; omega)
          | false =>
           replace h41 := df h41
           refine JL_pure (v := .pointer (some ⟨b1, 0, none⟩)) rfl (fa27_0 rfl rfl) ?_
           refine JL_run rfl (Pu_load1 ty3 rfl (At.bx 0 rfl) (pkT_0 ..) ?_)
           refine JL_pure (v := .bool (decide (kind = 8))) rfl (Pu.eql rfl rfl) ?_
           refine JL_pure (v := .bool (decide (kind = 8))) rfl (Pu.move rfl) ?_
           cases h42 : (decide (kind = 8)) with
           | true =>
            replace h42 := dt h42
            refine JL_skip rfl ?_
            refine JL_skip rfl ?_
            refine JL_skip rfl ?_
            refine JL_pure (v := .bool (true)) rfl (Pu.pickT rfl rfl) ?_
            refine JL_pure (v := .bool (true)) rfl (Pu.move rfl) ?_
            refine JL_pure (v := .pointer (some ⟨b1, 1, none⟩)) rfl (fa27_1 rfl rfl) ?_
            refine JL_run rfl (Pu_load1 ty3 rfl (At.bx 0 rfl) (pkT_1 ..) ?_)
            refine JL_call rfl Tryz.call94 rfl (fun hin => offR_ct _ _ _ _) rfl ?_
            rintro _ _ ⟨rfl, rfl⟩
            refine JL_pure (v := .bool (decide (num < 0 ∨ 7 < num))) rfl (Pu.pickT rfl rfl) ?_
            refine JL_pure (v := .bool (decide (num < 0 ∨ 7 < num))) rfl (Pu.pickF rfl rfl) ?_
            refine JL_nil ?_
            first | exact ⟨rfl, rfl, rfl, rfl, rfl, rfl, rfl⟩ | (exfalso; omega)
           | false =>
            replace h42 := df h42
            refine JL_pure (v := .pointer (some ⟨b1, 0, none⟩)) rfl (fa27_0 rfl rfl) ?_
            refine JL_run rfl (Pu_load1 ty3 rfl (At.bx 0 rfl) (pkT_0 ..) ?_)
            refine JL_pure (v := .bool (decide (kind = 11))) rfl (Pu.eql rfl rfl) ?_
            refine JL_pure (v := .bool (decide (kind = 11))) rfl (Pu.pickF rfl rfl) ?_
            refine JL_pure (v := .bool (decide (kind = 11))) rfl (Pu.move rfl) ?_
            cases h43 : (decide (kind = 11)) with
            | true =>
             replace h43 := dt h43
             refine JL_pure (v := .pointer (some ⟨b1, 1, none⟩)) rfl (fa27_1 rfl rfl) ?_
             refine JL_run rfl (Pu_load1 ty3 rfl (At.bx 0 rfl) (pkT_1 ..) ?_)
             refine JL_call rfl Tryz.call94 rfl (fun hin => offR_ct _ _ _ _) rfl ?_
             rintro _ _ ⟨rfl, rfl⟩
             refine JL_pure (v := .bool (decide (num < 0 ∨ 7 < num))) rfl (Pu.pickT rfl rfl) ?_
             refine JL_pure (v := .bool (decide (num < 0 ∨ 7 < num))) rfl (Pu.pickF rfl rfl) ?_
             refine JL_nil ?_
             first | exact ⟨rfl, rfl, rfl, rfl, rfl, rfl, rfl⟩ | (exfalso; omega)
            | false =>
             replace h43 := df h43
             refine JL_skip rfl ?_
             refine JL_skip rfl ?_
             refine JL_skip rfl ?_
             refine JL_pure (v := .bool (false)) rfl (Pu.pickF rfl rfl) ?_
             refine JL_pure (v := .bool (false)) rfl (Pu.pickF rfl rfl) ?_
             refine JL_nil ?_
             first | exact ⟨rfl, rfl, rfl, rfl, rfl, rfl, rfl⟩ | (exfalso; omega)
         | false =>
          replace h40 := df h40
          refine JL_skip rfl ?_
          refine JL_skip rfl ?_
          refine JL_skip rfl ?_
          refine JL_pure (v := .bool (false)) rfl (Pu.pickF rfl rfl) ?_
          refine JL_pure (v := .bool (false)) rfl (Pu.pickF rfl rfl) ?_
          refine JL_pure (v := .bool (false)) rfl (Pu.move rfl) ?_
          refine JL_pure (v := .pointer (some ⟨b1, 0, none⟩)) rfl (fa27_0 rfl rfl) ?_
          refine JL_run rfl (Pu_load1 ty3 rfl (At.bx 0 rfl) (pkT_0 ..) ?_)
          refine JL_pure (v := .bool (decide (kind = 8))) rfl (Pu.eql rfl rfl) ?_
          refine JL_pure (v := .bool (decide (kind = 8))) rfl (Pu.move rfl) ?_
          cases h44 : (decide (kind = 8)) with
          | true =>
           replace h44 := dt h44
           refine JL_skip rfl ?_
           refine JL_skip rfl ?_
           refine JL_skip rfl ?_
           refine JL_pure (v := .bool (true)) rfl (Pu.pickT rfl rfl) ?_
           refine JL_pure (v := .bool (true)) rfl (Pu.move rfl) ?_
           refine JL_pure (v := .pointer (some ⟨b1, 1, none⟩)) rfl (fa27_1 rfl rfl) ?_
           refine JL_run rfl (Pu_load1 ty3 rfl (At.bx 0 rfl) (pkT_1 ..) ?_)
           refine JL_call rfl Tryz.call94 rfl (fun hin => offR_ct _ _ _ _) rfl ?_
           rintro _ _ ⟨rfl, rfl⟩
           refine JL_pure (v := .bool (decide (num < 0 ∨ 7 < num))) rfl (Pu.pickT rfl rfl) ?_
           refine JL_pure (v := .bool (decide (num < 0 ∨ 7 < num))) rfl (Pu.pickF rfl rfl) ?_
           refine JL_nil ?_
           first | exact ⟨rfl, rfl, rfl, rfl, rfl, rfl, rfl⟩ | (exfalso; omega)
          | false =>
           replace h44 := df h44
           refine JL_pure (v := .pointer (some ⟨b1, 0, none⟩)) rfl (fa27_0 rfl rfl) ?_
           refine JL_run rfl (Pu_load1 ty3 rfl (At.bx 0 rfl) (pkT_0 ..) ?_)
           refine JL_pure (v := .bool (decide (kind = 11))) rfl (Pu.eql rfl rfl) ?_
           refine JL_pure (v := .bool (decide (kind = 11))) rfl (Pu.pickF rfl rfl) ?_
           refine JL_pure (v := .bool (decide (kind = 11))) rfl (Pu.move rfl) ?_
           cases h45 : (decide (kind = 11)) with
           | true =>
            replace h45 := dt h45
            refine JL_pure (v := .pointer (some ⟨b1, 1, none⟩)) rfl (fa27_1 rfl rfl) ?_
            refine JL_run rfl (Pu_load1 ty3 rfl (At.bx 0 rfl) (pkT_1 ..) ?_)
            refine JL_call rfl Tryz.call94 rfl (fun hin => offR_ct _ _ _ _) rfl ?_
            rintro _ _ ⟨rfl, rfl⟩
            refine JL_pure (v := .bool (decide (num < 0 ∨ 7 < num))) rfl (Pu.pickT rfl rfl) ?_
            refine JL_pure (v := .bool (decide (num < 0 ∨ 7 < num))) rfl (Pu.pickF rfl rfl) ?_
            refine JL_nil ?_
            first | exact ⟨rfl, rfl, rfl, rfl, rfl, rfl, rfl⟩ | (exfalso; omega)
           | false =>
            replace h45 := df h45
            refine JL_skip rfl ?_
            refine JL_skip rfl ?_
            refine JL_skip rfl ?_
            refine JL_pure (v := .bool (false)) rfl (Pu.pickF rfl rfl) ?_
            refine JL_pure (v := .bool (false)) rfl (Pu.pickF rfl rfl) ?_
            refine JL_nil ?_
            first | exact ⟨rfl, rfl, rfl, rfl, rfl, rfl, rfl⟩ | (exfalso; omega)
       | false =>
        replace h38 := df h38
        refine JL_skip rfl ?_
        refine JL_skip rfl ?_
        refine JL_skip rfl ?_
        refine JL_pure (v := .bool (false)) rfl (Pu.pickF rfl rfl) ?_
        refine JL_pure (v := .bool (false)) rfl (Pu.move rfl) ?_
        refine JL_pure (v := .pointer (some ⟨b1, 0, none⟩)) rfl (fa27_0 rfl rfl) ?_
        refine JL_run rfl (Pu_load1 ty3 rfl (At.bx 0 rfl) (pkT_0 ..) ?_)
        refine JL_pure (v := .bool (decide (kind = 10))) rfl (Pu.eql rfl rfl) ?_
        refine JL_pure (v := .bool (decide (kind = 10))) rfl (Pu.move rfl) ?_
        cases h46 : (decide (kind = 10)) with
        | true =>
         replace h46 := dt h46
         refine JL_pure (v := .pointer (some ⟨b1, 1, none⟩)) rfl (fa27_1 rfl rfl) ?_
         refine JL_run rfl (Pu_load1 ty3 rfl (At.bx 0 rfl) (pkT_1 ..) ?_)
         refine JL_call rfl Tryz.call94 rfl (fun hin => offR_ct _ _ _ _) rfl ?_
         rintro _ _ ⟨rfl, rfl⟩
         refine JL_pure (v := .bool (decide (num < 1 ∨ 5 < num))) rfl (Pu.pickT rfl rfl) ?_
         refine JL_pure (v := .bool (decide (num < 1 ∨ 5 < num))) rfl (Pu.pickF rfl rfl) ?_
         refine JL_pure (v := .bool (decide (num < 1 ∨ 5 < num))) rfl (Pu.move rfl) ?_
         cases h47 : (decide (num < 1 ∨ 5 < num)) with
         | true =>
          replace h47 := dt h47
          refine JL_skip rfl ?_
          refine JL_skip rfl ?_
          refine JL_skip rfl ?_
          refine JL_skip rfl ?_
          refine JL_skip rfl ?_
          refine JL_skip rfl ?_
          refine JL_skip rfl ?_
          refine JL_skip rfl ?_
          refine JL_skip rfl ?_
          refine JL_skip rfl ?_
          refine JL_skip rfl ?_
          refine JL_skip rfl ?_
          refine JL_skip rfl ?_
          refine JL_pure (v := .bool (true)) rfl (Pu.pickT rfl rfl) ?_
          refine JL_nil ?_
          first | exact ⟨rfl, rfl, rfl, rfl, rfl, rfl, rfl⟩ | (exfalso; omega)
         | false =>
          replace h47 := df h47
          refine JL_pure (v := .pointer (some ⟨b1, 0, none⟩)) rfl (fa27_0 rfl rfl) ?_
          refine JL_run rfl (Pu_load1 ty3 rfl (At.bx 0 rfl) (pkT_0 ..) ?_)
          refine JL_pure (v := .bool (decide (kind = 8))) rfl (Pu.eql rfl rfl) ?_
          refine JL_pure (v := .bool (decide (kind = 8))) rfl (Pu.move rfl) ?_
          cases h48 : (decide (kind = 8)) with
          | true =>
           replace h48 := dt h48
           refine JL_skip rfl ?_
           refine JL_skip rfl ?_
           refine JL_skip rfl ?_
           refine JL_pure (v := .bool (true)) rfl (Pu.pickT rfl rfl) ?_
           refine JL_pure (v := .bool (true)) rfl (Pu.move rfl) ?_
           refine JL_pure (v := .pointer (some ⟨b1, 1, none⟩)) rfl (fa27_1 rfl rfl) ?_
           refine JL_run rfl (Pu_load1 ty3 rfl (At.bx 0 rfl) (pkT_1 ..) ?_)
           refine JL_call rfl Tryz.call94 rfl (fun hin => offR_ct _ _ _ _) rfl ?_
           rintro _ _ ⟨rfl, rfl⟩
           refine JL_pure (v := .bool (decide (num < 0 ∨ 7 < num))) rfl (Pu.pickT rfl rfl) ?_
           refine JL_pure (v := .bool (decide (num < 0 ∨ 7 < num))) rfl (Pu.pickF rfl rfl) ?_
           refine JL_nil ?_
           first | exact ⟨rfl, rfl, rfl, rfl, rfl, rfl, rfl⟩ | (exfalso; omega)
          | false =>
           replace h48 := df h48
           refine JL_pure (v := .pointer (some ⟨b1, 0, none⟩)) rfl (fa27_0 rfl rfl) ?_
           refine JL_run rfl (Pu_load1 ty3 rfl (At.bx 0 rfl) (pkT_0 ..) ?_)
           refine JL_pure (v := .bool (decide (kind = 11))) rfl (Pu.eql rfl rfl) ?_
           refine JL_pure (v := .bool (decide (kind = 11))) rfl (Pu.pickF rfl rfl) ?_
           refine JL_pure (v := .bool (decide (kind = 11))) rfl (Pu.move rfl) ?_
           cases h49 : (decide (kind = 11)) with
           | true =>
            replace h49 := dt h49
            refine JL_pure (v := .pointer (some ⟨b1, 1, none⟩)) rfl (fa27_1 rfl rfl) ?_
            refine JL_run rfl (Pu_load1 ty3 rfl (At.bx 0 rfl) (pkT_1 ..) ?_)
            refine JL_call rfl Tryz.call94 rfl (fun hin => offR_ct _ _ _ _) rfl ?_
            rintro _ _ ⟨rfl, rfl⟩
            refine JL_pure (v := .bool (decide (num < 0 ∨ 7 < num))) rfl (Pu.pickT rfl rfl) ?_
            refine JL_pure (v := .bool (decide (num < 0 ∨ 7 < num))) rfl (Pu.pickF rfl rfl) ?_
            refine JL_nil ?_
            first | exact ⟨rfl, rfl, rfl, rfl, rfl, rfl, rfl⟩ | (exfalso; omega)
           | false =>
            replace h49 := df h49
            refine JL_skip rfl ?_
            refine JL_skip rfl ?_
            refine JL_skip rfl ?_
            refine JL_pure (v := .bool (false)) rfl (Pu.pickF rfl rfl) ?_
            refine JL_pure (v := .bool (false)) rfl (Pu.pickF rfl rfl) ?_
            refine JL_nil ?_
            first | exact ⟨rfl, rfl, rfl, rfl, rfl, rfl, rfl⟩ | (exfalso; omega)
        | false =>
         replace h46 := df h46
         refine JL_skip rfl ?_
         refine JL_skip rfl ?_
         refine JL_skip rfl ?_
         refine JL_pure (v := .bool (false)) rfl (Pu.pickF rfl rfl) ?_
         refine JL_pure (v := .bool (false)) rfl (Pu.pickF rfl rfl) ?_
         refine JL_pure (v := .bool (false)) rfl (Pu.move rfl) ?_
         refine JL_pure (v := .pointer (some ⟨b1, 0, none⟩)) rfl (fa27_0 rfl rfl) ?_
         refine JL_run rfl (Pu_load1 ty3 rfl (At.bx 0 rfl) (pkT_0 ..) ?_)
         refine JL_pure (v := .bool (decide (kind = 8))) rfl (Pu.eql rfl rfl) ?_
         refine JL_pure (v := .bool (decide (kind = 8))) rfl (Pu.move rfl) ?_
         cases h50 : (decide (kind = 8)) with
         | true =>
          replace h50 := dt h50
          refine JL_skip rfl ?_
          refine JL_skip rfl ?_
          refine JL_skip rfl ?_
          refine JL_pure (v := .bool (true)) rfl (Pu.pickT rfl rfl) ?_
          refine JL_pure (v := .bool (true)) rfl (Pu.move rfl) ?_
          refine JL_pure (v := .pointer (some ⟨b1, 1, none⟩)) rfl (fa27_1 rfl rfl) ?_
          refine JL_run rfl (Pu_load1 ty3 rfl (At.bx 0 rfl) (pkT_1 ..) ?_)
          refine JL_call rfl Tryz.call94 rfl (fun hin => offR_ct _ _ _ _) rfl ?_
          rintro _ _ ⟨rfl, rfl⟩
          refine JL_pure (v := .bool (decide (num < 0 ∨ 7 < num))) rfl (Pu.pickT rfl rfl) ?_
          refine JL_pure (v := .bool (decide (num < 0 ∨ 7 < num))) rfl (Pu.pickF rfl rfl) ?_
          refine JL_nil ?_
          first | exact ⟨rfl, rfl, rfl, rfl, rfl, rfl, rfl⟩ | (exfalso; omega)
         | false =>
          replace h50 := df h50
          refine JL_pure (v := .pointer (some ⟨b1, 0, none⟩)) rfl (fa27_0 rfl rfl) ?_
          refine JL_run rfl (Pu_load1 ty3 rfl (At.bx 0 rfl) (pkT_0 ..) ?_)
          refine JL_pure (v := .bool (decide (kind = 11))) rfl (Pu.eql rfl rfl) ?_
          refine JL_pure (v := .bool (decide (kind = 11))) rfl (Pu.pickF rfl rfl) ?_
          refine JL_pure (v := .bool (decide (kind = 11))) rfl (Pu.move rfl) ?_
          cases h51 : (decide (kind = 11)) with
          | true =>
           replace h51 := dt h51
           refine JL_pure (v := .pointer (some ⟨b1, 1, none⟩)) rfl (fa27_1 rfl rfl) ?_
           refine JL_run rfl (Pu_load1 ty3 rfl (At.bx 0 rfl) (pkT_1 ..) ?_)
           refine JL_call rfl Tryz.call94 rfl (fun hin => offR_ct _ _ _ _) rfl ?_
           rintro _ _ ⟨rfl, rfl⟩
           refine JL_pure (v := .bool (decide (num < 0 ∨ 7 < num))) rfl (Pu.pickT rfl rfl) ?_
           refine JL_pure (v := .bool (decide (num < 0 ∨ 7 < num))) rfl (Pu.pickF rfl rfl) ?_
           refine JL_nil ?_
           first | exact ⟨rfl, rfl, rfl, rfl, rfl, rfl, rfl⟩ | (exfalso; omega)
          | false =>
           replace h51 := df h51
           refine JL_skip rfl ?_
           refine JL_skip rfl ?_
           refine JL_skip rfl ?_
           refine JL_pure (v := .bool (false)) rfl (Pu.pickF rfl rfl) ?_
           refine JL_pure (v := .bool (false)) rfl (Pu.pickF rfl rfl) ?_
           refine JL_nil ?_
           first | exact ⟨rfl, rfl, rfl, rfl, rfl, rfl, rfl⟩ | (exfalso; omega)
      ·rintro ρ52 _ ⟨e53, e54, e55, e56, e57, e58, rfl⟩
       obtain ⟨ρ59, rfl⟩ := reopen_ex (uc e53 (uc e54 (uc e55 (uc e56 (uc e57 (uc e58 un))))))
       clear e53 e54 e55 e56 e57 e58
       refine J_cond (b := (((decide (kind = 2)) && (decide (num < 0 ∨ 1073741824 < num))) || ((decide (kind = 10)) && (decide (num < 1 ∨ 5 < num)))) || (((decide (kind = 8)) || (decide (kind = 11))) && (decide (num < 0 ∨ 7 < num)))) rfl (fun h60 => ?_) (fun h60 => ?_)
       ·skip
        refine J_seq ?_
        refine J_region ?_
        refine JL_pure (v := .int .i64 (3)) rfl (Pu.assign rfl) ?_
        refine JL_nil ?_
        refine J_ret ?_
        refine ⟨.int .i64 (3), [], Ret.one rfl (RV.tmp rfl), Sub.nil, ?_⟩
        have hx : nHead d m b kind num ref kids.length cases.length = 3 := by simp only [nHead]; (repeat' split) <;> first | rfl | omega | (exfalso; simp_all; done) | (exfalso; simp_all; omega) | grind
        exact ⟨by rw [nErr, hx]; rfl, rfl⟩
       ·skip
        obtain ⟨h60a, h60b⟩ := orF h60
        obtain ⟨h60aa, h60ab⟩ := orF h60a
        refine J_skip ?_
        refine J_seq ?_
        refine J_cut (fun ρ M => ρ 1 = .int .i64 (d) ∧ ρ 2 = .int .i64 (m) ∧ ρ 3 = .int .i64 (b) ∧ ρ 4 = .pointer (some ⟨b1, 0, none⟩) ∧ ρ 8 = .int .i64 (0) ∧ ρ 140 = .bool (((decide (kind = 1)) && ((decide (num < 0)) || ((decide (b ≤ num)) && (decide (d ≤ num - b))))) || ((decide (kind = 7)) && ((decide (num < 0)) || (decide (m ≤ num))))) ∧ M = [[(b1, .cells ⟨pkT (kind) (num) (ref) (ks) (cv)⟩ 27 (0, 0))]]) ?_ ?_
        ·refine J_region ?_
         refine JL_pure (v := .pointer (some ⟨b1, 0, none⟩)) rfl (fa27_0 rfl rfl) ?_
         refine JL_run rfl (Pu_load1 ty3 rfl (At.bx 0 rfl) (pkT_0 ..) ?_)
         refine JL_pure (v := .bool (decide (kind = 1))) rfl (Pu.eql rfl rfl) ?_
         refine JL_pure (v := .bool (decide (kind = 1))) rfl (Pu.move rfl) ?_
         cases h61 : (decide (kind = 1)) with
         | true =>
          replace h61 := dt h61
          refine JL_pure (v := .pointer (some ⟨b1, 1, none⟩)) rfl (fa27_1 rfl rfl) ?_
          refine JL_run rfl (Pu_load1 ty3 rfl (At.bx 0 rfl) (pkT_1 ..) ?_)
          refine JL_pure (v := .bool (decide (num < 0))) rfl (Pu.lss rfl rfl) ?_
          refine JL_pure (v := .bool (decide (num < 0))) rfl (Pu.move rfl) ?_
          cases h62 : (decide (num < 0)) with
          | true =>
           replace h62 := dt h62
           refine JL_skip rfl ?_
           refine JL_skip rfl ?_
           refine JL_skip rfl ?_
           refine JL_skip rfl ?_
           refine JL_skip rfl ?_
           refine JL_skip rfl ?_
           refine JL_skip rfl ?_
           refine JL_skip rfl ?_
           refine JL_skip rfl ?_
           refine JL_skip rfl ?_
           refine JL_skip rfl ?_
           refine JL_skip rfl ?_
           refine JL_pure (v := .bool (true)) rfl (Pu.pickT rfl rfl) ?_
           refine JL_pure (v := .bool (true)) rfl (Pu.pickT rfl rfl) ?_
           refine JL_pure (v := .bool (true)) rfl (Pu.move rfl) ?_
           refine JL_skip rfl ?_
           refine JL_skip rfl ?_
           refine JL_skip rfl ?_
           refine JL_skip rfl ?_
           refine JL_skip rfl ?_
           refine JL_skip rfl ?_
           refine JL_skip rfl ?_
           refine JL_skip rfl ?_
           refine JL_skip rfl ?_
           refine JL_skip rfl ?_
           refine JL_skip rfl ?_
           refine JL_skip rfl ?_
           refine JL_skip rfl ?_
           refine JL_skip rfl ?_
           refine JL_pure (v := .bool (true)) rfl (Pu.pickT rfl rfl) ?_
           refine JL_nil ?_
           first | exact ⟨rfl, rfl, rfl, rfl, rfl, rfl, rfl⟩ | (exfalso; omega)
          | false =>
           replace h62 := df h62
           refine JL_pure (v := .pointer (some ⟨b1, 1, none⟩)) rfl (fa27_1 rfl rfl) ?_
           refine JL_run rfl (Pu_load1 ty3 rfl (At.bx 0 rfl) (pkT_1 ..) ?_)
           refine JL_pure (v := .int .i64 (b)) rfl (Pu.move rfl) ?_
           refine JL_pure (v := .bool (decide (b ≤ num))) rfl (Pu.geq rfl rfl) ?_
           refine JL_pure (v := .bool (decide (b ≤ num))) rfl (Pu.move rfl) ?_
           cases h63 : (decide (b ≤ num)) with
           | true =>
            replace h63 := dt h63
            refine JL_pure (v := .pointer (some ⟨b1, 1, none⟩)) rfl (fa27_1 rfl rfl) ?_
            refine JL_run rfl (Pu_load1 ty3 rfl (At.bx 0 rfl) (pkT_1 ..) ?_)
            refine JL_pure (v := .int .i64 (b)) rfl (Pu.move rfl) ?_
            refine JL_pure (v := .int .i64 (num - b)) rfl (Pu.sub64 rfl rfl (by first | omega | (constructor <;> omega))) ?_
            refine JL_pure (v := .int .i64 (d)) rfl (Pu.move rfl) ?_
            refine JL_pure (v := .bool (decide (d ≤ num - b))) rfl (Pu.geq rfl rfl) ?_
            refine JL_pure (v := .bool (decide (d ≤ num - b))) rfl (Pu.pickT rfl rfl) ?_
            refine JL_pure (v := .bool (decide (d ≤ num - b))) rfl (Pu.pickF rfl rfl) ?_
            refine JL_pure (v := .bool (decide (d ≤ num - b))) rfl (Pu.pickT rfl rfl) ?_
            refine JL_pure (v := .bool (decide (d ≤ num - b))) rfl (Pu.move rfl) ?_
            cases h64 : (decide (d ≤ num - b)) with
            | true =>
             replace h64 := dt h64
             refine JL_skip rfl ?_
             refine JL_skip rfl ?_
             refine JL_skip rfl ?_
             refine JL_skip rfl ?_
             refine JL_skip rfl ?_
             refine JL_skip rfl ?_
             refine JL_skip rfl ?_
             refine JL_skip rfl ?_
             refine JL_skip rfl ?_
             refine JL_skip rfl ?_
             refine JL_skip rfl ?_
             refine JL_skip rfl ?_
             refine JL_skip rfl ?_
             refine JL_skip rfl ?_
             refine JL_pure (v := .bool (true)) rfl (Pu.pickT rfl rfl) ?_
             refine JL_nil ?_
             first | exact ⟨rfl, rfl, rfl, rfl, rfl, rfl, rfl⟩ | (exfalso; omega)
            | false =>
             replace h64 := df h64
             refine JL_pure (v := .pointer (some ⟨b1, 0, none⟩)) rfl (fa27_0 rfl rfl) ?_
             refine JL_run rfl (Pu_load1 ty3 rfl (At.bx 0 rfl) (pkT_0 ..) ?_)
             refine JL_pure (v := .bool (decide (kind = 7))) rfl (Pu.eql rfl rfl) ?_
             refine JL_pure (v := .bool (decide (kind = 7))) rfl (Pu.move rfl) ?_
             cases h65 : (decide (kind = 7)) with
             | true =>
              replace h65 := dt h65
              refine JL_pure (v := .pointer (some ⟨b1, 1, none⟩)) rfl (fa27_1 rfl rfl) ?_
              refine JL_run rfl (Pu_load1 ty3 rfl (At.bx 0 rfl) (pkT_1 ..) ?_)
              refine JL_pure (v := .bool (decide (num < 0))) rfl (Pu.lss rfl rfl) ?_
              refine JL_pure (v := .bool (decide (num < 0))) rfl (Pu.move rfl) ?_
              cases h66 : (decide (num < 0)) with
              | true =>
               replace h66 := dt h66
               refine JL_skip rfl ?_
               refine JL_skip rfl ?_
               refine JL_skip rfl ?_
               refine JL_skip rfl ?_
               refine JL_pure (v := .bool (true)) rfl (Pu.pickT rfl rfl) ?_
               refine JL_pure (v := .bool (true)) rfl (Pu.pickT rfl rfl) ?_
               refine JL_pure (v := .bool (true)) rfl (Pu.pickF rfl rfl) ?_
               refine JL_nil ?_
               first | exact ⟨rfl, rfl, rfl, rfl, rfl, rfl, rfl⟩ | (exfalso; omega)
              | false =>
               replace h66 := df h66
               refine JL_pure (v := .pointer (some ⟨b1, 1, none⟩)) rfl (fa27_1 rfl rfl) ?_
               refine JL_run rfl (Pu_load1 ty3 rfl (At.bx 0 rfl) (pkT_1 ..) ?_)
               refine JL_pure (v := .int .i64 (m)) rfl (Pu.move rfl) ?_
               refine JL_pure (v := .bool (decide (m ≤ num))) rfl (Pu.geq rfl rfl) ?_
               refine JL_pure (v := .bool (decide (m ≤ num))) rfl (Pu.pickF rfl rfl) ?_
               refine JL_pure (v := .bool (decide (m ≤ num))) rfl (Pu.pickT rfl rfl) ?_
               refine JL_pure (v := .bool (decide (m ≤ num))) rfl (Pu.pickF rfl rfl) ?_
               refine JL_nil ?_
               first | exact ⟨rfl, rfl, rfl, rfl, rfl, rfl, rfl⟩ | (exfalso; omega)
             | false =>
              replace h65 := df h65
              refine JL_skip rfl ?_
              refine JL_skip rfl ?_
              refine JL_skip rfl ?_
              refine JL_skip rfl ?_
              refine JL_skip rfl ?_
              refine JL_skip rfl ?_
              refine JL_skip rfl ?_
              refine JL_skip rfl ?_
              refine JL_skip rfl ?_
              refine JL_pure (v := .bool (false)) rfl (Pu.pickF rfl rfl) ?_
              refine JL_pure (v := .bool (false)) rfl (Pu.pickF rfl rfl) ?_
              refine JL_nil ?_
              first | exact ⟨rfl, rfl, rfl, rfl, rfl, rfl, rfl⟩ | (exfalso; omega)
           | false =>
            replace h63 := df h63
            refine JL_skip rfl ?_
            refine JL_skip rfl ?_
            refine JL_skip rfl ?_
            refine JL_skip rfl ?_
            refine JL_skip rfl ?_
            refine JL_skip rfl ?_
            refine JL_pure (v := .bool (false)) rfl (Pu.pickF rfl rfl) ?_
            refine JL_pure (v := .bool (false)) rfl (Pu.pickF rfl rfl) ?_
            refine JL_pure (v := .bool (false)) rfl (Pu.pickT rfl rfl) ?_
            refine JL_pure (v := .bool (false)) rfl (Pu.move rfl) ?_
            refine JL_pure (v := .pointer (some ⟨b1, 0, none⟩)) rfl (fa27_0 rfl rfl) ?_
            refine JL_run rfl (Pu_load1 ty3 rfl (At.bx 0 rfl) (pkT_0 ..) ?_)
            refine JL_pure (v := .bool (decide (kind = 7))) rfl (Pu.eql rfl rfl) ?_
            refine JL_pure (v := .bool (decide (kind = 7))) rfl (Pu.move rfl) ?_
            cases h67 : (decide (kind = 7)) with
            | true =>
             replace h67 := dt h67
             refine JL_pure (v := .pointer (some ⟨b1, 1, none⟩)) rfl (fa27_1 rfl rfl) ?_
             refine JL_run rfl (Pu_load1 ty3 rfl (At.bx 0 rfl) (pkT_1 ..) ?_)
             refine JL_pure (v := .bool (decide (num < 0))) rfl (Pu.lss rfl rfl) ?_
             refine JL_pure (v := .bool (decide (num < 0))) rfl (Pu.move rfl) ?_
             cases h68 : (decide (num < 0)) with
             | true =>
              replace h68 := dt h68
              refine JL_skip rfl ?_
              refine JL_skip rfl ?_
              refine JL_skip rfl ?_
              refine JL_skip rfl ?_
              refine JL_pure (v := .bool (true)) rfl (Pu.pickT rfl rfl) ?_
              refine JL_pure (v := .bool (true)) rfl (Pu.pickT rfl rfl) ?_
              refine JL_pure (v := .bool (true)) rfl (Pu.pickF rfl rfl) ?_
              refine JL_nil ?_
              first | exact ⟨rfl, rfl, rfl, rfl, rfl, rfl, rfl⟩ | (exfalso; omega)
             | false =>
              replace h68 := df h68
              refine JL_pure (v := .pointer (some ⟨b1, 1, none⟩)) rfl (fa27_1 rfl rfl) ?_
              refine JL_run rfl (Pu_load1 ty3 rfl (At.bx 0 rfl) (pkT_1 ..) ?_)
              refine JL_pure (v := .int .i64 (m)) rfl (Pu.move rfl) ?_
              refine JL_pure (v := .bool (decide (m ≤ num))) rfl (Pu.geq rfl rfl) ?_
              refine JL_pure (v := .bool (decide (m ≤ num))) rfl (Pu.pickF rfl rfl) ?_
              refine JL_pure (v := .bool (decide (m ≤ num))) rfl (Pu.pickT rfl rfl) ?_
              refine JL_pure (v := .bool (decide (m ≤ num))) rfl (Pu.pickF rfl rfl) ?_
              refine JL_nil ?_
              first | exact ⟨rfl, rfl, rfl, rfl, rfl, rfl, rfl⟩ | (exfalso; omega)
            | false =>
             replace h67 := df h67
             refine JL_skip rfl ?_
             refine JL_skip rfl ?_
             refine JL_skip rfl ?_
             refine JL_skip rfl ?_
             refine JL_skip rfl ?_
             refine JL_skip rfl ?_
             refine JL_skip rfl ?_
             refine JL_skip rfl ?_
             refine JL_skip rfl ?_
             refine JL_pure (v := .bool (false)) rfl (Pu.pickF rfl rfl) ?_
             refine JL_pure (v := .bool (false)) rfl (Pu.pickF rfl rfl) ?_
             refine JL_nil ?_
             first | exact ⟨rfl, rfl, rfl, rfl, rfl, rfl, rfl⟩ | (exfalso; omega)
         | false =>
          replace h61 := df h61
          refine JL_skip rfl ?_
          refine JL_skip rfl ?_
          refine JL_skip rfl ?_
          refine JL_skip rfl ?_
          refine JL_skip rfl ?_
          refine JL_skip rfl ?_
          refine JL_skip rfl ?_
          refine JL_skip rfl ?_
          refine JL_skip rfl ?_
          refine JL_skip rfl ?_
          refine JL_skip rfl ?_
          refine JL_skip rfl ?_
          refine JL_skip rfl ?_
          refine JL_skip rfl ?_
          refine JL_skip rfl ?_
          refine JL_skip rfl ?_
          refine JL_skip rfl ?_
          refine JL_pure (v := .bool (false)) rfl (Pu.pickF rfl rfl) ?_
          refine JL_pure (v := .bool (false)) rfl (Pu.move rfl) ?_
          refine JL_pure (v := .pointer (some ⟨b1, 0, none⟩)) rfl (fa27_0 rfl rfl) ?_
          refine JL_run rfl (Pu_load1 ty3 rfl (At.bx 0 rfl) (pkT_0 ..) ?_)
          refine JL_pure (v := .bool (decide (kind = 7))) rfl (Pu.eql rfl rfl) ?_
          refine JL_pure (v := .bool (decide (kind = 7))) rfl (Pu.move rfl) ?_
          cases h69 : (decide (kind = 7)) with
          | true =>
           replace h69 := dt h69
           refine JL_pure (v := .pointer (some ⟨b1, 1, none⟩)) rfl (fa27_1 rfl rfl) ?_
           refine JL_run rfl (Pu_load1 ty3 rfl (At.bx 0 rfl) (pkT_1 ..) ?_)
           refine JL_pure (v := .bool (decide (num < 0))) rfl (Pu.lss rfl rfl) ?_
           refine JL_pure (v := .bool (decide (num < 0))) rfl (Pu.move rfl) ?_
           cases h70 : (decide (num < 0)) with
           | true =>
            replace h70 := dt h70
            refine JL_skip rfl ?_
            refine JL_skip rfl ?_
            refine JL_skip rfl ?_
            refine JL_skip rfl ?_
            refine JL_pure (v := .bool (true)) rfl (Pu.pickT rfl rfl) ?_
            refine JL_pure (v := .bool (true)) rfl (Pu.pickT rfl rfl) ?_
            refine JL_pure (v := .bool (true)) rfl (Pu.pickF rfl rfl) ?_
            refine JL_nil ?_
            first | exact ⟨rfl, rfl, rfl, rfl, rfl, rfl, rfl⟩ | (exfalso; omega)
           | false =>
            replace h70 := df h70
            refine JL_pure (v := .pointer (some ⟨b1, 1, none⟩)) rfl (fa27_1 rfl rfl) ?_
            refine JL_run rfl (Pu_load1 ty3 rfl (At.bx 0 rfl) (pkT_1 ..) ?_)
            refine JL_pure (v := .int .i64 (m)) rfl (Pu.move rfl) ?_
            refine JL_pure (v := .bool (decide (m ≤ num))) rfl (Pu.geq rfl rfl) ?_
            refine JL_pure (v := .bool (decide (m ≤ num))) rfl (Pu.pickF rfl rfl) ?_
            refine JL_pure (v := .bool (decide (m ≤ num))) rfl (Pu.pickT rfl rfl) ?_
            refine JL_pure (v := .bool (decide (m ≤ num))) rfl (Pu.pickF rfl rfl) ?_
            refine JL_nil ?_
            first | exact ⟨rfl, rfl, rfl, rfl, rfl, rfl, rfl⟩ | (exfalso; omega)
          | false =>
           replace h69 := df h69
           refine JL_skip rfl ?_
           refine JL_skip rfl ?_
           refine JL_skip rfl ?_
           refine JL_skip rfl ?_
           refine JL_skip rfl ?_
           refine JL_skip rfl ?_
           refine JL_skip rfl ?_
           refine JL_skip rfl ?_
           refine JL_skip rfl ?_
           refine JL_pure (v := .bool (false)) rfl (Pu.pickF rfl rfl) ?_
           refine JL_pure (v := .bool (false)) rfl (Pu.pickF rfl rfl) ?_
           refine JL_nil ?_
           first | exact ⟨rfl, rfl, rfl, rfl, rfl, rfl, rfl⟩ | (exfalso; omega)
        ·rintro ρ71 _ ⟨e72, e73, e74, e75, e76, e77, rfl⟩
         obtain ⟨ρ78, rfl⟩ := reopen_ex (uc e72 (uc e73 (uc e74 (uc e75 (uc e76 (uc e77 un))))))
         clear e72 e73 e74 e75 e76 e77
         refine J_cond (b := ((decide (kind = 1)) && ((decide (num < 0)) || ((decide (b ≤ num)) && (decide (d ≤ num - b))))) || ((decide (kind = 7)) && ((decide (num < 0)) || (decide (m ≤ num))))) rfl (fun h79 => ?_) (fun h79 => ?_)
         ·skip
          refine J_seq ?_
          refine J_region ?_
          refine JL_pure (v := .int .i64 (1)) rfl (Pu.assign rfl) ?_
          refine JL_nil ?_
          refine J_ret ?_
          refine ⟨.int .i64 (1), [], Ret.one rfl (RV.tmp rfl), Sub.nil, ?_⟩
          have hx : nHead d m b kind num ref kids.length cases.length = 1 := by simp only [nHead]; (repeat' split) <;> first | rfl | omega | (exfalso; simp_all; done) | (exfalso; simp_all; omega) | grind
          exact ⟨by rw [nErr, hx]; rfl, rfl⟩
         ·skip
          obtain ⟨h79a, h79b⟩ := orF h79
          refine J_skip ?_
          refine J_seq ?_
          refine J_seq ?_
          refine J_region ?_
          refine JL_pure (v := .int .i64 (0)) rfl (Pu.assign rfl) ?_
          refine JL_nil ?_
          refine J_block ?_
          refine J_loop (fun k ρ M => ∃ (j : Nat), ρ 1 = .int .i64 (d) ∧ ρ 2 = .int .i64 (m) ∧ ρ 3 = .int .i64 (b) ∧ ρ 4 = .pointer (some ⟨b1, 0, none⟩) ∧ ρ 8 = .int .i64 (0) ∧ ρ 11 = .int .i64 ((j : Int)) ∧ Sub [[(b1, .cells ⟨pkT (kind) (num) (ref) (ks) (cv)⟩ 27 (0, 0))]] M ∧ j ≤ (cases).length ∧ nHead d m b kind num ref kids.length cases.length = 0 ∧ pErrRC (cases.drop j) = pErrRC cases ∧ k = (cases).length - j) _ ⟨0, rfl, rfl, rfl, rfl, rfl, rfl, (Sk Sub.nil), Nat.zero_le _, (by simp only [nHead]; (repeat' split) <;> first | rfl | omega | (exfalso; simp_all; done) | (exfalso; simp_all; omega) | grind), rfl, rfl⟩ ?_
          rintro _ ρ80 _ ⟨j, e81, e82, e83, e84, e85, e86, hm87, hj, hh, hinv, rfl⟩
          obtain ⟨ρ88, rfl⟩ := reopen_ex (uc e81 (uc e82 (uc e83 (uc e84 (uc e85 (uc e86 un))))))
          clear e81 e82 e83 e84 e85 e86
          refine J_sub hm87 ?_
          have hlen := hcv.le
          refine J_seq ?_
          refine J_seq ?_
          refine J_region ?_
          refine JL_pure (v := .int .i64 ((j : Int))) rfl (Pu.move rfl) ?_
          refine JL_pure (v := .pointer (some ⟨b1, 35, none⟩)) rfl (fa27_4 rfl rfl) ?_
          refine JL_run rfl (Pu_load1 ty25 rfl (At.bx 0 rfl) (pkT_35 ..) ?_)
          obtain ⟨a89, cap89, hv89⟩ := hcv.sl
          have hle89 := hcv.le
          refine JL_pure (v := .int .i64 (((cases).length : Int))) rfl (Pu.lenSl Tryz.runUnderlying25 hv89) ?_
          refine JL_pure (v := .bool (decide ((j : Int) < ((cases).length : Int)))) rfl (Pu.lss rfl rfl) ?_
          refine JL_nil ?_
          refine J_cond (b := decide ((j : Int) < ((cases).length : Int))) rfl (fun h90 => ?_) (fun h90 => ?_)
          ·skip
           replace h90 := dt h90
           have h90n : j < (cases).length := by omega
           refine J_skip ?_
           refine J_seq ?_
           refine J_block ?_
           refine J_seq ?_
           refine J_region ?_
           refine JL_pure (v := .pointer (some ⟨b1, 35, none⟩)) rfl (fa27_4 rfl rfl) ?_
           refine JL_run rfl (Pu_load1 ty25 rfl (At.bx 0 rfl) (pkT_35 ..) ?_)
           refine JL_pure (v := .int .i64 ((j : Int))) rfl (Pu.move rfl) ?_
           obtain ⟨b91, o91, cap91, row91, T91, fr91, cs91, hv91, hb91, hs91, hE91⟩ := hcv.get j (by first | assumption | omega | decide | simp)
           obtain ⟨ca91, cb91, rfl, hA91, hB91⟩ := hE91
           refine JL_pure (v := .pointer (some ⟨b91, o91 + j * 71, none⟩)) rfl (Pu.idx j Tryz.runUnderlying25 ty34 hv91 rfl rfl (by first | assumption | omega | decide | simp)) ?_
           refine JL_pure (v := .pointer (some ⟨b91, o91 + j * 71, none⟩)) rfl (fa34_0 rfl rfl) ?_
           refine JL_run rfl (Pu_load ty30 rfl (At.im hb91) (sub_sub0 hs91 (sub_l (RP_len hA91))) ?_)
           refine JL_call rfl Tryz.call98 rfl (fun hin => patternErrorR_ct _ _ _ (RP.mono (Hle.hu _ _) hA91)) rfl ?_
           rintro _ _ ⟨rfl, rfl⟩
           refine JL_pure (v := .int .i64 (pErrR ((cases)[j].1))) rfl (Pu.assign rfl) ?_
           refine JL_nil ?_
           refine J_seq ?_
           refine J_region ?_
           refine JL_pure (v := .int .i64 (pErrR ((cases)[j].1))) rfl (Pu.move rfl) ?_
           refine JL_pure (v := .bool (!decide (pErrR ((cases)[j].1) = 0))) rfl (Pu.neq rfl rfl) ?_
           refine JL_nil ?_
           refine J_cond (b := !decide (pErrR ((cases)[j].1) = 0)) rfl (fun h92 => ?_) (fun h92 => ?_)
           ·skip
            replace h92 := nt h92
            replace h92 := df h92
            refine J_seq ?_
            refine J_region ?_
            refine JL_pure (v := .int .i64 (pErrR ((cases)[j].1))) rfl (Pu.move rfl) ?_
            refine JL_pure (v := .int .i64 (pErrR ((cases)[j].1))) rfl (Pu.assign rfl) ?_
            refine JL_nil ?_
            refine J_ret ?_
            refine ⟨.int .i64 (pErrR ((cases)[j].1)), [], Ret.one rfl (RV.tmp rfl), Sub.nil, ?_⟩
            exact ⟨by rw [nErr, if_pos hh, ← hinv, dropc h90n, pErrRC, if_neg h92, if_neg h92], rfl⟩
           ·skip
            replace h92 := nf h92
            replace h92 := dt h92
            refine J_skip ?_
            refine J_region ?_
            refine JL_pure (v := .int .i64 ((j : Int))) rfl (Pu.move rfl) ?_
            refine JL_pure (v := .int .i64 (((j + 1 : Nat) : Int))) rfl (Pu.inc rfl rfl (by omega)) ?_
            refine JL_pure (v := .int .i64 (((j + 1 : Nat) : Int))) rfl (Pu.assign rfl) ?_
            refine JL_nil ?_
            refine ⟨_, ?_, (j + 1), rfl, rfl, rfl, rfl, rfl, rfl, (Sk Sub.nil), ?_, ?_, ?_, rfl⟩
            ·omega
            ·omega
            ·assumption
            ·rw [dropc h90n, pErrRC, if_pos h92] at hinv; exact hinv
          ·skip
           replace h90 := df h90
           have h90n : (cases).length ≤ j := by omega
           refine J_exit _ rfl ?_
           refine J_seq ?_
           refine J_seq ?_
           refine J_region ?_
           refine JL_pure (v := .int .i64 (0)) rfl (Pu.assign rfl) ?_
           refine JL_nil ?_
           refine J_block ?_
           refine J_loop (fun k ρ M => ∃ (j : Nat), ρ 1 = .int .i64 (d) ∧ ρ 2 = .int .i64 (m) ∧ ρ 3 = .int .i64 (b) ∧ ρ 4 = .pointer (some ⟨b1, 0, none⟩) ∧ ρ 8 = .int .i64 (0) ∧ ρ 13 = .int .i64 ((j : Int)) ∧ Sub [[(b1, .cells ⟨pkT (kind) (num) (ref) (ks) (cv)⟩ 27 (0, 0))]] M ∧ j ≤ (kids).length ∧ pErrRC cases = 0 ∧ nErrK d m b kind j (kids.drop j) = nErrK d m b kind 0 kids ∧ k = (kids).length - j) _ ⟨0, rfl, rfl, rfl, rfl, rfl, rfl, (Sk Sub.nil), Nat.zero_le _, (by rw [← hinv, dropn h90n]; rfl), rfl, rfl⟩ ?_
           rintro _ ρ93 _ ⟨j, e94, e95, e96, e97, e98, e99, hm100, hj, h1, hinv, rfl⟩
           obtain ⟨ρ101, rfl⟩ := reopen_ex (uc e94 (uc e95 (uc e96 (uc e97 (uc e98 (uc e99 un))))))
           clear e94 e95 e96 e97 e98 e99
           refine J_sub hm100 ?_
           have hlen := hks.le
           refine J_seq ?_
           refine J_seq ?_
           refine J_region ?_
           refine JL_pure (v := .int .i64 ((j : Int))) rfl (Pu.move rfl) ?_
           refine JL_pure (v := .pointer (some ⟨b1, 34, none⟩)) rfl (fa27_3 rfl rfl) ?_
           refine JL_run rfl (Pu_load1 ty24 rfl (At.bx 0 rfl) (pkT_34 ..) ?_)
           obtain ⟨a102, cap102, hv102⟩ := hks.sl
           have hle102 := hks.le
           refine JL_pure (v := .int .i64 (((kids).length : Int))) rfl (Pu.lenSl Tryz.runUnderlying24 hv102) ?_
           refine JL_pure (v := .bool (decide ((j : Int) < ((kids).length : Int)))) rfl (Pu.lss rfl rfl) ?_
           refine JL_nil ?_
           refine J_cond (b := decide ((j : Int) < ((kids).length : Int))) rfl (fun h103 => ?_) (fun h103 => ?_)
           ·skip
            replace h103 := dt h103
            have h103n : j < (kids).length := by omega
            have hs1 := sizeTs_mem _ (List.getElem_mem h103n)
            have hm1 := more_le kind j
            refine J_skip ?_
            refine J_seq ?_
            refine J_block ?_
            refine J_seq ?_
            obtain ⟨b105, o105, cap105, row105, T105, fr105, cs105, hv105, hb105, hs105, hE105⟩ := hks.get j (by first | assumption | omega | decide | simp)
            refine J_draw mixed #[0, 1, 0, 7, 15, 0, 0, 0, 0, 256, 0, 1792, 3968, 8191, 16383] 13 13 1 rfl (by kernel_rfl) (fun i r104 N104 => match i with | 0 => (r104 0) = .pointer (some ⟨b1, 34, none⟩) | 1 => (r104 1) = ks | 2 => (r104 2) = .int .i64 ((j : Int)) | 3 => (r104 3) = .pointer (some ⟨b105, o105 + j * 36, none⟩) | 4 => (r104 4) = .agg ⟨cs105⟩ | 5 => (r104 5) = .int .i64 (d) | 6 => (r104 6) = .int .i64 (m) | 7 => (r104 7) = .int .i64 (b) | 8 => (r104 8) = .pointer (some ⟨b1, 0, none⟩) | 9 => (r104 9) = .int .i64 (kind) | 10 => (r104 10) = .int .i64 ((j : Int)) | 11 => (r104 11) = .int .i64 (more (kind) ((j : Int))) | 12 => (r104 12) = .int .i64 (b + (more (kind) ((j : Int)))) | _ => True) ⟨?_, ?_, ?_, ?_, ?_, ?_, ?_, ?_, ?_, ?_, ?_, ?_, ?_, trivial⟩ ?_
            ·intro ρ r104 N104 B hB hBa hp hr hr0
             have q4 : ρ 4 = .pointer (some ⟨b1, 0, none⟩) := hr0 4 (by kernel_rfl)
             obtain ⟨ρ106, rfl⟩ := reopen_ex (uc q4 un)
             clear q4
             refine JL_pure (v := .pointer (some ⟨b1, 34, none⟩)) rfl (fa27_3 rfl rfl) ?_
             refine JL_nil ?_
             exact ⟨.pointer (some ⟨b1, 34, none⟩), [], rfl, (Sub.emp Sub.refl), rfl⟩
            ·intro ρ r104 N104 B hB hBa hp hr hr0
             have q165 : ρ 165 = .pointer (some ⟨b1, 34, none⟩) := (hr 0 _ _ (by decide) rfl rfl rfl).trans (hp 0 (by decide) rfl)
             obtain ⟨ρ107, rfl⟩ := reopen_ex (uc q165 un)
             clear q165
             refine JL_run rfl (Pu_load1 ty24 rfl (At.bx 13 (made_old ((hB 0 (by decide)).trans rfl))) (pkT_34 ..) ?_)
             refine JL_nil ?_
             exact ⟨ks, [], rfl, (Sub.emp Sub.refl), rfl⟩
            ·intro ρ r104 N104 B hB hBa hp hr hr0
             have q13 : ρ 13 = .int .i64 ((j : Int)) := hr0 13 (by kernel_rfl)
             obtain ⟨ρ108, rfl⟩ := reopen_ex (uc q13 un)
             clear q13
             refine JL_pure (v := .int .i64 ((j : Int))) rfl (Pu.move rfl) ?_
             refine JL_nil ?_
             exact ⟨.int .i64 ((j : Int)), [], rfl, (Sub.emp Sub.refl), rfl⟩
            ·intro ρ r104 N104 B hB hBa hp hr hr0
             have q166 : ρ 166 = ks := (hr 1 _ _ (by decide) rfl rfl rfl).trans (hp 1 (by decide) rfl)
             have q167 : ρ 167 = .int .i64 ((j : Int)) := (hr 2 _ _ (by decide) rfl rfl rfl).trans (hp 2 (by decide) rfl)
             obtain ⟨ρ109, rfl⟩ := reopen_ex (uc q166 (uc q167 un))
             clear q166 q167
             refine JL_pure (v := .pointer (some ⟨b105, o105 + j * 36, none⟩)) rfl (Pu.idx j Tryz.runUnderlying24 ty27 hv105 rfl rfl (by first | assumption | omega | decide | simp)) ?_
             refine JL_nil ?_
             exact ⟨.pointer (some ⟨b105, o105 + j * 36, none⟩), [], rfl, (Sub.emp Sub.refl), rfl⟩
            ·intro ρ r104 N104 B hB hBa hp hr hr0
             have q168 : ρ 168 = .pointer (some ⟨b105, o105 + j * 36, none⟩) := (hr 3 _ _ (by decide) rfl rfl rfl).trans (hp 3 (by decide) rfl)
             obtain ⟨ρ110, rfl⟩ := reopen_ex (uc q168 un)
             clear q168
             refine JL_run rfl (Pu_load ty27 rfl (At.im hb105) hs105 ?_)
             refine JL_nil ?_
             exact ⟨.agg ⟨cs105⟩, [], rfl, (Sub.emp Sub.refl), rfl⟩
            ·intro ρ r104 N104 B hB hBa hp hr hr0
             have q1 : ρ 1 = .int .i64 (d) := hr0 1 (by kernel_rfl)
             obtain ⟨ρ111, rfl⟩ := reopen_ex (uc q1 un)
             clear q1
             refine JL_pure (v := .int .i64 (d)) rfl (Pu.move rfl) ?_
             refine JL_nil ?_
             exact ⟨.int .i64 (d), [], rfl, (Sub.emp Sub.refl), rfl⟩
            ·intro ρ r104 N104 B hB hBa hp hr hr0
             have q2 : ρ 2 = .int .i64 (m) := hr0 2 (by kernel_rfl)
             obtain ⟨ρ112, rfl⟩ := reopen_ex (uc q2 un)
             clear q2
             refine JL_pure (v := .int .i64 (m)) rfl (Pu.move rfl) ?_
             refine JL_nil ?_
             exact ⟨.int .i64 (m), [], rfl, (Sub.emp Sub.refl), rfl⟩
            ·intro ρ r104 N104 B hB hBa hp hr hr0
             have q3 : ρ 3 = .int .i64 (b) := hr0 3 (by kernel_rfl)
             obtain ⟨ρ113, rfl⟩ := reopen_ex (uc q3 un)
             clear q3
             refine JL_pure (v := .int .i64 (b)) rfl (Pu.move rfl) ?_
             refine JL_nil ?_
             exact ⟨.int .i64 (b), [], rfl, (Sub.emp Sub.refl), rfl⟩
            ·intro ρ r104 N104 B hB hBa hp hr hr0
             have q4 : ρ 4 = .pointer (some ⟨b1, 0, none⟩) := hr0 4 (by kernel_rfl)
             obtain ⟨ρ114, rfl⟩ := reopen_ex (uc q4 un)
             clear q4
             refine JL_pure (v := .pointer (some ⟨b1, 0, none⟩)) rfl (fa27_0 rfl rfl) ?_
             refine JL_nil ?_
             exact ⟨.pointer (some ⟨b1, 0, none⟩), [], rfl, (Sub.emp Sub.refl), rfl⟩
            ·intro ρ r104 N104 B hB hBa hp hr hr0
             have q173 : ρ 173 = .pointer (some ⟨b1, 0, none⟩) := (hr 8 _ _ (by decide) rfl rfl rfl).trans (hp 8 (by decide) rfl)
             obtain ⟨ρ115, rfl⟩ := reopen_ex (uc q173 un)
             clear q173
             refine JL_run rfl (Pu_load1 ty3 rfl (At.bx 13 (made_old ((hB 0 (by decide)).trans rfl))) (pkT_0 ..) ?_)
             refine JL_nil ?_
             exact ⟨.int .i64 (kind), [], rfl, (Sub.emp Sub.refl), rfl⟩
            ·intro ρ r104 N104 B hB hBa hp hr hr0
             have q13 : ρ 13 = .int .i64 ((j : Int)) := hr0 13 (by kernel_rfl)
             obtain ⟨ρ116, rfl⟩ := reopen_ex (uc q13 un)
             clear q13
             refine JL_pure (v := .int .i64 ((j : Int))) rfl (Pu.move rfl) ?_
             refine JL_nil ?_
             exact ⟨.int .i64 ((j : Int)), [], rfl, (Sub.emp Sub.refl), rfl⟩
            ·intro ρ r104 N104 B hB hBa hp hr hr0
             have q174 : ρ 174 = .int .i64 (kind) := (hr 9 _ _ (by decide) rfl rfl rfl).trans (hp 9 (by decide) rfl)
             have q175 : ρ 175 = .int .i64 ((j : Int)) := (hr 10 _ _ (by decide) rfl rfl rfl).trans (hp 10 (by decide) rfl)
             obtain ⟨ρ117, rfl⟩ := reopen_ex (uc q174 (uc q175 un))
             clear q174 q175
             refine JL_call rfl Tryz.call87 rfl (fun hin => moreR_ct _ _ _) rfl ?_
             rintro _ _ ⟨rfl, rfl⟩
             refine JL_nil ?_
             exact ⟨.int .i64 (more (kind) ((j : Int))), [], rfl, (Sub.emp Sub.refl), rfl⟩
            ·intro ρ r104 N104 B hB hBa hp hr hr0
             have q172 : ρ 172 = .int .i64 (b) := (hr 7 _ _ (by decide) rfl rfl rfl).trans (hp 7 (by decide) rfl)
             have q176 : ρ 176 = .int .i64 (more (kind) ((j : Int))) := (hr 11 _ _ (by decide) rfl rfl rfl).trans (hp 11 (by decide) rfl)
             obtain ⟨ρ118, rfl⟩ := reopen_ex (uc q172 (uc q176 un))
             clear q172 q176
             refine JL_pure (v := .int .i64 (b + (more (kind) ((j : Int))))) rfl (Pu.add64 rfl rfl (by first | omega | (constructor <;> omega))) ?_
             refine JL_nil ?_
             exact ⟨.int .i64 (b + (more (kind) ((j : Int)))), [], rfl, (Sub.emp Sub.refl), rfl⟩
            ·intro ρ r104 N104 hp hr hr0
             have q1 : ρ 1 = .int .i64 (d) := hr0 1 (by kernel_rfl)
             have q2 : ρ 2 = .int .i64 (m) := hr0 2 (by kernel_rfl)
             have q3 : ρ 3 = .int .i64 (b) := hr0 3 (by kernel_rfl)
             have q4 : ρ 4 = .pointer (some ⟨b1, 0, none⟩) := hr0 4 (by kernel_rfl)
             have q8 : ρ 8 = .int .i64 (0) := hr0 8 (by kernel_rfl)
             have q13 : ρ 13 = .int .i64 ((j : Int)) := hr0 13 (by kernel_rfl)
             have q169 : ρ 169 = .agg ⟨cs105⟩ := (hr 4 _ _ (by decide) rfl rfl).trans (hp 4 (by decide))
             have q170 : ρ 170 = .int .i64 (d) := (hr 5 _ _ (by decide) rfl rfl).trans (hp 5 (by decide))
             have q171 : ρ 171 = .int .i64 (m) := (hr 6 _ _ (by decide) rfl rfl).trans (hp 6 (by decide))
             have q177 : ρ 177 = .int .i64 (b + (more (kind) ((j : Int)))) := (hr 12 _ _ (by decide) rfl rfl).trans (hp 12 (by decide))
             obtain ⟨ρ119, rfl⟩ := reopen_ex (uc q1 (uc q2 (uc q3 (uc q4 (uc q8 (uc q13 (uc q169 (uc q170 (uc q171 (uc q177 un))))))))))
             clear q1 q2 q3 q4 q8 q13 q169 q170 q171 q177
             clear hp hr hr0 
             refine JL_sub (M' := [(N104 0), (N104 1), (N104 2), (N104 3), (N104 4), (N104 5), (N104 6), (N104 7), (N104 8), (N104 9), (N104 10), (N104 11), (N104 12), [(b1, .cells ⟨pkT (kind) (num) (ref) (ks) (cv)⟩ 27 (0, 0))]]) Sub.refl ?_
             refine JL_sub (M' := [[(b1, .cells ⟨pkT (kind) (num) (ref) (ks) (cv)⟩ 27 (0, 0))]]) (Sd (Sd (Sd (Sd (Sd (Sd (Sd (Sd (Sd (Sd (Sd (Sd (Sd (Sk Sub.nil)))))))))))))) ?_
             show JL _ _ _ [_, _] _ _ _
             refine JL_call rfl Tryz.call57 rfl (fun hin => ih _ (List.getElem_mem h103n) _ _ _ _ _ (RT.mono (Hle.hu _ _) hE105) (by omega) (by omega)) rfl ?_
             rintro _ _ ⟨rfl, rfl⟩
             refine JL_pure (v := .int .i64 (nErr (d) (m) (b + (more (kind) ((j : Int)))) ((kids)[j]))) rfl (Pu.assign rfl) ?_
             refine JL_nil ?_
             refine J_seq ?_
             refine J_region ?_
             refine JL_pure (v := .int .i64 (nErr (d) (m) (b + (more (kind) ((j : Int)))) ((kids)[j]))) rfl (Pu.move rfl) ?_
             refine JL_pure (v := .bool (!decide (nErr (d) (m) (b + (more (kind) ((j : Int)))) ((kids)[j]) = 0))) rfl (Pu.neq rfl rfl) ?_
             refine JL_nil ?_
             refine J_cond (b := !decide (nErr (d) (m) (b + (more (kind) ((j : Int)))) ((kids)[j]) = 0)) rfl (fun h120 => ?_) (fun h120 => ?_)
             ·skip
              replace h120 := nt h120
              replace h120 := df h120
              refine J_seq ?_
              refine J_region ?_
              refine JL_pure (v := .int .i64 (nErr (d) (m) (b + (more (kind) ((j : Int)))) ((kids)[j]))) rfl (Pu.move rfl) ?_
              refine JL_pure (v := .int .i64 (nErr (d) (m) (b + (more (kind) ((j : Int)))) ((kids)[j]))) rfl (Pu.assign rfl) ?_
              refine JL_nil ?_
              refine J_ret ?_
              refine ⟨.int .i64 (nErr (d) (m) (b + (more (kind) ((j : Int)))) ((kids)[j])), [], Ret.one rfl (RV.tmp rfl), Sub.nil, ?_⟩
              exact ⟨by rw [nErr, if_pos hh, if_pos h1, ← hinv, dropc h103n, nErrK, if_neg h120, if_neg h120], rfl⟩
             ·skip
              replace h120 := nf h120
              replace h120 := dt h120
              refine J_skip ?_
              refine J_region ?_
              refine JL_pure (v := .int .i64 ((j : Int))) rfl (Pu.move rfl) ?_
              refine JL_pure (v := .int .i64 (((j + 1 : Nat) : Int))) rfl (Pu.inc rfl rfl (by omega)) ?_
              refine JL_pure (v := .int .i64 (((j + 1 : Nat) : Int))) rfl (Pu.assign rfl) ?_
              refine JL_nil ?_
              refine ⟨_, ?_, (j + 1), rfl, rfl, rfl, rfl, rfl, rfl, (Sk Sub.nil), ?_, ?_, ?_, rfl⟩
              ·omega
              ·omega
              ·assumption
              ·rw [dropc h103n, nErrK, if_pos h120] at hinv; exact hinv
           ·skip
            replace h103 := df h103
            have h103n : (kids).length ≤ j := by omega
            refine J_exit _ rfl ?_
            refine J_seq ?_
            refine J_seq ?_
            refine J_region ?_
            refine JL_pure (v := .int .i64 (0)) rfl (Pu.assign rfl) ?_
            refine JL_nil ?_
            refine J_block ?_
            refine J_loop (fun k ρ M => ∃ (j : Nat), ρ 1 = .int .i64 (d) ∧ ρ 2 = .int .i64 (m) ∧ ρ 3 = .int .i64 (b) ∧ ρ 4 = .pointer (some ⟨b1, 0, none⟩) ∧ ρ 8 = .int .i64 (0) ∧ ρ 15 = .int .i64 ((j : Int)) ∧ Sub [[(b1, .cells ⟨pkT (kind) (num) (ref) (ks) (cv)⟩ 27 (0, 0))]] M ∧ j ≤ (cases).length ∧ nErrK d m b kind 0 kids = 0 ∧ nErrC d m b (cases.drop j) = nErrC d m b cases ∧ k = (cases).length - j) _ ⟨0, rfl, rfl, rfl, rfl, rfl, rfl, (Sk Sub.nil), Nat.zero_le _, (by rw [← hinv, dropn h103n]; rfl), rfl, rfl⟩ ?_
            rintro _ ρ121 _ ⟨j, e122, e123, e124, e125, e126, e127, hm128, hj, h2, hinv, rfl⟩
            obtain ⟨ρ129, rfl⟩ := reopen_ex (uc e122 (uc e123 (uc e124 (uc e125 (uc e126 (uc e127 un))))))
            clear e122 e123 e124 e125 e126 e127
            refine J_sub hm128 ?_
            have hlen := hcv.le
            refine J_seq ?_
            refine J_seq ?_
            refine J_region ?_
            refine JL_pure (v := .int .i64 ((j : Int))) rfl (Pu.move rfl) ?_
            refine JL_pure (v := .pointer (some ⟨b1, 35, none⟩)) rfl (fa27_4 rfl rfl) ?_
            refine JL_run rfl (Pu_load1 ty25 rfl (At.bx 0 rfl) (pkT_35 ..) ?_)
            obtain ⟨a130, cap130, hv130⟩ := hcv.sl
            have hle130 := hcv.le
            refine JL_pure (v := .int .i64 (((cases).length : Int))) rfl (Pu.lenSl Tryz.runUnderlying25 hv130) ?_
            refine JL_pure (v := .bool (decide ((j : Int) < ((cases).length : Int)))) rfl (Pu.lss rfl rfl) ?_
            refine JL_nil ?_
            refine J_cond (b := decide ((j : Int) < ((cases).length : Int))) rfl (fun h131 => ?_) (fun h131 => ?_)
            ·skip
             replace h131 := dt h131
             have h131n : j < (cases).length := by omega
             have hs1 := sizeCs_mem _ (List.getElem_mem h131n)
             have hm1 := binds_le (cases[j]).1
             refine J_skip ?_
             refine J_seq ?_
             refine J_block ?_
             refine J_seq ?_
             obtain ⟨b133, o133, cap133, row133, T133, fr133, cs133, hv133, hb133, hs133, hE133⟩ := hcv.get j (by first | assumption | omega | decide | simp)
             obtain ⟨ca133, cb133, rfl, hA133, hB133⟩ := hE133
             refine J_draw mixed #[0, 1, 0, 7, 15, 31, 0, 0, 0, 0, 512, 0, 3584, 7680, 15872, 32256, 65280, 131071, 262143] 17 17 1 rfl (by kernel_rfl) (fun i r132 N132 => match i with | 0 => (r132 0) = .pointer (some ⟨b1, 35, none⟩) | 1 => (r132 1) = cv | 2 => (r132 2) = .int .i64 ((j : Int)) | 3 => (r132 3) = .pointer (some ⟨b133, o133 + j * 71, none⟩) | 4 => (r132 4) = .pointer (some ⟨b133, o133 + j * 71 + 35, none⟩) | 5 => (r132 5) = .agg ⟨cb133⟩ | 6 => (r132 6) = .int .i64 (d) | 7 => (r132 7) = .int .i64 (m) | 8 => (r132 8) = .int .i64 (b) | 9 => (r132 9) = .pointer (some ⟨b1, 35, none⟩) | 10 => (r132 10) = cv | 11 => (r132 11) = .int .i64 ((j : Int)) | 12 => (r132 12) = .pointer (some ⟨b133, o133 + j * 71, none⟩) | 13 => (r132 13) = .pointer (some ⟨b133, o133 + j * 71, none⟩) | 14 => (r132 14) = .agg ⟨ca133⟩ | 15 => (r132 15) = .int .i64 ((binds ((cases)[j].1) : Int)) | 16 => (r132 16) = .int .i64 (b + ((binds ((cases)[j].1) : Int))) | _ => True) ⟨?_, ?_, ?_, ?_, ?_, ?_, ?_, ?_, ?_, ?_, ?_, ?_, ?_, ?_, ?_, ?_, ?_, trivial⟩ ?_
             ·intro ρ r132 N132 B hB hBa hp hr hr0
              have q4 : ρ 4 = .pointer (some ⟨b1, 0, none⟩) := hr0 4 (by kernel_rfl)
              obtain ⟨ρ134, rfl⟩ := reopen_ex (uc q4 un)
              clear q4
              refine JL_pure (v := .pointer (some ⟨b1, 35, none⟩)) rfl (fa27_4 rfl rfl) ?_
              refine JL_nil ?_
              exact ⟨.pointer (some ⟨b1, 35, none⟩), [], rfl, (Sub.emp Sub.refl), rfl⟩
             ·intro ρ r132 N132 B hB hBa hp hr hr0
              have q189 : ρ 189 = .pointer (some ⟨b1, 35, none⟩) := (hr 0 _ _ (by decide) rfl rfl rfl).trans (hp 0 (by decide) rfl)
              obtain ⟨ρ135, rfl⟩ := reopen_ex (uc q189 un)
              clear q189
              refine JL_run rfl (Pu_load1 ty25 rfl (At.bx 17 (made_old ((hB 0 (by decide)).trans rfl))) (pkT_35 ..) ?_)
              refine JL_nil ?_
              exact ⟨cv, [], rfl, (Sub.emp Sub.refl), rfl⟩
             ·intro ρ r132 N132 B hB hBa hp hr hr0
              have q15 : ρ 15 = .int .i64 ((j : Int)) := hr0 15 (by kernel_rfl)
              obtain ⟨ρ136, rfl⟩ := reopen_ex (uc q15 un)
              clear q15
              refine JL_pure (v := .int .i64 ((j : Int))) rfl (Pu.move rfl) ?_
              refine JL_nil ?_
              exact ⟨.int .i64 ((j : Int)), [], rfl, (Sub.emp Sub.refl), rfl⟩
             ·intro ρ r132 N132 B hB hBa hp hr hr0
              have q190 : ρ 190 = cv := (hr 1 _ _ (by decide) rfl rfl rfl).trans (hp 1 (by decide) rfl)
              have q191 : ρ 191 = .int .i64 ((j : Int)) := (hr 2 _ _ (by decide) rfl rfl rfl).trans (hp 2 (by decide) rfl)
              obtain ⟨ρ137, rfl⟩ := reopen_ex (uc q190 (uc q191 un))
              clear q190 q191
              refine JL_pure (v := .pointer (some ⟨b133, o133 + j * 71, none⟩)) rfl (Pu.idx j Tryz.runUnderlying25 ty34 hv133 rfl rfl (by first | assumption | omega | decide | simp)) ?_
              refine JL_nil ?_
              exact ⟨.pointer (some ⟨b133, o133 + j * 71, none⟩), [], rfl, (Sub.emp Sub.refl), rfl⟩
             ·intro ρ r132 N132 B hB hBa hp hr hr0
              have q192 : ρ 192 = .pointer (some ⟨b133, o133 + j * 71, none⟩) := (hr 3 _ _ (by decide) rfl rfl rfl).trans (hp 3 (by decide) rfl)
              obtain ⟨ρ138, rfl⟩ := reopen_ex (uc q192 un)
              clear q192
              refine JL_pure (v := .pointer (some ⟨b133, o133 + j * 71 + 35, none⟩)) rfl (fa34_1 rfl rfl) ?_
              refine JL_nil ?_
              exact ⟨.pointer (some ⟨b133, o133 + j * 71 + 35, none⟩), [], rfl, (Sub.emp Sub.refl), rfl⟩
             ·intro ρ r132 N132 B hB hBa hp hr hr0
              have q193 : ρ 193 = .pointer (some ⟨b133, o133 + j * 71 + 35, none⟩) := (hr 4 _ _ (by decide) rfl rfl rfl).trans (hp 4 (by decide) rfl)
              obtain ⟨ρ139, rfl⟩ := reopen_ex (uc q193 un)
              clear q193
              refine JL_run rfl (Pu_load ty27 rfl (At.im hb133) (sub_sub hs133 (sub_r (RP_len hA133) (RT_len hB133))) ?_)
              refine JL_nil ?_
              exact ⟨.agg ⟨cb133⟩, [], rfl, (Sub.emp Sub.refl), rfl⟩
             ·intro ρ r132 N132 B hB hBa hp hr hr0
              have q1 : ρ 1 = .int .i64 (d) := hr0 1 (by kernel_rfl)
              obtain ⟨ρ140, rfl⟩ := reopen_ex (uc q1 un)
              clear q1
              refine JL_pure (v := .int .i64 (d)) rfl (Pu.move rfl) ?_
              refine JL_nil ?_
              exact ⟨.int .i64 (d), [], rfl, (Sub.emp Sub.refl), rfl⟩
             ·intro ρ r132 N132 B hB hBa hp hr hr0
              have q2 : ρ 2 = .int .i64 (m) := hr0 2 (by kernel_rfl)
              obtain ⟨ρ141, rfl⟩ := reopen_ex (uc q2 un)
              clear q2
              refine JL_pure (v := .int .i64 (m)) rfl (Pu.move rfl) ?_
              refine JL_nil ?_
              exact ⟨.int .i64 (m), [], rfl, (Sub.emp Sub.refl), rfl⟩
             ·intro ρ r132 N132 B hB hBa hp hr hr0
              have q3 : ρ 3 = .int .i64 (b) := hr0 3 (by kernel_rfl)
              obtain ⟨ρ142, rfl⟩ := reopen_ex (uc q3 un)
              clear q3
              refine JL_pure (v := .int .i64 (b)) rfl (Pu.move rfl) ?_
              refine JL_nil ?_
              exact ⟨.int .i64 (b), [], rfl, (Sub.emp Sub.refl), rfl⟩
             ·intro ρ r132 N132 B hB hBa hp hr hr0
              have q4 : ρ 4 = .pointer (some ⟨b1, 0, none⟩) := hr0 4 (by kernel_rfl)
              obtain ⟨ρ143, rfl⟩ := reopen_ex (uc q4 un)
              clear q4
              refine JL_pure (v := .pointer (some ⟨b1, 35, none⟩)) rfl (fa27_4 rfl rfl) ?_
              refine JL_nil ?_
              exact ⟨.pointer (some ⟨b1, 35, none⟩), [], rfl, (Sub.emp Sub.refl), rfl⟩
             ·intro ρ r132 N132 B hB hBa hp hr hr0
              have q198 : ρ 198 = .pointer (some ⟨b1, 35, none⟩) := (hr 9 _ _ (by decide) rfl rfl rfl).trans (hp 9 (by decide) rfl)
              obtain ⟨ρ144, rfl⟩ := reopen_ex (uc q198 un)
              clear q198
              refine JL_run rfl (Pu_load1 ty25 rfl (At.bx 17 (made_old ((hB 0 (by decide)).trans rfl))) (pkT_35 ..) ?_)
              refine JL_nil ?_
              exact ⟨cv, [], rfl, (Sub.emp Sub.refl), rfl⟩
             ·intro ρ r132 N132 B hB hBa hp hr hr0
              have q15 : ρ 15 = .int .i64 ((j : Int)) := hr0 15 (by kernel_rfl)
              obtain ⟨ρ145, rfl⟩ := reopen_ex (uc q15 un)
              clear q15
              refine JL_pure (v := .int .i64 ((j : Int))) rfl (Pu.move rfl) ?_
              refine JL_nil ?_
              exact ⟨.int .i64 ((j : Int)), [], rfl, (Sub.emp Sub.refl), rfl⟩
             ·intro ρ r132 N132 B hB hBa hp hr hr0
              have q199 : ρ 199 = cv := (hr 10 _ _ (by decide) rfl rfl rfl).trans (hp 10 (by decide) rfl)
              have q200 : ρ 200 = .int .i64 ((j : Int)) := (hr 11 _ _ (by decide) rfl rfl rfl).trans (hp 11 (by decide) rfl)
              obtain ⟨ρ146, rfl⟩ := reopen_ex (uc q199 (uc q200 un))
              clear q199 q200
              refine JL_pure (v := .pointer (some ⟨b133, o133 + j * 71, none⟩)) rfl (Pu.idx j Tryz.runUnderlying25 ty34 hv133 rfl rfl (by first | assumption | omega | decide | simp)) ?_
              refine JL_nil ?_
              exact ⟨.pointer (some ⟨b133, o133 + j * 71, none⟩), [], rfl, (Sub.emp Sub.refl), rfl⟩
             ·intro ρ r132 N132 B hB hBa hp hr hr0
              have q201 : ρ 201 = .pointer (some ⟨b133, o133 + j * 71, none⟩) := (hr 12 _ _ (by decide) rfl rfl rfl).trans (hp 12 (by decide) rfl)
              obtain ⟨ρ147, rfl⟩ := reopen_ex (uc q201 un)
              clear q201
              refine JL_pure (v := .pointer (some ⟨b133, o133 + j * 71, none⟩)) rfl (fa34_0 rfl rfl) ?_
              refine JL_nil ?_
              exact ⟨.pointer (some ⟨b133, o133 + j * 71, none⟩), [], rfl, (Sub.emp Sub.refl), rfl⟩
             ·intro ρ r132 N132 B hB hBa hp hr hr0
              have q202 : ρ 202 = .pointer (some ⟨b133, o133 + j * 71, none⟩) := (hr 13 _ _ (by decide) rfl rfl rfl).trans (hp 13 (by decide) rfl)
              obtain ⟨ρ148, rfl⟩ := reopen_ex (uc q202 un)
              clear q202
              refine JL_run rfl (Pu_load ty30 rfl (At.im hb133) (sub_sub0 hs133 (sub_l (RP_len hA133))) ?_)
              refine JL_nil ?_
              exact ⟨.agg ⟨ca133⟩, [], rfl, (Sub.emp Sub.refl), rfl⟩
             ·intro ρ r132 N132 B hB hBa hp hr hr0
              have q203 : ρ 203 = .agg ⟨ca133⟩ := (hr 14 _ _ (by decide) rfl rfl rfl).trans (hp 14 (by decide) rfl)
              obtain ⟨ρ149, rfl⟩ := reopen_ex (uc q203 un)
              clear q203
              refine JL_call rfl Tryz.call49 rfl (fun hin => bindsR_ct _ _ _ (RP.mono (Hle.hu _ _) hA133) (by omega)) rfl ?_
              rintro _ _ ⟨rfl, rfl⟩
              refine JL_nil ?_
              exact ⟨.int .i64 ((binds ((cases)[j].1) : Int)), [], rfl, (Sub.emp Sub.refl), rfl⟩
             ·intro ρ r132 N132 B hB hBa hp hr hr0
              have q197 : ρ 197 = .int .i64 (b) := (hr 8 _ _ (by decide) rfl rfl rfl).trans (hp 8 (by decide) rfl)
              have q204 : ρ 204 = .int .i64 ((binds ((cases)[j].1) : Int)) := (hr 15 _ _ (by decide) rfl rfl rfl).trans (hp 15 (by decide) rfl)
              obtain ⟨ρ150, rfl⟩ := reopen_ex (uc q197 (uc q204 un))
              clear q197 q204
              refine JL_pure (v := .int .i64 (b + ((binds ((cases)[j].1) : Int)))) rfl (Pu.add64 rfl rfl (by first | omega | (constructor <;> omega))) ?_
              refine JL_nil ?_
              exact ⟨.int .i64 (b + ((binds ((cases)[j].1) : Int))), [], rfl, (Sub.emp Sub.refl), rfl⟩
             ·intro ρ r132 N132 hp hr hr0
              have q1 : ρ 1 = .int .i64 (d) := hr0 1 (by kernel_rfl)
              have q2 : ρ 2 = .int .i64 (m) := hr0 2 (by kernel_rfl)
              have q3 : ρ 3 = .int .i64 (b) := hr0 3 (by kernel_rfl)
              have q4 : ρ 4 = .pointer (some ⟨b1, 0, none⟩) := hr0 4 (by kernel_rfl)
              have q8 : ρ 8 = .int .i64 (0) := hr0 8 (by kernel_rfl)
              have q15 : ρ 15 = .int .i64 ((j : Int)) := hr0 15 (by kernel_rfl)
              have q194 : ρ 194 = .agg ⟨cb133⟩ := (hr 5 _ _ (by decide) rfl rfl).trans (hp 5 (by decide))
              have q195 : ρ 195 = .int .i64 (d) := (hr 6 _ _ (by decide) rfl rfl).trans (hp 6 (by decide))
              have q196 : ρ 196 = .int .i64 (m) := (hr 7 _ _ (by decide) rfl rfl).trans (hp 7 (by decide))
              have q205 : ρ 205 = .int .i64 (b + ((binds ((cases)[j].1) : Int))) := (hr 16 _ _ (by decide) rfl rfl).trans (hp 16 (by decide))
              obtain ⟨ρ151, rfl⟩ := reopen_ex (uc q1 (uc q2 (uc q3 (uc q4 (uc q8 (uc q15 (uc q194 (uc q195 (uc q196 (uc q205 un))))))))))
              clear q1 q2 q3 q4 q8 q15 q194 q195 q196 q205
              clear hp hr hr0 
              refine JL_sub (M' := [(N132 0), (N132 1), (N132 2), (N132 3), (N132 4), (N132 5), (N132 6), (N132 7), (N132 8), (N132 9), (N132 10), (N132 11), (N132 12), (N132 13), (N132 14), (N132 15), (N132 16), [(b1, .cells ⟨pkT (kind) (num) (ref) (ks) (cv)⟩ 27 (0, 0))]]) Sub.refl ?_
              refine JL_sub (M' := [[(b1, .cells ⟨pkT (kind) (num) (ref) (ks) (cv)⟩ 27 (0, 0))]]) (Sd (Sd (Sd (Sd (Sd (Sd (Sd (Sd (Sd (Sd (Sd (Sd (Sd (Sd (Sd (Sd (Sd (Sk Sub.nil)))))))))))))))))) ?_
              show JL _ _ _ [_, _] _ _ _
              refine JL_call rfl Tryz.call57 rfl (fun hin => ih' _ (List.getElem_mem h131n) _ _ _ _ _ (RT.mono (Hle.hu _ _) hB133) (by omega) (by omega)) rfl ?_
              rintro _ _ ⟨rfl, rfl⟩
              refine JL_pure (v := .int .i64 (nErr (d) (m) (b + ((binds ((cases)[j].1) : Int))) ((cases)[j].2))) rfl (Pu.assign rfl) ?_
              refine JL_nil ?_
              refine J_seq ?_
              refine J_region ?_
              refine JL_pure (v := .int .i64 (nErr (d) (m) (b + ((binds ((cases)[j].1) : Int))) ((cases)[j].2))) rfl (Pu.move rfl) ?_
              refine JL_pure (v := .bool (!decide (nErr (d) (m) (b + ((binds ((cases)[j].1) : Int))) ((cases)[j].2) = 0))) rfl (Pu.neq rfl rfl) ?_
              refine JL_nil ?_
              refine J_cond (b := !decide (nErr (d) (m) (b + ((binds ((cases)[j].1) : Int))) ((cases)[j].2) = 0)) rfl (fun h152 => ?_) (fun h152 => ?_)
              ·skip
               replace h152 := nt h152
               replace h152 := df h152
               refine J_seq ?_
               refine J_region ?_
               refine JL_pure (v := .int .i64 (nErr (d) (m) (b + ((binds ((cases)[j].1) : Int))) ((cases)[j].2))) rfl (Pu.move rfl) ?_
               refine JL_pure (v := .int .i64 (nErr (d) (m) (b + ((binds ((cases)[j].1) : Int))) ((cases)[j].2))) rfl (Pu.assign rfl) ?_
               refine JL_nil ?_
               refine J_ret ?_
               refine ⟨.int .i64 (nErr (d) (m) (b + ((binds ((cases)[j].1) : Int))) ((cases)[j].2)), [], Ret.one rfl (RV.tmp rfl), Sub.nil, ?_⟩
               exact ⟨by rw [nErr, if_pos hh, if_pos h1, if_pos h2, ← hinv, dropc h131n, nErrC, if_neg h152], rfl⟩
              ·skip
               replace h152 := nf h152
               replace h152 := dt h152
               refine J_skip ?_
               refine J_region ?_
               refine JL_pure (v := .int .i64 ((j : Int))) rfl (Pu.move rfl) ?_
               refine JL_pure (v := .int .i64 (((j + 1 : Nat) : Int))) rfl (Pu.inc rfl rfl (by omega)) ?_
               refine JL_pure (v := .int .i64 (((j + 1 : Nat) : Int))) rfl (Pu.assign rfl) ?_
               refine JL_nil ?_
               refine ⟨_, ?_, (j + 1), rfl, rfl, rfl, rfl, rfl, rfl, (Sk Sub.nil), ?_, ?_, ?_, rfl⟩
               ·omega
               ·omega
               ·assumption
               ·rw [dropc h131n, nErrC, if_pos h152] at hinv; exact hinv
            ·skip
             replace h131 := df h131
             have h131n : (cases).length ≤ j := by omega
             refine J_exit _ rfl ?_
             refine J_seq ?_
             refine J_region ?_
             refine JL_pure (v := .int .i64 (0)) rfl (Pu.assign rfl) ?_
             refine JL_nil ?_
             refine J_ret ?_
             refine ⟨.int .i64 (0), [], Ret.one rfl (RV.tmp rfl), Sub.nil, ?_⟩
             exact ⟨by rw [nErr, if_pos hh, if_pos h1, if_pos h2, ← hinv, dropn h131n]; rfl, rfl⟩
end Go.Proofs.YtdeinimmmjichaaGreat.Hs
/-! Walks, printed by a program of this session's own (gen.py). -/
namespace Go.Proofs.YtdeinimmmjichaaGreat.Hs
open Go Go.Proofs
set_option maxRecDepth 100000
set_option linter.unusedVariables false
set_option linter.unusedSimpArgs false
attribute [local irreducible] JL J CT wlo
theorem patternSize_ct : ∀ (p : Pt) (m : Int) (cs : List Value) (H : Heap), RP H cs p → sizeP p ≤ 1000000000 → sizeP p ≤ m + 2000000000 → m ≤ 2000000000 → CT Tryz.prog 47 ⟨[.agg ⟨cs⟩, .int .i64 m]⟩ [] H (fun v N => v = .tuple ⟨[.int .i64 (extP m p).1, .int .i64 (extP m p).2]⟩ ∧ N = []) := by
 intro p
 induction p using Pt.ind with
 | h kind num ref kids ih =>
 intro m cs H hp hz1 hz2 hz3
 obtain ⟨ks, rfl, hk, hn, hks⟩ := RP_mk.1 hp
 rw [sizeP] at hz1 hz2
 refine CT_enter Tryz.func47 rfl rfl ?_
 refine J_seq ?_
 refine J_region ?_
 refine JL_run rfl (Runs_box (l := pkP (kind) (num) (ref) (ks)) rfl rfl fun b1 => ?_)
 refine JL_pure (v := .int .i64 (0)) rfl (Pu.assign rfl) ?_
 refine JL_pure (v := .int .i64 (0)) rfl (Pu.assign rfl) ?_
 refine JL_nil ?_
 refine J_seq ?_
 refine J_region ?_
 refine JL_pure (v := .int .i64 (1)) rfl (Pu.assign rfl) ?_
 refine JL_pure (v := .int .i64 (0)) rfl (Pu.assign rfl) ?_
 refine JL_nil ?_
 refine J_seq ?_
 refine J_seq ?_
 refine J_region ?_
 refine JL_pure (v := .int .i64 (0)) rfl (Pu.assign rfl) ?_
 refine JL_nil ?_
 refine J_block ?_
 refine J_loop (fun k ρ M => ∃ (j : Nat) (n d : Int), ρ 1 = .int .i64 (m) ∧ ρ 2 = .pointer (some ⟨b1, 0, none⟩) ∧ ρ 4 = .int .i64 (0) ∧ ρ 5 = .int .i64 (0) ∧ ρ 6 = .int .i64 (n) ∧ ρ 7 = .int .i64 (d) ∧ ρ 8 = .int .i64 ((j : Int)) ∧ Sub [[(b1, .cells ⟨pkP (kind) (num) (ref) (ks)⟩ 30 (0, 0))]] M ∧ j ≤ (kids).length ∧ extPs m (kids.drop j) n d = extPs m kids 1 0 ∧ 0 ≤ d ∧ d < n ∧ n + sizePs (kids.drop j) ≤ 1 + sizePs kids ∧ k = (kids).length - j) _ ⟨0, 1, 0, rfl, rfl, rfl, rfl, rfl, rfl, rfl, (Sk Sub.nil), Nat.zero_le _, rfl, (by omega), (by omega), (by simp), rfl⟩ ?_
 rintro _ ρ2 _ ⟨j, n, d, e3, e4, e5, e6, e7, e8, e9, hm10, hj, hinv, hd0, hdn, hnn, rfl⟩
 obtain ⟨ρ11, rfl⟩ := reopen_ex (uc e3 (uc e4 (uc e5 (uc e6 (uc e7 (uc e8 (uc e9 un)))))))
 clear e3 e4 e5 e6 e7 e8 e9
 refine J_sub hm10 ?_
 have hlen := hks.le
 refine J_seq ?_
 refine J_cut (fun ρ M => ρ 1 = .int .i64 (m) ∧ ρ 2 = .pointer (some ⟨b1, 0, none⟩) ∧ ρ 4 = .int .i64 (0) ∧ ρ 5 = .int .i64 (0) ∧ ρ 6 = .int .i64 (n) ∧ ρ 7 = .int .i64 (d) ∧ ρ 8 = .int .i64 ((j : Int)) ∧ ρ 20 = .bool ((decide ((j : Int) < ((kids).length : Int))) && (decide (n ≤ m))) ∧ M = [[(b1, .cells ⟨pkP (kind) (num) (ref) (ks)⟩ 30 (0, 0))]]) ?_ ?_
 ·refine J_region ?_
  refine JL_pure (v := .int .i64 ((j : Int))) rfl (Pu.move rfl) ?_
  refine JL_pure (v := .pointer (some ⟨b1, 34, none⟩)) rfl (fa30_3 rfl rfl) ?_
  refine JL_run rfl (Pu_load1 ty28 rfl (At.bx 0 rfl) (pkP_34 ..) ?_)
  obtain ⟨a12, cap12, hv12⟩ := hks.sl
  have hle12 := hks.le
  refine JL_pure (v := .int .i64 (((kids).length : Int))) rfl (Pu.lenSl Tryz.runUnderlying28 hv12) ?_
  refine JL_pure (v := .bool (decide ((j : Int) < ((kids).length : Int)))) rfl (Pu.lss rfl rfl) ?_
  refine JL_pure (v := .bool (decide ((j : Int) < ((kids).length : Int)))) rfl (Pu.move rfl) ?_
  cases h13 : (decide ((j : Int) < ((kids).length : Int))) with
  | true =>
   replace h13 := dt h13
   have h13n : j < (kids).length := by omega
   have hs1 := sizePs_mem _ (List.getElem_mem h13n)
   have hs2 : sizePs (kids.drop j) = sizeP kids[j] + sizePs (kids.drop (j + 1)) := by rw [dropc h13n, sizePs]
   have hs3 := extP_le kids[j] (m - 1)
   refine JL_pure (v := .int .i64 (n)) rfl (Pu.move rfl) ?_
   refine JL_pure (v := .int .i64 (m)) rfl (Pu.move rfl) ?_
   refine JL_pure (v := .bool (decide (n ≤ m))) rfl (Pu.leq rfl rfl) ?_
   refine JL_pure (v := .bool (decide (n ≤ m))) rfl (Pu.pickT rfl rfl) ?_
   refine JL_nil ?_
   first | exact ⟨rfl, rfl, rfl, rfl, rfl, rfl, rfl, rfl, rfl⟩ | (exfalso; omega)
  | false =>
   replace h13 := df h13
   have h13n : (kids).length ≤ j := by omega
   refine JL_skip rfl ?_
   refine JL_skip rfl ?_
   refine JL_skip rfl ?_
   refine JL_pure (v := .bool (false)) rfl (Pu.pickF rfl rfl) ?_
   refine JL_nil ?_
   first | exact ⟨rfl, rfl, rfl, rfl, rfl, rfl, rfl, rfl, rfl⟩ | (exfalso; omega)
 ·rintro ρ14 _ ⟨e15, e16, e17, e18, e19, e20, e21, e22, rfl⟩
  obtain ⟨ρ23, rfl⟩ := reopen_ex (uc e15 (uc e16 (uc e17 (uc e18 (uc e19 (uc e20 (uc e21 (uc e22 un))))))))
  clear e15 e16 e17 e18 e19 e20 e21 e22
  refine J_cond (b := (decide ((j : Int) < ((kids).length : Int))) && (decide (n ≤ m))) rfl (fun h24 => ?_) (fun h24 => ?_)
  ·skip
   obtain ⟨h24a, h24b⟩ := andT h24
   replace h24a := dt h24a
   have h24an : j < (kids).length := by omega
   have hs1 := sizePs_mem _ (List.getElem_mem h24an)
   have hs2 : sizePs (kids.drop j) = sizeP kids[j] + sizePs (kids.drop (j + 1)) := by rw [dropc h24an, sizePs]
   have hs3 := extP_le kids[j] (m - 1)
   replace h24b := dt h24b
   refine J_skip ?_
   refine J_seq ?_
   refine J_block ?_
   refine J_seq ?_
   refine J_region ?_
   refine JL_pure (v := .pointer (some ⟨b1, 34, none⟩)) rfl (fa30_3 rfl rfl) ?_
   refine JL_run rfl (Pu_load1 ty28 rfl (At.bx 0 rfl) (pkP_34 ..) ?_)
   refine JL_pure (v := .int .i64 ((j : Int))) rfl (Pu.move rfl) ?_
   obtain ⟨b25, o25, cap25, row25, T25, fr25, cs25, hv25, hb25, hs25, hE25⟩ := hks.get j (by first | assumption | omega | decide | simp)
   refine JL_pure (v := .pointer (some ⟨b25, o25 + j * 35, none⟩)) rfl (Pu.idx j Tryz.runUnderlying28 ty30 hv25 rfl rfl (by first | assumption | omega | decide | simp)) ?_
   refine JL_run rfl (Pu_load ty30 rfl (At.im hb25) hs25 ?_)
   refine JL_pure (v := .int .i64 (m)) rfl (Pu.move rfl) ?_
   refine JL_pure (v := .int .i64 (m - 1)) rfl (Pu.sub64 rfl rfl (by first | omega | (constructor <;> omega))) ?_
   refine JL_call rfl Tryz.call47 rfl (fun hin => ih _ (List.getElem_mem h24an) _ _ _ (RP.mono (Hle.hu _ _) hE25) (by omega) (by omega) (by omega)) rfl ?_
   rintro _ _ ⟨rfl, rfl⟩
   refine JL_pure (v := .tuple ⟨[.int .i64 ((extP (m - 1) ((kids)[j])).1), .int .i64 ((extP (m - 1) ((kids)[j])).2)]⟩) rfl (Pu.move rfl) ?_
   refine JL_pure (v := .int .i64 ((extP (m - 1) ((kids)[j])).1)) rfl (Pu.extract rfl rfl) ?_
   refine JL_pure (v := .int .i64 ((extP (m - 1) ((kids)[j])).2)) rfl (Pu.extract rfl rfl) ?_
   refine JL_pure (v := .int .i64 ((extP (m - 1) ((kids)[j])).1)) rfl (Pu.assign rfl) ?_
   refine JL_pure (v := .int .i64 ((extP (m - 1) ((kids)[j])).2)) rfl (Pu.assign rfl) ?_
   refine JL_nil ?_
   refine J_region ?_
   refine JL_pure (v := .int .i64 (n)) rfl (Pu.move rfl) ?_
   refine JL_pure (v := .int .i64 ((extP (m - 1) ((kids)[j])).1)) rfl (Pu.move rfl) ?_
   refine JL_pure (v := .int .i64 (n + ((extP (m - 1) ((kids)[j])).1))) rfl (Pu.add64 rfl rfl (by first | omega | (constructor <;> omega))) ?_
   refine JL_pure (v := .int .i64 (d)) rfl (Pu.move rfl) ?_
   refine JL_pure (v := .int .i64 ((extP (m - 1) ((kids)[j])).2)) rfl (Pu.move rfl) ?_
   refine JL_pure (v := .int .i64 (max (d) ((extP (m - 1) ((kids)[j])).2))) rfl (Pu.max2 rfl rfl) ?_
   refine JL_pure (v := .int .i64 (n + ((extP (m - 1) ((kids)[j])).1))) rfl (Pu.assign rfl) ?_
   refine JL_pure (v := .int .i64 (max (d) ((extP (m - 1) ((kids)[j])).2))) rfl (Pu.assign rfl) ?_
   refine JL_nil ?_
   refine J_region ?_
   refine JL_pure (v := .int .i64 ((j : Int))) rfl (Pu.move rfl) ?_
   refine JL_pure (v := .int .i64 (((j + 1 : Nat) : Int))) rfl (Pu.inc rfl rfl (by omega)) ?_
   refine JL_pure (v := .int .i64 (((j + 1 : Nat) : Int))) rfl (Pu.assign rfl) ?_
   refine JL_nil ?_
   refine ⟨_, ?_, (j + 1), (n + ((extP (m - 1) ((kids)[j])).1)), (max (d) ((extP (m - 1) ((kids)[j])).2)), rfl, rfl, rfl, rfl, rfl, rfl, rfl, (Sk Sub.nil), ?_, ?_, ?_, ?_, ?_, rfl⟩
   ·omega
   ·omega
   ·rw [dropc h24an, extPs, if_pos (by omega)] at hinv; exact hinv
   ·omega
   ·omega
   ·omega
  ·skip
   refine J_exit _ rfl ?_
   refine J_seq ?_
   refine J_region ?_
   refine JL_pure (v := .int .i64 (n)) rfl (Pu.move rfl) ?_
   refine JL_pure (v := .int .i64 (d)) rfl (Pu.move rfl) ?_
   refine JL_pure (v := .int .i64 (d + 1)) rfl (Pu.add64 rfl rfl (by first | omega | (constructor <;> omega))) ?_
   refine JL_pure (v := .int .i64 (n)) rfl (Pu.assign rfl) ?_
   refine JL_pure (v := .int .i64 (d + 1)) rfl (Pu.assign rfl) ?_
   refine JL_nil ?_
   refine J_ret ?_
   refine ⟨.tuple ⟨[.int .i64 (n), .int .i64 (d + 1)]⟩, [], Ret.two rfl (RV.tmp rfl) (RV.tmp rfl), Sub.nil, ?_⟩
   have hf : ¬ ((j : Int) < (kids.length : Int) ∧ n ≤ m) := by
    intro ⟨hx1, hx2⟩
    have := h24
    simp [hx1, hx2] at this
    try omega
   have hr : extPs m kids 1 0 = (n, d) := by
    rw [← hinv]; rcases Nat.lt_or_ge j kids.length with hl | hl
    ·have hnm : ¬ n ≤ m := fun hle => hf ⟨by omega, hle⟩
     rw [dropc hl, extPs, if_neg hnm]
    ·rw [dropn hl, extPs]
   exact ⟨by rw [extP, hr], rfl⟩
theorem extent_ct : ∀ (t : Tm) (m : Int) (cs : List Value) (H : Heap), RT H cs t → sizeT t ≤ 1000000000 → sizeT t ≤ m + 2000000000 → m ≤ 2000000000 → CT Tryz.prog 13 ⟨[.agg ⟨cs⟩, .int .i64 m]⟩ [] H (fun v N => v = .tuple ⟨[.int .i64 (extT m t).1, .int .i64 (extT m t).2]⟩ ∧ N = []) := by
 intro t
 induction t using Tm.ind with
 | h kind num ref kids cases ih ih' =>
 intro m cs H ht hz1 hz2 hz3
 obtain ⟨ks, cv, rfl, hk, hn, hks, hcv⟩ := RT_mk.1 ht
 rw [sizeT] at hz1 hz2
 refine CT_enter Tryz.func13 rfl rfl ?_
 refine J_seq ?_
 refine J_region ?_
 refine JL_run rfl (Runs_box (l := pkT (kind) (num) (ref) (ks) (cv)) rfl rfl fun b1 => ?_)
 refine JL_pure (v := .int .i64 (0)) rfl (Pu.assign rfl) ?_
 refine JL_pure (v := .int .i64 (0)) rfl (Pu.assign rfl) ?_
 refine JL_nil ?_
 refine J_seq ?_
 refine J_region ?_
 refine JL_pure (v := .int .i64 (1)) rfl (Pu.assign rfl) ?_
 refine JL_pure (v := .int .i64 (0)) rfl (Pu.assign rfl) ?_
 refine JL_nil ?_
 refine J_seq ?_
 refine J_seq ?_
 refine J_region ?_
 refine JL_pure (v := .int .i64 (0)) rfl (Pu.assign rfl) ?_
 refine JL_nil ?_
 refine J_block ?_
 refine J_loop (fun k ρ M => ∃ (j : Nat) (n d : Int), ρ 1 = .int .i64 (m) ∧ ρ 2 = .pointer (some ⟨b1, 0, none⟩) ∧ ρ 4 = .int .i64 (0) ∧ ρ 5 = .int .i64 (0) ∧ ρ 6 = .int .i64 (n) ∧ ρ 7 = .int .i64 (d) ∧ ρ 8 = .int .i64 ((j : Int)) ∧ Sub [[(b1, .cells ⟨pkT (kind) (num) (ref) (ks) (cv)⟩ 27 (0, 0))]] M ∧ j ≤ (kids).length ∧ extTs m (kids.drop j) n d = extTs m kids 1 0 ∧ 0 ≤ d ∧ d < n ∧ n + sizeTs (kids.drop j) ≤ 1 + sizeTs kids ∧ k = (kids).length - j) _ ⟨0, 1, 0, rfl, rfl, rfl, rfl, rfl, rfl, rfl, (Sk Sub.nil), Nat.zero_le _, rfl, (by omega), (by omega), (by simp), rfl⟩ ?_
 rintro _ ρ2 _ ⟨j, n, d, e3, e4, e5, e6, e7, e8, e9, hm10, hj, hinv, hd0, hdn, hnn, rfl⟩
 obtain ⟨ρ11, rfl⟩ := reopen_ex (uc e3 (uc e4 (uc e5 (uc e6 (uc e7 (uc e8 (uc e9 un)))))))
 clear e3 e4 e5 e6 e7 e8 e9
 refine J_sub hm10 ?_
 have hlen := hks.le
 refine J_seq ?_
 refine J_cut (fun ρ M => ρ 1 = .int .i64 (m) ∧ ρ 2 = .pointer (some ⟨b1, 0, none⟩) ∧ ρ 4 = .int .i64 (0) ∧ ρ 5 = .int .i64 (0) ∧ ρ 6 = .int .i64 (n) ∧ ρ 7 = .int .i64 (d) ∧ ρ 8 = .int .i64 ((j : Int)) ∧ ρ 25 = .bool ((decide ((j : Int) < ((kids).length : Int))) && (decide (n ≤ m))) ∧ M = [[(b1, .cells ⟨pkT (kind) (num) (ref) (ks) (cv)⟩ 27 (0, 0))]]) ?_ ?_
 ·refine J_region ?_
  refine JL_pure (v := .int .i64 ((j : Int))) rfl (Pu.move rfl) ?_
  refine JL_pure (v := .pointer (some ⟨b1, 34, none⟩)) rfl (fa27_3 rfl rfl) ?_
  refine JL_run rfl (Pu_load1 ty24 rfl (At.bx 0 rfl) (pkT_34 ..) ?_)
  obtain ⟨a12, cap12, hv12⟩ := hks.sl
  have hle12 := hks.le
  refine JL_pure (v := .int .i64 (((kids).length : Int))) rfl (Pu.lenSl Tryz.runUnderlying24 hv12) ?_
  refine JL_pure (v := .bool (decide ((j : Int) < ((kids).length : Int)))) rfl (Pu.lss rfl rfl) ?_
  refine JL_pure (v := .bool (decide ((j : Int) < ((kids).length : Int)))) rfl (Pu.move rfl) ?_
  cases h13 : (decide ((j : Int) < ((kids).length : Int))) with
  | true =>
   replace h13 := dt h13
   have h13n : j < (kids).length := by omega
   have hs1 := sizeTs_mem _ (List.getElem_mem h13n)
   have hs2 : sizeTs (kids.drop j) = sizeT kids[j] + sizeTs (kids.drop (j + 1)) := by rw [dropc h13n, sizeTs]
   have hs3 := extT_le kids[j] (m - 1)
   refine JL_pure (v := .int .i64 (n)) rfl (Pu.move rfl) ?_
   refine JL_pure (v := .int .i64 (m)) rfl (Pu.move rfl) ?_
   refine JL_pure (v := .bool (decide (n ≤ m))) rfl (Pu.leq rfl rfl) ?_
   refine JL_pure (v := .bool (decide (n ≤ m))) rfl (Pu.pickT rfl rfl) ?_
   refine JL_nil ?_
   first | exact ⟨rfl, rfl, rfl, rfl, rfl, rfl, rfl, rfl, rfl⟩ | (exfalso; omega)
  | false =>
   replace h13 := df h13
   have h13n : (kids).length ≤ j := by omega
   refine JL_skip rfl ?_
   refine JL_skip rfl ?_
   refine JL_skip rfl ?_
   refine JL_pure (v := .bool (false)) rfl (Pu.pickF rfl rfl) ?_
   refine JL_nil ?_
   first | exact ⟨rfl, rfl, rfl, rfl, rfl, rfl, rfl, rfl, rfl⟩ | (exfalso; omega)
 ·rintro ρ14 _ ⟨e15, e16, e17, e18, e19, e20, e21, e22, rfl⟩
  obtain ⟨ρ23, rfl⟩ := reopen_ex (uc e15 (uc e16 (uc e17 (uc e18 (uc e19 (uc e20 (uc e21 (uc e22 un))))))))
  clear e15 e16 e17 e18 e19 e20 e21 e22
  refine J_cond (b := (decide ((j : Int) < ((kids).length : Int))) && (decide (n ≤ m))) rfl (fun h24 => ?_) (fun h24 => ?_)
  ·skip
   obtain ⟨h24a, h24b⟩ := andT h24
   replace h24a := dt h24a
   have h24an : j < (kids).length := by omega
   have hs1 := sizeTs_mem _ (List.getElem_mem h24an)
   have hs2 : sizeTs (kids.drop j) = sizeT kids[j] + sizeTs (kids.drop (j + 1)) := by rw [dropc h24an, sizeTs]
   have hs3 := extT_le kids[j] (m - 1)
   replace h24b := dt h24b
   refine J_skip ?_
   refine J_seq ?_
   refine J_block ?_
   refine J_seq ?_
   refine J_region ?_
   refine JL_pure (v := .pointer (some ⟨b1, 34, none⟩)) rfl (fa27_3 rfl rfl) ?_
   refine JL_run rfl (Pu_load1 ty24 rfl (At.bx 0 rfl) (pkT_34 ..) ?_)
   refine JL_pure (v := .int .i64 ((j : Int))) rfl (Pu.move rfl) ?_
   obtain ⟨b25, o25, cap25, row25, T25, fr25, cs25, hv25, hb25, hs25, hE25⟩ := hks.get j (by first | assumption | omega | decide | simp)
   refine JL_pure (v := .pointer (some ⟨b25, o25 + j * 36, none⟩)) rfl (Pu.idx j Tryz.runUnderlying24 ty27 hv25 rfl rfl (by first | assumption | omega | decide | simp)) ?_
   refine JL_run rfl (Pu_load ty27 rfl (At.im hb25) hs25 ?_)
   refine JL_pure (v := .int .i64 (m)) rfl (Pu.move rfl) ?_
   refine JL_pure (v := .int .i64 (m - 1)) rfl (Pu.sub64 rfl rfl (by first | omega | (constructor <;> omega))) ?_
   refine JL_call rfl Tryz.call13 rfl (fun hin => ih _ (List.getElem_mem h24an) _ _ _ (RT.mono (Hle.hu _ _) hE25) (by omega) (by omega) (by omega)) rfl ?_
   rintro _ _ ⟨rfl, rfl⟩
   refine JL_pure (v := .tuple ⟨[.int .i64 ((extT (m - 1) ((kids)[j])).1), .int .i64 ((extT (m - 1) ((kids)[j])).2)]⟩) rfl (Pu.move rfl) ?_
   refine JL_pure (v := .int .i64 ((extT (m - 1) ((kids)[j])).1)) rfl (Pu.extract rfl rfl) ?_
   refine JL_pure (v := .int .i64 ((extT (m - 1) ((kids)[j])).2)) rfl (Pu.extract rfl rfl) ?_
   refine JL_pure (v := .int .i64 ((extT (m - 1) ((kids)[j])).1)) rfl (Pu.assign rfl) ?_
   refine JL_pure (v := .int .i64 ((extT (m - 1) ((kids)[j])).2)) rfl (Pu.assign rfl) ?_
   refine JL_nil ?_
   refine J_region ?_
   refine JL_pure (v := .int .i64 (n)) rfl (Pu.move rfl) ?_
   refine JL_pure (v := .int .i64 ((extT (m - 1) ((kids)[j])).1)) rfl (Pu.move rfl) ?_
   refine JL_pure (v := .int .i64 (n + ((extT (m - 1) ((kids)[j])).1))) rfl (Pu.add64 rfl rfl (by first | omega | (constructor <;> omega))) ?_
   refine JL_pure (v := .int .i64 (d)) rfl (Pu.move rfl) ?_
   refine JL_pure (v := .int .i64 ((extT (m - 1) ((kids)[j])).2)) rfl (Pu.move rfl) ?_
   refine JL_pure (v := .int .i64 (max (d) ((extT (m - 1) ((kids)[j])).2))) rfl (Pu.max2 rfl rfl) ?_
   refine JL_pure (v := .int .i64 (n + ((extT (m - 1) ((kids)[j])).1))) rfl (Pu.assign rfl) ?_
   refine JL_pure (v := .int .i64 (max (d) ((extT (m - 1) ((kids)[j])).2))) rfl (Pu.assign rfl) ?_
   refine JL_nil ?_
   refine J_region ?_
   refine JL_pure (v := .int .i64 ((j : Int))) rfl (Pu.move rfl) ?_
   refine JL_pure (v := .int .i64 (((j + 1 : Nat) : Int))) rfl (Pu.inc rfl rfl (by omega)) ?_
   refine JL_pure (v := .int .i64 (((j + 1 : Nat) : Int))) rfl (Pu.assign rfl) ?_
   refine JL_nil ?_
   refine ⟨_, ?_, (j + 1), (n + ((extT (m - 1) ((kids)[j])).1)), (max (d) ((extT (m - 1) ((kids)[j])).2)), rfl, rfl, rfl, rfl, rfl, rfl, rfl, (Sk Sub.nil), ?_, ?_, ?_, ?_, ?_, rfl⟩
   ·omega
   ·omega
   ·rw [dropc h24an, extTs, if_pos (by omega)] at hinv; exact hinv
   ·omega
   ·omega
   ·omega
  ·skip
   refine J_exit _ rfl ?_
   refine J_seq ?_
   refine J_seq ?_
   refine J_region ?_
   refine JL_pure (v := .int .i64 (0)) rfl (Pu.assign rfl) ?_
   refine JL_nil ?_
   refine J_block ?_
   have hf : ¬ ((j : Int) < (kids.length : Int) ∧ n ≤ m) := by
    intro ⟨hx1, hx2⟩
    have := h24
    simp [hx1, hx2] at this
    try omega
   have hr : extTs m kids 1 0 = (n, d) := by
    rw [← hinv]; rcases Nat.lt_or_ge j kids.length with hl | hl
    ·have hnm : ¬ n ≤ m := fun hle => hf ⟨by omega, hle⟩
     rw [dropc hl, extTs, if_neg hnm]
    ·rw [dropn hl, extTs]
   refine J_loop (fun k ρ M => ∃ (j : Nat) (n d : Int), ρ 1 = .int .i64 (m) ∧ ρ 2 = .pointer (some ⟨b1, 0, none⟩) ∧ ρ 4 = .int .i64 (0) ∧ ρ 5 = .int .i64 (0) ∧ ρ 6 = .int .i64 (n) ∧ ρ 7 = .int .i64 (d) ∧ ρ 11 = .int .i64 ((j : Int)) ∧ Sub [[(b1, .cells ⟨pkT (kind) (num) (ref) (ks) (cv)⟩ 27 (0, 0))]] M ∧ j ≤ (cases).length ∧ extCs m (cases.drop j) n d = extCs m cases (extTs m kids 1 0).1 (extTs m kids 1 0).2 ∧ 0 ≤ d ∧ d < n ∧ n + sizeCs (cases.drop j) ≤ 1 + sizeTs kids + sizeCs cases ∧ k = (cases).length - j) _ ⟨0, n, d, rfl, rfl, rfl, rfl, rfl, rfl, rfl, (Sk Sub.nil), Nat.zero_le _, (by rw [hr]; rfl), (by omega), (by omega), (by simp only [List.drop_zero]; omega), rfl⟩ ?_
   rintro _ ρ26 _ ⟨j, n, d, e27, e28, e29, e30, e31, e32, e33, hm34, hj, hinv, hd0, hdn, hnn, rfl⟩
   obtain ⟨ρ35, rfl⟩ := reopen_ex (uc e27 (uc e28 (uc e29 (uc e30 (uc e31 (uc e32 (uc e33 un)))))))
   clear e27 e28 e29 e30 e31 e32 e33
   refine J_sub hm34 ?_
   have hlen := hcv.le
   refine J_seq ?_
   refine J_cut (fun ρ M => ρ 1 = .int .i64 (m) ∧ ρ 2 = .pointer (some ⟨b1, 0, none⟩) ∧ ρ 4 = .int .i64 (0) ∧ ρ 5 = .int .i64 (0) ∧ ρ 6 = .int .i64 (n) ∧ ρ 7 = .int .i64 (d) ∧ ρ 11 = .int .i64 ((j : Int)) ∧ ρ 54 = .bool ((decide ((j : Int) < ((cases).length : Int))) && (decide (n ≤ m))) ∧ M = [[(b1, .cells ⟨pkT (kind) (num) (ref) (ks) (cv)⟩ 27 (0, 0))]]) ?_ ?_
   ·refine J_region ?_
    refine JL_pure (v := .int .i64 ((j : Int))) rfl (Pu.move rfl) ?_
    refine JL_pure (v := .pointer (some ⟨b1, 35, none⟩)) rfl (fa27_4 rfl rfl) ?_
    refine JL_run rfl (Pu_load1 ty25 rfl (At.bx 0 rfl) (pkT_35 ..) ?_)
    obtain ⟨a36, cap36, hv36⟩ := hcv.sl
    have hle36 := hcv.le
    refine JL_pure (v := .int .i64 (((cases).length : Int))) rfl (Pu.lenSl Tryz.runUnderlying25 hv36) ?_
    refine JL_pure (v := .bool (decide ((j : Int) < ((cases).length : Int)))) rfl (Pu.lss rfl rfl) ?_
    refine JL_pure (v := .bool (decide ((j : Int) < ((cases).length : Int)))) rfl (Pu.move rfl) ?_
    cases h37 : (decide ((j : Int) < ((cases).length : Int))) with
    | true =>
     replace h37 := dt h37
     have h37n : j < (cases).length := by omega
     have hs1 := sizeCs_mem _ (List.getElem_mem h37n)
     have hs2 : sizeCs (cases.drop j) = sizeP cases[j].1 + sizeT cases[j].2 + sizeCs (cases.drop (j + 1)) := by rw [dropc h37n, sizeCs]
     have hs3 := extT_le cases[j].2 (m - 1)
     have hs4 := extP_le cases[j].1 (m - 1)
     refine JL_pure (v := .int .i64 (n)) rfl (Pu.move rfl) ?_
     refine JL_pure (v := .int .i64 (m)) rfl (Pu.move rfl) ?_
     refine JL_pure (v := .bool (decide (n ≤ m))) rfl (Pu.leq rfl rfl) ?_
     refine JL_pure (v := .bool (decide (n ≤ m))) rfl (Pu.pickT rfl rfl) ?_
     refine JL_nil ?_
     first | exact ⟨rfl, rfl, rfl, rfl, rfl, rfl, rfl, rfl, rfl⟩ | (exfalso; omega)
    | false =>
     replace h37 := df h37
     have h37n : (cases).length ≤ j := by omega
     refine JL_skip rfl ?_
     refine JL_skip rfl ?_
     refine JL_skip rfl ?_
     refine JL_pure (v := .bool (false)) rfl (Pu.pickF rfl rfl) ?_
     refine JL_nil ?_
     first | exact ⟨rfl, rfl, rfl, rfl, rfl, rfl, rfl, rfl, rfl⟩ | (exfalso; omega)
   ·rintro ρ38 _ ⟨e39, e40, e41, e42, e43, e44, e45, e46, rfl⟩
    obtain ⟨ρ47, rfl⟩ := reopen_ex (uc e39 (uc e40 (uc e41 (uc e42 (uc e43 (uc e44 (uc e45 (uc e46 un))))))))
    clear e39 e40 e41 e42 e43 e44 e45 e46
    refine J_cond (b := (decide ((j : Int) < ((cases).length : Int))) && (decide (n ≤ m))) rfl (fun h48 => ?_) (fun h48 => ?_)
    ·skip
     obtain ⟨h48a, h48b⟩ := andT h48
     replace h48a := dt h48a
     have h48an : j < (cases).length := by omega
     have hs1 := sizeCs_mem _ (List.getElem_mem h48an)
     have hs2 : sizeCs (cases.drop j) = sizeP cases[j].1 + sizeT cases[j].2 + sizeCs (cases.drop (j + 1)) := by rw [dropc h48an, sizeCs]
     have hs3 := extT_le cases[j].2 (m - 1)
     have hs4 := extP_le cases[j].1 (m - 1)
     replace h48b := dt h48b
     refine J_skip ?_
     refine J_seq ?_
     refine J_block ?_
     refine J_seq ?_
     refine J_region ?_
     refine JL_pure (v := .pointer (some ⟨b1, 35, none⟩)) rfl (fa27_4 rfl rfl) ?_
     refine JL_run rfl (Pu_load1 ty25 rfl (At.bx 0 rfl) (pkT_35 ..) ?_)
     refine JL_pure (v := .int .i64 ((j : Int))) rfl (Pu.move rfl) ?_
     obtain ⟨b49, o49, cap49, row49, T49, fr49, cs49, hv49, hb49, hs49, hE49⟩ := hcv.get j (by first | assumption | omega | decide | simp)
     obtain ⟨ca49, cb49, rfl, hA49, hB49⟩ := hE49
     refine JL_pure (v := .pointer (some ⟨b49, o49 + j * 71, none⟩)) rfl (Pu.idx j Tryz.runUnderlying25 ty34 hv49 rfl rfl (by first | assumption | omega | decide | simp)) ?_
     refine JL_pure (v := .pointer (some ⟨b49, o49 + j * 71, none⟩)) rfl (fa34_0 rfl rfl) ?_
     refine JL_run rfl (Pu_load ty30 rfl (At.im hb49) (sub_sub0 hs49 (sub_l (RP_len hA49))) ?_)
     refine JL_pure (v := .int .i64 (m)) rfl (Pu.move rfl) ?_
     refine JL_pure (v := .int .i64 (m - 1)) rfl (Pu.sub64 rfl rfl (by first | omega | (constructor <;> omega))) ?_
     refine JL_call rfl Tryz.call47 rfl (fun hin => patternSize_ct _ _ _ _ (RP.mono (Hle.hu _ _) hA49) (by omega) (by omega) (by omega)) rfl ?_
     rintro _ _ ⟨rfl, rfl⟩
     refine JL_pure (v := .tuple ⟨[.int .i64 ((extP (m - 1) ((cases)[j].1)).1), .int .i64 ((extP (m - 1) ((cases)[j].1)).2)]⟩) rfl (Pu.move rfl) ?_
     refine JL_pure (v := .int .i64 ((extP (m - 1) ((cases)[j].1)).1)) rfl (Pu.extract rfl rfl) ?_
     refine JL_pure (v := .int .i64 ((extP (m - 1) ((cases)[j].1)).2)) rfl (Pu.extract rfl rfl) ?_
     refine JL_pure (v := .int .i64 ((extP (m - 1) ((cases)[j].1)).1)) rfl (Pu.assign rfl) ?_
     refine JL_pure (v := .int .i64 ((extP (m - 1) ((cases)[j].1)).2)) rfl (Pu.assign rfl) ?_
     refine JL_nil ?_
     refine J_seq ?_
     refine J_region ?_
     refine JL_pure (v := .pointer (some ⟨b1, 35, none⟩)) rfl (fa27_4 rfl rfl) ?_
     refine JL_run rfl (Pu_load1 ty25 rfl (At.bx 0 rfl) (pkT_35 ..) ?_)
     refine JL_pure (v := .int .i64 ((j : Int))) rfl (Pu.move rfl) ?_
     obtain ⟨b50, o50, cap50, row50, T50, fr50, cs50, hv50, hb50, hs50, hE50⟩ := hcv.get j (by first | assumption | omega | decide | simp)
     obtain ⟨ca50, cb50, rfl, hA50, hB50⟩ := hE50
     refine JL_pure (v := .pointer (some ⟨b50, o50 + j * 71, none⟩)) rfl (Pu.idx j Tryz.runUnderlying25 ty34 hv50 rfl rfl (by first | assumption | omega | decide | simp)) ?_
     refine JL_pure (v := .pointer (some ⟨b50, o50 + j * 71 + 35, none⟩)) rfl (fa34_1 rfl rfl) ?_
     refine JL_run rfl (Pu_load ty27 rfl (At.im hb50) (sub_sub hs50 (sub_r (RP_len hA50) (RT_len hB50))) ?_)
     refine JL_pure (v := .int .i64 (m)) rfl (Pu.move rfl) ?_
     refine JL_pure (v := .int .i64 (m - 1)) rfl (Pu.sub64 rfl rfl (by first | omega | (constructor <;> omega))) ?_
     refine JL_call rfl Tryz.call13 rfl (fun hin => ih' _ (List.getElem_mem h48an) _ _ _ (RT.mono (Hle.hu _ _) hB50) (by omega) (by omega) (by omega)) rfl ?_
     rintro _ _ ⟨rfl, rfl⟩
     refine JL_pure (v := .tuple ⟨[.int .i64 ((extT (m - 1) ((cases)[j].2)).1), .int .i64 ((extT (m - 1) ((cases)[j].2)).2)]⟩) rfl (Pu.move rfl) ?_
     refine JL_pure (v := .int .i64 ((extT (m - 1) ((cases)[j].2)).1)) rfl (Pu.extract rfl rfl) ?_
     refine JL_pure (v := .int .i64 ((extT (m - 1) ((cases)[j].2)).2)) rfl (Pu.extract rfl rfl) ?_
     refine JL_pure (v := .int .i64 ((extT (m - 1) ((cases)[j].2)).1)) rfl (Pu.assign rfl) ?_
     refine JL_pure (v := .int .i64 ((extT (m - 1) ((cases)[j].2)).2)) rfl (Pu.assign rfl) ?_
     refine JL_nil ?_
     refine J_region ?_
     refine JL_pure (v := .int .i64 (n)) rfl (Pu.move rfl) ?_
     refine JL_pure (v := .int .i64 ((extP (m - 1) ((cases)[j].1)).1)) rfl (Pu.move rfl) ?_
     refine JL_pure (v := .int .i64 (n + ((extP (m - 1) ((cases)[j].1)).1))) rfl (Pu.add64 rfl rfl (by first | omega | (constructor <;> omega))) ?_
     refine JL_pure (v := .int .i64 ((extT (m - 1) ((cases)[j].2)).1)) rfl (Pu.move rfl) ?_
     refine JL_pure (v := .int .i64 (n + ((extP (m - 1) ((cases)[j].1)).1) + ((extT (m - 1) ((cases)[j].2)).1))) rfl (Pu.add64 rfl rfl (by first | omega | (constructor <;> omega))) ?_
     refine JL_pure (v := .int .i64 (d)) rfl (Pu.move rfl) ?_
     refine JL_pure (v := .int .i64 ((extP (m - 1) ((cases)[j].1)).2)) rfl (Pu.move rfl) ?_
     refine JL_pure (v := .int .i64 ((extT (m - 1) ((cases)[j].2)).2)) rfl (Pu.move rfl) ?_
     refine JL_pure (v := .int .i64 (max (max (d) ((extP (m - 1) ((cases)[j].1)).2)) ((extT (m - 1) ((cases)[j].2)).2))) rfl (Pu.max3 rfl rfl rfl) ?_
     refine JL_pure (v := .int .i64 (n + ((extP (m - 1) ((cases)[j].1)).1) + ((extT (m - 1) ((cases)[j].2)).1))) rfl (Pu.assign rfl) ?_
     refine JL_pure (v := .int .i64 (max (max (d) ((extP (m - 1) ((cases)[j].1)).2)) ((extT (m - 1) ((cases)[j].2)).2))) rfl (Pu.assign rfl) ?_
     refine JL_nil ?_
     refine J_region ?_
     refine JL_pure (v := .int .i64 ((j : Int))) rfl (Pu.move rfl) ?_
     refine JL_pure (v := .int .i64 (((j + 1 : Nat) : Int))) rfl (Pu.inc rfl rfl (by omega)) ?_
     refine JL_pure (v := .int .i64 (((j + 1 : Nat) : Int))) rfl (Pu.assign rfl) ?_
     refine JL_nil ?_
     refine ⟨_, ?_, (j + 1), (n + ((extP (m - 1) ((cases)[j].1)).1) + ((extT (m - 1) ((cases)[j].2)).1)), (max (max (d) ((extP (m - 1) ((cases)[j].1)).2)) ((extT (m - 1) ((cases)[j].2)).2)), rfl, rfl, rfl, rfl, rfl, rfl, rfl, (Sk Sub.nil), ?_, ?_, ?_, ?_, ?_, rfl⟩
     ·omega
     ·omega
     ·rw [dropc h48an, extCs, if_pos (by omega)] at hinv; exact hinv
     ·omega
     ·omega
     ·omega
    ·skip
     refine J_exit _ rfl ?_
     refine J_seq ?_
     refine J_region ?_
     refine JL_pure (v := .int .i64 (n)) rfl (Pu.move rfl) ?_
     refine JL_pure (v := .int .i64 (d)) rfl (Pu.move rfl) ?_
     refine JL_pure (v := .int .i64 (d + 1)) rfl (Pu.add64 rfl rfl (by first | omega | (constructor <;> omega))) ?_
     refine JL_pure (v := .int .i64 (n)) rfl (Pu.assign rfl) ?_
     refine JL_pure (v := .int .i64 (d + 1)) rfl (Pu.assign rfl) ?_
     refine JL_nil ?_
     refine J_ret ?_
     refine ⟨.tuple ⟨[.int .i64 (n), .int .i64 (d + 1)]⟩, [], Ret.two rfl (RV.tmp rfl) (RV.tmp rfl), Sub.nil, ?_⟩
     have hf : ¬ ((j : Int) < (cases.length : Int) ∧ n ≤ m) := by
      intro ⟨hx1, hx2⟩
      have := h48
      simp [hx1, hx2] at this
      try omega
     have hr : extCs m cases (extTs m kids 1 0).1 (extTs m kids 1 0).2 = (n, d) := by
      rw [← hinv]; rcases Nat.lt_or_ge j cases.length with hl | hl
      ·have hnm : ¬ n ≤ m := fun hle => hf ⟨by omega, hle⟩
       rw [dropc hl, extCs, if_neg hnm]
      ·rw [dropn hl, extCs]
     exact ⟨by rw [extT, hr], rfl⟩
theorem longR_ct (t : Tm) (cs : List Value) (H : Heap) (ht : RT H cs t) (hz : sizeT t ≤ 1000000000) : CT Tryz.prog 56 ⟨[.agg ⟨cs⟩]⟩ [] H (fun v N => v = .bool (longB t) ∧ N = []) := by
 refine CT_enter Tryz.func56 rfl rfl ?_
 refine J_seq ?_
 refine J_region ?_
 refine JL_run rfl (Runs_box (l := cs) rfl rfl fun b1 => ?_)
 refine JL_pure (v := .bool (false)) rfl (Pu.assign rfl) ?_
 refine JL_nil ?_
 refine J_seq ?_
 refine J_region ?_
 refine JL_run rfl (Pu_load ty27 rfl (At.bx 0 rfl) (sub_a (RT_len ht)) ?_)
 refine JL_call rfl Tryz.call13 rfl (fun hin => extent_ct _ _ _ _ (RT.mono (Hle.hu _ _) ht) (by omega) (by omega) (by omega)) rfl ?_
 rintro _ _ ⟨rfl, rfl⟩
 refine JL_pure (v := .tuple ⟨[.int .i64 ((extT (400) (t)).1), .int .i64 ((extT (400) (t)).2)]⟩) rfl (Pu.move rfl) ?_
 refine JL_pure (v := .int .i64 ((extT (400) (t)).1)) rfl (Pu.extract rfl rfl) ?_
 refine JL_pure (v := .int .i64 ((extT (400) (t)).2)) rfl (Pu.extract rfl rfl) ?_
 refine JL_pure (v := .int .i64 ((extT (400) (t)).1)) rfl (Pu.assign rfl) ?_
 refine JL_pure (v := .int .i64 ((extT (400) (t)).2)) rfl (Pu.assign rfl) ?_
 refine JL_nil ?_
 refine J_cut (fun ρ M => ρ 2 = .bool ((decide (300 < (extT (400) (t)).1)) || (decide (60 < (extT (400) (t)).2))) ∧ M = [[(b1, .cells ⟨cs⟩ 27 (0, 0))]]) ?_ ?_
 ·refine J_region ?_
  refine JL_pure (v := .int .i64 ((extT (400) (t)).1)) rfl (Pu.move rfl) ?_
  refine JL_pure (v := .bool (decide (300 < (extT (400) (t)).1))) rfl (Pu.gtr rfl rfl) ?_
  refine JL_pure (v := .bool (decide (300 < (extT (400) (t)).1))) rfl (Pu.move rfl) ?_
  cases h2 : (decide (300 < (extT (400) (t)).1)) with
  | true =>
   replace h2 := dt h2
   refine JL_skip rfl ?_
   refine JL_skip rfl ?_
   refine JL_pure (v := .bool (true)) rfl (Pu.pickT rfl rfl) ?_
   refine JL_pure (v := .bool (true)) rfl (Pu.assign rfl) ?_
   refine JL_nil ?_
   first | exact ⟨rfl, rfl⟩ | (exfalso; omega)
  | false =>
   replace h2 := df h2
   refine JL_pure (v := .int .i64 ((extT (400) (t)).2)) rfl (Pu.move rfl) ?_
   refine JL_pure (v := .bool (decide (60 < (extT (400) (t)).2))) rfl (Pu.gtr rfl rfl) ?_
   refine JL_pure (v := .bool (decide (60 < (extT (400) (t)).2))) rfl (Pu.pickF rfl rfl) ?_
   refine JL_pure (v := .bool (decide (60 < (extT (400) (t)).2))) rfl (Pu.assign rfl) ?_
   refine JL_nil ?_
   first | exact ⟨rfl, rfl⟩ | (exfalso; omega)
 ·rintro ρ3 _ ⟨e4, rfl⟩
  obtain ⟨ρ5, rfl⟩ := reopen_ex (uc e4 un)
  clear e4
  refine J_ret ?_
  refine ⟨.bool ((decide (300 < (extT (400) (t)).1)) || (decide (60 < (extT (400) (t)).2))), [], Ret.one rfl (RV.tmp rfl), Sub.nil, ?_⟩
  exact ⟨rfl, rfl⟩
theorem checkR_ct (t : Tm) (d m : Int) (cs : List Value) (H : Heap) (ht : RT H cs t) (hz : sizeT t ≤ 400000) : CT Tryz.prog 20 ⟨[.agg ⟨cs⟩, .int .i64 (d), .int .i64 (m)]⟩ [] H (fun v N => v = .int .i64 (checkR d m t) ∧ N = []) := by
 refine CT_enter Tryz.func20 rfl rfl ?_
 refine J_seq ?_
 refine J_region ?_
 refine JL_run rfl (Runs_box (l := cs) rfl rfl fun b1 => ?_)
 refine JL_pure (v := .int .i64 (0)) rfl (Pu.assign rfl) ?_
 refine JL_nil ?_
 refine J_seq ?_
 refine J_seq ?_
 refine J_region ?_
 refine JL_run rfl (Pu_load ty27 rfl (At.bx 0 rfl) (sub_a (RT_len ht)) ?_)
 refine JL_call rfl Tryz.call56 rfl (fun hin => longR_ct _ _ _ (RT.mono (Hle.hu _ _) ht) (by omega)) rfl ?_
 rintro _ _ ⟨rfl, rfl⟩
 refine JL_nil ?_
 refine J_cond (b := longB (t)) rfl (fun h2 => ?_) (fun h2 => ?_)
 ·skip
  refine J_seq ?_
  refine J_region ?_
  refine JL_pure (v := .int .i64 (11)) rfl (Pu.assign rfl) ?_
  refine JL_nil ?_
  refine J_ret ?_
  refine ⟨.int .i64 (11), [], Ret.one rfl (RV.tmp rfl), Sub.nil, ?_⟩
  exact ⟨by rw [checkR, if_pos (by simp [h2])], rfl⟩
 ·skip
  refine J_skip ?_
  refine J_seq ?_
  refine J_region ?_
  refine JL_run rfl (Pu_load ty27 rfl (At.bx 0 rfl) (sub_a (RT_len ht)) ?_)
  refine JL_pure (v := .int .i64 (d)) rfl (Pu.move rfl) ?_
  refine JL_pure (v := .int .i64 (m)) rfl (Pu.move rfl) ?_
  refine JL_call rfl Tryz.call57 rfl (fun hin => nodeError_ct _ _ _ _ _ _ (RT.mono (Hle.hu _ _) ht) (by omega) (by omega)) rfl ?_
  rintro _ _ ⟨rfl, rfl⟩
  refine JL_pure (v := .int .i64 (nErr (d) (m) (0) (t))) rfl (Pu.assign rfl) ?_
  refine JL_nil ?_
  refine J_ret ?_
  refine ⟨.int .i64 (nErr (d) (m) (0) (t)), [], Ret.one rfl (RV.tmp rfl), Sub.nil, ?_⟩
  exact ⟨by rw [checkR, if_neg (by simp [h2])], rfl⟩
theorem rightR_ct (t : Tm) (cs : List Value) (H : Heap) (ht : RT H cs t) (hz : sizeT t ≤ 400000) : CT Tryz.prog 46 ⟨[.agg ⟨cs⟩]⟩ [] H (fun v N => v = .int .i64 (checkR 60 8 t) ∧ N = []) := by
 refine CT_enter Tryz.func46 rfl rfl ?_
 refine J_seq ?_
 refine J_region ?_
 refine JL_run rfl (Runs_box (l := cs) rfl rfl fun b1 => ?_)
 refine JL_pure (v := .int .i64 (0)) rfl (Pu.assign rfl) ?_
 refine JL_nil ?_
 refine J_seq ?_
 refine J_region ?_
 refine JL_run rfl (Pu_load ty27 rfl (At.bx 0 rfl) (sub_a (RT_len ht)) ?_)
 refine JL_call rfl Tryz.call20 rfl (fun hin => checkR_ct _ _ _ _ _ (RT.mono (Hle.hu _ _) ht) (by omega)) rfl ?_
 rintro _ _ ⟨rfl, rfl⟩
 refine JL_pure (v := .int .i64 (checkR (60) (8) (t))) rfl (Pu.assign rfl) ?_
 refine JL_nil ?_
 refine J_ret ?_
 refine ⟨.int .i64 (checkR (60) (8) (t)), [], Ret.one rfl (RV.tmp rfl), Sub.nil, ?_⟩
 exact ⟨rfl, rfl⟩
theorem rightL_ct (t : Tm) (cs : List Value) (H : Heap) (ht : RT H cs t) (hz : sizeT t ≤ 400000) : CT Tryz.prog 12 ⟨[.agg ⟨cs⟩]⟩ [] H (fun v N => v = .tuple ⟨[.bool (decide (checkR 60 8 t = 0)), .int .i64 (checkR 60 8 t)]⟩ ∧ N = []) := by
 refine CT_enter Tryz.func12 rfl rfl ?_
 refine J_seq ?_
 refine J_region ?_
 refine JL_run rfl (Runs_box (l := cs) rfl rfl fun b1 => ?_)
 refine JL_pure (v := .bool (false)) rfl (Pu.assign rfl) ?_
 refine JL_pure (v := .int .i64 (0)) rfl (Pu.assign rfl) ?_
 refine JL_nil ?_
 refine J_seq ?_
 refine J_region ?_
 refine JL_run rfl (Pu_load ty27 rfl (At.bx 0 rfl) (sub_a (RT_len ht)) ?_)
 refine JL_call rfl Tryz.call46 rfl (fun hin => rightR_ct _ _ _ (RT.mono (Hle.hu _ _) ht) (by omega)) rfl ?_
 rintro _ _ ⟨rfl, rfl⟩
 refine JL_pure (v := .int .i64 (checkR 60 8 (t))) rfl (Pu.assign rfl) ?_
 refine JL_nil ?_
 refine J_seq ?_
 refine J_region ?_
 refine JL_pure (v := .int .i64 (checkR 60 8 (t))) rfl (Pu.move rfl) ?_
 refine JL_pure (v := .bool (decide (checkR 60 8 (t) = 0))) rfl (Pu.eql rfl rfl) ?_
 refine JL_pure (v := .int .i64 (checkR 60 8 (t))) rfl (Pu.move rfl) ?_
 refine JL_pure (v := .bool (decide (checkR 60 8 (t) = 0))) rfl (Pu.assign rfl) ?_
 refine JL_pure (v := .int .i64 (checkR 60 8 (t))) rfl (Pu.assign rfl) ?_
 refine JL_nil ?_
 refine J_ret ?_
 refine ⟨.tuple ⟨[.bool (decide (checkR 60 8 (t) = 0)), .int .i64 (checkR 60 8 (t))]⟩, [], Ret.two rfl (RV.tmp rfl) (RV.tmp rfl), Sub.nil, ?_⟩
 exact ⟨rfl, rfl⟩
end Go.Proofs.YtdeinimmmjichaaGreat.Hs
