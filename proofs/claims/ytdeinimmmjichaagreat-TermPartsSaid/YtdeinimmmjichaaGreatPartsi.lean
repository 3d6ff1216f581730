import Derived.Test.YtdeinimmmjichaaGreatPartsh
import Derived.Laws.RangeString
/-! Strings: rows of them, ranges over them, names of one letter. -/
namespace Go.Proofs.YtdeinimmmjichaaGreat.Hs
open Go
/-- the name of one letter -/
def ltr (i : Nat) : ByteArray := ⟨#[UInt8.ofNat (97 + i)]⟩
def strs (l : List ByteArray) : List (List Value) := l.map fun n => [.string n]
theorem strs_len (l : List ByteArray) : (strs l).length = l.length := by simp [strs]
theorem strs_snoc (l : List ByteArray) (n : ByteArray) : strs (l ++ [n]) = strs l ++ [[.string n]] := by simp [strs]
theorem strs_app (l m : List ByteArray) : strs (l ++ m) = strs l ++ strs m := by simp [strs]
theorem strs_get (l : List ByteArray) (j : Nat) (h : j < l.length) : (strs l)[j]'(by rw [strs_len]; exact h) = [.string l[j]] := by simp [strs]
theorem strs_len1 (l : List ByteArray) : ∀ e ∈ strs l, e.length = 1 := by
  intro e he; obtain ⟨n, _, rfl⟩ := List.mem_map.1 he; rfl
theorem strs_ok (l : List ByteArray) : ∀ e ∈ strs l, okc e := by
  intro e he; obtain ⟨n, _, rfl⟩ := List.mem_map.1 he; exact Zp rfl Zz
def RS (_ : Heap) (cs : List Value) (n : ByteArray) : Prop := cs = [.string n]
theorem RSs.mono {h h' : Heap} (hh : Hle h h') {v : Value} {l : List ByteArray} (q : Hs.rdS RS 1 h v l) : Hs.rdS RS 1 h' v l := rdS.mono q hh fun _ _ _ e => e
theorem own_strs {T : TypeId} {v : Value} {l : List ByteArray} {k : Zm} {h : Heap} (o : Own T 1 v (strs l) k) (hn : l.length ≤ 9223372036854775807) (hk : Has k h) : Hs.rdS RS 1 h v l :=
  o.rdS (strs_len l).symm hn hk fun i _ h2 => strs_get l i h2
theorem rdS.none {α : Type} {E : Heap → List Value → α → Prop} {sz : Nat} {h : Heap} {a : Option Addr} {cap : Nat} : Hs.rdS E sz h (.slice a 0 cap) [] := ⟨a, cap, rfl, by simp, .inl rfl⟩
/-- What a row of strings gives to append. -/
theorem strs_src {P : Program} {H : Heap} {v : Value} {l : List ByteArray} (h : Hs.rdS RS 1 H v l) : ∀ w L, Mem w L H → Src P 1 w v l.length (strs l).flatten := by
  obtain ⟨es, e1, e2, e3, e4⟩ := rdS.src (P := P) h
  have : es = strs l := by
    apply List.ext_getElem
    · rw [e1, strs_len]
    · intro i h1 h2
      have := e2 i h1 (by omega)
      rw [strs_get l i (by omega)]; exact this
  subst this
  intro w L m
  exact e4 w L H (Hle.refl _) m
theorem own_src {P : Program} {H : Heap} {T : TypeId} {v : Value} {l : List ByteArray} {k : Zm} {M : List Zm} {i : Nat} (o : Own T 1 v (strs l) k) (hi : M[i]? = some k) : ∀ F w, Mem w (M.flatten ++ F) H → Src P 1 w v l.length (strs l).flatten := by
  intro F w m
  rcases o.2 with ⟨e, e2, e3⟩ | ⟨b, cap, sp, e, e2, e3, e4⟩
  · have : l = [] := by have := strs_len l; rw [e2] at this; exact List.eq_nil_of_length_eq_zero this.symm
    subst this
    rw [e]; exact Src.nil
  · subst e
    have hb : w.heap[b]? = some (.cells ⟨(strs l).flatten ++ sp⟩ T (0, 0)) := (At.k (M := M) (H := H) i hi (by rw [e2]; simp)).heap m
    have := Src.row (P := P) (cap := cap) (n := l.length) hb (by have := sub_flat (sp := sp) o.1; rwa [strs_len] at this)
    rw [strs_len]; exact this

/-- the place of a string in a row -/
def fstS (x : ByteArray) : List ByteArray → Nat → Int
  | [], _ => -1
  | y :: l, i => if x = y then (i : Int) else fstS x l (i + 1)
theorem fstS_mem (x : ByteArray) (l : List ByteArray) : ∀ i, decide (0 ≤ fstS x l i) = l.any (fun y => decide (x = y)) := by
  induction l with
  | nil => intro i; simp [fstS]
  | cons y l ih =>
    intro i
    rw [fstS]
    by_cases h : x = y
    · rw [if_pos h, List.any_cons, decide_eq_true h]; simp
    · rw [if_neg h, ih, List.any_cons, decide_eq_false h]; rfl
/-- the place of a bool in a row -/
def fstB (x : Bool) : List Bool → Nat → Int
  | [], _ => -1
  | y :: l, i => if x = y then (i : Int) else fstB x l (i + 1)

def itC (r : Nat) (s : ByteArray) (p : Nat) : Zm := [(r, .stringIter s p)]
section
variable {c : Cx} {H : Heap} {ρ : Nat → Value} {M : List Zm} {K : Value → List Zm → Prop} {d : Option Nat} {ot : TypeId} {pos : String} {af : Array Edge} {g : Option (Nat × Bool)} {x y z : Operand}
theorem Runs_rangeS {T : TypeId} {s : ByteArray} (hT : c.P.underlying T = some .string) (hx : ev c.n ρ x = .string s) (h : ∀ r, K (.pointer (some ⟨r, 0, none⟩)) (itC r s 0 :: M)) : Runs c H ⟨d, .range T x, ot, pos, af, g⟩ ρ M K := fun F w m => by
  refine ⟨.pointer (some ⟨w.heap.size, 0, none⟩), { w with heap := w.heap.push (.stringIter s 0) }, [(w.heap.size, .stringIter s 0)] :: M, .inl ?_, m.push (w' := { w with heap := w.heap.push (.stringIter s 0) }) rfl, h _⟩
  simp [execOp, Instr.range, hx, run_underlying hT, Result.andThen]
theorem Runs_nextA {i r p : Nat} {s : ByteArray} (hx : ev c.n ρ x = .pointer (some ⟨r, 0, none⟩)) (hi : M[i]? = some (itC r s p)) (hp : p < s.size) (ha : (s[p]'hp).toNat < 128)
    (h : K (.tuple ⟨[.bool true, .int .i64 p, .int .i32 ((s[p]'hp).toNat : Int)]⟩) (M.set i (itC r s (p + 1)))) : Runs c H ⟨d, .next x true, ot, pos, af, g⟩ ρ M K := fun F w m => by
  have hb : w.heap[r]? = some (.stringIter s p) := (m.perm ((flatten_at hi).append_right F)).own r _ (List.mem_cons_self ..)
  refine ⟨_, _, _, .inl ?_, m.put (o' := .stringIter s (p + 1)) hi, h⟩
  have hg : (getObj r).run c.P w = .ok (.stringIter s p) w := by simp [getObj, Sem.run, hb]
  have hs : (setObj r (.stringIter s (p + 1))).run c.P w = .ok () { w with heap := w.heap.setIfInBounds r (.stringIter s (p + 1)) } := by simp [setObj, Sem.run, hb]
  simp only [execOp, Instr.next, hx, Sem.run_bind, hg, Result.andThen, hp, if_true, decode_ascii s p hp ha, hs]
  simp [goInt]
theorem Runs_nextE {i r p : Nat} {s : ByteArray} (hx : ev c.n ρ x = .pointer (some ⟨r, 0, none⟩)) (hi : M[i]? = some (itC r s p)) (hp : ¬ p < s.size)
    (h : K (.tuple ⟨[.bool false]⟩) M) : Runs c H ⟨d, .next x true, ot, pos, af, g⟩ ρ M K := fun F w m => by
  have hb : w.heap[r]? = some (.stringIter s p) := (m.perm ((flatten_at hi).append_right F)).own r _ (List.mem_cons_self ..)
  refine ⟨_, _, _, .inl ?_, m, h⟩
  have hg : (getObj r).run c.P w = .ok (.stringIter s p) w := by simp [getObj, Sem.run, hb]
  simp [execOp, Instr.next, hx, hg, Result.andThen, hp]
end
theorem w32 {a : Int} (h : -2147483648 ≤ a ∧ a ≤ 2147483647) : IntKind.i32.wrap a = a := by
  exact IntWalk.i32_in a h
section
variable {P : Program} {e : Operand → Value} {T T' : TypeId} {x : Operand} {k : IntKind} {a : Int} {d : Option Nat} {ot : TypeId} {pos : String} {af : Array Edge} {g : Option (Nat × Bool)}
theorem Pu.convS {s : ByteArray} {t : TypeDesc} (hs : ∀ w, (underlying T).run P w = .ok t w) (hT : ∀ w, (underlying T').run P w = .ok .string w) (hx : e x = .int k a) (hv : Utf8.encode a = s) : Pu P e ⟨d, .convert T T' x, ot, pos, af, g⟩ (.string s) := fun w => by
  subst hv
  simp [execOp, convert, hs, hT, hx, Result.andThen, Conv.intToString]
end
theorem ltr_size (i : Nat) : (ltr i).size = 1 := rfl
theorem ltr_get (i : Nat) (h : i < 26) : ((ltr i)[0]'(by rw [ltr_size]; decide)).toNat = 97 + i := by
  show (UInt8.ofNat (97 + i)).toNat = 97 + i
  simp; omega
theorem ltr_enc : ∀ i : Nat, i < 26 → Utf8.encode ((97 + i : Nat) : Int) = ltr i := by decide
theorem ltr_enc' (i : Nat) (h : i < 26) : Utf8.encode (97 + (i : Int)) = ltr i := by have := ltr_enc i h; simpa using this
section
variable {c : Cx} {H : Heap} {ρ : Nat → Value} {M : List Zm} {K : Value → List Zm → Prop} {d : Option Nat} {ot : TypeId} {pos : String} {af : Array Edge} {g : Option (Nat × Bool)} {x : Operand}
theorem Runs_nextL {i r k : Nat} (hx : ev c.n ρ x = .pointer (some ⟨r, 0, none⟩)) (hi : M[i]? = some (itC r (ltr k) 0)) (hk : k < 26)
    (h : K (.tuple ⟨[.bool true, .int .i64 0, .int .i32 (97 + (k : Int))]⟩) (M.set i (itC r (ltr k) 1))) : Runs c H ⟨d, .next x true, ot, pos, af, g⟩ ρ M K := by
  have hg := ltr_get k hk
  refine Runs_nextA hx hi (by rw [ltr_size]; decide) (by omega) ?_
  rw [hg]
  simpa using h
end
def markL (i : Nat) (l : List Bool) : List Bool := if i < l.length then l.set i true else l
/-- What is known of a term with names: the names on the way down, one Kid after the other. -/
def NC : List (List ByteArray) → List Value → Zm → Prop
  | [], cs, _ => cs.length = 37 ∧ okc cs
  | x :: xs, cs, c => ∃ k n r ns ks cv e k1 k2 k3, cs = pkT k n r ns ks ++ [cv] ∧ cv.oneCell' = true ∧ Own 9 1 ns (strs x) k1 ∧ Own 75 37 ks [e] k2 ∧ NC xs e k3 ∧ c = k1 ++ (k2 ++ k3)
theorem NC.len : ∀ {xs : List (List ByteArray)} {cs : List Value} {c : Zm}, NC xs cs c → cs.length = 37
  | [], _, _, h => h.1
  | _ :: _, _, _, ⟨_, _, _, _, _, _, _, _, _, _, h, _⟩ => by rw [h]; rfl
theorem NC.ok : ∀ {xs : List (List ByteArray)} {cs : List Value} {c : Zm}, NC xs cs c → okc cs
  | [], _, _, h => h.2
  | _ :: _, _, _, ⟨_, _, _, _, _, _, _, _, _, _, h, h1, h2, h3, _⟩ => by rw [h]; exact okc_app (pkT_ok h2.one h3.one) (Zp h1 Zz)
theorem spl_l {a b a' vs : List Value} {off : Nat} (h : spl a off vs = some a') : spl (a ++ b) off vs = some (a' ++ b) := by
  obtain ⟨h1, h2⟩ := spl_some h
  rw [spl_mk (by rw [List.length_append]; omega), h2, List.take_append_of_le_length (by omega), List.drop_append_of_le_length (by omega)]
  simp
theorem spl_r {a b b' vs : List Value} {n i : Nat} (hn : a.length = n) (h : spl b i vs = some b') : spl (a ++ b) (n + i) vs = some (a ++ b') := by
  obtain ⟨h1, h2⟩ := spl_some h
  rw [spl_mk (by rw [List.length_append]; omega), h2, ← hn, List.take_length_add_append, Nat.add_assoc, List.drop_length_add_append]
  simp
theorem markL_len (i : Nat) (l : List Bool) : (markL i l).length = l.length := by unfold markL; split <;> simp
theorem int_r {P : Program} {f : FuncId} {a : Array Value} {M : List Zm} {H : Heap} {x r : Int} (h : CT P f a M H (fun v N => v = .int .i64 x ∧ N = [])) (hr : x = r) : CT P f a M H (fun v N => v = .int .i64 r ∧ N = []) := hr ▸ h
noncomputable def eqL {α : Type} (l m : List α) : Bool := @decide (l = m) (Classical.propDecidable _)
theorem eqL_true {α : Type} {l m : List α} (h : l = m) : eqL l m = true := by unfold eqL; simp [h]
theorem eqL_false {α : Type} {l m : List α} (h : ¬ l = m) : eqL l m = false := by unfold eqL; simp [h]
end Go.Proofs.YtdeinimmmjichaaGreat.Hs
/-! The examples of the chapter, in plain Lean. -/
namespace Go.Proofs.YtdeinimmmjichaaGreat.Hs
open Go Go.Proofs
def eVa (n : Int) : Tm := .mk 1 n zS [] []
def eNu (n : Int) : Tm := .mk 2 n zS [] []
def eLa (t : Tm) : Tm := .mk 3 0 zS [t] []
def eAp (t u : Tm) : Tm := .mk 4 0 zS [t, u] []
def eLam : Tm := eLa (eAp (eVa 0) (eVa 1))
theorem free_lam : freeE eLam = ([0], 0) := by kernel_rfl
theorem five_lam : substP eLam 0 (eNu 5) = (eLa (eAp (eVa 0) (eNu 5)), 0) := by kernel_rfl
theorem three_lam : substP eLam 0 (eVa 3) = (eLa (eAp (eVa 0) (eVa 4)), 0) := by kernel_rfl
theorem up_lam : shiftP eLam 2 0 = (eLa (eAp (eVa 0) (eVa 3)), 0) := by kernel_rfl
theorem down_va : shiftP (eVa 0) (-1) 0 = (zT, 1) := by kernel_rfl
def eLL : Tm := eLa (eLa (eVa 1))
theorem right_ll : ZD [eLL] = 0 := by kernel_rfl
theorem free_ll : freeE eLL = ([], 0) := by kernel_rfl
theorem check_h2 : checkT 0 0 (.mk 12 0 zS [eNu 1, eVa 0] []) = 0 := by kernel_rfl
theorem check_h1 : checkT 0 0 (.mk 12 0 zS [eNu 1] []) = 2 := by kernel_rfl
/-- the cells of the first of two results -/
def ZC : Value → List Value
  | .tuple ⟨[.agg ⟨cs⟩, _]⟩ => cs
  | _ => []
theorem ble_at {P : Program} {f : FuncId} {a : Array Value} {M : List Zm} {H : Heap} {x : Tm × Int} {d : Tm} {e : Int} (h : CT P f a M H (fun v N => ∃ cs k, v = .tuple ⟨[.agg ⟨cs⟩, .int .i64 x.2]⟩ ∧ N = [k] ∧ OT x.1 cs k)) (hx : x = (d, e)) :
    CT P f a M H (fun v N => ∃ cs k, v = .tuple ⟨[.agg ⟨cs⟩, .int .i64 e]⟩ ∧ N = [k] ∧ OT d cs k) := by subst hx; exact h
theorem bool_r {P : Program} {f : FuncId} {a : Array Value} {M : List Zm} {H : Heap} {x r : Bool} (h : CT P f a M H (fun v N => v = .bool x ∧ N = [])) (hr : x = r) : CT P f a M H (fun v N => v = .bool r ∧ N = []) := hr ▸ h
section
variable {c : Cx} {H : Heap} {ρ : Nat → Value} {M : List Zm} {K : Value → List Zm → Prop} {d : Option Nat} {ot : TypeId} {pos : String} {af : Array Edge} {g : Option (Nat × Bool)} {x y : Operand}
/-- the first nothing of a slice -/
theorem Runs_slice0 {T el : TypeId} {sz n cap : Nat} {a : Option Addr} {k : IntKind} (hT : ∀ w, (underlying T).run c.P w = .ok (.slice el) w) (hsz : ∀ w, (sizeOf el).run c.P w = .ok sz w) (hx : ev c.n ρ x = .slice a n cap) (hy : ev c.n ρ y = .int k 0)
    (h : ∀ a' cap', K (.slice a' 0 cap') M) : Runs c H ⟨d, .slice T x none (some y) none, ot, pos, af, g⟩ ρ M K := fun F w m => by
  refine ⟨_, w, M, .inl ?_, m, h (if cap = 0 then a else a.map (·.add (0 * sz))) (cap - 0)⟩
  simp [execOp, Instr.sliceAt, Instr.slice, Instr.sliceBounds, Instr.sliceBound, asIntOf, hx, hy, hT, hsz, Result.andThen]
end
end Go.Proofs.YtdeinimmmjichaaGreat.Hs
/-! Layer 4, the plain law, third part: sizes. No program here. -/
namespace Go.Proofs.YtdeinimmmjichaaGreat.Hs
open Go
theorem great_size {t : Tm} (h : (cnT stG 0 t 0).1 = false) : sizeT t ≤ 400 := by
  have h1 := cnT_size t 0 0 h
  have h2 := cnGT_le t 0 0 h
  omega
theorem RT_zero {h : Heap} : RT h (pkT 0 0 zS (.slice none 0 0) (.slice none 0 0)) zT := OT_zero.rd Has.nil
end Go.Proofs.YtdeinimmmjichaaGreat.Hs
/-! The part of a term at a path, and another term put there, in plain Lean; one element of an owned row exchanged. -/
namespace Go.Proofs.YtdeinimmmjichaaGreat.Hs
open Go Go.Proofs
def zP : Pt := .mk 0 0 zS []
theorem tidys_mem {l : List Tm} (h : tidys l) : ∀ t ∈ l, tidy t := by
  induction l with
  | nil => intro t ht; cases ht
  | cons x l ih =>
    rw [tidys] at h
    intro t ht
    rcases List.mem_cons.1 ht with rfl | ht
    · exact h.1
    · exact ih h.2 t ht
theorem tidyc_mem {l : List (Pt × Tm)} (h : tidyc l) : ∀ c ∈ l, tidy c.2 := by
  induction l with
  | nil => intro t ht; cases ht
  | cons x l ih =>
    obtain ⟨p, x⟩ := x
    rw [tidyc] at h
    intro t ht
    rcases List.mem_cons.1 ht with rfl | ht
    · exact h.1
    · exact ih h.2 t ht
def partT (t : Tm) (k : Int) : Option Tm :=
  if k < 0 then none else if k < (t.kids.length : Int) then t.kids[k.toNat]? else (t.cases[(k - t.kids.length).toNat]?).map (·.2)
def atT (t : Tm) : List Int → Option Tm
  | [] => some t
  | k :: l => (partT t k).bind fun x => atT x l
def setP : List Int → Tm → Tm → Tm × Bool
  | [], _, u => (u, true)
  | k :: l, t, u =>
    if k < 0 then (t, false)
    else if k < (t.kids.length : Int) then (.mk t.kind t.num t.ref (t.kids.set k.toNat (setP l (t.kids.getD k.toNat zT) u).1) t.cases, (setP l (t.kids.getD k.toNat zT) u).2)
    else if k - t.kids.length < (t.cases.length : Int) then (.mk t.kind t.num t.ref t.kids (t.cases.set (k - t.kids.length).toNat ((t.cases.getD (k - t.kids.length).toNat (zP, zT)).1, (setP l (t.cases.getD (k - t.kids.length).toNat (zP, zT)).2 u).1)), (setP l (t.cases.getD (k - t.kids.length).toNat (zP, zT)).2 u).2)
    else (t, false)
theorem setP_pos {l : List Int} (h : 0 < l.length) (k n : Int) (r : Sm) (kids : List Tm) (cases : List (Pt × Tm)) (u : Tm) : setP l (.mk k n r kids cases) u =
    if l[0] < 0 then (.mk k n r kids cases, false)
    else if l[0] < (kids.length : Int) then (.mk k n r (kids.set l[0].toNat (setP l.tail (kids.getD l[0].toNat zT) u).1) cases, (setP l.tail (kids.getD l[0].toNat zT) u).2)
    else if l[0] - kids.length < (cases.length : Int) then (.mk k n r kids (cases.set (l[0] - kids.length).toNat ((cases.getD (l[0] - kids.length).toNat (zP, zT)).1, (setP l.tail (cases.getD (l[0] - kids.length).toNat (zP, zT)).2 u).1)), (setP l.tail (cases.getD (l[0] - kids.length).toNat (zP, zT)).2 u).2)
    else (.mk k n r kids cases, false) := by
  cases l with
  | nil => exact absurd h (by simp)
  | cons x l => rfl
theorem getD_at {α : Type} {l : List α} {j : Nat} {z : α} (h : j < l.length) : l.getD j z = l[j] := by
  rw [List.getD_eq_getElem?_getD, List.getElem?_eq_getElem h]; rfl
theorem setP_is (l : List Int) : ∀ (t u : Tm), (setP l t u).2 = (atT t l).isSome := by
  induction l with
  | nil => intro t u; rfl
  | cons k l ih =>
    intro t u
    rw [setP, atT, partT]
    by_cases h0 : k < 0
    · rw [if_pos h0, if_pos h0]; rfl
    rw [if_neg h0, if_neg h0]
    by_cases h1 : k < (t.kids.length : Int)
    · rw [if_pos h1, if_pos h1]
      simp only [ih]
      rw [List.getD_eq_getElem?_getD, List.getElem?_eq_getElem (by omega)]; rfl
    rw [if_neg h1, if_neg h1]
    by_cases h2 : k - t.kids.length < (t.cases.length : Int)
    · rw [if_pos h2]
      simp only [ih]
      rw [List.getD_eq_getElem?_getD, List.getElem?_eq_getElem (by omega)]; rfl
    · rw [if_neg h2, List.getElem?_eq_none (by omega)]; rfl
theorem sizeTs_set (l : List Tm) (x : Tm) : ∀ j (h : j < l.length), sizeTs (l.set j x) + sizeT l[j] = sizeTs l + sizeT x := by
  induction l with
  | nil => intro j h; exact absurd h (by simp)
  | cons y l ih =>
    intro j h
    cases j with
    | zero => simp [sizeTs]; omega
    | succ j => have := ih j (by simpa using h); simp only [List.set_cons_succ, sizeTs, List.getElem_cons_succ]; omega
theorem sizeCs_set (l : List (Pt × Tm)) (x : Tm) : ∀ j (h : j < l.length), sizeCs (l.set j (l[j].1, x)) + sizeT l[j].2 = sizeCs l + sizeT x := by
  induction l with
  | nil => intro j h; exact absurd h (by simp)
  | cons y l ih =>
    obtain ⟨p, y⟩ := y
    intro j h
    cases j with
    | zero => simp [sizeCs]; omega
    | succ j => have := ih j (by simpa using h); simp only [List.set_cons_succ, sizeCs, List.getElem_cons_succ]; omega
theorem setP_size (l : List Int) : ∀ (t u : Tm), sizeT (setP l t u).1 ≤ sizeT t + sizeT u := by
  induction l with
  | nil => intro t u; simp [setP]
  | cons k l ih =>
    intro t u
    rw [setP]
    split
    · simp
    rename_i h0
    split
    · rename_i h1
      have hj : k.toNat < t.kids.length := by omega
      have e := sizeTs_set t.kids (setP l (t.kids.getD k.toNat zT) u).1 k.toNat hj
      rw [List.getD_eq_getElem?_getD, List.getElem?_eq_getElem hj] at *
      have := ih t.kids[k.toNat] u
      cases t; simp only [sizeT, Tm.kids, Tm.cases, Option.getD_some] at *; omega
    rename_i h1
    split
    · rename_i h2
      have hj : (k - t.kids.length).toNat < t.cases.length := by omega
      have e := sizeCs_set t.cases (setP l (t.cases.getD (k - t.kids.length).toNat (zP, zT)).2 u).1 (k - t.kids.length).toNat hj
      rw [List.getD_eq_getElem?_getD, List.getElem?_eq_getElem hj] at *
      have := ih t.cases[(k - t.kids.length).toNat].2 u
      cases t; simp only [sizeT, Tm.kids, Tm.cases, Option.getD_some] at *; omega
    · simp
theorem partT_mk (kd n : Int) (r : Sm) (kids : List Tm) (cases : List (Pt × Tm)) (k : Int) : partT (.mk kd n r kids cases) k = if k < 0 then none else if k < (kids.length : Int) then kids[k.toNat]? else (cases[(k - kids.length).toNat]?).map (·.2) := rfl
theorem part_size {t x : Tm} {k : Int} (h : partT t k = some x) : sizeT x ≤ sizeT t ∧ (vOK t → vOK x) ∧ (tidy t → tidy x) := by
  cases t with
  | mk kd n r kids cases =>
  rw [partT_mk] at h
  by_cases h0 : k < 0
  · rw [if_pos h0] at h; cases h
  rw [if_neg h0] at h
  by_cases h1 : k < (kids.length : Int)
  · rw [if_pos h1] at h
    have hm := List.mem_of_getElem? h
    have := sizeTs_mem _ hm
    refine ⟨by rw [sizeT]; omega, fun hv => ?_, fun hv => ?_⟩
    · rw [vOK] at hv; exact vOKs_mem hv.2.1 _ hm
    · rw [tidy] at hv; exact tidys_mem hv.2.1 _ hm
  · rw [if_neg h1] at h
    obtain ⟨c, hc, rfl⟩ := Option.map_eq_some_iff.1 h
    have hm := List.mem_of_getElem? hc
    have := sizeCs_mem _ hm
    refine ⟨by rw [sizeT]; omega, fun hv => ?_, fun hv => ?_⟩
    · rw [vOK] at hv; exact vOKc_mem hv.2.2 _ hm
    · rw [tidy] at hv; exact tidyc_mem hv.2.2 _ hm
theorem part_kid {t : Tm} {k : Int} (h0 : 0 ≤ k) (h1 : k < (t.kids.length : Int)) : partT t k = some (t.kids[k.toNat]'(by omega)) := by
  rw [partT, if_neg (by omega), if_pos h1, List.getElem?_eq_getElem (by omega)]
theorem part_case {t : Tm} {k : Int} (h0 : (t.kids.length : Int) ≤ k) (h1 : k - (t.kids.length : Int) < (t.cases.length : Int)) : partT t k = some (t.cases[(k - (t.kids.length : Int)).toNat]'(by omega)).2 := by
  rw [partT, if_neg (by omega), if_neg (by omega), List.getElem?_eq_getElem (by omega)]; rfl
theorem part_none {t : Tm} {k : Int} (h0 : ¬ (0 ≤ k ∧ k < (t.kids.length : Int))) (h1 : ¬ ((t.kids.length : Int) ≤ k ∧ k - (t.kids.length : Int) < (t.cases.length : Int))) : partT t k = none := by
  rw [partT]
  by_cases h : k < 0
  · rw [if_pos h]
  · rw [if_neg h, if_neg (by omega), List.getElem?_eq_none (by omega)]; rfl
theorem part_kid' {t : Tm} {j : Nat} (h : j < t.kids.length) : partT t (j : Int) = some t.kids[j] := by
  rw [part_kid (by omega) (by omega)]; simp
theorem part_case' {t : Tm} {j : Nat} (h : j < t.cases.length) : partT t ((t.kids.length : Int) + (j : Int)) = some t.cases[j].2 := by
  rw [part_case (by omega) (by omega)]
  have e : ((t.kids.length : Int) + (j : Int) - (t.kids.length : Int)).toNat = j := by omega
  simp [e]
theorem part_none' {t : Tm} {k : Int} (h : k < 0 ∨ (t.kids.length : Int) + (t.cases.length : Int) ≤ k) : partT t k = none := part_none (by omega) (by omega)
theorem Tm.eta (x : Tm) : Tm.mk x.kind x.num x.ref x.kids x.cases = x := by cases x; rfl
theorem atT_some {t x : Tm} {k : Int} {l : List Int} (h : partT t k = some x) : atT t (k :: l) = atT x l := by rw [atT, h]; rfl
theorem atT_none {t : Tm} {k : Int} {l : List Int} (h : partT t k = none) : atT t (k :: l) = none := by rw [atT, h]; rfl
theorem mvT_id (t : Tm) : ∀ b fr, mvT 0 fr b t = t := by
  induction t using Tm.ind with
  | h k n r kids cases ih ih' =>
    intro b fr
    have h1 : ∀ (l : List Tm), (∀ x ∈ l, ∀ b fr, mvT 0 fr b x = x) → ∀ i, mvTs 0 fr b k i l = l := by
      intro l
      induction l with
      | nil => intro _ i; rw [mvTs]
      | cons x l ih2 => intro hl i; rw [mvTs, hl x (by simp), ih2 (fun y hy => hl y (by simp [hy]))]
    have h2 : ∀ (l : List (Pt × Tm)), (∀ x ∈ l, ∀ b fr, mvT 0 fr b x.2 = x.2) → mvCs 0 fr b l = l := by
      intro l
      induction l with
      | nil => intro _; rw [mvCs]
      | cons x l ih2 => obtain ⟨p, x⟩ := x; intro hl; rw [mvCs, hl (p, x) (by simp), ih2 (fun y hy => hl y (by simp [hy]))]
    rw [mvT, h1 kids ih, h2 cases ih']
    simp
def stayV (n b : Int) : Tm := .mk 1 (n + b) zS [] []
def ownQ (t : Tm) : Tm := mapQ (fun s => s) stayV 0 t
theorem own_eq {t : Tm} (h : tidy t) : ownQ t = t := by
  have : stayV = shv 0 0 := by funext n b; simp [stayV, shv]
  rw [ownQ, this]
  exact (shT_eq (Int.le_refl 0) h).trans (mvT_id t 0 0)
def atR (t : Tm) (l : List Int) : Tm × Int := match atT t l with | some x => (x, 0) | none => (zT, 1)
def putR (t : Tm) (l : List Int) (u : Tm) : Tm × Int := if (atT t l).isSome = true then (if longB (setP l t u).1 = true then (zT, 11) else ((setP l t u).1, 0)) else (zT, 1)
def atE (t : Tm) (l : List Int) : Tm × Int := if ZD [t] = 0 then atR t l else (zT, ZD [t])
def putE (t : Tm) (l : List Int) (u : Tm) : Tm × Int := if ZD [t, u] = 0 then putR t l u else (zT, ZD [t, u])
theorem atE_eq (t : Tm) (l : List Int) : atE t l = if checkR 60 8 t = 0 then atR t l else (zT, checkR 60 8 t) := by rw [atE, rightT_one]
theorem putE_eq (t : Tm) (l : List Int) (u : Tm) : putE t l u = if checkR 60 8 t = 0 then (if checkR 60 8 u = 0 then putR t l u else (zT, checkR 60 8 u)) else (zT, checkR 60 8 t) := by
  rw [putE, rightT_two]; split <;> simp_all

theorem OTs.pick {l : List Tm} : ∀ {es : List (List Value)} {c : Zm} {j : Nat} (_ : OTs l es c) (hj : j < l.length),
    ∃ e k c', es[j]? = some e ∧ OT l[j] e k ∧ c.Perm (k ++ c') ∧ ∀ x e' k', OT x e' k' → ∃ c'', OTs (l.set j x) (es.set j e') c'' ∧ (k' ++ c').Perm c'' := by
  induction l with
  | nil => intro es c j _ hj; exact absurd hj (by simp)
  | cons y l ih =>
    intro es c j h hj
    rw [OTs] at h
    obtain ⟨e, es', k, c1, rfl, ho, hs, rfl⟩ := h
    cases j with
    | zero =>
      refine ⟨e, k, c1, rfl, ho, List.Perm.refl _, fun x e' k' hx => ⟨k' ++ c1, ?_, List.Perm.refl _⟩⟩
      simp only [List.set_cons_zero]; rw [OTs]; exact ⟨e', es', k', c1, rfl, hx, hs, rfl⟩
    | succ j =>
      obtain ⟨e2, k2, c2, h1, h2, h3, h4⟩ := ih hs (by simpa using hj)
      refine ⟨e2, k2, k ++ c2, by simpa using h1, h2, ?_, fun x e' k' hx => ?_⟩
      · refine (List.Perm.append_left k h3).trans ?_
        rw [← List.append_assoc, ← List.append_assoc]; exact List.perm_append_comm.append_right c2
      · obtain ⟨c3, h5, h6⟩ := h4 x e' k' hx
        refine ⟨k ++ c3, ?_, ?_⟩
        · simp only [List.set_cons_succ]; rw [OTs]; exact ⟨e, _, k, c3, rfl, ho, h5, rfl⟩
        · refine List.Perm.trans ?_ (List.Perm.append_left k h6)
          rw [← List.append_assoc, ← List.append_assoc]; exact List.perm_append_comm.append_right c2
theorem OCs.pick {l : List (Pt × Tm)} : ∀ {es : List (List Value)} {c : Zm} {j : Nat} (_ : OCs l es c) (hj : j < l.length),
    ∃ a b k c', es[j]? = some (a ++ b) ∧ a.length = 35 ∧ okc a ∧ OT l[j].2 b k ∧ c.Perm (k ++ c') ∧ ∀ x b' k', OT x b' k' → ∃ c'', OCs (l.set j (l[j].1, x)) (es.set j (a ++ b')) c'' ∧ (k' ++ c').Perm c'' := by
  induction l with
  | nil => intro es c j _ hj; exact absurd hj (by simp)
  | cons y l ih =>
    obtain ⟨p, y⟩ := y
    intro es c j h hj
    rw [OCs] at h
    obtain ⟨a, b, es', ka, kb, c1, rfl, hp, ho, hs, rfl⟩ := h
    cases j with
    | zero =>
      refine ⟨a, b, kb, ka ++ c1, rfl, hp.len, hp.ok, ho, ?_, fun x e' k' hx => ⟨ka ++ (k' ++ c1), ?_, ?_⟩⟩
      · rw [← List.append_assoc, ← List.append_assoc]; exact List.perm_append_comm.append_right c1
      · simp only [List.set_cons_zero]; rw [OCs]; exact ⟨a, e', es', ka, k', c1, rfl, hp, hx, hs, rfl⟩
      · rw [← List.append_assoc, ← List.append_assoc]; exact List.perm_append_comm.append_right c1
    | succ j =>
      obtain ⟨a2, b2, k2, c2, h1, ha, hb, h2, h3, h4⟩ := ih hs (by simpa using hj)
      refine ⟨a2, b2, k2, (ka ++ kb) ++ c2, by simpa using h1, ha, hb, h2, ?_, fun x e' k' hx => ?_⟩
      · rw [← List.append_assoc ka]
        refine (List.Perm.append_left (ka ++ kb) h3).trans ?_
        rw [← List.append_assoc, ← List.append_assoc k2]; exact List.perm_append_comm.append_right c2
      · obtain ⟨c3, h5, h6⟩ := h4 x e' k' hx
        refine ⟨ka ++ (kb ++ c3), ?_, ?_⟩
        · simp only [List.set_cons_succ]; rw [OCs]; exact ⟨a, b, _, ka, kb, c3, rfl, hp, ho, h5, rfl⟩
        · rw [← List.append_assoc ka kb c3]
          refine List.Perm.trans ?_ (List.Perm.append_left (ka ++ kb) h6)
          rw [← List.append_assoc, ← List.append_assoc (ka ++ kb)]; exact List.perm_append_comm.append_right c2
theorem atT_pos {t : Tm} {l : List Int} (h : 0 < l.length) : atT t l = (partT t l[0]).bind fun x => atT x l.tail := by
  cases l with
  | nil => exact absurd h (by simp)
  | cons k l => rfl
theorem at_nonneg {t : Tm} {l : List Int} (h : 0 < l.length) (hs : (atT t l).isSome = true) : 0 ≤ l[0] := by
  rw [atT_pos h] at hs
  by_cases h0 : l[0] < 0
  · rw [partT, if_pos h0] at hs; cases hs
  · omega
theorem at_case_lt {t : Tm} {l : List Int} (h : 0 < l.length) (hs : (atT t l).isSome = true) (h1 : ¬ l[0] < (t.kids.length : Int)) : l[0] - (t.kids.length : Int) < (t.cases.length : Int) := by
  rw [atT_pos h] at hs
  by_cases h2 : l[0] - (t.kids.length : Int) < (t.cases.length : Int)
  · exact h2
  · rw [part_none (by omega) (by omega)] at hs; cases hs
theorem at_kid {t : Tm} {l : List Int} (h : 0 < l.length) (h0 : 0 ≤ l[0]) (h1 : l[0] < (t.kids.length : Int)) : atT t l = atT (t.kids[l[0].toNat]'(by omega)) l.tail := by
  rw [atT_pos h, part_kid h0 h1]; rfl
theorem at_case {t : Tm} {l : List Int} (h : 0 < l.length) (h0 : (t.kids.length : Int) ≤ l[0]) (h1 : l[0] - (t.kids.length : Int) < (t.cases.length : Int)) : atT t l = atT (t.cases[(l[0] - (t.kids.length : Int)).toNat]'(by omega)).2 l.tail := by
  rw [atT_pos h, part_case h0 h1]; rfl
theorem row_set {T : TypeId} {v : Value} {es : List (List Value)} {k : Zm} {h : Heap} {kids : List Tm} {x : Tm} {e : List Value} {j : Nat} (o : Own T 36 v (es.set j e) k) (hl : es.length = kids.length) (hn : kids.length ≤ 9223372036854775807) (hk : Has k h)
    (hE : ∀ i (h1 : i < es.length) (h2 : i < kids.length), RT h es[i] kids[i]) (hx : RT h e x) : Hs.rdS RT 36 h v (kids.set j x) :=
  o.rdS (by simp [hl]) (by simpa using hn) hk fun i h1 h2 => by
    rw [List.getElem_set, List.getElem_set]
    split
    · exact hx
    · exact hE i (by simpa using h1) (by simpa using h2)
theorem row_setC {T : TypeId} {v : Value} {es : List (List Value)} {k : Zm} {h : Heap} {cases : List (Pt × Tm)} {x : Tm} {a e : List Value} {p : Pt} {j : Nat} (o : Own T 71 v (es.set j (a ++ e)) k) (hl : es.length = cases.length) (hn : cases.length ≤ 9223372036854775807) (hk : Has k h)
    (hE : ∀ i (h1 : i < es.length) (h2 : i < cases.length), RC h es[i] cases[i]) (ha : RP h a p) (hx : RT h e x) : Hs.rdS RC 71 h v (cases.set j (p, x)) :=
  o.rdS (by simp [hl]) (by simpa using hn) hk fun i h1 h2 => by
    rw [List.getElem_set, List.getElem_set]
    split
    · exact ⟨a, e, rfl, ha, hx⟩
    · exact hE i (by simpa using h1) (by simpa using h2)
theorem cases_src {P : Program} {H : Heap} {v : Value} {l : List (Pt × Tm)} (o : Hs.rdS RC 71 H v l) : ∃ es : List (List Value), es.length = l.length ∧ (∀ i (h1 : i < es.length) (h2 : i < l.length), RC H es[i] l[i]) ∧ (∀ e ∈ es, e.length = 71) ∧ (∀ e ∈ es, okc e) ∧ ∀ w L, Mem w L H → Src P 71 w v l.length es.flatten := by
  obtain ⟨es, e1, e2, e3, e4⟩ := rdS.src (P := P) o
  refine ⟨es, e1, e2, e3, fun e he => ?_, fun w L m => e4 w L H (Hle.refl _) m⟩
  obtain ⟨i, hi, rfl⟩ := List.getElem_of_mem he
  exact RC_ok (e2 i hi (by omega))
theorem terms_src {P : Program} {H : Heap} {v : Value} {l : List Tm} (o : Hs.rdS RT 36 H v l) : ∃ es : List (List Value), es.length = l.length ∧ (∀ i (h1 : i < es.length) (h2 : i < l.length), RT H es[i] l[i]) ∧ (∀ e ∈ es, e.length = 36) ∧ (∀ e ∈ es, okc e) ∧ ∀ w L, Mem w L H → Src P 36 w v l.length es.flatten := by
  obtain ⟨es, e1, e2, e3, e4⟩ := rdS.src (P := P) o
  refine ⟨es, e1, e2, e3, fun e he => ?_, fun w L m => e4 w L H (Hle.refl _) m⟩
  obtain ⟨i, hi, rfl⟩ := List.getElem_of_mem he
  exact RT_ok (e2 i hi (by omega))
theorem atR_some {t : Tm} {l : List Int} (h : (atR t l).2 = 0) : (atT t l).isSome = true := by
  unfold atR at h
  cases hx : atT t l with
  | none => rw [hx] at h; cases h
  | some x => rfl
theorem putR_none {t u : Tm} {l : List Int} (h : ¬ (atR t l).2 = 0) : putR t l u = (zT, (atR t l).2) := by
  unfold atR at h ⊢
  unfold putR
  cases hx : atT t l with
  | none => rfl
  | some x => rw [hx] at h; exact absurd rfl h
theorem putR_long {t u : Tm} {l : List Int} (h : (atR t l).2 = 0) (hl : longB (setP l t u).1 = true) : putR t l u = (zT, 11) := by
  rw [putR, if_pos (atR_some h), if_pos hl]
theorem putR_put {t u : Tm} {l : List Int} (h : (atR t l).2 = 0) (hl : ¬ longB (setP l t u).1 = true) : putR t l u = ((setP l t u).1, 0) := by
  rw [putR, if_pos (atR_some h), if_neg hl]
/-! paths -/
def pathR (H : Heap) (v : Value) (l : List Int) : Prop := ∃ a cap, v = .slice a l.length cap ∧ l.length ≤ cap ∧ l.length ≤ 9223372036854775807 ∧ (l.length = 0 ∨ ∃ b o row T fr, a = some ⟨b, o, none⟩ ∧ H b = some (.cells ⟨row⟩ T fr) ∧ rows (RI H) 1 row o l)
theorem pathR.rd {H : Heap} {v : Value} {l : List Int} (h : pathR H v l) : Hs.rdS RI 1 H v l := by
  obtain ⟨a, cap, rfl, _, h2, h3⟩ := h
  exact ⟨a, cap, rfl, h2, h3⟩
theorem pathR.mono {H H' : Heap} {v : Value} {l : List Int} (hh : Hle H H') (h : pathR H v l) : pathR H' v l := by
  obtain ⟨a, cap, rfl, h1, h2, h3⟩ := h
  refine ⟨a, cap, rfl, h1, h2, h3.imp id ?_⟩
  rintro ⟨b, o, row, T, fr, e1, e2, e3⟩
  exact ⟨b, o, row, T, fr, e1, hh _ _ e2, e3⟩
theorem pathR.own {T : TypeId} {v : Value} {l : List Int} {k : Zm} {h : Heap} (o : Own T 1 v (ints l) k) (hn : l.length ≤ 9223372036854775807) (hk : Has k h) : pathR h v l := by
  have hr := own_ints o hn hk
  rcases o.2 with ⟨rfl, h1, _⟩ | ⟨b, cap, sp, rfl, rfl, h3, h4⟩
  · have : l = [] := by cases l; rfl; simp [ints] at h1
    subst this; exact ⟨none, 0, rfl, by simp, by simp, .inl rfl⟩
  · rw [ints_len] at hr h4 ⊢
    obtain ⟨a, c, e, q1, q2⟩ := hr
    cases e
    exact ⟨_, _, rfl, h4, q1, q2⟩
theorem pathR.tail {H : Heap} {v : Value} {l : List Int} (h : pathR H v l) (hl : 0 < l.length) {a : Option Addr} {n cap : Nat} (hv : v = .slice a n cap) :
    1 ≤ n ∧ pathR H (.slice (if cap = 1 then a else a.map (·.add (1 * 1))) (n - 1) (cap - 1)) l.tail := by
  obtain ⟨a', cap', e, h1, h2, h3⟩ := h
  rw [hv] at e; cases e
  refine ⟨hl, _, _, by rw [List.length_tail], by rw [List.length_tail]; omega, by rw [List.length_tail]; omega, ?_⟩
  cases l with
  | nil => exact absurd hl (by simp)
  | cons x l =>
    simp only [List.tail_cons]
    by_cases h0 : l.length = 0
    · exact .inl h0
    right
    have hc : ¬ cap = 1 := by intro e; subst e; simp only [List.length_cons] at h1; omega
    rcases h3 with h3 | ⟨b, o, row, T, fr, rfl, e2, e3⟩
    · simp at h3
    · refine ⟨b, o + 1, row, T, fr, ?_, e2, e3.2⟩
      rw [if_neg hc]; simp [Addr.add]
theorem flatten_splP {sz o : Nat} {es : List (List Value)} {sp e vs e2 : List Value} (h : ∀ e ∈ es, e.length = sz) (hs : spl e o vs = some e2) : ∀ i, es[i]? = some e → spl (es.flatten ++ sp) (i * sz + o) vs = some ((es.set i e2).flatten ++ sp) := by
  induction es with
  | nil => intro i he; simp at he
  | cons x es ih =>
    intro i he
    cases i with
    | zero =>
      have : x = e := by simpa using he
      subst this
      rw [Nat.zero_mul, Nat.zero_add, List.flatten_cons, List.set_cons_zero, List.flatten_cons, List.append_assoc, List.append_assoc]
      exact spl_l hs
    | succ i =>
      have := ih (fun y hy => h y (by simp [hy])) i (by simpa using he)
      rw [Nat.succ_mul, Nat.add_comm (i * sz) sz, Nat.add_assoc, List.flatten_cons, List.set_cons_succ, List.flatten_cons, List.append_assoc, List.append_assoc]
      exact spl_r (h x (by simp)) this
theorem Sub.mid {M : List Zm} {a b c d : Zm} (h : Sub [a ++ (b ++ d)] M) (e : b.Perm c) : Sub [a ++ (c ++ d)] M := h.perm (by
  simp only [List.flatten_cons, List.flatten_nil, List.append_nil]
  exact (e.append_right d).append_left a)
theorem Sub.mid4 {M : List Zm} {a b c d e : Zm} (h : Sub [a ++ (b ++ (c ++ d))] M) (p : d.Perm e) : Sub [a ++ (b ++ (c ++ e))] M := h.perm (by
  simp only [List.flatten_cons, List.flatten_nil, List.append_nil]
  exact ((p.append_left c).append_left b).append_left a)
theorem Sub.join5 {M R : List Zm} {a b c d e : Zm} (h : Sub (a :: b :: c :: d :: e :: R) M) : Sub ((a ++ (b ++ (c ++ (d ++ e)))) :: R) M := h.flat (by simp)
theorem Sub.rep {M : List Zm} {a b : Zm} {R : List Zm} (h : Sub (a :: R) M) (e : a.Perm b) : Sub (b :: R) M := h.perm (by simpa using e.append_right _)
section
variable {c : Cx} {H : Heap} {ρ : Nat → Value} {M : List Zm} {K : Value → List Zm → Prop} {d : Option Nat} {ot : TypeId} {pos : String} {af : Array Edge} {g : Option (Nat × Bool)} {x y : Operand}
/-- A store into a part of an element of an owned row. -/
theorem Runs_storeOwnP {T : TypeId} {i j sz sz' o b : Nat} {ag : Bool} {v s : Value} {es : List (List Value)} {e vs e2 : List Value} {k : Zm} {el : TypeId} (ty : Ty c.P T ag sz')
    (hi : M[i]? = some k) (ho : Own el sz s es k) (hs : ∃ n cap, s = .slice (some ⟨b, 0, none⟩) n cap) (hx : ev c.n ρ x = .pointer (some ⟨b, 0 + j * sz + o, none⟩)) (he : es[j]? = some e) (hy : ev c.n ρ y = v) (hv : v.cells = ⟨vs⟩) (hn : vs.length = sz') (hok : okc vs)
    (hl : spl e o vs = some e2) (hl2 : e2.length = sz) (h : ∀ k', Own el sz s (es.set j e2) k' → K undef (M.set i k')) :
    Runs c H ⟨d, .store T x y, ot, pos, af, g⟩ ρ M K := by
  obtain ⟨n, cap', hs⟩ := hs
  rcases ho.2 with ⟨e1, h2, e3⟩ | ⟨b', cap, sp, e1, h2, e3, e4⟩
  · subst h2; simp at he
  · rw [e1] at hs
    cases hs
    subst h2
    rw [Nat.zero_add] at hx
    refine Runs_store (k₁ := []) (k₂ := []) ty hx hy hv hn hok hi (flatten_splP ho.1 hl j he) (h _ ⟨fun a ha => ?_, .inr ⟨b, cap', sp, by rw [e1, List.length_set], rfl, by rw [List.length_set]; exact e3, by rw [List.length_set]; exact e4⟩⟩)
    rcases List.mem_or_eq_of_mem_set ha with ha | ha
    · exact ho.1 a ha
    · subst ha; exact hl2
end
/-- A call to which nothing that is owned is lent. -/
theorem JL_call0 {c : Cx} {H : Heap} {ρ : Nat → Value} {M : List Zm} {Q : Post} {ops : Array Oper} {rest : List Oper} {d : Option Nat} {ot : TypeId} {pos : String} {af : Array Edge} {g : Option (Nat × Bool)} {x : Operand} {ars : List Operand} {ats : Array TypeId} {f : FuncId} {fv vs cv : List Value} {post : Value → List Zm → Prop}
    (hg : wnt ops c.n ρ ⟨d, .call { callee := .value x, args := ars.toArray, argTypes := ats }, ot, pos, af, g⟩ = true)
    (hcall : ∀ args w, (callFunc f args).run c.P w = .ok (.enter f args) w)
    (hx : ev c.n ρ x = .func (.func f) ⟨fv⟩ ⟨cv⟩)
    (hc : CT c.P f ⟨fv ++ vs ++ cv⟩ [] H post)
    (ha : ars.map (ev c.n ρ) = vs)
    (h : ∀ v N, post v N → JL c H ops rest (updo ρ d v) (N ++ M) Q) :
    JL c H ops (⟨d, .call { callee := .value x, args := ars.toArray, argTypes := ats }, ot, pos, af, g⟩ :: rest) ρ M Q := fun F rs w m => by
  unfold wlo
  rw [wanted_eq, hg, if_pos rfl]
  refine ⟨fun _ _ => trivial, ?_⟩
  rw [act_eval', semAt_exec (by simp), exec_enter hx ha hcall w]
  refine ⟨fun h => by simp [Fw] at h, ?_⟩
  refine (hc (M.flatten ++ (dfb rs ++ F)) w (by simpa using m)).mono fun e w' ⟨v, N, he', hm', hp⟩ => ?_
  subst he'
  have m3 : Mem w' ((N ++ M).flatten ++ (dfb rs ++ F)) H := by
    rw [List.flatten_append, List.append_assoc]; exact hm'
  show wlo c ops (lift c H F Q) rest ((act c.n (marks rs) ρ).put d v) w'
  rw [act_put]
  exact h v N hp F rs w' m3
section
variable {c : Cx} {H : Heap} {ρ : Nat → Value} {M : List Zm} {K : Value → List Zm → Prop} {d : Option Nat} {ot : TypeId} {pos : String} {af : Array Edge} {g : Option (Nat × Bool)} {x y : Operand}
/-- all but the first of a path -/
theorem Runs_slice1 {T el : TypeId} {k : IntKind} {v : Value} {l : List Int} {H0 : Heap} (hp : pathR H0 v l) (hl : 0 < l.length) (hT : ∀ w, (underlying T).run c.P w = .ok (.slice el) w) (hsz : ∀ w, (sizeOf el).run c.P w = .ok 1 w) (hx : ev c.n ρ x = v) (hy : ev c.n ρ y = .int k 1)
    (h : ∀ u, (∀ h, pathR h v l → pathR h u l.tail) → K u M) : Runs c H ⟨d, .slice T x (some y) none none, ot, pos, af, g⟩ ρ M K := fun F w m => by
  obtain ⟨a, cap, rfl, h1, h2⟩ := hp
  refine ⟨_, w, M, .inl ?_, m, h (.slice (if cap = 1 then a else a.map (·.add (1 * 1))) (l.length - 1) (cap - 1)) (fun h' q => (q.tail hl rfl).2)⟩
  have : (1 : Int) ≤ (l.length : Int) := by omega
  simp [execOp, Instr.sliceAt, Instr.slice, Instr.sliceBounds, Instr.sliceBound, asIntOf, hx, hy, hT, hsz, Result.andThen, this]
end
end Go.Proofs.YtdeinimmmjichaaGreat.Hs
/-! Walks, printed by a program of this session's own (gen.py). -/
namespace Go.Proofs.YtdeinimmmjichaaGreat.Hs
open Go Go.Proofs
set_option maxRecDepth 100000
set_option linter.unusedVariables false
set_option linter.unusedSimpArgs false
attribute [local irreducible] JL J CT wlo
theorem more_ct (k j : Int) (H : Heap) : CT Tryz.prog 101 ⟨[.int .i64 k, .int .i64 j]⟩ [] H (fun v N => v = .int .i64 (more k j) ∧ N = []) := by
 refine Zr Tryz.func101 rfl rfl ?_
 refine Zg (Zc ?_)
 refine Za (v := .int .i64 0) rfl (Pu.assign rfl) ?_
 refine Zb ?_
 refine Zg ?_
 refine Zs ?_
 refine Zg ?_
 refine Zg (Zc ?_)
 refine Za (v := .int .i64 k) rfl (Pu.move rfl) ?_
 refine Za (v := .bool (decide (k = 3))) rfl (Pu.eql rfl rfl) ?_
 refine Za (v := .bool (decide (k = 3))) rfl (Pu.assign rfl) ?_
 refine Zb ?_
 refine Zl (b := decide (k = 3)) rfl (fun h1 => ?_) (fun h1 => ?_)
 ·replace h1 := dt h1
  refine Zq ?_
  refine Zl (b := decide (k = 3)) rfl (fun _ => ?_) (fun h2 => absurd h1 (df h2))
  refine Zg (Zc ?_)
  refine Za (v := .int .i64 1) rfl (Pu.assign rfl) ?_
  refine Zb ?_
  refine Zo ?_
  refine ⟨.int .i64 1, [], Ret.one rfl (RV.tmp rfl), Sub.nil, ?_⟩
  exact ⟨by first | (simp_all [more]; done) | (congr 1; unfold more; simp_all; try omega), rfl⟩
 replace h1 := df h1
 refine J_cut (fun ρ M => ρ 0 = .int .i64 k ∧ ρ 1 = .int .i64 j ∧ ρ 4 = .int .i64 0 ∧ ρ 5 = .bool ((decide (k = 5)) && (decide (j = 1))) ∧ M = []) ?_ ?_
 ·refine Zc ?_
  refine Za (v := .int .i64 k) rfl (Pu.move rfl) ?_
  refine Za (v := .bool (decide (k = 5))) rfl (Pu.eql rfl rfl) ?_
  refine Za (v := .bool (decide (k = 5))) rfl (Pu.move rfl) ?_
  cases h3 : (decide (k = 5)) with
  | true =>
   replace h3 := dt h3
   refine Za (v := .int .i64 j) rfl (Pu.move rfl) ?_
   refine Za (v := .bool (decide (j = 1))) rfl (Pu.eql rfl rfl) ?_
   refine Za (v := .bool (decide (j = 1))) rfl (Pu.pickT rfl rfl) ?_
   refine Za (v := .bool (decide (j = 1))) rfl (Pu.assign rfl) ?_
   refine Zb ?_
   first | exact ⟨rfl, rfl, rfl, rfl, rfl⟩ | (exfalso; omega)
  | false =>
   replace h3 := df h3
   refine Zf rfl ?_
   refine Zf rfl ?_
   refine Za (v := .bool false) rfl (Pu.pickF rfl rfl) ?_
   refine Za (v := .bool false) rfl (Pu.assign rfl) ?_
   refine Zb ?_
   first | exact ⟨rfl, rfl, rfl, rfl, rfl⟩ | (exfalso; omega)
 rintro ρ4 _ ⟨e5, e6, e7, e8, rfl⟩
 obtain ⟨ρ9, rfl⟩ := Ze (uc e5 (uc e6 (uc e7 (uc e8 un))))
 clear e5 e6 e7 e8
 refine Zl (b := (decide (k = 5)) && (decide (j = 1))) rfl (fun h10 => ?_) (fun h10 => ?_)
 ·obtain ⟨h10a, h10b⟩ := andT h10
  replace h10a := dt h10a
  replace h10b := dt h10b
  refine Zq ?_
  refine Zl (b := (decide (k = 5)) && (decide (j = 1))) rfl (fun h11 => ?_) (fun h11 => ?_)
  ·obtain ⟨h11a, h11b⟩ := andT h11
   replace h11a := dt h11a
   replace h11b := dt h11b
   refine Zg (Zc ?_)
   refine Za (v := .int .i64 1) rfl (Pu.assign rfl) ?_
   refine Zb ?_
   refine Zo ?_
   refine ⟨.int .i64 1, [], Ret.one rfl (RV.tmp rfl), Sub.nil, ?_⟩
   exact ⟨by first | (simp_all [more]; done) | (congr 1; unfold more; simp_all; try omega), rfl⟩
  refine J_cut (fun ρ M => ρ 4 = .int .i64 0 ∧ ρ 20 = .bool ((decide (k = 12)) && (decide (1 < j))) ∧ M = []) ?_ ?_
  ·refine Zc ?_
   refine Za (v := .int .i64 k) rfl (Pu.move rfl) ?_
   refine Za (v := .bool (decide (k = 12))) rfl (Pu.eql rfl rfl) ?_
   refine Za (v := .bool (decide (k = 12))) rfl (Pu.move rfl) ?_
   cases h12 : (decide (k = 12)) with
   | true =>
    replace h12 := dt h12
    refine Za (v := .int .i64 j) rfl (Pu.move rfl) ?_
    refine Za (v := .bool (decide (1 < j))) rfl (Pu.gtr rfl rfl) ?_
    refine Za (v := .bool (decide (1 < j))) rfl (Pu.pickT rfl rfl) ?_
    refine Za (v := .bool (decide (1 < j))) rfl (Pu.assign rfl) ?_
    refine Zb ?_
    first | exact ⟨rfl, rfl, rfl⟩ | (exfalso; omega)
   | false =>
    replace h12 := df h12
    refine Zf rfl ?_
    refine Zf rfl ?_
    refine Za (v := .bool false) rfl (Pu.pickF rfl rfl) ?_
    refine Za (v := .bool false) rfl (Pu.assign rfl) ?_
    refine Zb ?_
    first | exact ⟨rfl, rfl, rfl⟩ | (exfalso; omega)
  rintro ρ13 _ ⟨e14, e15, rfl⟩
  obtain ⟨ρ16, rfl⟩ := Ze (uc e14 (uc e15 un))
  clear e14 e15
  refine Zl (b := (decide (k = 12)) && (decide (1 < j))) rfl (fun h17 => ?_) (fun h17 => ?_)
  ·obtain ⟨h17a, h17b⟩ := andT h17
   replace h17a := dt h17a
   replace h17b := dt h17b
   refine Zg (Zc ?_)
   refine Za (v := .int .i64 2) rfl (Pu.assign rfl) ?_
   refine Zb ?_
   refine Zo ?_
   refine ⟨.int .i64 2, [], Ret.one rfl (RV.tmp rfl), Sub.nil, ?_⟩
   exact ⟨by first | (simp_all [more]; done) | (congr 1; unfold more; simp_all; try omega), rfl⟩
  refine Zq ?_
  refine Zg (Zc ?_)
  refine Za (v := .int .i64 0) rfl (Pu.assign rfl) ?_
  refine Zb ?_
  refine Zo ?_
  refine ⟨.int .i64 0, [], Ret.one rfl (RV.tmp rfl), Sub.nil, ?_⟩
  exact ⟨by first | (simp_all [more]; done) | (congr 1; unfold more; simp_all; try omega), rfl⟩
 refine J_weak (N := fun ρ M => ρ 0 = .int .i64 k ∧ ρ 1 = .int .i64 j ∧ ρ 4 = .int .i64 0 ∧ ρ 5 = .bool ((decide (k = 12)) && (decide (j = 1))) ∧ M = []) ?_ ?_
 ·refine Zc ?_
  refine Za (v := .int .i64 k) rfl (Pu.move rfl) ?_
  refine Za (v := .bool (decide (k = 12))) rfl (Pu.eql rfl rfl) ?_
  refine Za (v := .bool (decide (k = 12))) rfl (Pu.move rfl) ?_
  cases h18 : (decide (k = 12)) with
  | true =>
   replace h18 := dt h18
   refine Za (v := .int .i64 j) rfl (Pu.move rfl) ?_
   refine Za (v := .bool (decide (j = 1))) rfl (Pu.eql rfl rfl) ?_
   refine Za (v := .bool (decide (j = 1))) rfl (Pu.pickT rfl rfl) ?_
   refine Za (v := .bool (decide (j = 1))) rfl (Pu.assign rfl) ?_
   refine Zb ?_
   first | exact ⟨rfl, rfl, rfl, rfl, rfl⟩ | (exfalso; omega)
  | false =>
   replace h18 := df h18
   refine Zf rfl ?_
   refine Zf rfl ?_
   refine Za (v := .bool false) rfl (Pu.pickF rfl rfl) ?_
   refine Za (v := .bool false) rfl (Pu.assign rfl) ?_
   refine Zb ?_
   first | exact ⟨rfl, rfl, rfl, rfl, rfl⟩ | (exfalso; omega)
 rintro ρ19 _ ⟨e20, e21, e22, e23, rfl⟩
 obtain ⟨ρ24, rfl⟩ := Ze (uc e20 (uc e21 (uc e22 (uc e23 un))))
 clear e20 e21 e22 e23
 refine Zl (b := (decide (k = 12)) && (decide (j = 1))) rfl (fun h25 => ?_) (fun h25 => ?_)
 ·obtain ⟨h25a, h25b⟩ := andT h25
  replace h25a := dt h25a
  replace h25b := dt h25b
  refine Zg (Zc ?_)
  refine Za (v := .int .i64 1) rfl (Pu.assign rfl) ?_
  refine Zb ?_
  refine Zo ?_
  refine ⟨.int .i64 1, [], Ret.one rfl (RV.tmp rfl), Sub.nil, ?_⟩
  exact ⟨by first | (simp_all [more]; done) | (congr 1; unfold more; simp_all; try omega), rfl⟩
 refine J_cut (fun ρ M => ρ 4 = .int .i64 0 ∧ ρ 20 = .bool ((decide (k = 12)) && (decide (1 < j))) ∧ M = []) ?_ ?_
 ·refine Zc ?_
  refine Za (v := .int .i64 k) rfl (Pu.move rfl) ?_
  refine Za (v := .bool (decide (k = 12))) rfl (Pu.eql rfl rfl) ?_
  refine Za (v := .bool (decide (k = 12))) rfl (Pu.move rfl) ?_
  cases h26 : (decide (k = 12)) with
  | true =>
   replace h26 := dt h26
   refine Za (v := .int .i64 j) rfl (Pu.move rfl) ?_
   refine Za (v := .bool (decide (1 < j))) rfl (Pu.gtr rfl rfl) ?_
   refine Za (v := .bool (decide (1 < j))) rfl (Pu.pickT rfl rfl) ?_
   refine Za (v := .bool (decide (1 < j))) rfl (Pu.assign rfl) ?_
   refine Zb ?_
   first | exact ⟨rfl, rfl, rfl⟩ | (exfalso; omega)
  | false =>
   replace h26 := df h26
   refine Zf rfl ?_
   refine Zf rfl ?_
   refine Za (v := .bool false) rfl (Pu.pickF rfl rfl) ?_
   refine Za (v := .bool false) rfl (Pu.assign rfl) ?_
   refine Zb ?_
   first | exact ⟨rfl, rfl, rfl⟩ | (exfalso; omega)
 rintro ρ27 _ ⟨e28, e29, rfl⟩
 obtain ⟨ρ30, rfl⟩ := Ze (uc e28 (uc e29 un))
 clear e28 e29
 refine Zl (b := (decide (k = 12)) && (decide (1 < j))) rfl (fun h31 => ?_) (fun h31 => ?_)
 ·obtain ⟨h31a, h31b⟩ := andT h31
  replace h31a := dt h31a
  replace h31b := dt h31b
  refine Zg (Zc ?_)
  refine Za (v := .int .i64 2) rfl (Pu.assign rfl) ?_
  refine Zb ?_
  refine Zo ?_
  refine ⟨.int .i64 2, [], Ret.one rfl (RV.tmp rfl), Sub.nil, ?_⟩
  exact ⟨by first | (simp_all [more]; done) | (congr 1; unfold more; simp_all; try omega), rfl⟩
 refine Zq ?_
 refine Zg (Zc ?_)
 refine Za (v := .int .i64 0) rfl (Pu.assign rfl) ?_
 refine Zb ?_
 refine Zo ?_
 refine ⟨.int .i64 0, [], Ret.one rfl (RV.tmp rfl), Sub.nil, ?_⟩
 exact ⟨by first | (simp_all [more]; done) | (congr 1; unfold more; simp_all; try omega), rfl⟩
theorem off_ct (n lo hi : Int) (H : Heap) : CT Tryz.prog 76 ⟨[.int .i64 n, .int .i64 lo, .int .i64 hi]⟩ [] H (fun v N => v = .bool (decide (n < lo ∨ hi < n)) ∧ N = []) := by
 refine Zr Tryz.func76 rfl rfl ?_
 refine Zg (Zc ?_)
 refine Za (v := .bool false) rfl (Pu.assign rfl) ?_
 refine Zb ?_
 refine J_cut (fun ρ M => ρ 6 = .bool ((decide (n < lo)) || (decide (hi < n))) ∧ M = []) ?_ ?_
 ·refine Zc ?_
  refine Za (v := .int .i64 n) rfl (Pu.move rfl) ?_
  refine Za (v := .int .i64 lo) rfl (Pu.move rfl) ?_
  refine Za (v := .bool (decide (n < lo))) rfl (Pu.lss rfl rfl) ?_
  refine Za (v := .bool (decide (n < lo))) rfl (Pu.move rfl) ?_
  cases h1 : (decide (n < lo)) with
  | true =>
   replace h1 := dt h1
   refine Zf rfl ?_
   refine Zf rfl ?_
   refine Zf rfl ?_
   refine Za (v := .bool true) rfl (Pu.pickT rfl rfl) ?_
   refine Za (v := .bool true) rfl (Pu.assign rfl) ?_
   refine Zb ?_
   first | exact ⟨rfl, rfl⟩ | (exfalso; omega)
  | false =>
   replace h1 := df h1
   refine Za (v := .int .i64 n) rfl (Pu.move rfl) ?_
   refine Za (v := .int .i64 hi) rfl (Pu.move rfl) ?_
   refine Za (v := .bool (decide (hi < n))) rfl (Pu.gtr rfl rfl) ?_
   refine Za (v := .bool (decide (hi < n))) rfl (Pu.pickF rfl rfl) ?_
   refine Za (v := .bool (decide (hi < n))) rfl (Pu.assign rfl) ?_
   refine Zb ?_
   first | exact ⟨rfl, rfl⟩ | (exfalso; omega)
 rintro ρ2 _ ⟨e3, rfl⟩
 obtain ⟨ρ4, rfl⟩ := Ze (uc e3 un)
 clear e3
 refine Zo ?_
 refine ⟨.bool ((decide (n < lo)) || (decide (hi < n))), [], Ret.one rfl (RV.tmp rfl), Sub.nil, ?_⟩
 exact ⟨by simp, rfl⟩
theorem binds_ct : ∀ (p : Pt) (cs : List Value) (H : Heap), RP H cs p → binds p ≤ 1000000 → CT Tryz.prog 53 ⟨[.agg ⟨cs⟩]⟩ [] H (fun v N => v = .int .i64 (binds p : Int) ∧ N = []) := by
 intro p
 induction p using Pt.ind with
 | h kind num ref kids ih =>
 intro cs H hp hb
 obtain ⟨ks, rfl, hk, hn, hks⟩ := RP_mk.1 hp
 rw [binds] at hb ⊢
 refine Zr Tryz.func53 rfl rfl ?_
 refine Zg (Zc ?_)
 refine Zd rfl (Zx (l := pkP kind num ref ks) rfl rfl fun b1 => ?_)
 refine Za (v := .int .i64 0) rfl (Pu.assign rfl) ?_
 refine Zb ?_
 refine Zg ?_
 refine Zg (Zc ?_)
 refine Za (v := .pointer (some ⟨b1, 0, none⟩)) rfl (fa30_0 rfl rfl) ?_
 refine Zd rfl (Zh ty3 rfl (At.bx 0 rfl) (pkP_0 ..) ?_)
 refine Za (v := .bool (decide (kind = 1))) rfl (Pu.eql rfl rfl) ?_
 refine Zb ?_
 refine Zl (b := decide (kind = 1)) rfl (fun h2 => ?_) (fun h2 => ?_)
 ·replace h2 := dt h2
  refine Zg (Zc ?_)
  refine Za (v := .int .i64 1) rfl (Pu.assign rfl) ?_
  refine Zb ?_
  refine Zo ?_
  refine ⟨.int .i64 1, [], Ret.one rfl (RV.tmp rfl), Sub.nil, ?_⟩
  exact ⟨by rw [if_pos (by assumption)]; rfl, rfl⟩
 replace h2 := df h2
 refine Zq ?_
 refine Zg (Zc ?_)
 refine Za (v := .int .i64 0) rfl (Pu.assign rfl) ?_
 refine Zb ?_
 refine Zg ?_
 refine Zg (Zc ?_)
 refine Za (v := .pointer (some ⟨b1, 34, none⟩)) rfl (fa30_3 rfl rfl) ?_
 refine Zd rfl (Zh ty28 rfl (At.bx 0 rfl) (pkP_34 ..) ?_)
 obtain ⟨a3, cap3, hv3⟩ := hks.sl
 have hle3 := hks.le
 refine Za (v := .int .i64 ((kids.length : Int))) rfl (Pu.lenSl Tryz.runUnderlying28 hv3) ?_
 refine Za (v := .int .i64 0) rfl (Pu.move rfl) ?_
 refine Zb ?_
 refine Zs ?_
 refine J_loop (fun k ρ M => ∃ (j : Nat), ρ 2 = .int .i64 0 ∧ ρ 3 = .int .i64 ((bindsL (kids.take j) : Int)) ∧ ρ 10 = ks ∧ ρ 11 = .int .i64 ((kids.length : Int)) ∧ ρ 12 = .int .i64 ((j : Int)) ∧ Sub [[(b1, .cells ⟨pkP kind num ref ks⟩ 30 (0, 0))]] M ∧ j ≤ kids.length ∧ k = kids.length - j) _ ⟨0, rfl, rfl, rfl, rfl, rfl, (Sk Sub.nil), Nat.zero_le _, rfl⟩ ?_
 rintro _ ρ4 _ ⟨j, e5, e6, e7, e8, e9, hm10, hj, rfl⟩
 obtain ⟨ρ11, rfl⟩ := Ze (uc e5 (uc e6 (uc e7 (uc e8 (uc e9 un)))))
 clear e5 e6 e7 e8 e9
 refine J_sub hm10 ?_
 have hlen := hks.le
 refine Zg (Zc ?_)
 refine Za (v := .bool (decide ((j : Int) < (kids.length : Int)))) rfl (Pu.lss rfl rfl) ?_
 refine Zb ?_
 refine Zg ?_
 refine Zl (b := decide ((j : Int) < (kids.length : Int))) rfl (fun h12 => ?_) (fun h12 => ?_)
 ·replace h12 := dt h12
  have h12n : j < kids.length := by omega
  have hm1 := binds_mem kids _ (List.getElem_mem h12n)
  have hm2 := bindsL_take kids _ h12n
  have hm3 := bindsL_take_le kids (j + 1)
  rw [if_neg (by assumption)] at hb
  refine Zq ?_
  refine Zg ?_
  refine Zs ?_
  refine Zg (Zc ?_)
  obtain ⟨b13, o13, cap13, row13, T13, fr13, cs13, hv13, hb13, hs13, hE13⟩ := hks.get j (by first | assumption | omega | decide | simp)
  refine Za (v := .pointer (some ⟨b13, o13 + j * 35, none⟩)) rfl (Pu.idx j Tryz.runUnderlying28 ty30 hv13 rfl rfl (by first | assumption | omega | decide | simp)) ?_
  refine Zd rfl (Zj ty30 rfl (At.im hb13) hs13 ?_)
  refine Zd rfl (Zn (l := pkP 0 0 zS (.slice none 0 0)) Tryz.zeroValue30 rfl fun b14 => ?_)
  refine Zd rfl (Zi 0 (vs := cs13) (l := cs13) ty30 rfl rfl rfl rfl (RP_len hE13) (RP_ok hE13) (spl_a (n := 35) rfl (RP_len hE13)) ?_)
  refine Zb ?_
  refine Zc ?_
  refine Za (v := .int .i64 ((bindsL (kids.take j) : Int))) rfl (Pu.move rfl) ?_
  refine Zd rfl (Zj ty30 rfl (At.bx 0 rfl) (Zy (RP_len hE13)) ?_)
  refine Zk rfl Tryz.call53 rfl (fun hin => ih _ (List.getElem_mem h12n) _ _ (RP.mono (Hle.hu _ _) hE13) (by omega)) rfl ?_
  rintro _ _ ⟨rfl, rfl⟩
  refine Za (v := .int .i64 ((bindsL (kids.take j) : Int) + ((binds (kids[j]) : Int)))) rfl (Pu.add64 rfl rfl (by first | omega | (constructor <;> omega))) ?_
  refine Za (v := .int .i64 ((bindsL (kids.take j) : Int) + ((binds (kids[j]) : Int)))) rfl (Pu.assign rfl) ?_
  refine Zb ?_
  refine Zc ?_
  refine Za (v := .int .i64 (((j + 1 : Nat) : Int))) rfl (Pu.inc rfl rfl (by omega)) ?_
  refine Za (v := .int .i64 (((j + 1 : Nat) : Int))) rfl (Pu.move rfl) ?_
  refine Zb ?_
  refine ⟨_, ?_, (j + 1), rfl, (ieq rfl (by omega)), rfl, rfl, rfl, (Sd (Sk Sub.nil)), ?_, rfl⟩
  ·omega
  omega
 replace h12 := df h12
 have h12n : kids.length ≤ j := by omega
 refine J_exit _ rfl ?_
 refine Zg (Zc ?_)
 refine Za (v := .int .i64 ((bindsL (kids.take j) : Int))) rfl (Pu.move rfl) ?_
 refine Za (v := .int .i64 ((bindsL (kids.take j) : Int))) rfl (Pu.assign rfl) ?_
 refine Zb ?_
 refine Zo ?_
 refine ⟨.int .i64 ((bindsL (kids.take j) : Int)), [], Ret.one rfl (RV.tmp rfl), Sub.nil, ?_⟩
 exact ⟨by rw [if_neg (by assumption), List.take_of_length_le h12n], rfl⟩
end Go.Proofs.YtdeinimmmjichaaGreat.Hs
/-! Walks, printed by a program of this session's own (gen.py). -/
namespace Go.Proofs.YtdeinimmmjichaaGreat.Hs
open Go Go.Proofs
set_option maxRecDepth 100000
set_option linter.unusedVariables false
set_option linter.unusedSimpArgs false
attribute [local irreducible] JL J CT wlo
theorem stay_ct (n b : Int) (H : Heap) (hb : inI (n + b)) : CT Tryz.prog 79 ⟨[.int .i64 n, .int .i64 b]⟩ [] H (fun v N => ∃ cs k, v = .agg ⟨cs⟩ ∧ N = [k] ∧ OT (.mk 1 (n + b) zS [] []) cs k) := by
 have hb1 : -9223372036854775808 ≤ n + b := hb.1
 have hb2 : n + b ≤ 9223372036854775807 := hb.2
 refine Zr Tryz.func79 rfl rfl ?_
 refine Zg (Zc ?_)
 refine Zd rfl (Zn (l := pkT 0 0 zS (.slice none 0 0) (.slice none 0 0)) Tryz.zeroValue27 rfl fun b1 => ?_)
 refine Zb ?_
 refine Zg (Zc ?_)
 refine Za (v := .int .i64 n) rfl (Pu.move rfl) ?_
 refine Za (v := .int .i64 b) rfl (Pu.move rfl) ?_
 refine Za (v := .int .i64 (n + b)) rfl (Pu.add64 rfl rfl (by first | omega | (constructor <;> omega))) ?_
 refine Za (v := .agg ⟨pkT 1 (n + b) zS (.slice none 0 0) (.slice none 0 0)⟩) rfl (Pu.build (pv := [(0, .int .i64 1), (1, .int .i64 (n + b))]) (l := pkT 1 (n + b) zS (.slice none 0 0) (.slice none 0 0)) rfl (bld27_0_1 _ _)) ?_
 refine Zd rfl (Zi 0 (vs := pkT 1 (n + b) zS (.slice none 0 0) (.slice none 0 0)) (l := pkT 1 (n + b) zS (.slice none 0 0) (.slice none 0 0)) Zt rfl rfl rfl rfl rfl (pkT_ok rfl rfl) (pkT_s ..) ?_)
 refine Zb ?_
 refine Zo ?_
 refine ⟨.agg ⟨pkT 1 (n + b) zS (.slice none 0 0) (.slice none 0 0)⟩, [[]], Ret.one rfl (RV.cell Zt rfl (At.bx 0 rfl) (pkT_a ..)), (Sub.emp Sub.nil), ?_⟩
 exact ⟨_, _, rfl, rfl, OT_leaf (by unfold inI; omega) hb⟩
theorem same_ct (s : Sm) (H : Heap) : CT Tryz.prog 80 ⟨[.agg ⟨sC s⟩]⟩ [] H (fun v N => v = .agg ⟨sC s⟩ ∧ N = []) := by
 refine Zr Tryz.func80 rfl rfl ?_
 refine Zg (Zc ?_)
 refine Zd rfl (Zx (l := sC s) rfl rfl fun b1 => ?_)
 refine Zd rfl (Zn (l := sC zS) Tryz.zeroValue23 rfl fun b2 => ?_)
 refine Zb ?_
 refine Zg (Zc ?_)
 refine Zd rfl (Zj ty23 rfl (At.bx 1 rfl) (Zy rfl) ?_)
 refine Zd rfl (Zi 0 (vs := sC s) (l := sC s) ty23 rfl rfl rfl rfl rfl (sC_ok _) (spl_a rfl rfl) ?_)
 refine Zb ?_
 refine Zo ?_
 refine ⟨.agg ⟨sC s⟩, [], Ret.one rfl (RV.cell ty23 rfl (At.bx 0 rfl) (Zy rfl)), Sub.nil, ?_⟩
 exact ⟨rfl, rfl⟩
theorem mapPattern_ct : ∀ (gr : Nat) (frs crs : List Value) (hcallr : ∀ args w, (callFunc gr args).run Tryz.prog w = .ok (.enter gr args) w) (rf : Sm → Sm) (fv : Value) (hfv : fv.oneCell' = true) (p : Pt) (cs : List Value) (H : Heap), RP H cs p → (∀ s h, Hle H h → CT Tryz.prog gr ⟨frs ++ [.agg ⟨sC s⟩] ++ crs⟩ [] h (fun v N => v = .agg ⟨sC (rf s)⟩ ∧ N = [])) → sizeP p ≤ 1000000 → CT Tryz.prog 103 ⟨[.agg ⟨[fv, .func (.func gr) ⟨frs⟩ ⟨crs⟩]⟩, .agg ⟨cs⟩]⟩ [] H (fun v N => ∃ cs k, v = .agg ⟨cs⟩ ∧ N = [k] ∧ OP (mapP rf p) cs k) := by
 intro gr frs crs hcallr rf fv hfv p
 induction p using Pt.ind with
 | h kind num ref kids ih =>
 intro cs H hp hgr hz
 rw [sizeP] at hz
 have hlk := len_sizePs kids
 obtain ⟨ks, rfl, hk, hn, hks⟩ := RP_mk.1 hp
 refine Zr Tryz.func103 rfl rfl ?_
 refine Zg (Zc ?_)
 refine Zd rfl (Zx (l := [fv, .func (.func gr) ⟨frs⟩ ⟨crs⟩]) rfl rfl fun b1 => ?_)
 refine Zd rfl (Zx (l := pkP kind num ref ks) rfl rfl fun b2 => ?_)
 refine Zd rfl (Zn (l := pkP 0 0 zS (.slice none 0 0)) Tryz.zeroValue30 rfl fun b3 => ?_)
 refine Zb ?_
 refine Zg ?_
 refine J_draw mixed #[0, 1, 0, 4, 0, 16, 0, 64, 240, 511, 0, 2047] 11 11 3 rfl (by kernel_rfl) (fun i r4 N4 => match i with | 0 => (r4 0) = .pointer (some ⟨b2, 0, none⟩) | 1 => (r4 1) = .int .i64 kind | 2 => (r4 2) = .pointer (some ⟨b2, 1, none⟩) | 3 => (r4 3) = .int .i64 num | 4 => (r4 4) = .pointer (some ⟨b1, 1, none⟩) | 5 => (r4 5) = .func (.func gr) ⟨frs⟩ ⟨crs⟩ | 6 => (r4 6) = .pointer (some ⟨b2, 2, none⟩) | 7 => (r4 7) = .agg ⟨sC ref⟩ | 8 => (r4 8) = .agg ⟨sC (rf ref)⟩ | 9 => (r4 9) = .agg ⟨pkP kind num (rf ref) (.slice none 0 0)⟩ | 10 => (r4 10) = .pointer (some ⟨(pblk (r4 10)), 0, none⟩) ∧ (N4 10) = [((pblk (r4 10)), .cells ⟨pkP 0 0 zS (.slice none 0 0)⟩ 30 (0, 0))] | _ => True) ⟨?_, ?_, ?_, ?_, ?_, ?_, ?_, ?_, ?_, ?_, ?_, trivial⟩ ?_
 ·intro ρ r4 N4 B hB hBa hp hr hr0
  have q3 : ρ 3 = .pointer (some ⟨b2, 0, none⟩) := hr0 3 (by kernel_rfl)
  obtain ⟨ρ5, rfl⟩ := Ze (uc q3 un)
  clear q3
  refine Za (v := .pointer (some ⟨b2, 0, none⟩)) rfl (fa30_0 rfl rfl) ?_
  refine Zb ?_
  exact ⟨.pointer (some ⟨b2, 0, none⟩), [], rfl, (Sub.emp Sub.refl), rfl⟩
 ·intro ρ r4 N4 B hB hBa hp hr hr0
  have q8 : ρ 8 = .pointer (some ⟨b2, 0, none⟩) := (hr 0 _ _ (by decide) rfl rfl rfl).trans (hp 0 (by decide) rfl)
  obtain ⟨ρ6, rfl⟩ := Ze (uc q8 un)
  clear q8
  refine Zd rfl (Zh ty3 rfl (At.bx 12 (Zu ((hB 1 (by decide)).trans rfl))) (pkP_0 ..) ?_)
  refine Zb ?_
  exact ⟨.int .i64 kind, [], rfl, (Sub.emp Sub.refl), rfl⟩
 ·intro ρ r4 N4 B hB hBa hp hr hr0
  have q3 : ρ 3 = .pointer (some ⟨b2, 0, none⟩) := hr0 3 (by kernel_rfl)
  obtain ⟨ρ7, rfl⟩ := Ze (uc q3 un)
  clear q3
  refine Za (v := .pointer (some ⟨b2, 1, none⟩)) rfl (fa30_1 rfl rfl) ?_
  refine Zb ?_
  exact ⟨.pointer (some ⟨b2, 1, none⟩), [], rfl, (Sub.emp Sub.refl), rfl⟩
 ·intro ρ r4 N4 B hB hBa hp hr hr0
  have q10 : ρ 10 = .pointer (some ⟨b2, 1, none⟩) := (hr 2 _ _ (by decide) rfl rfl rfl).trans (hp 2 (by decide) rfl)
  obtain ⟨ρ8, rfl⟩ := Ze (uc q10 un)
  clear q10
  refine Zd rfl (Zh ty3 rfl (At.bx 12 (Zu ((hB 1 (by decide)).trans rfl))) (pkP_1 ..) ?_)
  refine Zb ?_
  exact ⟨.int .i64 num, [], rfl, (Sub.emp Sub.refl), rfl⟩
 ·intro ρ r4 N4 B hB hBa hp hr hr0
  have q2 : ρ 2 = .pointer (some ⟨b1, 0, none⟩) := hr0 2 (by kernel_rfl)
  obtain ⟨ρ9, rfl⟩ := Ze (uc q2 un)
  clear q2
  refine Za (v := .pointer (some ⟨b1, 1, none⟩)) rfl (fa118_1 rfl rfl) ?_
  refine Zb ?_
  exact ⟨.pointer (some ⟨b1, 1, none⟩), [], rfl, (Sub.emp Sub.refl), rfl⟩
 ·intro ρ r4 N4 B hB hBa hp hr hr0
  have q12 : ρ 12 = .pointer (some ⟨b1, 1, none⟩) := (hr 4 _ _ (by decide) rfl rfl rfl).trans (hp 4 (by decide) rfl)
  obtain ⟨ρ10, rfl⟩ := Ze (uc q12 un)
  clear q12
  refine Zd rfl (Zh ty116 rfl (At.bx 13 (Zu ((hB 2 (by decide)).trans rfl))) rfl ?_)
  refine Zb ?_
  exact ⟨.func (.func gr) ⟨frs⟩ ⟨crs⟩, [], rfl, (Sub.emp Sub.refl), rfl⟩
 ·intro ρ r4 N4 B hB hBa hp hr hr0
  have q3 : ρ 3 = .pointer (some ⟨b2, 0, none⟩) := hr0 3 (by kernel_rfl)
  obtain ⟨ρ11, rfl⟩ := Ze (uc q3 un)
  clear q3
  refine Za (v := .pointer (some ⟨b2, 2, none⟩)) rfl (fa30_2 rfl rfl) ?_
  refine Zb ?_
  exact ⟨.pointer (some ⟨b2, 2, none⟩), [], rfl, (Sub.emp Sub.refl), rfl⟩
 ·intro ρ r4 N4 B hB hBa hp hr hr0
  have q14 : ρ 14 = .pointer (some ⟨b2, 2, none⟩) := (hr 6 _ _ (by decide) rfl rfl rfl).trans (hp 6 (by decide) rfl)
  obtain ⟨ρ12, rfl⟩ := Ze (uc q14 un)
  clear q14
  refine Zd rfl (Zj ty23 rfl (At.bx 12 (Zu ((hB 1 (by decide)).trans rfl))) (pkP_2 ..) ?_)
  refine Zb ?_
  exact ⟨.agg ⟨sC ref⟩, [], rfl, (Sub.emp Sub.refl), rfl⟩
 ·intro ρ r4 N4 B hB hBa hp hr hr0
  have q13 : ρ 13 = .func (.func gr) ⟨frs⟩ ⟨crs⟩ := (hr 5 _ _ (by decide) rfl rfl rfl).trans (hp 5 (by decide) rfl)
  have q15 : ρ 15 = .agg ⟨sC ref⟩ := (hr 7 _ _ (by decide) rfl rfl rfl).trans (hp 7 (by decide) rfl)
  obtain ⟨ρ13, rfl⟩ := Ze (uc q13 (uc q15 un))
  clear q13 q15
  refine Zk rfl hcallr rfl (fun hin => hgr _ _ (Hle.hu _ _)) rfl ?_
  rintro _ _ ⟨rfl, rfl⟩
  refine Zb ?_
  exact ⟨.agg ⟨sC (rf ref)⟩, [], rfl, (Sub.emp Sub.refl), rfl⟩
 ·intro ρ r4 N4 B hB hBa hp hr hr0
  have q9 : ρ 9 = .int .i64 kind := (hr 1 _ _ (by decide) rfl rfl rfl).trans (hp 1 (by decide) rfl)
  have q11 : ρ 11 = .int .i64 num := (hr 3 _ _ (by decide) rfl rfl rfl).trans (hp 3 (by decide) rfl)
  have q16 : ρ 16 = .agg ⟨sC (rf ref)⟩ := (hr 8 _ _ (by decide) rfl rfl rfl).trans (hp 8 (by decide) rfl)
  obtain ⟨ρ14, rfl⟩ := Ze (uc q9 (uc q11 (uc q16 un)))
  clear q9 q11 q16
  refine Za (v := .agg ⟨pkP kind num (rf ref) (.slice none 0 0)⟩) rfl (Pu.build (pv := [(0, .int .i64 kind), (1, .int .i64 num), (2, .agg ⟨sC (rf ref)⟩)]) (l := pkP kind num (rf ref) (.slice none 0 0)) rfl (bld30_0_1_2 _ _ _)) ?_
  refine Zb ?_
  exact ⟨.agg ⟨pkP kind num (rf ref) (.slice none 0 0)⟩, [], rfl, (Sub.emp Sub.refl), rfl⟩
 ·intro ρ r4 N4 B hB hBa hp hr hr0
  refine Zd rfl (Zn (l := pkP 0 0 zS (.slice none 0 0)) Tryz.zeroValue30 rfl fun b15 => ?_)
  refine Zb ?_
  exact ⟨.pointer (some ⟨b15, 0, none⟩), [(b15, .cells ⟨pkP 0 0 zS (.slice none 0 0)⟩ 30 (0, 0))], rfl, Sub.refl, ⟨rfl, rfl⟩⟩
 intro ρ r4 N4 hp hr hr0
 have p10 : (r4 10) = .pointer (some ⟨(pblk (r4 10)), 0, none⟩) ∧ (N4 10) = [((pblk (r4 10)), .cells ⟨pkP 0 0 zS (.slice none 0 0)⟩ 30 (0, 0))] := hp 10 (by decide)
 have q2 : ρ 2 = .pointer (some ⟨b1, 0, none⟩) := hr0 2 (by kernel_rfl)
 have q3 : ρ 3 = .pointer (some ⟨b2, 0, none⟩) := hr0 3 (by kernel_rfl)
 have q4 : ρ 4 = .pointer (some ⟨b3, 0, none⟩) := hr0 4 (by kernel_rfl)
 have q5 : ρ 5 = .pointer (some ⟨(pblk (r4 10)), 0, none⟩) := (hr 10 _ _ (by decide) rfl rfl).trans p10.1
 have q17 : ρ 17 = .agg ⟨pkP kind num (rf ref) (.slice none 0 0)⟩ := (hr 9 _ _ (by decide) rfl rfl).trans (hp 9 (by decide))
 obtain ⟨ρ16, rfl⟩ := Ze (uc q2 (uc q3 (uc q4 (uc q5 (uc q17 un)))))
 clear q2 q3 q4 q5 q17
 have p4_10 := p10
 clear hp hr hr0 p10
 refine Zw (M' := [(N4 0), (N4 1), (N4 2), (N4 3), (N4 4), (N4 5), (N4 6), (N4 7), (N4 8), (N4 9), (N4 10), [(b3, .cells ⟨pkP 0 0 zS (.slice none 0 0)⟩ 30 (0, 0))], [(b2, .cells ⟨pkP kind num ref ks⟩ 30 (0, 0))], [(b1, .cells ⟨[fv, .func (.func gr) ⟨frs⟩ ⟨crs⟩]⟩ 118 (0, 0))]]) Sub.refl ?_
 refine Zw (M' := [[((pblk (r4 10)), .cells ⟨pkP 0 0 zS (.slice none 0 0)⟩ 30 (0, 0))], [(b3, .cells ⟨pkP 0 0 zS (.slice none 0 0)⟩ 30 (0, 0))], [(b2, .cells ⟨pkP kind num ref ks⟩ 30 (0, 0))], [(b1, .cells ⟨[fv, .func (.func gr) ⟨frs⟩ ⟨crs⟩]⟩ 118 (0, 0))]]) (Sd (Sd (Sd (Sd (Sd (Sd (Sd (Sd (Sd (Sd (Se p4_10.2 (Sk (Sk (Sk Sub.nil)))))))))))))) ?_
 show JL _ _ _ [_] _ _ _
 refine Zd rfl (Zi 0 (vs := pkP kind num (rf ref) (.slice none 0 0)) (l := pkP kind num (rf ref) (.slice none 0 0)) ty30 rfl rfl rfl rfl rfl (pkP_ok rfl) (pkP_s ..) ?_)
 refine Zb ?_
 refine Zg ?_
 refine Zg (Zc ?_)
 refine Za (v := .pointer (some ⟨b2, 34, none⟩)) rfl (fa30_3 rfl rfl) ?_
 refine Zd rfl (Zh ty28 rfl (At.bx 2 rfl) (pkP_34 ..) ?_)
 obtain ⟨a17, cap17, hv17⟩ := hks.sl
 have hle17 := hks.le
 refine Za (v := .int .i64 ((kids.length : Int))) rfl (Pu.lenSl Tryz.runUnderlying28 hv17) ?_
 refine Za (v := .int .i64 0) rfl (Pu.move rfl) ?_
 refine Zb ?_
 refine Zs ?_
 refine J_loop (fun k ρ M => ∃ (j : Nat) (v : Value) (es : List (List Value)) (k1 k2 : Zm), ρ 2 = .pointer (some ⟨b1, 0, none⟩) ∧ ρ 4 = .pointer (some ⟨b3, 0, none⟩) ∧ ρ 5 = .pointer (some ⟨(pblk (r4 10)), 0, none⟩) ∧ ρ 19 = ks ∧ ρ 20 = .int .i64 ((kids.length : Int)) ∧ ρ 21 = .int .i64 ((j : Int)) ∧ Sub [[((pblk (r4 10)), .cells ⟨pkP kind num (rf ref) v⟩ 30 (0, 0))], k1, k2, [(b3, .cells ⟨pkP 0 0 zS (.slice none 0 0)⟩ 30 (0, 0))], [(b1, .cells ⟨[fv, .func (.func gr) ⟨frs⟩ ⟨crs⟩]⟩ 118 (0, 0))]] M ∧ j ≤ kids.length ∧ Own 30 35 v es k1 ∧ OPs (mapPs rf (kids.take j)) es k2 ∧ k = kids.length - j) _ ⟨0, _, [], [], [], rfl, rfl, rfl, rfl, rfl, rfl, (Sk (Sub.emp (Sub.emp (Sk (Sd (Sk Sub.nil)))))), Nat.zero_le _, Own.nil, OPs.nil, rfl⟩ ?_
 rintro _ ρ18 _ ⟨j, v, es, k1, k2, e19, e20, e21, e22, e23, e24, hm25, hj, ho, hop, rfl⟩
 obtain ⟨ρ26, rfl⟩ := Ze (uc e19 (uc e20 (uc e21 (uc e22 (uc e23 (uc e24 un))))))
 clear e19 e20 e21 e22 e23 e24
 refine J_sub hm25 ?_
 have hlen := hks.le
 refine Zg (Zc ?_)
 refine Za (v := .bool (decide ((j : Int) < (kids.length : Int)))) rfl (Pu.lss rfl rfl) ?_
 refine Zb ?_
 refine Zg ?_
 refine Zl (b := decide ((j : Int) < (kids.length : Int))) rfl (fun h27 => ?_) (fun h27 => ?_)
 ·replace h27 := dt h27
  have h27n : j < kids.length := by omega
  have hel := OPs_len hop
  rw [mapPs_len, List.length_take] at hel
  have hs1 := sizePs_mem _ (List.getElem_mem h27n)
  refine Zq ?_
  refine Zg ?_
  refine Zs ?_
  refine Zg (Zc ?_)
  obtain ⟨b28, o28, cap28, row28, T28, fr28, cs28, hv28, hb28, hs28, hE28⟩ := hks.get j (by first | assumption | omega | decide | simp)
  refine Za (v := .pointer (some ⟨b28, o28 + j * 35, none⟩)) rfl (Pu.idx j Tryz.runUnderlying28 ty30 hv28 rfl rfl (by first | assumption | omega | decide | simp)) ?_
  refine Zd rfl (Zj ty30 rfl (At.im hb28) hs28 ?_)
  refine Zd rfl (Zn (l := pkP 0 0 zS (.slice none 0 0)) Tryz.zeroValue30 rfl fun b29 => ?_)
  refine Zd rfl (Zi 0 (vs := cs28) (l := cs28) ty30 rfl rfl rfl rfl (RP_len hE28) (RP_ok hE28) (spl_a (n := 35) rfl (RP_len hE28)) ?_)
  refine Zb ?_
  refine J_draw mixed #[0, 1, 0, 0, 12, 28, 63, 127, 255] 6 6 6 rfl (by kernel_rfl) (fun i r30 N30 => match i with | 0 => (r30 0) = .pointer (some ⟨(pblk (r4 10)), 34, none⟩) | 1 => (r30 1) = v | 2 => (r30 2) = .agg ⟨[fv, .func (.func gr) ⟨frs⟩ ⟨crs⟩]⟩ | 3 => (r30 3) = .agg ⟨cs28⟩ | 4 => (r30 4) = .agg ⟨(cel (r30 4))⟩ ∧ OP (mapP rf (kids[j])) (cel (r30 4)) (N30 4) | 5 => (r30 5) = .slice (some ⟨(sblk (r30 5)), 0, none⟩) 1 1 ∧ (N30 5) = [(sblk (r30 5), .cells ⟨List.flatten [(cel (r30 4))]⟩ 30 (0, 0))] ∧ Own 30 35 (.slice (some ⟨(sblk (r30 5)), 0, none⟩) 1 1) [(cel (r30 4))] (N30 5) | _ => True) ⟨?_, ?_, ?_, ?_, ?_, ?_, trivial⟩ ?_
  ·intro ρ r30 N30 B hB hBa hp hr hr0
   have q5 : ρ 5 = .pointer (some ⟨(pblk (r4 10)), 0, none⟩) := hr0 5 (by kernel_rfl)
   obtain ⟨ρ31, rfl⟩ := Ze (uc q5 un)
   clear q5
   refine Za (v := .pointer (some ⟨(pblk (r4 10)), 34, none⟩)) rfl (fa30_3 rfl rfl) ?_
   refine Zb ?_
   exact ⟨.pointer (some ⟨(pblk (r4 10)), 34, none⟩), [], rfl, (Sub.emp Sub.refl), rfl⟩
  ·intro ρ r30 N30 B hB hBa hp hr hr0
   have q25 : ρ 25 = .pointer (some ⟨(pblk (r4 10)), 34, none⟩) := (hr 0 _ _ (by decide) rfl rfl rfl).trans (hp 0 (by decide) rfl)
   obtain ⟨ρ32, rfl⟩ := Ze (uc q25 un)
   clear q25
   refine Zd rfl (Zh ty28 rfl (At.bx 7 (Zu ((hB 1 (by decide)).trans rfl))) (pkP_34 ..) ?_)
   refine Zb ?_
   exact ⟨v, [], rfl, (Sub.emp Sub.refl), rfl⟩
  ·intro ρ r30 N30 B hB hBa hp hr hr0
   have q2 : ρ 2 = .pointer (some ⟨b1, 0, none⟩) := hr0 2 (by kernel_rfl)
   obtain ⟨ρ33, rfl⟩ := Ze (uc q2 un)
   clear q2
   refine Zd rfl (Zj ty118 rfl (At.bx 11 (Zu ((hB 5 (by decide)).trans rfl))) rfl ?_)
   refine Zb ?_
   exact ⟨.agg ⟨[fv, .func (.func gr) ⟨frs⟩ ⟨crs⟩]⟩, [], rfl, (Sub.emp Sub.refl), rfl⟩
  ·intro ρ r30 N30 B hB hBa hp hr hr0
   have q7 : ρ 7 = .pointer (some ⟨b29, 0, none⟩) := hr0 7 (by kernel_rfl)
   obtain ⟨ρ34, rfl⟩ := Ze (uc q7 un)
   clear q7
   refine Zd rfl (Zj ty30 rfl (At.bx 6 (Zu ((hB 0 (by decide)).trans rfl))) (Zy (RP_len hE28)) ?_)
   refine Zb ?_
   exact ⟨.agg ⟨cs28⟩, [], rfl, (Sub.emp Sub.refl), rfl⟩
  ·intro ρ r30 N30 B hB hBa hp hr hr0
   have q27 : ρ 27 = .agg ⟨[fv, .func (.func gr) ⟨frs⟩ ⟨crs⟩]⟩ := (hr 2 _ _ (by decide) rfl rfl rfl).trans (hp 2 (by decide) rfl)
   have q28 : ρ 28 = .agg ⟨cs28⟩ := (hr 3 _ _ (by decide) rfl rfl rfl).trans (hp 3 (by decide) rfl)
   obtain ⟨ρ35, rfl⟩ := Ze (uc q27 (uc q28 un))
   clear q27 q28
   refine Zk rfl Tryz.call103 rfl (fun hin => ih _ (List.getElem_mem h27n) _ _ (RP.mono (Hle.hu _ _) hE28) (fun s h hh => hgr s h (Hle.trans (Hle.hu _ _) hh)) (by omega)) rfl ?_
   rintro _ _ ⟨cs36, k36, rfl, rfl, hO36⟩
   refine Zb ?_
   exact ⟨.agg ⟨cs36⟩, k36, rfl, Sub.refl, ⟨rfl, hO36⟩⟩
  ·intro ρ r30 N30 B hB hBa hp hr hr0
   have p4 : (r30 4) = .agg ⟨(cel (r30 4))⟩ ∧ OP (mapP rf (kids[j])) (cel (r30 4)) (N30 4) := hp 4 (by decide) rfl
   have q29 : ρ 29 = .agg ⟨(cel (r30 4))⟩ := (hr 4 _ _ (by decide) rfl rfl rfl).trans p4.1
   obtain ⟨ρ37, rfl⟩ := Ze (uc q29 un)
   clear q29
   refine Zd rfl (ZA (vs := [.agg ⟨(cel (r30 4))⟩]) [(cel (r30 4))] Tryz.runUnderlying28 el30 rfl rfl (by intro e he; simp only [List.mem_cons, List.not_mem_nil, or_false] at he; subst he; exact p4.2.len) rfl (by decide) fun b38 k38 ho38 hk38 => ?_)
   refine Zb ?_
   exact ⟨.slice (some ⟨b38, 0, none⟩) 1 1, k38, rfl, Sub.refl, ⟨rfl, hk38, ho38⟩⟩
  intro ρ r30 N30 hp hr hr0
  have p4 : (r30 4) = .agg ⟨(cel (r30 4))⟩ ∧ OP (mapP rf (kids[j])) (cel (r30 4)) (N30 4) := hp 4 (by decide)
  have p5 : (r30 5) = .slice (some ⟨(sblk (r30 5)), 0, none⟩) 1 1 ∧ (N30 5) = [(sblk (r30 5), .cells ⟨List.flatten [(cel (r30 4))]⟩ 30 (0, 0))] ∧ Own 30 35 (.slice (some ⟨(sblk (r30 5)), 0, none⟩) 1 1) [(cel (r30 4))] (N30 5) := hp 5 (by decide)
  have q2 : ρ 2 = .pointer (some ⟨b1, 0, none⟩) := hr0 2 (by kernel_rfl)
  have q4 : ρ 4 = .pointer (some ⟨b3, 0, none⟩) := hr0 4 (by kernel_rfl)
  have q5 : ρ 5 = .pointer (some ⟨(pblk (r4 10)), 0, none⟩) := hr0 5 (by kernel_rfl)
  have q19 : ρ 19 = ks := hr0 19 (by kernel_rfl)
  have q20 : ρ 20 = .int .i64 ((kids.length : Int)) := hr0 20 (by kernel_rfl)
  have q21 : ρ 21 = .int .i64 ((j : Int)) := hr0 21 (by kernel_rfl)
  have q26 : ρ 26 = v := (hr 1 _ _ (by decide) rfl rfl).trans (hp 1 (by decide))
  have q30 : ρ 30 = .slice (some ⟨(sblk (r30 5)), 0, none⟩) 1 1 := (hr 5 _ _ (by decide) rfl rfl).trans p5.1
  obtain ⟨ρ39, rfl⟩ := Ze (uc q2 (uc q4 (uc q5 (uc q19 (uc q20 (uc q21 (uc q26 (uc q30 un))))))))
  clear q2 q4 q5 q19 q20 q21 q26 q30
  have p30_4 := p4; have p30_5 := p5
  clear hp hr hr0 p4 p5
  refine Zw (M' := [(N30 0), (N30 1), (N30 2), (N30 3), (N30 4), (N30 5), [(b29, .cells ⟨cs28⟩ 30 (0, 0))], [((pblk (r4 10)), .cells ⟨pkP kind num (rf ref) v⟩ 30 (0, 0))], k1, k2, [(b3, .cells ⟨pkP 0 0 zS (.slice none 0 0)⟩ 30 (0, 0))], [(b1, .cells ⟨[fv, .func (.func gr) ⟨frs⟩ ⟨crs⟩]⟩ 118 (0, 0))]]) Sub.refl ?_
  refine Zw (M' := [(N30 4), (N30 5), [(b29, .cells ⟨cs28⟩ 30 (0, 0))], [((pblk (r4 10)), .cells ⟨pkP kind num (rf ref) v⟩ 30 (0, 0))], k1, k2, [(b3, .cells ⟨pkP 0 0 zS (.slice none 0 0)⟩ 30 (0, 0))], [(b1, .cells ⟨[fv, .func (.func gr) ⟨frs⟩ ⟨crs⟩]⟩ 118 (0, 0))]]) (Sd (Sd (Sd (Sd (Sk (Sk (Sk (Sk (Sk (Sk (Sk (Sk Sub.nil)))))))))))) ?_
  show JL _ _ _ [_, _, _] _ _ _
  have hlens40 : ∀ e ∈ ([(cel (r30 4))] : List (List Value)), List.length e = 35 := by
   intro e he; simp only [List.mem_cons, List.not_mem_nil, or_false] at he
   rcases he with rfl
   ·exact p30_4.2.len
  have hoks40 : ∀ e ∈ ([(cel (r30 4))] : List (List Value)), okc e := by
   intro e he; simp only [List.mem_cons, List.not_mem_nil, or_false] at he
   rcases he with rfl
   ·exact p30_4.2.ok
  refine Zd rfl (Runs_append (i := 4) (n := 1) (es' := [(cel (r30 4))]) Tryz.runUnderlying28 Tryz.runUnderlying28 (Or.inl rfl) el30 rfl rfl rfl ho (fun F w m => Src.row (((At.k 1 rfl (by rw [p30_5.2.1]; exact List.mem_cons_self))).heap m) (Zy (flatten_len hlens40))) rfl hlens40 hoks40 (by decide) (by omega) fun v40 k40 ho40 => ?_)
  refine Za (v := .pointer (some ⟨(pblk (r4 10)), 34, none⟩)) rfl (fa30_3 rfl rfl) ?_
  refine Zd rfl (Zi 3 (vs := [v40]) (l := pkP kind num (rf ref) v40) ty28 rfl rfl rfl (cells_one ho40.one) rfl (Zp ho40.one Zz) (pkP_s34 ..) ?_)
  refine Zb ?_
  refine Zc ?_
  refine Za (v := .int .i64 (((j + 1 : Nat) : Int))) rfl (Pu.inc rfl rfl (by omega)) ?_
  refine Za (v := .int .i64 (((j + 1 : Nat) : Int))) rfl (Pu.move rfl) ?_
  refine Zb ?_
  refine ⟨_, ?_, (j + 1), v40, (es ++ [(cel (r30 4))]), k40, (k2 ++ ((N30 4))), rfl, rfl, rfl, rfl, rfl, rfl, (Sub.cons 3 rfl (Sub.cons 3 rfl (Sub.join (Sub.cons 3 rfl (Sk (Sd (Sd (Sk (Sk Sub.nil))))))))), ?_, ?_, ?_, rfl⟩
  ·omega
  ·omega
  ·assumption
  rw [mapPs_take rf kids j h27n]; exact OPs.snoc p30_4.2 hop
 replace h27 := df h27
 have h27n : kids.length ≤ j := by omega
 refine J_exit _ rfl ?_
 refine Zg (Zc ?_)
 refine Zd rfl (Zj ty30 rfl (At.bx 0 rfl) (pkP_a ..) ?_)
 refine Zd rfl (Zi 3 (vs := pkP kind num (rf ref) v) (l := pkP kind num (rf ref) v) ty30 rfl rfl rfl rfl rfl (pkP_ok ho.one) (pkP_s ..) ?_)
 refine Zb ?_
 refine Zo ?_
 refine ⟨.agg ⟨pkP kind num (rf ref) v⟩, [k1 ++ k2], Ret.one rfl (RV.cell ty30 rfl (At.bx 3 rfl) (pkP_a ..)), (Sub.join (Sd (Sk (Sk Sub.nil)))), ?_⟩
 rw [List.take_of_length_le h27n] at hop
 exact ⟨_, _, rfl, rfl, by rw [mapP]; exact OP_mk.2 ⟨v, es, k1, k2, rfl, hk, hn, ho, hop, rfl, by rw [mapPs_len]; exact hks.le⟩⟩
end Go.Proofs.YtdeinimmmjichaaGreat.Hs
/-! Walks, printed by a program of this session's own (gen.py). -/
namespace Go.Proofs.YtdeinimmmjichaaGreat.Hs
open Go Go.Proofs
set_option maxRecDepth 100000
set_option linter.unusedVariables false
set_option linter.unusedSimpArgs false
attribute [local irreducible] JL J CT wlo
theorem ownPatternR_ct : ∀ (p : Pt) (cs : List Value) (H : Heap), RP H cs p → sizeP p ≤ 1000000 → CT Tryz.prog 99 ⟨[.agg ⟨cs⟩]⟩ [] H (fun v N => ∃ cs k, v = .agg ⟨cs⟩ ∧ N = [k] ∧ OP p cs k) := by
 intro p
 induction p using Pt.ind with
 | h kind num ref kids ih =>
 intro cs H hp hz
 rw [sizeP] at hz
 have hlk := len_sizePs kids
 obtain ⟨ks, rfl, hk, hn, hks⟩ := RP_mk.1 hp
 refine Zr Tryz.func99 rfl rfl ?_
 refine Zg (Zc ?_)
 refine Zd rfl (Zx (l := pkP kind num ref ks) rfl rfl fun b1 => ?_)
 refine Zd rfl (Zn (l := pkP 0 0 zS (.slice none 0 0)) Tryz.zeroValue30 rfl fun b2 => ?_)
 refine Zb ?_
 refine Zg (Zc ?_)
 refine Za (v := .pointer (some ⟨b1, 0, none⟩)) rfl (fa30_0 rfl rfl) ?_
 refine Zd rfl (Zh ty3 rfl (At.bx 1 rfl) (pkP_0 ..) ?_)
 refine Za (v := .pointer (some ⟨b1, 1, none⟩)) rfl (fa30_1 rfl rfl) ?_
 refine Zd rfl (Zh ty3 rfl (At.bx 1 rfl) (pkP_1 ..) ?_)
 refine Za (v := .pointer (some ⟨b1, 2, none⟩)) rfl (fa30_2 rfl rfl) ?_
 refine Zd rfl (Zj ty23 rfl (At.bx 1 rfl) (pkP_2 ..) ?_)
 refine Za (v := .agg ⟨pkP kind num ref (.slice none 0 0)⟩) rfl (Pu.build (pv := [(0, .int .i64 kind), (1, .int .i64 num), (2, .agg ⟨sC ref⟩)]) (l := pkP kind num ref (.slice none 0 0)) rfl (bld30_0_1_2 _ _ _)) ?_
 refine Zd rfl (Zn (l := pkP 0 0 zS (.slice none 0 0)) Tryz.zeroValue30 rfl fun b3 => ?_)
 refine Zd rfl (Zi 0 (vs := pkP kind num ref (.slice none 0 0)) (l := pkP kind num ref (.slice none 0 0)) ty30 rfl rfl rfl rfl rfl (pkP_ok rfl) (pkP_s ..) ?_)
 refine Zb ?_
 refine Zg ?_
 refine Zg (Zc ?_)
 refine Za (v := .int .i64 0) rfl (Pu.assign rfl) ?_
 refine Zb ?_
 refine Zs ?_
 refine J_loop (fun k ρ M => ∃ (j : Nat) (v : Value) (es : List (List Value)) (k1 k2 : Zm), ρ 1 = .pointer (some ⟨b1, 0, none⟩) ∧ ρ 2 = .pointer (some ⟨b2, 0, none⟩) ∧ ρ 3 = .pointer (some ⟨b3, 0, none⟩) ∧ ρ 4 = .int .i64 ((j : Int)) ∧ Sub [[(b3, .cells ⟨pkP kind num ref v⟩ 30 (0, 0))], k1, k2, [(b2, .cells ⟨pkP 0 0 zS (.slice none 0 0)⟩ 30 (0, 0))], [(b1, .cells ⟨pkP kind num ref ks⟩ 30 (0, 0))]] M ∧ j ≤ kids.length ∧ Own 30 35 v es k1 ∧ OPs ((kids.take j)) es k2 ∧ k = kids.length - j) _ ⟨0, (.slice none 0 0), [], [], [], rfl, rfl, rfl, rfl, (Sk (Sub.emp (Sub.emp (Sk (Sk Sub.nil))))), Nat.zero_le _, Own.nil, OPs.nil, rfl⟩ ?_
 rintro _ ρ4 _ ⟨j, v, es, k1, k2, e5, e6, e7, e8, hm9, hj, hov, hopv, rfl⟩
 obtain ⟨ρ10, rfl⟩ := Ze (uc e5 (uc e6 (uc e7 (uc e8 un))))
 clear e5 e6 e7 e8
 refine J_sub hm9 ?_
 have hlen := hks.le
 refine Zg ?_
 refine Zg (Zc ?_)
 refine Za (v := .int .i64 ((j : Int))) rfl (Pu.move rfl) ?_
 refine Za (v := .pointer (some ⟨b1, 34, none⟩)) rfl (fa30_3 rfl rfl) ?_
 refine Zd rfl (Zh ty28 rfl (At.bx 4 rfl) (pkP_34 ..) ?_)
 obtain ⟨a11, cap11, hv11⟩ := hks.sl
 have hle11 := hks.le
 refine Za (v := .int .i64 ((kids.length : Int))) rfl (Pu.lenSl Tryz.runUnderlying28 hv11) ?_
 refine Za (v := .bool (decide ((j : Int) < (kids.length : Int)))) rfl (Pu.lss rfl rfl) ?_
 refine Zb ?_
 refine Zl (b := decide ((j : Int) < (kids.length : Int))) rfl (fun h12 => ?_) (fun h12 => ?_)
 ·replace h12 := dt h12
  have h12n : j < kids.length := by omega
  have helv := OPs_len hopv
  rw [List.length_take] at helv
  have hs1 := sizePs_mem _ (List.getElem_mem h12n)
  refine Zq ?_
  refine Zg ?_
  refine Zs ?_
  obtain ⟨b14, o14, cap14, row14, T14, fr14, cs14, hv14, hb14, hs14, hE14⟩ := hks.get j (by first | assumption | omega | decide | simp)
  refine J_draw mixed #[0, 1, 0, 4, 0, 28, 60, 124, 252, 511, 1023, 2047] 9 9 5 rfl (by kernel_rfl) (fun i r13 N13 => match i with | 0 => (r13 0) = .pointer (some ⟨b3, 34, none⟩) | 1 => (r13 1) = v | 2 => (r13 2) = .pointer (some ⟨b1, 34, none⟩) | 3 => (r13 3) = ks | 4 => (r13 4) = .int .i64 ((j : Int)) | 5 => (r13 5) = .pointer (some ⟨b14, o14 + j * 35, none⟩) | 6 => (r13 6) = .agg ⟨cs14⟩ | 7 => (r13 7) = .agg ⟨(cel (r13 7))⟩ ∧ OP (kids[j]) (cel (r13 7)) (N13 7) | 8 => (r13 8) = .slice (some ⟨(sblk (r13 8)), 0, none⟩) 1 1 ∧ (N13 8) = [(sblk (r13 8), .cells ⟨List.flatten [(cel (r13 7))]⟩ 30 (0, 0))] ∧ Own 30 35 (.slice (some ⟨(sblk (r13 8)), 0, none⟩) 1 1) [(cel (r13 7))] (N13 8) | _ => True) ⟨?_, ?_, ?_, ?_, ?_, ?_, ?_, ?_, ?_, trivial⟩ ?_
  ·intro ρ r13 N13 B hB hBa hp hr hr0
   have q3 : ρ 3 = .pointer (some ⟨b3, 0, none⟩) := hr0 3 (by kernel_rfl)
   obtain ⟨ρ15, rfl⟩ := Ze (uc q3 un)
   clear q3
   refine Za (v := .pointer (some ⟨b3, 34, none⟩)) rfl (fa30_3 rfl rfl) ?_
   refine Zb ?_
   exact ⟨.pointer (some ⟨b3, 34, none⟩), [], rfl, (Sub.emp Sub.refl), rfl⟩
  ·intro ρ r13 N13 B hB hBa hp hr hr0
   have q19 : ρ 19 = .pointer (some ⟨b3, 34, none⟩) := (hr 0 _ _ (by decide) rfl rfl rfl).trans (hp 0 (by decide) rfl)
   obtain ⟨ρ16, rfl⟩ := Ze (uc q19 un)
   clear q19
   refine Zd rfl (Zh ty28 rfl (At.bx 9 (Zu ((hB 0 (by decide)).trans rfl))) (pkP_34 ..) ?_)
   refine Zb ?_
   exact ⟨v, [], rfl, (Sub.emp Sub.refl), rfl⟩
  ·intro ρ r13 N13 B hB hBa hp hr hr0
   have q1 : ρ 1 = .pointer (some ⟨b1, 0, none⟩) := hr0 1 (by kernel_rfl)
   obtain ⟨ρ17, rfl⟩ := Ze (uc q1 un)
   clear q1
   refine Za (v := .pointer (some ⟨b1, 34, none⟩)) rfl (fa30_3 rfl rfl) ?_
   refine Zb ?_
   exact ⟨.pointer (some ⟨b1, 34, none⟩), [], rfl, (Sub.emp Sub.refl), rfl⟩
  ·intro ρ r13 N13 B hB hBa hp hr hr0
   have q21 : ρ 21 = .pointer (some ⟨b1, 34, none⟩) := (hr 2 _ _ (by decide) rfl rfl rfl).trans (hp 2 (by decide) rfl)
   obtain ⟨ρ18, rfl⟩ := Ze (uc q21 un)
   clear q21
   refine Zd rfl (Zh ty28 rfl (At.bx 13 (Zu ((hB 4 (by decide)).trans rfl))) (pkP_34 ..) ?_)
   refine Zb ?_
   exact ⟨ks, [], rfl, (Sub.emp Sub.refl), rfl⟩
  ·intro ρ r13 N13 B hB hBa hp hr hr0
   have q4 : ρ 4 = .int .i64 ((j : Int)) := hr0 4 (by kernel_rfl)
   obtain ⟨ρ19, rfl⟩ := Ze (uc q4 un)
   clear q4
   refine Za (v := .int .i64 ((j : Int))) rfl (Pu.move rfl) ?_
   refine Zb ?_
   exact ⟨.int .i64 ((j : Int)), [], rfl, (Sub.emp Sub.refl), rfl⟩
  ·intro ρ r13 N13 B hB hBa hp hr hr0
   have q22 : ρ 22 = ks := (hr 3 _ _ (by decide) rfl rfl rfl).trans (hp 3 (by decide) rfl)
   have q23 : ρ 23 = .int .i64 ((j : Int)) := (hr 4 _ _ (by decide) rfl rfl rfl).trans (hp 4 (by decide) rfl)
   obtain ⟨ρ20, rfl⟩ := Ze (uc q22 (uc q23 un))
   clear q22 q23
   refine Za (v := .pointer (some ⟨b14, o14 + j * 35, none⟩)) rfl (Pu.idx j Tryz.runUnderlying28 ty30 hv14 rfl rfl (by first | assumption | omega | decide | simp)) ?_
   refine Zb ?_
   exact ⟨.pointer (some ⟨b14, o14 + j * 35, none⟩), [], rfl, (Sub.emp Sub.refl), rfl⟩
  ·intro ρ r13 N13 B hB hBa hp hr hr0
   have q24 : ρ 24 = .pointer (some ⟨b14, o14 + j * 35, none⟩) := (hr 5 _ _ (by decide) rfl rfl rfl).trans (hp 5 (by decide) rfl)
   obtain ⟨ρ21, rfl⟩ := Ze (uc q24 un)
   clear q24
   refine Zd rfl (Zj ty30 rfl (At.im hb14) hs14 ?_)
   refine Zb ?_
   exact ⟨.agg ⟨cs14⟩, [], rfl, (Sub.emp Sub.refl), rfl⟩
  ·intro ρ r13 N13 B hB hBa hp hr hr0
   have q25 : ρ 25 = .agg ⟨cs14⟩ := (hr 6 _ _ (by decide) rfl rfl rfl).trans (hp 6 (by decide) rfl)
   obtain ⟨ρ22, rfl⟩ := Ze (uc q25 un)
   clear q25
   refine Zk rfl Tryz.call99 rfl (fun hin => ih _ (List.getElem_mem h12n) _ _ (RP.mono (Hle.hu _ _) hE14) (by omega)) rfl ?_
   rintro _ _ ⟨cs23, k23, rfl, rfl, hO23⟩
   refine Zb ?_
   exact ⟨.agg ⟨cs23⟩, k23, rfl, Sub.refl, ⟨rfl, hO23⟩⟩
  ·intro ρ r13 N13 B hB hBa hp hr hr0
   have p7 : (r13 7) = .agg ⟨(cel (r13 7))⟩ ∧ OP (kids[j]) (cel (r13 7)) (N13 7) := hp 7 (by decide) rfl
   have q26 : ρ 26 = .agg ⟨(cel (r13 7))⟩ := (hr 7 _ _ (by decide) rfl rfl rfl).trans p7.1
   obtain ⟨ρ24, rfl⟩ := Ze (uc q26 un)
   clear q26
   refine Zd rfl (ZA (vs := [.agg ⟨(cel (r13 7))⟩]) [(cel (r13 7))] Tryz.runUnderlying28 el30 rfl rfl (by intro e he; simp only [List.mem_cons, List.not_mem_nil, or_false] at he; subst he; exact p7.2.len) rfl (by decide) fun b25 k25 ho25 hk25 => ?_)
   refine Zb ?_
   exact ⟨.slice (some ⟨b25, 0, none⟩) 1 1, k25, rfl, Sub.refl, ⟨rfl, hk25, ho25⟩⟩
  intro ρ r13 N13 hp hr hr0
  have p7 : (r13 7) = .agg ⟨(cel (r13 7))⟩ ∧ OP (kids[j]) (cel (r13 7)) (N13 7) := hp 7 (by decide)
  have p8 : (r13 8) = .slice (some ⟨(sblk (r13 8)), 0, none⟩) 1 1 ∧ (N13 8) = [(sblk (r13 8), .cells ⟨List.flatten [(cel (r13 7))]⟩ 30 (0, 0))] ∧ Own 30 35 (.slice (some ⟨(sblk (r13 8)), 0, none⟩) 1 1) [(cel (r13 7))] (N13 8) := hp 8 (by decide)
  have q1 : ρ 1 = .pointer (some ⟨b1, 0, none⟩) := hr0 1 (by kernel_rfl)
  have q2 : ρ 2 = .pointer (some ⟨b2, 0, none⟩) := hr0 2 (by kernel_rfl)
  have q3 : ρ 3 = .pointer (some ⟨b3, 0, none⟩) := hr0 3 (by kernel_rfl)
  have q4 : ρ 4 = .int .i64 ((j : Int)) := hr0 4 (by kernel_rfl)
  have q20 : ρ 20 = v := (hr 1 _ _ (by decide) rfl rfl).trans (hp 1 (by decide))
  have q27 : ρ 27 = .slice (some ⟨(sblk (r13 8)), 0, none⟩) 1 1 := (hr 8 _ _ (by decide) rfl rfl).trans p8.1
  obtain ⟨ρ26, rfl⟩ := Ze (uc q1 (uc q2 (uc q3 (uc q4 (uc q20 (uc q27 un))))))
  clear q1 q2 q3 q4 q20 q27
  have p13_7 := p7; have p13_8 := p8
  clear hp hr hr0 p7 p8
  refine Zw (M' := [(N13 0), (N13 1), (N13 2), (N13 3), (N13 4), (N13 5), (N13 6), (N13 7), (N13 8), [(b3, .cells ⟨pkP kind num ref v⟩ 30 (0, 0))], k1, k2, [(b2, .cells ⟨pkP 0 0 zS (.slice none 0 0)⟩ 30 (0, 0))], [(b1, .cells ⟨pkP kind num ref ks⟩ 30 (0, 0))]]) Sub.refl ?_
  refine Zw (M' := [(N13 7), (N13 8), [(b3, .cells ⟨pkP kind num ref v⟩ 30 (0, 0))], k1, k2, [(b2, .cells ⟨pkP 0 0 zS (.slice none 0 0)⟩ 30 (0, 0))], [(b1, .cells ⟨pkP kind num ref ks⟩ 30 (0, 0))]]) (Sd (Sd (Sd (Sd (Sd (Sd (Sd (Sk (Sk (Sk (Sk (Sk (Sk (Sk Sub.nil)))))))))))))) ?_
  show JL _ _ _ [_, _, _] _ _ _
  have hlens27 : ∀ e ∈ ([(cel (r13 7))] : List (List Value)), List.length e = 35 := by
   intro e he; simp only [List.mem_cons, List.not_mem_nil, or_false] at he
   rcases he with rfl
   ·exact p13_7.2.len
  have hoks27 : ∀ e ∈ ([(cel (r13 7))] : List (List Value)), okc e := by
   intro e he; simp only [List.mem_cons, List.not_mem_nil, or_false] at he
   rcases he with rfl
   ·exact p13_7.2.ok
  refine Zd rfl (Runs_append (i := 3) (n := 1) (es' := [(cel (r13 7))]) Tryz.runUnderlying28 Tryz.runUnderlying28 (Or.inl rfl) el30 rfl rfl rfl hov (fun F w m => Src.row (((At.k 1 rfl (by rw [p13_8.2.1]; exact List.mem_cons_self))).heap m) (Zy (flatten_len hlens27))) rfl hlens27 hoks27 (by decide) (by omega) fun v27 k27 ho27 => ?_)
  refine Za (v := .pointer (some ⟨b3, 34, none⟩)) rfl (fa30_3 rfl rfl) ?_
  refine Zd rfl (Zi 2 (vs := [v27]) (l := pkP kind num ref v27) ty28 rfl rfl rfl (cells_one ho27.one) rfl (Zp ho27.one Zz) (pkP_s34 ..) ?_)
  refine Zb ?_
  refine Zc ?_
  refine Za (v := .int .i64 ((j : Int))) rfl (Pu.move rfl) ?_
  refine Za (v := .int .i64 (((j + 1 : Nat) : Int))) rfl (Pu.inc rfl rfl (by omega)) ?_
  refine Za (v := .int .i64 (((j + 1 : Nat) : Int))) rfl (Pu.assign rfl) ?_
  refine Zb ?_
  refine ⟨_, ?_, (j + 1), v27, (es ++ [(cel (r13 7))]), k27, (k2 ++ ((N13 7))), rfl, rfl, rfl, rfl, (Sub.cons 2 rfl (Sub.cons 2 rfl (Sub.join (Sub.cons 2 rfl (Sk (Sd (Sk (Sk Sub.nil)))))))), ?_, ?_, ?_, rfl⟩
  ·omega
  ·omega
  ·assumption
  rw [List.take_succ_eq_append_getElem h12n]; exact OPs.snoc p13_7.2 hopv
 replace h12 := df h12
 have h12n : kids.length ≤ j := by omega
 refine J_exit _ rfl ?_
 refine Zg (Zc ?_)
 refine Zd rfl (Zj ty30 rfl (At.bx 0 rfl) (pkP_a ..) ?_)
 refine Zd rfl (Zi 3 (vs := pkP kind num ref v) (l := pkP kind num ref v) ty30 rfl rfl rfl rfl rfl (pkP_ok hov.one) (pkP_s ..) ?_)
 refine Zb ?_
 refine Zo ?_
 refine ⟨.agg ⟨pkP kind num ref v⟩, [k1 ++ k2], Ret.one rfl (RV.cell ty30 rfl (At.bx 3 rfl) (pkP_a ..)), (Sub.join (Sd (Sk (Sk Sub.nil)))), ?_⟩
 rw [List.take_of_length_le h12n] at hopv
 exact ⟨_, _, rfl, rfl, OP_mk.2 ⟨v, es, k1, k2, rfl, hk, hn, hov, hopv, rfl, hks.le⟩⟩
theorem ownPattern_ct : ∀ (p : Pt) (cs : List Value) (H : Heap), RP H cs p → sizeP p ≤ 1000000 → CT Tryz.prog 11 ⟨[.agg ⟨cs⟩]⟩ [] H (fun v N => ∃ cs k, v = .agg ⟨cs⟩ ∧ N = [k] ∧ OP p cs k) := by
 intro p
 induction p using Pt.ind with
 | h kind num ref kids ih =>
 intro cs H hp hz
 rw [sizeP] at hz
 have hlk := len_sizePs kids
 obtain ⟨ks, rfl, hk, hn, hks⟩ := RP_mk.1 hp
 refine Zr Tryz.func11 rfl rfl ?_
 refine Zg (Zc ?_)
 refine Zd rfl (Zx (l := pkP kind num ref ks) rfl rfl fun b1 => ?_)
 refine Zd rfl (Zn (l := pkP 0 0 zS (.slice none 0 0)) Tryz.zeroValue30 rfl fun b2 => ?_)
 refine Zb ?_
 refine Zg (Zc ?_)
 refine Za (v := .pointer (some ⟨b1, 34, none⟩)) rfl (fa30_3 rfl rfl) ?_
 refine Zd rfl (Zh ty28 rfl (At.bx 1 rfl) (pkP_34 ..) ?_)
 refine Za (v := ks) rfl (Pu.assign rfl) ?_
 refine Zb ?_
 refine Zg (Zc ?_)
 refine Za (v := .pointer (some ⟨b1, 34, none⟩)) rfl (fa30_3 rfl rfl) ?_
 refine Zd rfl (Zi 1 (vs := [.slice none 0 0]) (l := pkP kind num ref (.slice none 0 0)) ty28 rfl rfl rfl rfl rfl (Zp rfl Zz) (pkP_s34 ..) ?_)
 refine Zb ?_
 refine Zg ?_
 refine Zg (Zc ?_)
 refine Za (v := ks) rfl (Pu.move rfl) ?_
 obtain ⟨a3, cap3, hv3⟩ := hks.sl
 have hle3 := hks.le
 refine Za (v := .int .i64 ((kids.length : Int))) rfl (Pu.lenSl Tryz.runUnderlying28 hv3) ?_
 refine Za (v := .int .i64 0) rfl (Pu.move rfl) ?_
 refine Zb ?_
 refine Zs ?_
 refine J_loop (fun k ρ M => ∃ (j : Nat) (v : Value) (es : List (List Value)) (k1 k2 : Zm), ρ 1 = .pointer (some ⟨b1, 0, none⟩) ∧ ρ 2 = .pointer (some ⟨b2, 0, none⟩) ∧ ρ 9 = ks ∧ ρ 10 = .int .i64 ((kids.length : Int)) ∧ ρ 11 = .int .i64 ((j : Int)) ∧ Sub [[(b1, .cells ⟨pkP kind num ref v⟩ 30 (0, 0))], k1, k2, [(b2, .cells ⟨pkP 0 0 zS (.slice none 0 0)⟩ 30 (0, 0))]] M ∧ j ≤ kids.length ∧ Own 30 35 v es k1 ∧ OPs ((kids.take j)) es k2 ∧ k = kids.length - j) _ ⟨0, (.slice none 0 0), [], [], [], rfl, rfl, rfl, rfl, rfl, (Sub.cons 1 rfl (Sub.emp (Sub.emp (Sk Sub.nil)))), Nat.zero_le _, Own.nil, OPs.nil, rfl⟩ ?_
 rintro _ ρ4 _ ⟨j, v, es, k1, k2, e5, e6, e7, e8, e9, hm10, hj, hov, hopv, rfl⟩
 obtain ⟨ρ11, rfl⟩ := Ze (uc e5 (uc e6 (uc e7 (uc e8 (uc e9 un)))))
 clear e5 e6 e7 e8 e9
 refine J_sub hm10 ?_
 have hlen := hks.le
 refine Zg (Zc ?_)
 refine Za (v := .bool (decide ((j : Int) < (kids.length : Int)))) rfl (Pu.lss rfl rfl) ?_
 refine Zb ?_
 refine Zg ?_
 refine Zl (b := decide ((j : Int) < (kids.length : Int))) rfl (fun h12 => ?_) (fun h12 => ?_)
 ·replace h12 := dt h12
  have h12n : j < kids.length := by omega
  have helv := OPs_len hopv
  rw [List.length_take] at helv
  have hs1 := sizePs_mem _ (List.getElem_mem h12n)
  refine Zq ?_
  refine Zg ?_
  refine Zs ?_
  refine Zg (Zc ?_)
  obtain ⟨b13, o13, cap13, row13, T13, fr13, cs13, hv13, hb13, hs13, hE13⟩ := hks.get j (by first | assumption | omega | decide | simp)
  refine Za (v := .pointer (some ⟨b13, o13 + j * 35, none⟩)) rfl (Pu.idx j Tryz.runUnderlying28 ty30 hv13 rfl rfl (by first | assumption | omega | decide | simp)) ?_
  refine Zd rfl (Zj ty30 rfl (At.im hb13) hs13 ?_)
  refine Zd rfl (Zn (l := pkP 0 0 zS (.slice none 0 0)) Tryz.zeroValue30 rfl fun b14 => ?_)
  refine Zd rfl (Zi 0 (vs := cs13) (l := cs13) ty30 rfl rfl rfl rfl (RP_len hE13) (RP_ok hE13) (spl_a (n := 35) rfl (RP_len hE13)) ?_)
  refine Zb ?_
  refine J_draw mixed #[0, 1, 0, 4, 12, 31, 63, 127] 5 5 5 rfl (by kernel_rfl) (fun i r15 N15 => match i with | 0 => (r15 0) = .pointer (some ⟨b1, 34, none⟩) | 1 => (r15 1) = v | 2 => (r15 2) = .agg ⟨cs13⟩ | 3 => (r15 3) = .agg ⟨(cel (r15 3))⟩ ∧ OP (kids[j]) (cel (r15 3)) (N15 3) | 4 => (r15 4) = .slice (some ⟨(sblk (r15 4)), 0, none⟩) 1 1 ∧ (N15 4) = [(sblk (r15 4), .cells ⟨List.flatten [(cel (r15 3))]⟩ 30 (0, 0))] ∧ Own 30 35 (.slice (some ⟨(sblk (r15 4)), 0, none⟩) 1 1) [(cel (r15 3))] (N15 4) | _ => True) ⟨?_, ?_, ?_, ?_, ?_, trivial⟩ ?_
  ·intro ρ r15 N15 B hB hBa hp hr hr0
   have q1 : ρ 1 = .pointer (some ⟨b1, 0, none⟩) := hr0 1 (by kernel_rfl)
   obtain ⟨ρ16, rfl⟩ := Ze (uc q1 un)
   clear q1
   refine Za (v := .pointer (some ⟨b1, 34, none⟩)) rfl (fa30_3 rfl rfl) ?_
   refine Zb ?_
   exact ⟨.pointer (some ⟨b1, 34, none⟩), [], rfl, (Sub.emp Sub.refl), rfl⟩
  ·intro ρ r15 N15 B hB hBa hp hr hr0
   have q15 : ρ 15 = .pointer (some ⟨b1, 34, none⟩) := (hr 0 _ _ (by decide) rfl rfl rfl).trans (hp 0 (by decide) rfl)
   obtain ⟨ρ17, rfl⟩ := Ze (uc q15 un)
   clear q15
   refine Zd rfl (Zh ty28 rfl (At.bx 6 (Zu ((hB 1 (by decide)).trans rfl))) (pkP_34 ..) ?_)
   refine Zb ?_
   exact ⟨v, [], rfl, (Sub.emp Sub.refl), rfl⟩
  ·intro ρ r15 N15 B hB hBa hp hr hr0
   have q5 : ρ 5 = .pointer (some ⟨b14, 0, none⟩) := hr0 5 (by kernel_rfl)
   obtain ⟨ρ18, rfl⟩ := Ze (uc q5 un)
   clear q5
   refine Zd rfl (Zj ty30 rfl (At.bx 5 (Zu ((hB 0 (by decide)).trans rfl))) (Zy (RP_len hE13)) ?_)
   refine Zb ?_
   exact ⟨.agg ⟨cs13⟩, [], rfl, (Sub.emp Sub.refl), rfl⟩
  ·intro ρ r15 N15 B hB hBa hp hr hr0
   have q17 : ρ 17 = .agg ⟨cs13⟩ := (hr 2 _ _ (by decide) rfl rfl rfl).trans (hp 2 (by decide) rfl)
   obtain ⟨ρ19, rfl⟩ := Ze (uc q17 un)
   clear q17
   refine Zk rfl Tryz.call11 rfl (fun hin => ih _ (List.getElem_mem h12n) _ _ (RP.mono (Hle.hu _ _) hE13) (by omega)) rfl ?_
   rintro _ _ ⟨cs20, k20, rfl, rfl, hO20⟩
   refine Zb ?_
   exact ⟨.agg ⟨cs20⟩, k20, rfl, Sub.refl, ⟨rfl, hO20⟩⟩
  ·intro ρ r15 N15 B hB hBa hp hr hr0
   have p3 : (r15 3) = .agg ⟨(cel (r15 3))⟩ ∧ OP (kids[j]) (cel (r15 3)) (N15 3) := hp 3 (by decide) rfl
   have q18 : ρ 18 = .agg ⟨(cel (r15 3))⟩ := (hr 3 _ _ (by decide) rfl rfl rfl).trans p3.1
   obtain ⟨ρ21, rfl⟩ := Ze (uc q18 un)
   clear q18
   refine Zd rfl (ZA (vs := [.agg ⟨(cel (r15 3))⟩]) [(cel (r15 3))] Tryz.runUnderlying28 el30 rfl rfl (by intro e he; simp only [List.mem_cons, List.not_mem_nil, or_false] at he; subst he; exact p3.2.len) rfl (by decide) fun b22 k22 ho22 hk22 => ?_)
   refine Zb ?_
   exact ⟨.slice (some ⟨b22, 0, none⟩) 1 1, k22, rfl, Sub.refl, ⟨rfl, hk22, ho22⟩⟩
  intro ρ r15 N15 hp hr hr0
  have p3 : (r15 3) = .agg ⟨(cel (r15 3))⟩ ∧ OP (kids[j]) (cel (r15 3)) (N15 3) := hp 3 (by decide)
  have p4 : (r15 4) = .slice (some ⟨(sblk (r15 4)), 0, none⟩) 1 1 ∧ (N15 4) = [(sblk (r15 4), .cells ⟨List.flatten [(cel (r15 3))]⟩ 30 (0, 0))] ∧ Own 30 35 (.slice (some ⟨(sblk (r15 4)), 0, none⟩) 1 1) [(cel (r15 3))] (N15 4) := hp 4 (by decide)
  have q1 : ρ 1 = .pointer (some ⟨b1, 0, none⟩) := hr0 1 (by kernel_rfl)
  have q2 : ρ 2 = .pointer (some ⟨b2, 0, none⟩) := hr0 2 (by kernel_rfl)
  have q9 : ρ 9 = ks := hr0 9 (by kernel_rfl)
  have q10 : ρ 10 = .int .i64 ((kids.length : Int)) := hr0 10 (by kernel_rfl)
  have q11 : ρ 11 = .int .i64 ((j : Int)) := hr0 11 (by kernel_rfl)
  have q16 : ρ 16 = v := (hr 1 _ _ (by decide) rfl rfl).trans (hp 1 (by decide))
  have q19 : ρ 19 = .slice (some ⟨(sblk (r15 4)), 0, none⟩) 1 1 := (hr 4 _ _ (by decide) rfl rfl).trans p4.1
  obtain ⟨ρ23, rfl⟩ := Ze (uc q1 (uc q2 (uc q9 (uc q10 (uc q11 (uc q16 (uc q19 un)))))))
  clear q1 q2 q9 q10 q11 q16 q19
  have p15_3 := p3; have p15_4 := p4
  clear hp hr hr0 p3 p4
  refine Zw (M' := [(N15 0), (N15 1), (N15 2), (N15 3), (N15 4), [(b14, .cells ⟨cs13⟩ 30 (0, 0))], [(b1, .cells ⟨pkP kind num ref v⟩ 30 (0, 0))], k1, k2, [(b2, .cells ⟨pkP 0 0 zS (.slice none 0 0)⟩ 30 (0, 0))]]) Sub.refl ?_
  refine Zw (M' := [(N15 3), (N15 4), [(b14, .cells ⟨cs13⟩ 30 (0, 0))], [(b1, .cells ⟨pkP kind num ref v⟩ 30 (0, 0))], k1, k2, [(b2, .cells ⟨pkP 0 0 zS (.slice none 0 0)⟩ 30 (0, 0))]]) (Sd (Sd (Sd (Sk (Sk (Sk (Sk (Sk (Sk (Sk Sub.nil)))))))))) ?_
  show JL _ _ _ [_, _, _] _ _ _
  have hlens24 : ∀ e ∈ ([(cel (r15 3))] : List (List Value)), List.length e = 35 := by
   intro e he; simp only [List.mem_cons, List.not_mem_nil, or_false] at he
   rcases he with rfl
   ·exact p15_3.2.len
  have hoks24 : ∀ e ∈ ([(cel (r15 3))] : List (List Value)), okc e := by
   intro e he; simp only [List.mem_cons, List.not_mem_nil, or_false] at he
   rcases he with rfl
   ·exact p15_3.2.ok
  refine Zd rfl (Runs_append (i := 4) (n := 1) (es' := [(cel (r15 3))]) Tryz.runUnderlying28 Tryz.runUnderlying28 (Or.inl rfl) el30 rfl rfl rfl hov (fun F w m => Src.row (((At.k 1 rfl (by rw [p15_4.2.1]; exact List.mem_cons_self))).heap m) (Zy (flatten_len hlens24))) rfl hlens24 hoks24 (by decide) (by omega) fun v24 k24 ho24 => ?_)
  refine Za (v := .pointer (some ⟨b1, 34, none⟩)) rfl (fa30_3 rfl rfl) ?_
  refine Zd rfl (Zi 3 (vs := [v24]) (l := pkP kind num ref v24) ty28 rfl rfl rfl (cells_one ho24.one) rfl (Zp ho24.one Zz) (pkP_s34 ..) ?_)
  refine Zb ?_
  refine Zc ?_
  refine Za (v := .int .i64 (((j + 1 : Nat) : Int))) rfl (Pu.inc rfl rfl (by omega)) ?_
  refine Za (v := .int .i64 (((j + 1 : Nat) : Int))) rfl (Pu.move rfl) ?_
  refine Zb ?_
  refine ⟨_, ?_, (j + 1), v24, (es ++ [(cel (r15 3))]), k24, (k2 ++ ((N15 3))), rfl, rfl, rfl, rfl, rfl, (Sub.cons 3 rfl (Sub.cons 3 rfl (Sub.join (Sub.cons 3 rfl (Sk (Sd (Sd (Sk Sub.nil)))))))), ?_, ?_, ?_, rfl⟩
  ·omega
  ·omega
  ·assumption
  rw [List.take_succ_eq_append_getElem h12n]; exact OPs.snoc p15_3.2 hopv
 replace h12 := df h12
 have h12n : kids.length ≤ j := by omega
 refine J_exit _ rfl ?_
 refine Zg (Zc ?_)
 refine Zd rfl (Zj ty30 rfl (At.bx 0 rfl) (pkP_a ..) ?_)
 refine Zd rfl (Zi 3 (vs := pkP kind num ref v) (l := pkP kind num ref v) ty30 rfl rfl rfl rfl rfl (pkP_ok hov.one) (pkP_s ..) ?_)
 refine Zb ?_
 refine Zo ?_
 refine ⟨.agg ⟨pkP kind num ref v⟩, [k1 ++ k2], Ret.one rfl (RV.cell ty30 rfl (At.bx 3 rfl) (pkP_a ..)), (Sub.join (Sd (Sk (Sk Sub.nil)))), ?_⟩
 rw [List.take_of_length_le h12n] at hopv
 exact ⟨_, _, rfl, rfl, OP_mk.2 ⟨v, es, k1, k2, rfl, hk, hn, hov, hopv, rfl, hks.le⟩⟩
end Go.Proofs.YtdeinimmmjichaaGreat.Hs
/-! Walks, printed by a program of this session's own (gen.py). -/
namespace Go.Proofs.YtdeinimmmjichaaGreat.Hs
open Go Go.Proofs
set_option maxRecDepth 100000
set_option linter.unusedVariables false
set_option linter.unusedSimpArgs false
attribute [local irreducible] JL J CT wlo
set_option maxHeartbeats 1000000 in
theorem mapTerm_ct : ∀ (gr : Nat) (frs crs : List Value) (hcallr : ∀ args w, (callFunc gr args).run Tryz.prog w = .ok (.enter gr args) w) (rf : Sm → Sm) (gv : Nat) (fvs cvs : List Value) (hcallv : ∀ args w, (callFunc gv args).run Tryz.prog w = .ok (.enter gv args) w) (σ : Type) (Sc : σ → Zm) (Inv : σ → Prop) (vf : Int → Int → σ → Tm × σ) (hI : ∀ n b s, Inv s → Inv (vf n b s).2) (t : Tm) (b : Int) (s : σ) (cs : List Value) (H : Heap), RT H cs t → sizeT t ≤ 1000000 → vOK t → 0 ≤ b → b + 2 * sizeT t ≤ 2000000 → Inv s → (∀ s h, Hle H h → CT Tryz.prog gr ⟨frs ++ [.agg ⟨sC s⟩] ++ crs⟩ [] h (fun v N => v = .agg ⟨sC (rf s)⟩ ∧ N = [])) → (∀ (n b : Int) (s : σ) (h : Heap), Hle H h → Inv s → 0 ≤ n → n ≤ 2000000 → 0 ≤ b → b ≤ 2000000 → CT Tryz.prog gv ⟨fvs ++ [.int .i64 n, .int .i64 b] ++ cvs⟩ [Sc s] h (fun v N => ∃ cs k, v = .agg ⟨cs⟩ ∧ N = [k, Sc (vf n b s).2] ∧ OT (vf n b s).1 cs k)) → CT Tryz.prog 81 ⟨[.agg ⟨[.func (.func gv) ⟨fvs⟩ ⟨cvs⟩, .func (.func gr) ⟨frs⟩ ⟨crs⟩]⟩, .agg ⟨cs⟩, .int .i64 b]⟩ [Sc s] H (fun v N => ∃ cs k, v = .agg ⟨cs⟩ ∧ N = [k, Sc (mapT rf vf b t s).2] ∧ OT (mapT rf vf b t s).1 cs k) := by
 intro gr frs crs hcallr rf gv fvs cvs hcallv σ Sc Inv vf hI t
 induction t using Tm.ind with
 | h kind num ref kids cases ih ih' =>
 intro b s cs H ht hz hv hb0 hb hs hgr hgv
 rw [sizeT] at hz hb
 rw [vOK] at hv
 have hv1 : ¬ kind = 1 ∨ (0 ≤ num ∧ num ≤ 2000000) := by by_cases h : kind = 1; exact .inr (hv.1 h); exact .inl h
 have hlk := len_sizeTs kids
 have hlc := len_sizeCs cases
 obtain ⟨ks, cv, rfl, hk, hn, hks, hcv⟩ := RT_mk.1 ht
 have hn1 : -9223372036854775808 ≤ num := hn.1
 have hn2 : num ≤ 9223372036854775807 := hn.2
 refine Zr Tryz.func81 rfl rfl ?_
 refine Zg (Zc ?_)
 refine Zd rfl (Zx (l := [.func (.func gv) ⟨fvs⟩ ⟨cvs⟩, .func (.func gr) ⟨frs⟩ ⟨crs⟩]) rfl rfl fun b1 => ?_)
 refine Zd rfl (Zx (l := pkT kind num ref ks cv) rfl rfl fun b2 => ?_)
 refine Zd rfl (Zn (l := pkT 0 0 zS (.slice none 0 0) (.slice none 0 0)) Tryz.zeroValue27 rfl fun b3 => ?_)
 refine Zb ?_
 refine Zg ?_
 refine J_cut (fun ρ M => ρ 2 = .int .i64 b ∧ ρ 3 = .pointer (some ⟨b1, 0, none⟩) ∧ ρ 4 = .pointer (some ⟨b2, 0, none⟩) ∧ ρ 6 = .pointer (some ⟨b3, 0, none⟩) ∧ ρ 20 = .bool ((decide (kind = 1)) && (decide (b ≤ num))) ∧ M = [[(b3, .cells ⟨pkT 0 0 zS (.slice none 0 0) (.slice none 0 0)⟩ 27 (0, 0))], [(b2, .cells ⟨pkT kind num ref ks cv⟩ 27 (0, 0))], [(b1, .cells ⟨[.func (.func gv) ⟨fvs⟩ ⟨cvs⟩, .func (.func gr) ⟨frs⟩ ⟨crs⟩]⟩ 118 (0, 0))], Sc s]) ?_ ?_
 ·refine Zc ?_
  refine Za (v := .pointer (some ⟨b2, 0, none⟩)) rfl (fa27_0 rfl rfl) ?_
  refine Zd rfl (Zh ty3 rfl (At.bx 1 rfl) (pkT_0 ..) ?_)
  refine Za (v := .bool (decide (kind = 1))) rfl (Pu.eql rfl rfl) ?_
  refine Za (v := .bool (decide (kind = 1))) rfl (Pu.move rfl) ?_
  cases h4 : (decide (kind = 1)) with
  | true =>
   replace h4 := dt h4
   refine Za (v := .pointer (some ⟨b2, 1, none⟩)) rfl (fa27_1 rfl rfl) ?_
   refine Zd rfl (Zh ty3 rfl (At.bx 1 rfl) (pkT_1 ..) ?_)
   refine Za (v := .int .i64 b) rfl (Pu.move rfl) ?_
   refine Za (v := .bool (decide (b ≤ num))) rfl (Pu.geq rfl rfl) ?_
   refine Za (v := .bool (decide (b ≤ num))) rfl (Pu.pickT rfl rfl) ?_
   refine Zb ?_
   first | exact ⟨rfl, rfl, rfl, rfl, rfl, rfl⟩ | (exfalso; omega)
  | false =>
   replace h4 := df h4
   refine Zf rfl ?_
   refine Zf rfl ?_
   refine Zf rfl ?_
   refine Zf rfl ?_
   refine Za (v := .bool false) rfl (Pu.pickF rfl rfl) ?_
   refine Zb ?_
   first | exact ⟨rfl, rfl, rfl, rfl, rfl, rfl⟩ | (exfalso; omega)
 rintro ρ5 _ ⟨e6, e7, e8, e9, e10, rfl⟩
 obtain ⟨ρ11, rfl⟩ := Ze (uc e6 (uc e7 (uc e8 (uc e9 (uc e10 un)))))
 clear e6 e7 e8 e9 e10
 refine Zl (b := (decide (kind = 1)) && (decide (b ≤ num))) rfl (fun h12 => ?_) (fun h12 => ?_)
 ·obtain ⟨h12a, h12b⟩ := andT h12
  replace h12a := dt h12a
  replace h12b := dt h12b
  refine Zg (Zc ?_)
  refine Za (v := .pointer (some ⟨b1, 0, none⟩)) rfl (fa118_0 rfl rfl) ?_
  refine Zd rfl (Zh ty115 rfl (At.bx 2 rfl) rfl ?_)
  refine Za (v := .pointer (some ⟨b2, 1, none⟩)) rfl (fa27_1 rfl rfl) ?_
  refine Zd rfl (Zh ty3 rfl (At.bx 1 rfl) (pkT_1 ..) ?_)
  refine Za (v := .int .i64 b) rfl (Pu.move rfl) ?_
  refine Za (v := .int .i64 (num - b)) rfl (Pu.sub64 rfl rfl (by first | omega | (constructor <;> omega))) ?_
  refine Za (v := .int .i64 b) rfl (Pu.move rfl) ?_
  refine JL_call1 3 rfl hcallv rfl rfl (fun hin => hgv _ _ _ _ (Hle.hu _ _) hs (by omega) (by omega) (by omega) (by omega)) rfl ?_
  rintro _ _ ⟨cs13, k13, rfl, rfl, hO13⟩
  refine Zd rfl (Zi 2 (vs := cs13) (l := cs13) Zt rfl rfl rfl rfl hO13.len hO13.ok (spl_a (n := 36) rfl hO13.len) ?_)
  refine Zb ?_
  refine Zo ?_
  refine ⟨.agg ⟨cs13⟩, [k13, Sc ((vf (num - b) b s).2)], Ret.one rfl (RV.cell Zt rfl (At.bx 2 rfl) (Zy hO13.len)), (Sk (Sk Sub.nil)), ?_⟩
  have hx : kind = 1 ∧ b ≤ num := ⟨h12a, h12b⟩
  exact ⟨_, _, rfl, by rw [mapT, if_pos hx], by rw [mapT, if_pos hx]; exact hO13⟩
 refine Zq ?_
 refine Zg ?_
 refine J_draw mixed #[0, 1, 0, 4, 0, 16, 0, 64, 240, 511, 0, 2047] 11 11 4 rfl (by kernel_rfl) (fun i r14 N14 => match i with | 0 => (r14 0) = .pointer (some ⟨b2, 0, none⟩) | 1 => (r14 1) = .int .i64 kind | 2 => (r14 2) = .pointer (some ⟨b2, 1, none⟩) | 3 => (r14 3) = .int .i64 num | 4 => (r14 4) = .pointer (some ⟨b1, 1, none⟩) | 5 => (r14 5) = .func (.func gr) ⟨frs⟩ ⟨crs⟩ | 6 => (r14 6) = .pointer (some ⟨b2, 2, none⟩) | 7 => (r14 7) = .agg ⟨sC ref⟩ | 8 => (r14 8) = .agg ⟨sC (rf ref)⟩ | 9 => (r14 9) = .agg ⟨pkT kind num (rf ref) (.slice none 0 0) (.slice none 0 0)⟩ | 10 => (r14 10) = .pointer (some ⟨(pblk (r14 10)), 0, none⟩) ∧ (N14 10) = [((pblk (r14 10)), .cells ⟨pkT 0 0 zS (.slice none 0 0) (.slice none 0 0)⟩ 27 (0, 0))] | _ => True) ⟨?_, ?_, ?_, ?_, ?_, ?_, ?_, ?_, ?_, ?_, ?_, trivial⟩ ?_
 ·intro ρ r14 N14 B hB hBa hp hr hr0
  have q4 : ρ 4 = .pointer (some ⟨b2, 0, none⟩) := hr0 4 (by kernel_rfl)
  obtain ⟨ρ15, rfl⟩ := Ze (uc q4 un)
  clear q4
  refine Za (v := .pointer (some ⟨b2, 0, none⟩)) rfl (fa27_0 rfl rfl) ?_
  refine Zb ?_
  exact ⟨.pointer (some ⟨b2, 0, none⟩), [], rfl, (Sub.emp Sub.refl), rfl⟩
 ·intro ρ r14 N14 B hB hBa hp hr hr0
  have q29 : ρ 29 = .pointer (some ⟨b2, 0, none⟩) := (hr 0 _ _ (by decide) rfl rfl rfl).trans (hp 0 (by decide) rfl)
  obtain ⟨ρ16, rfl⟩ := Ze (uc q29 un)
  clear q29
  refine Zd rfl (Zh ty3 rfl (At.bx 12 (Zu ((hB 1 (by decide)).trans rfl))) (pkT_0 ..) ?_)
  refine Zb ?_
  exact ⟨.int .i64 kind, [], rfl, (Sub.emp Sub.refl), rfl⟩
 ·intro ρ r14 N14 B hB hBa hp hr hr0
  have q4 : ρ 4 = .pointer (some ⟨b2, 0, none⟩) := hr0 4 (by kernel_rfl)
  obtain ⟨ρ17, rfl⟩ := Ze (uc q4 un)
  clear q4
  refine Za (v := .pointer (some ⟨b2, 1, none⟩)) rfl (fa27_1 rfl rfl) ?_
  refine Zb ?_
  exact ⟨.pointer (some ⟨b2, 1, none⟩), [], rfl, (Sub.emp Sub.refl), rfl⟩
 ·intro ρ r14 N14 B hB hBa hp hr hr0
  have q31 : ρ 31 = .pointer (some ⟨b2, 1, none⟩) := (hr 2 _ _ (by decide) rfl rfl rfl).trans (hp 2 (by decide) rfl)
  obtain ⟨ρ18, rfl⟩ := Ze (uc q31 un)
  clear q31
  refine Zd rfl (Zh ty3 rfl (At.bx 12 (Zu ((hB 1 (by decide)).trans rfl))) (pkT_1 ..) ?_)
  refine Zb ?_
  exact ⟨.int .i64 num, [], rfl, (Sub.emp Sub.refl), rfl⟩
 ·intro ρ r14 N14 B hB hBa hp hr hr0
  have q3 : ρ 3 = .pointer (some ⟨b1, 0, none⟩) := hr0 3 (by kernel_rfl)
  obtain ⟨ρ19, rfl⟩ := Ze (uc q3 un)
  clear q3
  refine Za (v := .pointer (some ⟨b1, 1, none⟩)) rfl (fa118_1 rfl rfl) ?_
  refine Zb ?_
  exact ⟨.pointer (some ⟨b1, 1, none⟩), [], rfl, (Sub.emp Sub.refl), rfl⟩
 ·intro ρ r14 N14 B hB hBa hp hr hr0
  have q33 : ρ 33 = .pointer (some ⟨b1, 1, none⟩) := (hr 4 _ _ (by decide) rfl rfl rfl).trans (hp 4 (by decide) rfl)
  obtain ⟨ρ20, rfl⟩ := Ze (uc q33 un)
  clear q33
  refine Zd rfl (Zh ty116 rfl (At.bx 13 (Zu ((hB 2 (by decide)).trans rfl))) rfl ?_)
  refine Zb ?_
  exact ⟨.func (.func gr) ⟨frs⟩ ⟨crs⟩, [], rfl, (Sub.emp Sub.refl), rfl⟩
 ·intro ρ r14 N14 B hB hBa hp hr hr0
  have q4 : ρ 4 = .pointer (some ⟨b2, 0, none⟩) := hr0 4 (by kernel_rfl)
  obtain ⟨ρ21, rfl⟩ := Ze (uc q4 un)
  clear q4
  refine Za (v := .pointer (some ⟨b2, 2, none⟩)) rfl (fa27_2 rfl rfl) ?_
  refine Zb ?_
  exact ⟨.pointer (some ⟨b2, 2, none⟩), [], rfl, (Sub.emp Sub.refl), rfl⟩
 ·intro ρ r14 N14 B hB hBa hp hr hr0
  have q35 : ρ 35 = .pointer (some ⟨b2, 2, none⟩) := (hr 6 _ _ (by decide) rfl rfl rfl).trans (hp 6 (by decide) rfl)
  obtain ⟨ρ22, rfl⟩ := Ze (uc q35 un)
  clear q35
  refine Zd rfl (Zj ty23 rfl (At.bx 12 (Zu ((hB 1 (by decide)).trans rfl))) (pkT_2 ..) ?_)
  refine Zb ?_
  exact ⟨.agg ⟨sC ref⟩, [], rfl, (Sub.emp Sub.refl), rfl⟩
 ·intro ρ r14 N14 B hB hBa hp hr hr0
  have q34 : ρ 34 = .func (.func gr) ⟨frs⟩ ⟨crs⟩ := (hr 5 _ _ (by decide) rfl rfl rfl).trans (hp 5 (by decide) rfl)
  have q36 : ρ 36 = .agg ⟨sC ref⟩ := (hr 7 _ _ (by decide) rfl rfl rfl).trans (hp 7 (by decide) rfl)
  obtain ⟨ρ23, rfl⟩ := Ze (uc q34 (uc q36 un))
  clear q34 q36
  refine Zk rfl hcallr rfl (fun hin => hgr _ _ (Hle.hu _ _)) rfl ?_
  rintro _ _ ⟨rfl, rfl⟩
  refine Zb ?_
  exact ⟨.agg ⟨sC (rf ref)⟩, [], rfl, (Sub.emp Sub.refl), rfl⟩
 ·intro ρ r14 N14 B hB hBa hp hr hr0
  have q30 : ρ 30 = .int .i64 kind := (hr 1 _ _ (by decide) rfl rfl rfl).trans (hp 1 (by decide) rfl)
  have q32 : ρ 32 = .int .i64 num := (hr 3 _ _ (by decide) rfl rfl rfl).trans (hp 3 (by decide) rfl)
  have q37 : ρ 37 = .agg ⟨sC (rf ref)⟩ := (hr 8 _ _ (by decide) rfl rfl rfl).trans (hp 8 (by decide) rfl)
  obtain ⟨ρ24, rfl⟩ := Ze (uc q30 (uc q32 (uc q37 un)))
  clear q30 q32 q37
  refine Za (v := .agg ⟨pkT kind num (rf ref) (.slice none 0 0) (.slice none 0 0)⟩) rfl (Pu.build (pv := [(0, .int .i64 kind), (1, .int .i64 num), (2, .agg ⟨sC (rf ref)⟩)]) (l := pkT kind num (rf ref) (.slice none 0 0) (.slice none 0 0)) rfl (bld27_0_1_2 _ _ _)) ?_
  refine Zb ?_
  exact ⟨.agg ⟨pkT kind num (rf ref) (.slice none 0 0) (.slice none 0 0)⟩, [], rfl, (Sub.emp Sub.refl), rfl⟩
 ·intro ρ r14 N14 B hB hBa hp hr hr0
  refine Zd rfl (Zn (l := pkT 0 0 zS (.slice none 0 0) (.slice none 0 0)) Tryz.zeroValue27 rfl fun b25 => ?_)
  refine Zb ?_
  exact ⟨.pointer (some ⟨b25, 0, none⟩), [(b25, .cells ⟨pkT 0 0 zS (.slice none 0 0) (.slice none 0 0)⟩ 27 (0, 0))], rfl, Sub.refl, ⟨rfl, rfl⟩⟩
 intro ρ r14 N14 hp hr hr0
 have p10 : (r14 10) = .pointer (some ⟨(pblk (r14 10)), 0, none⟩) ∧ (N14 10) = [((pblk (r14 10)), .cells ⟨pkT 0 0 zS (.slice none 0 0) (.slice none 0 0)⟩ 27 (0, 0))] := hp 10 (by decide)
 have q2 : ρ 2 = .int .i64 b := hr0 2 (by kernel_rfl)
 have q3 : ρ 3 = .pointer (some ⟨b1, 0, none⟩) := hr0 3 (by kernel_rfl)
 have q4 : ρ 4 = .pointer (some ⟨b2, 0, none⟩) := hr0 4 (by kernel_rfl)
 have q6 : ρ 6 = .pointer (some ⟨b3, 0, none⟩) := hr0 6 (by kernel_rfl)
 have q7 : ρ 7 = .pointer (some ⟨(pblk (r14 10)), 0, none⟩) := (hr 10 _ _ (by decide) rfl rfl).trans p10.1
 have q38 : ρ 38 = .agg ⟨pkT kind num (rf ref) (.slice none 0 0) (.slice none 0 0)⟩ := (hr 9 _ _ (by decide) rfl rfl).trans (hp 9 (by decide))
 obtain ⟨ρ26, rfl⟩ := Ze (uc q2 (uc q3 (uc q4 (uc q6 (uc q7 (uc q38 un))))))
 clear q2 q3 q4 q6 q7 q38
 have p14_10 := p10
 clear hp hr hr0 p10
 refine Zw (M' := [(N14 0), (N14 1), (N14 2), (N14 3), (N14 4), (N14 5), (N14 6), (N14 7), (N14 8), (N14 9), (N14 10), [(b3, .cells ⟨pkT 0 0 zS (.slice none 0 0) (.slice none 0 0)⟩ 27 (0, 0))], [(b2, .cells ⟨pkT kind num ref ks cv⟩ 27 (0, 0))], [(b1, .cells ⟨[.func (.func gv) ⟨fvs⟩ ⟨cvs⟩, .func (.func gr) ⟨frs⟩ ⟨crs⟩]⟩ 118 (0, 0))], Sc s]) Sub.refl ?_
 refine Zw (M' := [[((pblk (r14 10)), .cells ⟨pkT 0 0 zS (.slice none 0 0) (.slice none 0 0)⟩ 27 (0, 0))], [(b3, .cells ⟨pkT 0 0 zS (.slice none 0 0) (.slice none 0 0)⟩ 27 (0, 0))], [(b2, .cells ⟨pkT kind num ref ks cv⟩ 27 (0, 0))], [(b1, .cells ⟨[.func (.func gv) ⟨fvs⟩ ⟨cvs⟩, .func (.func gr) ⟨frs⟩ ⟨crs⟩]⟩ 118 (0, 0))], Sc s]) (Sd (Sd (Sd (Sd (Sd (Sd (Sd (Sd (Sd (Sd (Se p14_10.2 (Sk (Sk (Sk (Sk Sub.nil))))))))))))))) ?_
 show JL _ _ _ [_] _ _ _
 refine Zd rfl (Zi 0 (vs := pkT kind num (rf ref) (.slice none 0 0) (.slice none 0 0)) (l := pkT kind num (rf ref) (.slice none 0 0) (.slice none 0 0)) Zt rfl rfl rfl rfl rfl (pkT_ok rfl rfl) (pkT_s ..) ?_)
 refine Zb ?_
 refine Zg (Zc ?_)
 refine Za (v := .pointer (some ⟨b2, 34, none⟩)) rfl (fa27_3 rfl rfl) ?_
 refine Zd rfl (Zh ty24 rfl (At.bx 2 rfl) (pkT_34 ..) ?_)
 obtain ⟨a27, cap27, hv27⟩ := hks.sl
 have hle27 := hks.le
 refine Za (v := .int .i64 ((kids.length : Int))) rfl (Pu.lenSl Tryz.runUnderlying24 hv27) ?_
 refine Zd rfl (Runs_makeO (kids.length) Tryz.runUnderlying24 el27 rfl rfl rfl rfl (by omega) (by omega) fun v28 k28 ho28 => ?_)
 refine Za (v := .pointer (some ⟨(pblk (r14 10)), 34, none⟩)) rfl (fa27_3 rfl rfl) ?_
 refine Zd rfl (Zi 1 (vs := [v28]) (l := pkT kind num (rf ref) v28 (.slice none 0 0)) ty24 rfl rfl rfl (cells_one ho28.one) rfl (Zp ho28.one Zz) (pkT_s34 ..) ?_)
 refine Zb ?_
 refine Zg (Zc ?_)
 refine Za (v := .pointer (some ⟨(pblk (r14 10)), 34, none⟩)) rfl (fa27_3 rfl rfl) ?_
 refine Zd rfl (Zh ty24 rfl (At.bx 1 rfl) (pkT_34 ..) ?_)
 refine Za (v := .pointer (some ⟨b2, 34, none⟩)) rfl (fa27_3 rfl rfl) ?_
 refine Zd rfl (Zh ty24 rfl (At.bx 3 rfl) (pkT_34 ..) ?_)
 obtain ⟨es29, he29, hH29, hl29, hok29, hsr29⟩ := kids_src (P := Tryz.prog) hks
 refine Zd rfl (Runs_copy (i := 0) (n := kids.length) (m := kids.length) (es' := es29) Tryz.runUnderlying24 el27 rfl rfl rfl ho28 (fun F w m => hsr29 w _ m) he29 (by simp) hl29 hok29 rfl fun kc29 hc29 => ?_)
 refine Zb ?_
 refine Zg ?_
 refine Zg (Zc ?_)
 refine Za (v := .pointer (some ⟨(pblk (r14 10)), 34, none⟩)) rfl (fa27_3 rfl rfl) ?_
 refine Zd rfl (Zh ty24 rfl (At.bx 1 rfl) (pkT_34 ..) ?_)
 obtain ⟨a30, cap30, hv30⟩ := hc29.sl
 rw [he29] at hv30
 refine Za (v := .int .i64 ((kids.length : Int))) rfl (Pu.lenSl Tryz.runUnderlying24 hv30) ?_
 refine Za (v := .int .i64 0) rfl (Pu.move rfl) ?_
 refine Zb ?_
 refine Zs ?_
 have hneg : ¬ (kind = 1 ∧ b ≤ num) := by intro hh; simp [hh.1, hh.2] at h12
 refine J_loop (fun k ρ M => ∃ (j : Nat) (es : List (List Value)) (k1 k2 : Zm) (s1 : σ), ρ 2 = .int .i64 b ∧ ρ 3 = .pointer (some ⟨b1, 0, none⟩) ∧ ρ 4 = .pointer (some ⟨b2, 0, none⟩) ∧ ρ 6 = .pointer (some ⟨b3, 0, none⟩) ∧ ρ 7 = .pointer (some ⟨(pblk (r14 10)), 0, none⟩) ∧ ρ 50 = v28 ∧ ρ 51 = .int .i64 ((kids.length : Int)) ∧ ρ 52 = .int .i64 ((j : Int)) ∧ Sub [[((pblk (r14 10)), .cells ⟨pkT kind num (rf ref) v28 (.slice none 0 0)⟩ 27 (0, 0))], k1, k2, Sc s1, [(b3, .cells ⟨pkT 0 0 zS (.slice none 0 0) (.slice none 0 0)⟩ 27 (0, 0))], [(b2, .cells ⟨pkT kind num ref ks cv⟩ 27 (0, 0))], [(b1, .cells ⟨[.func (.func gv) ⟨fvs⟩ ⟨cvs⟩, .func (.func gr) ⟨frs⟩ ⟨crs⟩]⟩ 118 (0, 0))]] M ∧ j ≤ kids.length ∧ Own 27 36 v28 es k1 ∧ Half H kids (mapTs rf vf b kind 0 (kids.take j) s).1 j es k2 ∧ Inv s1 ∧ (mapTs rf vf b kind 0 (kids.take j) s).2 = s1 ∧ k = kids.length - j) _ ⟨0, es29, kc29, [], s, rfl, rfl, rfl, rfl, rfl, rfl, rfl, rfl, (Sub.cons 1 rfl (Sk (Sub.emp (Sub.cons 3 rfl (Sk (Sk (Sk Sub.nil))))))), Nat.zero_le _, hc29, hH29, hs, rfl, rfl⟩ ?_
 rintro _ ρ31 _ ⟨j, es, k1, k2, s1, e32, e33, e34, e35, e36, e37, e38, e39, hm40, hj, ho, hH, hs1, hsq, rfl⟩
 obtain ⟨ρ41, rfl⟩ := Ze (uc e32 (uc e33 (uc e34 (uc e35 (uc e36 (uc e37 (uc e38 (uc e39 un))))))))
 clear e32 e33 e34 e35 e36 e37 e38 e39
 refine J_sub hm40 ?_
 refine Zg (Zc ?_)
 refine Za (v := .bool (decide ((j : Int) < (kids.length : Int)))) rfl (Pu.lss rfl rfl) ?_
 refine Zb ?_
 refine Zg ?_
 refine Zl (b := decide ((j : Int) < (kids.length : Int))) rfl (fun h42 => ?_) (fun h42 => ?_)
 ·replace h42 := dt h42
  have h42n : j < kids.length := by omega
  have hz1 := sizeTs_mem _ (List.getElem_mem h42n)
  have hm1 := more_le kind j
  refine Zq ?_
  refine Zg ?_
  refine Zs ?_
  refine Zg (Zc ?_)
  refine Za (v := .int .i64 ((j : Int))) rfl (Pu.move rfl) ?_
  obtain ⟨b43, cap43, row43, e43, hv43, hm43, hs43, hE43⟩ := hH.at ho h42n
  refine Za (v := .pointer (some ⟨b43, 0 + j * 36, none⟩)) rfl (Pu.idx j Tryz.runUnderlying24 Zt hv43 rfl rfl (by rw [hH.1]; exact h42n)) ?_
  refine Zd rfl (Zj Zt rfl (At.k 1 rfl hm43) hs43 ?_)
  refine Zd rfl (Zn (l := pkT 0 0 zS (.slice none 0 0) (.slice none 0 0)) Tryz.zeroValue27 rfl fun b44 => ?_)
  refine Za (v := .int .i64 ((j : Int))) rfl (Pu.assign rfl) ?_
  refine Zd rfl (Zi 0 (vs := e43) (l := e43) Zt rfl rfl rfl rfl (Zv hE43) (RT_ok hE43) (spl_a (n := 36) rfl (Zv hE43)) ?_)
  refine Zb ?_
  refine J_draw mixed #[0, 1, 0, 0, 0, 0, 0, 64, 0, 448, 992, 2040, 4095, 8191] 12 11 4 rfl (by kernel_rfl) (fun i r45 N45 => match i with | 0 => (r45 0) = .pointer (some ⟨(pblk (r14 10)), 34, none⟩) | 1 => (r45 1) = v28 | 2 => (r45 2) = .int .i64 ((j : Int)) | 3 => (r45 3) = .agg ⟨[.func (.func gv) ⟨fvs⟩ ⟨cvs⟩, .func (.func gr) ⟨frs⟩ ⟨crs⟩]⟩ | 4 => (r45 4) = .agg ⟨e43⟩ | 5 => (r45 5) = .int .i64 b | 6 => (r45 6) = .pointer (some ⟨b2, 0, none⟩) | 7 => (r45 7) = .int .i64 kind | 8 => (r45 8) = .int .i64 ((j : Int)) | 9 => (r45 9) = .int .i64 (more kind ((j : Int))) | 10 => (r45 10) = .int .i64 (b + (more kind ((j : Int)))) | 11 => XT ((mapT rf vf (b + (more kind ((j : Int)))) (kids[j]) s1).1) (r45 11) (N45 11) (Sc ((mapT rf vf (b + (more kind ((j : Int)))) (kids[j]) s1).2)) | _ => True) ⟨?_, ?_, ?_, ?_, ?_, ?_, ?_, ?_, ?_, ?_, ?_, ?_, trivial⟩ ?_
  ·intro ρ r45 N45 B hB hBa hp hr hr0
   have q7 : ρ 7 = .pointer (some ⟨(pblk (r14 10)), 0, none⟩) := hr0 7 (by kernel_rfl)
   obtain ⟨ρ46, rfl⟩ := Ze (uc q7 un)
   clear q7
   refine Za (v := .pointer (some ⟨(pblk (r14 10)), 34, none⟩)) rfl (fa27_3 rfl rfl) ?_
   refine Zb ?_
   exact ⟨.pointer (some ⟨(pblk (r14 10)), 34, none⟩), [], rfl, (Sub.emp Sub.refl), rfl⟩
  ·intro ρ r45 N45 B hB hBa hp hr hr0
   have q57 : ρ 57 = .pointer (some ⟨(pblk (r14 10)), 34, none⟩) := (hr 0 _ _ (by decide) rfl rfl rfl).trans (hp 0 (by decide) rfl)
   obtain ⟨ρ47, rfl⟩ := Ze (uc q57 un)
   clear q57
   refine Zd rfl (Zh ty24 rfl (At.bx 13 (Zu ((hB 1 (by decide)).trans rfl))) (pkT_34 ..) ?_)
   refine Zb ?_
   exact ⟨v28, [], rfl, (Sub.emp Sub.refl), rfl⟩
  ·intro ρ r45 N45 B hB hBa hp hr hr0
   have q8 : ρ 8 = .int .i64 ((j : Int)) := hr0 8 (by kernel_rfl)
   obtain ⟨ρ48, rfl⟩ := Ze (uc q8 un)
   clear q8
   refine Za (v := .int .i64 ((j : Int))) rfl (Pu.move rfl) ?_
   refine Zb ?_
   exact ⟨.int .i64 ((j : Int)), [], rfl, (Sub.emp Sub.refl), rfl⟩
  ·intro ρ r45 N45 B hB hBa hp hr hr0
   have q3 : ρ 3 = .pointer (some ⟨b1, 0, none⟩) := hr0 3 (by kernel_rfl)
   obtain ⟨ρ49, rfl⟩ := Ze (uc q3 un)
   clear q3
   refine Zd rfl (Zj ty118 rfl (At.bx 19 (Zu ((hB 7 (by decide)).trans rfl))) rfl ?_)
   refine Zb ?_
   exact ⟨.agg ⟨[.func (.func gv) ⟨fvs⟩ ⟨cvs⟩, .func (.func gr) ⟨frs⟩ ⟨crs⟩]⟩, [], rfl, (Sub.emp Sub.refl), rfl⟩
  ·intro ρ r45 N45 B hB hBa hp hr hr0
   have q9 : ρ 9 = .pointer (some ⟨b44, 0, none⟩) := hr0 9 (by kernel_rfl)
   obtain ⟨ρ50, rfl⟩ := Ze (uc q9 un)
   clear q9
   refine Zd rfl (Zj Zt rfl (At.bx 12 (Zu ((hB 0 (by decide)).trans rfl))) (Zy (Zv hE43)) ?_)
   refine Zb ?_
   exact ⟨.agg ⟨e43⟩, [], rfl, (Sub.emp Sub.refl), rfl⟩
  ·intro ρ r45 N45 B hB hBa hp hr hr0
   have q2 : ρ 2 = .int .i64 b := hr0 2 (by kernel_rfl)
   obtain ⟨ρ51, rfl⟩ := Ze (uc q2 un)
   clear q2
   refine Za (v := .int .i64 b) rfl (Pu.move rfl) ?_
   refine Zb ?_
   exact ⟨.int .i64 b, [], rfl, (Sub.emp Sub.refl), rfl⟩
  ·intro ρ r45 N45 B hB hBa hp hr hr0
   have q4 : ρ 4 = .pointer (some ⟨b2, 0, none⟩) := hr0 4 (by kernel_rfl)
   obtain ⟨ρ52, rfl⟩ := Ze (uc q4 un)
   clear q4
   refine Za (v := .pointer (some ⟨b2, 0, none⟩)) rfl (fa27_0 rfl rfl) ?_
   refine Zb ?_
   exact ⟨.pointer (some ⟨b2, 0, none⟩), [], rfl, (Sub.emp Sub.refl), rfl⟩
  ·intro ρ r45 N45 B hB hBa hp hr hr0
   have q63 : ρ 63 = .pointer (some ⟨b2, 0, none⟩) := (hr 6 _ _ (by decide) rfl rfl rfl).trans (hp 6 (by decide) rfl)
   obtain ⟨ρ53, rfl⟩ := Ze (uc q63 un)
   clear q63
   refine Zd rfl (Zh ty3 rfl (At.bx 18 (Zu ((hB 6 (by decide)).trans rfl))) (pkT_0 ..) ?_)
   refine Zb ?_
   exact ⟨.int .i64 kind, [], rfl, (Sub.emp Sub.refl), rfl⟩
  ·intro ρ r45 N45 B hB hBa hp hr hr0
   have q8 : ρ 8 = .int .i64 ((j : Int)) := hr0 8 (by kernel_rfl)
   obtain ⟨ρ54, rfl⟩ := Ze (uc q8 un)
   clear q8
   refine Za (v := .int .i64 ((j : Int))) rfl (Pu.move rfl) ?_
   refine Zb ?_
   exact ⟨.int .i64 ((j : Int)), [], rfl, (Sub.emp Sub.refl), rfl⟩
  ·intro ρ r45 N45 B hB hBa hp hr hr0
   have q64 : ρ 64 = .int .i64 kind := (hr 7 _ _ (by decide) rfl rfl rfl).trans (hp 7 (by decide) rfl)
   have q65 : ρ 65 = .int .i64 ((j : Int)) := (hr 8 _ _ (by decide) rfl rfl rfl).trans (hp 8 (by decide) rfl)
   obtain ⟨ρ55, rfl⟩ := Ze (uc q64 (uc q65 un))
   clear q64 q65
   refine Zk rfl Tryz.call101 rfl (fun hin => more_ct _ _ _) rfl ?_
   rintro _ _ ⟨rfl, rfl⟩
   refine Zb ?_
   exact ⟨.int .i64 (more kind ((j : Int))), [], rfl, (Sub.emp Sub.refl), rfl⟩
  ·intro ρ r45 N45 B hB hBa hp hr hr0
   have q62 : ρ 62 = .int .i64 b := (hr 5 _ _ (by decide) rfl rfl rfl).trans (hp 5 (by decide) rfl)
   have q66 : ρ 66 = .int .i64 (more kind ((j : Int))) := (hr 9 _ _ (by decide) rfl rfl rfl).trans (hp 9 (by decide) rfl)
   obtain ⟨ρ56, rfl⟩ := Ze (uc q62 (uc q66 un))
   clear q62 q66
   refine Za (v := .int .i64 (b + (more kind ((j : Int))))) rfl (Pu.add64 rfl rfl (by first | omega | (constructor <;> omega))) ?_
   refine Zb ?_
   exact ⟨.int .i64 (b + (more kind ((j : Int)))), [], rfl, (Sub.emp Sub.refl), rfl⟩
  ·intro ρ r45 N45 B hB hBa hp hr hr0
   have q60 : ρ 60 = .agg ⟨[.func (.func gv) ⟨fvs⟩ ⟨cvs⟩, .func (.func gr) ⟨frs⟩ ⟨crs⟩]⟩ := (hr 3 _ _ (by decide) rfl rfl rfl).trans (hp 3 (by decide) rfl)
   have q61 : ρ 61 = .agg ⟨e43⟩ := (hr 4 _ _ (by decide) rfl rfl rfl).trans (hp 4 (by decide) rfl)
   have q67 : ρ 67 = .int .i64 (b + (more kind ((j : Int)))) := (hr 10 _ _ (by decide) rfl rfl rfl).trans (hp 10 (by decide) rfl)
   obtain ⟨ρ57, rfl⟩ := Ze (uc q60 (uc q61 (uc q67 un)))
   clear q60 q61 q67
   obtain rfl := hBa rfl
   refine Zw (M' := [(N45 0), (N45 1), (N45 2), (N45 3), (N45 4), (N45 5), (N45 6), (N45 7), (N45 8), (N45 9), (N45 10), [], [(b44, .cells ⟨e43⟩ 27 (0, 0))], [((pblk (r14 10)), .cells ⟨pkT kind num (rf ref) v28 (.slice none 0 0)⟩ 27 (0, 0))], k1, k2, Sc s1, [(b3, .cells ⟨pkT 0 0 zS (.slice none 0 0) (.slice none 0 0)⟩ 27 (0, 0))], [(b2, .cells ⟨pkT kind num ref ks cv⟩ 27 (0, 0))], [(b1, .cells ⟨[.func (.func gv) ⟨fvs⟩ ⟨cvs⟩, .func (.func gr) ⟨frs⟩ ⟨crs⟩]⟩ 118 (0, 0))]]) Sub.refl ?_
   refine JL_call1 16 rfl Tryz.call81 rfl rfl (fun hin => ih _ (List.getElem_mem h42n) _ _ _ _ (RT.mono (Hle.hu _ _) hE43) (by omega) (vOKs_mem hv.2.1 _ (List.getElem_mem h42n)) (by omega) (by omega) hs1 (fun s h hh => hgr s h (Hle.trans (Hle.hu _ _) hh)) (fun n b s h hh => hgv n b s h (Hle.trans (Hle.hu _ _) hh))) rfl ?_
   rintro _ _ ⟨cs58, k58, rfl, rfl, hO58⟩
   refine Zb ?_
   exact ⟨.agg ⟨cs58⟩, k58 ++ (Sc ((mapT rf vf (b + (more kind ((j : Int)))) (kids[j]) s1).2)), rfl, (Sub_setX (p := 4) rfl), ⟨k58, rfl, rfl, hO58⟩⟩
  intro ρ r45 N45 hp hr hr0
  have p11 : XT ((mapT rf vf (b + (more kind ((j : Int)))) (kids[j]) s1).1) (r45 11) (N45 11) (Sc ((mapT rf vf (b + (more kind ((j : Int)))) (kids[j]) s1).2)) := hp 11 (by decide)
  have q2 : ρ 2 = .int .i64 b := hr0 2 (by kernel_rfl)
  have q3 : ρ 3 = .pointer (some ⟨b1, 0, none⟩) := hr0 3 (by kernel_rfl)
  have q4 : ρ 4 = .pointer (some ⟨b2, 0, none⟩) := hr0 4 (by kernel_rfl)
  have q6 : ρ 6 = .pointer (some ⟨b3, 0, none⟩) := hr0 6 (by kernel_rfl)
  have q7 : ρ 7 = .pointer (some ⟨(pblk (r14 10)), 0, none⟩) := hr0 7 (by kernel_rfl)
  have q50 : ρ 50 = v28 := hr0 50 (by kernel_rfl)
  have q51 : ρ 51 = .int .i64 ((kids.length : Int)) := hr0 51 (by kernel_rfl)
  have q52 : ρ 52 = .int .i64 ((j : Int)) := hr0 52 (by kernel_rfl)
  have q58 : ρ 58 = v28 := (hr 1 _ _ (by decide) rfl rfl).trans (hp 1 (by decide))
  have q59 : ρ 59 = .int .i64 ((j : Int)) := (hr 2 _ _ (by decide) rfl rfl).trans (hp 2 (by decide))
  have q68 : ρ 68 = .agg ⟨(cel (r45 11))⟩ := (hr 11 _ _ (by decide) rfl rfl).trans p11.v
  obtain ⟨ρ59, rfl⟩ := Ze (uc q2 (uc q3 (uc q4 (uc q6 (uc q7 (uc q50 (uc q51 (uc q52 (uc q58 (uc q59 (uc q68 un)))))))))))
  clear q2 q3 q4 q6 q7 q50 q51 q52 q58 q59 q68
  have p45_11 := p11
  clear hp hr hr0 p11
  obtain ⟨kT45, hv45, hN45, hO45⟩ := id p45_11
  refine Zw (M' := [(N45 0), (N45 1), (N45 2), (N45 3), (N45 4), (N45 5), (N45 6), (N45 7), (N45 8), (N45 9), (N45 10), [], [(b44, .cells ⟨e43⟩ 27 (0, 0))], [((pblk (r14 10)), .cells ⟨pkT kind num (rf ref) v28 (.slice none 0 0)⟩ 27 (0, 0))], k1, k2, (N45 11), [(b3, .cells ⟨pkT 0 0 zS (.slice none 0 0) (.slice none 0 0)⟩ 27 (0, 0))], [(b2, .cells ⟨pkT kind num ref ks cv⟩ 27 (0, 0))], [(b1, .cells ⟨[.func (.func gv) ⟨fvs⟩ ⟨cvs⟩, .func (.func gr) ⟨frs⟩ ⟨crs⟩]⟩ 118 (0, 0))]]) Sub.refl ?_
  refine Zw (M' := [(N45 11), [(b44, .cells ⟨e43⟩ 27 (0, 0))], [((pblk (r14 10)), .cells ⟨pkT kind num (rf ref) v28 (.slice none 0 0)⟩ 27 (0, 0))], k1, k2, [(b3, .cells ⟨pkT 0 0 zS (.slice none 0 0) (.slice none 0 0)⟩ 27 (0, 0))], [(b2, .cells ⟨pkT kind num ref ks cv⟩ 27 (0, 0))], [(b1, .cells ⟨[.func (.func gv) ⟨fvs⟩ ⟨cvs⟩, .func (.func gr) ⟨frs⟩ ⟨crs⟩]⟩ 118 (0, 0))]]) (Sd (Sd (Sd (Sd (Sd (Sd (Sd (Sd (Sd (Sd (Sd (Sd (Sub.cons 4 rfl (Sk (Sk (Sk (Sk (Sk (Sk (Sk Sub.nil)))))))))))))))))))) ?_
  refine Zw (M' := [kT45, Sc ((mapT rf vf (b + (more kind ((j : Int)))) (kids[j]) s1).2), [(b44, .cells ⟨e43⟩ 27 (0, 0))], [((pblk (r14 10)), .cells ⟨pkT kind num (rf ref) v28 (.slice none 0 0)⟩ 27 (0, 0))], k1, k2, [(b3, .cells ⟨pkT 0 0 zS (.slice none 0 0) (.slice none 0 0)⟩ 27 (0, 0))], [(b2, .cells ⟨pkT kind num ref ks cv⟩ 27 (0, 0))], [(b1, .cells ⟨[.func (.func gv) ⟨fvs⟩ ⟨cvs⟩, .func (.func gr) ⟨frs⟩ ⟨crs⟩]⟩ 118 (0, 0))]]) (Sub.split (Sub.cons 0 (congrArg some hN45) Sub.refl)) ?_
  show JL _ _ _ [_, _] _ _ _
  obtain ⟨b60, cap60, row60, e60, hv60, hm60, hs60, hE60⟩ := hH.at ho h42n
  refine Za (v := .pointer (some ⟨b60, 0 + j * 36, none⟩)) rfl (Pu.idx j Tryz.runUnderlying24 Zt hv60 rfl rfl (by rw [hH.1]; exact h42n)) ?_
  refine Zd rfl (Runs_storeOwn (i := 4) (j := j) (b := b60) Zt rfl ho ⟨_, _, hv60⟩ rfl (by rw [hH.1]; exact h42n) rfl rfl p45_11.len p45_11.ok fun k61 ho61 => ?_)
  refine Zb ?_
  refine Zc ?_
  refine Za (v := .int .i64 (((j + 1 : Nat) : Int))) rfl (Pu.inc rfl rfl (by omega)) ?_
  refine Za (v := .int .i64 (((j + 1 : Nat) : Int))) rfl (Pu.move rfl) ?_
  refine Zb ?_
  refine ⟨_, ?_, (j + 1), (es.set j ((cel (r45 11)))), k61, (k2 ++ kT45), ((mapT rf vf (b + (more kind ((j : Int)))) (kids[j]) s1).2), rfl, rfl, rfl, rfl, rfl, rfl, rfl, rfl, (Sub.cons 3 rfl (Sub.cons 3 rfl (Sub.join (Sub.cons 3 rfl (Sk (Sk (Sd (Sk (Sk (Sk Sub.nil)))))))))), ?_, ?_, ?_, ?_, ?_, rfl⟩
  ·omega
  ·omega
  ·exact ho61
  ·rw [mapTs_take0 rf vf b kind kids j s h42n, hsq]; exact hH.step h42n hO45
  ·exact mapT_inv hI _ _ _ hs1
  rw [mapTs_take0 rf vf b kind kids j s h42n, hsq]
 replace h42 := df h42
 have h42n : kids.length ≤ j := by omega
 refine J_exit _ rfl ?_
 refine Zg ?_
 refine Zg (Zc ?_)
 refine Za (v := .pointer (some ⟨b2, 35, none⟩)) rfl (fa27_4 rfl rfl) ?_
 refine Zd rfl (Zh ty25 rfl (At.bx 5 rfl) (pkT_35 ..) ?_)
 obtain ⟨a62, cap62, hv62⟩ := hcv.sl
 have hle62 := hcv.le
 refine Za (v := .int .i64 ((cases.length : Int))) rfl (Pu.lenSl Tryz.runUnderlying25 hv62) ?_
 refine Za (v := .int .i64 0) rfl (Pu.move rfl) ?_
 refine Zb ?_
 refine Zs ?_
 have hjk := h42n
 rw [List.take_of_length_le hjk] at hsq hH
 refine J_loop (fun k ρ M => ∃ (j : Nat) (w : Value) (es2 : List (List Value)) (k3 k4 : Zm) (s2 : σ), ρ 2 = .int .i64 b ∧ ρ 3 = .pointer (some ⟨b1, 0, none⟩) ∧ ρ 6 = .pointer (some ⟨b3, 0, none⟩) ∧ ρ 7 = .pointer (some ⟨(pblk (r14 10)), 0, none⟩) ∧ ρ 72 = cv ∧ ρ 73 = .int .i64 ((cases.length : Int)) ∧ ρ 74 = .int .i64 ((j : Int)) ∧ Sub [[((pblk (r14 10)), .cells ⟨pkT kind num (rf ref) v28 w⟩ 27 (0, 0))], k3, k4, Sc s2, k1, k2, [(b3, .cells ⟨pkT 0 0 zS (.slice none 0 0) (.slice none 0 0)⟩ 27 (0, 0))], [(b2, .cells ⟨pkT kind num ref ks cv⟩ 27 (0, 0))], [(b1, .cells ⟨[.func (.func gv) ⟨fvs⟩ ⟨cvs⟩, .func (.func gr) ⟨frs⟩ ⟨crs⟩]⟩ 118 (0, 0))]] M ∧ j ≤ cases.length ∧ Own 34 71 w es2 k3 ∧ OCs (mapCs rf vf b (cases.take j) s1).1 es2 k4 ∧ Inv s2 ∧ (mapCs rf vf b (cases.take j) s1).2 = s2 ∧ k = cases.length - j) _ ⟨0, (.slice none 0 0), [], [], [], s1, rfl, rfl, rfl, rfl, rfl, rfl, rfl, (Sk (Sub.emp (Sub.emp (Sub.cons 2 rfl (Sk (Sk (Sk (Sk (Sk Sub.nil))))))))), Nat.zero_le _, Own.nil, OCs.nil, hs1, rfl, rfl⟩ ?_
 rintro _ ρ63 _ ⟨j, w, es2, k3, k4, s2, e64, e65, e66, e67, e68, e69, e70, hm71, hj, how, hopw, hs2, hsq2, rfl⟩
 obtain ⟨ρ72, rfl⟩ := Ze (uc e64 (uc e65 (uc e66 (uc e67 (uc e68 (uc e69 (uc e70 un)))))))
 clear e64 e65 e66 e67 e68 e69 e70
 refine J_sub hm71 ?_
 refine Zg (Zc ?_)
 refine Za (v := .bool (decide ((j : Int) < (cases.length : Int)))) rfl (Pu.lss rfl rfl) ?_
 refine Zb ?_
 refine Zg ?_
 refine Zl (b := decide ((j : Int) < (cases.length : Int))) rfl (fun h73 => ?_) (fun h73 => ?_)
 ·replace h73 := dt h73
  have h73n : j < cases.length := by omega
  have helw := OCs_len hopw
  rw [mapCs_len, List.length_take] at helw
  have hz1 := sizeCs_mem _ (List.getElem_mem h73n)
  have hm1 := binds_le (cases[j]).1
  refine Zq ?_
  refine Zg ?_
  refine Zs ?_
  refine Zg (Zc ?_)
  obtain ⟨b74, o74, cap74, row74, T74, fr74, cs74, hv74, hb74, hs74, hE74⟩ := hcv.get j (by first | assumption | omega | decide | simp)
  obtain ⟨ca74, cb74, rfl, hA74, hB74⟩ := hE74
  refine Za (v := .pointer (some ⟨b74, o74 + j * 71, none⟩)) rfl (Pu.idx j Tryz.runUnderlying25 ty34 hv74 rfl rfl (by first | assumption | omega | decide | simp)) ?_
  refine Zd rfl (Zj ty34 rfl (At.im hb74) hs74 ?_)
  refine Zd rfl (Zn (l := (pkP 0 0 zS (.slice none 0 0)) ++ (pkT 0 0 zS (.slice none 0 0) (.slice none 0 0))) Tryz.zeroValue34 rfl fun b75 => ?_)
  refine Zd rfl (Zi 0 (vs := ca74 ++ cb74) (l := ca74 ++ cb74) ty34 rfl rfl rfl rfl (len_app (RP_len hA74) (Zv hB74)) (okc_app (RP_ok hA74) (RT_ok hB74)) (spl_a (n := 71) rfl (len_app (RP_len hA74) (Zv hB74))) ?_)
  refine Zb ?_
  refine J_draw mixed #[0, 1, 0, 0, 8, 28, 0, 0, 128, 0, 0, 1024, 3132, 7740, 16380, 32764, 65532, 131071, 262143, 524287] 17 14 4 rfl (by kernel_rfl) (fun i r76 N76 => match i with | 0 => (r76 0) = .pointer (some ⟨(pblk (r14 10)), 35, none⟩) | 1 => (r76 1) = w | 2 => (r76 2) = .agg ⟨[.func (.func gv) ⟨fvs⟩ ⟨cvs⟩, .func (.func gr) ⟨frs⟩ ⟨crs⟩]⟩ | 3 => (r76 3) = .pointer (some ⟨b75, 0, none⟩) | 4 => (r76 4) = .agg ⟨ca74⟩ | 5 => (r76 5) = .agg ⟨(cel (r76 5))⟩ ∧ OP (mapP rf (cases[j].1)) (cel (r76 5)) (N76 5) | 6 => (r76 6) = .agg ⟨[.func (.func gv) ⟨fvs⟩ ⟨cvs⟩, .func (.func gr) ⟨frs⟩ ⟨crs⟩]⟩ | 7 => (r76 7) = .pointer (some ⟨b75, 35, none⟩) | 8 => (r76 8) = .agg ⟨cb74⟩ | 9 => (r76 9) = .int .i64 b | 10 => (r76 10) = .pointer (some ⟨b75, 0, none⟩) | 11 => (r76 11) = .agg ⟨ca74⟩ | 12 => (r76 12) = .int .i64 ((binds (cases[j].1) : Int)) | 13 => (r76 13) = .int .i64 (b + ((binds (cases[j].1) : Int))) | 14 => XT ((mapT rf vf (b + ((binds (cases[j].1) : Int))) (cases[j].2) s2).1) (r76 14) (N76 14) (Sc ((mapT rf vf (b + ((binds (cases[j].1) : Int))) (cases[j].2) s2).2)) | 15 => (r76 15) = .agg ⟨((cel (r76 5))) ++ ((cel (r76 14)))⟩ | 16 => (r76 16) = .slice (some ⟨(sblk (r76 16)), 0, none⟩) 1 1 ∧ (N76 16) = [(sblk (r76 16), .cells ⟨List.flatten [((cel (r76 5))) ++ ((cel (r76 14)))]⟩ 34 (0, 0))] ∧ Own 34 71 (.slice (some ⟨(sblk (r76 16)), 0, none⟩) 1 1) [((cel (r76 5))) ++ ((cel (r76 14)))] (N76 16) | _ => True) ⟨?_, ?_, ?_, ?_, ?_, ?_, ?_, ?_, ?_, ?_, ?_, ?_, ?_, ?_, ?_, ?_, ?_, trivial⟩ ?_
  ·intro ρ r76 N76 B hB hBa hp hr hr0
   have q7 : ρ 7 = .pointer (some ⟨(pblk (r14 10)), 0, none⟩) := hr0 7 (by kernel_rfl)
   obtain ⟨ρ77, rfl⟩ := Ze (uc q7 un)
   clear q7
   refine Za (v := .pointer (some ⟨(pblk (r14 10)), 35, none⟩)) rfl (fa27_4 rfl rfl) ?_
   refine Zb ?_
   exact ⟨.pointer (some ⟨(pblk (r14 10)), 35, none⟩), [], rfl, (Sub.emp Sub.refl), rfl⟩
  ·intro ρ r76 N76 B hB hBa hp hr hr0
   have q78 : ρ 78 = .pointer (some ⟨(pblk (r14 10)), 35, none⟩) := (hr 0 _ _ (by decide) rfl rfl rfl).trans (hp 0 (by decide) rfl)
   obtain ⟨ρ78, rfl⟩ := Ze (uc q78 un)
   clear q78
   refine Zd rfl (Zh ty25 rfl (At.bx 18 (Zu ((hB 1 (by decide)).trans rfl))) (pkT_35 ..) ?_)
   refine Zb ?_
   exact ⟨w, [], rfl, (Sub.emp Sub.refl), rfl⟩
  ·intro ρ r76 N76 B hB hBa hp hr hr0
   have q3 : ρ 3 = .pointer (some ⟨b1, 0, none⟩) := hr0 3 (by kernel_rfl)
   obtain ⟨ρ79, rfl⟩ := Ze (uc q3 un)
   clear q3
   refine Zd rfl (Zj ty118 rfl (At.bx 26 (Zu ((hB 9 (by decide)).trans rfl))) rfl ?_)
   refine Zb ?_
   exact ⟨.agg ⟨[.func (.func gv) ⟨fvs⟩ ⟨cvs⟩, .func (.func gr) ⟨frs⟩ ⟨crs⟩]⟩, [], rfl, (Sub.emp Sub.refl), rfl⟩
  ·intro ρ r76 N76 B hB hBa hp hr hr0
   have q11 : ρ 11 = .pointer (some ⟨b75, 0, none⟩) := hr0 11 (by kernel_rfl)
   obtain ⟨ρ80, rfl⟩ := Ze (uc q11 un)
   clear q11
   refine Za (v := .pointer (some ⟨b75, 0, none⟩)) rfl (fa34_0 rfl rfl) ?_
   refine Zb ?_
   exact ⟨.pointer (some ⟨b75, 0, none⟩), [], rfl, (Sub.emp Sub.refl), rfl⟩
  ·intro ρ r76 N76 B hB hBa hp hr hr0
   have q81 : ρ 81 = .pointer (some ⟨b75, 0, none⟩) := (hr 3 _ _ (by decide) rfl rfl rfl).trans (hp 3 (by decide) rfl)
   obtain ⟨ρ81, rfl⟩ := Ze (uc q81 un)
   clear q81
   refine Zd rfl (Zj ty30 rfl (At.bx 17 (Zu ((hB 0 (by decide)).trans rfl))) (sub_l (RP_len hA74)) ?_)
   refine Zb ?_
   exact ⟨.agg ⟨ca74⟩, [], rfl, (Sub.emp Sub.refl), rfl⟩
  ·intro ρ r76 N76 B hB hBa hp hr hr0
   have q80 : ρ 80 = .agg ⟨[.func (.func gv) ⟨fvs⟩ ⟨cvs⟩, .func (.func gr) ⟨frs⟩ ⟨crs⟩]⟩ := (hr 2 _ _ (by decide) rfl rfl rfl).trans (hp 2 (by decide) rfl)
   have q82 : ρ 82 = .agg ⟨ca74⟩ := (hr 4 _ _ (by decide) rfl rfl rfl).trans (hp 4 (by decide) rfl)
   obtain ⟨ρ82, rfl⟩ := Ze (uc q80 (uc q82 un))
   clear q80 q82
   refine Zk rfl Tryz.call103 rfl (fun hin => mapPattern_ct gr frs crs hcallr rf _ rfl _ _ _ (RP.mono (Hle.hu _ _) hA74) (fun s h hh => hgr s h (Hle.trans (Hle.hu _ _) hh)) (by omega)) rfl ?_
   rintro _ _ ⟨cs83, k83, rfl, rfl, hO83⟩
   refine Zb ?_
   exact ⟨.agg ⟨cs83⟩, k83, rfl, Sub.refl, ⟨rfl, hO83⟩⟩
  ·intro ρ r76 N76 B hB hBa hp hr hr0
   have q3 : ρ 3 = .pointer (some ⟨b1, 0, none⟩) := hr0 3 (by kernel_rfl)
   obtain ⟨ρ84, rfl⟩ := Ze (uc q3 un)
   clear q3
   refine Zd rfl (Zj ty118 rfl (At.bx 26 (Zu ((hB 9 (by decide)).trans rfl))) rfl ?_)
   refine Zb ?_
   exact ⟨.agg ⟨[.func (.func gv) ⟨fvs⟩ ⟨cvs⟩, .func (.func gr) ⟨frs⟩ ⟨crs⟩]⟩, [], rfl, (Sub.emp Sub.refl), rfl⟩
  ·intro ρ r76 N76 B hB hBa hp hr hr0
   have q11 : ρ 11 = .pointer (some ⟨b75, 0, none⟩) := hr0 11 (by kernel_rfl)
   obtain ⟨ρ85, rfl⟩ := Ze (uc q11 un)
   clear q11
   refine Za (v := .pointer (some ⟨b75, 35, none⟩)) rfl (fa34_1 rfl rfl) ?_
   refine Zb ?_
   exact ⟨.pointer (some ⟨b75, 35, none⟩), [], rfl, (Sub.emp Sub.refl), rfl⟩
  ·intro ρ r76 N76 B hB hBa hp hr hr0
   have q85 : ρ 85 = .pointer (some ⟨b75, 35, none⟩) := (hr 7 _ _ (by decide) rfl rfl rfl).trans (hp 7 (by decide) rfl)
   obtain ⟨ρ86, rfl⟩ := Ze (uc q85 un)
   clear q85
   refine Zd rfl (Zj Zt rfl (At.bx 17 (Zu ((hB 0 (by decide)).trans rfl))) (sub_r (RP_len hA74) (Zv hB74)) ?_)
   refine Zb ?_
   exact ⟨.agg ⟨cb74⟩, [], rfl, (Sub.emp Sub.refl), rfl⟩
  ·intro ρ r76 N76 B hB hBa hp hr hr0
   have q2 : ρ 2 = .int .i64 b := hr0 2 (by kernel_rfl)
   obtain ⟨ρ87, rfl⟩ := Ze (uc q2 un)
   clear q2
   refine Za (v := .int .i64 b) rfl (Pu.move rfl) ?_
   refine Zb ?_
   exact ⟨.int .i64 b, [], rfl, (Sub.emp Sub.refl), rfl⟩
  ·intro ρ r76 N76 B hB hBa hp hr hr0
   have q11 : ρ 11 = .pointer (some ⟨b75, 0, none⟩) := hr0 11 (by kernel_rfl)
   obtain ⟨ρ88, rfl⟩ := Ze (uc q11 un)
   clear q11
   refine Za (v := .pointer (some ⟨b75, 0, none⟩)) rfl (fa34_0 rfl rfl) ?_
   refine Zb ?_
   exact ⟨.pointer (some ⟨b75, 0, none⟩), [], rfl, (Sub.emp Sub.refl), rfl⟩
  ·intro ρ r76 N76 B hB hBa hp hr hr0
   have q88 : ρ 88 = .pointer (some ⟨b75, 0, none⟩) := (hr 10 _ _ (by decide) rfl rfl rfl).trans (hp 10 (by decide) rfl)
   obtain ⟨ρ89, rfl⟩ := Ze (uc q88 un)
   clear q88
   refine Zd rfl (Zj ty30 rfl (At.bx 17 (Zu ((hB 0 (by decide)).trans rfl))) (sub_l (RP_len hA74)) ?_)
   refine Zb ?_
   exact ⟨.agg ⟨ca74⟩, [], rfl, (Sub.emp Sub.refl), rfl⟩
  ·intro ρ r76 N76 B hB hBa hp hr hr0
   have q89 : ρ 89 = .agg ⟨ca74⟩ := (hr 11 _ _ (by decide) rfl rfl rfl).trans (hp 11 (by decide) rfl)
   obtain ⟨ρ90, rfl⟩ := Ze (uc q89 un)
   clear q89
   refine Zk rfl Tryz.call53 rfl (fun hin => binds_ct _ _ _ (RP.mono (Hle.hu _ _) hA74) (by omega)) rfl ?_
   rintro _ _ ⟨rfl, rfl⟩
   refine Zb ?_
   exact ⟨.int .i64 ((binds (cases[j].1) : Int)), [], rfl, (Sub.emp Sub.refl), rfl⟩
  ·intro ρ r76 N76 B hB hBa hp hr hr0
   have q87 : ρ 87 = .int .i64 b := (hr 9 _ _ (by decide) rfl rfl rfl).trans (hp 9 (by decide) rfl)
   have q90 : ρ 90 = .int .i64 ((binds (cases[j].1) : Int)) := (hr 12 _ _ (by decide) rfl rfl rfl).trans (hp 12 (by decide) rfl)
   obtain ⟨ρ91, rfl⟩ := Ze (uc q87 (uc q90 un))
   clear q87 q90
   refine Za (v := .int .i64 (b + ((binds (cases[j].1) : Int)))) rfl (Pu.add64 rfl rfl (by first | omega | (constructor <;> omega))) ?_
   refine Zb ?_
   exact ⟨.int .i64 (b + ((binds (cases[j].1) : Int))), [], rfl, (Sub.emp Sub.refl), rfl⟩
  ·intro ρ r76 N76 B hB hBa hp hr hr0
   have q84 : ρ 84 = .agg ⟨[.func (.func gv) ⟨fvs⟩ ⟨cvs⟩, .func (.func gr) ⟨frs⟩ ⟨crs⟩]⟩ := (hr 6 _ _ (by decide) rfl rfl rfl).trans (hp 6 (by decide) rfl)
   have q86 : ρ 86 = .agg ⟨cb74⟩ := (hr 8 _ _ (by decide) rfl rfl rfl).trans (hp 8 (by decide) rfl)
   have q91 : ρ 91 = .int .i64 (b + ((binds (cases[j].1) : Int))) := (hr 13 _ _ (by decide) rfl rfl rfl).trans (hp 13 (by decide) rfl)
   obtain ⟨ρ92, rfl⟩ := Ze (uc q84 (uc q86 (uc q91 un)))
   clear q84 q86 q91
   obtain rfl := hBa rfl
   refine Zw (M' := [(N76 0), (N76 1), (N76 2), (N76 3), (N76 4), (N76 5), (N76 6), (N76 7), (N76 8), (N76 9), (N76 10), (N76 11), (N76 12), (N76 13), [], (N76 15), (N76 16), [(b75, .cells ⟨ca74 ++ cb74⟩ 34 (0, 0))], [((pblk (r14 10)), .cells ⟨pkT kind num (rf ref) v28 w⟩ 27 (0, 0))], k3, k4, Sc s2, k1, k2, [(b3, .cells ⟨pkT 0 0 zS (.slice none 0 0) (.slice none 0 0)⟩ 27 (0, 0))], [(b2, .cells ⟨pkT kind num ref ks cv⟩ 27 (0, 0))], [(b1, .cells ⟨[.func (.func gv) ⟨fvs⟩ ⟨cvs⟩, .func (.func gr) ⟨frs⟩ ⟨crs⟩]⟩ 118 (0, 0))]]) Sub.refl ?_
   refine JL_call1 21 rfl Tryz.call81 rfl rfl (fun hin => ih' _ (List.getElem_mem h73n) _ _ _ _ (RT.mono (Hle.hu _ _) hB74) (by omega) (vOKc_mem hv.2.2 _ (List.getElem_mem h73n)) (by omega) (by omega) hs2 (fun s h hh => hgr s h (Hle.trans (Hle.hu _ _) hh)) (fun n b s h hh => hgv n b s h (Hle.trans (Hle.hu _ _) hh))) rfl ?_
   rintro _ _ ⟨cs93, k93, rfl, rfl, hO93⟩
   refine Zb ?_
   exact ⟨.agg ⟨cs93⟩, k93 ++ (Sc ((mapT rf vf (b + ((binds (cases[j].1) : Int))) (cases[j].2) s2).2)), rfl, (Sub_setX (p := 4) rfl), ⟨k93, rfl, rfl, hO93⟩⟩
  ·intro ρ r76 N76 B hB hBa hp hr hr0
   have p5 : (r76 5) = .agg ⟨(cel (r76 5))⟩ ∧ OP (mapP rf (cases[j].1)) (cel (r76 5)) (N76 5) := hp 5 (by decide) rfl
   have p14 : XT ((mapT rf vf (b + ((binds (cases[j].1) : Int))) (cases[j].2) s2).1) (r76 14) (N76 14) (Sc ((mapT rf vf (b + ((binds (cases[j].1) : Int))) (cases[j].2) s2).2)) := hp 14 (by decide) rfl
   have q83 : ρ 83 = .agg ⟨(cel (r76 5))⟩ := (hr 5 _ _ (by decide) rfl rfl rfl).trans p5.1
   have q92 : ρ 92 = .agg ⟨(cel (r76 14))⟩ := (hr 14 _ _ (by decide) rfl rfl rfl).trans p14.v
   obtain ⟨ρ94, rfl⟩ := Ze (uc q83 (uc q92 un))
   clear q83 q92
   refine Za (v := .agg ⟨((cel (r76 5))) ++ ((cel (r76 14)))⟩) rfl (Pu.build (pv := [(0, .agg ⟨(cel (r76 5))⟩), (1, .agg ⟨(cel (r76 14))⟩)]) (l := ((cel (r76 5))) ++ ((cel (r76 14)))) rfl (bld34_0_1 p5.2.len p14.len)) ?_
   refine Zb ?_
   exact ⟨.agg ⟨((cel (r76 5))) ++ ((cel (r76 14)))⟩, [], rfl, (Sub.emp Sub.refl), rfl⟩
  ·intro ρ r76 N76 B hB hBa hp hr hr0
   have p5 : (r76 5) = .agg ⟨(cel (r76 5))⟩ ∧ OP (mapP rf (cases[j].1)) (cel (r76 5)) (N76 5) := hp 5 (by decide) rfl
   have p14 : XT ((mapT rf vf (b + ((binds (cases[j].1) : Int))) (cases[j].2) s2).1) (r76 14) (N76 14) (Sc ((mapT rf vf (b + ((binds (cases[j].1) : Int))) (cases[j].2) s2).2)) := hp 14 (by decide) rfl
   have q93 : ρ 93 = .agg ⟨((cel (r76 5))) ++ ((cel (r76 14)))⟩ := (hr 15 _ _ (by decide) rfl rfl rfl).trans (hp 15 (by decide) rfl)
   obtain ⟨ρ95, rfl⟩ := Ze (uc q93 un)
   clear q93
   refine Zd rfl (ZA (vs := [.agg ⟨((cel (r76 5))) ++ ((cel (r76 14)))⟩]) [((cel (r76 5))) ++ ((cel (r76 14)))] Tryz.runUnderlying25 el34 rfl rfl (by intro e he; simp only [List.mem_cons, List.not_mem_nil, or_false] at he; subst he; exact (len_app p5.2.len p14.len)) rfl (by decide) fun b96 k96 ho96 hk96 => ?_)
   refine Zb ?_
   exact ⟨.slice (some ⟨b96, 0, none⟩) 1 1, k96, rfl, Sub.refl, ⟨rfl, hk96, ho96⟩⟩
  intro ρ r76 N76 hp hr hr0
  have p5 : (r76 5) = .agg ⟨(cel (r76 5))⟩ ∧ OP (mapP rf (cases[j].1)) (cel (r76 5)) (N76 5) := hp 5 (by decide)
  have p14 : XT ((mapT rf vf (b + ((binds (cases[j].1) : Int))) (cases[j].2) s2).1) (r76 14) (N76 14) (Sc ((mapT rf vf (b + ((binds (cases[j].1) : Int))) (cases[j].2) s2).2)) := hp 14 (by decide)
  have p16 : (r76 16) = .slice (some ⟨(sblk (r76 16)), 0, none⟩) 1 1 ∧ (N76 16) = [(sblk (r76 16), .cells ⟨List.flatten [((cel (r76 5))) ++ ((cel (r76 14)))]⟩ 34 (0, 0))] ∧ Own 34 71 (.slice (some ⟨(sblk (r76 16)), 0, none⟩) 1 1) [((cel (r76 5))) ++ ((cel (r76 14)))] (N76 16) := hp 16 (by decide)
  have q2 : ρ 2 = .int .i64 b := hr0 2 (by kernel_rfl)
  have q3 : ρ 3 = .pointer (some ⟨b1, 0, none⟩) := hr0 3 (by kernel_rfl)
  have q6 : ρ 6 = .pointer (some ⟨b3, 0, none⟩) := hr0 6 (by kernel_rfl)
  have q7 : ρ 7 = .pointer (some ⟨(pblk (r14 10)), 0, none⟩) := hr0 7 (by kernel_rfl)
  have q72 : ρ 72 = cv := hr0 72 (by kernel_rfl)
  have q73 : ρ 73 = .int .i64 ((cases.length : Int)) := hr0 73 (by kernel_rfl)
  have q74 : ρ 74 = .int .i64 ((j : Int)) := hr0 74 (by kernel_rfl)
  have q79 : ρ 79 = w := (hr 1 _ _ (by decide) rfl rfl).trans (hp 1 (by decide))
  have q94 : ρ 94 = .slice (some ⟨(sblk (r76 16)), 0, none⟩) 1 1 := (hr 16 _ _ (by decide) rfl rfl).trans p16.1
  obtain ⟨ρ97, rfl⟩ := Ze (uc q2 (uc q3 (uc q6 (uc q7 (uc q72 (uc q73 (uc q74 (uc q79 (uc q94 un)))))))))
  clear q2 q3 q6 q7 q72 q73 q74 q79 q94
  have p76_5 := p5; have p76_14 := p14; have p76_16 := p16
  clear hp hr hr0 p5 p14 p16
  obtain ⟨kT76, hv76, hN76, hO76⟩ := id p76_14
  refine Zw (M' := [(N76 0), (N76 1), (N76 2), (N76 3), (N76 4), (N76 5), (N76 6), (N76 7), (N76 8), (N76 9), (N76 10), (N76 11), (N76 12), (N76 13), [], (N76 15), (N76 16), [(b75, .cells ⟨ca74 ++ cb74⟩ 34 (0, 0))], [((pblk (r14 10)), .cells ⟨pkT kind num (rf ref) v28 w⟩ 27 (0, 0))], k3, k4, (N76 14), k1, k2, [(b3, .cells ⟨pkT 0 0 zS (.slice none 0 0) (.slice none 0 0)⟩ 27 (0, 0))], [(b2, .cells ⟨pkT kind num ref ks cv⟩ 27 (0, 0))], [(b1, .cells ⟨[.func (.func gv) ⟨fvs⟩ ⟨cvs⟩, .func (.func gr) ⟨frs⟩ ⟨crs⟩]⟩ 118 (0, 0))]]) Sub.refl ?_
  refine Zw (M' := [(N76 14), (N76 5), (N76 16), [(b75, .cells ⟨ca74 ++ cb74⟩ 34 (0, 0))], [((pblk (r14 10)), .cells ⟨pkT kind num (rf ref) v28 w⟩ 27 (0, 0))], k3, k4, k1, k2, [(b3, .cells ⟨pkT 0 0 zS (.slice none 0 0) (.slice none 0 0)⟩ 27 (0, 0))], [(b2, .cells ⟨pkT kind num ref ks cv⟩ 27 (0, 0))], [(b1, .cells ⟨[.func (.func gv) ⟨fvs⟩ ⟨cvs⟩, .func (.func gr) ⟨frs⟩ ⟨crs⟩]⟩ 118 (0, 0))]]) (Sd (Sd (Sd (Sd (Sd (Sub.cons 16 rfl (Sk (Sd (Sd (Sd (Sd (Sd (Sd (Sd (Sd (Sd (Sd (Sk (Sk (Sk (Sk (Sk (Sk (Sk (Sk (Sk (Sk Sub.nil))))))))))))))))))))))))))) ?_
  refine Zw (M' := [kT76, Sc ((mapT rf vf (b + ((binds (cases[j].1) : Int))) (cases[j].2) s2).2), (N76 5), (N76 16), [(b75, .cells ⟨ca74 ++ cb74⟩ 34 (0, 0))], [((pblk (r14 10)), .cells ⟨pkT kind num (rf ref) v28 w⟩ 27 (0, 0))], k3, k4, k1, k2, [(b3, .cells ⟨pkT 0 0 zS (.slice none 0 0) (.slice none 0 0)⟩ 27 (0, 0))], [(b2, .cells ⟨pkT kind num ref ks cv⟩ 27 (0, 0))], [(b1, .cells ⟨[.func (.func gv) ⟨fvs⟩ ⟨cvs⟩, .func (.func gr) ⟨frs⟩ ⟨crs⟩]⟩ 118 (0, 0))]]) (Sub.split (Sub.cons 0 (congrArg some hN76) Sub.refl)) ?_
  show JL _ _ _ [_, _, _] _ _ _
  have hlens98 : ∀ e ∈ ([((cel (r76 5))) ++ ((cel (r76 14)))] : List (List Value)), List.length e = 71 := by
   intro e he; simp only [List.mem_cons, List.not_mem_nil, or_false] at he
   rcases he with rfl
   ·exact (len_app p76_5.2.len p76_14.len)
  have hoks98 : ∀ e ∈ ([((cel (r76 5))) ++ ((cel (r76 14)))] : List (List Value)), okc e := by
   intro e he; simp only [List.mem_cons, List.not_mem_nil, or_false] at he
   rcases he with rfl
   ·exact (okc_app p76_5.2.ok p76_14.ok)
  refine Zd rfl (Runs_append (i := 6) (n := 1) (es' := [((cel (r76 5))) ++ ((cel (r76 14)))]) Tryz.runUnderlying25 Tryz.runUnderlying25 (Or.inl rfl) el34 rfl rfl rfl how (fun F w m => Src.row (((At.k 3 rfl (by rw [p76_16.2.1]; exact List.mem_cons_self))).heap m) (Zy (flatten_len hlens98))) rfl hlens98 hoks98 (by decide) (by omega) fun v98 k98 ho98 => ?_)
  refine Za (v := .pointer (some ⟨(pblk (r14 10)), 35, none⟩)) rfl (fa27_4 rfl rfl) ?_
  refine Zd rfl (Zi 5 (vs := [v98]) (l := pkT kind num (rf ref) v28 v98) ty25 rfl rfl rfl (cells_one ho98.one) rfl (Zp ho98.one Zz) (pkT_s35 ..) ?_)
  refine Zb ?_
  refine Zc ?_
  refine Za (v := .int .i64 (((j + 1 : Nat) : Int))) rfl (Pu.inc rfl rfl (by omega)) ?_
  refine Za (v := .int .i64 (((j + 1 : Nat) : Int))) rfl (Pu.move rfl) ?_
  refine Zb ?_
  refine ⟨_, ?_, (j + 1), v98, (es2 ++ [((cel (r76 5))) ++ ((cel (r76 14)))]), k98, (k4 ++ (((N76 5)) ++ kT76)), ((mapT rf vf (b + ((binds (cases[j].1) : Int))) (cases[j].2) s2).2), rfl, rfl, rfl, rfl, rfl, rfl, rfl, (Sub.cons 5 rfl (Sub.cons 5 rfl (Sub.join3 (Sub.cons 5 rfl (Sub.cons 2 rfl (Sk (Sk (Sd (Sd (Sk (Sk (Sk (Sk (Sk Sub.nil)))))))))))))), ?_, ?_, ?_, ?_, ?_, rfl⟩
  ·omega
  ·omega
  ·exact ho98
  ·rw [mapCs_take rf vf b cases j s1 h73n, hsq2]; exact OCs.snoc p76_5.2 hO76 hopw
  ·exact mapT_inv hI _ _ _ hs2
  rw [mapCs_take rf vf b cases j s1 h73n, hsq2]
 replace h73 := df h73
 have h73n : cases.length ≤ j := by omega
 refine J_exit _ rfl ?_
 refine Zg (Zc ?_)
 refine Zd rfl (Zj Zt rfl (At.bx 0 rfl) (pkT_a ..) ?_)
 refine Zd rfl (Zi 6 (vs := pkT kind num (rf ref) v28 w) (l := pkT kind num (rf ref) v28 w) Zt rfl rfl rfl rfl rfl (pkT_ok ho.one how.one) (pkT_s ..) ?_)
 refine Zb ?_
 refine Zo ?_
 refine ⟨.agg ⟨pkT kind num (rf ref) v28 w⟩, [k1 ++ (k2 ++ (k3 ++ k4)), Sc s2], Ret.one rfl (RV.cell Zt rfl (At.bx 6 rfl) (pkT_a ..)), (Sub.join4 (Sd (Sub.cons 3 rfl (Sub.cons 3 rfl (Sk (Sk (Sk Sub.nil))))))), ?_⟩
 rw [List.take_of_length_le h73n] at hopw hsq2
 exact ⟨_, _, rfl, by rw [mapT, if_neg hneg, hsq, hsq2], by rw [mapT, if_neg hneg, hsq]; exact OT_mk.2 ⟨_, w, es, es2, k1, k2, k3, k4, rfl, hk, hn, ho, hH.done hjk, how, hopw, rfl, by rw [mapTs_len]; exact hks.le, by rw [mapCs_len]; exact hcv.le⟩⟩
end Go.Proofs.YtdeinimmmjichaaGreat.Hs
/-! Walks, printed by a program of this session's own (gen.py). -/
namespace Go.Proofs.YtdeinimmmjichaaGreat.Hs
open Go Go.Proofs
set_option maxRecDepth 100000
set_option linter.unusedVariables false
set_option linter.unusedSimpArgs false
attribute [local irreducible] JL J CT wlo
theorem moreR_ct (k j : Int) (H : Heap) : CT Tryz.prog 87 ⟨[.int .i64 k, .int .i64 j]⟩ [] H (fun v N => v = .int .i64 (more k j) ∧ N = []) := by
 refine Zr Tryz.func87 rfl rfl ?_
 refine Zg (Zc ?_)
 refine Za (v := .int .i64 0) rfl (Pu.assign rfl) ?_
 refine Zb ?_
 refine Zg ?_
 refine Zs ?_
 refine Zg ?_
 refine Zg (Zc ?_)
 refine Za (v := .int .i64 k) rfl (Pu.move rfl) ?_
 refine Za (v := .bool (decide (k = 3))) rfl (Pu.eql rfl rfl) ?_
 refine Za (v := .bool (decide (k = 3))) rfl (Pu.assign rfl) ?_
 refine Zb ?_
 refine Zl (b := decide (k = 3)) rfl (fun h1 => ?_) (fun h1 => ?_)
 ·replace h1 := dt h1
  refine Zq ?_
  refine Zl (b := decide (k = 3)) rfl (fun _ => ?_) (fun h2 => absurd h1 (df h2))
  refine Zg (Zc ?_)
  refine Za (v := .int .i64 1) rfl (Pu.assign rfl) ?_
  refine Zb ?_
  refine Zo ?_
  refine ⟨.int .i64 1, [], Ret.one rfl (RV.tmp rfl), Sub.nil, ?_⟩
  exact ⟨by first | (simp_all [more]; done) | (congr 1; unfold more; simp_all; try omega), rfl⟩
 replace h1 := df h1
 refine J_cut (fun ρ M => ρ 0 = .int .i64 k ∧ ρ 1 = .int .i64 j ∧ ρ 4 = .int .i64 0 ∧ ρ 5 = .bool ((decide (k = 5)) && (decide (j = 1))) ∧ M = []) ?_ ?_
 ·refine Zc ?_
  refine Za (v := .int .i64 k) rfl (Pu.move rfl) ?_
  refine Za (v := .bool (decide (k = 5))) rfl (Pu.eql rfl rfl) ?_
  refine Za (v := .bool (decide (k = 5))) rfl (Pu.move rfl) ?_
  cases h3 : (decide (k = 5)) with
  | true =>
   replace h3 := dt h3
   refine Za (v := .int .i64 j) rfl (Pu.move rfl) ?_
   refine Za (v := .bool (decide (j = 1))) rfl (Pu.eql rfl rfl) ?_
   refine Za (v := .bool (decide (j = 1))) rfl (Pu.pickT rfl rfl) ?_
   refine Za (v := .bool (decide (j = 1))) rfl (Pu.assign rfl) ?_
   refine Zb ?_
   first | exact ⟨rfl, rfl, rfl, rfl, rfl⟩ | (exfalso; omega)
  | false =>
   replace h3 := df h3
   refine Zf rfl ?_
   refine Zf rfl ?_
   refine Za (v := .bool false) rfl (Pu.pickF rfl rfl) ?_
   refine Za (v := .bool false) rfl (Pu.assign rfl) ?_
   refine Zb ?_
   first | exact ⟨rfl, rfl, rfl, rfl, rfl⟩ | (exfalso; omega)
 rintro ρ4 _ ⟨e5, e6, e7, e8, rfl⟩
 obtain ⟨ρ9, rfl⟩ := Ze (uc e5 (uc e6 (uc e7 (uc e8 un))))
 clear e5 e6 e7 e8
 refine Zl (b := (decide (k = 5)) && (decide (j = 1))) rfl (fun h10 => ?_) (fun h10 => ?_)
 ·obtain ⟨h10a, h10b⟩ := andT h10
  replace h10a := dt h10a
  replace h10b := dt h10b
  refine Zq ?_
  refine Zl (b := (decide (k = 5)) && (decide (j = 1))) rfl (fun h11 => ?_) (fun h11 => ?_)
  ·obtain ⟨h11a, h11b⟩ := andT h11
   replace h11a := dt h11a
   replace h11b := dt h11b
   refine Zg (Zc ?_)
   refine Za (v := .int .i64 1) rfl (Pu.assign rfl) ?_
   refine Zb ?_
   refine Zo ?_
   refine ⟨.int .i64 1, [], Ret.one rfl (RV.tmp rfl), Sub.nil, ?_⟩
   exact ⟨by first | (simp_all [more]; done) | (congr 1; unfold more; simp_all; try omega), rfl⟩
  refine J_cut (fun ρ M => ρ 4 = .int .i64 0 ∧ ρ 20 = .bool ((decide (k = 12)) && (decide (1 < j))) ∧ M = []) ?_ ?_
  ·refine Zc ?_
   refine Za (v := .int .i64 k) rfl (Pu.move rfl) ?_
   refine Za (v := .bool (decide (k = 12))) rfl (Pu.eql rfl rfl) ?_
   refine Za (v := .bool (decide (k = 12))) rfl (Pu.move rfl) ?_
   cases h12 : (decide (k = 12)) with
   | true =>
    replace h12 := dt h12
    refine Za (v := .int .i64 j) rfl (Pu.move rfl) ?_
    refine Za (v := .bool (decide (1 < j))) rfl (Pu.gtr rfl rfl) ?_
    refine Za (v := .bool (decide (1 < j))) rfl (Pu.pickT rfl rfl) ?_
    refine Za (v := .bool (decide (1 < j))) rfl (Pu.assign rfl) ?_
    refine Zb ?_
    first | exact ⟨rfl, rfl, rfl⟩ | (exfalso; omega)
   | false =>
    replace h12 := df h12
    refine Zf rfl ?_
    refine Zf rfl ?_
    refine Za (v := .bool false) rfl (Pu.pickF rfl rfl) ?_
    refine Za (v := .bool false) rfl (Pu.assign rfl) ?_
    refine Zb ?_
    first | exact ⟨rfl, rfl, rfl⟩ | (exfalso; omega)
  rintro ρ13 _ ⟨e14, e15, rfl⟩
  obtain ⟨ρ16, rfl⟩ := Ze (uc e14 (uc e15 un))
  clear e14 e15
  refine Zl (b := (decide (k = 12)) && (decide (1 < j))) rfl (fun h17 => ?_) (fun h17 => ?_)
  ·obtain ⟨h17a, h17b⟩ := andT h17
   replace h17a := dt h17a
   replace h17b := dt h17b
   refine Zg (Zc ?_)
   refine Za (v := .int .i64 2) rfl (Pu.assign rfl) ?_
   refine Zb ?_
   refine Zo ?_
   refine ⟨.int .i64 2, [], Ret.one rfl (RV.tmp rfl), Sub.nil, ?_⟩
   exact ⟨by first | (simp_all [more]; done) | (congr 1; unfold more; simp_all; try omega), rfl⟩
  refine Zq ?_
  refine Zg (Zc ?_)
  refine Za (v := .int .i64 0) rfl (Pu.assign rfl) ?_
  refine Zb ?_
  refine Zo ?_
  refine ⟨.int .i64 0, [], Ret.one rfl (RV.tmp rfl), Sub.nil, ?_⟩
  exact ⟨by first | (simp_all [more]; done) | (congr 1; unfold more; simp_all; try omega), rfl⟩
 refine J_weak (N := fun ρ M => ρ 0 = .int .i64 k ∧ ρ 1 = .int .i64 j ∧ ρ 4 = .int .i64 0 ∧ ρ 5 = .bool ((decide (k = 12)) && (decide (j = 1))) ∧ M = []) ?_ ?_
 ·refine Zc ?_
  refine Za (v := .int .i64 k) rfl (Pu.move rfl) ?_
  refine Za (v := .bool (decide (k = 12))) rfl (Pu.eql rfl rfl) ?_
  refine Za (v := .bool (decide (k = 12))) rfl (Pu.move rfl) ?_
  cases h18 : (decide (k = 12)) with
  | true =>
   replace h18 := dt h18
   refine Za (v := .int .i64 j) rfl (Pu.move rfl) ?_
   refine Za (v := .bool (decide (j = 1))) rfl (Pu.eql rfl rfl) ?_
   refine Za (v := .bool (decide (j = 1))) rfl (Pu.pickT rfl rfl) ?_
   refine Za (v := .bool (decide (j = 1))) rfl (Pu.assign rfl) ?_
   refine Zb ?_
   first | exact ⟨rfl, rfl, rfl, rfl, rfl⟩ | (exfalso; omega)
  | false =>
   replace h18 := df h18
   refine Zf rfl ?_
   refine Zf rfl ?_
   refine Za (v := .bool false) rfl (Pu.pickF rfl rfl) ?_
   refine Za (v := .bool false) rfl (Pu.assign rfl) ?_
   refine Zb ?_
   first | exact ⟨rfl, rfl, rfl, rfl, rfl⟩ | (exfalso; omega)
 rintro ρ19 _ ⟨e20, e21, e22, e23, rfl⟩
 obtain ⟨ρ24, rfl⟩ := Ze (uc e20 (uc e21 (uc e22 (uc e23 un))))
 clear e20 e21 e22 e23
 refine Zl (b := (decide (k = 12)) && (decide (j = 1))) rfl (fun h25 => ?_) (fun h25 => ?_)
 ·obtain ⟨h25a, h25b⟩ := andT h25
  replace h25a := dt h25a
  replace h25b := dt h25b
  refine Zg (Zc ?_)
  refine Za (v := .int .i64 1) rfl (Pu.assign rfl) ?_
  refine Zb ?_
  refine Zo ?_
  refine ⟨.int .i64 1, [], Ret.one rfl (RV.tmp rfl), Sub.nil, ?_⟩
  exact ⟨by first | (simp_all [more]; done) | (congr 1; unfold more; simp_all; try omega), rfl⟩
 refine J_cut (fun ρ M => ρ 4 = .int .i64 0 ∧ ρ 20 = .bool ((decide (k = 12)) && (decide (1 < j))) ∧ M = []) ?_ ?_
 ·refine Zc ?_
  refine Za (v := .int .i64 k) rfl (Pu.move rfl) ?_
  refine Za (v := .bool (decide (k = 12))) rfl (Pu.eql rfl rfl) ?_
  refine Za (v := .bool (decide (k = 12))) rfl (Pu.move rfl) ?_
  cases h26 : (decide (k = 12)) with
  | true =>
   replace h26 := dt h26
   refine Za (v := .int .i64 j) rfl (Pu.move rfl) ?_
   refine Za (v := .bool (decide (1 < j))) rfl (Pu.gtr rfl rfl) ?_
   refine Za (v := .bool (decide (1 < j))) rfl (Pu.pickT rfl rfl) ?_
   refine Za (v := .bool (decide (1 < j))) rfl (Pu.assign rfl) ?_
   refine Zb ?_
   first | exact ⟨rfl, rfl, rfl⟩ | (exfalso; omega)
  | false =>
   replace h26 := df h26
   refine Zf rfl ?_
   refine Zf rfl ?_
   refine Za (v := .bool false) rfl (Pu.pickF rfl rfl) ?_
   refine Za (v := .bool false) rfl (Pu.assign rfl) ?_
   refine Zb ?_
   first | exact ⟨rfl, rfl, rfl⟩ | (exfalso; omega)
 rintro ρ27 _ ⟨e28, e29, rfl⟩
 obtain ⟨ρ30, rfl⟩ := Ze (uc e28 (uc e29 un))
 clear e28 e29
 refine Zl (b := (decide (k = 12)) && (decide (1 < j))) rfl (fun h31 => ?_) (fun h31 => ?_)
 ·obtain ⟨h31a, h31b⟩ := andT h31
  replace h31a := dt h31a
  replace h31b := dt h31b
  refine Zg (Zc ?_)
  refine Za (v := .int .i64 2) rfl (Pu.assign rfl) ?_
  refine Zb ?_
  refine Zo ?_
  refine ⟨.int .i64 2, [], Ret.one rfl (RV.tmp rfl), Sub.nil, ?_⟩
  exact ⟨by first | (simp_all [more]; done) | (congr 1; unfold more; simp_all; try omega), rfl⟩
 refine Zq ?_
 refine Zg (Zc ?_)
 refine Za (v := .int .i64 0) rfl (Pu.assign rfl) ?_
 refine Zb ?_
 refine Zo ?_
 refine ⟨.int .i64 0, [], Ret.one rfl (RV.tmp rfl), Sub.nil, ?_⟩
 exact ⟨by first | (simp_all [more]; done) | (congr 1; unfold more; simp_all; try omega), rfl⟩
theorem offR_ct (n lo hi : Int) (H : Heap) : CT Tryz.prog 94 ⟨[.int .i64 n, .int .i64 lo, .int .i64 hi]⟩ [] H (fun v N => v = .bool (decide (n < lo ∨ hi < n)) ∧ N = []) := by
 refine Zr Tryz.func94 rfl rfl ?_
 refine Zg (Zc ?_)
 refine Za (v := .bool false) rfl (Pu.assign rfl) ?_
 refine Zb ?_
 refine J_cut (fun ρ M => ρ 6 = .bool ((decide (n < lo)) || (decide (hi < n))) ∧ M = []) ?_ ?_
 ·refine Zc ?_
  refine Za (v := .int .i64 n) rfl (Pu.move rfl) ?_
  refine Za (v := .int .i64 lo) rfl (Pu.move rfl) ?_
  refine Za (v := .bool (decide (n < lo))) rfl (Pu.lss rfl rfl) ?_
  refine Za (v := .bool (decide (n < lo))) rfl (Pu.move rfl) ?_
  cases h1 : (decide (n < lo)) with
  | true =>
   replace h1 := dt h1
   refine Zf rfl ?_
   refine Zf rfl ?_
   refine Zf rfl ?_
   refine Za (v := .bool true) rfl (Pu.pickT rfl rfl) ?_
   refine Za (v := .bool true) rfl (Pu.assign rfl) ?_
   refine Zb ?_
   first | exact ⟨rfl, rfl⟩ | (exfalso; omega)
  | false =>
   replace h1 := df h1
   refine Za (v := .int .i64 n) rfl (Pu.move rfl) ?_
   refine Za (v := .int .i64 hi) rfl (Pu.move rfl) ?_
   refine Za (v := .bool (decide (hi < n))) rfl (Pu.gtr rfl rfl) ?_
   refine Za (v := .bool (decide (hi < n))) rfl (Pu.pickF rfl rfl) ?_
   refine Za (v := .bool (decide (hi < n))) rfl (Pu.assign rfl) ?_
   refine Zb ?_
   first | exact ⟨rfl, rfl⟩ | (exfalso; omega)
 rintro ρ2 _ ⟨e3, rfl⟩
 obtain ⟨ρ4, rfl⟩ := Ze (uc e3 un)
 clear e3
 refine Zo ?_
 refine ⟨.bool ((decide (n < lo)) || (decide (hi < n))), [], Ret.one rfl (RV.tmp rfl), Sub.nil, ?_⟩
 exact ⟨by simp, rfl⟩
theorem bindsR_ct : ∀ (p : Pt) (cs : List Value) (H : Heap), RP H cs p → binds p ≤ 1000000 → CT Tryz.prog 49 ⟨[.agg ⟨cs⟩]⟩ [] H (fun v N => v = .int .i64 (binds p : Int) ∧ N = []) := by
 intro p
 induction p using Pt.ind with
 | h kind num ref kids ih =>
 intro cs H hp hb
 obtain ⟨ks, rfl, hk, hn, hks⟩ := RP_mk.1 hp
 rw [binds] at hb ⊢
 refine Zr Tryz.func49 rfl rfl ?_
 refine Zg (Zc ?_)
 refine Zd rfl (Zx (l := pkP kind num ref ks) rfl rfl fun b1 => ?_)
 refine Za (v := .int .i64 0) rfl (Pu.assign rfl) ?_
 refine Zb ?_
 refine Zg ?_
 refine Zg (Zc ?_)
 refine Za (v := .pointer (some ⟨b1, 0, none⟩)) rfl (fa30_0 rfl rfl) ?_
 refine Zd rfl (Zh ty3 rfl (At.bx 0 rfl) (pkP_0 ..) ?_)
 refine Za (v := .bool (decide (kind = 1))) rfl (Pu.eql rfl rfl) ?_
 refine Zb ?_
 refine Zl (b := decide (kind = 1)) rfl (fun h2 => ?_) (fun h2 => ?_)
 ·replace h2 := dt h2
  refine Zg (Zc ?_)
  refine Za (v := .int .i64 1) rfl (Pu.assign rfl) ?_
  refine Zb ?_
  refine Zo ?_
  refine ⟨.int .i64 1, [], Ret.one rfl (RV.tmp rfl), Sub.nil, ?_⟩
  exact ⟨by rw [if_pos (by assumption)]; rfl, rfl⟩
 replace h2 := df h2
 refine Zq ?_
 refine Zg (Zc ?_)
 refine Za (v := .int .i64 0) rfl (Pu.assign rfl) ?_
 refine Zb ?_
 refine Zg ?_
 refine Zg (Zc ?_)
 refine Za (v := .int .i64 0) rfl (Pu.assign rfl) ?_
 refine Zb ?_
 refine Zs ?_
 refine J_loop (fun k ρ M => ∃ (j : Nat), ρ 1 = .pointer (some ⟨b1, 0, none⟩) ∧ ρ 2 = .int .i64 0 ∧ ρ 3 = .int .i64 ((bindsL (kids.take j) : Int)) ∧ ρ 4 = .int .i64 ((j : Int)) ∧ Sub [[(b1, .cells ⟨pkP kind num ref ks⟩ 30 (0, 0))]] M ∧ j ≤ kids.length ∧ k = kids.length - j) _ ⟨0, rfl, rfl, rfl, rfl, (Sk Sub.nil), Nat.zero_le _, rfl⟩ ?_
 rintro _ ρ3 _ ⟨j, e4, e5, e6, e7, hm8, hj, rfl⟩
 obtain ⟨ρ9, rfl⟩ := Ze (uc e4 (uc e5 (uc e6 (uc e7 un))))
 clear e4 e5 e6 e7
 refine J_sub hm8 ?_
 have hlen := hks.le
 refine Zg ?_
 refine Zg (Zc ?_)
 refine Za (v := .int .i64 ((j : Int))) rfl (Pu.move rfl) ?_
 refine Za (v := .pointer (some ⟨b1, 34, none⟩)) rfl (fa30_3 rfl rfl) ?_
 refine Zd rfl (Zh ty28 rfl (At.bx 0 rfl) (pkP_34 ..) ?_)
 obtain ⟨a10, cap10, hv10⟩ := hks.sl
 have hle10 := hks.le
 refine Za (v := .int .i64 ((kids.length : Int))) rfl (Pu.lenSl Tryz.runUnderlying28 hv10) ?_
 refine Za (v := .bool (decide ((j : Int) < (kids.length : Int)))) rfl (Pu.lss rfl rfl) ?_
 refine Zb ?_
 refine Zl (b := decide ((j : Int) < (kids.length : Int))) rfl (fun h11 => ?_) (fun h11 => ?_)
 ·replace h11 := dt h11
  have h11n : j < kids.length := by omega
  have hm1 := binds_mem kids _ (List.getElem_mem h11n)
  have hm2 := bindsL_take kids _ h11n
  have hm3 := bindsL_take_le kids (j + 1)
  rw [if_neg (by assumption)] at hb
  refine Zq ?_
  refine Zg ?_
  refine Zs ?_
  refine Zc ?_
  refine Za (v := .int .i64 ((bindsL (kids.take j) : Int))) rfl (Pu.move rfl) ?_
  refine Za (v := .pointer (some ⟨b1, 34, none⟩)) rfl (fa30_3 rfl rfl) ?_
  refine Zd rfl (Zh ty28 rfl (At.bx 0 rfl) (pkP_34 ..) ?_)
  refine Za (v := .int .i64 ((j : Int))) rfl (Pu.move rfl) ?_
  obtain ⟨b12, o12, cap12, row12, T12, fr12, cs12, hv12, hb12, hs12, hE12⟩ := hks.get j (by first | assumption | omega | decide | simp)
  refine Za (v := .pointer (some ⟨b12, o12 + j * 35, none⟩)) rfl (Pu.idx j Tryz.runUnderlying28 ty30 hv12 rfl rfl (by first | assumption | omega | decide | simp)) ?_
  refine Zd rfl (Zj ty30 rfl (At.im hb12) hs12 ?_)
  refine Zk rfl Tryz.call49 rfl (fun hin => ih _ (List.getElem_mem h11n) _ _ (RP.mono (Hle.hu _ _) hE12) (by omega)) rfl ?_
  rintro _ _ ⟨rfl, rfl⟩
  refine Za (v := .int .i64 ((bindsL (kids.take j) : Int) + ((binds (kids[j]) : Int)))) rfl (Pu.add64 rfl rfl (by first | omega | (constructor <;> omega))) ?_
  refine Za (v := .int .i64 ((bindsL (kids.take j) : Int) + ((binds (kids[j]) : Int)))) rfl (Pu.assign rfl) ?_
  refine Zb ?_
  refine Zc ?_
  refine Za (v := .int .i64 ((j : Int))) rfl (Pu.move rfl) ?_
  refine Za (v := .int .i64 (((j + 1 : Nat) : Int))) rfl (Pu.inc rfl rfl (by omega)) ?_
  refine Za (v := .int .i64 (((j + 1 : Nat) : Int))) rfl (Pu.assign rfl) ?_
  refine Zb ?_
  refine ⟨_, ?_, (j + 1), rfl, rfl, (ieq rfl (by omega)), rfl, (Sk Sub.nil), ?_, rfl⟩
  ·omega
  omega
 replace h11 := df h11
 have h11n : kids.length ≤ j := by omega
 refine J_exit _ rfl ?_
 refine Zg (Zc ?_)
 refine Za (v := .int .i64 ((bindsL (kids.take j) : Int))) rfl (Pu.move rfl) ?_
 refine Za (v := .int .i64 ((bindsL (kids.take j) : Int))) rfl (Pu.assign rfl) ?_
 refine Zb ?_
 refine Zo ?_
 refine ⟨.int .i64 ((bindsL (kids.take j) : Int)), [], Ret.one rfl (RV.tmp rfl), Sub.nil, ?_⟩
 exact ⟨by rw [if_neg (by assumption), List.take_of_length_le h11n], rfl⟩
theorem hasNum_ct (k : Int) (H : Heap) : CT Tryz.prog 95 ⟨[.int .i64 k]⟩ [] H (fun v N => v = .bool (hasNumB k) ∧ N = []) := by
 refine Zr Tryz.func95 rfl rfl ?_
 refine Zg (Zc ?_)
 refine Za (v := .bool false) rfl (Pu.assign rfl) ?_
 refine Zb ?_
 refine J_cut (fun ρ M => ρ 2 = .bool ((((((decide (k = 1)) || (decide (k = 2))) || (decide (k = 7))) || (decide (k = 8))) || (decide (k = 10))) || (decide (k = 11))) ∧ M = []) ?_ ?_
 ·refine Zc ?_
  refine Za (v := .int .i64 k) rfl (Pu.move rfl) ?_
  refine Za (v := .bool (decide (k = 1))) rfl (Pu.eql rfl rfl) ?_
  refine Za (v := .bool (decide (k = 1))) rfl (Pu.move rfl) ?_
  cases h1 : (decide (k = 1)) with
  | true =>
   replace h1 := dt h1
   refine Zf rfl ?_
   refine Zf rfl ?_
   refine Za (v := .bool true) rfl (Pu.pickT rfl rfl) ?_
   refine Za (v := .bool true) rfl (Pu.move rfl) ?_
   refine Zf rfl ?_
   refine Zf rfl ?_
   refine Za (v := .bool true) rfl (Pu.pickT rfl rfl) ?_
   refine Za (v := .bool true) rfl (Pu.move rfl) ?_
   refine Zf rfl ?_
   refine Zf rfl ?_
   refine Za (v := .bool true) rfl (Pu.pickT rfl rfl) ?_
   refine Za (v := .bool true) rfl (Pu.move rfl) ?_
   refine Zf rfl ?_
   refine Zf rfl ?_
   refine Za (v := .bool true) rfl (Pu.pickT rfl rfl) ?_
   refine Za (v := .bool true) rfl (Pu.move rfl) ?_
   refine Zf rfl ?_
   refine Zf rfl ?_
   refine Za (v := .bool true) rfl (Pu.pickT rfl rfl) ?_
   refine Za (v := .bool true) rfl (Pu.assign rfl) ?_
   refine Zb ?_
   first | exact ⟨rfl, rfl⟩ | (exfalso; omega)
  | false =>
   replace h1 := df h1
   refine Za (v := .int .i64 k) rfl (Pu.move rfl) ?_
   refine Za (v := .bool (decide (k = 2))) rfl (Pu.eql rfl rfl) ?_
   refine Za (v := .bool (decide (k = 2))) rfl (Pu.pickF rfl rfl) ?_
   refine Za (v := .bool (decide (k = 2))) rfl (Pu.move rfl) ?_
   cases h2 : (decide (k = 2)) with
   | true =>
    replace h2 := dt h2
    refine Zf rfl ?_
    refine Zf rfl ?_
    refine Za (v := .bool true) rfl (Pu.pickT rfl rfl) ?_
    refine Za (v := .bool true) rfl (Pu.move rfl) ?_
    refine Zf rfl ?_
    refine Zf rfl ?_
    refine Za (v := .bool true) rfl (Pu.pickT rfl rfl) ?_
    refine Za (v := .bool true) rfl (Pu.move rfl) ?_
    refine Zf rfl ?_
    refine Zf rfl ?_
    refine Za (v := .bool true) rfl (Pu.pickT rfl rfl) ?_
    refine Za (v := .bool true) rfl (Pu.move rfl) ?_
    refine Zf rfl ?_
    refine Zf rfl ?_
    refine Za (v := .bool true) rfl (Pu.pickT rfl rfl) ?_
    refine Za (v := .bool true) rfl (Pu.assign rfl) ?_
    refine Zb ?_
    first | exact ⟨rfl, rfl⟩ | (exfalso; omega)
   | false =>
    replace h2 := df h2
    refine Za (v := .int .i64 k) rfl (Pu.move rfl) ?_
    refine Za (v := .bool (decide (k = 7))) rfl (Pu.eql rfl rfl) ?_
    refine Za (v := .bool (decide (k = 7))) rfl (Pu.pickF rfl rfl) ?_
    refine Za (v := .bool (decide (k = 7))) rfl (Pu.move rfl) ?_
    cases h3 : (decide (k = 7)) with
    | true =>
     replace h3 := dt h3
     refine Zf rfl ?_
     refine Zf rfl ?_
     refine Za (v := .bool true) rfl (Pu.pickT rfl rfl) ?_
     refine Za (v := .bool true) rfl (Pu.move rfl) ?_
     refine Zf rfl ?_
     refine Zf rfl ?_
     refine Za (v := .bool true) rfl (Pu.pickT rfl rfl) ?_
     refine Za (v := .bool true) rfl (Pu.move rfl) ?_
     refine Zf rfl ?_
     refine Zf rfl ?_
     refine Za (v := .bool true) rfl (Pu.pickT rfl rfl) ?_
     refine Za (v := .bool true) rfl (Pu.assign rfl) ?_
     refine Zb ?_
     first | exact ⟨rfl, rfl⟩ | (exfalso; omega)
    | false =>
     replace h3 := df h3
     refine Za (v := .int .i64 k) rfl (Pu.move rfl) ?_
     refine Za (v := .bool (decide (k = 8))) rfl (Pu.eql rfl rfl) ?_
     refine Za (v := .bool (decide (k = 8))) rfl (Pu.pickF rfl rfl) ?_
     refine Za (v := .bool (decide (k = 8))) rfl (Pu.move rfl) ?_
     cases h4 : (decide (k = 8)) with
     | true =>
      replace h4 := dt h4
      refine Zf rfl ?_
      refine Zf rfl ?_
      refine Za (v := .bool true) rfl (Pu.pickT rfl rfl) ?_
      refine Za (v := .bool true) rfl (Pu.move rfl) ?_
      refine Zf rfl ?_
      refine Zf rfl ?_
      refine Za (v := .bool true) rfl (Pu.pickT rfl rfl) ?_
      refine Za (v := .bool true) rfl (Pu.assign rfl) ?_
      refine Zb ?_
      first | exact ⟨rfl, rfl⟩ | (exfalso; omega)
     | false =>
      replace h4 := df h4
      refine Za (v := .int .i64 k) rfl (Pu.move rfl) ?_
      refine Za (v := .bool (decide (k = 10))) rfl (Pu.eql rfl rfl) ?_
      refine Za (v := .bool (decide (k = 10))) rfl (Pu.pickF rfl rfl) ?_
      refine Za (v := .bool (decide (k = 10))) rfl (Pu.move rfl) ?_
      cases h5 : (decide (k = 10)) with
      | true =>
       replace h5 := dt h5
       refine Zf rfl ?_
       refine Zf rfl ?_
       refine Za (v := .bool true) rfl (Pu.pickT rfl rfl) ?_
       refine Za (v := .bool true) rfl (Pu.assign rfl) ?_
       refine Zb ?_
       first | exact ⟨rfl, rfl⟩ | (exfalso; omega)
      | false =>
       replace h5 := df h5
       refine Za (v := .int .i64 k) rfl (Pu.move rfl) ?_
       refine Za (v := .bool (decide (k = 11))) rfl (Pu.eql rfl rfl) ?_
       refine Za (v := .bool (decide (k = 11))) rfl (Pu.pickF rfl rfl) ?_
       refine Za (v := .bool (decide (k = 11))) rfl (Pu.assign rfl) ?_
       refine Zb ?_
       first | exact ⟨rfl, rfl⟩ | (exfalso; omega)
 rintro ρ6 _ ⟨e7, rfl⟩
 obtain ⟨ρ8, rfl⟩ := Ze (uc e7 un)
 clear e7
 refine Zo ?_
 refine ⟨.bool ((((((decide (k = 1)) || (decide (k = 2))) || (decide (k = 7))) || (decide (k = 8))) || (decide (k = 10))) || (decide (k = 11))), [], Ret.one rfl (RV.tmp rfl), Sub.nil, ?_⟩
 exact ⟨by simp_all [hasNumB], rfl⟩
theorem hasRef_ct (k : Int) (H : Heap) : CT Tryz.prog 96 ⟨[.int .i64 k]⟩ [] H (fun v N => v = .bool (hasRefB k) ∧ N = []) := by
 refine Zr Tryz.func96 rfl rfl ?_
 refine Zg (Zc ?_)
 refine Za (v := .bool false) rfl (Pu.assign rfl) ?_
 refine Zb ?_
 refine J_cut (fun ρ M => ρ 2 = .bool ((((decide (k = 6)) || (decide (k = 8))) || (decide (k = 11))) || (decide (k = 12))) ∧ M = []) ?_ ?_
 ·refine Zc ?_
  refine Za (v := .int .i64 k) rfl (Pu.move rfl) ?_
  refine Za (v := .bool (decide (k = 6))) rfl (Pu.eql rfl rfl) ?_
  refine Za (v := .bool (decide (k = 6))) rfl (Pu.move rfl) ?_
  cases h1 : (decide (k = 6)) with
  | true =>
   replace h1 := dt h1
   refine Zf rfl ?_
   refine Zf rfl ?_
   refine Za (v := .bool true) rfl (Pu.pickT rfl rfl) ?_
   refine Za (v := .bool true) rfl (Pu.move rfl) ?_
   refine Zf rfl ?_
   refine Zf rfl ?_
   refine Za (v := .bool true) rfl (Pu.pickT rfl rfl) ?_
   refine Za (v := .bool true) rfl (Pu.move rfl) ?_
   refine Zf rfl ?_
   refine Zf rfl ?_
   refine Za (v := .bool true) rfl (Pu.pickT rfl rfl) ?_
   refine Za (v := .bool true) rfl (Pu.assign rfl) ?_
   refine Zb ?_
   first | exact ⟨rfl, rfl⟩ | (exfalso; omega)
  | false =>
   replace h1 := df h1
   refine Za (v := .int .i64 k) rfl (Pu.move rfl) ?_
   refine Za (v := .bool (decide (k = 8))) rfl (Pu.eql rfl rfl) ?_
   refine Za (v := .bool (decide (k = 8))) rfl (Pu.pickF rfl rfl) ?_
   refine Za (v := .bool (decide (k = 8))) rfl (Pu.move rfl) ?_
   cases h2 : (decide (k = 8)) with
   | true =>
    replace h2 := dt h2
    refine Zf rfl ?_
    refine Zf rfl ?_
    refine Za (v := .bool true) rfl (Pu.pickT rfl rfl) ?_
    refine Za (v := .bool true) rfl (Pu.move rfl) ?_
    refine Zf rfl ?_
    refine Zf rfl ?_
    refine Za (v := .bool true) rfl (Pu.pickT rfl rfl) ?_
    refine Za (v := .bool true) rfl (Pu.assign rfl) ?_
    refine Zb ?_
    first | exact ⟨rfl, rfl⟩ | (exfalso; omega)
   | false =>
    replace h2 := df h2
    refine Za (v := .int .i64 k) rfl (Pu.move rfl) ?_
    refine Za (v := .bool (decide (k = 11))) rfl (Pu.eql rfl rfl) ?_
    refine Za (v := .bool (decide (k = 11))) rfl (Pu.pickF rfl rfl) ?_
    refine Za (v := .bool (decide (k = 11))) rfl (Pu.move rfl) ?_
    cases h3 : (decide (k = 11)) with
    | true =>
     replace h3 := dt h3
     refine Zf rfl ?_
     refine Zf rfl ?_
     refine Za (v := .bool true) rfl (Pu.pickT rfl rfl) ?_
     refine Za (v := .bool true) rfl (Pu.assign rfl) ?_
     refine Zb ?_
     first | exact ⟨rfl, rfl⟩ | (exfalso; omega)
    | false =>
     replace h3 := df h3
     refine Za (v := .int .i64 k) rfl (Pu.move rfl) ?_
     refine Za (v := .bool (decide (k = 12))) rfl (Pu.eql rfl rfl) ?_
     refine Za (v := .bool (decide (k = 12))) rfl (Pu.pickF rfl rfl) ?_
     refine Za (v := .bool (decide (k = 12))) rfl (Pu.assign rfl) ?_
     refine Zb ?_
     first | exact ⟨rfl, rfl⟩ | (exfalso; omega)
 rintro ρ4 _ ⟨e5, rfl⟩
 obtain ⟨ρ6, rfl⟩ := Ze (uc e5 un)
 clear e5
 refine Zo ?_
 refine ⟨.bool ((((decide (k = 6)) || (decide (k = 8))) || (decide (k = 11))) || (decide (k = 12))), [], Ret.one rfl (RV.tmp rfl), Sub.nil, ?_⟩
 exact ⟨by simp_all [hasRefB], rfl⟩
theorem kidsR_ct (k : Int) (H : Heap) : CT Tryz.prog 97 ⟨[.int .i64 k]⟩ [] H (fun v N => v = .tuple ⟨[.int .i64 (loK k), .int .i64 (hiK k)]⟩ ∧ N = []) := by
 refine Zr Tryz.func97 rfl rfl ?_
 refine Zg (Zc ?_)
 refine Za (v := .int .i64 0) rfl (Pu.assign rfl) ?_
 refine Za (v := .int .i64 0) rfl (Pu.assign rfl) ?_
 refine Zb ?_
 refine Zg ?_
 refine Zg (Zc ?_)
 refine Za (v := .int .i64 k) rfl (Pu.move rfl) ?_
 refine Zb ?_
 refine Zs ?_
 refine Zg ?_
 refine Zg (Zc ?_)
 refine Za (v := .bool (decide (k = 3))) rfl (Pu.eql rfl rfl) ?_
 refine Za (v := .bool (decide (k = 3))) rfl (Pu.assign rfl) ?_
 refine Zb ?_
 refine Zl (b := decide (k = 3)) rfl (fun h1 => ?_) (fun h1 => ?_)
 ·replace h1 := dt h1
  refine Zq ?_
  refine Zl (b := decide (k = 3)) rfl (fun _ => ?_) (fun h2 => absurd h1 (df h2))
  refine Zg (Zc ?_)
  refine Za (v := .int .i64 1) rfl (Pu.assign rfl) ?_
  refine Za (v := .int .i64 1) rfl (Pu.assign rfl) ?_
  refine Zb ?_
  refine Zo ?_
  refine ⟨.tuple ⟨[.int .i64 1, .int .i64 1]⟩, [], Ret.two rfl (RV.tmp rfl) (RV.tmp rfl), Sub.nil, ?_⟩
  exact ⟨by simp_all [loK, hiK], rfl⟩
 replace h1 := df h1
 refine Zg (Zc ?_)
 refine Za (v := .bool (decide (k = 9))) rfl (Pu.eql rfl rfl) ?_
 refine Za (v := .bool (decide (k = 9))) rfl (Pu.assign rfl) ?_
 refine Zb ?_
 refine Zl (b := decide (k = 9)) rfl (fun h3 => ?_) (fun h3 => ?_)
 ·replace h3 := dt h3
  refine Zq ?_
  refine Zl (b := decide (k = 9)) rfl (fun _ => ?_) (fun h4 => absurd h3 (df h4))
  refine Zg (Zc ?_)
  refine Za (v := .int .i64 1) rfl (Pu.assign rfl) ?_
  refine Za (v := .int .i64 1) rfl (Pu.assign rfl) ?_
  refine Zb ?_
  refine Zo ?_
  refine ⟨.tuple ⟨[.int .i64 1, .int .i64 1]⟩, [], Ret.two rfl (RV.tmp rfl) (RV.tmp rfl), Sub.nil, ?_⟩
  exact ⟨by simp_all [loK, hiK], rfl⟩
 replace h3 := df h3
 refine Zc ?_
 refine Za (v := .bool (decide (k = 11))) rfl (Pu.eql rfl rfl) ?_
 refine Za (v := .bool (decide (k = 11))) rfl (Pu.assign rfl) ?_
 refine Zb ?_
 refine Zl (b := decide (k = 11)) rfl (fun h5 => ?_) (fun h5 => ?_)
 ·replace h5 := dt h5
  refine Zg (Zc ?_)
  refine Za (v := .int .i64 1) rfl (Pu.assign rfl) ?_
  refine Za (v := .int .i64 1) rfl (Pu.assign rfl) ?_
  refine Zb ?_
  refine Zo ?_
  refine ⟨.tuple ⟨[.int .i64 1, .int .i64 1]⟩, [], Ret.two rfl (RV.tmp rfl) (RV.tmp rfl), Sub.nil, ?_⟩
  exact ⟨by simp_all [loK, hiK], rfl⟩
 replace h5 := df h5
 refine Zg ?_
 refine Zg (Zc ?_)
 refine Za (v := .bool (decide (k = 4))) rfl (Pu.eql rfl rfl) ?_
 refine Za (v := .bool (decide (k = 4))) rfl (Pu.assign rfl) ?_
 refine Zb ?_
 refine Zl (b := decide (k = 4)) rfl (fun h6 => ?_) (fun h6 => ?_)
 ·replace h6 := dt h6
  refine Zq ?_
  refine Zl (b := decide (k = 4)) rfl (fun _ => ?_) (fun h7 => absurd h6 (df h7))
  refine Zg (Zc ?_)
  refine Za (v := .int .i64 2) rfl (Pu.assign rfl) ?_
  refine Za (v := .int .i64 2) rfl (Pu.assign rfl) ?_
  refine Zb ?_
  refine Zo ?_
  refine ⟨.tuple ⟨[.int .i64 2, .int .i64 2]⟩, [], Ret.two rfl (RV.tmp rfl) (RV.tmp rfl), Sub.nil, ?_⟩
  exact ⟨by simp_all [loK, hiK], rfl⟩
 replace h6 := df h6
 refine Zg (Zc ?_)
 refine Za (v := .bool (decide (k = 5))) rfl (Pu.eql rfl rfl) ?_
 refine Za (v := .bool (decide (k = 5))) rfl (Pu.assign rfl) ?_
 refine Zb ?_
 refine Zl (b := decide (k = 5)) rfl (fun h8 => ?_) (fun h8 => ?_)
 ·replace h8 := dt h8
  refine Zq ?_
  refine Zl (b := decide (k = 5)) rfl (fun _ => ?_) (fun h9 => absurd h8 (df h9))
  refine Zg (Zc ?_)
  refine Za (v := .int .i64 2) rfl (Pu.assign rfl) ?_
  refine Za (v := .int .i64 2) rfl (Pu.assign rfl) ?_
  refine Zb ?_
  refine Zo ?_
  refine ⟨.tuple ⟨[.int .i64 2, .int .i64 2]⟩, [], Ret.two rfl (RV.tmp rfl) (RV.tmp rfl), Sub.nil, ?_⟩
  exact ⟨by simp_all [loK, hiK], rfl⟩
 replace h8 := df h8
 refine Zc ?_
 refine Za (v := .bool (decide (k = 10))) rfl (Pu.eql rfl rfl) ?_
 refine Za (v := .bool (decide (k = 10))) rfl (Pu.assign rfl) ?_
 refine Zb ?_
 refine Zl (b := decide (k = 10)) rfl (fun h10 => ?_) (fun h10 => ?_)
 ·replace h10 := dt h10
  refine Zg (Zc ?_)
  refine Za (v := .int .i64 2) rfl (Pu.assign rfl) ?_
  refine Za (v := .int .i64 2) rfl (Pu.assign rfl) ?_
  refine Zb ?_
  refine Zo ?_
  refine ⟨.tuple ⟨[.int .i64 2, .int .i64 2]⟩, [], Ret.two rfl (RV.tmp rfl) (RV.tmp rfl), Sub.nil, ?_⟩
  exact ⟨by simp_all [loK, hiK], rfl⟩
 replace h10 := df h10
 refine Zg (Zc ?_)
 refine Za (v := .bool (decide (k = 8))) rfl (Pu.eql rfl rfl) ?_
 refine Za (v := .bool (decide (k = 8))) rfl (Pu.assign rfl) ?_
 refine Zb ?_
 refine Zl (b := decide (k = 8)) rfl (fun h11 => ?_) (fun h11 => ?_)
 ·replace h11 := dt h11
  refine Zg (Zc ?_)
  refine Za (v := .int .i64 0) rfl (Pu.assign rfl) ?_
  refine Za (v := .int .i64 4) rfl (Pu.assign rfl) ?_
  refine Zb ?_
  refine Zo ?_
  refine ⟨.tuple ⟨[.int .i64 0, .int .i64 4]⟩, [], Ret.two rfl (RV.tmp rfl) (RV.tmp rfl), Sub.nil, ?_⟩
  exact ⟨by simp_all [loK, hiK], rfl⟩
 replace h11 := df h11
 refine Zg (Zc ?_)
 refine Za (v := .bool (decide (k = 12))) rfl (Pu.eql rfl rfl) ?_
 refine Za (v := .bool (decide (k = 12))) rfl (Pu.assign rfl) ?_
 refine Zb ?_
 refine Zl (b := decide (k = 12)) rfl (fun h12 => ?_) (fun h12 => ?_)
 ·replace h12 := dt h12
  refine Zg (Zc ?_)
  refine Za (v := .int .i64 2) rfl (Pu.assign rfl) ?_
  refine Za (v := .int .i64 10) rfl (Pu.assign rfl) ?_
  refine Zb ?_
  refine Zo ?_
  refine ⟨.tuple ⟨[.int .i64 2, .int .i64 10]⟩, [], Ret.two rfl (RV.tmp rfl) (RV.tmp rfl), Sub.nil, ?_⟩
  exact ⟨by simp_all [loK, hiK], rfl⟩
 replace h12 := df h12
 refine Zq ?_
 refine Zg (Zc ?_)
 refine Za (v := .int .i64 0) rfl (Pu.assign rfl) ?_
 refine Za (v := .int .i64 0) rfl (Pu.assign rfl) ?_
 refine Zb ?_
 refine Zo ?_
 refine ⟨.tuple ⟨[.int .i64 0, .int .i64 0]⟩, [], Ret.two rfl (RV.tmp rfl) (RV.tmp rfl), Sub.nil, ?_⟩
 exact ⟨by simp_all [loK, hiK], rfl⟩
theorem fields_ct (k : Int) (H : Heap) : CT Tryz.prog 110 ⟨[.int .i64 k]⟩ [] H (fun v N => v = .agg ⟨[.bool (fN k), .bool (fR k), .bool (fC k)]⟩ ∧ N = []) := by
 refine Zr Tryz.func110 rfl rfl ?_
 refine Zg (Zc ?_)
 refine Zd rfl (Zn (l := [.bool false, .bool false, .bool false]) Tryz.zeroValue141 rfl fun b1 => ?_)
 refine Zb ?_
 refine Zg (Zc ?_)
 refine Zd rfl (Zn (l := [.bool false, .bool false, .bool false]) Tryz.zeroValue141 rfl fun b2 => ?_)
 refine Zb ?_
 refine Zg ?_
 refine Zg (Zc ?_)
 refine Za (v := .int .i64 k) rfl (Pu.move rfl) ?_
 refine Zb ?_
 refine Zs ?_
 refine Zg ?_
 refine Zg (Zc ?_)
 refine Za (v := .bool (decide (k = 1))) rfl (Pu.eql rfl rfl) ?_
 refine Za (v := .bool (decide (k = 1))) rfl (Pu.assign rfl) ?_
 refine Zb ?_
 refine Zl (b := decide (k = 1)) rfl (fun h3 => ?_) (fun h3 => ?_)
 ·replace h3 := dt h3
  refine Zq ?_
  refine Zl (b := decide (k = 1)) rfl (fun _ => ?_) (fun h4 => absurd h3 (df h4))
  refine Zc ?_
  refine Za (v := .pointer (some ⟨b2, 0, none⟩)) rfl (Pu.idxA 0 Tryz.runUnderlying141 ty4 rfl rfl (by decide) (by decide)) ?_
  refine Zd rfl (Zi 0 (vs := [.bool true]) (l := [.bool true, .bool false, .bool false]) ty4 rfl rfl rfl rfl rfl (Zp rfl Zz) rfl ?_)
  refine Zb ?_
  refine Zg (Zc ?_)
  refine Zd rfl (Zj ty141 rfl (At.bx 0 rfl) rfl ?_)
  refine Zd rfl (Zi 1 (vs := [.bool true, .bool false, .bool false]) (l := [.bool true, .bool false, .bool false]) ty141 rfl rfl rfl rfl rfl (Zp rfl (Zp rfl (Zp rfl Zz))) rfl ?_)
  refine Zb ?_
  refine Zo ?_
  refine ⟨.agg ⟨[.bool true, .bool false, .bool false]⟩, [], Ret.one rfl (RV.cell ty141 rfl (At.bx 1 rfl) rfl), Sub.nil, ?_⟩
  exact ⟨by simp_all [fN, fR, fC], rfl⟩
 replace h3 := df h3
 refine Zg (Zc ?_)
 refine Za (v := .bool (decide (k = 2))) rfl (Pu.eql rfl rfl) ?_
 refine Za (v := .bool (decide (k = 2))) rfl (Pu.assign rfl) ?_
 refine Zb ?_
 refine Zl (b := decide (k = 2)) rfl (fun h5 => ?_) (fun h5 => ?_)
 ·replace h5 := dt h5
  refine Zq ?_
  refine Zl (b := decide (k = 2)) rfl (fun _ => ?_) (fun h6 => absurd h5 (df h6))
  refine Zc ?_
  refine Za (v := .pointer (some ⟨b2, 0, none⟩)) rfl (Pu.idxA 0 Tryz.runUnderlying141 ty4 rfl rfl (by decide) (by decide)) ?_
  refine Zd rfl (Zi 0 (vs := [.bool true]) (l := [.bool true, .bool false, .bool false]) ty4 rfl rfl rfl rfl rfl (Zp rfl Zz) rfl ?_)
  refine Zb ?_
  refine Zg (Zc ?_)
  refine Zd rfl (Zj ty141 rfl (At.bx 0 rfl) rfl ?_)
  refine Zd rfl (Zi 1 (vs := [.bool true, .bool false, .bool false]) (l := [.bool true, .bool false, .bool false]) ty141 rfl rfl rfl rfl rfl (Zp rfl (Zp rfl (Zp rfl Zz))) rfl ?_)
  refine Zb ?_
  refine Zo ?_
  refine ⟨.agg ⟨[.bool true, .bool false, .bool false]⟩, [], Ret.one rfl (RV.cell ty141 rfl (At.bx 1 rfl) rfl), Sub.nil, ?_⟩
  exact ⟨by simp_all [fN, fR, fC], rfl⟩
 replace h5 := df h5
 refine Zg (Zc ?_)
 refine Za (v := .bool (decide (k = 7))) rfl (Pu.eql rfl rfl) ?_
 refine Za (v := .bool (decide (k = 7))) rfl (Pu.assign rfl) ?_
 refine Zb ?_
 refine Zl (b := decide (k = 7)) rfl (fun h7 => ?_) (fun h7 => ?_)
 ·replace h7 := dt h7
  refine Zq ?_
  refine Zl (b := decide (k = 7)) rfl (fun _ => ?_) (fun h8 => absurd h7 (df h8))
  refine Zc ?_
  refine Za (v := .pointer (some ⟨b2, 0, none⟩)) rfl (Pu.idxA 0 Tryz.runUnderlying141 ty4 rfl rfl (by decide) (by decide)) ?_
  refine Zd rfl (Zi 0 (vs := [.bool true]) (l := [.bool true, .bool false, .bool false]) ty4 rfl rfl rfl rfl rfl (Zp rfl Zz) rfl ?_)
  refine Zb ?_
  refine Zg (Zc ?_)
  refine Zd rfl (Zj ty141 rfl (At.bx 0 rfl) rfl ?_)
  refine Zd rfl (Zi 1 (vs := [.bool true, .bool false, .bool false]) (l := [.bool true, .bool false, .bool false]) ty141 rfl rfl rfl rfl rfl (Zp rfl (Zp rfl (Zp rfl Zz))) rfl ?_)
  refine Zb ?_
  refine Zo ?_
  refine ⟨.agg ⟨[.bool true, .bool false, .bool false]⟩, [], Ret.one rfl (RV.cell ty141 rfl (At.bx 1 rfl) rfl), Sub.nil, ?_⟩
  exact ⟨by simp_all [fN, fR, fC], rfl⟩
 replace h7 := df h7
 refine Zc ?_
 refine Za (v := .bool (decide (k = 10))) rfl (Pu.eql rfl rfl) ?_
 refine Za (v := .bool (decide (k = 10))) rfl (Pu.assign rfl) ?_
 refine Zb ?_
 refine Zl (b := decide (k = 10)) rfl (fun h9 => ?_) (fun h9 => ?_)
 ·replace h9 := dt h9
  refine Zc ?_
  refine Za (v := .pointer (some ⟨b2, 0, none⟩)) rfl (Pu.idxA 0 Tryz.runUnderlying141 ty4 rfl rfl (by decide) (by decide)) ?_
  refine Zd rfl (Zi 0 (vs := [.bool true]) (l := [.bool true, .bool false, .bool false]) ty4 rfl rfl rfl rfl rfl (Zp rfl Zz) rfl ?_)
  refine Zb ?_
  refine Zg (Zc ?_)
  refine Zd rfl (Zj ty141 rfl (At.bx 0 rfl) rfl ?_)
  refine Zd rfl (Zi 1 (vs := [.bool true, .bool false, .bool false]) (l := [.bool true, .bool false, .bool false]) ty141 rfl rfl rfl rfl rfl (Zp rfl (Zp rfl (Zp rfl Zz))) rfl ?_)
  refine Zb ?_
  refine Zo ?_
  refine ⟨.agg ⟨[.bool true, .bool false, .bool false]⟩, [], Ret.one rfl (RV.cell ty141 rfl (At.bx 1 rfl) rfl), Sub.nil, ?_⟩
  exact ⟨by simp_all [fN, fR, fC], rfl⟩
 replace h9 := df h9
 refine Zg ?_
 refine Zg (Zc ?_)
 refine Za (v := .bool (decide (k = 8))) rfl (Pu.eql rfl rfl) ?_
 refine Za (v := .bool (decide (k = 8))) rfl (Pu.assign rfl) ?_
 refine Zb ?_
 refine Zl (b := decide (k = 8)) rfl (fun h10 => ?_) (fun h10 => ?_)
 ·replace h10 := dt h10
  refine Zq ?_
  refine Zl (b := decide (k = 8)) rfl (fun _ => ?_) (fun h11 => absurd h10 (df h11))
  refine Zc ?_
  refine Za (v := .pointer (some ⟨b2, 0, none⟩)) rfl (Pu.idxA 0 Tryz.runUnderlying141 ty4 rfl rfl (by decide) (by decide)) ?_
  refine Zd rfl (Zi 0 (vs := [.bool true]) (l := [.bool true, .bool false, .bool false]) ty4 rfl rfl rfl rfl rfl (Zp rfl Zz) rfl ?_)
  refine Za (v := .pointer (some ⟨b2, 1, none⟩)) rfl (Pu.idxA 1 Tryz.runUnderlying141 ty4 rfl rfl (by decide) (by decide)) ?_
  refine Zd rfl (Zi 0 (vs := [.bool true]) (l := [.bool true, .bool true, .bool false]) ty4 rfl rfl rfl rfl rfl (Zp rfl Zz) rfl ?_)
  refine Zb ?_
  refine Zg (Zc ?_)
  refine Zd rfl (Zj ty141 rfl (At.bx 0 rfl) rfl ?_)
  refine Zd rfl (Zi 1 (vs := [.bool true, .bool true, .bool false]) (l := [.bool true, .bool true, .bool false]) ty141 rfl rfl rfl rfl rfl (Zp rfl (Zp rfl (Zp rfl Zz))) rfl ?_)
  refine Zb ?_
  refine Zo ?_
  refine ⟨.agg ⟨[.bool true, .bool true, .bool false]⟩, [], Ret.one rfl (RV.cell ty141 rfl (At.bx 1 rfl) rfl), Sub.nil, ?_⟩
  exact ⟨by simp_all [fN, fR, fC], rfl⟩
 replace h10 := df h10
 refine Zc ?_
 refine Za (v := .bool (decide (k = 11))) rfl (Pu.eql rfl rfl) ?_
 refine Za (v := .bool (decide (k = 11))) rfl (Pu.assign rfl) ?_
 refine Zb ?_
 refine Zl (b := decide (k = 11)) rfl (fun h12 => ?_) (fun h12 => ?_)
 ·replace h12 := dt h12
  refine Zc ?_
  refine Za (v := .pointer (some ⟨b2, 0, none⟩)) rfl (Pu.idxA 0 Tryz.runUnderlying141 ty4 rfl rfl (by decide) (by decide)) ?_
  refine Zd rfl (Zi 0 (vs := [.bool true]) (l := [.bool true, .bool false, .bool false]) ty4 rfl rfl rfl rfl rfl (Zp rfl Zz) rfl ?_)
  refine Za (v := .pointer (some ⟨b2, 1, none⟩)) rfl (Pu.idxA 1 Tryz.runUnderlying141 ty4 rfl rfl (by decide) (by decide)) ?_
  refine Zd rfl (Zi 0 (vs := [.bool true]) (l := [.bool true, .bool true, .bool false]) ty4 rfl rfl rfl rfl rfl (Zp rfl Zz) rfl ?_)
  refine Zb ?_
  refine Zg (Zc ?_)
  refine Zd rfl (Zj ty141 rfl (At.bx 0 rfl) rfl ?_)
  refine Zd rfl (Zi 1 (vs := [.bool true, .bool true, .bool false]) (l := [.bool true, .bool true, .bool false]) ty141 rfl rfl rfl rfl rfl (Zp rfl (Zp rfl (Zp rfl Zz))) rfl ?_)
  refine Zb ?_
  refine Zo ?_
  refine ⟨.agg ⟨[.bool true, .bool true, .bool false]⟩, [], Ret.one rfl (RV.cell ty141 rfl (At.bx 1 rfl) rfl), Sub.nil, ?_⟩
  exact ⟨by simp_all [fN, fR, fC], rfl⟩
 replace h12 := df h12
 refine Zg ?_
 refine Zg (Zc ?_)
 refine Za (v := .bool (decide (k = 6))) rfl (Pu.eql rfl rfl) ?_
 refine Za (v := .bool (decide (k = 6))) rfl (Pu.assign rfl) ?_
 refine Zb ?_
 refine Zl (b := decide (k = 6)) rfl (fun h13 => ?_) (fun h13 => ?_)
 ·replace h13 := dt h13
  refine Zq ?_
  refine Zl (b := decide (k = 6)) rfl (fun _ => ?_) (fun h14 => absurd h13 (df h14))
  refine Zc ?_
  refine Za (v := .pointer (some ⟨b2, 1, none⟩)) rfl (Pu.idxA 1 Tryz.runUnderlying141 ty4 rfl rfl (by decide) (by decide)) ?_
  refine Zd rfl (Zi 0 (vs := [.bool true]) (l := [.bool false, .bool true, .bool false]) ty4 rfl rfl rfl rfl rfl (Zp rfl Zz) rfl ?_)
  refine Zb ?_
  refine Zg (Zc ?_)
  refine Zd rfl (Zj ty141 rfl (At.bx 0 rfl) rfl ?_)
  refine Zd rfl (Zi 1 (vs := [.bool false, .bool true, .bool false]) (l := [.bool false, .bool true, .bool false]) ty141 rfl rfl rfl rfl rfl (Zp rfl (Zp rfl (Zp rfl Zz))) rfl ?_)
  refine Zb ?_
  refine Zo ?_
  refine ⟨.agg ⟨[.bool false, .bool true, .bool false]⟩, [], Ret.one rfl (RV.cell ty141 rfl (At.bx 1 rfl) rfl), Sub.nil, ?_⟩
  exact ⟨by simp_all [fN, fR, fC], rfl⟩
 replace h13 := df h13
 refine Zc ?_
 refine Za (v := .bool (decide (k = 12))) rfl (Pu.eql rfl rfl) ?_
 refine Za (v := .bool (decide (k = 12))) rfl (Pu.assign rfl) ?_
 refine Zb ?_
 refine Zl (b := decide (k = 12)) rfl (fun h15 => ?_) (fun h15 => ?_)
 ·replace h15 := dt h15
  refine Zc ?_
  refine Za (v := .pointer (some ⟨b2, 1, none⟩)) rfl (Pu.idxA 1 Tryz.runUnderlying141 ty4 rfl rfl (by decide) (by decide)) ?_
  refine Zd rfl (Zi 0 (vs := [.bool true]) (l := [.bool false, .bool true, .bool false]) ty4 rfl rfl rfl rfl rfl (Zp rfl Zz) rfl ?_)
  refine Zb ?_
  refine Zg (Zc ?_)
  refine Zd rfl (Zj ty141 rfl (At.bx 0 rfl) rfl ?_)
  refine Zd rfl (Zi 1 (vs := [.bool false, .bool true, .bool false]) (l := [.bool false, .bool true, .bool false]) ty141 rfl rfl rfl rfl rfl (Zp rfl (Zp rfl (Zp rfl Zz))) rfl ?_)
  refine Zb ?_
  refine Zo ?_
  refine ⟨.agg ⟨[.bool false, .bool true, .bool false]⟩, [], Ret.one rfl (RV.cell ty141 rfl (At.bx 1 rfl) rfl), Sub.nil, ?_⟩
  exact ⟨by simp_all [fN, fR, fC], rfl⟩
 replace h15 := df h15
 refine Zg (Zc ?_)
 refine Za (v := .bool (decide (k = 9))) rfl (Pu.eql rfl rfl) ?_
 refine Za (v := .bool (decide (k = 9))) rfl (Pu.assign rfl) ?_
 refine Zb ?_
 refine Zl (b := decide (k = 9)) rfl (fun h16 => ?_) (fun h16 => ?_)
 ·replace h16 := dt h16
  refine Zc ?_
  refine Za (v := .pointer (some ⟨b2, 2, none⟩)) rfl (Pu.idxA 2 Tryz.runUnderlying141 ty4 rfl rfl (by decide) (by decide)) ?_
  refine Zd rfl (Zi 0 (vs := [.bool true]) (l := [.bool false, .bool false, .bool true]) ty4 rfl rfl rfl rfl rfl (Zp rfl Zz) rfl ?_)
  refine Zb ?_
  refine Zg (Zc ?_)
  refine Zd rfl (Zj ty141 rfl (At.bx 0 rfl) rfl ?_)
  refine Zd rfl (Zi 1 (vs := [.bool false, .bool false, .bool true]) (l := [.bool false, .bool false, .bool true]) ty141 rfl rfl rfl rfl rfl (Zp rfl (Zp rfl (Zp rfl Zz))) rfl ?_)
  refine Zb ?_
  refine Zo ?_
  refine ⟨.agg ⟨[.bool false, .bool false, .bool true]⟩, [], Ret.one rfl (RV.cell ty141 rfl (At.bx 1 rfl) rfl), Sub.nil, ?_⟩
  exact ⟨by simp_all [fN, fR, fC], rfl⟩
 replace h16 := df h16
 refine Zq ?_
 refine Zg (Zc ?_)
 refine Zd rfl (Zj ty141 rfl (At.bx 0 rfl) rfl ?_)
 refine Zd rfl (Zi 1 (vs := [.bool false, .bool false, .bool false]) (l := [.bool false, .bool false, .bool false]) ty141 rfl rfl rfl rfl rfl (Zp rfl (Zp rfl (Zp rfl Zz))) rfl ?_)
 refine Zb ?_
 refine Zo ?_
 refine ⟨.agg ⟨[.bool false, .bool false, .bool false]⟩, [], Ret.one rfl (RV.cell ty141 rfl (At.bx 1 rfl) rfl), Sub.nil, ?_⟩
 exact ⟨by simp_all [fN, fR, fC], rfl⟩
theorem patternFields_ct (k : Int) (H : Heap) : CT Tryz.prog 118 ⟨[.int .i64 k]⟩ [] H (fun v N => v = .agg ⟨[.bool (pfN k), .bool (pfR k), .bool false]⟩ ∧ N = []) := by
 refine Zr Tryz.func118 rfl rfl ?_
 refine Zg (Zc ?_)
 refine Zd rfl (Zn (l := [.bool false, .bool false, .bool false]) Tryz.zeroValue141 rfl fun b1 => ?_)
 refine Zb ?_
 refine Zg ?_
 refine Zg (Zc ?_)
 refine Za (v := .int .i64 k) rfl (Pu.move rfl) ?_
 refine Zb ?_
 refine Zs ?_
 refine Zg (Zc ?_)
 refine Za (v := .bool (decide (k = 2))) rfl (Pu.eql rfl rfl) ?_
 refine Za (v := .bool (decide (k = 2))) rfl (Pu.assign rfl) ?_
 refine Zb ?_
 refine Zl (b := decide (k = 2)) rfl (fun h2 => ?_) (fun h2 => ?_)
 ·replace h2 := dt h2
  refine Zg (Zc ?_)
  refine Za (v := .agg ⟨[.bool true, .bool false, .bool false]⟩) rfl (Pu.build (pv := [(0, .bool true), (1, .bool false), (2, .bool false)]) (l := [.bool true, .bool false, .bool false]) rfl (bld141_0_1_2 _ _ _)) ?_
  refine Zd rfl (Zi 0 (vs := [.bool true, .bool false, .bool false]) (l := [.bool true, .bool false, .bool false]) ty141 rfl rfl rfl rfl rfl (Zp rfl (Zp rfl (Zp rfl Zz))) rfl ?_)
  refine Zb ?_
  refine Zo ?_
  refine ⟨.agg ⟨[.bool true, .bool false, .bool false]⟩, [], Ret.one rfl (RV.cell ty141 rfl (At.bx 0 rfl) rfl), Sub.nil, ?_⟩
  exact ⟨by simp_all [pfN, pfR], rfl⟩
 replace h2 := df h2
 refine Zg (Zc ?_)
 refine Za (v := .bool (decide (k = 3))) rfl (Pu.eql rfl rfl) ?_
 refine Za (v := .bool (decide (k = 3))) rfl (Pu.assign rfl) ?_
 refine Zb ?_
 refine Zl (b := decide (k = 3)) rfl (fun h3 => ?_) (fun h3 => ?_)
 ·replace h3 := dt h3
  refine Zg (Zc ?_)
  refine Za (v := .agg ⟨[.bool true, .bool true, .bool false]⟩) rfl (Pu.build (pv := [(0, .bool true), (1, .bool true), (2, .bool false)]) (l := [.bool true, .bool true, .bool false]) rfl (bld141_0_1_2 _ _ _)) ?_
  refine Zd rfl (Zi 0 (vs := [.bool true, .bool true, .bool false]) (l := [.bool true, .bool true, .bool false]) ty141 rfl rfl rfl rfl rfl (Zp rfl (Zp rfl (Zp rfl Zz))) rfl ?_)
  refine Zb ?_
  refine Zo ?_
  refine ⟨.agg ⟨[.bool true, .bool true, .bool false]⟩, [], Ret.one rfl (RV.cell ty141 rfl (At.bx 0 rfl) rfl), Sub.nil, ?_⟩
  exact ⟨by simp_all [pfN, pfR], rfl⟩
 replace h3 := df h3
 refine Zq ?_
 refine Zg (Zc ?_)
 refine Za (v := .agg ⟨[.bool false, .bool false, .bool false]⟩) rfl (Pu.build (pv := []) (l := [.bool false, .bool false, .bool false]) rfl bld141_) ?_
 refine Zd rfl (Zi 0 (vs := [.bool false, .bool false, .bool false]) (l := [.bool false, .bool false, .bool false]) ty141 rfl rfl rfl rfl rfl (Zp rfl (Zp rfl (Zp rfl Zz))) rfl ?_)
 refine Zb ?_
 refine Zo ?_
 refine ⟨.agg ⟨[.bool false, .bool false, .bool false]⟩, [], Ret.one rfl (RV.cell ty141 rfl (At.bx 0 rfl) rfl), Sub.nil, ?_⟩
 exact ⟨by simp_all [pfN, pfR], rfl⟩
theorem clash_ct (a b c : Bool) (n : Int) (r : Sm) (m : Int) (H : Heap) : CT Tryz.prog 109 ⟨[.agg ⟨[.bool a, .bool b, .bool c]⟩, .int .i64 n, .agg ⟨sC r⟩, .int .i64 m]⟩ [] H (fun v N => v = .bool (clashB a b c n r m) ∧ N = []) := by
 refine Zr Tryz.func109 rfl rfl ?_
 refine Zg (Zc ?_)
 refine Zd rfl (Zx (l := [.bool a, .bool b, .bool c]) rfl rfl fun b1 => ?_)
 refine Zd rfl (Zx (l := sC r) rfl rfl fun b2 => ?_)
 refine Za (v := .bool false) rfl (Pu.assign rfl) ?_
 refine Zb ?_
 refine Zg (Zc ?_)
 refine Za (v := .int .i64 n) rfl (Pu.move rfl) ?_
 refine Za (v := .bool (!decide (n = 0))) rfl (Pu.neq rfl rfl) ?_
 refine Zd rfl (Zj ty23 rfl (At.bx 0 rfl) (Zy rfl) ?_)
 refine Za (v := .agg ⟨sC zS⟩) rfl (Pu.build (pv := []) (l := sC zS) rfl bld23_) ?_
 refine Za (v := .bool (!decide (r = zS))) rfl (neqS rfl rfl) ?_
 refine Za (v := .int .i64 m) rfl (Pu.move rfl) ?_
 refine Za (v := .bool (decide (0 < m))) rfl (Pu.gtr rfl rfl) ?_
 refine Za (v := .agg ⟨[.bool (!decide (n = 0)), .bool (!decide (r = zS)), .bool (decide (0 < m))]⟩) rfl (Pu.build (pv := [(0, .bool (!decide (n = 0))), (1, .bool (!decide (r = zS))), (2, .bool (decide (0 < m)))]) (l := [.bool (!decide (n = 0)), .bool (!decide (r = zS)), .bool (decide (0 < m))]) rfl (bld141_0_1_2 _ _ _)) ?_
 refine Zd rfl (Zn (l := [.bool false, .bool false, .bool false]) Tryz.zeroValue141 rfl fun b3 => ?_)
 refine Zd rfl (Zi 0 (vs := [.bool (!decide (n = 0)), .bool (!decide (r = zS)), .bool (decide (0 < m))]) (l := [.bool (!decide (n = 0)), .bool (!decide (r = zS)), .bool (decide (0 < m))]) ty141 rfl rfl rfl rfl rfl (Zp rfl (Zp rfl (Zp rfl Zz))) rfl ?_)
 refine Zb ?_
 refine Zg (Zc ?_)
 refine Zd rfl (Zj ty141 rfl (At.bx 0 rfl) rfl ?_)
 refine Zd rfl (Zn (l := [.bool false, .bool false, .bool false]) Tryz.zeroValue141 rfl fun b4 => ?_)
 refine Zd rfl (Zi 0 (vs := [.bool (!decide (n = 0)), .bool (!decide (r = zS)), .bool (decide (0 < m))]) (l := [.bool (!decide (n = 0)), .bool (!decide (r = zS)), .bool (decide (0 < m))]) ty141 rfl rfl rfl rfl rfl (Zp rfl (Zp rfl (Zp rfl Zz))) rfl ?_)
 refine Zb ?_
 refine Zg ?_
 refine Zg (Zc ?_)
 refine Za (v := .int .i64 0) rfl (Pu.move rfl) ?_
 refine Zb ?_
 refine Zs ?_
 refine J_rounds 4 ?_
 refine JR_succ ?_
 refine Zg (Zc ?_)
 refine Za (v := .bool true) rfl (show Pu _ _ _ (.bool (decide ((0 : Int) < 3))) from Pu.lss rfl rfl) ?_
 refine Zb ?_
 refine Zg ?_
 refine Zl (b := true) rfl (fun _ => ?_) (fun h => absurd h (by simp))
 refine Zq ?_
 refine Zg ?_
 refine Zs ?_
 refine Zg (Zc ?_)
 refine Za (v := .int .i64 0) rfl (Pu.move rfl) ?_
 refine Za (v := .int .i64 0) rfl (Pu.assign rfl) ?_
 refine Zb ?_
 refine J_weak (N := fun ρ M => ρ 4 = .pointer (some ⟨b1, 0, none⟩) ∧ ρ 8 = .bool false ∧ ρ 9 = .pointer (some ⟨b3, 0, none⟩) ∧ ρ 10 = .pointer (some ⟨b4, 0, none⟩) ∧ ρ 21 = .int .i64 0 ∧ M = [[(b4, .cells ⟨[.bool ((!decide (n = 0)) && a), .bool (!decide (r = zS)), .bool (decide (0 < m))]⟩ 141 (0, 0))], [(b3, .cells ⟨[.bool (!decide (n = 0)), .bool (!decide (r = zS)), .bool (decide (0 < m))]⟩ 141 (0, 0))], [(b2, .cells ⟨sC r⟩ 23 (0, 0))], [(b1, .cells ⟨[.bool a, .bool b, .bool c]⟩ 141 (0, 0))]]) ?_ ?_
 ·refine Zc ?_
  refine Za (v := .int .i64 0) rfl (Pu.move rfl) ?_
  refine Za (v := .int .i64 0) rfl (Pu.move rfl) ?_
  refine Za (v := .pointer (some ⟨b3, 0, none⟩)) rfl (Pu.idxA 0 Tryz.runUnderlying141 ty4 rfl rfl (by decide) (by decide)) ?_
  refine Zd rfl (Zh ty4 rfl (At.bx 1 rfl) rfl ?_)
  refine Za (v := .bool (!decide (n = 0))) rfl (Pu.move rfl) ?_
  cases h5 : (!decide (n = 0)) with
  | true =>
   replace h5 := nt h5
   replace h5 := df h5
   refine Za (v := .int .i64 0) rfl (Pu.move rfl) ?_
   refine Za (v := .pointer (some ⟨b1, 0, none⟩)) rfl (Pu.idxA 0 Tryz.runUnderlying141 ty4 rfl rfl (by decide) (by decide)) ?_
   refine Zd rfl (Zh ty4 rfl (At.bx 3 rfl) rfl ?_)
   refine Za (v := .bool a) rfl (Pu.pickT rfl rfl) ?_
   refine Za (v := .pointer (some ⟨b4, 0, none⟩)) rfl (Pu.idxA 0 Tryz.runUnderlying141 ty4 rfl rfl (by decide) (by decide)) ?_
   refine Zd rfl (Zi 0 (vs := [.bool a]) (l := [.bool a, .bool (!decide (r = zS)), .bool (decide (0 < m))]) ty4 rfl rfl rfl rfl rfl (Zp rfl Zz) rfl ?_)
   refine Zb ?_
   first | exact ⟨rfl, rfl, rfl, rfl, rfl, rfl⟩ | (exfalso; omega)
  | false =>
   replace h5 := nf h5
   replace h5 := dt h5
   refine Zf rfl ?_
   refine Zf rfl ?_
   refine Zf rfl ?_
   refine Za (v := .bool false) rfl (Pu.pickF rfl rfl) ?_
   refine Za (v := .pointer (some ⟨b4, 0, none⟩)) rfl (Pu.idxA 0 Tryz.runUnderlying141 ty4 rfl rfl (by decide) (by decide)) ?_
   refine Zd rfl (Zi 0 (vs := [.bool false]) (l := [.bool false, .bool (!decide (r = zS)), .bool (decide (0 < m))]) ty4 rfl rfl rfl rfl rfl (Zp rfl Zz) rfl ?_)
   refine Zb ?_
   first | exact ⟨rfl, rfl, rfl, rfl, rfl, rfl⟩ | (exfalso; omega)
 rintro ρ6 _ ⟨e7, e8, e9, e10, e11, rfl⟩
 obtain ⟨ρ12, rfl⟩ := Ze (uc e7 (uc e8 (uc e9 (uc e10 (uc e11 un)))))
 clear e7 e8 e9 e10 e11
 refine Zc ?_
 refine Za (v := .int .i64 1) rfl (Pu.arith rfl rfl rfl) ?_
 refine Za (v := .int .i64 1) rfl (Pu.move rfl) ?_
 refine Zb ?_
 refine JR_succ ?_
 refine Zg (Zc ?_)
 refine Za (v := .bool true) rfl (show Pu _ _ _ (.bool (decide ((1 : Int) < 3))) from Pu.lss rfl rfl) ?_
 refine Zb ?_
 refine Zg ?_
 refine Zl (b := true) rfl (fun _ => ?_) (fun h => absurd h (by simp))
 refine Zq ?_
 refine Zg ?_
 refine Zs ?_
 refine Zg (Zc ?_)
 refine Za (v := .int .i64 1) rfl (Pu.move rfl) ?_
 refine Za (v := .int .i64 1) rfl (Pu.assign rfl) ?_
 refine Zb ?_
 refine J_weak (N := fun ρ M => ρ 4 = .pointer (some ⟨b1, 0, none⟩) ∧ ρ 8 = .bool false ∧ ρ 9 = .pointer (some ⟨b3, 0, none⟩) ∧ ρ 10 = .pointer (some ⟨b4, 0, none⟩) ∧ ρ 21 = .int .i64 1 ∧ M = [[(b4, .cells ⟨[.bool ((!decide (n = 0)) && a), .bool ((!decide (r = zS)) && b), .bool (decide (0 < m))]⟩ 141 (0, 0))], [(b3, .cells ⟨[.bool (!decide (n = 0)), .bool (!decide (r = zS)), .bool (decide (0 < m))]⟩ 141 (0, 0))], [(b2, .cells ⟨sC r⟩ 23 (0, 0))], [(b1, .cells ⟨[.bool a, .bool b, .bool c]⟩ 141 (0, 0))]]) ?_ ?_
 ·refine Zc ?_
  refine Za (v := .int .i64 1) rfl (Pu.move rfl) ?_
  refine Za (v := .int .i64 1) rfl (Pu.move rfl) ?_
  refine Za (v := .pointer (some ⟨b3, 1, none⟩)) rfl (Pu.idxA 1 Tryz.runUnderlying141 ty4 rfl rfl (by decide) (by decide)) ?_
  refine Zd rfl (Zh ty4 rfl (At.bx 1 rfl) rfl ?_)
  refine Za (v := .bool (!decide (r = zS))) rfl (Pu.move rfl) ?_
  cases h13 : (!decide (r = zS)) with
  | true =>
   replace h13 := nt h13
   replace h13 := df h13
   refine Za (v := .int .i64 1) rfl (Pu.move rfl) ?_
   refine Za (v := .pointer (some ⟨b1, 1, none⟩)) rfl (Pu.idxA 1 Tryz.runUnderlying141 ty4 rfl rfl (by decide) (by decide)) ?_
   refine Zd rfl (Zh ty4 rfl (At.bx 3 rfl) rfl ?_)
   refine Za (v := .bool b) rfl (Pu.pickT rfl rfl) ?_
   refine Za (v := .pointer (some ⟨b4, 1, none⟩)) rfl (Pu.idxA 1 Tryz.runUnderlying141 ty4 rfl rfl (by decide) (by decide)) ?_
   refine Zd rfl (Zi 0 (vs := [.bool b]) (l := [.bool ((!decide (n = 0)) && a), .bool b, .bool (decide (0 < m))]) ty4 rfl rfl rfl rfl rfl (Zp rfl Zz) rfl ?_)
   refine Zb ?_
   first | exact ⟨rfl, rfl, rfl, rfl, rfl, rfl⟩ | (exfalso; omega)
  | false =>
   replace h13 := nf h13
   replace h13 := dt h13
   refine Zf rfl ?_
   refine Zf rfl ?_
   refine Zf rfl ?_
   refine Za (v := .bool false) rfl (Pu.pickF rfl rfl) ?_
   refine Za (v := .pointer (some ⟨b4, 1, none⟩)) rfl (Pu.idxA 1 Tryz.runUnderlying141 ty4 rfl rfl (by decide) (by decide)) ?_
   refine Zd rfl (Zi 0 (vs := [.bool false]) (l := [.bool ((!decide (n = 0)) && a), .bool false, .bool (decide (0 < m))]) ty4 rfl rfl rfl rfl rfl (Zp rfl Zz) rfl ?_)
   refine Zb ?_
   first | exact ⟨rfl, rfl, rfl, rfl, rfl, rfl⟩ | (exfalso; omega)
 rintro ρ14 _ ⟨e15, e16, e17, e18, e19, rfl⟩
 obtain ⟨ρ20, rfl⟩ := Ze (uc e15 (uc e16 (uc e17 (uc e18 (uc e19 un)))))
 clear e15 e16 e17 e18 e19
 refine Zc ?_
 refine Za (v := .int .i64 2) rfl (Pu.arith rfl rfl rfl) ?_
 refine Za (v := .int .i64 2) rfl (Pu.move rfl) ?_
 refine Zb ?_
 refine JR_succ ?_
 refine Zg (Zc ?_)
 refine Za (v := .bool true) rfl (show Pu _ _ _ (.bool (decide ((2 : Int) < 3))) from Pu.lss rfl rfl) ?_
 refine Zb ?_
 refine Zg ?_
 refine Zl (b := true) rfl (fun _ => ?_) (fun h => absurd h (by simp))
 refine Zq ?_
 refine Zg ?_
 refine Zs ?_
 refine Zg (Zc ?_)
 refine Za (v := .int .i64 2) rfl (Pu.move rfl) ?_
 refine Za (v := .int .i64 2) rfl (Pu.assign rfl) ?_
 refine Zb ?_
 refine J_weak (N := fun ρ M => ρ 4 = .pointer (some ⟨b1, 0, none⟩) ∧ ρ 8 = .bool false ∧ ρ 9 = .pointer (some ⟨b3, 0, none⟩) ∧ ρ 10 = .pointer (some ⟨b4, 0, none⟩) ∧ ρ 21 = .int .i64 2 ∧ M = [[(b4, .cells ⟨[.bool ((!decide (n = 0)) && a), .bool ((!decide (r = zS)) && b), .bool ((decide (0 < m)) && c)]⟩ 141 (0, 0))], [(b3, .cells ⟨[.bool (!decide (n = 0)), .bool (!decide (r = zS)), .bool (decide (0 < m))]⟩ 141 (0, 0))], [(b2, .cells ⟨sC r⟩ 23 (0, 0))], [(b1, .cells ⟨[.bool a, .bool b, .bool c]⟩ 141 (0, 0))]]) ?_ ?_
 ·refine Zc ?_
  refine Za (v := .int .i64 2) rfl (Pu.move rfl) ?_
  refine Za (v := .int .i64 2) rfl (Pu.move rfl) ?_
  refine Za (v := .pointer (some ⟨b3, 2, none⟩)) rfl (Pu.idxA 2 Tryz.runUnderlying141 ty4 rfl rfl (by decide) (by decide)) ?_
  refine Zd rfl (Zh ty4 rfl (At.bx 1 rfl) rfl ?_)
  refine Za (v := .bool (decide (0 < m))) rfl (Pu.move rfl) ?_
  cases h21 : (decide (0 < m)) with
  | true =>
   replace h21 := dt h21
   refine Za (v := .int .i64 2) rfl (Pu.move rfl) ?_
   refine Za (v := .pointer (some ⟨b1, 2, none⟩)) rfl (Pu.idxA 2 Tryz.runUnderlying141 ty4 rfl rfl (by decide) (by decide)) ?_
   refine Zd rfl (Zh ty4 rfl (At.bx 3 rfl) rfl ?_)
   refine Za (v := .bool c) rfl (Pu.pickT rfl rfl) ?_
   refine Za (v := .pointer (some ⟨b4, 2, none⟩)) rfl (Pu.idxA 2 Tryz.runUnderlying141 ty4 rfl rfl (by decide) (by decide)) ?_
   refine Zd rfl (Zi 0 (vs := [.bool c]) (l := [.bool ((!decide (n = 0)) && a), .bool ((!decide (r = zS)) && b), .bool c]) ty4 rfl rfl rfl rfl rfl (Zp rfl Zz) rfl ?_)
   refine Zb ?_
   first | exact ⟨rfl, rfl, rfl, rfl, rfl, rfl⟩ | (exfalso; omega)
  | false =>
   replace h21 := df h21
   refine Zf rfl ?_
   refine Zf rfl ?_
   refine Zf rfl ?_
   refine Za (v := .bool false) rfl (Pu.pickF rfl rfl) ?_
   refine Za (v := .pointer (some ⟨b4, 2, none⟩)) rfl (Pu.idxA 2 Tryz.runUnderlying141 ty4 rfl rfl (by decide) (by decide)) ?_
   refine Zd rfl (Zi 0 (vs := [.bool false]) (l := [.bool ((!decide (n = 0)) && a), .bool ((!decide (r = zS)) && b), .bool false]) ty4 rfl rfl rfl rfl rfl (Zp rfl Zz) rfl ?_)
   refine Zb ?_
   first | exact ⟨rfl, rfl, rfl, rfl, rfl, rfl⟩ | (exfalso; omega)
 rintro ρ22 _ ⟨e23, e24, e25, e26, e27, rfl⟩
 obtain ⟨ρ28, rfl⟩ := Ze (uc e23 (uc e24 (uc e25 (uc e26 (uc e27 un)))))
 clear e23 e24 e25 e26 e27
 refine Zc ?_
 refine Za (v := .int .i64 3) rfl (Pu.arith rfl rfl rfl) ?_
 refine Za (v := .int .i64 3) rfl (Pu.move rfl) ?_
 refine Zb ?_
 refine JR_succ ?_
 refine Zg (Zc ?_)
 refine Za (v := .bool false) rfl (show Pu _ _ _ (.bool (decide ((3 : Int) < 3))) from Pu.lss rfl rfl) ?_
 refine Zb ?_
 refine Zg ?_
 refine Zl (b := false) rfl (fun h => absurd h (by simp)) (fun _ => ?_)
 refine J_exit _ rfl ?_
 refine Zg (Zc ?_)
 refine Zd rfl (Zj ty141 rfl (At.bx 0 rfl) rfl ?_)
 refine Zd rfl (Zj ty141 rfl (At.bx 1 rfl) rfl ?_)
 refine Za (v := .bool (!((((!decide (n = 0)) && a) == (!decide (n = 0))) && ((((!decide (r = zS)) && b) == (!decide (r = zS))) && (((decide (0 < m)) && c) == (decide (0 < m))))))) rfl (neqB3 rfl rfl) ?_
 refine Za (v := .bool (!((((!decide (n = 0)) && a) == (!decide (n = 0))) && ((((!decide (r = zS)) && b) == (!decide (r = zS))) && (((decide (0 < m)) && c) == (decide (0 < m))))))) rfl (Pu.assign rfl) ?_
 refine Zb ?_
 refine Zo ?_
 refine ⟨.bool (!((((!decide (n = 0)) && a) == (!decide (n = 0))) && ((((!decide (r = zS)) && b) == (!decide (r = zS))) && (((decide (0 < m)) && c) == (decide (0 < m)))))), [], Ret.one rfl (RV.tmp rfl), Sub.nil, ?_⟩
 exact ⟨by unfold clashB; congr 1; cases a <;> cases b <;> cases c <;> simp, rfl⟩
theorem kidsT_ct (k n : Int) (H : Heap) : CT Tryz.prog 111 ⟨[.int .i64 k, .int .i64 n]⟩ [] H (fun v N => v = .bool (kidsB k n) ∧ N = []) := by
 refine Zr Tryz.func111 rfl rfl ?_
 refine Zg (Zc ?_)
 refine Za (v := .bool false) rfl (Pu.assign rfl) ?_
 refine Zb ?_
 refine Zg ?_
 refine Zg (Zc ?_)
 refine Za (v := .int .i64 k) rfl (Pu.move rfl) ?_
 refine Zb ?_
 refine Zs ?_
 refine Zg ?_
 refine Zg (Zc ?_)
 refine Za (v := .bool (decide (k = 3))) rfl (Pu.eql rfl rfl) ?_
 refine Za (v := .bool (decide (k = 3))) rfl (Pu.assign rfl) ?_
 refine Zb ?_
 refine Zl (b := decide (k = 3)) rfl (fun h1 => ?_) (fun h1 => ?_)
 ·replace h1 := dt h1
  refine Zq ?_
  refine Zl (b := decide (k = 3)) rfl (fun _ => ?_) (fun h2 => absurd h1 (df h2))
  refine Zg (Zc ?_)
  refine Za (v := .int .i64 n) rfl (Pu.move rfl) ?_
  refine Za (v := .bool (decide (n = 1))) rfl (Pu.eql rfl rfl) ?_
  refine Za (v := .bool (decide (n = 1))) rfl (Pu.assign rfl) ?_
  refine Zb ?_
  refine Zo ?_
  refine ⟨.bool (decide (n = 1)), [], Ret.one rfl (RV.tmp rfl), Sub.nil, ?_⟩
  exact ⟨by simp_all [kidsB], rfl⟩
 replace h1 := df h1
 refine Zg (Zc ?_)
 refine Za (v := .bool (decide (k = 9))) rfl (Pu.eql rfl rfl) ?_
 refine Za (v := .bool (decide (k = 9))) rfl (Pu.assign rfl) ?_
 refine Zb ?_
 refine Zl (b := decide (k = 9)) rfl (fun h3 => ?_) (fun h3 => ?_)
 ·replace h3 := dt h3
  refine Zq ?_
  refine Zl (b := decide (k = 9)) rfl (fun _ => ?_) (fun h4 => absurd h3 (df h4))
  refine Zg (Zc ?_)
  refine Za (v := .int .i64 n) rfl (Pu.move rfl) ?_
  refine Za (v := .bool (decide (n = 1))) rfl (Pu.eql rfl rfl) ?_
  refine Za (v := .bool (decide (n = 1))) rfl (Pu.assign rfl) ?_
  refine Zb ?_
  refine Zo ?_
  refine ⟨.bool (decide (n = 1)), [], Ret.one rfl (RV.tmp rfl), Sub.nil, ?_⟩
  exact ⟨by simp_all [kidsB], rfl⟩
 replace h3 := df h3
 refine Zc ?_
 refine Za (v := .bool (decide (k = 11))) rfl (Pu.eql rfl rfl) ?_
 refine Za (v := .bool (decide (k = 11))) rfl (Pu.assign rfl) ?_
 refine Zb ?_
 refine Zl (b := decide (k = 11)) rfl (fun h5 => ?_) (fun h5 => ?_)
 ·replace h5 := dt h5
  refine Zg (Zc ?_)
  refine Za (v := .int .i64 n) rfl (Pu.move rfl) ?_
  refine Za (v := .bool (decide (n = 1))) rfl (Pu.eql rfl rfl) ?_
  refine Za (v := .bool (decide (n = 1))) rfl (Pu.assign rfl) ?_
  refine Zb ?_
  refine Zo ?_
  refine ⟨.bool (decide (n = 1)), [], Ret.one rfl (RV.tmp rfl), Sub.nil, ?_⟩
  exact ⟨by simp_all [kidsB], rfl⟩
 replace h5 := df h5
 refine Zg ?_
 refine Zg (Zc ?_)
 refine Za (v := .bool (decide (k = 4))) rfl (Pu.eql rfl rfl) ?_
 refine Za (v := .bool (decide (k = 4))) rfl (Pu.assign rfl) ?_
 refine Zb ?_
 refine Zl (b := decide (k = 4)) rfl (fun h6 => ?_) (fun h6 => ?_)
 ·replace h6 := dt h6
  refine Zq ?_
  refine Zl (b := decide (k = 4)) rfl (fun _ => ?_) (fun h7 => absurd h6 (df h7))
  refine Zg (Zc ?_)
  refine Za (v := .int .i64 n) rfl (Pu.move rfl) ?_
  refine Za (v := .bool (decide (n = 2))) rfl (Pu.eql rfl rfl) ?_
  refine Za (v := .bool (decide (n = 2))) rfl (Pu.assign rfl) ?_
  refine Zb ?_
  refine Zo ?_
  refine ⟨.bool (decide (n = 2)), [], Ret.one rfl (RV.tmp rfl), Sub.nil, ?_⟩
  exact ⟨by simp_all [kidsB], rfl⟩
 replace h6 := df h6
 refine Zg (Zc ?_)
 refine Za (v := .bool (decide (k = 5))) rfl (Pu.eql rfl rfl) ?_
 refine Za (v := .bool (decide (k = 5))) rfl (Pu.assign rfl) ?_
 refine Zb ?_
 refine Zl (b := decide (k = 5)) rfl (fun h8 => ?_) (fun h8 => ?_)
 ·replace h8 := dt h8
  refine Zq ?_
  refine Zl (b := decide (k = 5)) rfl (fun _ => ?_) (fun h9 => absurd h8 (df h9))
  refine Zg (Zc ?_)
  refine Za (v := .int .i64 n) rfl (Pu.move rfl) ?_
  refine Za (v := .bool (decide (n = 2))) rfl (Pu.eql rfl rfl) ?_
  refine Za (v := .bool (decide (n = 2))) rfl (Pu.assign rfl) ?_
  refine Zb ?_
  refine Zo ?_
  refine ⟨.bool (decide (n = 2)), [], Ret.one rfl (RV.tmp rfl), Sub.nil, ?_⟩
  exact ⟨by simp_all [kidsB], rfl⟩
 replace h8 := df h8
 refine Zc ?_
 refine Za (v := .bool (decide (k = 10))) rfl (Pu.eql rfl rfl) ?_
 refine Za (v := .bool (decide (k = 10))) rfl (Pu.assign rfl) ?_
 refine Zb ?_
 refine Zl (b := decide (k = 10)) rfl (fun h10 => ?_) (fun h10 => ?_)
 ·replace h10 := dt h10
  refine Zg (Zc ?_)
  refine Za (v := .int .i64 n) rfl (Pu.move rfl) ?_
  refine Za (v := .bool (decide (n = 2))) rfl (Pu.eql rfl rfl) ?_
  refine Za (v := .bool (decide (n = 2))) rfl (Pu.assign rfl) ?_
  refine Zb ?_
  refine Zo ?_
  refine ⟨.bool (decide (n = 2)), [], Ret.one rfl (RV.tmp rfl), Sub.nil, ?_⟩
  exact ⟨by simp_all [kidsB], rfl⟩
 replace h10 := df h10
 refine Zg (Zc ?_)
 refine Za (v := .bool (decide (k = 8))) rfl (Pu.eql rfl rfl) ?_
 refine Za (v := .bool (decide (k = 8))) rfl (Pu.assign rfl) ?_
 refine Zb ?_
 refine Zl (b := decide (k = 8)) rfl (fun h11 => ?_) (fun h11 => ?_)
 ·replace h11 := dt h11
  refine Zg (Zc ?_)
  refine Za (v := .int .i64 n) rfl (Pu.move rfl) ?_
  refine Za (v := .bool (decide (n ≤ 4))) rfl (Pu.leq rfl rfl) ?_
  refine Za (v := .bool (decide (n ≤ 4))) rfl (Pu.assign rfl) ?_
  refine Zb ?_
  refine Zo ?_
  refine ⟨.bool (decide (n ≤ 4)), [], Ret.one rfl (RV.tmp rfl), Sub.nil, ?_⟩
  exact ⟨by simp_all [kidsB], rfl⟩
 replace h11 := df h11
 refine Zg (Zc ?_)
 refine Za (v := .bool (decide (k = 12))) rfl (Pu.eql rfl rfl) ?_
 refine Za (v := .bool (decide (k = 12))) rfl (Pu.assign rfl) ?_
 refine Zb ?_
 refine Zl (b := decide (k = 12)) rfl (fun h12 => ?_) (fun h12 => ?_)
 ·replace h12 := dt h12
  refine Zg (Zc ?_)
  refine Za (v := .int .i64 n) rfl (Pu.move rfl) ?_
  refine Zk rfl Tryz.call76 rfl (fun hin => off_ct _ _ _ _) rfl ?_
  rintro _ _ ⟨rfl, rfl⟩
  refine Za (v := .bool (!(decide (n < 2 ∨ 10 < n)))) rfl (Pu.not rfl) ?_
  refine Za (v := .bool (!(decide (n < 2 ∨ 10 < n)))) rfl (Pu.assign rfl) ?_
  refine Zb ?_
  refine Zo ?_
  refine ⟨.bool (!(decide (n < 2 ∨ 10 < n))), [], Ret.one rfl (RV.tmp rfl), Sub.nil, ?_⟩
  exact ⟨by simp_all [kidsB], rfl⟩
 replace h12 := df h12
 refine Zq ?_
 refine Zg (Zc ?_)
 refine Za (v := .int .i64 n) rfl (Pu.move rfl) ?_
 refine Za (v := .bool (decide (n = 0))) rfl (Pu.eql rfl rfl) ?_
 refine Za (v := .bool (decide (n = 0))) rfl (Pu.assign rfl) ?_
 refine Zb ?_
 refine Zo ?_
 refine ⟨.bool (decide (n = 0)), [], Ret.one rfl (RV.tmp rfl), Sub.nil, ?_⟩
 exact ⟨by simp_all [kidsB], rfl⟩
end Go.Proofs.YtdeinimmmjichaaGreat.Hs
