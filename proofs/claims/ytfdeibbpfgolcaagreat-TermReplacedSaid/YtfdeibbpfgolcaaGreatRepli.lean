import Derived.Test.YtfdeibbpfgolcaaGreatReplh
import Derived.Laws.RangeString
/-! Strings: rows of them, ranges over them, names of one letter. -/
namespace Go.Proofs.YtfdeibbpfgolcaaGreat.Hs
open Go
/-- the name of one letter -/
def ltr (i : Nat) : ByteArray := ⟨#[UInt8.ofNat (97 + i)]⟩
def Yn (l : List ByteArray) : List (List Value) := l.map fun n => [.string n]
theorem YF (l : List ByteArray) : (Yn l).length = l.length := by simp [Yn]
theorem strs_snoc (l : List ByteArray) (n : ByteArray) : Yn (l ++ [n]) = Yn l ++ [[.string n]] := by simp [Yn]
theorem strs_app (l m : List ByteArray) : Yn (l ++ m) = Yn l ++ Yn m := by simp [Yn]
theorem strs_get (l : List ByteArray) (j : Nat) (h : j < l.length) : (Yn l)[j]'(by rw [YF]; exact h) = [.string l[j]] := by simp [Yn]
theorem strs_len1 (l : List ByteArray) : ∀ e ∈ Yn l, e.length = 1 := by
  intro e he; obtain ⟨n, _, rfl⟩ := List.mem_map.1 he; rfl
theorem strs_ok (l : List ByteArray) : ∀ e ∈ Yn l, okc e := by
  intro e he; obtain ⟨n, _, rfl⟩ := List.mem_map.1 he; exact Zj rfl Zt
def RS (_ : Heap) (cs : List Value) (n : ByteArray) : Prop := cs = [.string n]
theorem RSs.mono {h h' : Heap} (hh : Hle h h') {v : Value} {l : List ByteArray} (q : Hs.rdS RS 1 h v l) : Hs.rdS RS 1 h' v l := rdS.mono q hh fun _ _ _ e => e
theorem Y3 {T : TypeId} {v : Value} {l : List ByteArray} {k : Zf} {h : Heap} (o : Own T 1 v (Yn l) k) (hn : l.length ≤ 9223372036854775807) (hk : Has k h) : Hs.rdS RS 1 h v l :=
  o.rdS (YF l).symm hn hk fun i _ h2 => strs_get l i h2
theorem rdS.none {α : Type} {E : Heap → List Value → α → Prop} {sz : Nat} {h : Heap} {a : Option Addr} {cap : Nat} : Hs.rdS E sz h (.slice a 0 cap) [] := ⟨a, cap, rfl, by simp, .inl rfl⟩
/-- What a row of strings gives to append. -/
theorem strs_src {P : Program} {H : Heap} {v : Value} {l : List ByteArray} (h : Hs.rdS RS 1 H v l) : ∀ w L, Mem w L H → Src P 1 w v l.length (Yn l).flatten := by
  obtain ⟨es, e1, e2, e3, e4⟩ := rdS.src (P := P) h
  have : es = Yn l := by
    apply List.ext_getElem
    · rw [e1, YF]
    · intro i h1 h2
      have := e2 i h1 (by omega)
      rw [strs_get l i (by omega)]; exact this
  subst this
  intro w L m
  exact e4 w L H (Hle.refl _) m
theorem own_src {P : Program} {H : Heap} {T : TypeId} {v : Value} {l : List ByteArray} {k : Zf} {M : List Zf} {i : Nat} (o : Own T 1 v (Yn l) k) (hi : M[i]? = some k) : ∀ F w, Mem w (M.flatten ++ F) H → Src P 1 w v l.length (Yn l).flatten := by
  intro F w m
  rcases o.2 with ⟨e, e2, e3⟩ | ⟨b, cap, sp, e, e2, e3, e4⟩
  · have : l = [] := by have := YF l; rw [e2] at this; exact List.eq_nil_of_length_eq_zero this.symm
    subst this
    rw [e]; exact Src.nil
  · subst e
    have hb : w.heap[b]? = some (.cells ⟨(Yn l).flatten ++ sp⟩ T (0, 0)) := (At.k (M := M) (H := H) i hi (by rw [e2]; simp)).heap m
    have := Src.row (P := P) (cap := cap) (n := l.length) hb (by have := sub_flat (sp := sp) o.1; rwa [YF] at this)
    rw [YF]; exact this

/-- the place of a string in a row -/
def fstS (x : ByteArray) : List ByteArray → Nat → Int
  | [], _ => -1
  | y :: l, i => if x = y then (i : Int) else fstS x l (i + 1)
theorem fstS_mem (x : ByteArray) (l : List ByteArray) : ∀ i, decide (0 ≤ fstS x l i) = l.any (fun y => decide (x = y)) := by
  induction l with
  | nil => intro i; simp [fstS]
  | cons y l ih =>
    intro i
    rw [fstS]
    by_cases h : x = y
    · rw [if_pos h, List.any_cons, decide_eq_true h]; simp
    · rw [if_neg h, ih, List.any_cons, decide_eq_false h]; rfl
/-- the place of a bool in a row -/
def fstB (x : Bool) : List Bool → Nat → Int
  | [], _ => -1
  | y :: l, i => if x = y then (i : Int) else fstB x l (i + 1)

def itC (r : Nat) (s : ByteArray) (p : Nat) : Zf := [(r, .stringIter s p)]
section
variable {c : Cx} {H : Heap} {ρ : Nat → Value} {M : List Zf} {K : Value → List Zf → Prop} {d : Option Nat} {ot : TypeId} {pos : String} {af : Array Edge} {g : Option (Nat × Bool)} {x y z : Operand}
theorem Runs_rangeS {T : TypeId} {s : ByteArray} (hT : c.P.underlying T = some .string) (hx : ev c.n ρ x = .string s) (h : ∀ r, K (.pointer (some ⟨r, 0, none⟩)) (itC r s 0 :: M)) : Runs c H ⟨d, .range T x, ot, pos, af, g⟩ ρ M K := fun F w m => by
  refine ⟨.pointer (some ⟨w.heap.size, 0, none⟩), { w with heap := w.heap.push (.stringIter s 0) }, [(w.heap.size, .stringIter s 0)] :: M, .inl ?_, m.push (w' := { w with heap := w.heap.push (.stringIter s 0) }) rfl, h _⟩
  simp [execOp, Instr.range, hx, run_underlying hT, Result.andThen]
theorem Runs_nextA {i r p : Nat} {s : ByteArray} (hx : ev c.n ρ x = .pointer (some ⟨r, 0, none⟩)) (hi : M[i]? = some (itC r s p)) (hp : p < s.size) (ha : (s[p]'hp).toNat < 128)
    (h : K (.tuple ⟨[.bool true, .int .i64 p, .int .i32 ((s[p]'hp).toNat : Int)]⟩) (M.set i (itC r s (p + 1)))) : Runs c H ⟨d, .next x true, ot, pos, af, g⟩ ρ M K := fun F w m => by
  have hb : w.heap[r]? = some (.stringIter s p) := (m.perm ((Z6 hi).append_right F)).own r _ (List.mem_cons_self ..)
  refine ⟨_, _, _, .inl ?_, m.put (o' := .stringIter s (p + 1)) hi, h⟩
  have hg : (getObj r).run c.P w = .ok (.stringIter s p) w := by simp [getObj, Sem.run, hb]
  have hs : (setObj r (.stringIter s (p + 1))).run c.P w = .ok () { w with heap := w.heap.setIfInBounds r (.stringIter s (p + 1)) } := by simp [setObj, Sem.run, hb]
  simp only [execOp, Instr.next, hx, Sem.run_bind, hg, Result.andThen, hp, if_true, decode_ascii s p hp ha, hs]
  simp [goInt]
theorem Runs_nextE {i r p : Nat} {s : ByteArray} (hx : ev c.n ρ x = .pointer (some ⟨r, 0, none⟩)) (hi : M[i]? = some (itC r s p)) (hp : ¬ p < s.size)
    (h : K (.tuple ⟨[.bool false]⟩) M) : Runs c H ⟨d, .next x true, ot, pos, af, g⟩ ρ M K := fun F w m => by
  have hb : w.heap[r]? = some (.stringIter s p) := (m.perm ((Z6 hi).append_right F)).own r _ (List.mem_cons_self ..)
  refine ⟨_, _, _, .inl ?_, m, h⟩
  have hg : (getObj r).run c.P w = .ok (.stringIter s p) w := by simp [getObj, Sem.run, hb]
  simp [execOp, Instr.next, hx, hg, Result.andThen, hp]
end
theorem w32 {a : Int} (h : -2147483648 ≤ a ∧ a ≤ 2147483647) : IntKind.i32.wrap a = a := by
  exact IntWalk.i32_in a h
section
variable {P : Program} {e : Operand → Value} {T T' : TypeId} {x : Operand} {k : IntKind} {a : Int} {d : Option Nat} {ot : TypeId} {pos : String} {af : Array Edge} {g : Option (Nat × Bool)}
theorem Pu.convS {s : ByteArray} {t : TypeDesc} (hs : ∀ w, (underlying T).run P w = .ok t w) (hT : ∀ w, (underlying T').run P w = .ok .string w) (hx : e x = .int k a) (hv : Utf8.encode a = s) : Pu P e ⟨d, .convert T T' x, ot, pos, af, g⟩ (.string s) := fun w => by
  subst hv
  simp [execOp, convert, hs, hT, hx, Result.andThen, Conv.intToString]
end
theorem ltr_size (i : Nat) : (ltr i).size = 1 := rfl
theorem ltr_get (i : Nat) (h : i < 26) : ((ltr i)[0]'(by rw [ltr_size]; decide)).toNat = 97 + i := by
  show (UInt8.ofNat (97 + i)).toNat = 97 + i
  simp; omega
theorem ltr_enc : ∀ i : Nat, i < 26 → Utf8.encode ((97 + i : Nat) : Int) = ltr i := by decide
theorem ltr_enc' (i : Nat) (h : i < 26) : Utf8.encode (97 + (i : Int)) = ltr i := by have := ltr_enc i h; simpa using this
section
variable {c : Cx} {H : Heap} {ρ : Nat → Value} {M : List Zf} {K : Value → List Zf → Prop} {d : Option Nat} {ot : TypeId} {pos : String} {af : Array Edge} {g : Option (Nat × Bool)} {x : Operand}
theorem Runs_nextL {i r k : Nat} (hx : ev c.n ρ x = .pointer (some ⟨r, 0, none⟩)) (hi : M[i]? = some (itC r (ltr k) 0)) (hk : k < 26)
    (h : K (.tuple ⟨[.bool true, .int .i64 0, .int .i32 (97 + (k : Int))]⟩) (M.set i (itC r (ltr k) 1))) : Runs c H ⟨d, .next x true, ot, pos, af, g⟩ ρ M K := by
  have hg := ltr_get k hk
  refine Runs_nextA hx hi (by rw [ltr_size]; decide) (by omega) ?_
  rw [hg]
  simpa using h
end
def markL (i : Nat) (l : List Bool) : List Bool := if i < l.length then l.set i true else l
/-- What is known of a term with names: the names on the way down, one Kid after the other. -/
def NC : List (List ByteArray) → List Value → Zf → Prop
  | [], cs, _ => cs.length = 37 ∧ okc cs
  | x :: xs, cs, c => ∃ k n r ns ks cv e k1 k2 k3, cs = pkT k n r ns ks ++ [cv] ∧ cv.oneCell' = true ∧ Own 9 1 ns (Yn x) k1 ∧ Own 83 37 ks [e] k2 ∧ NC xs e k3 ∧ c = k1 ++ (k2 ++ k3)
theorem NC.len : ∀ {xs : List (List ByteArray)} {cs : List Value} {c : Zf}, NC xs cs c → cs.length = 37
  | [], _, _, h => h.1
  | _ :: _, _, _, ⟨_, _, _, _, _, _, _, _, _, _, h, _⟩ => by rw [h]; rfl
theorem NC.ok : ∀ {xs : List (List ByteArray)} {cs : List Value} {c : Zf}, NC xs cs c → okc cs
  | [], _, _, h => h.2
  | _ :: _, _, _, ⟨_, _, _, _, _, _, _, _, _, _, h, h1, h2, h3, _⟩ => by rw [h]; exact Z2 (Zz h2.one h3.one) (Zj h1 Zt)
theorem spl_l {a b a' vs : List Value} {off : Nat} (h : spl a off vs = some a') : spl (a ++ b) off vs = some (a' ++ b) := by
  obtain ⟨h1, h2⟩ := spl_some h
  rw [spl_mk (by rw [List.length_append]; omega), h2, List.take_append_of_le_length (by omega), List.drop_append_of_le_length (by omega)]
  simp
theorem markL_len (i : Nat) (l : List Bool) : (markL i l).length = l.length := by unfold markL; split <;> simp
theorem int_r {P : Program} {f : FuncId} {a : Array Value} {M : List Zf} {H : Heap} {x r : Int} (h : CT P f a M H (fun v N => v = .int .i64 x ∧ N = [])) (hr : x = r) : CT P f a M H (fun v N => v = .int .i64 r ∧ N = []) := hr ▸ h
noncomputable def eqL {α : Type} (l m : List α) : Bool := @decide (l = m) (Classical.propDecidable _)
theorem eqL_true {α : Type} {l m : List α} (h : l = m) : eqL l m = true := by unfold eqL; simp [h]
theorem eqL_false {α : Type} {l m : List α} (h : ¬ l = m) : eqL l m = false := by unfold eqL; simp [h]
end Go.Proofs.YtfdeibbpfgolcaaGreat.Hs
/-! The examples of the chapter, in plain Lean. -/
namespace Go.Proofs.YtfdeibbpfgolcaaGreat.Hs
open Go Go.Proofs
def eVa (n : Int) : Tm := .mk 1 n zS [] []
def eNu (n : Int) : Tm := .mk 2 n zS [] []
def eLa (t : Tm) : Tm := .mk 3 0 zS [t] []
def eAp (t u : Tm) : Tm := .mk 4 0 zS [t, u] []
def eLam : Tm := eLa (eAp (eVa 0) (eVa 1))
theorem free_lam : freeE eLam = ([0], 0) := by kernel_rfl
theorem five_lam : substP eLam 0 (eNu 5) = (eLa (eAp (eVa 0) (eNu 5)), 0) := by kernel_rfl
theorem three_lam : substP eLam 0 (eVa 3) = (eLa (eAp (eVa 0) (eVa 4)), 0) := by kernel_rfl
theorem up_lam : shiftP eLam 2 0 = (eLa (eAp (eVa 0) (eVa 3)), 0) := by kernel_rfl
theorem down_va : shiftP (eVa 0) (-1) 0 = (zT, 1) := by kernel_rfl
def eLL : Tm := eLa (eLa (eVa 1))
theorem right_ll : ZI [eLL] = 0 := by kernel_rfl
theorem free_ll : freeE eLL = ([], 0) := by kernel_rfl
theorem check_h2 : Yc 0 0 (.mk 12 0 zS [eNu 1, eVa 0] []) = 0 := by kernel_rfl
theorem check_h1 : Yc 0 0 (.mk 12 0 zS [eNu 1] []) = 2 := by kernel_rfl
/-- the cells of the first of two results -/
def tcel : Value → List Value
  | .tuple ⟨[.agg ⟨cs⟩, _]⟩ => cs
  | _ => []
theorem ble_at {P : Program} {f : FuncId} {a : Array Value} {M : List Zf} {H : Heap} {x : Tm × Int} {d : Tm} {e : Int} (h : CT P f a M H (fun v N => ∃ cs k, v = .tuple ⟨[.agg ⟨cs⟩, .int .i64 x.2]⟩ ∧ N = [k] ∧ OT x.1 cs k)) (hx : x = (d, e)) :
    CT P f a M H (fun v N => ∃ cs k, v = .tuple ⟨[.agg ⟨cs⟩, .int .i64 e]⟩ ∧ N = [k] ∧ OT d cs k) := by subst hx; exact h
theorem bool_r {P : Program} {f : FuncId} {a : Array Value} {M : List Zf} {H : Heap} {x r : Bool} (h : CT P f a M H (fun v N => v = .bool x ∧ N = [])) (hr : x = r) : CT P f a M H (fun v N => v = .bool r ∧ N = []) := hr ▸ h
section
variable {c : Cx} {H : Heap} {ρ : Nat → Value} {M : List Zf} {K : Value → List Zf → Prop} {d : Option Nat} {ot : TypeId} {pos : String} {af : Array Edge} {g : Option (Nat × Bool)} {x y : Operand}
/-- the first nothing of a slice -/
theorem Runs_slice0 {T el : TypeId} {sz n cap : Nat} {a : Option Addr} {k : IntKind} (hT : ∀ w, (underlying T).run c.P w = .ok (.slice el) w) (hsz : ∀ w, (sizeOf el).run c.P w = .ok sz w) (hx : ev c.n ρ x = .slice a n cap) (hy : ev c.n ρ y = .int k 0)
    (h : ∀ a' cap', K (.slice a' 0 cap') M) : Runs c H ⟨d, .slice T x none (some y) none, ot, pos, af, g⟩ ρ M K := fun F w m => by
  refine ⟨_, w, M, .inl ?_, m, h (if cap = 0 then a else a.map (·.add (0 * sz))) (cap - 0)⟩
  simp [execOp, Instr.sliceAt, Instr.slice, Instr.sliceBounds, Instr.sliceBound, asIntOf, hx, hy, hT, hsz, Result.andThen]
end
end Go.Proofs.YtfdeibbpfgolcaaGreat.Hs
/-! Layer 4, the plain law, third part: sizes. No program here. -/
namespace Go.Proofs.YtfdeibbpfgolcaaGreat.Hs
open Go
theorem checkR_ok {t : Tm} (h : Yf 60 8 t = 0) : sizeT t ≤ 300 ∧ vOK t ∧ tidy t := by
  have := ZX (by rw [check_eq]; exact h : Yc 60 8 t = 0)
  exact ⟨this.1, this.2.1, this.2.2.1⟩
end Go.Proofs.YtfdeibbpfgolcaaGreat.Hs
/-! Layer 4, the plain law of moving: maps composed; what is right stays right. No program here. -/
namespace Go.Proofs.YtfdeibbpfgolcaaGreat.Hs
open Go
/-! what is right stays right -/
theorem nHead_mono {d d' m m' b b' k n : Int} {r : Sm} {l lc : Nat} (h : Yo d m b k n r l lc = 0) (hv : k = 1 → n < b' ∨ n - b' < d') (hm : m ≤ m') : Yo d' m' b' k n r l lc = 0 := by
  unfold Yo at h ⊢
  by_cases h1 : k < 1 ∨ 12 < k
  · rw [if_pos h1] at h; cases h
  rw [if_neg h1] at h ⊢
  by_cases h2 : ((Yk k = false ∧ ¬ n = 0) ∨ (ZF k = false ∧ ¬ r = zS)) ∨ (¬ k = 9 ∧ 0 < (lc : Int))
  · rw [if_pos h2] at h; cases h
  rw [if_neg h2] at h ⊢
  by_cases h3 : ((l : Int) < loK k ∨ hiK k < (l : Int)) ∨ 8 < (lc : Int)
  · rw [if_pos h3] at h; cases h
  rw [if_neg h3] at h ⊢
  by_cases h4 : ((k = 2 ∧ (n < 0 ∨ 1073741824 < n)) ∨ (k = 10 ∧ (n < 1 ∨ 5 < n))) ∨ ((k = 8 ∨ k = 11) ∧ (n < 0 ∨ 7 < n))
  · rw [if_pos h4] at h; cases h
  rw [if_neg h4] at h ⊢
  by_cases h5 : (k = 1 ∧ (n < 0 ∨ (b ≤ n ∧ d ≤ n - b))) ∨ (k = 7 ∧ (n < 0 ∨ m ≤ n))
  · rw [if_pos h5] at h; cases h
  rw [if_neg (by
    rintro (⟨e, h6⟩ | ⟨e, h6⟩)
    · have := hv e; omega
    · omega)]
theorem nErr_iff {d m b k n : Int} {r : Sm} {kids : List Tm} {cases : List (Pt × Tm)} : ZM d m b (.mk k n r kids cases) = 0 ↔ Yo d m b k n r kids.length cases.length = 0 ∧ YB cases = 0 ∧ Z0 d m b k 0 kids = 0 ∧ Yh d m b cases = 0 := by
  rw [ZM]
  constructor
  · intro h
    split at h
    · split at h
      · split at h
        · exact ⟨by assumption, by assumption, by assumption, h⟩
        · rename_i h0; exact absurd h h0
      · rename_i h0; exact absurd h h0
    · rename_i h0; exact absurd h h0
  · rintro ⟨h1, h2, h3, h4⟩
    rw [if_pos h1, if_pos h2, if_pos h3, h4]
theorem nErrK_cons {d m b k : Int} {i : Nat} {t : Tm} {l : List Tm} : Z0 d m b k i (t :: l) = 0 ↔ ZM d m (b + more k i) t = 0 ∧ Z0 d m b k (i + 1) l = 0 := by
  rw [Z0]
  constructor
  · intro h
    split at h
    · exact ⟨by assumption, h⟩
    · rename_i h0; exact absurd h h0
  · rintro ⟨h1, h2⟩; rw [if_pos h1, h2]
theorem nErrC_cons {d m b : Int} {p : Pt} {t : Tm} {l : List (Pt × Tm)} : Yh d m b ((p, t) :: l) = 0 ↔ ZM d m (b + (binds p : Int)) t = 0 ∧ Yh d m b l = 0 := by
  rw [Yh]
  constructor
  · intro h
    split at h
    · exact ⟨by assumption, h⟩
    · rename_i h0; exact absurd h h0
  · rintro ⟨h1, h2⟩; rw [if_pos h1, h2]
theorem nErr_var {d m b n : Int} (h0 : 0 ≤ n) (h1 : n - b < d) : ZM d m b (.mk 1 n zS [] []) = 0 := by
  refine nErr_iff.2 ⟨?_, rfl, rfl, rfl⟩
  unfold Yo Yk ZF loK hiK
  simp
  omega
theorem nErr_mono {d d' m m' : Int} (hd : d ≤ d') (hm : m ≤ m') (t : Tm) : ∀ b, ZM d m b t = 0 → ZM d' m' b t = 0 := by
  induction t using Tm.ind with
  | h k n r kids cases ih ih' =>
    intro b h
    obtain ⟨h1, h2, h3, h4⟩ := nErr_iff.1 h
    have hK : ∀ (l : List Tm), (∀ t ∈ l, ∀ b, ZM d m b t = 0 → ZM d' m' b t = 0) → ∀ i, Z0 d m b k i l = 0 → Z0 d' m' b k i l = 0 := by
      intro l
      induction l with
      | nil => intro _ i _; simp [Z0]
      | cons t l ihl =>
        intro hl i hh
        obtain ⟨a1, a2⟩ := nErrK_cons.1 hh
        exact nErrK_cons.2 ⟨hl t (by simp) _ a1, ihl (fun x hx => hl x (by simp [hx])) _ a2⟩
    have hC : ∀ (l : List (Pt × Tm)), (∀ t ∈ l, ∀ b, ZM d m b t.2 = 0 → ZM d' m' b t.2 = 0) → Yh d m b l = 0 → Yh d' m' b l = 0 := by
      intro l
      induction l with
      | nil => intro _ _; simp [Yh]
      | cons t l ihl =>
        obtain ⟨p, t⟩ := t
        intro hl hh
        obtain ⟨a1, a2⟩ := nErrC_cons.1 hh
        exact nErrC_cons.2 ⟨hl (p, t) (by simp) _ a1, ihl (fun x hx => hl x (by simp [hx])) a2⟩
    exact nErr_iff.2 ⟨nHead_mono h1 (fun e => by subst e; have := (nHead_var h1).2.2.2; omega) hm, h2, hK kids ih 0 h3, hC cases ih' h4⟩
theorem checkR_iff {d m : Int} {t : Tm} : Yf d m t = 0 ↔ YU t = false ∧ ZM d m 0 t = 0 := by
  unfold Yf
  cases YU t <;> simp
theorem checkR_mono {d d' m m' : Int} (hd : d ≤ d') (hm : m ≤ m') {t : Tm} (h : Yf d m t = 0) : Yf d' m' t = 0 := by
  rw [checkR_iff] at h ⊢
  exact ⟨h.1, nErr_mono hd hm t 0 h.2⟩
end Go.Proofs.YtfdeibbpfgolcaaGreat.Hs
/-! What holds of all that is free. -/
namespace Go.Proofs.YtfdeibbpfgolcaaGreat.Hs
open Go Go.Proofs
set_option maxRecDepth 100000
end Go.Proofs.YtfdeibbpfgolcaaGreat.Hs
/-! The part of a term at a path, and another term put there, in plain Lean; one element of an owned row exchanged. -/
namespace Go.Proofs.YtfdeibbpfgolcaaGreat.Hs
open Go Go.Proofs
def partT (t : Tm) (k : Int) : Option Tm :=
  if k < 0 then none else if k < (t.kids.length : Int) then t.kids[k.toNat]? else (t.cases[(k - t.kids.length).toNat]?).map (·.2)
def atT (t : Tm) : List Int → Option Tm
  | [] => some t
  | k :: l => (partT t k).bind fun x => atT x l
theorem mvT_id (t : Tm) : ∀ b fr, mvT 0 fr b t = t := by
  induction t using Tm.ind with
  | h k n r kids cases ih ih' =>
    intro b fr
    have h1 : ∀ (l : List Tm), (∀ x ∈ l, ∀ b fr, mvT 0 fr b x = x) → ∀ i, mvTs 0 fr b k i l = l := by
      intro l
      induction l with
      | nil => intro _ i; rw [mvTs]
      | cons x l ih2 => intro hl i; rw [mvTs, hl x (by simp), ih2 (fun y hy => hl y (by simp [hy]))]
    have h2 : ∀ (l : List (Pt × Tm)), (∀ x ∈ l, ∀ b fr, mvT 0 fr b x.2 = x.2) → mvCs 0 fr b l = l := by
      intro l
      induction l with
      | nil => intro _; rw [mvCs]
      | cons x l ih2 => obtain ⟨p, x⟩ := x; intro hl; rw [mvCs, hl (p, x) (by simp), ih2 (fun y hy => hl y (by simp [hy]))]
    rw [mvT, h1 kids ih, h2 cases ih']
    simp
def stayV (n b : Int) : Tm := .mk 1 (n + b) zS [] []
def ownQ (t : Tm) : Tm := mapQ (fun s => s) stayV 0 t
theorem own_eq {t : Tm} (h : tidy t) : ownQ t = t := by
  have : stayV = shv 0 0 := by funext n b; simp [stayV, shv]
  rw [ownQ, this]
  exact (shT_eq (Int.le_refl 0) h).trans (mvT_id t 0 0)
def atR (t : Tm) (l : List Int) : Tm × Int := match atT t l with | some x => (x, 0) | none => (zT, 1)
theorem OTs.pick {l : List Tm} : ∀ {es : List (List Value)} {c : Zf} {j : Nat} (_ : OTs l es c) (hj : j < l.length),
    ∃ e k c', es[j]? = some e ∧ OT l[j] e k ∧ c.Perm (k ++ c') ∧ ∀ x e' k', OT x e' k' → ∃ c'', OTs (l.set j x) (es.set j e') c'' ∧ (k' ++ c').Perm c'' := by
  induction l with
  | nil => intro es c j _ hj; exact absurd hj (by simp)
  | cons y l ih =>
    intro es c j h hj
    rw [OTs] at h
    obtain ⟨e, es', k, c1, rfl, ho, hs, rfl⟩ := h
    cases j with
    | zero =>
      refine ⟨e, k, c1, rfl, ho, List.Perm.refl _, fun x e' k' hx => ⟨k' ++ c1, ?_, List.Perm.refl _⟩⟩
      simp only [List.set_cons_zero]; rw [OTs]; exact ⟨e', es', k', c1, rfl, hx, hs, rfl⟩
    | succ j =>
      obtain ⟨e2, k2, c2, h1, h2, h3, h4⟩ := ih hs (by simpa using hj)
      refine ⟨e2, k2, k ++ c2, by simpa using h1, h2, ?_, fun x e' k' hx => ?_⟩
      · refine (List.Perm.append_left k h3).trans ?_
        rw [← List.append_assoc, ← List.append_assoc]; exact List.perm_append_comm.append_right c2
      · obtain ⟨c3, h5, h6⟩ := h4 x e' k' hx
        refine ⟨k ++ c3, ?_, ?_⟩
        · simp only [List.set_cons_succ]; rw [OTs]; exact ⟨e, _, k, c3, rfl, ho, h5, rfl⟩
        · refine List.Perm.trans ?_ (List.Perm.append_left k h6)
          rw [← List.append_assoc, ← List.append_assoc]; exact List.perm_append_comm.append_right c2
theorem OCs.pick {l : List (Pt × Tm)} : ∀ {es : List (List Value)} {c : Zf} {j : Nat} (_ : OCs l es c) (hj : j < l.length),
    ∃ a b k c', es[j]? = some (a ++ b) ∧ a.length = 35 ∧ okc a ∧ OT l[j].2 b k ∧ c.Perm (k ++ c') ∧ ∀ x b' k', OT x b' k' → ∃ c'', OCs (l.set j (l[j].1, x)) (es.set j (a ++ b')) c'' ∧ (k' ++ c').Perm c'' := by
  induction l with
  | nil => intro es c j _ hj; exact absurd hj (by simp)
  | cons y l ih =>
    obtain ⟨p, y⟩ := y
    intro es c j h hj
    rw [OCs] at h
    obtain ⟨a, b, es', ka, kb, c1, rfl, hp, ho, hs, rfl⟩ := h
    cases j with
    | zero =>
      refine ⟨a, b, kb, ka ++ c1, rfl, hp.len, hp.ok, ho, ?_, fun x e' k' hx => ⟨ka ++ (k' ++ c1), ?_, ?_⟩⟩
      · rw [← List.append_assoc, ← List.append_assoc]; exact List.perm_append_comm.append_right c1
      · simp only [List.set_cons_zero]; rw [OCs]; exact ⟨a, e', es', ka, k', c1, rfl, hp, hx, hs, rfl⟩
      · rw [← List.append_assoc, ← List.append_assoc]; exact List.perm_append_comm.append_right c1
    | succ j =>
      obtain ⟨a2, b2, k2, c2, h1, ha, hb, h2, h3, h4⟩ := ih hs (by simpa using hj)
      refine ⟨a2, b2, k2, (ka ++ kb) ++ c2, by simpa using h1, ha, hb, h2, ?_, fun x e' k' hx => ?_⟩
      · rw [← List.append_assoc ka]
        refine (List.Perm.append_left (ka ++ kb) h3).trans ?_
        rw [← List.append_assoc, ← List.append_assoc k2]; exact List.perm_append_comm.append_right c2
      · obtain ⟨c3, h5, h6⟩ := h4 x e' k' hx
        refine ⟨ka ++ (kb ++ c3), ?_, ?_⟩
        · simp only [List.set_cons_succ]; rw [OCs]; exact ⟨a, b, _, ka, kb, c3, rfl, hp, ho, h5, rfl⟩
        · rw [← List.append_assoc ka kb c3]
          refine List.Perm.trans ?_ (List.Perm.append_left (ka ++ kb) h6)
          rw [← List.append_assoc, ← List.append_assoc (ka ++ kb)]; exact List.perm_append_comm.append_right c2
/-! paths -/
def pathR (H : Heap) (v : Value) (l : List Int) : Prop := ∃ a cap, v = .slice a l.length cap ∧ l.length ≤ cap ∧ l.length ≤ 9223372036854775807 ∧ (l.length = 0 ∨ ∃ b o row T fr, a = some ⟨b, o, none⟩ ∧ H b = some (.cells ⟨row⟩ T fr) ∧ rows (RI H) 1 row o l)
theorem pathR.rd {H : Heap} {v : Value} {l : List Int} (h : pathR H v l) : Hs.rdS RI 1 H v l := by
  obtain ⟨a, cap, rfl, _, h2, h3⟩ := h
  exact ⟨a, cap, rfl, h2, h3⟩
theorem pathR.mono {H H' : Heap} {v : Value} {l : List Int} (hh : Hle H H') (h : pathR H v l) : pathR H' v l := by
  obtain ⟨a, cap, rfl, h1, h2, h3⟩ := h
  refine ⟨a, cap, rfl, h1, h2, h3.imp id ?_⟩
  rintro ⟨b, o, row, T, fr, e1, e2, e3⟩
  exact ⟨b, o, row, T, fr, e1, hh _ _ e2, e3⟩
theorem pathR.own {T : TypeId} {v : Value} {l : List Int} {k : Zf} {h : Heap} (o : Own T 1 v (ints l) k) (hn : l.length ≤ 9223372036854775807) (hk : Has k h) : pathR h v l := by
  have hr := own_ints o hn hk
  rcases o.2 with ⟨rfl, h1, _⟩ | ⟨b, cap, sp, rfl, rfl, h3, h4⟩
  · have : l = [] := by cases l; rfl; simp [ints] at h1
    subst this; exact ⟨none, 0, rfl, by simp, by simp, .inl rfl⟩
  · rw [ints_len] at hr h4 ⊢
    obtain ⟨a, c, e, q1, q2⟩ := hr
    cases e
    exact ⟨_, _, rfl, h4, q1, q2⟩
theorem pathR.tail {H : Heap} {v : Value} {l : List Int} (h : pathR H v l) (hl : 0 < l.length) {a : Option Addr} {n cap : Nat} (hv : v = .slice a n cap) :
    1 ≤ n ∧ pathR H (.slice (if cap = 1 then a else a.map (·.add (1 * 1))) (n - 1) (cap - 1)) l.tail := by
  obtain ⟨a', cap', e, h1, h2, h3⟩ := h
  rw [hv] at e; cases e
  refine ⟨hl, _, _, by rw [List.length_tail], by rw [List.length_tail]; omega, by rw [List.length_tail]; omega, ?_⟩
  cases l with
  | nil => exact absurd hl (by simp)
  | cons x l =>
    simp only [List.tail_cons]
    by_cases h0 : l.length = 0
    · exact .inl h0
    right
    have hc : ¬ cap = 1 := by intro e; subst e; simp only [List.length_cons] at h1; omega
    rcases h3 with h3 | ⟨b, o, row, T, fr, rfl, e2, e3⟩
    · simp at h3
    · refine ⟨b, o + 1, row, T, fr, ?_, e2, e3.2⟩
      rw [if_neg hc]; simp [Addr.add]
theorem Sub.mid {M : List Zf} {a b c d : Zf} (h : Sub [a ++ (b ++ d)] M) (e : b.Perm c) : Sub [a ++ (c ++ d)] M := h.perm (by
  simp only [List.flatten_cons, List.flatten_nil, List.append_nil]
  exact (e.append_right d).append_left a)
section
variable {c : Cx} {H : Heap} {ρ : Nat → Value} {M : List Zf} {K : Value → List Zf → Prop} {d : Option Nat} {ot : TypeId} {pos : String} {af : Array Edge} {g : Option (Nat × Bool)} {x y : Operand}
end
section
variable {c : Cx} {H : Heap} {ρ : Nat → Value} {M : List Zf} {K : Value → List Zf → Prop} {d : Option Nat} {ot : TypeId} {pos : String} {af : Array Edge} {g : Option (Nat × Bool)} {x y : Operand}
end
end Go.Proofs.YtfdeibbpfgolcaaGreat.Hs
/-! What TermChecks asks beside, in plain Lean; readings of a match. -/
namespace Go.Proofs.YtfdeibbpfgolcaaGreat.Hs
open Go Go.Proofs
def sizeE (t : Tm) : Int × Int := if Yf 60 8 t = 0 then ((sizeT t : Int), 0) else (0, Yf 60 8 t)
section
variable {P : Program} {e : Operand → Value} {i : Oper}
theorem Pu.to {v v' : Value} (h : Pu P e i v) (q : v = v') : Pu P e i v' := q ▸ h
end
end Go.Proofs.YtfdeibbpfgolcaaGreat.Hs
/-! Terms that are drawn, in plain Lean: nodes that are right where their parts are. No program here. -/
namespace Go.Proofs.YtfdeibbpfgolcaaGreat.Hs
open Go
theorem nHead_in {d m b c k n : Int} {r : Sm} {l lc : Nat} (hc : 0 ≤ c) (h : Yo (d + c) m b k n r l lc = 0) : Yo d m (b + c) k n r l lc = 0 := by
  refine nHead_mono h (fun e => ?_) (Int.le_refl m)
  subst e
  have := (nHead_var h).2.2.2
  omega
theorem nErr_in {d m c : Int} (hc : 0 ≤ c) (t : Tm) : ∀ b, ZM (d + c) m b t = 0 → ZM d m (b + c) t = 0 := by
  induction t using Tm.ind with
  | h k n r kids cases ih ih' =>
    intro b h
    obtain ⟨h1, h2, h3, h4⟩ := nErr_iff.1 h
    have hK : ∀ (l : List Tm), (∀ t ∈ l, ∀ b, ZM (d + c) m b t = 0 → ZM d m (b + c) t = 0) → ∀ i, Z0 (d + c) m b k i l = 0 → Z0 d m (b + c) k i l = 0 := by
      intro l
      induction l with
      | nil => intro _ i _; simp [Z0]
      | cons t l ihl =>
        intro hl i hh
        obtain ⟨a1, a2⟩ := nErrK_cons.1 hh
        have := hl t (by simp) _ a1
        exact nErrK_cons.2 ⟨by rwa [show b + c + more k i = b + more k i + c from by omega], ihl (fun x hx => hl x (by simp [hx])) _ a2⟩
    have hC : ∀ (l : List (Pt × Tm)), (∀ t ∈ l, ∀ b, ZM (d + c) m b t.2 = 0 → ZM d m (b + c) t.2 = 0) → Yh (d + c) m b l = 0 → Yh d m (b + c) l = 0 := by
      intro l
      induction l with
      | nil => intro _ _; simp [Yh]
      | cons t l ihl =>
        obtain ⟨p, t⟩ := t
        intro hl hh
        obtain ⟨a1, a2⟩ := nErrC_cons.1 hh
        have := hl (p, t) (by simp) _ a1
        exact nErrC_cons.2 ⟨by rwa [show b + c + (binds p : Int) = b + (binds p : Int) + c from by omega], ihl (fun x hx => hl x (by simp [hx])) a2⟩
    exact nErr_iff.2 ⟨nHead_in hc h1, h2, hK kids ih 0 h3, hC cases ih' h4⟩
theorem nErr_in0 {d m c : Int} (hc : 0 ≤ c) {t : Tm} (h : ZM (d + c) m 0 t = 0) : ZM d m (0 + c) t = 0 := nErr_in hc t 0 h
theorem nErrK_snoc {d m b k : Int} {t : Tm} {l : List Tm} : ∀ {i : Nat}, Z0 d m b k i l = 0 → ZM d m (b + more k ((i + l.length : Nat) : Int)) t = 0 → Z0 d m b k i (l ++ [t]) = 0 := by
  induction l with
  | nil => intro i _ h; exact nErrK_cons.2 ⟨by simpa using h, by simp [Z0]⟩
  | cons x l ih =>
    intro i h h'
    obtain ⟨a1, a2⟩ := nErrK_cons.1 h
    simp only [List.cons_append]
    exact nErrK_cons.2 ⟨a1, ih a2 (by rwa [show i + 1 + l.length = i + (x :: l).length from by simp; omega])⟩
theorem nErrC_snoc {d m b : Int} {p : Pt} {t : Tm} {l : List (Pt × Tm)} : Yh d m b l = 0 → ZM d m (b + (binds p : Int)) t = 0 → Yh d m b (l ++ [(p, t)]) = 0 := by
  induction l with
  | nil => intro _ h; exact nErrC_cons.2 ⟨h, by simp [Yh]⟩
  | cons x l ih =>
    obtain ⟨q, x⟩ := x
    intro h h'
    obtain ⟨a1, a2⟩ := nErrC_cons.1 h
    simp only [List.cons_append]
    exact nErrC_cons.2 ⟨a1, ih a2 h'⟩
theorem pErrRC_snoc {p : Pt} {t : Tm} {l : List (Pt × Tm)} (h : YB l = 0) (hp : Yy p = 0) : YB (l ++ [(p, t)]) = 0 := by
  induction l with
  | nil => simp [YB, hp]
  | cons x l ih =>
    rw [YB] at h
    split at h
    · rename_i h0; simp only [List.cons_append]; rw [YB, if_pos h0]; exact ih h
    · rename_i h0; exact absurd h h0
theorem pErrRL_snoc {p : Pt} {l : List Pt} (h : YA l = 0) (hp : Yy p = 0) : YA (l ++ [p]) = 0 := by
  induction l with
  | nil => simp [YA, hp]
  | cons x l ih =>
    rw [YA] at h
    split at h
    · rename_i h0; simp only [List.cons_append]; rw [YA, if_pos h0]; exact ih h
    · rename_i h0; exact absurd h h0
theorem pErrR_any : Yy (.mk 1 0 zS []) = 0 := by rfl
theorem pErrR_num {n : Int} (h0 : 0 ≤ n) (h1 : n ≤ 1000) : Yy (.mk 2 n zS []) = 0 := by
  have : pHead 2 n zS 0 = 0 := by unfold pHead; simp; omega
  rw [Yy]; simp only [List.length_nil]; rw [if_pos this]; rfl
theorem pErrR_con {n : Int} {r : Sm} {l : List Pt} (h0 : 0 ≤ n) (h1 : n ≤ 7) (hl : l.length ≤ 4) (h : YA l = 0) : Yy (.mk 3 n r l) = 0 := by
  have : pHead 3 n r l.length = 0 := by unfold pHead; simp; omega
  rw [Yy, if_pos this, h]
section
variable {d m : Int} {t u : Tm} {r : Sm} {n : Int}
theorem nErr_self (h0 : 0 ≤ n) (h1 : n < m) : ZM d m 0 (.mk 7 n zS [] []) = 0 := nErr_iff.2 ⟨by unfold Yo Yk ZF loK hiK; simp; omega, rfl, rfl, rfl⟩
theorem nErr_def : ZM d m 0 (.mk 6 0 r [] []) = 0 := nErr_iff.2 ⟨by unfold Yo Yk ZF loK hiK; simp, rfl, rfl, rfl⟩
theorem nErr_nat (h0 : 0 ≤ n) (h1 : n ≤ 1000) : ZM d m 0 (.mk 2 n zS [] []) = 0 := nErr_iff.2 ⟨by unfold Yo Yk ZF loK hiK; simp; omega, rfl, rfl, rfl⟩
theorem nErr_lam (h : ZM (d + 1) m 0 t = 0) : ZM d m 0 (.mk 3 0 zS [t] []) = 0 :=
  nErr_iff.2 ⟨by unfold Yo Yk ZF loK hiK; simp, rfl, nErrK_cons.2 ⟨nErr_in0 (by decide) h, by simp [Z0]⟩, rfl⟩
theorem nErr_app (h : ZM d m 0 t = 0) (h' : ZM d m 0 u = 0) : ZM d m 0 (.mk 4 0 zS [t, u] []) = 0 :=
  nErr_iff.2 ⟨by unfold Yo Yk ZF loK hiK; simp, rfl, nErrK_cons.2 ⟨h, nErrK_cons.2 ⟨h', by simp [Z0]⟩⟩, rfl⟩
theorem nErr_let (h : ZM d m 0 t = 0) (h' : ZM (d + 1) m 0 u = 0) : ZM d m 0 (.mk 5 0 zS [t, u] []) = 0 :=
  nErr_iff.2 ⟨by unfold Yo Yk ZF loK hiK; simp, rfl, nErrK_cons.2 ⟨h, nErrK_cons.2 ⟨nErr_in0 (by decide) h', by simp [Z0]⟩⟩, rfl⟩
theorem nErr_prim (h0 : 1 ≤ n) (h1 : n ≤ 5) (h : ZM d m 0 t = 0) (h' : ZM d m 0 u = 0) : ZM d m 0 (.mk 10 n zS [t, u] []) = 0 :=
  nErr_iff.2 ⟨by unfold Yo Yk ZF loK hiK; simp; omega, rfl, nErrK_cons.2 ⟨h, nErrK_cons.2 ⟨h', by simp [Z0]⟩⟩, rfl⟩
theorem nErr_ask (h0 : 0 ≤ n) (h1 : n ≤ 7) (h : ZM d m 0 t = 0) : ZM d m 0 (.mk 11 n r [t] []) = 0 :=
  nErr_iff.2 ⟨by unfold Yo Yk ZF loK hiK; simp; omega, rfl, nErrK_cons.2 ⟨h, by simp [Z0]⟩, rfl⟩
theorem nErrK_han (h : ZM d m 0 t = 0) (h' : ZM (d + 1) m 0 u = 0) : Z0 d m 0 12 0 [t, u] = 0 :=
  nErrK_cons.2 ⟨h, nErrK_cons.2 ⟨nErr_in0 (by decide) h', by simp [Z0]⟩⟩
theorem nErrK_han_snoc {l : List Tm} (hl : 2 ≤ l.length) (h : Z0 d m 0 12 0 l = 0) (h' : ZM (d + 2) m 0 t = 0) : Z0 d m 0 12 0 (l ++ [t]) = 0 := by
  refine nErrK_snoc h ?_
  have : more 12 ((0 + l.length : Nat) : Int) = 2 := by unfold more; simp; omega
  rw [this]; exact nErr_in0 (by decide) h'
theorem nErr_han {l : List Tm} (h0 : 2 ≤ l.length) (h1 : l.length ≤ 10) (h : Z0 d m 0 12 0 l = 0) : ZM d m 0 (.mk 12 0 r l []) = 0 :=
  nErr_iff.2 ⟨by unfold Yo Yk ZF loK hiK; simp; omega, rfl, h, rfl⟩
theorem nErr_mat {l : List (Pt × Tm)} (h1 : l.length ≤ 8) (h : ZM d m 0 t = 0) (hp : YB l = 0) (hc : Yh d m 0 l = 0) : ZM d m 0 (.mk 9 0 zS [t] l) = 0 :=
  nErr_iff.2 ⟨by unfold Yo Yk ZF loK hiK; simp; omega, hp, nErrK_cons.2 ⟨h, by simp [Z0]⟩, hc⟩
theorem nErrC_mat {l : List (Pt × Tm)} {p : Pt} (h : Yh d m 0 l = 0) (h' : ZM (d + (binds p : Int)) m 0 t = 0) : Yh d m 0 (l ++ [(p, t)]) = 0 := nErrC_snoc h (nErr_in0 (by omega) h')
theorem nErrK_con {l : List Tm} (h : Z0 d m 0 8 0 l = 0) (h' : ZM d m 0 t = 0) : Z0 d m 0 8 0 (l ++ [t]) = 0 := nErrK_snoc h (by simpa [more] using h')
theorem nErr_con {l : List Tm} (h0 : 0 ≤ n) (h1 : n ≤ 7) (hl : l.length ≤ 4) (h : Z0 d m 0 8 0 l = 0) : ZM d m 0 (.mk 8 n r l []) = 0 :=
  nErr_iff.2 ⟨by unfold Yo Yk ZF loK hiK; simp; omega, rfl, h, rfl⟩
end
theorem OTs1 {t : Tm} {a : List Value} {k : Zf} (h : OT t a k) : OTs [t] [a] k := by
  rw [OTs]; exact ⟨a, [], k, [], rfl, h, OTs.nil, by simp⟩
theorem OTs2 {t u : Tm} {a b : List Value} {k k' : Zf} (h : OT t a k) (h' : OT u b k') : OTs [t, u] [a, b] (k ++ k') := by
  rw [OTs]; exact ⟨a, [b], k, k', rfl, h, OTs1 h', rfl⟩
theorem OT_row {k n : Int} {r : Sm} {v : Value} {es : List (List Value)} {kids : List Tm} {k1 k2 : Zf} (hk : inI k) (hn : inI n) (ho : Own 27 36 v es k1) (hs : OTs kids es k2) (hl : kids.length ≤ 1000) :
    OT (.mk k n r kids []) (pkT k n r v (.slice none 0 0)) (k1 ++ k2) :=
  OT_mk.2 ⟨_, _, es, [], k1, k2, [], [], rfl, hk, hn, ho, hs, Own.nil, OCs.nil, by simp, by omega, by simp⟩
theorem pErrRL_mem {l : List Pt} (h : YA l = 0) : ∀ p ∈ l, Yy p = 0 := by
  induction l with
  | nil => intro p hp; cases hp
  | cons q l ih =>
    rw [YA] at h
    split at h
    · rename_i h0
      intro p hp
      rcases List.mem_cons.1 hp with rfl | hp
      · exact h0
      · exact ih h p hp
    · rename_i h0; exact absurd h h0
theorem pErrR_open {k n : Int} {r : Sm} {kids : List Pt} (h : Yy (.mk k n r kids) = 0) : YA kids = 0 ∧ (k = 1 ∨ k = 3 ∨ (k = 2 ∧ kids = [])) := by
  rw [Yy] at h
  split at h
  · rename_i h0
    refine ⟨h, ?_⟩
    unfold pHead at h0
    by_cases h1 : k < 1 ∨ 3 < k
    · rw [if_pos h1] at h0; cases h0
    rw [if_neg h1] at h0
    split at h0
    · cases h0
    split at h0
    · cases h0
    rename_i h3
    by_cases e : k = 2
    · right; right
      refine ⟨e, List.eq_nil_of_length_eq_zero ?_⟩
      omega
    · omega
  · rename_i h0; exact absurd h h0
theorem drawn_ok {d m : Int} {t : Tm} (h : ZM d m 0 t = 0) (h11 : ¬ Yc d m t = 11) : Yc d m t = 0 := by
  rw [check_eq] at h11 ⊢
  rw [checkR_iff]
  refine ⟨?_, h⟩
  unfold Yf at h11
  cases hl : YU t with
  | false => rfl
  | true => rw [hl] at h11; exact absurd rfl h11
theorem drawn_nu {d m : Int} : Yc d m (eNu 1) = 0 := by
  rw [check_eq, checkR_iff]
  exact ⟨by kernel_rfl, nErr_nat (by decide) (by decide)⟩
def pz : Nat → Nat
  | 0 => 1
  | d + 1 => 1 + 2 * pz d
def dz : Nat → Nat
  | 0 => 2
  | d + 1 => 4 + 2 * dz d
theorem pz_pos {d : Nat} (h : 0 < d) : pz d = 1 + 2 * pz (d - 1) := by
  obtain ⟨e, rfl⟩ : ∃ e, d = e + 1 := ⟨d - 1, by omega⟩
  rfl
theorem dz_pos {d : Nat} (h : 0 < d) : dz d = 4 + 2 * dz (d - 1) := by
  obtain ⟨e, rfl⟩ : ∃ e, d = e + 1 := ⟨d - 1, by omega⟩
  rfl
theorem pz_ge (d : Nat) : 1 ≤ pz d := by cases d <;> simp [pz]
theorem dz_ge (d : Nat) : 2 ≤ dz d := by cases d <;> simp [dz]; omega
theorem dz_le {d : Nat} (h : d ≤ 2) : dz d ≤ 20 := by
  rcases d with _ | _ | _ | d
  · decide
  · decide
  · decide
  · omega
theorem sizeTs_snoc (l : List Tm) (t : Tm) : sizeTs (l ++ [t]) = sizeTs l + sizeT t := by
  induction l with
  | nil => simp [sizeTs]
  | cons x l ih => simp only [List.cons_append, sizeTs, ih]; omega
theorem sizeCs_snoc (l : List (Pt × Tm)) (p : Pt) (t : Tm) : sizeCs (l ++ [(p, t)]) = sizeCs l + sizeP p + sizeT t := by
  induction l with
  | nil => simp [sizeCs]
  | cons x l ih => obtain ⟨q, x⟩ := x; simp only [List.cons_append, sizeCs, ih]; omega
theorem sizePs_snoc (l : List Pt) (p : Pt) : ZH (l ++ [p]) = ZH l + sizeP p := by
  induction l with
  | nil => simp [ZH]
  | cons x l ih => simp only [List.cons_append, ZH, ih]; omega
end Go.Proofs.YtfdeibbpfgolcaaGreat.Hs
/-! Layer 4, the plain law of moving: what Shift and Subst answer about terms that are right. No program here. -/
namespace Go.Proofs.YtfdeibbpfgolcaaGreat.Hs
open Go Go.Proofs
section
variable {d m : Int} {t u : Tm} {n k y : Int}
end
/-! two terms put, in either order -/
section
variable {t u v : Tm} (ht : Yf 4 2 t = 0) (hu : Yf 2 2 u = 0) (hv : Yf 2 2 v = 0)
include ht hu
end
end Go.Proofs.YtfdeibbpfgolcaaGreat.Hs
