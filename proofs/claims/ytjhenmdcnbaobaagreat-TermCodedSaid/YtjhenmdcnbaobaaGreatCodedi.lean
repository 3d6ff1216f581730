import Derived.Test.YtjhenmdcnbaobaaGreatCodedh
import Derived.Laws.RangeString
/-! Strings: rows of them, ranges over them, names of one letter. -/
namespace Go.Proofs.YtjhenmdcnbaobaaGreat.Hs
open Go
/-- the name of one letter -/
def ltr (i : Nat) : ByteArray := ⟨#[UInt8.ofNat (97 + i)]⟩
def Yx (l : List ByteArray) : List (List Value) := l.map fun n => [.string n]
theorem YR (l : List ByteArray) : (Yx l).length = l.length := by simp [Yx]
theorem strs_snoc (l : List ByteArray) (n : ByteArray) : Yx (l ++ [n]) = Yx l ++ [[.string n]] := by simp [Yx]
theorem strs_app (l m : List ByteArray) : Yx (l ++ m) = Yx l ++ Yx m := by simp [Yx]
theorem strs_get (l : List ByteArray) (j : Nat) (h : j < l.length) : (Yx l)[j]'(by rw [YR]; exact h) = [.string l[j]] := by simp [Yx]
theorem strs_len1 (l : List ByteArray) : ∀ e ∈ Yx l, e.length = 1 := by
  intro e he; obtain ⟨n, _, rfl⟩ := List.mem_map.1 he; rfl
theorem strs_ok (l : List ByteArray) : ∀ e ∈ Yx l, okc e := by
  intro e he; obtain ⟨n, _, rfl⟩ := List.mem_map.1 he; exact Zf rfl Zn
def RS (_ : Heap) (cs : List Value) (n : ByteArray) : Prop := cs = [.string n]
theorem RSs.mono {h h' : Heap} (hh : Hle h h') {v : Value} {l : List ByteArray} (q : Hs.rdS RS 1 h v l) : Hs.rdS RS 1 h' v l := rdS.mono q hh fun _ _ _ e => e
theorem Xn {T : TypeId} {v : Value} {l : List ByteArray} {k : Zh} {h : Heap} (o : Own T 1 v (Yx l) k) (hn : l.length ≤ 9223372036854775807) (hk : Has k h) : Hs.rdS RS 1 h v l :=
  o.rdS (YR l).symm hn hk fun i _ h2 => strs_get l i h2
theorem rdS.none {α : Type} {E : Heap → List Value → α → Prop} {sz : Nat} {h : Heap} {a : Option Addr} {cap : Nat} : Hs.rdS E sz h (.slice a 0 cap) [] := ⟨a, cap, rfl, by simp, .inl rfl⟩
/-- What a row of strings gives to append. -/
theorem strs_src {P : Program} {H : Heap} {v : Value} {l : List ByteArray} (h : Hs.rdS RS 1 H v l) : ∀ w L, Mem w L H → Src P 1 w v l.length (Yx l).flatten := by
  obtain ⟨es, e1, e2, e3, e4⟩ := rdS.src (P := P) h
  have : es = Yx l := by
    apply List.ext_getElem
    · rw [e1, YR]
    · intro i h1 h2
      have := e2 i h1 (by omega)
      rw [strs_get l i (by omega)]; exact this
  subst this
  intro w L m
  exact e4 w L H (Hle.refl _) m
theorem own_src {P : Program} {H : Heap} {T : TypeId} {v : Value} {l : List ByteArray} {k : Zh} {M : List Zh} {i : Nat} (o : Own T 1 v (Yx l) k) (hi : M[i]? = some k) : ∀ F w, Mem w (M.flatten ++ F) H → Src P 1 w v l.length (Yx l).flatten := by
  intro F w m
  rcases o.2 with ⟨e, e2, e3⟩ | ⟨b, cap, sp, e, e2, e3, e4⟩
  · have : l = [] := by have := YR l; rw [e2] at this; exact List.eq_nil_of_length_eq_zero this.symm
    subst this
    rw [e]; exact Src.nil
  · subst e
    have hb : w.heap[b]? = some (.cells ⟨(Yx l).flatten ++ sp⟩ T (0, 0)) := (At.k (M := M) (H := H) i hi (by rw [e2]; simp)).heap m
    have := Src.row (P := P) (cap := cap) (n := l.length) hb (by have := sub_flat (sp := sp) o.1; rwa [YR] at this)
    rw [YR]; exact this

/-- the place of a string in a row -/
def fstS (x : ByteArray) : List ByteArray → Nat → Int
  | [], _ => -1
  | y :: l, i => if x = y then (i : Int) else fstS x l (i + 1)
theorem fstS_mem (x : ByteArray) (l : List ByteArray) : ∀ i, decide (0 ≤ fstS x l i) = l.any (fun y => decide (x = y)) := by
  induction l with
  | nil => intro i; simp [fstS]
  | cons y l ih =>
    intro i
    rw [fstS]
    by_cases h : x = y
    · rw [if_pos h, List.any_cons, decide_eq_true h]; simp
    · rw [if_neg h, ih, List.any_cons, decide_eq_false h]; rfl
/-- the place of a bool in a row -/
def fstB (x : Bool) : List Bool → Nat → Int
  | [], _ => -1
  | y :: l, i => if x = y then (i : Int) else fstB x l (i + 1)

def itC (r : Nat) (s : ByteArray) (p : Nat) : Zh := [(r, .stringIter s p)]
section
variable {c : Cx} {H : Heap} {ρ : Nat → Value} {M : List Zh} {K : Value → List Zh → Prop} {d : Option Nat} {ot : TypeId} {pos : String} {af : Array Edge} {g : Option (Nat × Bool)} {x y z : Operand}
theorem Runs_rangeS {T : TypeId} {s : ByteArray} (hT : c.P.underlying T = some .string) (hx : ev c.n ρ x = .string s) (h : ∀ r, K (.pointer (some ⟨r, 0, none⟩)) (itC r s 0 :: M)) : Runs c H ⟨d, .range T x, ot, pos, af, g⟩ ρ M K := fun F w m => by
  refine ⟨.pointer (some ⟨w.heap.size, 0, none⟩), { w with heap := w.heap.push (.stringIter s 0) }, [(w.heap.size, .stringIter s 0)] :: M, .inl ?_, m.push (w' := { w with heap := w.heap.push (.stringIter s 0) }) rfl, h _⟩
  simp [execOp, Instr.range, hx, run_underlying hT, Result.andThen]
theorem Runs_nextA {i r p : Nat} {s : ByteArray} (hx : ev c.n ρ x = .pointer (some ⟨r, 0, none⟩)) (hi : M[i]? = some (itC r s p)) (hp : p < s.size) (ha : (s[p]'hp).toNat < 128)
    (h : K (.tuple ⟨[.bool true, .int .i64 p, .int .i32 ((s[p]'hp).toNat : Int)]⟩) (M.set i (itC r s (p + 1)))) : Runs c H ⟨d, .next x true, ot, pos, af, g⟩ ρ M K := fun F w m => by
  have hb : w.heap[r]? = some (.stringIter s p) := (m.perm ((Yg hi).append_right F)).own r _ (List.mem_cons_self ..)
  refine ⟨_, _, _, .inl ?_, m.put (o' := .stringIter s (p + 1)) hi, h⟩
  have hg : (getObj r).run c.P w = .ok (.stringIter s p) w := by simp [getObj, Sem.run, hb]
  have hs : (setObj r (.stringIter s (p + 1))).run c.P w = .ok () { w with heap := w.heap.setIfInBounds r (.stringIter s (p + 1)) } := by simp [setObj, Sem.run, hb]
  simp only [execOp, Instr.next, hx, Sem.run_bind, hg, Result.andThen, hp, if_true, decode_ascii s p hp ha, hs]
  simp [goInt]
theorem Runs_nextE {i r p : Nat} {s : ByteArray} (hx : ev c.n ρ x = .pointer (some ⟨r, 0, none⟩)) (hi : M[i]? = some (itC r s p)) (hp : ¬ p < s.size)
    (h : K (.tuple ⟨[.bool false]⟩) M) : Runs c H ⟨d, .next x true, ot, pos, af, g⟩ ρ M K := fun F w m => by
  have hb : w.heap[r]? = some (.stringIter s p) := (m.perm ((Yg hi).append_right F)).own r _ (List.mem_cons_self ..)
  refine ⟨_, _, _, .inl ?_, m, h⟩
  have hg : (getObj r).run c.P w = .ok (.stringIter s p) w := by simp [getObj, Sem.run, hb]
  simp [execOp, Instr.next, hx, hg, Result.andThen, hp]
end
theorem w32 {a : Int} (h : -2147483648 ≤ a ∧ a ≤ 2147483647) : IntKind.i32.wrap a = a := by
  exact IntWalk.i32_in a h
section
variable {P : Program} {e : Operand → Value} {T T' : TypeId} {x : Operand} {k : IntKind} {a : Int} {d : Option Nat} {ot : TypeId} {pos : String} {af : Array Edge} {g : Option (Nat × Bool)}
theorem Pu.convS {s : ByteArray} {t : TypeDesc} (hs : ∀ w, (underlying T).run P w = .ok t w) (hT : ∀ w, (underlying T').run P w = .ok .string w) (hx : e x = .int k a) (hv : Utf8.encode a = s) : Pu P e ⟨d, .convert T T' x, ot, pos, af, g⟩ (.string s) := fun w => by
  subst hv
  simp [execOp, convert, hs, hT, hx, Result.andThen, Conv.intToString]
end
theorem ltr_size (i : Nat) : (ltr i).size = 1 := rfl
theorem ltr_get (i : Nat) (h : i < 26) : ((ltr i)[0]'(by rw [ltr_size]; decide)).toNat = 97 + i := by
  show (UInt8.ofNat (97 + i)).toNat = 97 + i
  simp; omega
theorem ltr_enc : ∀ i : Nat, i < 26 → Utf8.encode ((97 + i : Nat) : Int) = ltr i := by decide
theorem ltr_enc' (i : Nat) (h : i < 26) : Utf8.encode (97 + (i : Int)) = ltr i := by have := ltr_enc i h; simpa using this
section
variable {c : Cx} {H : Heap} {ρ : Nat → Value} {M : List Zh} {K : Value → List Zh → Prop} {d : Option Nat} {ot : TypeId} {pos : String} {af : Array Edge} {g : Option (Nat × Bool)} {x : Operand}
theorem Runs_nextL {i r k : Nat} (hx : ev c.n ρ x = .pointer (some ⟨r, 0, none⟩)) (hi : M[i]? = some (itC r (ltr k) 0)) (hk : k < 26)
    (h : K (.tuple ⟨[.bool true, .int .i64 0, .int .i32 (97 + (k : Int))]⟩) (M.set i (itC r (ltr k) 1))) : Runs c H ⟨d, .next x true, ot, pos, af, g⟩ ρ M K := by
  have hg := ltr_get k hk
  refine Runs_nextA hx hi (by rw [ltr_size]; decide) (by omega) ?_
  rw [hg]
  simpa using h
end
def markL (i : Nat) (l : List Bool) : List Bool := if i < l.length then l.set i true else l
/-- What is known of a term with names: the names on the way down, one Kid after the other. -/
def NC : List (List ByteArray) → List Value → Zh → Prop
  | [], cs, _ => cs.length = 37 ∧ okc cs
  | x :: xs, cs, c => ∃ k n r ns ks cv e k1 k2 k3, cs = pkT k n r ns ks ++ [cv] ∧ cv.oneCell' = true ∧ Own 9 1 ns (Yx x) k1 ∧ Own 97 37 ks [e] k2 ∧ NC xs e k3 ∧ c = k1 ++ (k2 ++ k3)
theorem NC.len : ∀ {xs : List (List ByteArray)} {cs : List Value} {c : Zh}, NC xs cs c → cs.length = 37
  | [], _, _, h => h.1
  | _ :: _, _, _, ⟨_, _, _, _, _, _, _, _, _, _, h, _⟩ => by rw [h]; rfl
theorem NC.ok : ∀ {xs : List (List ByteArray)} {cs : List Value} {c : Zh}, NC xs cs c → okc cs
  | [], _, _, h => h.2
  | _ :: _, _, _, ⟨_, _, _, _, _, _, _, _, _, _, h, h1, h2, h3, _⟩ => by rw [h]; exact Yf (ZC h2.one h3.one) (Zf h1 Zn)
theorem spl_l {a b a' vs : List Value} {off : Nat} (h : spl a off vs = some a') : spl (a ++ b) off vs = some (a' ++ b) := by
  obtain ⟨h1, h2⟩ := spl_some h
  rw [spl_mk (by rw [List.length_append]; omega), h2, List.take_append_of_le_length (by omega), List.drop_append_of_le_length (by omega)]
  simp
theorem markL_len (i : Nat) (l : List Bool) : (markL i l).length = l.length := by unfold markL; split <;> simp
theorem int_r {P : Program} {f : FuncId} {a : Array Value} {M : List Zh} {H : Heap} {x r : Int} (h : CT P f a M H (fun v N => v = .int .i64 x ∧ N = [])) (hr : x = r) : CT P f a M H (fun v N => v = .int .i64 r ∧ N = []) := hr ▸ h
noncomputable def eqL {α : Type} (l m : List α) : Bool := @decide (l = m) (Classical.propDecidable _)
theorem eqL_true {α : Type} {l m : List α} (h : l = m) : eqL l m = true := by unfold eqL; simp [h]
theorem eqL_false {α : Type} {l m : List α} (h : ¬ l = m) : eqL l m = false := by unfold eqL; simp [h]
end Go.Proofs.YtjhenmdcnbaobaaGreat.Hs
/-! The examples of the chapter, in Y8 Lean. -/
namespace Go.Proofs.YtjhenmdcnbaobaaGreat.Hs
open Go Go.Proofs
def eVa (n : Int) : Tm := .mk 1 n zS [] []
def eNu (n : Int) : Tm := .mk 2 n zS [] []
def eLa (t : Tm) : Tm := .mk 3 0 zS [t] []
def eAp (t u : Tm) : Tm := .mk 4 0 zS [t, u] []
def eLam : Tm := eLa (eAp (eVa 0) (eVa 1))
theorem free_lam : freeE eLam = ([0], 0) := by kernel_rfl
theorem five_lam : substP eLam 0 (eNu 5) = (eLa (eAp (eVa 0) (eNu 5)), 0) := by kernel_rfl
theorem three_lam : substP eLam 0 (eVa 3) = (eLa (eAp (eVa 0) (eVa 4)), 0) := by kernel_rfl
theorem up_lam : shiftP eLam 2 0 = (eLa (eAp (eVa 0) (eVa 3)), 0) := by kernel_rfl
theorem down_va : shiftP (eVa 0) (-1) 0 = (zT, 1) := by kernel_rfl
def eLL : Tm := eLa (eLa (eVa 1))
theorem right_ll : ZP [eLL] = 0 := by kernel_rfl
theorem free_ll : freeE eLL = ([], 0) := by kernel_rfl
theorem check_h2 : Yj 0 0 (.mk 12 0 zS [eNu 1, eVa 0] []) = 0 := by kernel_rfl
theorem check_h1 : Yj 0 0 (.mk 12 0 zS [eNu 1] []) = 2 := by kernel_rfl
/-- the cells of the first of two results -/
def tcel : Value → List Value
  | .tuple ⟨[.agg ⟨cs⟩, _]⟩ => cs
  | _ => []
theorem ble_at {P : Program} {f : FuncId} {a : Array Value} {M : List Zh} {H : Heap} {x : Tm × Int} {d : Tm} {e : Int} (h : CT P f a M H (fun v N => ∃ cs k, v = .tuple ⟨[.agg ⟨cs⟩, .int .i64 x.2]⟩ ∧ N = [k] ∧ OT x.1 cs k)) (hx : x = (d, e)) :
    CT P f a M H (fun v N => ∃ cs k, v = .tuple ⟨[.agg ⟨cs⟩, .int .i64 e]⟩ ∧ N = [k] ∧ OT d cs k) := by subst hx; exact h
theorem bool_r {P : Program} {f : FuncId} {a : Array Value} {M : List Zh} {H : Heap} {x r : Bool} (h : CT P f a M H (fun v N => v = .bool x ∧ N = [])) (hr : x = r) : CT P f a M H (fun v N => v = .bool r ∧ N = []) := hr ▸ h
section
variable {c : Cx} {H : Heap} {ρ : Nat → Value} {M : List Zh} {K : Value → List Zh → Prop} {d : Option Nat} {ot : TypeId} {pos : String} {af : Array Edge} {g : Option (Nat × Bool)} {x y : Operand}
/-- the first nothing of a slice -/
theorem Runs_slice0 {T el : TypeId} {sz n cap : Nat} {a : Option Addr} {k : IntKind} (hT : ∀ w, (underlying T).run c.P w = .ok (.slice el) w) (hsz : ∀ w, (sizeOf el).run c.P w = .ok sz w) (hx : ev c.n ρ x = .slice a n cap) (hy : ev c.n ρ y = .int k 0)
    (h : ∀ a' cap', K (.slice a' 0 cap') M) : Runs c H ⟨d, .slice T x none (some y) none, ot, pos, af, g⟩ ρ M K := fun F w m => by
  refine ⟨_, w, M, .inl ?_, m, h (if cap = 0 then a else a.map (·.add (0 * sz))) (cap - 0)⟩
  simp [execOp, Instr.sliceAt, Instr.slice, Instr.sliceBounds, Instr.sliceBound, asIntOf, hx, hy, hT, hsz, Result.andThen]
end
end Go.Proofs.YtjhenmdcnbaobaaGreat.Hs
/-! Layer 4, the Y8 law, third part: sizes. No program here. -/
namespace Go.Proofs.YtjhenmdcnbaobaaGreat.Hs
open Go
theorem checkR_ok {t : Tm} (h : ZZ 60 8 t = 0) : sizeT t ≤ 300 ∧ vOK t ∧ tidy t := by
  have := Yo (by rw [check_eq]; exact h : Yj 60 8 t = 0)
  exact ⟨this.1, this.2.1, this.2.2.1⟩
end Go.Proofs.YtjhenmdcnbaobaaGreat.Hs
/-! Layer 4, the Y8 law of moving: maps composed; what is right stays right. No program here. -/
namespace Go.Proofs.YtjhenmdcnbaobaaGreat.Hs
open Go
/-! what is right stays right -/
theorem nHead_mono {d d' m m' b b' k n : Int} {r : Sm} {l lc : Nat} (h : YD d m b k n r l lc = 0) (hv : k = 1 → n < b' ∨ n - b' < d') (hm : m ≤ m') : YD d' m' b' k n r l lc = 0 := by
  unfold YD at h ⊢
  by_cases h1 : k < 1 ∨ 12 < k
  · rw [if_pos h1] at h; cases h
  rw [if_neg h1] at h ⊢
  by_cases h2 : ((Yk k = false ∧ ¬ n = 0) ∨ (ZW k = false ∧ ¬ r = zS)) ∨ (¬ k = 9 ∧ 0 < (lc : Int))
  · rw [if_pos h2] at h; cases h
  rw [if_neg h2] at h ⊢
  by_cases h3 : ((l : Int) < loK k ∨ hiK k < (l : Int)) ∨ 8 < (lc : Int)
  · rw [if_pos h3] at h; cases h
  rw [if_neg h3] at h ⊢
  by_cases h4 : ((k = 2 ∧ (n < 0 ∨ 1073741824 < n)) ∨ (k = 10 ∧ (n < 1 ∨ 5 < n))) ∨ ((k = 8 ∨ k = 11) ∧ (n < 0 ∨ 7 < n))
  · rw [if_pos h4] at h; cases h
  rw [if_neg h4] at h ⊢
  by_cases h5 : (k = 1 ∧ (n < 0 ∨ (b ≤ n ∧ d ≤ n - b))) ∨ (k = 7 ∧ (n < 0 ∨ m ≤ n))
  · rw [if_pos h5] at h; cases h
  rw [if_neg (by
    rintro (⟨e, h6⟩ | ⟨e, h6⟩)
    · have := hv e; omega
    · omega)]
theorem nErr_iff {d m b k n : Int} {r : Sm} {kids : List Tm} {cases : List (Pt × Tm)} : ZT d m b (.mk k n r kids cases) = 0 ↔ YD d m b k n r kids.length cases.length = 0 ∧ YN cases = 0 ∧ Z7 d m b k 0 kids = 0 ∧ Yp d m b cases = 0 := by
  rw [ZT]
  constructor
  · intro h
    split at h
    · split at h
      · split at h
        · exact ⟨by assumption, by assumption, by assumption, h⟩
        · rename_i h0; exact absurd h h0
      · rename_i h0; exact absurd h h0
    · rename_i h0; exact absurd h h0
  · rintro ⟨h1, h2, h3, h4⟩
    rw [if_pos h1, if_pos h2, if_pos h3, h4]
theorem nErrK_cons {d m b k : Int} {i : Nat} {t : Tm} {l : List Tm} : Z7 d m b k i (t :: l) = 0 ↔ ZT d m (b + more k i) t = 0 ∧ Z7 d m b k (i + 1) l = 0 := by
  rw [Z7]
  constructor
  · intro h
    split at h
    · exact ⟨by assumption, h⟩
    · rename_i h0; exact absurd h h0
  · rintro ⟨h1, h2⟩; rw [if_pos h1, h2]
theorem nErrC_cons {d m b : Int} {p : Pt} {t : Tm} {l : List (Pt × Tm)} : Yp d m b ((p, t) :: l) = 0 ↔ ZT d m (b + (binds p : Int)) t = 0 ∧ Yp d m b l = 0 := by
  rw [Yp]
  constructor
  · intro h
    split at h
    · exact ⟨by assumption, h⟩
    · rename_i h0; exact absurd h h0
  · rintro ⟨h1, h2⟩; rw [if_pos h1, h2]
theorem nErr_var {d m b n : Int} (h0 : 0 ≤ n) (h1 : n - b < d) : ZT d m b (.mk 1 n zS [] []) = 0 := by
  refine nErr_iff.2 ⟨?_, rfl, rfl, rfl⟩
  unfold YD Yk ZW loK hiK
  simp
  omega
theorem nErr_mono {d d' m m' : Int} (hd : d ≤ d') (hm : m ≤ m') (t : Tm) : ∀ b, ZT d m b t = 0 → ZT d' m' b t = 0 := by
  induction t using Tm.ind with
  | h k n r kids cases ih ih' =>
    intro b h
    obtain ⟨h1, h2, h3, h4⟩ := nErr_iff.1 h
    have hK : ∀ (l : List Tm), (∀ t ∈ l, ∀ b, ZT d m b t = 0 → ZT d' m' b t = 0) → ∀ i, Z7 d m b k i l = 0 → Z7 d' m' b k i l = 0 := by
      intro l
      induction l with
      | nil => intro _ i _; simp [Z7]
      | cons t l ihl =>
        intro hl i hh
        obtain ⟨a1, a2⟩ := nErrK_cons.1 hh
        exact nErrK_cons.2 ⟨hl t (by simp) _ a1, ihl (fun x hx => hl x (by simp [hx])) _ a2⟩
    have hC : ∀ (l : List (Pt × Tm)), (∀ t ∈ l, ∀ b, ZT d m b t.2 = 0 → ZT d' m' b t.2 = 0) → Yp d m b l = 0 → Yp d' m' b l = 0 := by
      intro l
      induction l with
      | nil => intro _ _; simp [Yp]
      | cons t l ihl =>
        obtain ⟨p, t⟩ := t
        intro hl hh
        obtain ⟨a1, a2⟩ := nErrC_cons.1 hh
        exact nErrC_cons.2 ⟨hl (p, t) (by simp) _ a1, ihl (fun x hx => hl x (by simp [hx])) a2⟩
    exact nErr_iff.2 ⟨nHead_mono h1 (fun e => by subst e; have := (nHead_var h1).2.2.2; omega) hm, h2, hK kids ih 0 h3, hC cases ih' h4⟩
theorem checkR_iff {d m : Int} {t : Tm} : ZZ d m t = 0 ↔ Xi t = false ∧ ZT d m 0 t = 0 := by
  unfold ZZ
  cases Xi t <;> simp
theorem Z3 {d d' m m' : Int} (hd : d ≤ d') (hm : m ≤ m') {t : Tm} (h : ZZ d m t = 0) : ZZ d' m' t = 0 := by
  rw [checkR_iff] at h ⊢
  exact ⟨h.1, nErr_mono hd hm t 0 h.2⟩
end Go.Proofs.YtjhenmdcnbaobaaGreat.Hs
/-! What is right fits. -/
namespace Go.Proofs.YtjhenmdcnbaobaaGreat.Hs
open Go Go.Proofs
theorem depP_ge (p : Pt) : 1 ≤ depP p := by
  cases p with
  | mk k n r kids =>
    rw [depP]
    have : 0 ≤ Xp kids := by
      induction kids with
      | nil => rw [Xp]; omega
      | cons x l ih => rw [Xp]; omega
    omega
theorem pt_fit (p : Pt) : ∀ d : Int, YA p = 0 → d + depP p ≤ 63 → fitP p d := by
  induction p using Pt.ind with
  | h k n r kids ih =>
    intro d h hd
    have hge := depP_ge (.mk k n r kids)
    rw [YA] at h
    rw [depP] at hd hge
    split at h
    · rename_i hh
      have hK : ∀ (l : List Pt) (d : Int), (∀ x ∈ l, ∀ d : Int, YA x = 0 → d + depP x ≤ 63 → fitP x d) → YM l = 0 → d + Xp l ≤ 63 → fitPs l d := by
        intro l
        induction l with
        | nil => intro d _ _ _; rw [fitPs]; trivial
        | cons x l ihl =>
          intro d hl h hd
          rw [YM] at h
          rw [Xp] at hd
          split at h
          · rename_i hx
            rw [fitPs]
            exact ⟨hl x (by simp) d hx (by omega), ihl d (fun y hy => hl y (by simp [hy])) h (by omega)⟩
          · rename_i hx; exact absurd h hx
      rw [fitP]
      unfold pHead at hh
      split at hh
      · cases hh
      · split at hh
        · cases hh
        · rename_i q1 q2
          refine ⟨by omega, by omega, fun z => Classical.byContradiction fun z2 => q2 (.inr ⟨z, z2⟩), hK kids _ ih h (by omega)⟩
    · rename_i hh; exact absurd h hh
theorem tm_fit {D M : Int} (t : Tm) : ∀ d b : Int, ZT D M b t = 0 → d + depT t ≤ 63 → fitT t d := by
  induction t using Tm.ind with
  | h k n r kids cases ih ih' =>
    intro d b h hd
    obtain ⟨h1, h2, h3, h4⟩ := nErr_iff.1 h
    rw [depT] at hd
    have hns := depTs_nn kids
    have hK : ∀ (l : List Tm) (i : Nat) (d : Int), (∀ x ∈ l, ∀ d b : Int, ZT D M b x = 0 → d + depT x ≤ 63 → fitT x d) → Z7 D M b k i l = 0 → d + depTs l ≤ 63 → fitTs l d := by
      intro l
      induction l with
      | nil => intro i d _ _ _; rw [fitTs]; trivial
      | cons x l ihl =>
        intro i d hl h hd
        rw [Z7] at h
        rw [depTs] at hd
        split at h
        · rename_i hx
          rw [fitTs]
          exact ⟨hl x (by simp) d _ hx (by omega), ihl (i + 1) d (fun y hy => hl y (by simp [hy])) h (by omega)⟩
        · rename_i hx; exact absurd h hx
    have hC : ∀ (l : List (Pt × Tm)) (d : Int), (∀ c ∈ l, ∀ d b : Int, ZT D M b c.2 = 0 → d + depT c.2 ≤ 63 → fitT c.2 d) → YN l = 0 → Yp D M b l = 0 → d + depCs l ≤ 63 → fitCs l d := by
      intro l
      induction l with
      | nil => intro d _ _ _ _; rw [fitCs]; trivial
      | cons c l ihl =>
        intro d hl hp h hd
        obtain ⟨p, x⟩ := c
        rw [Yp] at h
        rw [YN] at hp
        rw [depCs] at hd
        split at hp
        · rename_i hpx
          split at h
          · rename_i hx
            rw [fitCs]
            exact ⟨⟨pt_fit p d hpx (by omega), hl (p, x) (by simp) d _ hx (by simp only; omega)⟩, ihl d (fun y hy => hl y (by simp [hy])) hp h (by omega)⟩
          · rename_i hx; exact absurd h hx
        · rename_i hpx; exact absurd hp hpx
    rw [fitT]
    unfold YD at h1
    split at h1
    · cases h1
    · split at h1
      · cases h1
      · rename_i q1 q2
        refine ⟨by omega, by omega, fun z => Classical.byContradiction fun z2 => q2 (.inl (.inr ⟨z, z2⟩)), hK kids 0 _ ih h3 (by omega), hC cases _ ih' h2 h4 (by omega)⟩
theorem rd_right {t : Tm} (h : ZZ 60 8 t = 0) : tmG (itT t) 1 (0, false) = (t, ((sizeT t : Int), false)) := by
  obtain ⟨h1, h2⟩ := checkR_iff.1 h
  have h3 : ¬ (300 < sizeT t ∨ 60 < depT t) := fun z => by rw [(longB_eq t).2 z] at h1; cases h1
  have := tm_back t 1 0 (tm_fit t 1 0 h2 (by omega)) (by omega)
  rw [this]
  simp
/-- what FromItem of the program answers -/
noncomputable def fromP (x : It) : Tm × Int := if (tmG x 1 (0, false)).2.2 = true ∨ ¬ ZZ 60 8 (tmG x 1 (0, false)).1 = 0 then (zT, 4) else ((tmG x 1 (0, false)).1, 0)
theorem from_right {t : Tm} (h : ZZ 60 8 t = 0) : fromP (itT t) = (t, 0) := by
  unfold fromP
  rw [rd_right h, if_neg]
  rintro (z | z)
  · cases z
  · exact z h
end Go.Proofs.YtjhenmdcnbaobaaGreat.Hs
/-! Structs of which a part is given. -/
namespace Go.Proofs.YtjhenmdcnbaobaaGreat.Hs
open Go Go.Proofs
set_option maxRecDepth 100000
theorem bld40_0 (k : Int) : ∀ w, (Instr.build 40 ⟨[(0, .int .i64 k)]⟩).run Tryz.prog w = .ok (.agg ⟨[.int .i64 k, .int .i64 0, .string ⟨#[]⟩, .slice none 0 0]⟩) w := ZF Tryz.zeroValue40 Tryz.runUnderlying40 pl40 (by kernel_rfl)
theorem bld129_0 (s : ByteArray) : ∀ w, (Instr.build 129 ⟨[(0, .string s)]⟩).run Tryz.prog w = .ok (.agg ⟨[.string s, .int .i64 0, .int .i64 0]⟩) w := ZF Tryz.zeroValue129 Tryz.runUnderlying129 pl129 (by kernel_rfl)
theorem bld131_0 (s : ByteArray) (a e : Int) : ∀ w, (Instr.build 131 ⟨[(0, .agg ⟨[.string s, .int .i64 a, .int .i64 e]⟩)]⟩).run Tryz.prog w = .ok (.agg ⟨[.string s, .int .i64 a, .int .i64 e, .int .i64 0]⟩) w := ZF Tryz.zeroValue131 Tryz.runUnderlying131 pl131 (by kernel_rfl)
theorem bldPts (f0 f1 f2 : Fn) : ∀ w, (Instr.build 190 ⟨[(0, .agg ⟨[.int .u8 0, .func f0 ⟨[]⟩ ⟨[]⟩]⟩), (1, .agg ⟨[.int .u8 64, .func f1 ⟨[]⟩ ⟨[]⟩]⟩), (2, .agg ⟨[.int .u8 128, .func f2 ⟨[]⟩ ⟨[]⟩]⟩)]⟩).run Tryz.prog w = .ok (.agg ⟨[.int .u8 0, .func f0 ⟨[]⟩ ⟨[]⟩, .int .u8 64, .func f1 ⟨[]⟩ ⟨[]⟩, .int .u8 128, .func f2 ⟨[]⟩ ⟨[]⟩]⟩) w := run_buildA Tryz.zeroValue190 Tryz.runUnderlying190 Tryz.sizeOf189 (by kernel_rfl)
/-- whether an item may begin: what the program answers -/
def begQ (lv : Int) (a c : Nat) (x : Bool) (a' e' c' : Int) : Prop :=
  if 250 < lv then x = false ∧ a' = (a : Int) ∧ e' = 11 ∧ c' = (c : Int)
  else if c = 5000 then x = false ∧ a' = (a : Int) ∧ e' = 2 ∧ c' = (c : Int)
  else x = true ∧ a' = (a : Int) ∧ e' = 0 ∧ c' = ((c + 1 : Nat) : Int)
end Go.Proofs.YtjhenmdcnbaobaaGreat.Hs
/-! An item read from bytes: what holds on the way. -/
namespace Go.Proofs.YtjhenmdcnbaobaaGreat.Hs
open Go Go.Proofs
abbrev DK := DR (List It × Nat)
def preK (ks : List It) (d : DK) : DK :=
  match d with
  | .ok (l, c) b => .ok (ks ++ l, c) b
  | .err e i => .err e i
theorem preK_nil (d : DK) : preK [] d = d := by cases d <;> rfl
/-! what is read lies within the bytes -/
theorem text_ok {l : List Int} {h : Int} {a : Nat} {t : ByteArray} {b : Nat} (ha : a ≤ l.length) (hd : textD l h a = .ok t b) : b ≤ l.length := by
  unfold textD at hd
  split at hd
  · split at hd
    · cases hd
    · rename_i n b2 hs
      have := some_ok ha hs
      split at hd
      · cases hd
      · cases hd; omega
  · cases hd; exact ha
theorem text_err {l : List Int} {h : Int} {a : Nat} {c : Int} {i : Nat} (hd : textD l h a = .err c i) : ¬ c = 0 := by
  unfold textD at hd
  split at hd
  · split at hd
    · rename_i hs; have := some_err hs; cases hd; omega
    · split at hd
      · cases hd; omega
      · cases hd
  · cases hd
theorem kids_le {l : List Int} {g : Nat → Nat → DR (It × Nat)} (hg : ∀ a c x k b, a ≤ l.length → g a c = .ok (x, k) b → b ≤ l.length) : ∀ (m a c : Nat) (x : List It) (k b : Nat), a ≤ l.length → Yq g m a c = .ok (x, k) b → b ≤ l.length := by
  intro m
  induction m with
  | zero => intro a c x k b ha h; rw [Yq] at h; cases h; exact ha
  | succ m ih =>
    intro a c x k b ha h
    rw [Yq] at h
    split at h
    · cases h
    · rename_i y c' b' hy
      have h1 := hg _ _ _ _ _ ha hy
      split at h
      · cases h
      · rename_i ks c'' d hk
        have := ih _ _ _ _ _ h1 hk
        cases h
        exact this
theorem itemD_le {l : List Int} : ∀ (f a c : Nat) (x : It) (k b : Nat), a ≤ l.length → ZM l f a c = .ok (x, k) b → b ≤ l.length := by
  intro f
  induction f with
  | zero => intro a c x k b _ h; rw [ZM] at h; split at h <;> cases h
  | succ f ih =>
    intro a c x k b ha h
    rw [ZM] at h
    split at h
    · cases h
    · split at h
      · cases h
      · split at h
        · cases h
        · split at h
          · cases h
          · rename_i n b1 hn
            have h1 := num0_ok (by omega) hn
            split at h
            · cases h
            · rename_i t d ht
              have h2 := text_ok h1.2.1 ht
              split at h
              · cases h
              · rename_i ks c' z hm
                cases h
                unfold manyD at hm
                split at hm
                · split at hm
                  · cases hm
                  · rename_i m b2 hs
                    have h3 := some_ok h2 hs
                    exact kids_le ih _ _ _ _ _ _ h3.2.1 hm
                · cases hm; exact h2
theorem num0_ne {l : List Int} {most : Int} {a : Nat} : ∀ c i, num0 l most a = .err c i → ¬ c = 0 := fun c i h => by have := num0_err h; omega
theorem some_ne {l : List Int} {most : Int} {a : Nat} : ∀ c i, Y3 l most a = .err c i → ¬ c = 0 := fun c i h => by have := some_err h; omega
/-! the item -/
section
variable {l : List Int} {f a c : Nat} {n : Int} {t : ByteArray} {a' c' w e w0 : Int} {x : It}
end
end Go.Proofs.YtjhenmdcnbaobaaGreat.Hs
/-! An item read from bytes, as the program reads it; both answers. -/
namespace Go.Proofs.YtjhenmdcnbaobaaGreat.Hs
open Go Go.Proofs
/-- what the program's reader of items leaves behind -/
def iwQ (d : DR (It × Nat)) (x : It) (ok : Bool) (a e c : Int) : Prop :=
  match d with
  | .ok (y, k) b => x = y ∧ ok = true ∧ a = (b : Int) ∧ e = 0 ∧ c = (k : Int)
  | .err k i => ok = false ∧ a = (i : Int) ∧ e = k
def mwQ (D : DK) (ks : List It) (ok : Bool) (a e c : Int) : Prop :=
  match D with
  | .ok (l, k) b => ks = l ∧ ok = true ∧ a = (b : Int) ∧ e = 0 ∧ c = (k : Int)
  | .err k i => ok = false ∧ a = (i : Int) ∧ e = k
def manyK (l : List Int) (g : Nat → Nat → DR (It × Nat)) (a c : Nat) : DK :=
  match Y3 l 5000 a with
  | .err e i => .err e i
  | .ok m b => Yq g m.toNat b c
theorem many_if {l : List Int} {g : Nat → Nat → DR (It × Nat)} {h : Int} {a c : Nat} (hh : 128 ≤ h) : manyD l g h a c = manyK l g a c := by unfold manyD manyK; rw [if_pos hh]; cases Y3 l 5000 a <;> rfl
theorem kids_c {g : Nat → Nat → DR (It × Nat)} (hg : ∀ a c x k b, c ≤ 5000 → g a c = .ok (x, k) b → k ≤ 5000) : ∀ (m a c : Nat) (x : List It) (k b : Nat), c ≤ 5000 → Yq g m a c = .ok (x, k) b → k ≤ 5000 := by
  intro m
  induction m with
  | zero => intro a c x k b ha h; rw [Yq] at h; cases h; exact ha
  | succ m ih =>
    intro a c x k b ha h
    rw [Yq] at h
    split at h
    · cases h
    · rename_i y c' b' hy
      have h1 := hg _ _ _ _ _ ha hy
      split at h
      · cases h
      · rename_i ks c'' d hk
        have := ih _ _ _ _ _ h1 hk
        cases h
        exact this
theorem itemD_c {l : List Int} : ∀ (f a c : Nat) (x : It) (k b : Nat), c ≤ 5000 → ZM l f a c = .ok (x, k) b → k ≤ 5000 := by
  intro f
  induction f with
  | zero => intro a c x k b _ h; rw [ZM] at h; split at h <;> cases h
  | succ f ih =>
    intro a c x k b ha h
    rw [ZM] at h
    split at h
    · cases h
    · split at h
      · cases h
      · split at h
        · cases h
        · split at h
          · cases h
          · split at h
            · cases h
            · split at h
              · cases h
              · rename_i ks c' z hm
                cases h
                unfold manyD at hm
                split at hm
                · split at hm
                  · cases hm
                  · exact kids_c ih _ _ _ _ _ _ (by omega) hm
                · cases hm; omega
/-- on the way -/
def kwInv (l : List Int) (g : Nat → Nat → DR (It × Nat)) (D : DK) (m : Int) (j : Nat) (ks : List It) (ok : Bool) (a e c : Int) : Prop :=
  (ok = true ∧ e = 0 ∧ ∃ a2 c2 : Nat, a = (a2 : Int) ∧ c = (c2 : Int) ∧ a2 ≤ l.length ∧ c2 ≤ 5000 ∧ ((j : Int) ≤ m ∧ m ≤ 5000) ∧ D = preK ks (Yq g (m.toNat - j) a2 c2)) ∨ (ok = false ∧ ∃ i : Nat, a = (i : Int) ∧ D = .err e i)
theorem kwInv_init {l : List Int} {g : Nat → Nat → DR (It × Nat)} {d c : Nat} {x a e : Int} {ok : Bool} (hd : d ≤ l.length) (hc : c ≤ 5000) (hq : wQ (leastD l 1 5000 d) x ok a e) : kwInv l g (manyK l g d c) x 0 [] ok a e (c : Int) := by
  rw [least_1 hd] at hq
  unfold manyK
  cases hs : Y3 l 5000 d with
  | err k i => rw [hs] at hq; exact .inr ⟨hq.2.1, i, hq.2.2.1, by rw [hq.2.2.2]⟩
  | ok n b =>
    rw [hs] at hq
    have hb := some_ok hd hs
    obtain ⟨rfl, ho, ha, he⟩ := hq
    exact .inl ⟨ho, he, b, c, ha, rfl, by omega, hc, ⟨by omega, by omega⟩, by rw [preK_nil]; rfl⟩
theorem kwInv_step {l : List Int} {g : Nat → Nat → DR (It × Nat)} {D : DK} {m : Int} {j : Nat} {ks : List It} {ok : Bool} {a e c : Int} (hi : kwInv l g D m j ks ok a e c) (ho : ok = true) (hj : (j : Int) < m) :
    ∃ a2 c2 : Nat, a = (a2 : Int) ∧ c = (c2 : Int) ∧ a2 ≤ l.length ∧ c2 ≤ 5000 ∧ e = 0 ∧ m ≤ 5000 ∧ ∀ (x : It) (ok' : Bool) (a' e' c' : Int), iwQ (g a2 c2) x ok' a' e' c' → (∀ y k b, g a2 c2 = .ok (y, k) b → b ≤ l.length ∧ k ≤ 5000) → (ok' = true → kwInv l g D m (j + 1) (ks ++ [x]) true a' e' c') ∧ (ok' = false → kwInv l g D m (j + 1) ks false a' e' c') := by
  rcases hi with ⟨_, he, a2, c2, ha, hc, hl, hc5, hm, hD⟩ | ⟨hn, _⟩
  · refine ⟨a2, c2, ha, hc, hl, hc5, he, hm.2, fun x ok' a' e' c' hq hle => ?_⟩
    rw [show m.toNat - j = (m.toNat - (j + 1)) + 1 from by omega, Yq] at hD
    cases hg : g a2 c2 with
    | err k i =>
      rw [hg] at hq hD
      simp only at hD
      refine ⟨fun q => ?_, fun q => ?_⟩
      · rw [hq.1] at q; cases q
      · exact .inr ⟨rfl, i, hq.2.1, by rw [hD, hq.2.2]; rfl⟩
    | ok y b =>
      obtain ⟨y, k⟩ := y
      rw [hg] at hq hD
      obtain ⟨rfl, h1, h2, h3, h4⟩ := hq
      simp only at hD
      refine ⟨fun q => ?_, fun q => ?_⟩
      · refine .inl ⟨rfl, h3, b, k, h2, h4, (hle _ _ _ hg).1, (hle _ _ _ hg).2, ⟨by omega, hm.2⟩, ?_⟩
        rw [hD]
        cases hk : Yq g (m.toNat - (j + 1)) b k with
        | err e2 i => simp only [preK]
        | ok z i => obtain ⟨z, c3⟩ := z; simp [preK]
      · rw [h1] at q; cases q
  · rw [ho] at hn; cases hn
theorem kwInv_end {l : List Int} {g : Nat → Nat → DR (It × Nat)} {D : DK} {m : Int} {j : Nat} {ks : List It} {ok : Bool} {a e c : Int} (hi : kwInv l g D m j ks ok a e c) (h : ok = true → ¬ (j : Int) < m) : mwQ D ks ok a e c := by
  rcases hi with ⟨ho, he, a2, c2, ha, hc, hl, hc5, hm, hD⟩ | ⟨hn, i, hw, hD⟩
  · have := h ho
    rw [show m.toNat - j = 0 from by omega, Yq] at hD
    rw [hD]
    simp only [preK, mwQ, List.append_nil]
    exact ⟨trivial, ho, ha, he, hc⟩
  · rw [hD]; exact ⟨hn, hw, rfl⟩
theorem tQ_ok {d : DR ByteArray} {t : ByteArray} {ok : Bool} {a e : Int} (h : tQ d t ok a e) (hk : ok = true) : ∃ b : Nat, d = .ok t b ∧ a = (b : Int) ∧ e = 0 := by
  cases d with
  | ok n b => exact ⟨b, by rw [h.1], h.2.2.1, h.2.2.2⟩
  | err c i => have := h.1; rw [hk] at this; cases this
theorem tQ_no {d : DR ByteArray} {t : ByteArray} {ok : Bool} {a e : Int} (h : tQ d t ok a e) (hk : ok = false) : ∃ (c : Int) (i : Nat), d = .err c i ∧ a = (i : Int) ∧ e = c := by
  cases d with
  | ok n b => have := h.2.1; rw [hk] at this; cases this
  | err c i => exact ⟨c, i, rfl, h.2.1, h.2.2⟩
section
variable {l : List Int} {f a c : Nat} {n : Int} {t : ByteArray} {a' c' e : Int} {x : It} {ok : Bool}
theorem iw_e4 (h : a = l.length) : iwQ (ZM l f a c) x false (a : Int) 4 c' := by
  cases f with
  | zero => rw [ZM, if_pos h]; exact ⟨rfl, rfl, rfl⟩
  | succ f => rw [ZM, if_pos h]; exact ⟨rfl, rfl, rfl⟩
theorem iw_e11 (h : ¬ a = l.length) (hf : f = 0) : iwQ (ZM l f a c) x false (a : Int) 11 c' := by subst hf; rw [ZM, if_neg h]; exact ⟨rfl, rfl, rfl⟩
theorem iw_e2 (h : ¬ a = l.length) (h1 : 5000 ≤ c) : iwQ (ZM l (f + 1) a c) x false (a : Int) 2 c' := by rw [ZM, if_neg h, if_pos h1]; exact ⟨rfl, rfl, rfl⟩
theorem iw_e40 (h : a < l.length) (h1 : ¬ 5000 ≤ c) (h2 : l[a] % 64 = 0) : iwQ (ZM l (f + 1) a c) x false (a : Int) 4 c' := by rw [ZM, if_neg (by omega), if_neg h1, getDi h, if_pos h2]; exact ⟨rfl, rfl, rfl⟩
theorem iw_en (h : a < l.length) (h1 : ¬ 5000 ≤ c) (h2 : ¬ l[a] % 64 = 0) {y : Int} (hq : wQ (num0 l 1099511627776 (a + 1)) y ok a' e) (hok : ok = false) : iwQ (ZM l (f + 1) a c) x false a' e c' := by
  rw [ZM, if_neg (by omega), if_neg h1, getDi h, if_neg h2]
  obtain ⟨k, i, hd, h3, h4⟩ := wQ_no hq hok
  rw [hd]
  exact ⟨rfl, h3, h4⟩
theorem iw_et (h : a < l.length) (h1 : ¬ 5000 ≤ c) (h2 : ¬ l[a] % 64 = 0) {b : Nat} {u : ByteArray} (hd : num0 l 1099511627776 (a + 1) = .ok n b) (hh : l[a] / 64 % 2 = 1) (hq : tQ (textW l b) u ok a' e) (hok : ok = false) : iwQ (ZM l (f + 1) a c) x false a' e c' := by
  rw [ZM, if_neg (by omega), if_neg h1, getDi h, if_neg h2, hd]
  simp only
  rw [textD_if, if_pos hh]
  obtain ⟨k, i, hd, h3, h4⟩ := tQ_no hq hok
  rw [hd]
  exact ⟨rfl, h3, h4⟩
theorem iw_many {ks : List It} (h : a < l.length) (h1 : ¬ 5000 ≤ c) (h2 : ¬ l[a] % 64 = 0) {b d : Nat} (hd : num0 l 1099511627776 (a + 1) = .ok n b) (ht : textD l (l[a]) b = .ok t d) (hm : mwQ (manyD l (ZM l f) (l[a]) d (c + 1)) ks ok a' e c') : iwQ (ZM l (f + 1) a c) (.mk (l[a] % 64) n t ks) ok a' e c' := by
  rw [ZM, if_neg (by omega), if_neg h1, getDi h, if_neg h2, hd]
  simp only
  rw [ht]
  simp only
  cases hk : manyD l (ZM l f) l[a] d (c + 1) with
  | err k i => rw [hk] at hm; exact hm
  | ok y i =>
    obtain ⟨y, k⟩ := y
    rw [hk] at hm
    obtain ⟨rfl, h3, h4, h5, h6⟩ := hm
    exact ⟨rfl, h3, h4, h5, h6⟩
theorem mw_no {h : Int} {g : Nat → Nat → DR (It × Nat)} {d k : Nat} (hh : ¬ 128 ≤ h) : mwQ (manyD l g h d k) [] true (d : Int) 0 (k : Int) := by
  unfold manyD; rw [if_neg hh]; exact ⟨rfl, rfl, rfl, rfl, rfl⟩
theorem mw_err {D : DK} {ks ks' : List It} (h : mwQ D ks ok a' e c') (hok : ok = false) {c2 : Int} : mwQ D ks' false a' e c2 := by
  cases D with
  | err k i => exact ⟨rfl, h.2⟩
  | ok y i => obtain ⟨y, k⟩ := y; have := h.2.1; rw [hok] at this; cases this
theorem iw_err (h : iwQ (ZM l f a c) x false a' e c') {y : It} {c2 : Int} : iwQ (ZM l f a c) y false a' e c2 := by
  cases hd : ZM l f a c with
  | err k i => rw [hd] at h; exact h
  | ok z i => obtain ⟨z, k⟩ := z; rw [hd] at h; cases h.2.1
theorem iw_mno {ks : List It} (h : a < l.length) (h1 : ¬ 5000 ≤ c) (h2 : ¬ l[a] % 64 = 0) {b d : Nat} (hd : num0 l 1099511627776 (a + 1) = .ok n b) (ht : textD l (l[a]) b = .ok t d) (h3 : 128 ≤ l[a]) (hm : mwQ (manyK l (ZM l f) d (c + 1)) ks ok a' e c') (hok : ok = false) {c2 : Int} : iwQ (ZM l (f + 1) a c) x false a' e c2 := by
  have := iw_many (f := f) h h1 h2 hd ht (by rw [many_if h3]; exact mw_err (ks' := ks) (c2 := c') hm hok)
  exact iw_err this
theorem beg_no {lv : Int} {y : Bool} (hlv : lv = 251 - (f : Int)) (ha : ¬ a = l.length) (hq : begQ lv a c y a' e c') (hy : y = false) {c2 : Int} : iwQ (ZM l f a c) x false a' e c2 := by
  unfold begQ at hq
  split at hq
  · obtain ⟨_, h1, h2, _⟩ := hq
    subst h1 h2
    exact iw_e11 ha (by omega)
  · split at hq
    · obtain ⟨_, h1, h2, _⟩ := hq
      subst h1 h2
      obtain ⟨f0, rfl⟩ : ∃ f0, f = f0 + 1 := ⟨f - 1, by omega⟩
      exact iw_e2 ha (by omega)
    · rw [hy] at hq; cases hq.1
theorem beg_ok {lv : Int} {y : Bool} (hc : c ≤ 5000) (hq : begQ lv a c y a' e c') (hy : y = true) : ¬ 250 < lv ∧ ¬ 5000 ≤ c ∧ a' = (a : Int) ∧ e = 0 ∧ c' = ((c + 1 : Nat) : Int) := by
  unfold begQ at hq
  split at hq
  · rw [hy] at hq; cases hq.1
  · split at hq
    · rw [hy] at hq; cases hq.1
    · rename_i h1 h2
      exact ⟨h1, by omega, hq.2.1, hq.2.2.1, hq.2.2.2⟩
/-! what Decode answers -/
theorem dec_long (h : (65536 : Int) < (l.length : Int)) : ZI l = (zI, 0, 11) := by unfold ZI; rw [if_pos (by omega)]
variable {w w0 : Int}
theorem decW (h : ¬ (65536 : Int) < (l.length : Int)) (hq : iwQ (ZM l 250 0 0) x ok a' e c') : (ok = true → ZI l = if a' < (l.length : Int) then (zI, a', 4) else (x, 0, 0)) ∧ (ok = false → ZI l = (zI, a', e)) := by
  unfold ZI; rw [if_neg (by omega)]
  cases hd : ZM l 250 0 0 with
  | err k i =>
    rw [hd] at hq
    refine ⟨fun q => ?_, fun _ => by simp only; rw [hq.2.1, hq.2.2]⟩
    rw [hq.1] at q; cases q
  | ok y b =>
    obtain ⟨y, k⟩ := y
    rw [hd] at hq
    obtain ⟨rfl, h0, h1, _⟩ := hq
    refine ⟨fun _ => ?_, fun q => ?_⟩
    · simp only
      by_cases hb : b < l.length
      · rw [if_pos hb, if_pos (by omega), h1]
      · rw [if_neg hb, if_neg (by omega)]
    · rw [h0] at q; cases q
end
theorem setl {α : Type} (l : List α) (z e : α) : (l ++ [z]).set l.length e = l ++ [e] := by
  induction l with
  | nil => rfl
  | cons x l ih => simp only [List.cons_append, List.length_cons, List.set_cons_succ, ih]
theorem JL_call2 {c : Cx} {H : Heap} {ρ : Nat → Value} {R : List Zh} {k₁ k₂ : Zh} {Q : Post} {ops : Array Oper} {rest : List Oper} {d : Option Nat} {ot : TypeId} {pos : String} {af : Array Edge} {g : Option (Nat × Bool)} {x : Operand} {ars : List Operand} {ats : Array TypeId} {f : FuncId} {fv vs cv : List Value} {post : Value → List Zh → Prop}
    (hg : wnt ops c.n ρ ⟨d, .call { callee := .value x, args := ars.toArray, argTypes := ats }, ot, pos, af, g⟩ = true)
    (hcall : ∀ args w, (callFunc f args).run c.P w = .ok (.enter f args) w)
    (hx : ev c.n ρ x = .func (.func f) ⟨fv⟩ ⟨cv⟩)
    (hc : (∀ (j : Nat) k, R[j]? = some k → Has k (hu R.flatten H)) → CT c.P f ⟨fv ++ vs ++ cv⟩ [k₁, k₂] (hu R.flatten H) post)
    (ha : ars.map (ev c.n ρ) = vs)
    (h : ∀ v N, post v N → JL c H ops rest (YQ ρ d v) (N ++ R) Q) :
    JL c H ops (⟨d, .call { callee := .value x, args := ars.toArray, argTypes := ats }, ot, pos, af, g⟩ :: rest) ρ (k₁ :: k₂ :: R) Q :=
  JL_callX (M₁ := [k₁, k₂]) (M₂ := R) hg (exec_enter hx ha hcall) (by simp) hc h
end Go.Proofs.YtjhenmdcnbaobaaGreat.Hs
/-! What TermChecks asks beside, in Y8 Lean; readings of a match. -/
namespace Go.Proofs.YtjhenmdcnbaobaaGreat.Hs
open Go Go.Proofs
section
variable {P : Program} {e : Operand → Value} {i : Oper}
theorem Pu.to {v v' : Value} (h : Pu P e i v) (q : v = v') : Pu P e i v' := q ▸ h
theorem Pu.decT {p : Prop} {_ : Decidable p} (h : Pu P e i (.bool (decide p))) (q : p) : Pu P e i (.bool true) := h.to (congrArg Value.bool (decide_eq_true q))
end
end Go.Proofs.YtjhenmdcnbaobaaGreat.Hs
/-! Terms that are drawn, in Y8 Lean: nodes that are right where their parts are. No program here. -/
namespace Go.Proofs.YtjhenmdcnbaobaaGreat.Hs
open Go
theorem nHead_in {d m b c k n : Int} {r : Sm} {l lc : Nat} (hc : 0 ≤ c) (h : YD (d + c) m b k n r l lc = 0) : YD d m (b + c) k n r l lc = 0 := by
  refine nHead_mono h (fun e => ?_) (Int.le_refl m)
  subst e
  have := (nHead_var h).2.2.2
  omega
theorem nErr_in {d m c : Int} (hc : 0 ≤ c) (t : Tm) : ∀ b, ZT (d + c) m b t = 0 → ZT d m (b + c) t = 0 := by
  induction t using Tm.ind with
  | h k n r kids cases ih ih' =>
    intro b h
    obtain ⟨h1, h2, h3, h4⟩ := nErr_iff.1 h
    have hK : ∀ (l : List Tm), (∀ t ∈ l, ∀ b, ZT (d + c) m b t = 0 → ZT d m (b + c) t = 0) → ∀ i, Z7 (d + c) m b k i l = 0 → Z7 d m (b + c) k i l = 0 := by
      intro l
      induction l with
      | nil => intro _ i _; simp [Z7]
      | cons t l ihl =>
        intro hl i hh
        obtain ⟨a1, a2⟩ := nErrK_cons.1 hh
        have := hl t (by simp) _ a1
        exact nErrK_cons.2 ⟨by rwa [show b + c + more k i = b + more k i + c from by omega], ihl (fun x hx => hl x (by simp [hx])) _ a2⟩
    have hC : ∀ (l : List (Pt × Tm)), (∀ t ∈ l, ∀ b, ZT (d + c) m b t.2 = 0 → ZT d m (b + c) t.2 = 0) → Yp (d + c) m b l = 0 → Yp d m (b + c) l = 0 := by
      intro l
      induction l with
      | nil => intro _ _; simp [Yp]
      | cons t l ihl =>
        obtain ⟨p, t⟩ := t
        intro hl hh
        obtain ⟨a1, a2⟩ := nErrC_cons.1 hh
        have := hl (p, t) (by simp) _ a1
        exact nErrC_cons.2 ⟨by rwa [show b + c + (binds p : Int) = b + (binds p : Int) + c from by omega], ihl (fun x hx => hl x (by simp [hx])) a2⟩
    exact nErr_iff.2 ⟨nHead_in hc h1, h2, hK kids ih 0 h3, hC cases ih' h4⟩
theorem nErr_in0 {d m c : Int} (hc : 0 ≤ c) {t : Tm} (h : ZT (d + c) m 0 t = 0) : ZT d m (0 + c) t = 0 := nErr_in hc t 0 h
theorem nErrK_snoc {d m b k : Int} {t : Tm} {l : List Tm} : ∀ {i : Nat}, Z7 d m b k i l = 0 → ZT d m (b + more k ((i + l.length : Nat) : Int)) t = 0 → Z7 d m b k i (l ++ [t]) = 0 := by
  induction l with
  | nil => intro i _ h; exact nErrK_cons.2 ⟨by simpa using h, by simp [Z7]⟩
  | cons x l ih =>
    intro i h h'
    obtain ⟨a1, a2⟩ := nErrK_cons.1 h
    simp only [List.cons_append]
    exact nErrK_cons.2 ⟨a1, ih a2 (by rwa [show i + 1 + l.length = i + (x :: l).length from by simp; omega])⟩
theorem nErrC_snoc {d m b : Int} {p : Pt} {t : Tm} {l : List (Pt × Tm)} : Yp d m b l = 0 → ZT d m (b + (binds p : Int)) t = 0 → Yp d m b (l ++ [(p, t)]) = 0 := by
  induction l with
  | nil => intro _ h; exact nErrC_cons.2 ⟨h, by simp [Yp]⟩
  | cons x l ih =>
    obtain ⟨q, x⟩ := x
    intro h h'
    obtain ⟨a1, a2⟩ := nErrC_cons.1 h
    simp only [List.cons_append]
    exact nErrC_cons.2 ⟨a1, ih a2 h'⟩
theorem pErrRC_snoc {p : Pt} {t : Tm} {l : List (Pt × Tm)} (h : YN l = 0) (hp : YA p = 0) : YN (l ++ [(p, t)]) = 0 := by
  induction l with
  | nil => simp [YN, hp]
  | cons x l ih =>
    rw [YN] at h
    split at h
    · rename_i h0; simp only [List.cons_append]; rw [YN, if_pos h0]; exact ih h
    · rename_i h0; exact absurd h h0
theorem pErrRL_snoc {p : Pt} {l : List Pt} (h : YM l = 0) (hp : YA p = 0) : YM (l ++ [p]) = 0 := by
  induction l with
  | nil => simp [YM, hp]
  | cons x l ih =>
    rw [YM] at h
    split at h
    · rename_i h0; simp only [List.cons_append]; rw [YM, if_pos h0]; exact ih h
    · rename_i h0; exact absurd h h0
theorem pErrR_any : YA (.mk 1 0 zS []) = 0 := by rfl
theorem pErrR_num {n : Int} (h0 : 0 ≤ n) (h1 : n ≤ 1000) : YA (.mk 2 n zS []) = 0 := by
  have : pHead 2 n zS 0 = 0 := by unfold pHead; simp; omega
  rw [YA]; simp only [List.length_nil]; rw [if_pos this]; rfl
theorem pErrR_con {n : Int} {r : Sm} {l : List Pt} (h0 : 0 ≤ n) (h1 : n ≤ 7) (hl : l.length ≤ 4) (h : YM l = 0) : YA (.mk 3 n r l) = 0 := by
  have : pHead 3 n r l.length = 0 := by unfold pHead; simp; omega
  rw [YA, if_pos this, h]
section
variable {d m : Int} {t u : Tm} {r : Sm} {n : Int}
theorem nErr_self (h0 : 0 ≤ n) (h1 : n < m) : ZT d m 0 (.mk 7 n zS [] []) = 0 := nErr_iff.2 ⟨by unfold YD Yk ZW loK hiK; simp; omega, rfl, rfl, rfl⟩
theorem nErr_def : ZT d m 0 (.mk 6 0 r [] []) = 0 := nErr_iff.2 ⟨by unfold YD Yk ZW loK hiK; simp, rfl, rfl, rfl⟩
theorem nErr_nat (h0 : 0 ≤ n) (h1 : n ≤ 1000) : ZT d m 0 (.mk 2 n zS [] []) = 0 := nErr_iff.2 ⟨by unfold YD Yk ZW loK hiK; simp; omega, rfl, rfl, rfl⟩
theorem nErr_lam (h : ZT (d + 1) m 0 t = 0) : ZT d m 0 (.mk 3 0 zS [t] []) = 0 :=
  nErr_iff.2 ⟨by unfold YD Yk ZW loK hiK; simp, rfl, nErrK_cons.2 ⟨nErr_in0 (by decide) h, by simp [Z7]⟩, rfl⟩
theorem nErr_app (h : ZT d m 0 t = 0) (h' : ZT d m 0 u = 0) : ZT d m 0 (.mk 4 0 zS [t, u] []) = 0 :=
  nErr_iff.2 ⟨by unfold YD Yk ZW loK hiK; simp, rfl, nErrK_cons.2 ⟨h, nErrK_cons.2 ⟨h', by simp [Z7]⟩⟩, rfl⟩
theorem nErr_let (h : ZT d m 0 t = 0) (h' : ZT (d + 1) m 0 u = 0) : ZT d m 0 (.mk 5 0 zS [t, u] []) = 0 :=
  nErr_iff.2 ⟨by unfold YD Yk ZW loK hiK; simp, rfl, nErrK_cons.2 ⟨h, nErrK_cons.2 ⟨nErr_in0 (by decide) h', by simp [Z7]⟩⟩, rfl⟩
theorem nErr_prim (h0 : 1 ≤ n) (h1 : n ≤ 5) (h : ZT d m 0 t = 0) (h' : ZT d m 0 u = 0) : ZT d m 0 (.mk 10 n zS [t, u] []) = 0 :=
  nErr_iff.2 ⟨by unfold YD Yk ZW loK hiK; simp; omega, rfl, nErrK_cons.2 ⟨h, nErrK_cons.2 ⟨h', by simp [Z7]⟩⟩, rfl⟩
theorem nErr_ask (h0 : 0 ≤ n) (h1 : n ≤ 7) (h : ZT d m 0 t = 0) : ZT d m 0 (.mk 11 n r [t] []) = 0 :=
  nErr_iff.2 ⟨by unfold YD Yk ZW loK hiK; simp; omega, rfl, nErrK_cons.2 ⟨h, by simp [Z7]⟩, rfl⟩
theorem nErrK_han (h : ZT d m 0 t = 0) (h' : ZT (d + 1) m 0 u = 0) : Z7 d m 0 12 0 [t, u] = 0 :=
  nErrK_cons.2 ⟨h, nErrK_cons.2 ⟨nErr_in0 (by decide) h', by simp [Z7]⟩⟩
theorem nErrK_han_snoc {l : List Tm} (hl : 2 ≤ l.length) (h : Z7 d m 0 12 0 l = 0) (h' : ZT (d + 2) m 0 t = 0) : Z7 d m 0 12 0 (l ++ [t]) = 0 := by
  refine nErrK_snoc h ?_
  have : more 12 ((0 + l.length : Nat) : Int) = 2 := by unfold more; simp; omega
  rw [this]; exact nErr_in0 (by decide) h'
theorem nErr_han {l : List Tm} (h0 : 2 ≤ l.length) (h1 : l.length ≤ 10) (h : Z7 d m 0 12 0 l = 0) : ZT d m 0 (.mk 12 0 r l []) = 0 :=
  nErr_iff.2 ⟨by unfold YD Yk ZW loK hiK; simp; omega, rfl, h, rfl⟩
theorem nErr_mat {l : List (Pt × Tm)} (h1 : l.length ≤ 8) (h : ZT d m 0 t = 0) (hp : YN l = 0) (hc : Yp d m 0 l = 0) : ZT d m 0 (.mk 9 0 zS [t] l) = 0 :=
  nErr_iff.2 ⟨by unfold YD Yk ZW loK hiK; simp; omega, hp, nErrK_cons.2 ⟨h, by simp [Z7]⟩, hc⟩
theorem nErrC_mat {l : List (Pt × Tm)} {p : Pt} (h : Yp d m 0 l = 0) (h' : ZT (d + (binds p : Int)) m 0 t = 0) : Yp d m 0 (l ++ [(p, t)]) = 0 := nErrC_snoc h (nErr_in0 (by omega) h')
theorem nErrK_con {l : List Tm} (h : Z7 d m 0 8 0 l = 0) (h' : ZT d m 0 t = 0) : Z7 d m 0 8 0 (l ++ [t]) = 0 := nErrK_snoc h (by simpa [more] using h')
theorem nErr_con {l : List Tm} (h0 : 0 ≤ n) (h1 : n ≤ 7) (hl : l.length ≤ 4) (h : Z7 d m 0 8 0 l = 0) : ZT d m 0 (.mk 8 n r l []) = 0 :=
  nErr_iff.2 ⟨by unfold YD Yk ZW loK hiK; simp; omega, rfl, h, rfl⟩
end
theorem OTs1 {t : Tm} {a : List Value} {k : Zh} (h : OT t a k) : OTs [t] [a] k := by
  rw [OTs]; exact ⟨a, [], k, [], rfl, h, OTs.nil, by simp⟩
theorem OTs2 {t u : Tm} {a b : List Value} {k k' : Zh} (h : OT t a k) (h' : OT u b k') : OTs [t, u] [a, b] (k ++ k') := by
  rw [OTs]; exact ⟨a, [b], k, k', rfl, h, OTs1 h', rfl⟩
theorem OT_row {k n : Int} {r : Sm} {v : Value} {es : List (List Value)} {kids : List Tm} {k1 k2 : Zh} (hk : inI k) (hn : inI n) (ho : Own 28 36 v es k1) (hs : OTs kids es k2) (hl : kids.length ≤ 1000) :
    OT (.mk k n r kids []) (pkT k n r v (.slice none 0 0)) (k1 ++ k2) :=
  OT_mk.2 ⟨_, _, es, [], k1, k2, [], [], rfl, hk, hn, ho, hs, Own.nil, OCs.nil, by simp, by omega, by simp⟩
theorem pErrRL_mem {l : List Pt} (h : YM l = 0) : ∀ p ∈ l, YA p = 0 := by
  induction l with
  | nil => intro p hp; cases hp
  | cons q l ih =>
    rw [YM] at h
    split at h
    · rename_i h0
      intro p hp
      rcases List.mem_cons.1 hp with rfl | hp
      · exact h0
      · exact ih h p hp
    · rename_i h0; exact absurd h h0
theorem pErrR_open {k n : Int} {r : Sm} {kids : List Pt} (h : YA (.mk k n r kids) = 0) : YM kids = 0 ∧ (k = 1 ∨ k = 3 ∨ (k = 2 ∧ kids = [])) := by
  rw [YA] at h
  split at h
  · rename_i h0
    refine ⟨h, ?_⟩
    unfold pHead at h0
    by_cases h1 : k < 1 ∨ 3 < k
    · rw [if_pos h1] at h0; cases h0
    rw [if_neg h1] at h0
    split at h0
    · cases h0
    split at h0
    · cases h0
    rename_i h3
    by_cases e : k = 2
    · right; right
      refine ⟨e, List.eq_nil_of_length_eq_zero ?_⟩
      omega
    · omega
  · rename_i h0; exact absurd h h0
theorem drawn_ok {d m : Int} {t : Tm} (h : ZT d m 0 t = 0) (h11 : ¬ Yj d m t = 11) : Yj d m t = 0 := by
  rw [check_eq] at h11 ⊢
  rw [checkR_iff]
  refine ⟨?_, h⟩
  unfold ZZ at h11
  cases hl : Xi t with
  | false => rfl
  | true => rw [hl] at h11; exact absurd rfl h11
theorem drawn_nu {d m : Int} : Yj d m (eNu 1) = 0 := by
  rw [check_eq, checkR_iff]
  exact ⟨by kernel_rfl, nErr_nat (by decide) (by decide)⟩
def pz : Nat → Nat
  | 0 => 1
  | d + 1 => 1 + 2 * pz d
def dz : Nat → Nat
  | 0 => 2
  | d + 1 => 4 + 2 * dz d
theorem pz_pos {d : Nat} (h : 0 < d) : pz d = 1 + 2 * pz (d - 1) := by
  obtain ⟨e, rfl⟩ : ∃ e, d = e + 1 := ⟨d - 1, by omega⟩
  rfl
theorem dz_pos {d : Nat} (h : 0 < d) : dz d = 4 + 2 * dz (d - 1) := by
  obtain ⟨e, rfl⟩ : ∃ e, d = e + 1 := ⟨d - 1, by omega⟩
  rfl
theorem pz_ge (d : Nat) : 1 ≤ pz d := by cases d <;> simp [pz]
theorem dz_ge (d : Nat) : 2 ≤ dz d := by cases d <;> simp [dz]; omega
theorem dz_le {d : Nat} (h : d ≤ 2) : dz d ≤ 20 := by
  rcases d with _ | _ | _ | d
  · decide
  · decide
  · decide
  · omega
theorem sizeTs_snoc (l : List Tm) (t : Tm) : sizeTs (l ++ [t]) = sizeTs l + sizeT t := by
  induction l with
  | nil => simp [sizeTs]
  | cons x l ih => simp only [List.cons_append, sizeTs, ih]; omega
theorem sizeCs_snoc (l : List (Pt × Tm)) (p : Pt) (t : Tm) : sizeCs (l ++ [(p, t)]) = sizeCs l + sizeP p + sizeT t := by
  induction l with
  | nil => simp [sizeCs]
  | cons x l ih => obtain ⟨q, x⟩ := x; simp only [List.cons_append, sizeCs, ih]; omega
theorem sizePs_snoc (l : List Pt) (p : Pt) : ZU (l ++ [p]) = ZU l + sizeP p := by
  induction l with
  | nil => simp [ZU]
  | cons x l ih => simp only [List.cons_append, ZU, ih]; omega
end Go.Proofs.YtjhenmdcnbaobaaGreat.Hs
/-! Layer 4, the Y8 law of moving: what Shift and Subst answer about terms that are right. No program here. -/
namespace Go.Proofs.YtjhenmdcnbaobaaGreat.Hs
open Go Go.Proofs
section
variable {d m : Int} {t u : Tm} {n k y : Int}
end
/-! two terms put, in either order -/
section
variable {t u v : Tm} (ht : ZZ 4 2 t = 0) (hu : ZZ 2 2 u = 0) (hv : ZZ 2 2 v = 0)
include ht hu
end
end Go.Proofs.YtjhenmdcnbaobaaGreat.Hs
/-! Copies of slices of numbers. -/
namespace Go.Proofs.YtjhenmdcnbaobaaGreat.Hs
open Go Go.Proofs
set_option maxRecDepth 100000
/-- A slice of bytes, as cells read. -/
def RB (_ : Heap) (cs : List Value) (n : Int) : Prop := cs = [.int .u8 n]
theorem RBs.mono {h h' : Heap} (hh : Hle h h') {v : Value} {l : List Int} (q : Hs.rdS RB 1 h v l) : Hs.rdS RB 1 h' v l := rdS.mono q hh fun _ _ _ e => e
def YK (l : List Int) : List (List Value) := l.map fun n => [.int .u8 n]
theorem Yh (l : List Int) : (YK l).length = l.length := by simp [YK]
theorem byts_len1 (l : List Int) : ∀ e ∈ YK l, e.length = 1 := by
  intro e he; obtain ⟨x, _, rfl⟩ := List.mem_map.1 he; rfl
theorem byts_ok (l : List Int) : ∀ e ∈ YK l, okc e := by
  intro e he v hv; obtain ⟨x, _, rfl⟩ := List.mem_map.1 he; simp only [List.mem_singleton] at hv; subst hv; rfl
theorem num_src {P : Program} {H : Heap} {v : Value} {l : List Int} {E : Heap → List Value → Int → Prop} {f : Int → Value} (hE : ∀ h cs x, E h cs x → cs = [f x]) (h : Hs.rdS E 1 H v l) : ∀ w L, Mem w L H → Src P 1 w v l.length (l.map fun n => [f n]).flatten := by
  obtain ⟨es, e1, e2, e3, e4⟩ := rdS.src (P := P) h
  have : es = l.map fun n => [f n] := by
    apply List.ext_getElem
    · rw [e1, List.length_map]
    · intro i h1 h2
      have := hE _ _ _ (e2 i h1 (by omega))
      rw [this, List.getElem_map]
  subst this
  intro w L m
  exact e4 w L H (Hle.refl _) m
theorem byts_src {P : Program} {H : Heap} {v : Value} {l : List Int} (h : Hs.rdS RB 1 H v l) : ∀ w L, Mem w L H → Src P 1 w v l.length (YK l).flatten := num_src (fun _ _ _ e => e) h
theorem YU {T : TypeId} {v : Value} {l : List Int} {k : Zh} {h : Heap} (o : Own T 1 v (YK l) k) (hn : l.length ≤ 9223372036854775807) (hk : Has k h) : Hs.rdS RB 1 h v l :=
  o.rdS (Yh l).symm hn hk fun i h1 h2 => by simp [YK, RB]
/-- What is none is empty. -/
theorem rd_none {E : Heap → List Value → Int → Prop} {sz : Nat} {h : Heap} {v : Value} {l : List Int} {a : Option Addr} {n cap : Nat} (r : Hs.rdS E sz h v l) (hv : v = .slice a n cap) (ha : a.isNone = true) : l = [] := by
  obtain ⟨a', c', e, _, h0 | ⟨b, o, row, T, fr, e1, _⟩⟩ := r
  · exact List.eq_nil_of_length_eq_zero h0
  · rw [hv] at e; cases e; subst e1; cases ha
section
variable {P : Program} {e : Operand → Value} {d : Option Nat} {ot : TypeId} {pos : String} {af : Array Edge} {g : Option (Nat × Bool)} {T T' : TypeId} {x y z : Operand}
theorem run_equalIn_nil {el : TypeId} {a : Option Addr} {n c n' c' : Nat} (m : Nat) (w : World) (hT : ∀ w, (underlying T).run P w = .ok (.slice el) w) : (Op.equalIn (m + 1) T (.slice a n c) (.slice none n' c')).run P w = .ok a.isNone w := by
  cases a <;> simp [Op.equalIn, hT]
theorem Pu.eqlNil {el : TypeId} {a : Option Addr} {n c n' c' : Nat} (hT : ∀ w, (underlying T).run P w = .ok (.slice el) w) (hx : e x = .slice a n c) (hy : e y = .slice none n' c') : Pu P e ⟨d, .binOp .eql T x y T', ot, pos, af, g⟩ (.bool a.isNone) := fun w => by
  have := run_equalIn_nil (P := P) (a := a) (n := n) (c := c) (n' := n') (c' := c') 9999 w hT
  simp only [execOp, hx, hy, eqGuard, binOp, Op.equal, Op.maxDepth]
  simp [this]
end
end Go.Proofs.YtjhenmdcnbaobaaGreat.Hs
/-! Walks, printed by a program of this session's own (gen.py). -/
namespace Go.Proofs.YtjhenmdcnbaobaaGreat.Hs
open Go Go.Proofs
set_option maxRecDepth 100000
set_option linter.unusedVariables false
set_option linter.unusedSimpArgs false
attribute [local irreducible] JL J CT wlo DT
theorem more_ct (k j : Int) (H : Heap) : CT Tryz.prog 81 ⟨[iv k, iv j]⟩ [] H (fun v N => v = iv (more k j) ∧ N = []) := by
 refine Zk Tryz.func81 rfl rfl <| Zc <| Za <| JLA rfl <| Zb <| Zc <| Zq <| Zc <| Zc <| Za <| JLM rfl <| JLn (Pu.eql rfl rfl) <| JLA rfl ?_
 refine Zb <| Zg rfl (fun h1 => ?_) (fun h1 => ?_)
 ·replace h1 := dt h1
  refine Zm <| Zg rfl (fun _ => ?_) (fun h2 => absurd h1 (df h2))
  refine Zc <| Za <| JLA rfl <| Zb <| Zj <| ⟨iv 1, [], Ret.one rfl (RV.tmp rfl), Sub.nil, ?_⟩
  exact ⟨by first | (simp_all [more]; done) | (congr 1; unfold more; simp_all; try omega), rfl⟩
 replace h1 := df h1
 refine Zc <| Za <| JLM rfl <| JLn (Pu.eql rfl rfl) <| JLM rfl <| ZA 2 [11, 12] [(12, cond (decide (k = 5)) (.bool (decide (j = 1))) undef)] ?_ fun f4 => ?_
 ·cases h3 : (decide (k = 5)) with
  | true =>
   replace h3 := dt h3
   refine JLM rfl <| JLn (Pu.eql rfl rfl) ?_
   exact Zb ⟨⟨rfl, trivial⟩, rfl⟩
  | false =>
   exact ZL rfl ⟨rfl, trivial⟩
 refine JLn (Pu.pickAnd rfl rfl rfl) <| JLA rfl <| Zb <| Zg rfl (fun h5 => ?_) (fun h5 => ?_)
 ·obtain ⟨h5a, h5b⟩ := Xd h5
  replace h5a := dt h5a
  replace h5b := dt h5b
  refine Zm <| Zg rfl (fun h6 => ?_) (fun h6 => ?_)
  ·obtain ⟨h6a, h6b⟩ := Xd h6
   replace h6a := dt h6a
   replace h6b := dt h6b
   refine Zc <| Za <| JLA rfl <| Zb <| Zj <| ⟨iv 1, [], Ret.one rfl (RV.tmp rfl), Sub.nil, ?_⟩
   exact ⟨by first | (simp_all [more]; done) | (congr 1; unfold more; simp_all; try omega), rfl⟩
  refine Zc <| Za <| JLM rfl <| JLn (Pu.eql rfl rfl) <| JLM rfl <| ZA 2 [24, 25] [(25, cond (decide (k = 12)) (.bool (decide (1 < j))) undef)] ?_ fun f8 => ?_
  ·cases h7 : (decide (k = 12)) with
   | true =>
    replace h7 := dt h7
    refine JLM rfl <| JLn (Pu.gtr rfl rfl) ?_
    exact Zb ⟨⟨rfl, trivial⟩, rfl⟩
   | false =>
    exact ZL rfl ⟨rfl, trivial⟩
  refine JLn (Pu.pickAnd rfl rfl rfl) <| JLA rfl <| Zb <| Zg rfl (fun h9 => ?_) (fun h9 => ?_)
  ·obtain ⟨h9a, h9b⟩ := Xd h9
   replace h9a := dt h9a
   replace h9b := dt h9b
   refine Zc <| Za <| JLA rfl <| Zb <| Zj <| ⟨iv 2, [], Ret.one rfl (RV.tmp rfl), Sub.nil, ?_⟩
   exact ⟨by first | (simp_all [more]; done) | (congr 1; unfold more; simp_all; try omega), rfl⟩
  refine Zm <| Zc <| Za <| JLA rfl <| Zb <| Zj <| ⟨iv 0, [], Ret.one rfl (RV.tmp rfl), Sub.nil, ?_⟩
  exact ⟨by first | (simp_all [more]; done) | (congr 1; unfold more; simp_all; try omega), rfl⟩
 refine Za <| JLM rfl <| JLn (Pu.eql rfl rfl) <| JLM rfl <| ZA 2 [17, 18] [(18, cond (decide (k = 12)) (.bool (decide (j = 1))) undef)] ?_ fun f11 => ?_
 ·cases h10 : (decide (k = 12)) with
  | true =>
   replace h10 := dt h10
   refine JLM rfl <| JLn (Pu.eql rfl rfl) ?_
   exact Zb ⟨⟨rfl, trivial⟩, rfl⟩
  | false =>
   exact ZL rfl ⟨rfl, trivial⟩
 refine JLn (Pu.pickAnd rfl rfl rfl) <| JLA rfl <| Zb <| Zg rfl (fun h12 => ?_) (fun h12 => ?_)
 ·obtain ⟨h12a, h12b⟩ := Xd h12
  replace h12a := dt h12a
  replace h12b := dt h12b
  refine Zc <| Za <| JLA rfl <| Zb <| Zj <| ⟨iv 1, [], Ret.one rfl (RV.tmp rfl), Sub.nil, ?_⟩
  exact ⟨by first | (simp_all [more]; done) | (congr 1; unfold more; simp_all; try omega), rfl⟩
 refine Zc <| Za <| JLM rfl <| JLn (Pu.eql rfl rfl) <| JLM rfl <| ZA 2 [24, 25] [(25, cond (decide (k = 12)) (.bool (decide (1 < j))) undef)] ?_ fun f14 => ?_
 ·cases h13 : (decide (k = 12)) with
  | true =>
   replace h13 := dt h13
   refine JLM rfl <| JLn (Pu.gtr rfl rfl) ?_
   exact Zb ⟨⟨rfl, trivial⟩, rfl⟩
  | false =>
   exact ZL rfl ⟨rfl, trivial⟩
 refine JLn (Pu.pickAnd rfl rfl rfl) <| JLA rfl <| Zb <| Zg rfl (fun h15 => ?_) (fun h15 => ?_)
 ·obtain ⟨h15a, h15b⟩ := Xd h15
  replace h15a := dt h15a
  replace h15b := dt h15b
  refine Zc <| Za <| JLA rfl <| Zb <| Zj <| ⟨iv 2, [], Ret.one rfl (RV.tmp rfl), Sub.nil, ?_⟩
  exact ⟨by first | (simp_all [more]; done) | (congr 1; unfold more; simp_all; try omega), rfl⟩
 refine Zm <| Zc <| Za <| JLA rfl <| Zb <| Zj <| ⟨iv 0, [], Ret.one rfl (RV.tmp rfl), Sub.nil, ?_⟩
 exact ⟨by first | (simp_all [more]; done) | (congr 1; unfold more; simp_all; try omega), rfl⟩
theorem YG (n lo hi : Int) (H : Heap) : CT Tryz.prog 45 ⟨[iv n, iv lo, iv hi]⟩ [] H (fun v N => v = .bool (decide (n < lo ∨ hi < n)) ∧ N = []) := by
 refine Zk Tryz.func45 rfl rfl <| Zc <| Za <| JLA rfl <| Zb <| Zc <| Za <| JLM rfl <| JLM rfl <| JLn (Pu.lss rfl rfl) <| JLM rfl <| ZA 3 [11, 12, 13] [(13, cond (decide (n < lo)) undef (.bool (decide (hi < n))))] ?_ fun f2 => ?_
 ·cases h1 : (decide (n < lo)) with
  | false =>
   replace h1 := df h1
   refine JLM rfl <| JLM rfl <| JLn (Pu.gtr rfl rfl) ?_
   exact Zb ⟨⟨rfl, trivial⟩, rfl⟩
  | true =>
   exact ZL rfl ⟨rfl, trivial⟩
 refine JLn (Pu.pickOr rfl rfl rfl) <| JLA rfl <| Zb <| Zj <| ⟨.bool ((decide (n < lo)) || (decide (hi < n))), [], Ret.one rfl (RV.tmp rfl), Sub.nil, ?_⟩
 exact ⟨by simp, rfl⟩
theorem binds_ct : ∀ (p : Pt) (cs : List Value) (H : Heap), RP H cs p → binds p ≤ 1000000 → CT Tryz.prog 83 ⟨[.agg ⟨cs⟩]⟩ [] H (fun v N => v = iv (binds p : Int) ∧ N = []) := by
 intro p
 induction p using Pt.ind with
 | h kind num ref kids ih =>
 intro cs H hp hb
 obtain ⟨ks, rfl, hk, hn, hks⟩ := RP_mk.1 hp
 rw [binds] at hb ⊢
 refine Zk Tryz.func83 rfl rfl <| Zc <| Za <| JLr (Zr (l := pkP kind num ref ks) rfl rfl fun b1 => JLA rfl <| Zb <| Zc <| Zc <| Za <| JLq (pp b1 0) (YZ rfl rfl) <| JLr (Ze ty3 rfl (At.bx 0 rfl) (pkP_0 ..) <| JLn (Pu.eql rfl rfl) <| Zb ?_))
 refine Zg rfl (fun h2 => ?_) (fun h2 => ?_)
 ·replace h2 := dt h2
  refine Zc <| Za <| JLA rfl <| Zb <| Zj <| ⟨iv 1, [], Ret.one rfl (RV.tmp rfl), Sub.nil, ?_⟩
  exact ⟨by rw [if_pos (by assumption)]; rfl, rfl⟩
 replace h2 := df h2
 refine Zm <| Zc <| Za <| JLA rfl <| Zb <| Zc <| Zc <| Za <| JLq (pp b1 34) (YY rfl rfl) <| JLr (Ze ty83 rfl (At.bx 0 rfl) (Xm ..) ?_)
 obtain ⟨a3, cap3, hv3⟩ := hks.sl
 have hle3 := hks.le
 refine JLn (Pu.lenSl Tryz.runUnderlying83 hv3) <| JLM rfl <| Zb <| Zq <| ZS (fun k ρ M => ∃ (j : Nat), ρ 2 = iv 0 ∧ ρ 3 = iv ((YC (kids.take j) : Int)) ∧ ρ 10 = ks ∧ ρ 11 = iv ((kids.length : Int)) ∧ ρ 12 = iv ((j : Int)) ∧ Sub [(BX b1 (pkP kind num ref ks) 85)] M ∧ j ≤ kids.length ∧ k = kids.length - j) _ ⟨0, rfl, rfl, rfl, rfl, rfl, (Sk Sub.nil), Nat.zero_le _, rfl⟩ ?_
 rintro _ ρ4 _ ⟨j, e5, e6, e7, e8, e9, hm10, hj, rfl⟩
 obtain ⟨ρ11, rfl⟩ := Zo (uc e5 (uc e6 (uc e7 (uc e8 (uc e9 un)))))
 clear e5 e6 e7 e8 e9
 refine ZY hm10 ?_
 have hlen := hks.le
 refine Zc <| Za <| JLn (Pu.lss rfl rfl) <| Zb <| Zc <| Zg rfl (fun h12 => ?_) (fun h12 => ?_)
 ·replace h12 := dt h12
  have h12n : j < kids.length := by omega
  have hm1 := binds_mem kids _ (List.getElem_mem h12n)
  have hm2 := bindsL_take kids _ h12n
  have hm3 := bindsL_take_le kids (j + 1)
  rw [if_neg (by assumption)] at hb
  refine Zm <| Zc <| Zq <| Zc <| Za ?_
  obtain ⟨b13, o13, cap13, row13, T13, fr13, cs13, hv13, hb13, hs13, hE13⟩ := hks.get j (by first | assumption | omega | decide | simp)
  refine JLq (pp b13 (o13 + j * 35)) (Pu.idx j Tryz.runUnderlying83 Z1 hv13 rfl rfl (by first | assumption | omega | decide | simp)) <| JLr (Zl Z1 rfl (At.im hb13) hs13 <| JLr (Zi (l := pkP 0 0 zS nS) Tryz.zeroValue85 rfl fun b14 => JLr (Zd 0 (vs := cs13) (l := cs13) Z1 rfl rfl rfl rfl (ZJ hE13) (RP_ok hE13) (ZD (n := 35) rfl (ZJ hE13)) <| Zb <| Za <| JLM rfl <| JLr (Zl Z1 rfl (At.bx 0 rfl) (Zu (ZJ hE13)) <| Jc Tryz.call83 rfl (fun hin => ih _ (List.getElem_mem h12n) _ _ (RP.mono (Hle.hu _ _) hE13) (by omega)) rfl ?_))))
  rintro _ _ ⟨rfl, rfl⟩
  refine JLn (Pu.add64 rfl rfl (by first | omega | (constructor <;> omega))) <| JLA rfl <| Zb <| Za <| JLn (Pu.inc rfl rfl (by omega)) <| JLM rfl <| Zb <| ⟨_, ?_, (j + 1), rfl, (ieq rfl (by omega)), rfl, rfl, rfl, (Sd (Sk Sub.nil)), ?_, rfl⟩
  ·omega
  omega
 replace h12 := df h12
 have h12n : kids.length ≤ j := by omega
 refine ZB _ rfl <| Zc <| Za <| JLM rfl <| JLA rfl <| Zb <| Zj <| ⟨iv ((YC (kids.take j) : Int)), [], Ret.one rfl (RV.tmp rfl), Sub.nil, ?_⟩
 exact ⟨by rw [if_neg (by assumption), List.take_of_length_le h12n], rfl⟩
end Go.Proofs.YtjhenmdcnbaobaaGreat.Hs
/-! Walks, printed by a program of this session's own (gen.py). -/
namespace Go.Proofs.YtjhenmdcnbaobaaGreat.Hs
open Go Go.Proofs
set_option maxRecDepth 100000
set_option linter.unusedVariables false
set_option linter.unusedSimpArgs false
attribute [local irreducible] JL J CT wlo DT
theorem idxP_ct (g : Nat) (fs cv : List Value) (hcall : ∀ args w, (callFunc g args).run Tryz.prog w = .ok (.enter g args) w) {σ : Type} (Sc : σ → Zh) (Inv : σ → Prop) (step : Pt → σ → Bool × σ) (l : List Pt) (v : Value) (H : Heap) (hl : rdS RP 35 H v l) (s0 : σ) (h0 : Inv s0) (hI : ∀ x ∈ l, ∀ s, Inv s → (step x s).1 = false → Inv (step x s).2) (hg : ∀ x ∈ l, ∀ s, Inv s → ∀ a h, Hle H h → RP h a x → CT Tryz.prog g ⟨fs ++ [.agg ⟨a⟩] ++ cv⟩ [Sc s] h (fun v N => v = .bool (step x s).1 ∧ N = [Sc (step x s).2])) : CT Tryz.prog 155 ⟨[v, .func (.func g) ⟨fs⟩ ⟨cv⟩]⟩ [Sc s0] H (fun v N => v = iv (idxS step l 0 s0).1 ∧ N = [Sc (idxS step l 0 s0).2]) := by
 refine Zk Tryz.func155 rfl rfl <| Zc <| Za <| JLA rfl <| Zb <| Zc <| Zc <| Za <| JLm v ?_
 obtain ⟨a1, cap1, hv1⟩ := hl.sl
 have hle1 := hl.le
 refine JLn (Pu.lenSl Tryz.runUnderlying83 hv1) <| JLM rfl <| Zb <| Zq <| ZS (fun k ρ M => ∃ (j : Nat) (s : σ), ρ 0 = v ∧ ρ 1 = .func (.func g) ⟨fs⟩ ⟨cv⟩ ∧ ρ 4 = iv 0 ∧ ρ 7 = iv ((l.length : Int)) ∧ ρ 8 = iv ((j : Int)) ∧ Sub [Sc s] M ∧ j ≤ l.length ∧ Inv s ∧ idxS step (l.drop j) j s = idxS step l 0 s0 ∧ k = l.length - j) _ ⟨0, s0, rfl, rfl, rfl, rfl, rfl, (Sk Sub.nil), Nat.zero_le _, h0, rfl, rfl⟩ ?_
 rintro _ ρ2 _ ⟨j, s, e3, e4, e5, e6, e7, hm8, hj, hs, hinv, rfl⟩
 obtain ⟨ρ9, rfl⟩ := Zo (uc e3 (uc e4 (uc e5 (uc e6 (uc e7 un)))))
 clear e3 e4 e5 e6 e7
 refine ZY hm8 <| Zc <| Za <| JLn (Pu.lss rfl rfl) <| Zb <| Zc <| Zg rfl (fun h10 => ?_) (fun h10 => ?_)
 ·replace h10 := dt h10
  have h10n : j < l.length := by omega
  have hlenl := hl.le
  refine Zm <| Zc <| Zq <| Zc <| Za <| JLM rfl <| JLA rfl <| Zb <| Zc <| Za <| JLM rfl <| JLm v <| JLM rfl ?_
  obtain ⟨b11, o11, cap11, row11, T11, fr11, cs11, hv11, hb11, hs11, hE11⟩ := hl.get j (by first | assumption | omega | decide | simp)
  refine JLq (pp b11 (o11 + j * 35)) (Pu.idx j Tryz.runUnderlying83 Z1 hv11 rfl rfl (by first | assumption | omega | decide | simp)) <| JLr (Zl Z1 rfl (At.im hb11) hs11 <| Zs 0 rfl hcall rfl rfl (fun hin => hg _ (List.getElem_mem h10n) _ hs _ _ (Hle.hu _ _) (RP.mono (Hle.hu _ _) hE11)) rfl ?_)
  rintro _ _ ⟨rfl, rfl⟩
  refine Zb <| Zg rfl (fun h12 => ?_) (fun h12 => ?_)
  ·refine Zc <| Za <| JLM rfl <| JLA rfl <| Zb <| Zj <| ⟨iv ((j : Int)), [Sc (step (l[j]) s).2], Ret.one rfl (RV.tmp rfl), (Sk Sub.nil), ?_⟩
   refine ⟨?_, ?_⟩ <;> rw [← hinv, YE h10n, idxS, if_pos h12]
  refine Zm <| Za <| JLn (Pu.inc rfl rfl (by omega)) <| JLM rfl <| Zb <| ⟨_, ?_, (j + 1), ((step (l[j]) s).2), rfl, rfl, rfl, rfl, rfl, (Sk Sub.nil), ?_, ?_, ?_, rfl⟩
  ·omega
  ·omega
  ·exact hI _ (List.getElem_mem h10n) s hs h12
  rw [YE h10n, idxS, if_neg (by simp [h12])] at hinv; exact hinv
 replace h10 := df h10
 have h10n : l.length ≤ j := by omega
 refine ZB _ rfl <| Zc <| Za <| JLA rfl <| Zb <| Zj <| ⟨iv (-1), [Sc s], Ret.one rfl (RV.tmp rfl), (Sk Sub.nil), ?_⟩
 refine ⟨?_, ?_⟩ <;> rw [← hinv, dropn h10n] <;> rfl
theorem idxT_ct (g : Nat) (fs cv : List Value) (hcall : ∀ args w, (callFunc g args).run Tryz.prog w = .ok (.enter g args) w) {σ : Type} (Sc : σ → Zh) (Inv : σ → Prop) (step : Tm → σ → Bool × σ) (l : List Tm) (v : Value) (H : Heap) (hl : rdS RT 36 H v l) (s0 : σ) (h0 : Inv s0) (hI : ∀ x ∈ l, ∀ s, Inv s → (step x s).1 = false → Inv (step x s).2) (hg : ∀ x ∈ l, ∀ s, Inv s → ∀ a h, Hle H h → RT h a x → CT Tryz.prog g ⟨fs ++ [.agg ⟨a⟩] ++ cv⟩ [Sc s] h (fun v N => v = .bool (step x s).1 ∧ N = [Sc (step x s).2])) : CT Tryz.prog 135 ⟨[v, .func (.func g) ⟨fs⟩ ⟨cv⟩]⟩ [Sc s0] H (fun v N => v = iv (idxS step l 0 s0).1 ∧ N = [Sc (idxS step l 0 s0).2]) := by
 refine Zk Tryz.func135 rfl rfl <| Zc <| Za <| JLA rfl <| Zb <| Zc <| Zc <| Za <| JLm v ?_
 obtain ⟨a1, cap1, hv1⟩ := hl.sl
 have hle1 := hl.le
 refine JLn (Pu.lenSl Tryz.runUnderlying25 hv1) <| JLM rfl <| Zb <| Zq <| ZS (fun k ρ M => ∃ (j : Nat) (s : σ), ρ 0 = v ∧ ρ 1 = .func (.func g) ⟨fs⟩ ⟨cv⟩ ∧ ρ 4 = iv 0 ∧ ρ 7 = iv ((l.length : Int)) ∧ ρ 8 = iv ((j : Int)) ∧ Sub [Sc s] M ∧ j ≤ l.length ∧ Inv s ∧ idxS step (l.drop j) j s = idxS step l 0 s0 ∧ k = l.length - j) _ ⟨0, s0, rfl, rfl, rfl, rfl, rfl, (Sk Sub.nil), Nat.zero_le _, h0, rfl, rfl⟩ ?_
 rintro _ ρ2 _ ⟨j, s, e3, e4, e5, e6, e7, hm8, hj, hs, hinv, rfl⟩
 obtain ⟨ρ9, rfl⟩ := Zo (uc e3 (uc e4 (uc e5 (uc e6 (uc e7 un)))))
 clear e3 e4 e5 e6 e7
 refine ZY hm8 <| Zc <| Za <| JLn (Pu.lss rfl rfl) <| Zb <| Zc <| Zg rfl (fun h10 => ?_) (fun h10 => ?_)
 ·replace h10 := dt h10
  have h10n : j < l.length := by omega
  have hlenl := hl.le
  refine Zm <| Zc <| Zq <| Zc <| Za <| JLM rfl <| JLA rfl <| Zb <| Zc <| Za <| JLM rfl <| JLm v <| JLM rfl ?_
  obtain ⟨b11, o11, cap11, row11, T11, fr11, cs11, hv11, hb11, hs11, hE11⟩ := hl.get j (by first | assumption | omega | decide | simp)
  refine JLq (pp b11 (o11 + j * 36)) (Pu.idx j Tryz.runUnderlying25 Zt hv11 rfl rfl (by first | assumption | omega | decide | simp)) <| JLr (Zl Zt rfl (At.im hb11) hs11 <| Zs 0 rfl hcall rfl rfl (fun hin => hg _ (List.getElem_mem h10n) _ hs _ _ (Hle.hu _ _) (RT.mono (Hle.hu _ _) hE11)) rfl ?_)
  rintro _ _ ⟨rfl, rfl⟩
  refine Zb <| Zg rfl (fun h12 => ?_) (fun h12 => ?_)
  ·refine Zc <| Za <| JLM rfl <| JLA rfl <| Zb <| Zj <| ⟨iv ((j : Int)), [Sc (step (l[j]) s).2], Ret.one rfl (RV.tmp rfl), (Sk Sub.nil), ?_⟩
   refine ⟨?_, ?_⟩ <;> rw [← hinv, YE h10n, idxS, if_pos h12]
  refine Zm <| Za <| JLn (Pu.inc rfl rfl (by omega)) <| JLM rfl <| Zb <| ⟨_, ?_, (j + 1), ((step (l[j]) s).2), rfl, rfl, rfl, rfl, rfl, (Sk Sub.nil), ?_, ?_, ?_, rfl⟩
  ·omega
  ·omega
  ·exact hI _ (List.getElem_mem h10n) s hs h12
  rw [YE h10n, idxS, if_neg (by simp [h12])] at hinv; exact hinv
 replace h10 := df h10
 have h10n : l.length ≤ j := by omega
 refine ZB _ rfl <| Zc <| Za <| JLA rfl <| Zb <| Zj <| ⟨iv (-1), [Sc s], Ret.one rfl (RV.tmp rfl), (Sk Sub.nil), ?_⟩
 refine ⟨?_, ?_⟩ <;> rw [← hinv, dropn h10n] <;> rfl
theorem idxC_ct (g : Nat) (fs cv : List Value) (hcall : ∀ args w, (callFunc g args).run Tryz.prog w = .ok (.enter g args) w) {σ : Type} (Sc : σ → Zh) (Inv : σ → Prop) (step : (Pt × Tm) → σ → Bool × σ) (l : List (Pt × Tm)) (v : Value) (H : Heap) (hl : rdS RC 71 H v l) (s0 : σ) (h0 : Inv s0) (hI : ∀ x ∈ l, ∀ s, Inv s → (step x s).1 = false → Inv (step x s).2) (hg : ∀ x ∈ l, ∀ s, Inv s → ∀ a h, Hle H h → RC h a x → CT Tryz.prog g ⟨fs ++ [.agg ⟨a⟩] ++ cv⟩ [Sc s] h (fun v N => v = .bool (step x s).1 ∧ N = [Sc (step x s).2])) : CT Tryz.prog 136 ⟨[v, .func (.func g) ⟨fs⟩ ⟨cv⟩]⟩ [Sc s0] H (fun v N => v = iv (idxS step l 0 s0).1 ∧ N = [Sc (idxS step l 0 s0).2]) := by
 refine Zk Tryz.func136 rfl rfl <| Zc <| Za <| JLA rfl <| Zb <| Zc <| Zc <| Za <| JLm v ?_
 obtain ⟨a1, cap1, hv1⟩ := hl.sl
 have hle1 := hl.le
 refine JLn (Pu.lenSl Tryz.runUnderlying26 hv1) <| JLM rfl <| Zb <| Zq <| ZS (fun k ρ M => ∃ (j : Nat) (s : σ), ρ 0 = v ∧ ρ 1 = .func (.func g) ⟨fs⟩ ⟨cv⟩ ∧ ρ 4 = iv 0 ∧ ρ 7 = iv ((l.length : Int)) ∧ ρ 8 = iv ((j : Int)) ∧ Sub [Sc s] M ∧ j ≤ l.length ∧ Inv s ∧ idxS step (l.drop j) j s = idxS step l 0 s0 ∧ k = l.length - j) _ ⟨0, s0, rfl, rfl, rfl, rfl, rfl, (Sk Sub.nil), Nat.zero_le _, h0, rfl, rfl⟩ ?_
 rintro _ ρ2 _ ⟨j, s, e3, e4, e5, e6, e7, hm8, hj, hs, hinv, rfl⟩
 obtain ⟨ρ9, rfl⟩ := Zo (uc e3 (uc e4 (uc e5 (uc e6 (uc e7 un)))))
 clear e3 e4 e5 e6 e7
 refine ZY hm8 <| Zc <| Za <| JLn (Pu.lss rfl rfl) <| Zb <| Zc <| Zg rfl (fun h10 => ?_) (fun h10 => ?_)
 ·replace h10 := dt h10
  have h10n : j < l.length := by omega
  have hlenl := hl.le
  refine Zm <| Zc <| Zq <| Zc <| Za <| JLM rfl <| JLA rfl <| Zb <| Zc <| Za <| JLM rfl <| JLm v <| JLM rfl ?_
  obtain ⟨b11, o11, cap11, row11, T11, fr11, cs11, hv11, hb11, hs11, hE11⟩ := hl.get j (by first | assumption | omega | decide | simp)
  obtain ⟨ca11, cb11, rfl, hA11, hB11⟩ := hE11
  refine JLq (pp b11 (o11 + j * 71)) (Pu.idx j Tryz.runUnderlying26 ty87 hv11 rfl rfl (by first | assumption | omega | decide | simp)) <| JLr (Zl ty87 rfl (At.im hb11) hs11 <| Zs 0 rfl hcall rfl rfl (fun hin => hg _ (List.getElem_mem h10n) _ hs _ _ (Hle.hu _ _) (RC.mono (Hle.hu _ _) (RC_mk hA11 hB11))) rfl ?_)
  rintro _ _ ⟨rfl, rfl⟩
  refine Zb <| Zg rfl (fun h12 => ?_) (fun h12 => ?_)
  ·refine Zc <| Za <| JLM rfl <| JLA rfl <| Zb <| Zj <| ⟨iv ((j : Int)), [Sc (step (l[j]) s).2], Ret.one rfl (RV.tmp rfl), (Sk Sub.nil), ?_⟩
   refine ⟨?_, ?_⟩ <;> rw [← hinv, YE h10n, idxS, if_pos h12]
  refine Zm <| Za <| JLn (Pu.inc rfl rfl (by omega)) <| JLM rfl <| Zb <| ⟨_, ?_, (j + 1), ((step (l[j]) s).2), rfl, rfl, rfl, rfl, rfl, (Sk Sub.nil), ?_, ?_, ?_, rfl⟩
  ·omega
  ·omega
  ·exact hI _ (List.getElem_mem h10n) s hs h12
  rw [YE h10n, idxS, if_neg (by simp [h12])] at hinv; exact hinv
 replace h10 := df h10
 have h10n : l.length ≤ j := by omega
 refine ZB _ rfl <| Zc <| Za <| JLA rfl <| Zb <| Zj <| ⟨iv (-1), [Sc s], Ret.one rfl (RV.tmp rfl), (Sk Sub.nil), ?_⟩
 refine ⟨?_, ?_⟩ <;> rw [← hinv, dropn h10n] <;> rfl
theorem containsP_ct (g : Nat) (fs cv : List Value) (hcall : ∀ args w, (callFunc g args).run Tryz.prog w = .ok (.enter g args) w) {σ : Type} (Sc : σ → Zh) (Inv : σ → Prop) (step : Pt → σ → Bool × σ) (l : List Pt) (v : Value) (H : Heap) (hl : rdS RP 35 H v l) (s0 : σ) (h0 : Inv s0) (hI : ∀ x ∈ l, ∀ s, Inv s → (step x s).1 = false → Inv (step x s).2) (hg : ∀ x ∈ l, ∀ s, Inv s → ∀ a h, Hle H h → RP h a x → CT Tryz.prog g ⟨fs ++ [.agg ⟨a⟩] ++ cv⟩ [Sc s] h (fun v N => v = .bool (step x s).1 ∧ N = [Sc (step x s).2])) : CT Tryz.prog 137 ⟨[v, .func (.func g) ⟨fs⟩ ⟨cv⟩]⟩ [Sc s0] H (fun v N => v = .bool (YO step l s0).1 ∧ N = [Sc (YO step l s0).2]) := by
 refine Zk Tryz.func137 rfl rfl <| Zc <| Za <| JLA rfl <| Zb <| Zc <| Za <| JLm v <| JLM rfl <| Zs 0 rfl Tryz.call155 rfl rfl (fun hin => idxP_ct g fs cv hcall Sc Inv step _ _ _ (RPs.mono (Hle.hu _ _) hl) s0 h0 hI (fun x hx s hs a h hh ra => hg x hx s hs a h (Hle.trans (Hle.hu _ _) hh) ra)) rfl ?_
 rintro _ _ ⟨rfl, rfl⟩
 refine JLn (Pu.geq rfl rfl) <| JLA rfl <| Zb <| Zj <| ⟨.bool (decide (0 ≤ (idxS step l 0 s0).1)), [Sc (idxS step l 0 s0).2], Ret.one rfl (RV.tmp rfl), (Sk Sub.nil), ?_⟩
 exact ⟨by rw [(idxS_any step l 0 s0).1], by rw [(idxS_any step l 0 s0).2]⟩
theorem containsT_ct (g : Nat) (fs cv : List Value) (hcall : ∀ args w, (callFunc g args).run Tryz.prog w = .ok (.enter g args) w) {σ : Type} (Sc : σ → Zh) (Inv : σ → Prop) (step : Tm → σ → Bool × σ) (l : List Tm) (v : Value) (H : Heap) (hl : rdS RT 36 H v l) (s0 : σ) (h0 : Inv s0) (hI : ∀ x ∈ l, ∀ s, Inv s → (step x s).1 = false → Inv (step x s).2) (hg : ∀ x ∈ l, ∀ s, Inv s → ∀ a h, Hle H h → RT h a x → CT Tryz.prog g ⟨fs ++ [.agg ⟨a⟩] ++ cv⟩ [Sc s] h (fun v N => v = .bool (step x s).1 ∧ N = [Sc (step x s).2])) : CT Tryz.prog 109 ⟨[v, .func (.func g) ⟨fs⟩ ⟨cv⟩]⟩ [Sc s0] H (fun v N => v = .bool (YO step l s0).1 ∧ N = [Sc (YO step l s0).2]) := by
 refine Zk Tryz.func109 rfl rfl <| Zc <| Za <| JLA rfl <| Zb <| Zc <| Za <| JLm v <| JLM rfl <| Zs 0 rfl Tryz.call135 rfl rfl (fun hin => idxT_ct g fs cv hcall Sc Inv step _ _ _ (RTs.mono (Hle.hu _ _) hl) s0 h0 hI (fun x hx s hs a h hh ra => hg x hx s hs a h (Hle.trans (Hle.hu _ _) hh) ra)) rfl ?_
 rintro _ _ ⟨rfl, rfl⟩
 refine JLn (Pu.geq rfl rfl) <| JLA rfl <| Zb <| Zj <| ⟨.bool (decide (0 ≤ (idxS step l 0 s0).1)), [Sc (idxS step l 0 s0).2], Ret.one rfl (RV.tmp rfl), (Sk Sub.nil), ?_⟩
 exact ⟨by rw [(idxS_any step l 0 s0).1], by rw [(idxS_any step l 0 s0).2]⟩
theorem containsC_ct (g : Nat) (fs cv : List Value) (hcall : ∀ args w, (callFunc g args).run Tryz.prog w = .ok (.enter g args) w) {σ : Type} (Sc : σ → Zh) (Inv : σ → Prop) (step : (Pt × Tm) → σ → Bool × σ) (l : List (Pt × Tm)) (v : Value) (H : Heap) (hl : rdS RC 71 H v l) (s0 : σ) (h0 : Inv s0) (hI : ∀ x ∈ l, ∀ s, Inv s → (step x s).1 = false → Inv (step x s).2) (hg : ∀ x ∈ l, ∀ s, Inv s → ∀ a h, Hle H h → RC h a x → CT Tryz.prog g ⟨fs ++ [.agg ⟨a⟩] ++ cv⟩ [Sc s] h (fun v N => v = .bool (step x s).1 ∧ N = [Sc (step x s).2])) : CT Tryz.prog 110 ⟨[v, .func (.func g) ⟨fs⟩ ⟨cv⟩]⟩ [Sc s0] H (fun v N => v = .bool (YO step l s0).1 ∧ N = [Sc (YO step l s0).2]) := by
 refine Zk Tryz.func110 rfl rfl <| Zc <| Za <| JLA rfl <| Zb <| Zc <| Za <| JLm v <| JLM rfl <| Zs 0 rfl Tryz.call136 rfl rfl (fun hin => idxC_ct g fs cv hcall Sc Inv step _ _ _ (RCs.mono (Hle.hu _ _) hl) s0 h0 hI (fun x hx s hs a h hh ra => hg x hx s hs a h (Hle.trans (Hle.hu _ _) hh) ra)) rfl ?_
 rintro _ _ ⟨rfl, rfl⟩
 refine JLn (Pu.geq rfl rfl) <| JLA rfl <| Zb <| Zj <| ⟨.bool (decide (0 ≤ (idxS step l 0 s0).1)), [Sc (idxS step l 0 s0).2], Ret.one rfl (RV.tmp rfl), (Sk Sub.nil), ?_⟩
 exact ⟨by rw [(idxS_any step l 0 s0).1], by rw [(idxS_any step l 0 s0).2]⟩
end Go.Proofs.YtjhenmdcnbaobaaGreat.Hs
/-! Walks, printed by a program of this session's own (gen.py). -/
namespace Go.Proofs.YtjhenmdcnbaobaaGreat.Hs
open Go Go.Proofs
set_option maxRecDepth 100000
set_option linter.unusedVariables false
set_option linter.unusedSimpArgs false
attribute [local irreducible] JL J CT wlo DT
theorem longPK_ct : ∀ (x : Pt) (d s : Int) (a : List Value) (H : Heap) (bL bA bD : Nat), RP H a x → H bA = some (.cells ⟨[pp bL 0]⟩ 120 (0, 0)) → H bD = some (.cells ⟨[iv d]⟩ 3 (0, 0)) → 0 ≤ d → d ≤ 100 → (∀ h a, Hle H h → RP h a x → CT Tryz.prog 112 ⟨[pp bL 0, .agg ⟨a⟩, iv (d + 1)]⟩ [(BX bL [iv s] 77)] h (fun v N => v = .bool (cnP stL (d + 1) x s).1 ∧ N = [(BX bL [iv ((cnP stL (d + 1) x s).2)] 77)])) → CT Tryz.prog 138 ⟨[.agg ⟨a⟩, pp bA 0, pp bD 0]⟩ [(BX bL [iv s] 77)] H (fun v N => v = .bool (cnP stL (d + 1) x s).1 ∧ N = [(BX bL [iv ((cnP stL (d + 1) x s).2)] 77)]) := by
 intro x d s a H bL bA bD ra hH1 hH5 hd0 hd1 hg
 refine Zk Tryz.func138 rfl rfl <| Zc <| Za <| JLr (Zr (l := a) rfl rfl fun b1 => JLA rfl <| Zb <| Zc <| Za <| JLr (Ze ty120 rfl (At.im hH1) rfl <| JLr (Zl Z1 rfl (At.bx 0 rfl) (Zu (ZJ ra)) <| JLr (Ze ty3 rfl (At.im hH5) rfl <| JLn (Pu.add64 rfl rfl (by first | omega | (constructor <;> omega))) <| Zs 1 rfl Tryz.call112 rfl rfl (fun hin => hg _ _ (Hle.hu _ _) (RP.mono (Hle.hu _ _) ra)) rfl ?_))))
 rintro _ _ ⟨rfl, rfl⟩
 refine JLA rfl <| Zb <| Zj <| ⟨.bool ((cnP stL (d + 1) x s).1), [(BX bL [iv ((cnP stL (d + 1) x s).2)] 77)], Ret.one rfl (RV.tmp rfl), (Sk Sub.nil), ?_⟩
 exact ⟨rfl, rfl⟩
theorem longTK_ct : ∀ (x : Tm) (d s : Int) (a : List Value) (H : Heap) (bL bA bD : Nat), RT H a x → H bA = some (.cells ⟨[pp bL 0]⟩ 120 (0, 0)) → H bD = some (.cells ⟨[iv d]⟩ 3 (0, 0)) → 0 ≤ d → d ≤ 100 → (∀ h a, Hle H h → RT h a x → CT Tryz.prog 58 ⟨[pp bL 0, .agg ⟨a⟩, iv (d + 1)]⟩ [(BX bL [iv s] 77)] h (fun v N => v = .bool (cnT stL (d + 1) x s).1 ∧ N = [(BX bL [iv ((cnT stL (d + 1) x s).2)] 77)])) → CT Tryz.prog 108 ⟨[.agg ⟨a⟩, pp bA 0, pp bD 0]⟩ [(BX bL [iv s] 77)] H (fun v N => v = .bool (cnT stL (d + 1) x s).1 ∧ N = [(BX bL [iv ((cnT stL (d + 1) x s).2)] 77)]) := by
 intro x d s a H bL bA bD ra hH1 hH5 hd0 hd1 hg
 refine Zk Tryz.func108 rfl rfl <| Zc <| Za <| JLr (Zr (l := a) rfl rfl fun b1 => JLA rfl <| Zb <| Zc <| Za <| JLr (Ze ty120 rfl (At.im hH1) rfl <| JLr (Zl Zt rfl (At.bx 0 rfl) (Zu (Zv ra)) <| JLr (Ze ty3 rfl (At.im hH5) rfl <| JLn (Pu.add64 rfl rfl (by first | omega | (constructor <;> omega))) <| Zs 1 rfl Tryz.call58 rfl rfl (fun hin => hg _ _ (Hle.hu _ _) (RT.mono (Hle.hu _ _) ra)) rfl ?_))))
 rintro _ _ ⟨rfl, rfl⟩
 refine JLA rfl <| Zb <| Zj <| ⟨.bool ((cnT stL (d + 1) x s).1), [(BX bL [iv ((cnT stL (d + 1) x s).2)] 77)], Ret.one rfl (RV.tmp rfl), (Sk Sub.nil), ?_⟩
 exact ⟨rfl, rfl⟩
theorem longP_ct : ∀ (p : Pt) (d n : Int) (cs : List Value) (H : Heap) (bL : Nat), RP H cs p → 0 ≤ n → n ≤ 300 → 0 ≤ d → d ≤ 61 → CT Tryz.prog 112 ⟨[pp bL 0, .agg ⟨cs⟩, iv d]⟩ [(BX bL [iv n] 77)] H (fun v N => v = .bool (cnP stL d p n).1 ∧ N = [(BX bL [iv ((cnP stL d p n).2)] 77)]) := by
 intro p
 induction p using Pt.ind with
 | h kind num ref kids ih =>
 intro d n cs H bL hp hn0 hn1 hd0 hd1
 obtain ⟨ks, rfl, hk, hn, hks⟩ := RP_mk.1 hp
 refine Zk Tryz.func112 rfl rfl <| Zc <| Za <| JLr (Zr (l := [pp bL 0]) rfl rfl fun b1 => JLr (Zr (l := pkP kind num ref ks) rfl rfl fun b2 => JLr (Zr (l := [iv d]) rfl rfl fun b3 => JLA rfl <| Zb <| Zc <| Zc <| Za <| JLr (Ze ty120 rfl (At.bx 2 rfl) rfl <| JLq (pp bL 0) (Pu.nilCheck rfl) ?_))))
 refine JLq (pp bL 0) (fa77_0 rfl rfl) <| JLr (Ze ty3 rfl (At.bx 3 rfl) rfl <| JLn (Pu.add64 rfl rfl (by first | omega | (constructor <;> omega))) <| JLq (pp bL 0) (Pu.nilCheck rfl) <| JLq (pp bL 0) (fa77_0 rfl rfl) <| JLr (Zd 3 (vs := [iv (n + 1)]) (l := [iv (n + 1)]) ty3 rfl rfl rfl rfl rfl (Zf rfl Zn) rfl <| Zb <| Zc <| Za <| JLr (Ze ty120 rfl (At.bx 2 rfl) rfl <| JLq (pp bL 0) (Pu.nilCheck rfl) <| JLq (pp bL 0) (fa77_0 rfl rfl) <| JLr (Ze ty3 rfl (At.bx 3 rfl) rfl ?_))))
 refine JLn (Pu.gtr rfl rfl) <| JLM rfl <| ZA 2 [20, 21] [(21, cond (decide (300 < n + 1)) undef (.bool (decide (60 < d))))] ?_ fun f5 => ?_
 ·cases h4 : (decide (300 < n + 1)) with
  | false =>
   replace h4 := df h4
   refine JLr (Ze ty3 rfl (At.bx 0 rfl) rfl <| JLn (Pu.gtr rfl rfl) ?_)
   exact Zb ⟨⟨rfl, trivial⟩, rfl⟩
  | true =>
   exact ZL rfl ⟨rfl, trivial⟩
 refine JLn (Pu.pickOr rfl rfl rfl) <| Zb <| Zg rfl (fun h6 => ?_) (fun h6 => ?_)
 ·refine Zc <| Za <| JLA rfl <| Zb <| Zj <| ⟨.bool true, [(BX bL [iv (n + 1)] 77)], Ret.one rfl (RV.tmp rfl), (Sd (Sd (Sd (Sk Sub.nil)))), ?_⟩
  refine ⟨?_, ?_⟩ <;> rw [cnP, if_pos (by simpa [stL] using h6)]
 obtain ⟨h6a, h6b⟩ := orF h6
 replace h6a := df h6a
 replace h6b := df h6b
 refine Zm <| Zc <| Za <| JLq (pp b2 34) (YY rfl rfl) <| JLr (Ze ty83 rfl (At.bx 1 rfl) (Xm ..) <| JLq (.func (.func 138) ⟨[]⟩ ⟨[pp b1 0, pp b3 0]⟩) (Pu.makeFunc rfl rfl) <| Zs 3 rfl Tryz.call137 rfl rfl (fun hin => containsP_ct 138 [] [pp b1 0, pp b3 0] (fun _ _ => rfl) (fun n => (BX bL [iv n] 77)) (fun n => 0 ≤ n ∧ n ≤ 300) (cnP stL (d + 1)) _ _ _ (RPs.mono (Hle.hu _ _) hks) (n + 1) ⟨by omega, by omega⟩ (fun x hx s hs hf => cnP_keep stL_le x _ s hs.1 hf) (fun x hx s hs a h hh ra => longPK_ct x d s a h bL b1 b3 ra (hh _ _ (hin 2 _ rfl _ _ List.mem_cons_self)) (hh _ _ (hin 0 _ rfl _ _ List.mem_cons_self)) (by omega) (by omega) (fun h' a' hh' ra' => ih x hx (d + 1) s a' h' bL ra' hs.1 hs.2 (by omega) (by omega)))) rfl ?_)
 rintro _ _ ⟨rfl, rfl⟩
 refine JLA rfl <| Zb <| Zj <| ⟨.bool ((YO (cnP stL (d + 1)) kids (n + 1)).1), [(BX bL [iv ((YO (cnP stL (d + 1)) kids (n + 1)).2)] 77)], Ret.one rfl (RV.tmp rfl), (Sk Sub.nil), ?_⟩
 refine ⟨?_, ?_⟩ <;> rw [cnP, if_neg (by simp [stL]; omega), cnPs_any]
theorem longC_ct : ∀ (c : Pt × Tm) (d n : Int) (a : List Value) (H : Heap) (bL bA bD bK : Nat), RC H a c → 0 ≤ n → n ≤ 300 → 0 ≤ d → d ≤ 60 → H bA = some (.cells ⟨[pp bL 0]⟩ 120 (0, 0)) → H bD = some (.cells ⟨[iv d]⟩ 3 (0, 0)) → H bK = some (.cells ⟨[.func (.func 108) ⟨[]⟩ ⟨[pp bA 0, pp bD 0]⟩]⟩ 169 (0, 0)) → (∀ s a h, Hle H h → RT h a c.2 → 0 ≤ s → s ≤ 300 → CT Tryz.prog 58 ⟨[pp bL 0, .agg ⟨a⟩, iv (d + 1)]⟩ [(BX bL [iv s] 77)] h (fun v N => v = .bool (cnT stL (d + 1) c.2 s).1 ∧ N = [(BX bL [iv ((cnT stL (d + 1) c.2 s).2)] 77)])) → CT Tryz.prog 111 ⟨[.agg ⟨a⟩, pp bA 0, pp bD 0, pp bK 0]⟩ [(BX bL [iv n] 77)] H (fun v N => v = .bool (cnC stL (d + 1) c n).1 ∧ N = [(BX bL [iv ((cnC stL (d + 1) c n).2)] 77)]) := by
 intro c d n a H bL bA bD bK ⟨ca, cb, e1, ra1, ra2⟩ hn0 hn1 hd0 hd1 hH1 hH5 hH7 hg
 subst e1
 refine Zk Tryz.func111 rfl rfl <| Zc <| Za <| JLr (Zr (l := ca ++ cb) rfl rfl fun b1 => JLA rfl <| Zb <| Zc <| Za <| JLr (Ze ty120 rfl (At.im hH1) rfl <| JLq (pp b1 0) (fa87_0 rfl rfl) <| JLr (Zl Z1 rfl (At.bx 0 rfl) (sub_l (ZJ ra1)) <| JLr (Ze ty3 rfl (At.im hH5) rfl <| JLn (Pu.add64 rfl rfl (by first | omega | (constructor <;> omega))) ?_))))
 refine Zs 1 rfl Tryz.call112 rfl rfl (fun hin => longP_ct _ _ _ _ _ _ (RP.mono (Hle.hu _ _) ra1) (by omega) (by omega) (by omega) (by omega)) rfl ?_
 rintro _ _ ⟨rfl, rfl⟩
 refine JLM rfl ?_
 cases h3 : ((cnP stL (d + 1) (c.1) n).1) with
 | true =>
  iterate 4 refine YJ rfl ?_
  refine JLq (.bool true) (Pu.pickT rfl rfl) <| JLA rfl <| Zb <| Zj <| ⟨.bool true, [(BX bL [iv ((cnP stL (d + 1) (c.1) n).2)] 77)], Ret.one rfl (RV.tmp rfl), (Sk Sub.nil), ?_⟩
  refine ⟨?_, ?_⟩ <;> rw [cnC, if_pos h3]
 | false =>
  refine JLr (Ze ty169 rfl (At.im hH7) rfl <| JLq (pp b1 35) (fa87_1 rfl rfl) <| JLr (Zl Zt rfl (At.bx 1 rfl) (sub_r (ZJ ra1) (Zv ra2)) <| Zs 0 rfl Tryz.call108 rfl rfl (fun hin => longTK_ct _ d _ _ _ bL bA bD (RT.mono (Hle.hu _ _) ra2) (Hle.hu _ _ _ _ hH1) (Hle.hu _ _ _ _ hH5) (by omega) (by omega) (fun h' a' hh' ra' => hg _ _ _ (Hle.trans (Hle.hu _ _) hh') ra' (cnP_keep stL_le _ _ _ hn0 h3).1 (cnP_keep stL_le _ _ _ hn0 h3).2)) rfl ?_))
  rintro _ _ ⟨rfl, rfl⟩
  refine JLq (.bool ((cnT stL (d + 1) (c.2) ((cnP stL (d + 1) (c.1) n).2)).1)) (Pu.pickF rfl rfl) <| JLA rfl <| Zb <| Zj <| ⟨.bool ((cnT stL (d + 1) (c.2) ((cnP stL (d + 1) (c.1) n).2)).1), [(BX bL [iv ((cnT stL (d + 1) (c.2) ((cnP stL (d + 1) (c.1) n).2)).2)] 77)], Ret.one rfl (RV.tmp rfl), (Sk Sub.nil), ?_⟩
  refine ⟨?_, ?_⟩ <;> rw [cnC, if_neg (by simp [h3])]
theorem longT_ct : ∀ (t : Tm) (d n : Int) (cs : List Value) (H : Heap) (bL : Nat), RT H cs t → 0 ≤ n → n ≤ 300 → 0 ≤ d → d ≤ 61 → CT Tryz.prog 58 ⟨[pp bL 0, .agg ⟨cs⟩, iv d]⟩ [(BX bL [iv n] 77)] H (fun v N => v = .bool (cnT stL d t n).1 ∧ N = [(BX bL [iv ((cnT stL d t n).2)] 77)]) := by
 intro t
 induction t using Tm.ind with
 | h kind num ref kids cases ih ih' =>
 intro d n cs H bL ht hn0 hn1 hd0 hd1
 obtain ⟨ks, cv, rfl, hk, hn, hks, hcv⟩ := RT_mk.1 ht
 refine Zk Tryz.func58 rfl rfl <| Zc <| Za <| JLr (Zr (l := [pp bL 0]) rfl rfl fun b1 => JLr (Zr (l := pkT kind num ref ks cv) rfl rfl fun b2 => JLr (Zr (l := [iv d]) rfl rfl fun b3 => JLA rfl <| Zb <| Zc <| Zc <| Za <| JLr (Ze ty120 rfl (At.bx 2 rfl) rfl <| JLq (pp bL 0) (Pu.nilCheck rfl) ?_))))
 refine JLq (pp bL 0) (fa77_0 rfl rfl) <| JLr (Ze ty3 rfl (At.bx 3 rfl) rfl <| JLn (Pu.add64 rfl rfl (by first | omega | (constructor <;> omega))) <| JLq (pp bL 0) (Pu.nilCheck rfl) <| JLq (pp bL 0) (fa77_0 rfl rfl) <| JLr (Zd 3 (vs := [iv (n + 1)]) (l := [iv (n + 1)]) ty3 rfl rfl rfl rfl rfl (Zf rfl Zn) rfl <| Zb <| Zc <| Za <| JLr (Ze ty120 rfl (At.bx 2 rfl) rfl <| JLq (pp bL 0) (Pu.nilCheck rfl) <| JLq (pp bL 0) (fa77_0 rfl rfl) <| JLr (Ze ty3 rfl (At.bx 3 rfl) rfl ?_))))
 refine JLn (Pu.gtr rfl rfl) <| JLM rfl <| ZA 2 [21, 22] [(22, cond (decide (300 < n + 1)) undef (.bool (decide (60 < d))))] ?_ fun f5 => ?_
 ·cases h4 : (decide (300 < n + 1)) with
  | false =>
   replace h4 := df h4
   refine JLr (Ze ty3 rfl (At.bx 0 rfl) rfl <| JLn (Pu.gtr rfl rfl) ?_)
   exact Zb ⟨⟨rfl, trivial⟩, rfl⟩
  | true =>
   exact ZL rfl ⟨rfl, trivial⟩
 refine JLn (Pu.pickOr rfl rfl rfl) <| Zb <| Zg rfl (fun h6 => ?_) (fun h6 => ?_)
 ·refine Zc <| Za <| JLA rfl <| Zb <| Zj <| ⟨.bool true, [(BX bL [iv (n + 1)] 77)], Ret.one rfl (RV.tmp rfl), (Sd (Sd (Sd (Sk Sub.nil)))), ?_⟩
  refine ⟨?_, ?_⟩ <;> rw [cnT, if_pos (by simpa [stL] using h6)]
 obtain ⟨h6a, h6b⟩ := orF h6
 replace h6a := df h6a
 replace h6b := df h6b
 refine Zm <| Zc <| Za <| JLq (.func (.func 108) ⟨[]⟩ ⟨[pp b1 0, pp b3 0]⟩) (Pu.makeFunc rfl rfl) <| JLr (Zi (l := [.nilFunc]) Tryz.zeroValue169 rfl fun b7 => JLr (Zd 0 (vs := [.func (.func 108) ⟨[]⟩ ⟨[pp b1 0, pp b3 0]⟩]) (l := [.func (.func 108) ⟨[]⟩ ⟨[pp b1 0, pp b3 0]⟩]) ty169 rfl rfl rfl rfl rfl (Zf rfl Zn) rfl <| Zb <| Zc <| Za <| JLq (pp b2 34) (Yn rfl rfl) <| JLr (Ze ty25 rfl (At.bx 2 rfl) (Ym ..) <| JLr (Ze ty169 rfl (At.bx 0 rfl) rfl <| Zs 4 rfl Tryz.call109 rfl rfl (fun hin => containsT_ct 108 [] [pp b1 0, pp b3 0] (fun _ _ => rfl) (fun n => (BX bL [iv n] 77)) (fun n => 0 ≤ n ∧ n ≤ 300) (cnT stL (d + 1)) _ _ _ (RTs.mono (Hle.hu _ _) hks) (n + 1) ⟨by omega, by omega⟩ (fun x hx s hs hf => cnT_keep stL_le x _ s hs.1 hf) (fun x hx s hs a h hh ra => longTK_ct x d s a h bL b1 b3 ra (hh _ _ (hin 3 _ rfl _ _ List.mem_cons_self)) (hh _ _ (hin 1 _ rfl _ _ List.mem_cons_self)) (by omega) (by omega) (fun h' a' hh' ra' => ih x hx (d + 1) s a' h' bL ra' hs.1 hs.2 (by omega) (by omega)))) rfl ?_))))
 rintro _ _ ⟨rfl, rfl⟩
 refine JLM rfl ?_
 cases h9 : ((YO (cnT stL (d + 1)) kids (n + 1)).1) with
 | true =>
  iterate 4 refine YJ rfl ?_
  refine JLq (.bool true) (Pu.pickT rfl rfl) <| JLA rfl <| Zb <| Zj <| ⟨.bool true, [(BX bL [iv ((YO (cnT stL (d + 1)) kids (n + 1)).2)] 77)], Ret.one rfl (RV.tmp rfl), (Sk Sub.nil), ?_⟩
  refine ⟨?_, ?_⟩ <;> rw [cnT, if_neg (by simp [stL]; omega), cnTs_any, if_pos h9]
 | false =>
  refine JLq (pp b2 35) (YI rfl rfl) <| JLr (Ze ty26 rfl (At.bx 3 rfl) (Yz ..) <| JLq (.func (.func 111) ⟨[]⟩ ⟨[pp b1 0, pp b3 0, pp b7 0]⟩) (Pu.makeFunc rfl rfl) <| Zs 0 rfl Tryz.call110 rfl rfl (fun hin => containsC_ct 111 [] [pp b1 0, pp b3 0, pp b7 0] (fun _ _ => rfl) (fun n => (BX bL [iv n] 77)) (fun n => 0 ≤ n ∧ n ≤ 300) (cnC stL (d + 1)) _ _ _ (RCs.mono (Hle.hu _ _) hcv) ((YO (cnT stL (d + 1)) kids (n + 1)).2) (anyT_keep stL_le _ _ _ (by omega) (by omega) h9) (fun x hx s hs hf => cnC_keep stL_le x _ s hs.1 hf) (fun x hx s hs a h hh ra => longC_ct x d s a h bL b1 b3 b7 ra hs.1 hs.2 (by omega) (by omega) (hh _ _ (hin 3 _ rfl _ _ List.mem_cons_self)) (hh _ _ (hin 1 _ rfl _ _ List.mem_cons_self)) (hh _ _ (hin 0 _ rfl _ _ List.mem_cons_self)) (fun s' a' h' hh' ra' k1 k2 => ih' x hx (d + 1) s' a' h' bL ra' k1 k2 (by omega) (by omega)))) rfl ?_)
  rintro _ _ ⟨rfl, rfl⟩
  refine JLq (.bool ((YO (cnC stL (d + 1)) cases ((YO (cnT stL (d + 1)) kids (n + 1)).2)).1)) (Pu.pickF rfl rfl) <| JLA rfl <| Zb <| Zj <| ⟨.bool ((YO (cnC stL (d + 1)) cases ((YO (cnT stL (d + 1)) kids (n + 1)).2)).1), [(BX bL [iv ((YO (cnC stL (d + 1)) cases ((YO (cnT stL (d + 1)) kids (n + 1)).2)).2)] 77)], Ret.one rfl (RV.tmp rfl), (Sk Sub.nil), ?_⟩
  refine ⟨?_, ?_⟩ <;> rw [cnT, if_neg (by simp [stL]; omega), cnTs_any, if_neg (by simp [h9]), cnCs_any]
end Go.Proofs.YtjhenmdcnbaobaaGreat.Hs
/-! Walks, printed by a program of this session's own (gen.py). -/
namespace Go.Proofs.YtjhenmdcnbaobaaGreat.Hs
open Go Go.Proofs
set_option maxRecDepth 100000
set_option linter.unusedVariables false
set_option linter.unusedSimpArgs false
attribute [local irreducible] JL J CT wlo DT
theorem fields_ct (k : Int) (H : Heap) : CT Tryz.prog 67 ⟨[iv k]⟩ [] H (fun v N => v = .agg ⟨[.bool (fN k), .bool (fR k), .bool (fC k)]⟩ ∧ N = []) := by
 refine Zk Tryz.func67 rfl rfl <| Zc <| Za <| JLr (Zi (l := [.bool false, .bool false, .bool false]) Tryz.zeroValue137 rfl fun b1 => Zb <| Zc <| Za <| JLr (Zi (l := [.bool false, .bool false, .bool false]) Tryz.zeroValue137 rfl fun b2 => Zb <| Zc <| Zc <| Za <| JLM rfl ?_))
 refine Zb <| Zq <| Zc <| Zc <| Za <| JLn (Pu.eql rfl rfl) <| JLA rfl <| Zb <| Zg rfl (fun h3 => ?_) (fun h3 => ?_)
 ·replace h3 := dt h3
  refine Zm <| Zg rfl (fun _ => ?_) (fun h4 => absurd h3 (df h4))
  refine Za <| JLq (pp b2 0) (Pu.idxA 0 Tryz.runUnderlying137 ty4 rfl rfl (by decide) (by decide)) <| JLr (Zd 0 (vs := [.bool true]) (l := [.bool true, .bool false, .bool false]) ty4 rfl rfl rfl rfl rfl (Zf rfl Zn) rfl <| Zb <| Zc <| Za <| JLr (Zl Z8 rfl (At.bx 0 rfl) rfl <| JLr (Zd 1 (vs := [.bool true, .bool false, .bool false]) (l := [.bool true, .bool false, .bool false]) Z8 rfl rfl rfl rfl rfl (Zf rfl (Zf rfl (Zf rfl Zn))) rfl <| Zb <| Zj <| ⟨.agg ⟨[.bool true, .bool false, .bool false]⟩, [], Ret.one rfl (RV.cell Z8 rfl (At.bx 1 rfl) rfl), Sub.nil, ?_⟩)))
  exact ⟨by simp_all [fN, fR, fC], rfl⟩
 replace h3 := df h3
 refine Zc <| Za <| JLn (Pu.eql rfl rfl) <| JLA rfl <| Zb <| Zg rfl (fun h5 => ?_) (fun h5 => ?_)
 ·replace h5 := dt h5
  refine Zm <| Zg rfl (fun _ => ?_) (fun h6 => absurd h5 (df h6))
  refine Za <| JLq (pp b2 0) (Pu.idxA 0 Tryz.runUnderlying137 ty4 rfl rfl (by decide) (by decide)) <| JLr (Zd 0 (vs := [.bool true]) (l := [.bool true, .bool false, .bool false]) ty4 rfl rfl rfl rfl rfl (Zf rfl Zn) rfl <| Zb <| Zc <| Za <| JLr (Zl Z8 rfl (At.bx 0 rfl) rfl <| JLr (Zd 1 (vs := [.bool true, .bool false, .bool false]) (l := [.bool true, .bool false, .bool false]) Z8 rfl rfl rfl rfl rfl (Zf rfl (Zf rfl (Zf rfl Zn))) rfl <| Zb <| Zj <| ⟨.agg ⟨[.bool true, .bool false, .bool false]⟩, [], Ret.one rfl (RV.cell Z8 rfl (At.bx 1 rfl) rfl), Sub.nil, ?_⟩)))
  exact ⟨by simp_all [fN, fR, fC], rfl⟩
 replace h5 := df h5
 refine Zc <| Za <| JLn (Pu.eql rfl rfl) <| JLA rfl <| Zb <| Zg rfl (fun h7 => ?_) (fun h7 => ?_)
 ·replace h7 := dt h7
  refine Zm <| Zg rfl (fun _ => ?_) (fun h8 => absurd h7 (df h8))
  refine Za <| JLq (pp b2 0) (Pu.idxA 0 Tryz.runUnderlying137 ty4 rfl rfl (by decide) (by decide)) <| JLr (Zd 0 (vs := [.bool true]) (l := [.bool true, .bool false, .bool false]) ty4 rfl rfl rfl rfl rfl (Zf rfl Zn) rfl <| Zb <| Zc <| Za <| JLr (Zl Z8 rfl (At.bx 0 rfl) rfl <| JLr (Zd 1 (vs := [.bool true, .bool false, .bool false]) (l := [.bool true, .bool false, .bool false]) Z8 rfl rfl rfl rfl rfl (Zf rfl (Zf rfl (Zf rfl Zn))) rfl <| Zb <| Zj <| ⟨.agg ⟨[.bool true, .bool false, .bool false]⟩, [], Ret.one rfl (RV.cell Z8 rfl (At.bx 1 rfl) rfl), Sub.nil, ?_⟩)))
  exact ⟨by simp_all [fN, fR, fC], rfl⟩
 replace h7 := df h7
 refine Za <| JLn (Pu.eql rfl rfl) <| JLA rfl <| Zb <| Zg rfl (fun h9 => ?_) (fun h9 => ?_)
 ·replace h9 := dt h9
  refine Za <| JLq (pp b2 0) (Pu.idxA 0 Tryz.runUnderlying137 ty4 rfl rfl (by decide) (by decide)) <| JLr (Zd 0 (vs := [.bool true]) (l := [.bool true, .bool false, .bool false]) ty4 rfl rfl rfl rfl rfl (Zf rfl Zn) rfl <| Zb <| Zc <| Za <| JLr (Zl Z8 rfl (At.bx 0 rfl) rfl <| JLr (Zd 1 (vs := [.bool true, .bool false, .bool false]) (l := [.bool true, .bool false, .bool false]) Z8 rfl rfl rfl rfl rfl (Zf rfl (Zf rfl (Zf rfl Zn))) rfl <| Zb <| Zj <| ⟨.agg ⟨[.bool true, .bool false, .bool false]⟩, [], Ret.one rfl (RV.cell Z8 rfl (At.bx 1 rfl) rfl), Sub.nil, ?_⟩)))
  exact ⟨by simp_all [fN, fR, fC], rfl⟩
 replace h9 := df h9
 refine Zc <| Zc <| Za <| JLn (Pu.eql rfl rfl) <| JLA rfl <| Zb <| Zg rfl (fun h10 => ?_) (fun h10 => ?_)
 ·replace h10 := dt h10
  refine Zm <| Zg rfl (fun _ => ?_) (fun h11 => absurd h10 (df h11))
  refine Za <| JLq (pp b2 0) (Pu.idxA 0 Tryz.runUnderlying137 ty4 rfl rfl (by decide) (by decide)) <| JLr (Zd 0 (vs := [.bool true]) (l := [.bool true, .bool false, .bool false]) ty4 rfl rfl rfl rfl rfl (Zf rfl Zn) rfl <| JLq (pp b2 1) (Pu.idxA 1 Tryz.runUnderlying137 ty4 rfl rfl (by decide) (by decide)) <| JLr (Zd 0 (vs := [.bool true]) (l := [.bool true, .bool true, .bool false]) ty4 rfl rfl rfl rfl rfl (Zf rfl Zn) rfl <| Zb <| Zc <| Za <| JLr (Zl Z8 rfl (At.bx 0 rfl) rfl <| JLr (Zd 1 (vs := [.bool true, .bool true, .bool false]) (l := [.bool true, .bool true, .bool false]) Z8 rfl rfl rfl rfl rfl (Zf rfl (Zf rfl (Zf rfl Zn))) rfl <| Zb <| Zj <| ⟨.agg ⟨[.bool true, .bool true, .bool false]⟩, [], Ret.one rfl (RV.cell Z8 rfl (At.bx 1 rfl) rfl), Sub.nil, ?_⟩))))
  exact ⟨by simp_all [fN, fR, fC], rfl⟩
 replace h10 := df h10
 refine Za <| JLn (Pu.eql rfl rfl) <| JLA rfl <| Zb <| Zg rfl (fun h12 => ?_) (fun h12 => ?_)
 ·replace h12 := dt h12
  refine Za <| JLq (pp b2 0) (Pu.idxA 0 Tryz.runUnderlying137 ty4 rfl rfl (by decide) (by decide)) <| JLr (Zd 0 (vs := [.bool true]) (l := [.bool true, .bool false, .bool false]) ty4 rfl rfl rfl rfl rfl (Zf rfl Zn) rfl <| JLq (pp b2 1) (Pu.idxA 1 Tryz.runUnderlying137 ty4 rfl rfl (by decide) (by decide)) <| JLr (Zd 0 (vs := [.bool true]) (l := [.bool true, .bool true, .bool false]) ty4 rfl rfl rfl rfl rfl (Zf rfl Zn) rfl <| Zb <| Zc <| Za <| JLr (Zl Z8 rfl (At.bx 0 rfl) rfl <| JLr (Zd 1 (vs := [.bool true, .bool true, .bool false]) (l := [.bool true, .bool true, .bool false]) Z8 rfl rfl rfl rfl rfl (Zf rfl (Zf rfl (Zf rfl Zn))) rfl <| Zb <| Zj <| ⟨.agg ⟨[.bool true, .bool true, .bool false]⟩, [], Ret.one rfl (RV.cell Z8 rfl (At.bx 1 rfl) rfl), Sub.nil, ?_⟩))))
  exact ⟨by simp_all [fN, fR, fC], rfl⟩
 replace h12 := df h12
 refine Zc <| Zc <| Za <| JLn (Pu.eql rfl rfl) <| JLA rfl <| Zb <| Zg rfl (fun h13 => ?_) (fun h13 => ?_)
 ·replace h13 := dt h13
  refine Zm <| Zg rfl (fun _ => ?_) (fun h14 => absurd h13 (df h14))
  refine Za <| JLq (pp b2 1) (Pu.idxA 1 Tryz.runUnderlying137 ty4 rfl rfl (by decide) (by decide)) <| JLr (Zd 0 (vs := [.bool true]) (l := [.bool false, .bool true, .bool false]) ty4 rfl rfl rfl rfl rfl (Zf rfl Zn) rfl <| Zb <| Zc <| Za <| JLr (Zl Z8 rfl (At.bx 0 rfl) rfl <| JLr (Zd 1 (vs := [.bool false, .bool true, .bool false]) (l := [.bool false, .bool true, .bool false]) Z8 rfl rfl rfl rfl rfl (Zf rfl (Zf rfl (Zf rfl Zn))) rfl <| Zb <| Zj <| ⟨.agg ⟨[.bool false, .bool true, .bool false]⟩, [], Ret.one rfl (RV.cell Z8 rfl (At.bx 1 rfl) rfl), Sub.nil, ?_⟩)))
  exact ⟨by simp_all [fN, fR, fC], rfl⟩
 replace h13 := df h13
 refine Za <| JLn (Pu.eql rfl rfl) <| JLA rfl <| Zb <| Zg rfl (fun h15 => ?_) (fun h15 => ?_)
 ·replace h15 := dt h15
  refine Za <| JLq (pp b2 1) (Pu.idxA 1 Tryz.runUnderlying137 ty4 rfl rfl (by decide) (by decide)) <| JLr (Zd 0 (vs := [.bool true]) (l := [.bool false, .bool true, .bool false]) ty4 rfl rfl rfl rfl rfl (Zf rfl Zn) rfl <| Zb <| Zc <| Za <| JLr (Zl Z8 rfl (At.bx 0 rfl) rfl <| JLr (Zd 1 (vs := [.bool false, .bool true, .bool false]) (l := [.bool false, .bool true, .bool false]) Z8 rfl rfl rfl rfl rfl (Zf rfl (Zf rfl (Zf rfl Zn))) rfl <| Zb <| Zj <| ⟨.agg ⟨[.bool false, .bool true, .bool false]⟩, [], Ret.one rfl (RV.cell Z8 rfl (At.bx 1 rfl) rfl), Sub.nil, ?_⟩)))
  exact ⟨by simp_all [fN, fR, fC], rfl⟩
 replace h15 := df h15
 refine Zc <| Za <| JLn (Pu.eql rfl rfl) <| JLA rfl <| Zb <| Zg rfl (fun h16 => ?_) (fun h16 => ?_)
 ·replace h16 := dt h16
  refine Za <| JLq (pp b2 2) (Pu.idxA 2 Tryz.runUnderlying137 ty4 rfl rfl (by decide) (by decide)) <| JLr (Zd 0 (vs := [.bool true]) (l := [.bool false, .bool false, .bool true]) ty4 rfl rfl rfl rfl rfl (Zf rfl Zn) rfl <| Zb <| Zc <| Za <| JLr (Zl Z8 rfl (At.bx 0 rfl) rfl <| JLr (Zd 1 (vs := [.bool false, .bool false, .bool true]) (l := [.bool false, .bool false, .bool true]) Z8 rfl rfl rfl rfl rfl (Zf rfl (Zf rfl (Zf rfl Zn))) rfl <| Zb <| Zj <| ⟨.agg ⟨[.bool false, .bool false, .bool true]⟩, [], Ret.one rfl (RV.cell Z8 rfl (At.bx 1 rfl) rfl), Sub.nil, ?_⟩)))
  exact ⟨by simp_all [fN, fR, fC], rfl⟩
 replace h16 := df h16
 refine Zm <| Zc <| Za <| JLr (Zl Z8 rfl (At.bx 0 rfl) rfl <| JLr (Zd 1 (vs := [.bool false, .bool false, .bool false]) (l := [.bool false, .bool false, .bool false]) Z8 rfl rfl rfl rfl rfl (Zf rfl (Zf rfl (Zf rfl Zn))) rfl <| Zb <| Zj <| ⟨.agg ⟨[.bool false, .bool false, .bool false]⟩, [], Ret.one rfl (RV.cell Z8 rfl (At.bx 1 rfl) rfl), Sub.nil, ?_⟩))
 exact ⟨by simp_all [fN, fR, fC], rfl⟩
theorem patternFields_ct (k : Int) (H : Heap) : CT Tryz.prog 156 ⟨[iv k]⟩ [] H (fun v N => v = .agg ⟨[.bool (pfN k), .bool (pfR k), .bool false]⟩ ∧ N = []) := by
 refine Zk Tryz.func156 rfl rfl <| Zc <| Za <| JLr (Zi (l := [.bool false, .bool false, .bool false]) Tryz.zeroValue137 rfl fun b1 => Zb <| Zc <| Zc <| Za <| JLM rfl <| Zb <| Zq <| Zc <| Za ?_)
 refine JLn (Pu.eql rfl rfl) <| JLA rfl <| Zb <| Zg rfl (fun h2 => ?_) (fun h2 => ?_)
 ·replace h2 := dt h2
  refine Zc <| Za <| JLq (.agg ⟨[.bool true, .bool false, .bool false]⟩) (Pu.build (pv := [(0, .bool true), (1, .bool false), (2, .bool false)]) (l := [.bool true, .bool false, .bool false]) rfl (bld137_0_1_2 _ _ _)) <| JLr (Zd 0 (vs := [.bool true, .bool false, .bool false]) (l := [.bool true, .bool false, .bool false]) Z8 rfl rfl rfl rfl rfl (Zf rfl (Zf rfl (Zf rfl Zn))) rfl <| Zb <| Zj <| ⟨.agg ⟨[.bool true, .bool false, .bool false]⟩, [], Ret.one rfl (RV.cell Z8 rfl (At.bx 0 rfl) rfl), Sub.nil, ?_⟩)
  exact ⟨by simp_all [pfN, pfR], rfl⟩
 replace h2 := df h2
 refine Zc <| Za <| JLn (Pu.eql rfl rfl) <| JLA rfl <| Zb <| Zg rfl (fun h3 => ?_) (fun h3 => ?_)
 ·replace h3 := dt h3
  refine Zc <| Za <| JLq (.agg ⟨[.bool true, .bool true, .bool false]⟩) (Pu.build (pv := [(0, .bool true), (1, .bool true), (2, .bool false)]) (l := [.bool true, .bool true, .bool false]) rfl (bld137_0_1_2 _ _ _)) <| JLr (Zd 0 (vs := [.bool true, .bool true, .bool false]) (l := [.bool true, .bool true, .bool false]) Z8 rfl rfl rfl rfl rfl (Zf rfl (Zf rfl (Zf rfl Zn))) rfl <| Zb <| Zj <| ⟨.agg ⟨[.bool true, .bool true, .bool false]⟩, [], Ret.one rfl (RV.cell Z8 rfl (At.bx 0 rfl) rfl), Sub.nil, ?_⟩)
  exact ⟨by simp_all [pfN, pfR], rfl⟩
 replace h3 := df h3
 refine Zm <| Zc <| Za <| JLq (.agg ⟨[.bool false, .bool false, .bool false]⟩) (Pu.build (pv := []) (l := [.bool false, .bool false, .bool false]) rfl bld137_) <| JLr (Zd 0 (vs := [.bool false, .bool false, .bool false]) (l := [.bool false, .bool false, .bool false]) Z8 rfl rfl rfl rfl rfl (Zf rfl (Zf rfl (Zf rfl Zn))) rfl <| Zb <| Zj <| ⟨.agg ⟨[.bool false, .bool false, .bool false]⟩, [], Ret.one rfl (RV.cell Z8 rfl (At.bx 0 rfl) rfl), Sub.nil, ?_⟩)
 exact ⟨by simp_all [pfN, pfR], rfl⟩
theorem clash_ct (a b c : Bool) (n : Int) (r : Sm) (m : Int) (H : Heap) : CT Tryz.prog 139 ⟨[.agg ⟨[.bool a, .bool b, .bool c]⟩, iv n, .agg ⟨sC r⟩, iv m]⟩ [] H (fun v N => v = .bool (clashB a b c n r m) ∧ N = []) := by
 refine Zk Tryz.func139 rfl rfl <| Zc <| Za <| JLr (Zr (l := [.bool a, .bool b, .bool c]) rfl rfl fun b1 => JLr (Zr (l := sC r) rfl rfl fun b2 => JLA rfl <| Zb <| Zc <| Za <| JLM rfl <| JLn (Pu.neq rfl rfl) <| JLr (Zl Y4 rfl (At.bx 0 rfl) (Zu rfl) <| JLq (.agg ⟨sC zS⟩) (Pu.build (pv := []) (l := sC zS) rfl bld24_) ?_)))
 refine JLn (neqS rfl rfl) <| JLM rfl <| JLn (Pu.gtr rfl rfl) <| JLq (.agg ⟨[.bool (!decide (n = 0)), .bool (!decide (r = zS)), .bool (decide (0 < m))]⟩) (Pu.build (pv := [(0, .bool (!decide (n = 0))), (1, .bool (!decide (r = zS))), (2, .bool (decide (0 < m)))]) (l := [.bool (!decide (n = 0)), .bool (!decide (r = zS)), .bool (decide (0 < m))]) rfl (bld137_0_1_2 _ _ _)) <| JLr (Zi (l := [.bool false, .bool false, .bool false]) Tryz.zeroValue137 rfl fun b3 => JLr (Zd 0 (vs := [.bool (!decide (n = 0)), .bool (!decide (r = zS)), .bool (decide (0 < m))]) (l := [.bool (!decide (n = 0)), .bool (!decide (r = zS)), .bool (decide (0 < m))]) Z8 rfl rfl rfl rfl rfl (Zf rfl (Zf rfl (Zf rfl Zn))) rfl <| Zb <| Zc <| Za <| JLr (Zl Z8 rfl (At.bx 0 rfl) rfl <| JLr (Zi (l := [.bool false, .bool false, .bool false]) Tryz.zeroValue137 rfl fun b4 => JLr (Zd 0 (vs := [.bool (!decide (n = 0)), .bool (!decide (r = zS)), .bool (decide (0 < m))]) (l := [.bool (!decide (n = 0)), .bool (!decide (r = zS)), .bool (decide (0 < m))]) Z8 rfl rfl rfl rfl rfl (Zf rfl (Zf rfl (Zf rfl Zn))) rfl <| Zb ?_)))))
 refine Zc <| Zc <| Za <| JLM rfl <| Zb <| Zq <| Yr 4 <| ZQ <| Zc <| Za <| JLq (.bool true) (show Pu _ _ _ (.bool (decide ((0 : Int) < 3))) from Pu.lss rfl rfl) <| Zb <| Zc ?_
 refine Zg (b := true) rfl (fun _ => ?_) (fun h => absurd h (by simp))
 refine Zm <| Zc <| Zq <| Zc <| Za <| JLM rfl <| JLA rfl <| Zb <| Za <| JLM rfl <| JLM rfl <| JLq (pp b3 0) (Pu.idxA 0 Tryz.runUnderlying137 ty4 rfl rfl (by decide) (by decide)) <| JLr (Ze ty4 rfl (At.bx 1 rfl) rfl ?_)
 refine JLM rfl <| ZA 3 [29, 30, 31] [(31, cond (!decide (n = 0)) (.bool a) undef)] ?_ fun f6 => ?_
 ·cases h5 : (!decide (n = 0)) with
  | true =>
   replace h5 := nt h5
   replace h5 := df h5
   refine JLM rfl <| JLq (pp b1 0) (Pu.idxA 0 Tryz.runUnderlying137 ty4 rfl rfl (by decide) (by decide)) <| JLr (Ze ty4 rfl (At.bx 3 rfl) rfl ?_)
   exact Zb ⟨⟨rfl, trivial⟩, rfl⟩
  | false =>
   exact ZL rfl ⟨rfl, trivial⟩
 refine JLn (Pu.pickAnd rfl rfl rfl) <| JLq (pp b4 0) (Pu.idxA 0 Tryz.runUnderlying137 ty4 rfl rfl (by decide) (by decide)) <| JLr (Zd 0 (vs := [.bool ((!decide (n = 0)) && a)]) (l := [.bool ((!decide (n = 0)) && a), .bool (!decide (r = zS)), .bool (decide (0 < m))]) ty4 rfl rfl rfl rfl rfl (Zf rfl Zn) rfl <| Zb <| Za <| JLq (iv 1) (Pu.arith rfl rfl rfl) <| JLM rfl <| Zb <| ZQ <| Zc <| Za <| JLq (.bool true) (show Pu _ _ _ (.bool (decide ((1 : Int) < 3))) from Pu.lss rfl rfl) <| Zb ?_)
 refine Zc <| Zg (b := true) rfl (fun _ => ?_) (fun h => absurd h (by simp))
 refine Zm <| Zc <| Zq <| Zc <| Za <| JLM rfl <| JLA rfl <| Zb <| Za <| JLM rfl <| JLM rfl <| JLq (pp b3 1) (Pu.idxA 1 Tryz.runUnderlying137 ty4 rfl rfl (by decide) (by decide)) <| JLr (Ze ty4 rfl (At.bx 1 rfl) rfl ?_)
 refine JLM rfl <| ZA 3 [29, 30, 31] [(31, cond (!decide (r = zS)) (.bool b) undef)] ?_ fun f8 => ?_
 ·cases h7 : (!decide (r = zS)) with
  | true =>
   replace h7 := nt h7
   replace h7 := df h7
   refine JLM rfl <| JLq (pp b1 1) (Pu.idxA 1 Tryz.runUnderlying137 ty4 rfl rfl (by decide) (by decide)) <| JLr (Ze ty4 rfl (At.bx 3 rfl) rfl ?_)
   exact Zb ⟨⟨rfl, trivial⟩, rfl⟩
  | false =>
   exact ZL rfl ⟨rfl, trivial⟩
 refine JLn (Pu.pickAnd rfl rfl rfl) <| JLq (pp b4 1) (Pu.idxA 1 Tryz.runUnderlying137 ty4 rfl rfl (by decide) (by decide)) <| JLr (Zd 0 (vs := [.bool ((!decide (r = zS)) && b)]) (l := [.bool ((!decide (n = 0)) && a), .bool ((!decide (r = zS)) && b), .bool (decide (0 < m))]) ty4 rfl rfl rfl rfl rfl (Zf rfl Zn) rfl <| Zb <| Za <| JLq (iv 2) (Pu.arith rfl rfl rfl) <| JLM rfl <| Zb <| ZQ <| Zc <| Za <| JLq (.bool true) (show Pu _ _ _ (.bool (decide ((2 : Int) < 3))) from Pu.lss rfl rfl) <| Zb ?_)
 refine Zc <| Zg (b := true) rfl (fun _ => ?_) (fun h => absurd h (by simp))
 refine Zm <| Zc <| Zq <| Zc <| Za <| JLM rfl <| JLA rfl <| Zb <| Za <| JLM rfl <| JLM rfl <| JLq (pp b3 2) (Pu.idxA 2 Tryz.runUnderlying137 ty4 rfl rfl (by decide) (by decide)) <| JLr (Ze ty4 rfl (At.bx 1 rfl) rfl ?_)
 refine JLM rfl <| ZA 3 [29, 30, 31] [(31, cond (decide (0 < m)) (.bool c) undef)] ?_ fun f10 => ?_
 ·cases h9 : (decide (0 < m)) with
  | true =>
   replace h9 := dt h9
   refine JLM rfl <| JLq (pp b1 2) (Pu.idxA 2 Tryz.runUnderlying137 ty4 rfl rfl (by decide) (by decide)) <| JLr (Ze ty4 rfl (At.bx 3 rfl) rfl ?_)
   exact Zb ⟨⟨rfl, trivial⟩, rfl⟩
  | false =>
   exact ZL rfl ⟨rfl, trivial⟩
 refine JLn (Pu.pickAnd rfl rfl rfl) <| JLq (pp b4 2) (Pu.idxA 2 Tryz.runUnderlying137 ty4 rfl rfl (by decide) (by decide)) <| JLr (Zd 0 (vs := [.bool ((decide (0 < m)) && c)]) (l := [.bool ((!decide (n = 0)) && a), .bool ((!decide (r = zS)) && b), .bool ((decide (0 < m)) && c)]) ty4 rfl rfl rfl rfl rfl (Zf rfl Zn) rfl <| Zb <| Za <| JLq (iv 3) (Pu.arith rfl rfl rfl) <| JLM rfl <| Zb <| ZQ <| Zc <| Za <| JLq (.bool false) (show Pu _ _ _ (.bool (decide ((3 : Int) < 3))) from Pu.lss rfl rfl) <| Zb ?_)
 refine Zc <| Zg (b := false) rfl (fun h => absurd h (by simp)) (fun _ => ZB _ rfl <| Zc <| Za <| JLr (Zl Z8 rfl (At.bx 0 rfl) rfl <| JLr (Zl Z8 rfl (At.bx 1 rfl) rfl <| JLq (.bool (!((((!decide (n = 0)) && a) == (!decide (n = 0))) && ((((!decide (r = zS)) && b) == (!decide (r = zS))) && (((decide (0 < m)) && c) == (decide (0 < m))))))) (neqB3 rfl rfl) <| JLA rfl <| Zb <| Zj <| ⟨.bool (!((((!decide (n = 0)) && a) == (!decide (n = 0))) && ((((!decide (r = zS)) && b) == (!decide (r = zS))) && (((decide (0 < m)) && c) == (decide (0 < m)))))), [], Ret.one rfl (RV.tmp rfl), Sub.nil, ?_⟩)))
 exact ⟨by unfold clashB; congr 1; cases a <;> cases b <;> cases c <;> simp, rfl⟩
theorem kidsT_ct (k n : Int) (H : Heap) : CT Tryz.prog 140 ⟨[iv k, iv n]⟩ [] H (fun v N => v = .bool (kidsB k n) ∧ N = []) := by
 refine Zk Tryz.func140 rfl rfl <| Zc <| Za <| JLA rfl <| Zb <| Zc <| Zc <| Za <| JLM rfl <| Zb <| Zq <| Zc <| Zc ?_
 refine Za <| JLn (Pu.eql rfl rfl) <| JLA rfl <| Zb <| Zg rfl (fun h1 => ?_) (fun h1 => ?_)
 ·replace h1 := dt h1
  refine Zm <| Zg rfl (fun _ => ?_) (fun h2 => absurd h1 (df h2))
  refine Zc <| Za <| JLM rfl <| JLn (Pu.eql rfl rfl) <| JLA rfl <| Zb <| Zj <| ⟨.bool (decide (n = 1)), [], Ret.one rfl (RV.tmp rfl), Sub.nil, ?_⟩
  exact ⟨by simp_all [kidsB], rfl⟩
 replace h1 := df h1
 refine Zc <| Za <| JLn (Pu.eql rfl rfl) <| JLA rfl <| Zb <| Zg rfl (fun h3 => ?_) (fun h3 => ?_)
 ·replace h3 := dt h3
  refine Zm <| Zg rfl (fun _ => ?_) (fun h4 => absurd h3 (df h4))
  refine Zc <| Za <| JLM rfl <| JLn (Pu.eql rfl rfl) <| JLA rfl <| Zb <| Zj <| ⟨.bool (decide (n = 1)), [], Ret.one rfl (RV.tmp rfl), Sub.nil, ?_⟩
  exact ⟨by simp_all [kidsB], rfl⟩
 replace h3 := df h3
 refine Za <| JLn (Pu.eql rfl rfl) <| JLA rfl <| Zb <| Zg rfl (fun h5 => ?_) (fun h5 => ?_)
 ·replace h5 := dt h5
  refine Zc <| Za <| JLM rfl <| JLn (Pu.eql rfl rfl) <| JLA rfl <| Zb <| Zj <| ⟨.bool (decide (n = 1)), [], Ret.one rfl (RV.tmp rfl), Sub.nil, ?_⟩
  exact ⟨by simp_all [kidsB], rfl⟩
 replace h5 := df h5
 refine Zc <| Zc <| Za <| JLn (Pu.eql rfl rfl) <| JLA rfl <| Zb <| Zg rfl (fun h6 => ?_) (fun h6 => ?_)
 ·replace h6 := dt h6
  refine Zm <| Zg rfl (fun _ => ?_) (fun h7 => absurd h6 (df h7))
  refine Zc <| Za <| JLM rfl <| JLn (Pu.eql rfl rfl) <| JLA rfl <| Zb <| Zj <| ⟨.bool (decide (n = 2)), [], Ret.one rfl (RV.tmp rfl), Sub.nil, ?_⟩
  exact ⟨by simp_all [kidsB], rfl⟩
 replace h6 := df h6
 refine Zc <| Za <| JLn (Pu.eql rfl rfl) <| JLA rfl <| Zb <| Zg rfl (fun h8 => ?_) (fun h8 => ?_)
 ·replace h8 := dt h8
  refine Zm <| Zg rfl (fun _ => ?_) (fun h9 => absurd h8 (df h9))
  refine Zc <| Za <| JLM rfl <| JLn (Pu.eql rfl rfl) <| JLA rfl <| Zb <| Zj <| ⟨.bool (decide (n = 2)), [], Ret.one rfl (RV.tmp rfl), Sub.nil, ?_⟩
  exact ⟨by simp_all [kidsB], rfl⟩
 replace h8 := df h8
 refine Za <| JLn (Pu.eql rfl rfl) <| JLA rfl <| Zb <| Zg rfl (fun h10 => ?_) (fun h10 => ?_)
 ·replace h10 := dt h10
  refine Zc <| Za <| JLM rfl <| JLn (Pu.eql rfl rfl) <| JLA rfl <| Zb <| Zj <| ⟨.bool (decide (n = 2)), [], Ret.one rfl (RV.tmp rfl), Sub.nil, ?_⟩
  exact ⟨by simp_all [kidsB], rfl⟩
 replace h10 := df h10
 refine Zc <| Za <| JLn (Pu.eql rfl rfl) <| JLA rfl <| Zb <| Zg rfl (fun h11 => ?_) (fun h11 => ?_)
 ·replace h11 := dt h11
  refine Zc <| Za <| JLM rfl <| JLn (Pu.leq rfl rfl) <| JLA rfl <| Zb <| Zj <| ⟨.bool (decide (n ≤ 4)), [], Ret.one rfl (RV.tmp rfl), Sub.nil, ?_⟩
  exact ⟨by simp_all [kidsB], rfl⟩
 replace h11 := df h11
 refine Zc <| Za <| JLn (Pu.eql rfl rfl) <| JLA rfl <| Zb <| Zg rfl (fun h12 => ?_) (fun h12 => ?_)
 ·replace h12 := dt h12
  refine Zc <| Za <| JLM rfl <| Jc Tryz.call45 rfl (fun hin => YG _ _ _ _) rfl ?_
  rintro _ _ ⟨rfl, rfl⟩
  refine JLn (Pu.not rfl) <| JLA rfl <| Zb <| Zj <| ⟨.bool (!(decide (n < 2 ∨ 10 < n))), [], Ret.one rfl (RV.tmp rfl), Sub.nil, ?_⟩
  exact ⟨by simp_all [kidsB], rfl⟩
 replace h12 := df h12
 refine Zm <| Zc <| Za <| JLM rfl <| JLn (Pu.eql rfl rfl) <| JLA rfl <| Zb <| Zj <| ⟨.bool (decide (n = 0)), [], Ret.one rfl (RV.tmp rfl), Sub.nil, ?_⟩
 exact ⟨by simp_all [kidsB], rfl⟩
end Go.Proofs.YtjhenmdcnbaobaaGreat.Hs
/-! Walks, printed by a program of this session's own (gen.py). -/
namespace Go.Proofs.YtjhenmdcnbaobaaGreat.Hs
open Go Go.Proofs
set_option maxRecDepth 100000
set_option linter.unusedVariables false
set_option linter.unusedSimpArgs false
attribute [local irreducible] JL J CT wlo DT
theorem patternError_ct (kind num : Int) (ref : Sm) (ks : Value) (kids : List Pt) (H : Heap) (hks : rdS RP 35 H ks kids) : CT Tryz.prog 141 ⟨[.agg ⟨pkP kind num ref ks⟩]⟩ [] H (fun v N => v = iv (pErr kind num ref kids.length) ∧ N = []) := by
 refine Zk Tryz.func141 rfl rfl <| Zc <| Za <| JLr (Zr (l := pkP kind num ref ks) rfl rfl fun b1 => JLA rfl <| Zb <| Zc <| Za <| JLA rfl <| Zb <| Zc <| Zc <| Za ?_)
 refine JLq (pp b1 0) (YZ rfl rfl) <| JLr (Ze ty3 rfl (At.bx 0 rfl) (pkP_0 ..) <| JLn (Pu.eql rfl rfl) <| Zb <| Zg rfl (fun h2 => ?_) (fun h2 => ?_))
 ·replace h2 := dt h2
  refine Za <| JLA rfl <| Zb <| Zc <| Zq <| Zc <| Za <| JLq (pp b1 0) (YZ rfl rfl) <| JLr (Ze ty3 rfl (At.bx 0 rfl) (pkP_0 ..) <| Jc Tryz.call45 rfl (fun hin => YG _ _ _ _) rfl ?_)
  rintro _ _ ⟨rfl, rfl⟩
  refine JLA rfl <| Zb <| Zg rfl (fun h3 => ?_) (fun h3 => ?_)
  ·replace h3 := dt h3
   refine Zc <| Za <| JLA rfl <| Zb <| Zj <| ⟨iv 3, [], Ret.one rfl (RV.tmp rfl), Sub.nil, ?_⟩
   exact ⟨by refine congrArg (Value.int .i64) ?_; simp only [pErr]; (repeat' split) <;> first | rfl | omega | (exfalso; simp_all; done) | (exfalso; simp_all; omega) | grind, rfl⟩
  replace h3 := df h3
  refine Zc <| Zy mixed #[0, 1, 3, 0, 8, 0, 32, 127, 255] 7 [some 12, some 13, some 14, some 15, some 16, some 17, some 18] [] [(2, fun _ _ vw qw => vw = .agg ⟨[.bool (pfN kind), .bool (pfR kind), .bool false]⟩ ∧ qw = [])] rfl (by kernel_rfl) rfl (by kernel_rfl) <| Dq (pp b1 0) (fun _ => YZ rfl rfl) <| Dl1 ty3 (At.bx 0 rfl) (pkP_0 ..) <| Dc rfl Tryz.call156 (fun _ => rfl) (fun hin => patternFields_ct _ _) ?_
  rintro _ _ ⟨rfl, rfl⟩
  refine Dq (pp b1 1) (fun _ => fa85_1 rfl rfl) <| Dl1 ty3 (At.bx 0 rfl) (pkP_1 ..) <| Dq (pp b1 2) (fun _ => fa85_2 rfl rfl) <| Dl Y4 (At.bx 0 rfl) (pkP_2 ..) <| ZG (M' := [(BX b1 (pkP kind num ref ks) 85)]) rfl ?_
  show JL _ _ _ [_, _] _ _ _
  refine Jc Tryz.call139 rfl (fun hin => clash_ct _ _ _ _ _ _ _) rfl ?_
  rintro _ _ ⟨rfl, rfl⟩
  refine JLA rfl <| Zb <| Zg rfl (fun h4 => ?_) (fun h4 => ?_)
  ·refine Zc <| Za <| JLA rfl <| Zb <| Zj <| ⟨iv 7, [], Ret.one rfl (RV.tmp rfl), Sub.nil, ?_⟩
   exact ⟨by refine congrArg (Value.int .i64) ?_; simp only [pErr]; (repeat' split) <;> first | rfl | omega | (exfalso; simp_all; done) | (exfalso; simp_all; omega) | grind, rfl⟩
  refine Zc <| Za <| JLq (pp b1 34) (YY rfl rfl) <| JLr (Ze ty83 rfl (At.bx 0 rfl) (Xm ..) ?_)
  obtain ⟨a5, cap5, hv5⟩ := hks.sl
  have hle5 := hks.le
  refine JLn (Pu.lenSl Tryz.runUnderlying83 hv5) <| JLM rfl <| JLn (Pu.gtr rfl rfl) <| JLA rfl <| Zb <| Zg rfl (fun h6 => ?_) (fun h6 => ?_)
  ·replace h6 := dt h6
   refine Zc <| Za <| JLA rfl <| Zb <| Zj <| ⟨iv 2, [], Ret.one rfl (RV.tmp rfl), Sub.nil, ?_⟩
   exact ⟨by refine congrArg (Value.int .i64) ?_; simp only [pErr]; (repeat' split) <;> first | rfl | omega | (exfalso; simp_all; done) | (exfalso; simp_all; omega) | grind, rfl⟩
  replace h6 := df h6
  refine Zc <| Zc <| Za <| JLq (pp b1 0) (YZ rfl rfl) <| JLr (Ze ty3 rfl (At.bx 0 rfl) (pkP_0 ..) <| JLn (Pu.eql rfl rfl) <| JLM rfl <| ZA 3 [31, 32, 33] [(33, cond (decide (kind = 2)) (.bool (decide (num < 0 ∨ 1073741824 < num))) undef)] ?_ fun f8 => ?_)
  ·cases h7 : (decide (kind = 2)) with
   | true =>
    replace h7 := dt h7
    refine JLq (pp b1 1) (fa85_1 rfl rfl) <| JLr (Ze ty3 rfl (At.bx 0 rfl) (pkP_1 ..) <| Jc Tryz.call45 rfl (fun hin => YG _ _ _ _) rfl ?_)
    rintro _ _ ⟨rfl, rfl⟩
    exact Zb ⟨⟨rfl, trivial⟩, rfl⟩
   | false =>
    exact ZL rfl ⟨rfl, trivial⟩
  refine JLn (Pu.pickAnd rfl rfl rfl) <| JLA rfl <| Zb <| Zg rfl (fun h9 => ?_) (fun h9 => ?_)
  ·obtain ⟨h9a, h9b⟩ := Xd h9
   replace h9a := dt h9a
   replace h9b := dt h9b
   refine Zm <| Zg rfl (fun h10 => ?_) (fun h10 => ?_)
   ·obtain ⟨h10a, h10b⟩ := Xd h10
    replace h10a := dt h10a
    replace h10b := dt h10b
    refine Zc <| Za <| JLA rfl <| Zb <| Zj <| ⟨iv 3, [], Ret.one rfl (RV.tmp rfl), Sub.nil, ?_⟩
    exact ⟨by refine congrArg (Value.int .i64) ?_; simp only [pErr]; (repeat' split) <;> first | rfl | omega | (exfalso; simp_all; done) | (exfalso; simp_all; omega) | grind, rfl⟩
   refine Zm <| Zc <| Za <| JLA rfl <| Zb <| Zj <| ⟨iv 0, [], Ret.one rfl (RV.tmp rfl), Sub.nil, ?_⟩
   exact ⟨by refine congrArg (Value.int .i64) ?_; simp only [pErr]; (repeat' split) <;> first | rfl | omega | (exfalso; simp_all; done) | (exfalso; simp_all; omega) | grind, rfl⟩
  refine Za <| JLq (pp b1 0) (YZ rfl rfl) <| JLr (Ze ty3 rfl (At.bx 0 rfl) (pkP_0 ..) <| JLn (Pu.eql rfl rfl) <| JLM rfl <| ZA 3 [39, 40, 41] [(41, cond (decide (kind = 3)) (.bool (decide (num < 0 ∨ 7 < num))) undef)] ?_ fun f12 => ?_)
  ·cases h11 : (decide (kind = 3)) with
   | true =>
    replace h11 := dt h11
    refine JLq (pp b1 1) (fa85_1 rfl rfl) <| JLr (Ze ty3 rfl (At.bx 0 rfl) (pkP_1 ..) <| Jc Tryz.call45 rfl (fun hin => YG _ _ _ _) rfl ?_)
    rintro _ _ ⟨rfl, rfl⟩
    exact Zb ⟨⟨rfl, trivial⟩, rfl⟩
   | false =>
    exact ZL rfl ⟨rfl, trivial⟩
  refine JLn (Pu.pickAnd rfl rfl rfl) <| JLA rfl <| Zb <| Zg rfl (fun h13 => ?_) (fun h13 => ?_)
  ·obtain ⟨h13a, h13b⟩ := Xd h13
   replace h13a := dt h13a
   replace h13b := dt h13b
   refine Zc <| Za <| JLA rfl <| Zb <| Zj <| ⟨iv 3, [], Ret.one rfl (RV.tmp rfl), Sub.nil, ?_⟩
   exact ⟨by refine congrArg (Value.int .i64) ?_; simp only [pErr]; (repeat' split) <;> first | rfl | omega | (exfalso; simp_all; done) | (exfalso; simp_all; omega) | grind, rfl⟩
  refine Zm <| Zc <| Za <| JLA rfl <| Zb <| Zj <| ⟨iv 0, [], Ret.one rfl (RV.tmp rfl), Sub.nil, ?_⟩
  exact ⟨by refine congrArg (Value.int .i64) ?_; simp only [pErr]; (repeat' split) <;> first | rfl | omega | (exfalso; simp_all; done) | (exfalso; simp_all; omega) | grind, rfl⟩
 replace h2 := df h2
 refine Zm <| Zc <| Zq <| Zc <| Za <| JLq (pp b1 0) (YZ rfl rfl) <| JLr (Ze ty3 rfl (At.bx 0 rfl) (pkP_0 ..) <| Jc Tryz.call45 rfl (fun hin => YG _ _ _ _) rfl ?_)
 rintro _ _ ⟨rfl, rfl⟩
 refine JLA rfl <| Zb <| Zg rfl (fun h14 => ?_) (fun h14 => ?_)
 ·replace h14 := dt h14
  refine Zc <| Za <| JLA rfl <| Zb <| Zj <| ⟨iv 3, [], Ret.one rfl (RV.tmp rfl), Sub.nil, ?_⟩
  exact ⟨by refine congrArg (Value.int .i64) ?_; simp only [pErr]; (repeat' split) <;> first | rfl | omega | (exfalso; simp_all; done) | (exfalso; simp_all; omega) | grind, rfl⟩
 replace h14 := df h14
 refine Zc <| Zy mixed #[0, 1, 3, 0, 8, 0, 32, 127, 255] 7 [some 12, some 13, some 14, some 15, some 16, some 17, some 18] [] [(2, fun _ _ vw qw => vw = .agg ⟨[.bool (pfN kind), .bool (pfR kind), .bool false]⟩ ∧ qw = [])] rfl (by kernel_rfl) rfl (by kernel_rfl) <| Dq (pp b1 0) (fun _ => YZ rfl rfl) <| Dl1 ty3 (At.bx 0 rfl) (pkP_0 ..) <| Dc rfl Tryz.call156 (fun _ => rfl) (fun hin => patternFields_ct _ _) ?_
 rintro _ _ ⟨rfl, rfl⟩
 refine Dq (pp b1 1) (fun _ => fa85_1 rfl rfl) <| Dl1 ty3 (At.bx 0 rfl) (pkP_1 ..) <| Dq (pp b1 2) (fun _ => fa85_2 rfl rfl) <| Dl Y4 (At.bx 0 rfl) (pkP_2 ..) <| ZG (M' := [(BX b1 (pkP kind num ref ks) 85)]) rfl ?_
 show JL _ _ _ [_, _] _ _ _
 refine Jc Tryz.call139 rfl (fun hin => clash_ct _ _ _ _ _ _ _) rfl ?_
 rintro _ _ ⟨rfl, rfl⟩
 refine JLA rfl <| Zb <| Zg rfl (fun h15 => ?_) (fun h15 => ?_)
 ·refine Zc <| Za <| JLA rfl <| Zb <| Zj <| ⟨iv 7, [], Ret.one rfl (RV.tmp rfl), Sub.nil, ?_⟩
  exact ⟨by refine congrArg (Value.int .i64) ?_; simp only [pErr]; (repeat' split) <;> first | rfl | omega | (exfalso; simp_all; done) | (exfalso; simp_all; omega) | grind, rfl⟩
 refine Zc <| Za <| JLq (pp b1 34) (YY rfl rfl) <| JLr (Ze ty83 rfl (At.bx 0 rfl) (Xm ..) ?_)
 obtain ⟨a16, cap16, hv16⟩ := hks.sl
 have hle16 := hks.le
 refine JLn (Pu.lenSl Tryz.runUnderlying83 hv16) <| JLM rfl <| JLn (Pu.gtr rfl rfl) <| JLA rfl <| Zb <| Zg rfl (fun h17 => ?_) (fun h17 => ?_)
 ·replace h17 := dt h17
  refine Zc <| Za <| JLA rfl <| Zb <| Zj <| ⟨iv 2, [], Ret.one rfl (RV.tmp rfl), Sub.nil, ?_⟩
  exact ⟨by refine congrArg (Value.int .i64) ?_; simp only [pErr]; (repeat' split) <;> first | rfl | omega | (exfalso; simp_all; done) | (exfalso; simp_all; omega) | grind, rfl⟩
 replace h17 := df h17
 refine Zc <| Zc <| Za <| JLq (pp b1 0) (YZ rfl rfl) <| JLr (Ze ty3 rfl (At.bx 0 rfl) (pkP_0 ..) <| JLn (Pu.eql rfl rfl) <| JLM rfl <| ZA 3 [31, 32, 33] [(33, cond (decide (kind = 2)) (.bool (decide (num < 0 ∨ 1073741824 < num))) undef)] ?_ fun f19 => ?_)
 ·cases h18 : (decide (kind = 2)) with
  | true =>
   replace h18 := dt h18
   refine JLq (pp b1 1) (fa85_1 rfl rfl) <| JLr (Ze ty3 rfl (At.bx 0 rfl) (pkP_1 ..) <| Jc Tryz.call45 rfl (fun hin => YG _ _ _ _) rfl ?_)
   rintro _ _ ⟨rfl, rfl⟩
   exact Zb ⟨⟨rfl, trivial⟩, rfl⟩
  | false =>
   exact ZL rfl ⟨rfl, trivial⟩
 refine JLn (Pu.pickAnd rfl rfl rfl) <| JLA rfl <| Zb <| Zg rfl (fun h20 => ?_) (fun h20 => ?_)
 ·obtain ⟨h20a, h20b⟩ := Xd h20
  replace h20a := dt h20a
  replace h20b := dt h20b
  refine Zm <| Zg rfl (fun h21 => ?_) (fun h21 => ?_)
  ·obtain ⟨h21a, h21b⟩ := Xd h21
   replace h21a := dt h21a
   replace h21b := dt h21b
   refine Zc <| Za <| JLA rfl <| Zb <| Zj <| ⟨iv 3, [], Ret.one rfl (RV.tmp rfl), Sub.nil, ?_⟩
   exact ⟨by refine congrArg (Value.int .i64) ?_; simp only [pErr]; (repeat' split) <;> first | rfl | omega | (exfalso; simp_all; done) | (exfalso; simp_all; omega) | grind, rfl⟩
  refine Zm <| Zc <| Za <| JLA rfl <| Zb <| Zj <| ⟨iv 0, [], Ret.one rfl (RV.tmp rfl), Sub.nil, ?_⟩
  exact ⟨by refine congrArg (Value.int .i64) ?_; simp only [pErr]; (repeat' split) <;> first | rfl | omega | (exfalso; simp_all; done) | (exfalso; simp_all; omega) | grind, rfl⟩
 refine Za <| JLq (pp b1 0) (YZ rfl rfl) <| JLr (Ze ty3 rfl (At.bx 0 rfl) (pkP_0 ..) <| JLn (Pu.eql rfl rfl) <| JLM rfl <| ZA 3 [39, 40, 41] [(41, cond (decide (kind = 3)) (.bool (decide (num < 0 ∨ 7 < num))) undef)] ?_ fun f23 => ?_)
 ·cases h22 : (decide (kind = 3)) with
  | true =>
   replace h22 := dt h22
   refine JLq (pp b1 1) (fa85_1 rfl rfl) <| JLr (Ze ty3 rfl (At.bx 0 rfl) (pkP_1 ..) <| Jc Tryz.call45 rfl (fun hin => YG _ _ _ _) rfl ?_)
   rintro _ _ ⟨rfl, rfl⟩
   exact Zb ⟨⟨rfl, trivial⟩, rfl⟩
  | false =>
   exact ZL rfl ⟨rfl, trivial⟩
 refine JLn (Pu.pickAnd rfl rfl rfl) <| JLA rfl <| Zb <| Zg rfl (fun h24 => ?_) (fun h24 => ?_)
 ·obtain ⟨h24a, h24b⟩ := Xd h24
  replace h24a := dt h24a
  replace h24b := dt h24b
  refine Zc <| Za <| JLA rfl <| Zb <| Zj <| ⟨iv 3, [], Ret.one rfl (RV.tmp rfl), Sub.nil, ?_⟩
  exact ⟨by refine congrArg (Value.int .i64) ?_; simp only [pErr]; (repeat' split) <;> first | rfl | omega | (exfalso; simp_all; done) | (exfalso; simp_all; omega) | grind, rfl⟩
 refine Zm <| Zc <| Za <| JLA rfl <| Zb <| Zj <| ⟨iv 0, [], Ret.one rfl (RV.tmp rfl), Sub.nil, ?_⟩
 exact ⟨by refine congrArg (Value.int .i64) ?_; simp only [pErr]; (repeat' split) <;> first | rfl | omega | (exfalso; simp_all; done) | (exfalso; simp_all; omega) | grind, rfl⟩
theorem patternsError_ct : ∀ (p : Pt) (cs : List Value) (H : Heap), RP H cs p → CT Tryz.prog 114 ⟨[.agg ⟨cs⟩]⟩ [] H (fun v N => v = iv (pErrs p) ∧ N = []) := by
 intro p
 induction p using Pt.ind with
 | h kind num ref kids ih =>
 intro cs H hp
 obtain ⟨ks, rfl, hk, hn, hks⟩ := RP_mk.1 hp
 refine Zk Tryz.func114 rfl rfl <| Zc <| Za <| JLr (Zr (l := pkP kind num ref ks) rfl rfl fun b1 => JLA rfl <| Zb <| Zc <| Za <| JLr (Zl Z1 rfl (At.bx 0 rfl) (pkP_a ..) <| Jc Tryz.call141 rfl (fun hin => patternError_ct _ _ _ _ _ _ (RPs.mono (Hle.hu _ _) hks)) rfl ?_))
 rintro _ _ ⟨rfl, rfl⟩
 refine JLA rfl <| Zb <| Zc <| Zc <| Za <| JLA rfl <| Zb <| Zq <| ZS (fun k ρ M => ∃ (j : Nat) (e : Int), ρ 1 = pp b1 0 ∧ ρ 2 = iv 0 ∧ ρ 3 = iv e ∧ ρ 4 = iv ((j : Int)) ∧ Sub [(BX b1 (pkP kind num ref ks) 85)] M ∧ j ≤ kids.length ∧ (if e = 0 then pErrsL (kids.drop j) else e) = pErrs (.mk kind num ref kids) ∧ k = kids.length - j) _ ⟨0, (pErr kind num ref kids.length), rfl, rfl, rfl, rfl, (Sk Sub.nil), Nat.zero_le _, (by rw [pErrs]; rfl), rfl⟩ ?_
 rintro _ ρ2 _ ⟨j, e, e3, e4, e5, e6, hm7, hj, hinv, rfl⟩
 obtain ⟨ρ8, rfl⟩ := Zo (uc e3 (uc e4 (uc e5 (uc e6 un))))
 clear e3 e4 e5 e6
 refine ZY hm7 ?_
 have hlen := hks.le
 refine Zc <| Zc <| Za <| JLM rfl <| JLq (pp b1 34) (YY rfl rfl) <| JLr (Ze ty83 rfl (At.bx 0 rfl) (Xm ..) ?_)
 obtain ⟨a9, cap9, hv9⟩ := hks.sl
 have hle9 := hks.le
 refine JLn (Pu.lenSl Tryz.runUnderlying83 hv9) <| JLn (Pu.lss rfl rfl) <| JLM rfl <| ZA 2 [13, 14] [(14, cond (decide ((j : Int) < (kids.length : Int))) (.bool (decide (e = 0))) undef)] ?_ fun f11 => ?_
 ·cases h10 : (decide ((j : Int) < (kids.length : Int))) with
  | true =>
   replace h10 := dt h10
   have h10n : j < kids.length := by omega
   refine JLM rfl <| JLn (Pu.eql rfl rfl) ?_
   exact Zb ⟨⟨rfl, trivial⟩, rfl⟩
  | false =>
   exact ZL rfl ⟨rfl, trivial⟩
 refine JLn (Pu.pickAnd rfl rfl rfl) <| Zb <| Zg rfl (fun h12 => ?_) (fun h12 => ?_)
 ·obtain ⟨h12a, h12b⟩ := Xd h12
  replace h12a := dt h12a
  have h12an : j < kids.length := by omega
  replace h12b := dt h12b
  refine Zm <| Zc <| Zq <| Za <| JLq (pp b1 34) (YY rfl rfl) <| JLr (Ze ty83 rfl (At.bx 0 rfl) (Xm ..) <| JLM rfl ?_)
  obtain ⟨b13, o13, cap13, row13, T13, fr13, cs13, hv13, hb13, hs13, hE13⟩ := hks.get j (by first | assumption | omega | decide | simp)
  refine JLq (pp b13 (o13 + j * 35)) (Pu.idx j Tryz.runUnderlying83 Z1 hv13 rfl rfl (by first | assumption | omega | decide | simp)) <| JLr (Zl Z1 rfl (At.im hb13) hs13 <| Jc Tryz.call114 rfl (fun hin => ih _ (List.getElem_mem h12an) _ _ (RP.mono (Hle.hu _ _) hE13)) rfl ?_)
  rintro _ _ ⟨rfl, rfl⟩
  refine JLA rfl <| Zb <| Za <| JLM rfl <| JLn (Pu.inc rfl rfl (by omega)) <| JLA rfl <| Zb <| ⟨_, ?_, (j + 1), (pErrs (kids[j])), rfl, rfl, rfl, rfl, (Sk Sub.nil), ?_, ?_, rfl⟩
  ·omega
  ·omega
  rw [if_pos (by assumption), YE h12an, pErrsL] at hinv; exact hinv
 refine ZB _ rfl <| Zc <| Za <| JLM rfl <| JLA rfl <| Zb <| Zj <| ⟨iv e, [], Ret.one rfl (RV.tmp rfl), Sub.nil, ?_⟩
 refine ⟨?_, rfl⟩
 rw [← hinv]; by_cases he : e = 0
 ·have hj2 : kids.length ≤ j := by
   apply Nat.le_of_not_lt; intro hlt; have : (j : Int) < (kids.length : Int) := by omega
   simp_all
  rw [if_pos he, dropn hj2, he]; rfl
 rw [if_neg he]
end Go.Proofs.YtjhenmdcnbaobaaGreat.Hs
/-! Walks, printed by a program of this session's own (gen.py). -/
namespace Go.Proofs.YtjhenmdcnbaobaaGreat.Hs
open Go Go.Proofs
set_option maxRecDepth 100000
set_option linter.unusedVariables false
set_option linter.unusedSimpArgs false
attribute [local irreducible] JL J CT wlo DT
theorem known_ct (n b d : Int) (H : Heap) (bD : Nat) (hD : H bD = some (.cells ⟨[iv d]⟩ 3 (0, 0))) (hb0 : 0 ≤ b) (hb1 : b ≤ 1000000) (hn1 : -9223372036854775808 ≤ n) (hn2 : n ≤ 9223372036854775807) : CT Tryz.prog 59 ⟨[iv n, iv b, pp bD 0]⟩ [] H (fun v N => v = .bool (knownB d n b) ∧ N = []) := by
 refine Zk Tryz.func59 rfl rfl <| Zc <| Za <| JLA rfl <| Zb <| Zc <| Za <| JLM rfl <| JLn (Pu.geq rfl rfl) <| JLM rfl <| ZA 10 [9, 10, 11, 12, 13, 14, 15, 16, 17, 18] [(18, cond (decide (0 ≤ n)) (.bool ((decide (n < b)) || (decide (n - b < d)))) undef)] ?_ fun f4 => ?_
 ·cases h1 : (decide (0 ≤ n)) with
  | true =>
   replace h1 := dt h1
   refine JLM rfl <| JLM rfl <| JLn (Pu.lss rfl rfl) <| JLM rfl <| ZA 5 [13, 14, 15, 16, 17] [(17, cond (decide (n < b)) undef (.bool (decide (n - b < d))))] ?_ fun f3 => ?_
   ·cases h2 : (decide (n < b)) with
    | false =>
     replace h2 := df h2
     refine JLM rfl <| JLM rfl <| JLn (Pu.sub64 rfl rfl (by first | omega | (constructor <;> omega))) <| JLr (Ze ty3 rfl (At.im hD) rfl <| JLn (Pu.lss rfl rfl) ?_)
     exact Zb ⟨⟨rfl, trivial⟩, rfl⟩
    | true =>
     exact ZL rfl ⟨rfl, trivial⟩
   refine JLn (Pu.pickOr rfl rfl rfl) ?_
   exact Zb ⟨⟨rfl, trivial⟩, rfl⟩
  | false =>
   exact ZL rfl ⟨rfl, trivial⟩
 refine JLn (Pu.pickAnd rfl rfl rfl) <| JLA rfl <| Zb <| Zj <| ⟨.bool ((decide (0 ≤ n)) && ((decide (n < b)) || (decide (n - b < d)))), [], Ret.one rfl (RV.tmp rfl), Sub.nil, ?_⟩
 exact ⟨rfl, rfl⟩
set_option maxHeartbeats 2000000 in
theorem chkTerm_ct (kind num : Int) (ref : Sm) (ks cv : Value) (kids : List Tm) (cases : List (Pt × Tm)) (d m b : Int) (H : Heap) (bD : Nat) (hks : rdS RT 36 H ks kids) (hcv : rdS RC 71 H cv cases) (hD : H bD = some (.cells ⟨[iv d]⟩ 3 (0, 0))) (hb0 : 0 ≤ b) (hb1 : b ≤ 1000000) (hn1 : -9223372036854775808 ≤ num) (hn2 : num ≤ 9223372036854775807) : CT Tryz.prog 113 ⟨[.agg ⟨[iv m, .func (.func 59) ⟨[]⟩ ⟨[pp bD 0]⟩]⟩, .agg ⟨pkT kind num ref ks cv⟩, iv b]⟩ [] H (fun v N => v = iv (Yw d m b kind num ref kids.length cases.length) ∧ N = []) := by
 refine Zk Tryz.func113 rfl rfl <| Zc <| Za <| JLr (Zr (l := [iv m, .func (.func 59) ⟨[]⟩ ⟨[pp bD 0]⟩]) rfl rfl fun b1 => JLr (Zr (l := pkT kind num ref ks cv) rfl rfl fun b2 => JLA rfl <| Zb <| Zc <| Zq <| Zc <| Za <| JLq (pp b2 0) (ZV rfl rfl) <| JLr (Ze ty3 rfl (At.bx 0 rfl) (Yb ..) ?_)))
 refine Jc Tryz.call45 rfl (fun hin => YG _ _ _ _) rfl ?_
 rintro _ _ ⟨rfl, rfl⟩
 refine JLA rfl <| Zb <| Zg rfl (fun h3 => ?_) (fun h3 => ?_)
 ·replace h3 := dt h3
  refine Zc <| Za <| JLA rfl <| Zb <| Zj <| ⟨iv 3, [], Ret.one rfl (RV.tmp rfl), Sub.nil, ?_⟩
  exact ⟨by refine congrArg (Value.int .i64) ?_; simp only [Yw]; (repeat' split) <;> first | rfl | omega | (exfalso; simp_all; done) | (exfalso; simp_all; omega) | grind, rfl⟩
 replace h3 := df h3
 refine Zc <| Zy mixed #[0, 1, 3, 0, 8, 0, 32, 0, 128, 384, 1023, 2047] 10 [some 13, some 14, some 15, some 16, some 17, some 18, some 19, some 20, some 21, some 22] [] [(2, fun _ _ vw qw => vw = .agg ⟨[.bool (fN kind), .bool (fR kind), .bool (fC kind)]⟩ ∧ qw = [])] rfl (by kernel_rfl) rfl (by kernel_rfl) <| Dq (pp b2 0) (fun _ => ZV rfl rfl) <| Dl1 ty3 (At.bx 0 rfl) (Yb ..) <| Dc rfl Tryz.call67 (fun _ => rfl) (fun hin => fields_ct _ _) ?_
 rintro _ _ ⟨rfl, rfl⟩
 refine Dq (pp b2 1) (fun _ => Yu rfl rfl) <| Dl1 ty3 (At.bx 0 rfl) (Y9 ..) <| Dq (pp b2 2) (fun _ => fa28_2 rfl rfl) <| Dl Y4 (At.bx 0 rfl) (pkT_2 ..) <| Dq (pp b2 35) (fun _ => YI rfl rfl) <| Dl1 ty26 (At.bx 0 rfl) (Yz ..) ?_
 obtain ⟨a5, cap5, hv5⟩ := hcv.sl
 have hle5 := hcv.le
 refine Dn (fun _ => Pu.lenSl Tryz.runUnderlying26 hv5) <| ZG (M' := [(BX b2 (pkT kind num ref ks cv) 28), (BX b1 [iv m, .func (.func 59) ⟨[]⟩ ⟨[pp bD 0]⟩] 123)]) rfl ?_
 show JL _ _ _ [_, _] _ _ _
 refine Jc Tryz.call139 rfl (fun hin => clash_ct _ _ _ _ _ _ _) rfl ?_
 rintro _ _ ⟨rfl, rfl⟩
 refine JLA rfl <| Zb <| Zg rfl (fun h6 => ?_) (fun h6 => ?_)
 ·refine Zc <| Za <| JLA rfl <| Zb <| Zj <| ⟨iv 7, [], Ret.one rfl (RV.tmp rfl), Sub.nil, ?_⟩
  exact ⟨by refine congrArg (Value.int .i64) ?_; simp only [Yw]; (repeat' split) <;> first | rfl | omega | (exfalso; simp_all; done) | (exfalso; simp_all; omega) | grind, rfl⟩
 refine Zc <| Za <| JLq (pp b2 0) (ZV rfl rfl) <| JLr (Ze ty3 rfl (At.bx 0 rfl) (Yb ..) <| JLq (pp b2 34) (Yn rfl rfl) <| JLr (Ze ty25 rfl (At.bx 0 rfl) (Ym ..) ?_))
 obtain ⟨a7, cap7, hv7⟩ := hks.sl
 have hle7 := hks.le
 refine JLn (Pu.lenSl Tryz.runUnderlying25 hv7) <| Jc Tryz.call140 rfl (fun hin => kidsT_ct _ _ _) rfl ?_
 rintro _ _ ⟨rfl, rfl⟩
 refine JLn (Pu.not rfl) <| JLM rfl <| ZA 4 [33, 34, 35, 36] [(36, cond (!(kidsB kind ((kids.length : Int)))) undef (.bool (decide (8 < (cases.length : Int)))))] ?_ fun f10 => ?_
 ·cases h8 : (!(kidsB kind ((kids.length : Int)))) with
  | false =>
   replace h8 := nf h8
   refine JLq (pp b2 35) (YI rfl rfl) <| JLr (Ze ty26 rfl (At.bx 0 rfl) (Yz ..) ?_)
   obtain ⟨a9, cap9, hv9⟩ := hcv.sl
   have hle9 := hcv.le
   refine JLn (Pu.lenSl Tryz.runUnderlying26 hv9) <| JLn (Pu.gtr rfl rfl) ?_
   exact Zb ⟨⟨rfl, trivial⟩, rfl⟩
  | true =>
   exact ZL rfl ⟨rfl, trivial⟩
 refine JLn (Pu.pickOr rfl rfl rfl) <| JLA rfl <| Zb <| Zg rfl (fun h11 => ?_) (fun h11 => ?_)
 ·refine Zc <| Za <| JLA rfl <| Zb <| Zj <| ⟨iv 2, [], Ret.one rfl (RV.tmp rfl), Sub.nil, ?_⟩
  exact ⟨by refine congrArg (Value.int .i64) ?_; simp only [Yw]; (repeat' split) <;> first | rfl | omega | (exfalso; simp_all; done) | (exfalso; simp_all; omega) | grind, rfl⟩
 obtain ⟨h11a, h11b⟩ := orF h11
 replace h11a := nf h11a
 replace h11b := df h11b
 refine Zm <| Zc <| Za <| JLA rfl <| Zb <| Zc <| Zc <| Za <| JLq (pp b2 0) (ZV rfl rfl) <| JLr (Ze ty3 rfl (At.bx 0 rfl) (Yb ..) <| Zb <| Zq <| Zc ?_)
 refine Za <| JLn (Pu.eql rfl rfl) <| JLA rfl <| Zb <| Zg rfl (fun h12 => ?_) (fun h12 => ?_)
 ·replace h12 := dt h12
  refine Zc <| Za <| JLq (pp b2 1) (Yu rfl rfl) <| JLr (Ze ty3 rfl (At.bx 0 rfl) (Y9 ..) <| Jc Tryz.call45 rfl (fun hin => YG _ _ _ _) rfl ?_)
  rintro _ _ ⟨rfl, rfl⟩
  refine Zb <| Zg rfl (fun h13 => ?_) (fun h13 => ?_)
  ·replace h13 := dt h13
   refine Zc <| Za <| JLA rfl <| Zb <| Zj <| ⟨iv 3, [], Ret.one rfl (RV.tmp rfl), Sub.nil, ?_⟩
   exact ⟨by refine congrArg (Value.int .i64) ?_; simp only [Yw]; (repeat' split) <;> first | rfl | omega | (exfalso; simp_all; done) | (exfalso; simp_all; omega) | grind, rfl⟩
  replace h13 := df h13
  refine Zm <| Zc <| Zc <| Za <| JLq (pp b2 0) (ZV rfl rfl) <| JLr (Ze ty3 rfl (At.bx 0 rfl) (Yb ..) <| JLn (Pu.eql rfl rfl) <| JLM rfl <| ZA 3 [73, 74, 75] [(75, cond (decide (kind = 2)) undef (.bool (decide (kind = 8))))] ?_ fun f15 => ?_)
  ·cases h14 : (decide (kind = 2)) with
   | false =>
    replace h14 := df h14
    refine JLq (pp b2 0) (ZV rfl rfl) <| JLr (Ze ty3 rfl (At.bx 0 rfl) (Yb ..) <| JLn (Pu.eql rfl rfl) ?_)
    exact Zb ⟨⟨rfl, trivial⟩, rfl⟩
   | true =>
    exact ZL rfl ⟨rfl, trivial⟩
  refine JLn (Pu.pickOr rfl rfl rfl) <| JLM rfl <| ZA 3 [78, 79, 80] [(80, cond ((decide (kind = 2)) || (decide (kind = 8))) undef (.bool (decide (kind = 11))))] ?_ fun f17 => ?_
  ·cases h16 : ((decide (kind = 2)) || (decide (kind = 8))) with
   | false =>
    obtain ⟨h16a, h16b⟩ := orF h16
    replace h16a := df h16a
    replace h16b := df h16b
    refine JLq (pp b2 0) (ZV rfl rfl) <| JLr (Ze ty3 rfl (At.bx 0 rfl) (Yb ..) <| JLn (Pu.eql rfl rfl) ?_)
    exact Zb ⟨⟨rfl, trivial⟩, rfl⟩
   | true =>
    exact ZL rfl ⟨rfl, trivial⟩
  refine JLn (Pu.pickOr rfl rfl rfl) <| JLM rfl <| ZA 4 [83, 84, 85, 86] [(86, cond (((decide (kind = 2)) || (decide (kind = 8))) || (decide (kind = 11))) (.bool (decide (num < 0 ∨ 1073741824 < num))) undef)] ?_ fun f19 => ?_
  ·cases h18 : (((decide (kind = 2)) || (decide (kind = 8))) || (decide (kind = 11))) with
   | true =>
    refine JLq (pp b2 1) (Yu rfl rfl) <| JLr (Ze ty3 rfl (At.bx 0 rfl) (Y9 ..) <| JLM rfl <| Jc Tryz.call45 rfl (fun hin => YG _ _ _ _) rfl ?_)
    rintro _ _ ⟨rfl, rfl⟩
    exact Zb ⟨⟨rfl, trivial⟩, rfl⟩
   | false =>
    exact ZL rfl ⟨rfl, trivial⟩
  refine JLn (Pu.pickAnd rfl rfl rfl) <| Zb <| Zg rfl (fun h20 => ?_) (fun h20 => ?_)
  ·obtain ⟨h20a, h20b⟩ := Xd h20
   replace h20b := dt h20b
   refine Zc <| Za <| JLA rfl <| Zb <| Zj <| ⟨iv 3, [], Ret.one rfl (RV.tmp rfl), Sub.nil, ?_⟩
   exact ⟨by refine congrArg (Value.int .i64) ?_; simp only [Yw]; (repeat' split) <;> first | rfl | omega | (exfalso; simp_all; done) | (exfalso; simp_all; omega) | grind, rfl⟩
  refine Zm <| Zc <| Za <| JLA rfl <| Zb <| Zj <| ⟨iv 0, [], Ret.one rfl (RV.tmp rfl), Sub.nil, ?_⟩
  exact ⟨by refine congrArg (Value.int .i64) ?_; simp only [Yw]; (repeat' split) <;> first | rfl | omega | (exfalso; simp_all; done) | (exfalso; simp_all; omega) | grind, rfl⟩
 replace h12 := df h12
 refine Zc <| Zc <| Za <| JLn (Pu.eql rfl rfl) <| JLA rfl <| Zb <| Zg rfl (fun h21 => ?_) (fun h21 => ?_)
 ·replace h21 := dt h21
  refine Zm <| Zg rfl (fun _ => ?_) (fun h22 => absurd h21 (df h22))
  refine Za <| JLA rfl <| Zb <| Zc <| Zc <| Za <| JLq (pp b2 0) (ZV rfl rfl) <| JLr (Ze ty3 rfl (At.bx 0 rfl) (Yb ..) <| JLn (Pu.eql rfl rfl) <| JLM rfl <| ZA 3 [73, 74, 75] [(75, cond (decide (kind = 2)) undef (.bool (decide (kind = 8))))] ?_ fun f24 => ?_)
  ·cases h23 : (decide (kind = 2)) with
   | false =>
    replace h23 := df h23
    refine JLq (pp b2 0) (ZV rfl rfl) <| JLr (Ze ty3 rfl (At.bx 0 rfl) (Yb ..) <| JLn (Pu.eql rfl rfl) ?_)
    exact Zb ⟨⟨rfl, trivial⟩, rfl⟩
   | true =>
    exact ZL rfl ⟨rfl, trivial⟩
  refine JLn (Pu.pickOr rfl rfl rfl) <| JLM rfl <| ZA 3 [78, 79, 80] [(80, cond ((decide (kind = 2)) || (decide (kind = 8))) undef (.bool (decide (kind = 11))))] ?_ fun f26 => ?_
  ·cases h25 : ((decide (kind = 2)) || (decide (kind = 8))) with
   | false =>
    obtain ⟨h25a, h25b⟩ := orF h25
    replace h25a := df h25a
    replace h25b := df h25b
    refine JLq (pp b2 0) (ZV rfl rfl) <| JLr (Ze ty3 rfl (At.bx 0 rfl) (Yb ..) <| JLn (Pu.eql rfl rfl) ?_)
    exact Zb ⟨⟨rfl, trivial⟩, rfl⟩
   | true =>
    exact ZL rfl ⟨rfl, trivial⟩
  refine JLn (Pu.pickOr rfl rfl rfl) <| JLM rfl <| ZA 4 [83, 84, 85, 86] [(86, cond (((decide (kind = 2)) || (decide (kind = 8))) || (decide (kind = 11))) (.bool (decide (num < 0 ∨ 7 < num))) undef)] ?_ fun f28 => ?_
  ·cases h27 : (((decide (kind = 2)) || (decide (kind = 8))) || (decide (kind = 11))) with
   | true =>
    refine JLq (pp b2 1) (Yu rfl rfl) <| JLr (Ze ty3 rfl (At.bx 0 rfl) (Y9 ..) <| JLM rfl <| Jc Tryz.call45 rfl (fun hin => YG _ _ _ _) rfl ?_)
    rintro _ _ ⟨rfl, rfl⟩
    exact Zb ⟨⟨rfl, trivial⟩, rfl⟩
   | false =>
    exact ZL rfl ⟨rfl, trivial⟩
  refine JLn (Pu.pickAnd rfl rfl rfl) <| Zb <| Zg rfl (fun h29 => ?_) (fun h29 => ?_)
  ·obtain ⟨h29a, h29b⟩ := Xd h29
   replace h29b := dt h29b
   refine Zc <| Za <| JLA rfl <| Zb <| Zj <| ⟨iv 3, [], Ret.one rfl (RV.tmp rfl), Sub.nil, ?_⟩
   exact ⟨by refine congrArg (Value.int .i64) ?_; simp only [Yw]; (repeat' split) <;> first | rfl | omega | (exfalso; simp_all; done) | (exfalso; simp_all; omega) | grind, rfl⟩
  refine Zm <| Zc <| Za <| JLA rfl <| Zb <| Zj <| ⟨iv 0, [], Ret.one rfl (RV.tmp rfl), Sub.nil, ?_⟩
  exact ⟨by refine congrArg (Value.int .i64) ?_; simp only [Yw]; (repeat' split) <;> first | rfl | omega | (exfalso; simp_all; done) | (exfalso; simp_all; omega) | grind, rfl⟩
 replace h21 := df h21
 refine Za <| JLn (Pu.eql rfl rfl) <| JLA rfl <| Zb <| Zg rfl (fun h30 => ?_) (fun h30 => ?_)
 ·replace h30 := dt h30
  refine Za <| JLA rfl <| Zb <| Zc <| Zc <| Za <| JLq (pp b2 0) (ZV rfl rfl) <| JLr (Ze ty3 rfl (At.bx 0 rfl) (Yb ..) <| JLn (Pu.eql rfl rfl) <| JLM rfl <| ZA 3 [73, 74, 75] [(75, cond (decide (kind = 2)) undef (.bool (decide (kind = 8))))] ?_ fun f32 => ?_)
  ·cases h31 : (decide (kind = 2)) with
   | false =>
    replace h31 := df h31
    refine JLq (pp b2 0) (ZV rfl rfl) <| JLr (Ze ty3 rfl (At.bx 0 rfl) (Yb ..) <| JLn (Pu.eql rfl rfl) ?_)
    exact Zb ⟨⟨rfl, trivial⟩, rfl⟩
   | true =>
    exact ZL rfl ⟨rfl, trivial⟩
  refine JLn (Pu.pickOr rfl rfl rfl) <| JLM rfl <| ZA 3 [78, 79, 80] [(80, cond ((decide (kind = 2)) || (decide (kind = 8))) undef (.bool (decide (kind = 11))))] ?_ fun f34 => ?_
  ·cases h33 : ((decide (kind = 2)) || (decide (kind = 8))) with
   | false =>
    obtain ⟨h33a, h33b⟩ := orF h33
    replace h33a := df h33a
    replace h33b := df h33b
    refine JLq (pp b2 0) (ZV rfl rfl) <| JLr (Ze ty3 rfl (At.bx 0 rfl) (Yb ..) <| JLn (Pu.eql rfl rfl) ?_)
    exact Zb ⟨⟨rfl, trivial⟩, rfl⟩
   | true =>
    exact ZL rfl ⟨rfl, trivial⟩
  refine JLn (Pu.pickOr rfl rfl rfl) <| JLM rfl <| ZA 4 [83, 84, 85, 86] [(86, cond (((decide (kind = 2)) || (decide (kind = 8))) || (decide (kind = 11))) (.bool (decide (num < 0 ∨ 7 < num))) undef)] ?_ fun f36 => ?_
  ·cases h35 : (((decide (kind = 2)) || (decide (kind = 8))) || (decide (kind = 11))) with
   | true =>
    refine JLq (pp b2 1) (Yu rfl rfl) <| JLr (Ze ty3 rfl (At.bx 0 rfl) (Y9 ..) <| JLM rfl <| Jc Tryz.call45 rfl (fun hin => YG _ _ _ _) rfl ?_)
    rintro _ _ ⟨rfl, rfl⟩
    exact Zb ⟨⟨rfl, trivial⟩, rfl⟩
   | false =>
    exact ZL rfl ⟨rfl, trivial⟩
  refine JLn (Pu.pickAnd rfl rfl rfl) <| Zb <| Zg rfl (fun h37 => ?_) (fun h37 => ?_)
  ·obtain ⟨h37a, h37b⟩ := Xd h37
   replace h37b := dt h37b
   refine Zc <| Za <| JLA rfl <| Zb <| Zj <| ⟨iv 3, [], Ret.one rfl (RV.tmp rfl), Sub.nil, ?_⟩
   exact ⟨by refine congrArg (Value.int .i64) ?_; simp only [Yw]; (repeat' split) <;> first | rfl | omega | (exfalso; simp_all; done) | (exfalso; simp_all; omega) | grind, rfl⟩
  refine Zm <| Zc <| Za <| JLA rfl <| Zb <| Zj <| ⟨iv 0, [], Ret.one rfl (RV.tmp rfl), Sub.nil, ?_⟩
  exact ⟨by refine congrArg (Value.int .i64) ?_; simp only [Yw]; (repeat' split) <;> first | rfl | omega | (exfalso; simp_all; done) | (exfalso; simp_all; omega) | grind, rfl⟩
 replace h30 := df h30
 refine Zc <| Za <| JLn (Pu.eql rfl rfl) <| JLA rfl <| Zb <| Zg rfl (fun h38 => ?_) (fun h38 => ?_)
 ·replace h38 := dt h38
  refine Zc <| Za <| JLq (pp b1 1) (fa123_1 rfl rfl) <| JLr (Ze ty121 rfl (At.bx 1 rfl) rfl <| JLq (pp b2 1) (Yu rfl rfl) <| JLr (Ze ty3 rfl (At.bx 0 rfl) (Y9 ..) <| JLM rfl <| Jc Tryz.call59 rfl (fun hin => known_ct _ _ _ _ bD (Hle.hu _ _ _ _ hD) hb0 hb1 hn1 hn2) rfl ?_))
  rintro _ _ ⟨rfl, rfl⟩
  refine JLn (Pu.not rfl) <| Zb <| Zg rfl (fun h39 => ?_) (fun h39 => ?_)
  ·replace h39 := nt h39
   refine Zc <| Za <| JLA rfl <| Zb <| Zj <| ⟨iv 1, [], Ret.one rfl (RV.tmp rfl), Sub.nil, ?_⟩
   exact ⟨by refine congrArg (Value.int .i64) ?_; simp only [Yw]; (repeat' split) <;> first | rfl | omega | (exfalso; simp_all; done) | (exfalso; simp_all; omega) | grind, rfl⟩
  replace h39 := nf h39
  refine Zm <| Zc <| Zc <| Za <| JLq (pp b2 0) (ZV rfl rfl) <| JLr (Ze ty3 rfl (At.bx 0 rfl) (Yb ..) <| JLn (Pu.eql rfl rfl) <| JLM rfl <| ZA 3 [73, 74, 75] [(75, cond (decide (kind = 2)) undef (.bool (decide (kind = 8))))] ?_ fun f41 => ?_)
  ·cases h40 : (decide (kind = 2)) with
   | false =>
    replace h40 := df h40
    refine JLq (pp b2 0) (ZV rfl rfl) <| JLr (Ze ty3 rfl (At.bx 0 rfl) (Yb ..) <| JLn (Pu.eql rfl rfl) ?_)
    exact Zb ⟨⟨rfl, trivial⟩, rfl⟩
   | true =>
    exact ZL rfl ⟨rfl, trivial⟩
  refine JLn (Pu.pickOr rfl rfl rfl) <| JLM rfl <| ZA 3 [78, 79, 80] [(80, cond ((decide (kind = 2)) || (decide (kind = 8))) undef (.bool (decide (kind = 11))))] ?_ fun f43 => ?_
  ·cases h42 : ((decide (kind = 2)) || (decide (kind = 8))) with
   | false =>
    obtain ⟨h42a, h42b⟩ := orF h42
    replace h42a := df h42a
    replace h42b := df h42b
    refine JLq (pp b2 0) (ZV rfl rfl) <| JLr (Ze ty3 rfl (At.bx 0 rfl) (Yb ..) <| JLn (Pu.eql rfl rfl) ?_)
    exact Zb ⟨⟨rfl, trivial⟩, rfl⟩
   | true =>
    exact ZL rfl ⟨rfl, trivial⟩
  refine JLn (Pu.pickOr rfl rfl rfl) <| JLM rfl <| ZA 4 [83, 84, 85, 86] [(86, cond (((decide (kind = 2)) || (decide (kind = 8))) || (decide (kind = 11))) (.bool (decide (num < 0 ∨ 1073741824 < num))) undef)] ?_ fun f45 => ?_
  ·cases h44 : (((decide (kind = 2)) || (decide (kind = 8))) || (decide (kind = 11))) with
   | true =>
    refine JLq (pp b2 1) (Yu rfl rfl) <| JLr (Ze ty3 rfl (At.bx 0 rfl) (Y9 ..) <| JLM rfl <| Jc Tryz.call45 rfl (fun hin => YG _ _ _ _) rfl ?_)
    rintro _ _ ⟨rfl, rfl⟩
    exact Zb ⟨⟨rfl, trivial⟩, rfl⟩
   | false =>
    exact ZL rfl ⟨rfl, trivial⟩
  refine JLn (Pu.pickAnd rfl rfl rfl) <| Zb <| Zg rfl (fun h46 => ?_) (fun h46 => ?_)
  ·obtain ⟨h46a, h46b⟩ := Xd h46
   replace h46b := dt h46b
   refine Zc <| Za <| JLA rfl <| Zb <| Zj <| ⟨iv 3, [], Ret.one rfl (RV.tmp rfl), Sub.nil, ?_⟩
   exact ⟨by refine congrArg (Value.int .i64) ?_; simp only [Yw]; (repeat' split) <;> first | rfl | omega | (exfalso; simp_all; done) | (exfalso; simp_all; omega) | grind, rfl⟩
  refine Zm <| Zc <| Za <| JLA rfl <| Zb <| Zj <| ⟨iv 0, [], Ret.one rfl (RV.tmp rfl), Sub.nil, ?_⟩
  exact ⟨by refine congrArg (Value.int .i64) ?_; simp only [Yw]; (repeat' split) <;> first | rfl | omega | (exfalso; simp_all; done) | (exfalso; simp_all; omega) | grind, rfl⟩
 replace h38 := df h38
 refine Zc <| Za <| JLn (Pu.eql rfl rfl) <| JLA rfl <| Zb <| Zg rfl (fun h47 => ?_) (fun h47 => ?_)
 ·replace h47 := dt h47
  refine Zc <| Za <| JLq (pp b2 1) (Yu rfl rfl) <| JLr (Ze ty3 rfl (At.bx 0 rfl) (Y9 ..) <| JLn (Pu.lss rfl rfl) <| JLM rfl <| ZA 5 [63, 64, 65, 66, 67] [(67, cond (decide (num < 0)) undef (.bool (decide (m ≤ num))))] ?_ fun f49 => ?_)
  ·cases h48 : (decide (num < 0)) with
   | false =>
    replace h48 := df h48
    refine JLq (pp b2 1) (Yu rfl rfl) <| JLr (Ze ty3 rfl (At.bx 0 rfl) (Y9 ..) <| JLq (pp b1 0) (fa123_0 rfl rfl) <| JLr (Ze ty3 rfl (At.bx 1 rfl) rfl <| JLn (Pu.geq rfl rfl) ?_))
    exact Zb ⟨⟨rfl, trivial⟩, rfl⟩
   | true =>
    exact ZL rfl ⟨rfl, trivial⟩
  refine JLn (Pu.pickOr rfl rfl rfl) <| Zb <| Zg rfl (fun h50 => ?_) (fun h50 => ?_)
  ·refine Zc <| Za <| JLA rfl <| Zb <| Zj <| ⟨iv 1, [], Ret.one rfl (RV.tmp rfl), Sub.nil, ?_⟩
   exact ⟨by refine congrArg (Value.int .i64) ?_; simp only [Yw]; (repeat' split) <;> first | rfl | omega | (exfalso; simp_all; done) | (exfalso; simp_all; omega) | grind, rfl⟩
  obtain ⟨h50a, h50b⟩ := orF h50
  replace h50a := df h50a
  replace h50b := df h50b
  refine Zm <| Zc <| Zc <| Za <| JLq (pp b2 0) (ZV rfl rfl) <| JLr (Ze ty3 rfl (At.bx 0 rfl) (Yb ..) <| JLn (Pu.eql rfl rfl) <| JLM rfl <| ZA 3 [73, 74, 75] [(75, cond (decide (kind = 2)) undef (.bool (decide (kind = 8))))] ?_ fun f52 => ?_)
  ·cases h51 : (decide (kind = 2)) with
   | false =>
    replace h51 := df h51
    refine JLq (pp b2 0) (ZV rfl rfl) <| JLr (Ze ty3 rfl (At.bx 0 rfl) (Yb ..) <| JLn (Pu.eql rfl rfl) ?_)
    exact Zb ⟨⟨rfl, trivial⟩, rfl⟩
   | true =>
    exact ZL rfl ⟨rfl, trivial⟩
  refine JLn (Pu.pickOr rfl rfl rfl) <| JLM rfl <| ZA 3 [78, 79, 80] [(80, cond ((decide (kind = 2)) || (decide (kind = 8))) undef (.bool (decide (kind = 11))))] ?_ fun f54 => ?_
  ·cases h53 : ((decide (kind = 2)) || (decide (kind = 8))) with
   | false =>
    obtain ⟨h53a, h53b⟩ := orF h53
    replace h53a := df h53a
    replace h53b := df h53b
    refine JLq (pp b2 0) (ZV rfl rfl) <| JLr (Ze ty3 rfl (At.bx 0 rfl) (Yb ..) <| JLn (Pu.eql rfl rfl) ?_)
    exact Zb ⟨⟨rfl, trivial⟩, rfl⟩
   | true =>
    exact ZL rfl ⟨rfl, trivial⟩
  refine JLn (Pu.pickOr rfl rfl rfl) <| JLM rfl <| ZA 4 [83, 84, 85, 86] [(86, cond (((decide (kind = 2)) || (decide (kind = 8))) || (decide (kind = 11))) (.bool (decide (num < 0 ∨ 1073741824 < num))) undef)] ?_ fun f56 => ?_
  ·cases h55 : (((decide (kind = 2)) || (decide (kind = 8))) || (decide (kind = 11))) with
   | true =>
    refine JLq (pp b2 1) (Yu rfl rfl) <| JLr (Ze ty3 rfl (At.bx 0 rfl) (Y9 ..) <| JLM rfl <| Jc Tryz.call45 rfl (fun hin => YG _ _ _ _) rfl ?_)
    rintro _ _ ⟨rfl, rfl⟩
    exact Zb ⟨⟨rfl, trivial⟩, rfl⟩
   | false =>
    exact ZL rfl ⟨rfl, trivial⟩
  refine JLn (Pu.pickAnd rfl rfl rfl) <| Zb <| Zg rfl (fun h57 => ?_) (fun h57 => ?_)
  ·obtain ⟨h57a, h57b⟩ := Xd h57
   replace h57b := dt h57b
   refine Zc <| Za <| JLA rfl <| Zb <| Zj <| ⟨iv 3, [], Ret.one rfl (RV.tmp rfl), Sub.nil, ?_⟩
   exact ⟨by refine congrArg (Value.int .i64) ?_; simp only [Yw]; (repeat' split) <;> first | rfl | omega | (exfalso; simp_all; done) | (exfalso; simp_all; omega) | grind, rfl⟩
  refine Zm <| Zc <| Za <| JLA rfl <| Zb <| Zj <| ⟨iv 0, [], Ret.one rfl (RV.tmp rfl), Sub.nil, ?_⟩
  exact ⟨by refine congrArg (Value.int .i64) ?_; simp only [Yw]; (repeat' split) <;> first | rfl | omega | (exfalso; simp_all; done) | (exfalso; simp_all; omega) | grind, rfl⟩
 replace h47 := df h47
 refine Zm <| Zc <| Zc <| Za <| JLq (pp b2 0) (ZV rfl rfl) <| JLr (Ze ty3 rfl (At.bx 0 rfl) (Yb ..) <| JLn (Pu.eql rfl rfl) <| JLM rfl <| ZA 3 [73, 74, 75] [(75, cond (decide (kind = 2)) undef (.bool (decide (kind = 8))))] ?_ fun f59 => ?_)
 ·cases h58 : (decide (kind = 2)) with
  | false =>
   replace h58 := df h58
   refine JLq (pp b2 0) (ZV rfl rfl) <| JLr (Ze ty3 rfl (At.bx 0 rfl) (Yb ..) <| JLn (Pu.eql rfl rfl) ?_)
   exact Zb ⟨⟨rfl, trivial⟩, rfl⟩
  | true =>
   exact ZL rfl ⟨rfl, trivial⟩
 refine JLn (Pu.pickOr rfl rfl rfl) <| JLM rfl <| ZA 3 [78, 79, 80] [(80, cond ((decide (kind = 2)) || (decide (kind = 8))) undef (.bool (decide (kind = 11))))] ?_ fun f61 => ?_
 ·cases h60 : ((decide (kind = 2)) || (decide (kind = 8))) with
  | false =>
   obtain ⟨h60a, h60b⟩ := orF h60
   replace h60a := df h60a
   replace h60b := df h60b
   refine JLq (pp b2 0) (ZV rfl rfl) <| JLr (Ze ty3 rfl (At.bx 0 rfl) (Yb ..) <| JLn (Pu.eql rfl rfl) ?_)
   exact Zb ⟨⟨rfl, trivial⟩, rfl⟩
  | true =>
   exact ZL rfl ⟨rfl, trivial⟩
 refine JLn (Pu.pickOr rfl rfl rfl) <| JLM rfl <| ZA 4 [83, 84, 85, 86] [(86, cond (((decide (kind = 2)) || (decide (kind = 8))) || (decide (kind = 11))) (.bool (decide (num < 0 ∨ 1073741824 < num))) undef)] ?_ fun f63 => ?_
 ·cases h62 : (((decide (kind = 2)) || (decide (kind = 8))) || (decide (kind = 11))) with
  | true =>
   refine JLq (pp b2 1) (Yu rfl rfl) <| JLr (Ze ty3 rfl (At.bx 0 rfl) (Y9 ..) <| JLM rfl <| Jc Tryz.call45 rfl (fun hin => YG _ _ _ _) rfl ?_)
   rintro _ _ ⟨rfl, rfl⟩
   exact Zb ⟨⟨rfl, trivial⟩, rfl⟩
  | false =>
   exact ZL rfl ⟨rfl, trivial⟩
 refine JLn (Pu.pickAnd rfl rfl rfl) <| Zb <| Zg rfl (fun h64 => ?_) (fun h64 => ?_)
 ·obtain ⟨h64a, h64b⟩ := Xd h64
  replace h64b := dt h64b
  refine Zc <| Za <| JLA rfl <| Zb <| Zj <| ⟨iv 3, [], Ret.one rfl (RV.tmp rfl), Sub.nil, ?_⟩
  exact ⟨by refine congrArg (Value.int .i64) ?_; simp only [Yw]; (repeat' split) <;> first | rfl | omega | (exfalso; simp_all; done) | (exfalso; simp_all; omega) | grind, rfl⟩
 refine Zm <| Zc <| Za <| JLA rfl <| Zb <| Zj <| ⟨iv 0, [], Ret.one rfl (RV.tmp rfl), Sub.nil, ?_⟩
 exact ⟨by refine congrArg (Value.int .i64) ?_; simp only [Yw]; (repeat' split) <;> first | rfl | omega | (exfalso; simp_all; done) | (exfalso; simp_all; omega) | grind, rfl⟩
end Go.Proofs.YtjhenmdcnbaobaaGreat.Hs
/-! Walks, printed by a program of this session's own (gen.py). -/
namespace Go.Proofs.YtjhenmdcnbaobaaGreat.Hs
open Go Go.Proofs
set_option maxRecDepth 100000
set_option linter.unusedVariables false
set_option linter.unusedSimpArgs false
attribute [local irreducible] JL J CT wlo DT
theorem parts_ct (cs : List Value) (H : Heap) (hl : cs.length = 36) : CT Tryz.prog 115 ⟨[.agg ⟨cs⟩]⟩ [] H (fun v N => ∃ b, v = .func (.func 142) ⟨[]⟩ ⟨[pp b 0]⟩ ∧ N = [(BX b cs 28)]) := by
 refine Zk Tryz.func115 rfl rfl <| Zc <| Za <| JLr (Zr (l := cs) rfl rfl fun b1 => JLa .nilFunc <| Zb <| Zc <| Za <| JLq (.func (.func 142) ⟨[]⟩ ⟨[pp b1 0]⟩) (Pu.makeFunc rfl rfl) <| JLA rfl <| Zb <| Zj <| ⟨.func (.func 142) ⟨[]⟩ ⟨[pp b1 0]⟩, [(BX b1 cs 28)], Ret.one rfl (RV.tmp rfl), (Sk Sub.nil), ?_⟩)
 exact ⟨_, rfl, rfl⟩
theorem parts1_ct (kind num : Int) (ref : Sm) (ks cv : Value) (kids : List Tm) (cases : List (Pt × Tm)) (H : Heap) (bT : Nat) (hks : rdS RT 36 H ks kids) (hcv : rdS RC 71 H cv cases) (hT : H bT = some (.cells ⟨pkT kind num ref ks cv⟩ 28 (0, 0))) (hsz : ∀ c ∈ cases, binds c.1 ≤ 1000000) (hkl : kids.length ≤ 1000000) (hcl : cases.length ≤ 1000000) (l : Nat) {σ : Type} (yc : σ → Zh) (Inv : σ → Prop) (step : Tm → Int → σ → Bool × σ) (s0 : σ) (h0 : Inv s0) (It : Tm → Int → Prop) (hIK : ∀ (j : Nat) (hj : j < kids.length), It kids[j] (more kind j)) (hIC : ∀ (j : Nat) (hj : j < cases.length), It cases[j].2 (binds cases[j].1 : Int)) (hI : ∀ x mo s, Inv s → (step x mo s).1 = true → Inv (step x mo s).2) (hy : ∀ x mo, It x mo → ∀ s (i : Int) a h, Inv s → Hle H h → RT h a x → YT Tryz.prog l ⟨[iv i, .agg ⟨a ++ [iv mo]⟩]⟩ [yc s] h (fun v N => v = .bool (step x mo s).1 ∧ N = [yc (step x mo s).2])) : CT Tryz.prog 142 ⟨[.func (.yield l) ⟨[]⟩ ⟨[]⟩, pp bT 0]⟩ [yc s0] H (fun _ N => N = [yc (yP step kind kids cases s0)]) := by
 refine Zk Tryz.func142 rfl rfl <| Zc <| Zc <| Za <| JLq (pp bT 34) (Yn rfl rfl) <| JLr (Ze ty25 rfl (At.im hT) (Ym ..) ?_)
 obtain ⟨a1, cap1, hv1⟩ := hks.sl
 have hle1 := hks.le
 refine JLn (Pu.lenSl Tryz.runUnderlying25 hv1) <| JLM rfl <| Zb <| Zq <| ZS (fun k ρ M => ∃ (j : Nat) (s : σ), ρ 0 = .func (.yield l) ⟨[]⟩ ⟨[]⟩ ∧ ρ 1 = pp bT 0 ∧ ρ 8 = ks ∧ ρ 9 = iv ((kids.length : Int)) ∧ ρ 10 = iv ((j : Int)) ∧ Sub [yc s] M ∧ j ≤ kids.length ∧ Inv s ∧ yK step kind j (kids.drop j) s = yK step kind 0 kids s0 ∧ k = kids.length - j) _ ⟨0, s0, rfl, rfl, rfl, rfl, rfl, (Sk Sub.nil), Nat.zero_le _, h0, rfl, rfl⟩ ?_
 rintro _ ρ2 _ ⟨j, s, e3, e4, e5, e6, e7, hm8, hj, hs, hinv, rfl⟩
 obtain ⟨ρ9, rfl⟩ := Zo (uc e3 (uc e4 (uc e5 (uc e6 (uc e7 un)))))
 clear e3 e4 e5 e6 e7
 refine ZY hm8 ?_
 have hlen := hks.le
 refine Zc <| Za <| JLn (Pu.lss rfl rfl) <| Zb <| Zc <| Zg rfl (fun h10 => ?_) (fun h10 => ?_)
 ·replace h10 := dt h10
  have h10n : j < kids.length := by omega
  refine Zm <| Zc <| Zq <| Zc <| Za <| JLM rfl ?_
  obtain ⟨b11, o11, cap11, row11, T11, fr11, cs11, hv11, hb11, hs11, hE11⟩ := hks.get j (by first | assumption | omega | decide | simp)
  refine JLq (pp b11 (o11 + j * 36)) (Pu.idx j Tryz.runUnderlying25 Zt hv11 rfl rfl (by first | assumption | omega | decide | simp)) <| JLr (Zl Zt rfl (At.im hb11) hs11 <| JLr (Zi (l := pkT 0 0 zS nS nS) Tryz.zeroValue28 rfl fun b12 => JLA rfl <| JLr (Zd 0 (vs := cs11) (l := cs11) Zt rfl rfl rfl rfl (Zv hE11) (RT_ok hE11) (ZD (n := 36) rfl (Zv hE11)) <| Zb <| Zc <| Zy mixed #[0, 0, 0, 0, 8, 0, 56, 124, 255, 511] 8 [some 15, some 16, some 17, some 18, some 19, some 20, some 21, some 22] [] [(6, fun _ _ vw qw => vw = iv (more kind ((j : Int))) ∧ qw = [])] rfl (by kernel_rfl) rfl (by kernel_rfl) <| DM (fun _ => rfl) <| DM (fun _ => rfl) <| Dl Zt (At.bx 0 rfl) (Zu (Zv hE11)) <| Dq (pp bT 0) (fun _ => ZV rfl rfl) <| Dl1 ty3 (At.im hT) (Yb ..) ?_)))
  refine DM (fun _ => rfl) <| Dc rfl Tryz.call81 (fun _ => rfl) (fun hin => more_ct _ _ _) ?_
  rintro _ _ ⟨rfl, rfl⟩
  refine Dq (.agg ⟨cs11 ++ ([iv (more kind ((j : Int)))] : List Value)⟩) (fun _ => Pu.build (pv := [(0, .agg ⟨cs11⟩), (1, iv (more kind ((j : Int))))]) (l := cs11 ++ ([iv (more kind ((j : Int)))] : List Value)) rfl (bld179_0_1 (Zv hE11))) <| ZG (M' := [(BX b12 cs11 28), yc s]) rfl ?_
  show JL _ _ _ [_, _] _ _ _
  refine JL_yield1 1 rfl rfl rfl (fun hin => hy _ _ (hIK j h10n) _ _ _ _ hs (Hle.hu _ _) (RT.mono (Hle.hu _ _) hE11)) rfl ?_
  rintro _ _ ⟨rfl, rfl⟩
  refine JLn (Pu.not rfl) <| Zb <| Zg rfl (fun h13 => ?_) (fun h13 => ?_)
  ·replace h13 := nt h13
   refine Zj <| ⟨.tuple ⟨[]⟩, [yc (step (kids[j]) (more kind ((j : Int))) s).2], Ret.none rfl, (Sk Sub.nil), ?_⟩
   rw [YE h10n, yK, if_neg (by simp [h13])] at hinv
   show _ = _; rw [yP, ← hinv]; rfl
  replace h13 := nf h13
  refine Zm <| Za <| JLn (Pu.inc rfl rfl (by omega)) <| JLM rfl <| Zb <| ⟨_, ?_, (j + 1), ((step (kids[j]) (more kind ((j : Int))) s).2), rfl, rfl, rfl, rfl, rfl, (Sk Sub.nil), ?_, ?_, ?_, rfl⟩
  ·omega
  ·omega
  ·exact hI _ _ s hs h13
  rw [YE h10n, yK, if_pos h13] at hinv; exact hinv
 replace h10 := df h10
 have h10n : kids.length ≤ j := by omega
 refine ZB _ rfl <| Zc <| Za <| JLq (pp bT 35) (YI rfl rfl) <| JLr (Ze ty26 rfl (At.im hT) (Yz ..) ?_)
 obtain ⟨a14, cap14, hv14⟩ := hcv.sl
 have hle14 := hcv.le
 refine JLn (Pu.lenSl Tryz.runUnderlying26 hv14) <| JLM rfl <| Zb <| Zq ?_
 have hk1 : yK step kind 0 kids s0 = (true, s) := by rw [← hinv, dropn h10n]; rfl
 refine ZS (fun k ρ M => ∃ (j : Nat) (s2 : σ), ρ 0 = .func (.yield l) ⟨[]⟩ ⟨[]⟩ ∧ ρ 1 = pp bT 0 ∧ ρ 27 = cv ∧ ρ 28 = iv ((cases.length : Int)) ∧ ρ 29 = iv ((j : Int)) ∧ Sub [yc s2] M ∧ j ≤ cases.length ∧ Inv s2 ∧ yC step (cases.drop j) s2 = yC step cases s ∧ k = cases.length - j) _ ⟨0, s, rfl, rfl, rfl, rfl, rfl, (Sk Sub.nil), Nat.zero_le _, hs, rfl, rfl⟩ ?_
 rintro _ ρ15 _ ⟨j, s2, e16, e17, e18, e19, e20, hm21, hj, hs, hinv, rfl⟩
 obtain ⟨ρ22, rfl⟩ := Zo (uc e16 (uc e17 (uc e18 (uc e19 (uc e20 un)))))
 clear e16 e17 e18 e19 e20
 refine ZY hm21 ?_
 have hlen := hcv.le
 refine Zc <| Za <| JLn (Pu.lss rfl rfl) <| Zb <| Zc <| Zg rfl (fun h23 => ?_) (fun h23 => ?_)
 ·replace h23 := dt h23
  have h23n : j < cases.length := by omega
  have hbm := hsz _ (List.getElem_mem h23n)
  have hlenk := hks.le
  refine Zm <| Zc <| Zq <| Zc <| Za <| JLM rfl ?_
  obtain ⟨b24, o24, cap24, row24, T24, fr24, cs24, hv24, hb24, hs24, hE24⟩ := hcv.get j (by first | assumption | omega | decide | simp)
  obtain ⟨ca24, cb24, rfl, hA24, hB24⟩ := hE24
  refine JLq (pp b24 (o24 + j * 71)) (Pu.idx j Tryz.runUnderlying26 ty87 hv24 rfl rfl (by first | assumption | omega | decide | simp)) <| JLr (Zl ty87 rfl (At.im hb24) hs24 <| JLr (Zi (l := (pkP 0 0 zS nS) ++ (pkT 0 0 zS nS nS)) Tryz.zeroValue87 rfl fun b25 => JLA rfl <| JLr (Zd 0 (vs := ca24 ++ cb24) (l := ca24 ++ cb24) ty87 rfl rfl rfl rfl (Z6 (ZJ hA24) (Zv hB24)) (Yf (RP_ok hA24) (RT_ok hB24)) (ZD (n := 71) rfl (Z6 (ZJ hA24) (Zv hB24))) <| Zb <| Zc <| Zy mixed #[0, 0, 2, 6, 0, 30, 0, 64, 0, 256, 768, 1984, 4095, 8191] 12 [some 34, some 35, some 36, some 37, some 38, some 39, some 40, some 41, some 42, some 43, some 44, some 45] [] [(10, fun _ _ vw qw => vw = iv ((binds (cases[j].1) : Int)) ∧ qw = [])] rfl (by kernel_rfl) rfl (by kernel_rfl) <| DM (fun _ => rfl) <| Dq (pp bT 34) (fun _ => Yn rfl rfl) <| Dl1 ty25 (At.im hT) (Ym ..) ?_)))
  obtain ⟨a27, cap27, hv27⟩ := hks.sl
  have hle27 := hks.le
  refine Dn (fun _ => Pu.lenSl Tryz.runUnderlying25 hv27) <| DM (fun _ => rfl) ?_
  refine Dn (fun _ => Pu.add64 rfl rfl (by first | omega | (constructor <;> omega))) <| Dq (pp b25 35) (fun _ => fa87_1 rfl rfl) <| Dl Zt (At.bx 0 rfl) (sub_r (ZJ hA24) (Zv hB24)) <| Dq (pp b25 0) (fun _ => fa87_0 rfl rfl) <| Dl Z1 (At.bx 0 rfl) (sub_l (ZJ hA24)) ?_
  refine Dc rfl Tryz.call83 (fun _ => rfl) (fun hin => binds_ct _ _ _ (RP.mono (Hle.hu _ _) hA24) (by omega)) ?_
  rintro _ _ ⟨rfl, rfl⟩
  refine Dq (.agg ⟨cb24 ++ ([iv ((binds (cases[j].1) : Int))] : List Value)⟩) (fun _ => Pu.build (pv := [(0, .agg ⟨cb24⟩), (1, iv ((binds (cases[j].1) : Int)))]) (l := cb24 ++ ([iv ((binds (cases[j].1) : Int))] : List Value)) rfl (bld179_0_1 (Zv hB24))) <| ZG (M' := [(BX b25 (ca24 ++ cb24) 87), yc s2]) rfl ?_
  show JL _ _ _ [_, _] _ _ _
  refine JL_yield1 1 rfl rfl rfl (fun hin => hy _ _ (hIC j h23n) _ _ _ _ hs (Hle.hu _ _) (RT.mono (Hle.hu _ _) hB24)) rfl ?_
  rintro _ _ ⟨rfl, rfl⟩
  refine JLn (Pu.not rfl) <| Zb <| Zg rfl (fun h28 => ?_) (fun h28 => ?_)
  ·replace h28 := nt h28
   refine Zj <| ⟨.tuple ⟨[]⟩, [yc (step (cases[j].2) ((binds (cases[j].1) : Int)) s2).2], Ret.none rfl, (Sk Sub.nil), ?_⟩
   rw [YE h23n, yC, if_neg (by simp [h28])] at hinv
   show _ = _; rw [yP, hk1, if_pos rfl, ← hinv]
  replace h28 := nf h28
  refine Zm <| Za <| JLn (Pu.inc rfl rfl (by omega)) <| JLM rfl <| Zb <| ⟨_, ?_, (j + 1), ((step (cases[j].2) ((binds (cases[j].1) : Int)) s2).2), rfl, rfl, rfl, rfl, rfl, (Sk Sub.nil), ?_, ?_, ?_, rfl⟩
  ·omega
  ·omega
  ·exact hI _ _ s2 hs h28
  rw [YE h23n, yC, if_pos h28] at hinv; exact hinv
 replace h23 := df h23
 have h23n : cases.length ≤ j := by omega
 refine ZB _ rfl <| ⟨.tuple ⟨[]⟩, [yc s2], Ret.none rfl, (Sk Sub.nil), ?_⟩
 show _ = _; rw [yP, hk1, if_pos rfl, ← hinv, dropn h23n]; rfl
end Go.Proofs.YtjhenmdcnbaobaaGreat.Hs
/-! Walks, printed by a program of this session's own (gen.py). -/
namespace Go.Proofs.YtjhenmdcnbaobaaGreat.Hs
open Go Go.Proofs
set_option maxRecDepth 100000
set_option linter.unusedVariables false
set_option linter.unusedSimpArgs false
attribute [local irreducible] JL J CT wlo DT
theorem all_ct : ∀ (t : Tm) (d m b : Int) (cs : List Value) (H : Heap) (bD : Nat), RT H cs t → H bD = some (.cells ⟨[iv d]⟩ 3 (0, 0)) → 0 ≤ b → b + 2 * sizeT t ≤ 1000000 → CT Tryz.prog 60 ⟨[.agg ⟨[iv m, .func (.func 59) ⟨[]⟩ ⟨[pp bD 0]⟩]⟩, .agg ⟨cs⟩, iv b]⟩ [] H (fun v N => v = iv (Y7 d m b t) ∧ N = []) := by
 intro t
 induction t using Tm.ind with
 | h kind num ref kids cases ih ih' =>
 intro d m b cs H bD ht hD hb0 hb
 obtain ⟨ks, cv, rfl, hk, hn, hks, hcv⟩ := RT_mk.1 ht
 rw [sizeT] at hb
 have hn1 : -9223372036854775808 ≤ num := hn.1
 have hn2 : num ≤ 9223372036854775807 := hn.2
 have ihx : ∀ x mo, (fun x mo => ((∃ (j : Nat) (hj : j < kids.length), x = kids[j]) ∨ ∃ (j : Nat) (hj : j < cases.length), x = cases[j].2) ∧ 0 ≤ mo ∧ mo + 2 * (sizeT x : Int) ≤ 2 * ((1 + sizeTs kids + sizeCs cases : Nat) : Int)) x mo → ∀ (d m b : Int) (cs : List Value) (H : Heap) (bD : Nat), RT H cs x → H bD = some (.cells ⟨[iv d]⟩ 3 (0, 0)) → 0 ≤ b → b + 2 * sizeT x ≤ 1000000 → CT Tryz.prog 60 ⟨[.agg ⟨[iv m, .func (.func 59) ⟨[]⟩ ⟨[pp bD 0]⟩]⟩, .agg ⟨cs⟩, iv b]⟩ [] H (fun v N => v = iv (Y7 d m b x) ∧ N = []) := by
  rintro x mo ⟨⟨j, hj, rfl⟩ | ⟨j, hj, rfl⟩, _, _⟩
  ·exact ih _ (List.getElem_mem hj)
  ·exact ih' _ (List.getElem_mem hj)
 refine Zk Tryz.func60 rfl rfl <| Zc <| Za <| JLr (Zr (l := [iv m, .func (.func 59) ⟨[]⟩ ⟨[pp bD 0]⟩]) rfl rfl fun b1 => JLr (Zr (l := pkT kind num ref ks cv) rfl rfl fun b2 => JLr (Zr (l := [iv b]) rfl rfl fun b3 => JLr (Zi (l := [iv 0]) Tryz.zeroValue33 rfl fun b4 => Zb <| Zc <| Zc <| Za <| JLr (Zl ty123 rfl (At.bx 3 rfl) rfl <| JLr (Zl Zt rfl (At.bx 2 rfl) (Z0 ..) ?_))))))
 refine JLr (Ze ty3 rfl (At.bx 1 rfl) rfl <| Jc Tryz.call113 rfl (fun hin => chkTerm_ct _ _ _ _ _ _ _ _ _ _ _ bD (RTs.mono (Hle.hu _ _) hks) (RCs.mono (Hle.hu _ _) hcv) (Hle.hu _ _ _ _ hD) hb0 (by omega) hn1 hn2) rfl ?_)
 rintro _ _ ⟨rfl, rfl⟩
 refine JLA rfl <| Zb <| Zc <| Za <| JLM rfl <| JLn (Pu.neq rfl rfl) <| Zb <| Zg rfl (fun h5 => ?_) (fun h5 => ?_)
 ·replace h5 := nt h5
  replace h5 := df h5
  refine Zc <| Za <| JLM rfl <| JLr (Zd 0 (vs := [iv (Yw d m b kind num ref kids.length cases.length)]) (l := [iv (Yw d m b kind num ref kids.length cases.length)]) ty33 rfl rfl rfl rfl rfl (Zf rfl Zn) rfl <| Zb <| Zj <| ⟨iv (Yw d m b kind num ref kids.length cases.length), [], Ret.one rfl (RV.cell1 ty33 rfl (At.bx 0 rfl) rfl), Sub.nil, ?_⟩)
  exact ⟨by rw [Y7, if_neg h5], rfl⟩
 replace h5 := nf h5
 replace h5 := dt h5
 refine Zm <| Zc <| Zc <| Za <| JLq (pp b2 35) (YI rfl rfl) <| JLr (Ze ty26 rfl (At.bx 2 rfl) (Yz ..) ?_)
 obtain ⟨a6, cap6, hv6⟩ := hcv.sl
 have hle6 := hcv.le
 refine JLn (Pu.lenSl Tryz.runUnderlying26 hv6) <| JLM rfl <| Zb <| Zq ?_
 have hh0 : Yw d m b kind num ref kids.length cases.length = 0 := h5
 refine ZS (fun k ρ M => ∃ (j : Nat), ρ 3 = pp b1 0 ∧ ρ 4 = pp b2 0 ∧ ρ 5 = pp b3 0 ∧ ρ 6 = pp b4 0 ∧ ρ 22 = cv ∧ ρ 23 = iv ((cases.length : Int)) ∧ ρ 24 = iv ((j : Int)) ∧ Sub [(BX b4 [iv 0] 33), (BX b3 [iv b] 3), (BX b2 (pkT kind num ref ks cv) 28), (BX b1 [iv m, .func (.func 59) ⟨[]⟩ ⟨[pp bD 0]⟩] 123)] M ∧ j ≤ cases.length ∧ pErrsC (cases.drop j) = pErrsC cases ∧ k = cases.length - j) _ ⟨0, rfl, rfl, rfl, rfl, rfl, rfl, rfl, (Sk (Sk (Sk (Sk Sub.nil)))), Nat.zero_le _, rfl, rfl⟩ ?_
 rintro _ ρ7 _ ⟨j, e8, e9, e10, e11, e12, e13, e14, hm15, hj, hinv, rfl⟩
 obtain ⟨ρ16, rfl⟩ := Zo (uc e8 (uc e9 (uc e10 (uc e11 (uc e12 (uc e13 (uc e14 un)))))))
 clear e8 e9 e10 e11 e12 e13 e14
 refine ZY hm15 ?_
 have hlen := hcv.le
 refine Zc <| Za <| JLn (Pu.lss rfl rfl) <| Zb <| Zc <| Zg rfl (fun h17 => ?_) (fun h17 => ?_)
 ·replace h17 := dt h17
  have h17n : j < cases.length := by omega
  refine Zm <| Zc <| Zq <| Zc <| Za ?_
  obtain ⟨b18, o18, cap18, row18, T18, fr18, cs18, hv18, hb18, hs18, hE18⟩ := hcv.get j (by first | assumption | omega | decide | simp)
  obtain ⟨ca18, cb18, rfl, hA18, hB18⟩ := hE18
  refine JLq (pp b18 (o18 + j * 71)) (Pu.idx j Tryz.runUnderlying26 ty87 hv18 rfl rfl (by first | assumption | omega | decide | simp)) <| JLr (Zl ty87 rfl (At.im hb18) hs18 <| JLr (Zi (l := (pkP 0 0 zS nS) ++ (pkT 0 0 zS nS nS)) Tryz.zeroValue87 rfl fun b19 => JLr (Zd 0 (vs := ca18 ++ cb18) (l := ca18 ++ cb18) ty87 rfl rfl rfl rfl (Z6 (ZJ hA18) (Zv hB18)) (Yf (RP_ok hA18) (RT_ok hB18)) (ZD (n := 71) rfl (Z6 (ZJ hA18) (Zv hB18))) <| Zb <| Zc <| Za <| JLq (pp b19 0) (fa87_0 rfl rfl) <| JLr (Zl Z1 rfl (At.bx 0 rfl) (sub_l (ZJ hA18)) <| Jc Tryz.call114 rfl (fun hin => patternsError_ct _ _ _ (RP.mono (Hle.hu _ _) hA18)) rfl ?_))))
  rintro _ _ ⟨rfl, rfl⟩
  refine JLA rfl <| Zb <| Zc <| Za <| JLM rfl <| JLn (Pu.neq rfl rfl) <| Zb <| Zg rfl (fun h20 => ?_) (fun h20 => ?_)
  ·replace h20 := nt h20
   replace h20 := df h20
   refine Zc <| Za <| JLM rfl <| JLr (Zd 1 (vs := [iv (pErrs (cases[j].1))]) (l := [iv (pErrs (cases[j].1))]) ty33 rfl rfl rfl rfl rfl (Zf rfl Zn) rfl <| Zb <| Zj <| ⟨iv (pErrs (cases[j].1)), [], Ret.one rfl (RV.cell1 ty33 rfl (At.bx 1 rfl) rfl), Sub.nil, ?_⟩)
   exact ⟨by rw [Y7, if_pos hh0, ← hinv, YE h17n, pErrsC, if_neg h20, if_neg h20], rfl⟩
  replace h20 := nf h20
  replace h20 := dt h20
  refine Zm <| Za <| JLn (Pu.inc rfl rfl (by omega)) <| JLM rfl <| Zb <| ⟨_, ?_, (j + 1), rfl, rfl, rfl, rfl, rfl, rfl, rfl, (Sd (Sk (Sk (Sk (Sk Sub.nil))))), ?_, ?_, rfl⟩
  ·omega
  ·omega
  rw [YE h17n, pErrsC, if_pos h20] at hinv; exact hinv
 replace h17 := df h17
 have h17n : cases.length ≤ j := by omega
 refine ZB _ rfl <| Zc <| Zc <| Za <| JLr (Zl Zt rfl (At.bx 2 rfl) (Z0 ..) <| Jc Tryz.call115 rfl (fun hin => parts_ct _ _ rfl) rfl ?_)
 rintro _ _ ⟨bT21, rfl, rfl⟩
 refine Zb <| Zq ?_
 have h1 : pErrsC cases = 0 := by rw [← hinv, dropn h17n]; rfl
 refine J_range (L := [(BX bT21 (pkT kind num ref ks cv) 28), (BX b3 [iv b] 3), (BX b2 (pkT kind num ref ks cv) 28), (BX b1 [iv m, .func (.func 59) ⟨[]⟩ ⟨[pp bD 0]⟩] 123)]) (fun e : Int => [(BX b4 [iv e] 33)]) (fun e => !decide (e = 0)) 0 (fun e => e = yP (fun x mo _ => (decide (Y7 d m (b + mo) x = 0), Y7 d m (b + mo) x)) kind kids cases 0) rfl rfl Tryz.call142 (flatten_pick (i := 1) rfl) ?_ ?_ ?_
 ·intro l yc hY hin
  refine CT.mono (parts1_ct kind num ref ks cv kids cases _ bT21 (RTs.mono (Hle.hu _ _) hks) (RCs.mono (Hle.hu _ _) hcv) (hin 0 _ rfl _ _ List.mem_cons_self) (fun c hc => by have := sizeCs_mem c hc; have := binds_le c.1; omega) (by have := len_sizeTs kids; omega) (by have := len_sizeCs cases; omega) l yc (fun e => e = 0) (fun x mo _ => (decide (Y7 d m (b + mo) x = 0), Y7 d m (b + mo) x)) 0 rfl (fun x mo => ((∃ (j : Nat) (hj : j < kids.length), x = kids[j]) ∨ ∃ (j : Nat) (hj : j < cases.length), x = cases[j].2) ∧ 0 ≤ mo ∧ mo + 2 * (sizeT x : Int) ≤ 2 * ((1 + sizeTs kids + sizeCs cases : Nat) : Int)) ?_ ?_ (fun x mo s _ h => of_decide_eq_true h) ?_) (fun v N hN => ⟨_, hN, rfl⟩)
  ·intro j hj; have hs1 := sizeTs_mem _ (List.getElem_mem hj); have hm1 := more_le kind j; exact ⟨.inl ⟨j, hj, rfl⟩, by omega, by omega⟩
  ·intro j hj; have hs1 := sizeCs_mem _ (List.getElem_mem hj); have hm1 := binds_le (cases[j]).1; have hp1 := sizeT_pos (cases[j]).2; exact ⟨.inr ⟨j, hj, rfl⟩, by omega, by omega⟩
  intro x mo hit e i a h he hh ra
  subst he
  have hb0x : 0 ≤ b + mo := by have := hit.2.1; omega
  have hb1x : b + mo + 2 * (sizeT x : Int) ≤ 1000000 := by have := hit.2.2; omega
  have hp1 := sizeT_pos x
  refine YT.mono (hY 0 [_, _] h (fun e' => e' = Y7 d m (b + mo) x) rfl rfl (RoundOk.mk ?_)) ?_
  ·show J _ _ _ _ [(BX b4 [iv 0] 33)] _
   refine Za <| JLr (Zi (l := (pkT 0 0 zS nS nS) ++ ([iv 0] : List Value)) Tryz.zeroValue179 rfl fun b22 => JLr (Zd 0 (vs := a ++ ([iv mo] : List Value)) (l := a ++ ([iv mo] : List Value)) ty179 rfl rfl rfl rfl (Z6 (Zv ra) rfl) (Yf (RT_ok ra) (Zf rfl Zn)) (ZD (n := 37) rfl (Z6 (Zv ra) rfl)) <| Zb <| Zq <| Zc <| Za <| JLr (Zl ty123 rfl (At.im (hh _ _ (hin 3 _ rfl _ _ List.mem_cons_self))) rfl <| JLq (pp b22 0) (fa179_0 rfl rfl) <| JLr (Zl Zt rfl (At.bx 0 rfl) (sub_l (Zv ra)) <| JLr (Ze ty3 rfl (At.im (hh _ _ (hin 1 _ rfl _ _ List.mem_cons_self))) rfl <| JLq (pp b22 36) (fa179_1 rfl rfl) <| JLr (Ze ty3 rfl (At.bx 0 rfl) (get_r (n := 36) (i := 0) (Zv ra) rfl) ?_))))))
   refine JLn (Pu.add64 rfl rfl (by first | omega | (constructor <;> omega))) <| Jc Tryz.call60 rfl (fun hin => ihx x mo hit d m _ _ _ bD (RT.mono (Hle.hu _ _) ra) (Hle.hu _ _ _ _ (hh _ _ (Hle.hu _ _ _ _ hD))) hb0x hb1x) rfl ?_
   rintro _ _ ⟨rfl, rfl⟩
   refine JLA rfl <| Zb <| Zc <| Za <| JLM rfl <| JLn (Pu.neq rfl rfl) <| Zb <| Zg rfl (fun h23 => ?_) (fun h23 => ?_)
   ·replace h23 := nt h23
    replace h23 := df h23
    refine Zc <| Za <| JLM rfl <| JLr (Zd 1 (vs := [iv (Y7 d m (b + mo) x)]) (l := [iv (Y7 d m (b + mo) x)]) ty33 rfl rfl rfl rfl rfl (Zf rfl Zn) rfl <| Zb <| Zj ?_)
    exact ⟨Y7 d m (b + mo) x, by simp [h23], (Sd (Sk Sub.nil)), rfl⟩
   replace h23 := nf h23
   replace h23 := dt h23
   refine Zm ?_
   exact ⟨0, rfl, (Sd (Sk Sub.nil)), h23.symm⟩
  rintro v N ⟨e', rfl, rfl, rfl⟩; exact ⟨by simp, rfl⟩
 ·rintro ef hef hp
  refine Zc <| Za <| JLr (Zd 0 (vs := [iv 0]) (l := [iv 0]) ty33 rfl rfl rfl rfl rfl (Zf rfl Zn) rfl <| Zb <| Zj <| ⟨iv 0, [], Ret.one rfl (RV.cell1 ty33 rfl (At.bx 0 rfl) rfl), Sub.nil, ?_⟩)
  rw [yP_err] at hef
  have hp0 : ef = 0 := by simpa using hp
  exact ⟨by rw [Y7, if_pos hh0, if_pos h1, ← hef, hp0], rfl⟩
 rintro ef hef hp
 refine ⟨iv ef, [], Ret.one rfl (RV.cell1 ty33 rfl (At.bx 0 rfl) rfl), Sub.nil, ?_⟩
 rw [yP_err] at hef
 have hp0 : ¬ ef = 0 := by simpa using hp
 exact ⟨by rw [Y7, if_pos hh0, if_pos h1, ← hef], rfl⟩
end Go.Proofs.YtjhenmdcnbaobaaGreat.Hs
/-! Walks, printed by a program of this session's own (gen.py). -/
namespace Go.Proofs.YtjhenmdcnbaobaaGreat.Hs
open Go Go.Proofs
set_option maxRecDepth 100000
set_option linter.unusedVariables false
set_option linter.unusedSimpArgs false
attribute [local irreducible] JL J CT wlo DT
theorem check_ct (t : Tm) (d m : Int) (cs : List Value) (H : Heap) (ht : RT H cs t) : CT Tryz.prog 26 ⟨[.agg ⟨cs⟩, iv d, iv m]⟩ [] H (fun v N => v = iv (Yj d m t) ∧ N = []) := by
 refine Zk Tryz.func26 rfl rfl <| Zc <| Za <| JLr (Zr (l := cs) rfl rfl fun b1 => JLr (Zr (l := [iv d]) rfl rfl fun b2 => JLA rfl <| Zb <| Zc <| Zc <| Za <| JLq (.agg ⟨[iv 0]⟩) (Pu.build (pv := []) (l := [iv 0]) rfl bld77_) <| JLr (Zr (l := [iv 0]) rfl rfl fun b3 => JLr (Zl Zt rfl (At.bx 2 rfl) (Zu (Zv ht)) ?_))))
 refine Zs 0 rfl Tryz.call58 rfl rfl (fun hin => longT_ct _ _ _ _ _ _ (RT.mono (Hle.hu _ _) ht) (by omega) (by omega) (by omega) (by omega)) rfl ?_
 rintro _ _ ⟨rfl, rfl⟩
 refine Zb <| Zg rfl (fun h5 => ?_) (fun h5 => ?_)
 ·refine Zc <| Za <| JLA rfl <| Zb <| Zj <| ⟨iv 11, [], Ret.one rfl (RV.tmp rfl), Sub.nil, ?_⟩
  exact ⟨by rw [Yj, if_pos (by simp [h5])], rfl⟩
 refine Zm <| Zc <| Za <| JLM rfl <| JLq (.func (.func 59) ⟨[]⟩ ⟨[pp b2 0]⟩) (Pu.makeFunc rfl rfl) <| JLq (.agg ⟨[iv m, .func (.func 59) ⟨[]⟩ ⟨[pp b2 0]⟩]⟩) (Pu.build (pv := [(0, iv m), (1, .func (.func 59) ⟨[]⟩ ⟨[pp b2 0]⟩)]) (l := [iv m, .func (.func 59) ⟨[]⟩ ⟨[pp b2 0]⟩]) rfl (bld123_0_1 _ _ _ _)) <| JLr (Zi (l := [iv 0, .nilFunc]) Tryz.zeroValue123 rfl fun b6 => JLr (Zd 0 (vs := [iv m, .func (.func 59) ⟨[]⟩ ⟨[pp b2 0]⟩]) (l := [iv m, .func (.func 59) ⟨[]⟩ ⟨[pp b2 0]⟩]) ty123 rfl rfl rfl rfl rfl (Zf rfl (Zf rfl Zn)) rfl <| Zb <| Zc <| Za <| JLr (Zl ty123 rfl (At.bx 0 rfl) rfl <| JLr (Zl Zt rfl (At.bx 3 rfl) (Zu (Zv ht)) ?_))))
 refine Jc Tryz.call60 rfl (fun hin => all_ct _ _ _ _ _ _ _ (RT.mono (Hle.hu _ _) ht) (hin 2 _ rfl _ _ List.mem_cons_self) (by decide) (by have e1 := cnT_size t 1 0 h5; have e2 := cnT_le stL_le t 1 0 h5; omega)) rfl ?_
 rintro _ _ ⟨rfl, rfl⟩
 refine JLA rfl <| Zb <| Zj <| ⟨iv (Y7 d m 0 t), [], Ret.one rfl (RV.tmp rfl), Sub.nil, ?_⟩
 exact ⟨by rw [Yj, if_neg (by simp [h5])], rfl⟩
theorem right_ct (l : List Tm) (v : Value) (H : Heap) (hl : rdS RT 36 H v l) : CT Tryz.prog 30 ⟨[v]⟩ [] H (fun v N => v = iv (ZP l) ∧ N = []) := by
 refine Zk Tryz.func30 rfl rfl <| Zc <| Za <| JLA rfl <| Zb <| Zc <| Zc <| Za <| JLm v ?_
 obtain ⟨a1, cap1, hv1⟩ := hl.sl
 have hle1 := hl.le
 refine JLn (Pu.lenSl Tryz.runUnderlying25 hv1) <| JLM rfl <| Zb <| Zq <| ZS (fun k ρ M => ∃ (j : Nat), ρ 2 = iv 0 ∧ ρ 6 = v ∧ ρ 7 = iv ((l.length : Int)) ∧ ρ 8 = iv ((j : Int)) ∧ Sub [] M ∧ j ≤ l.length ∧ ZP (l.drop j) = ZP l ∧ k = l.length - j) _ ⟨0, rfl, rfl, rfl, rfl, Sub.nil, Nat.zero_le _, rfl, rfl⟩ ?_
 rintro _ ρ2 _ ⟨j, e3, e4, e5, e6, hm7, hj, hinv, rfl⟩
 obtain ⟨ρ8, rfl⟩ := Zo (uc e3 (uc e4 (uc e5 (uc e6 un))))
 clear e3 e4 e5 e6
 refine ZY hm7 <| Zc <| Za <| JLn (Pu.lss rfl rfl) <| Zb <| Zc <| Zg rfl (fun h9 => ?_) (fun h9 => ?_)
 ·replace h9 := dt h9
  have h9n : j < l.length := by omega
  have hlenl := hl.le
  refine Zm <| Zc <| Zq <| Zc <| Za ?_
  obtain ⟨b10, o10, cap10, row10, T10, fr10, cs10, hv10, hb10, hs10, hE10⟩ := hl.get j (by first | assumption | omega | decide | simp)
  refine JLq (pp b10 (o10 + j * 36)) (Pu.idx j Tryz.runUnderlying25 Zt hv10 rfl rfl (by first | assumption | omega | decide | simp)) <| JLr (Zl Zt rfl (At.im hb10) hs10 <| JLr (Zi (l := pkT 0 0 zS nS nS) Tryz.zeroValue28 rfl fun b11 => JLr (Zd 0 (vs := cs10) (l := cs10) Zt rfl rfl rfl rfl (Zv hE10) (RT_ok hE10) (ZD (n := 36) rfl (Zv hE10)) <| Zb <| Zc <| Za <| JLr (Zl Zt rfl (At.bx 0 rfl) (Zu (Zv hE10)) <| Jc Tryz.call26 rfl (fun hin => check_ct _ _ _ _ _ (RT.mono (Hle.hu _ _) hE10)) rfl ?_))))
  rintro _ _ ⟨rfl, rfl⟩
  refine JLA rfl <| Zb <| Zc <| Za <| JLM rfl <| JLn (Pu.neq rfl rfl) <| Zb <| Zg rfl (fun h12 => ?_) (fun h12 => ?_)
  ·replace h12 := nt h12
   replace h12 := df h12
   refine Zc <| Za <| JLM rfl <| JLA rfl <| Zb <| Zj <| ⟨iv (Yj 60 8 (l[j])), [], Ret.one rfl (RV.tmp rfl), Sub.nil, ?_⟩
   exact ⟨by rw [← hinv, YE h9n, ZP, if_neg h12], rfl⟩
  replace h12 := nf h12
  replace h12 := dt h12
  refine Zm <| Za <| JLn (Pu.inc rfl rfl (by omega)) <| JLM rfl <| Zb <| ⟨_, ?_, (j + 1), rfl, rfl, rfl, rfl, Sub.nil, ?_, ?_, rfl⟩
  ·omega
  ·omega
  rw [YE h9n, ZP, if_pos h12] at hinv; exact hinv
 replace h9 := df h9
 have h9n : l.length ≤ j := by omega
 refine ZB _ rfl <| Zc <| Za <| JLA rfl <| Zb <| Zj <| ⟨iv 0, [], Ret.one rfl (RV.tmp rfl), Sub.nil, ?_⟩
 exact ⟨by rw [← hinv, dropn h9n]; rfl, rfl⟩
end Go.Proofs.YtjhenmdcnbaobaaGreat.Hs
/-! Walks, printed by a program of this session's own (gen.py). -/
namespace Go.Proofs.YtjhenmdcnbaobaaGreat.Hs
open Go Go.Proofs
set_option maxRecDepth 100000
set_option linter.unusedVariables false
set_option linter.unusedSimpArgs false
attribute [local irreducible] JL J CT wlo DT
theorem YX (s : ByteArray) (H : Heap) (bR : Nat) (a e c : Int) (e2 i : Int) : CT Tryz.prog 119 ⟨[pp bR 0, iv e2, iv i]⟩ [(BX bR [.string s, iv a, iv e, iv c] 131)] H (fun r N => r = .bool false ∧ N = [(BX bR [.string s, iv i, iv e2, iv c] 131)]) := by
 refine Zk Tryz.func119 rfl rfl <| Zc <| Za <| JLA rfl <| Zb <| Zc <| Za <| JLM rfl <| JLM rfl <| JLM rfl <| JLM rfl <| JLq (pp bR 0) (Pu.nilCheck rfl) <| JLq (pp bR 2) (fa129_2 rfl rfl) ?_
 refine JLr (Zd 0 (vs := [iv e2]) (l := [.string s, iv a, iv e2, iv c]) ty33 rfl rfl rfl rfl rfl (Zf rfl Zn) rfl <| JLq (pp bR 0) (Pu.nilCheck rfl) <| JLq (pp bR 1) (Z9 rfl rfl) <| JLr (Zd 0 (vs := [iv i]) (l := [.string s, iv i, iv e2, iv c]) ty3 rfl rfl rfl rfl rfl (Zf rfl Zn) rfl <| Zb <| Zc <| Za <| JLA rfl <| Zb <| Zj <| ⟨.bool false, [(BX bR [.string s, iv i, iv e2, iv c] 131)], Ret.one rfl (RV.tmp rfl), (Sk Sub.nil), ?_⟩))
 exact ⟨rfl, rfl⟩
theorem begins_ct (s : ByteArray) (H : Heap) (bR a c : Nat) (lv : Int) (hc : c ≤ 5000) : CT Tryz.prog 120 ⟨[pp bR 0, iv lv]⟩ [(BX bR [.string s, iv ((a : Int)), iv 0, iv ((c : Int))] 131)] H (fun r N => ∃ x a' e' c', r = .bool x ∧ N = [(BX bR [.string s, iv (a'), iv (e'), iv (c')] 131)] ∧ begQ lv a c x a' e' c') := by
 refine Zk Tryz.func120 rfl rfl <| Zc <| Za <| JLA rfl <| Zb <| Zc <| Zq <| Zc <| Za <| JLM rfl <| JLn (Pu.gtr rfl rfl) <| JLA rfl <| Zb ?_
 refine Zg rfl (fun h1 => ?_) (fun h1 => ?_)
 ·replace h1 := dt h1
  refine Zc <| Zy mixed #[0, 1, 3, 0, 8, 24, 56, 120, 255, 511] 8 [some 8, some 9, some 10, some 11, some 12, some 13, some 14, some 15] [] [] rfl (by kernel_rfl) rfl (by kernel_rfl) <| DM (fun _ => rfl) <| Dq (pp bR 0) (fun _ => Pu.nilCheck rfl) <| Dq (pp bR 0) (fun _ => ZE rfl rfl) <| DM (fun _ => rfl) <| Dq (pp bR 0) (fun _ => Pu.nilCheck rfl) <| Dq (pp bR 0) (fun _ => ZE rfl rfl) <| Dq (pp bR 1) (fun _ => Z9 rfl rfl) <| Dl1 ty3 (At.bx 0 rfl) rfl <| ZG (M' := [(BX bR [.string s, iv ((a : Int)), iv 0, iv ((c : Int))] 131)]) rfl ?_
  show JL _ _ _ [_, _] _ _ _
  refine Zs 0 rfl Tryz.call119 rfl rfl (fun hin => YX s _ _ _ _ _ _ _) rfl ?_
  rintro _ _ ⟨rfl, rfl⟩
  refine JLA rfl <| Zb <| Zj <| ⟨.bool false, [(BX bR [.string s, iv ((a : Int)), iv 11, iv ((c : Int))] 131)], Ret.one rfl (RV.tmp rfl), (Sk Sub.nil), ?_⟩
  exact ⟨_, _, _, _, rfl, rfl, by unfold begQ; (repeat' split) <;> first | exact ⟨rfl, rfl, rfl, rfl⟩ | (exfalso; omega)⟩
 replace h1 := df h1
 refine Zc <| Za <| JLM rfl <| JLq (pp bR 0) (Pu.nilCheck rfl) <| JLq (pp bR 3) (fa131_1 rfl rfl) <| JLr (Ze ty3 rfl (At.bx 0 rfl) rfl <| JLn (Pu.eql rfl rfl) <| JLA rfl <| Zb <| Zg rfl (fun h2 => ?_) (fun h2 => ?_))
 ·replace h2 := dt h2
  refine Zc <| Zy mixed #[0, 1, 3, 0, 8, 24, 56, 120, 255, 511] 8 [some 23, some 24, some 25, some 26, some 27, some 28, some 29, some 30] [] [] rfl (by kernel_rfl) rfl (by kernel_rfl) <| DM (fun _ => rfl) <| Dq (pp bR 0) (fun _ => Pu.nilCheck rfl) <| Dq (pp bR 0) (fun _ => ZE rfl rfl) <| DM (fun _ => rfl) <| Dq (pp bR 0) (fun _ => Pu.nilCheck rfl) <| Dq (pp bR 0) (fun _ => ZE rfl rfl) <| Dq (pp bR 1) (fun _ => Z9 rfl rfl) <| Dl1 ty3 (At.bx 0 rfl) rfl <| ZG (M' := [(BX bR [.string s, iv ((a : Int)), iv 0, iv ((c : Int))] 131)]) rfl ?_
  show JL _ _ _ [_, _] _ _ _
  refine Zs 0 rfl Tryz.call119 rfl rfl (fun hin => YX s _ _ _ _ _ _ _) rfl ?_
  rintro _ _ ⟨rfl, rfl⟩
  refine JLA rfl <| Zb <| Zj <| ⟨.bool false, [(BX bR [.string s, iv ((a : Int)), iv 2, iv ((c : Int))] 131)], Ret.one rfl (RV.tmp rfl), (Sk Sub.nil), ?_⟩
  exact ⟨_, _, _, _, rfl, rfl, by unfold begQ; (repeat' split) <;> first | exact ⟨rfl, rfl, rfl, rfl⟩ | (exfalso; omega)⟩
 replace h2 := df h2
 refine Zm <| Zc <| Za <| JLM rfl <| JLq (pp bR 0) (Pu.nilCheck rfl) <| JLq (pp bR 3) (fa131_1 rfl rfl) <| JLr (Ze ty3 rfl (At.bx 0 rfl) rfl <| JLn (Pu.inc rfl rfl (by omega)) <| JLq (pp bR 0) (Pu.nilCheck rfl) <| JLq (pp bR 3) (fa131_1 rfl rfl) <| JLr (Zd 0 (vs := [iv (((c + 1 : Nat) : Int))]) (l := [.string s, iv ((a : Int)), iv 0, iv (((c + 1 : Nat) : Int))]) ty3 rfl rfl rfl rfl rfl (Zf rfl Zn) rfl <| Zb <| Zc ?_))
 refine Za <| JLA rfl <| Zb <| Zj <| ⟨.bool true, [(BX bR [.string s, iv ((a : Int)), iv 0, iv (((c + 1 : Nat) : Int))] 131)], Ret.one rfl (RV.tmp rfl), (Sk Sub.nil), ?_⟩
 exact ⟨_, _, _, _, rfl, rfl, by unfold begQ; (repeat' split) <;> first | exact ⟨rfl, rfl, rfl, rfl⟩ | (exfalso; omega)⟩
end Go.Proofs.YtjhenmdcnbaobaaGreat.Hs
/-! Walks, printed by a program of this session's own (gen.py). -/
namespace Go.Proofs.YtjhenmdcnbaobaaGreat.Hs
open Go Go.Proofs
set_option maxRecDepth 100000
set_option linter.unusedVariables false
set_option linter.unusedSimpArgs false
attribute [local irreducible] JL J CT wlo DT
set_option maxHeartbeats 2000000 in
theorem numW_ct (s : ByteArray) (l : List Int) (hls : l = sB s) (H : Heap) (bR a : Nat) (ha : a ≤ l.length) (hl : l.length ≤ 1000000) (least most c : Int) : CT Tryz.prog 147 ⟨[pp bR 0, iv least, iv most]⟩ [(BX bR [.string s, iv ((a : Int)), iv 0, iv c] 131)] H (fun r N => ∃ x ok a' e', r = .tuple ⟨[iv x, .bool ok]⟩ ∧ N = [(BX bR [.string s, iv (a'), iv (e'), iv c] 131)] ∧ wQ (leastD l least most a) x ok a' e') := by
 have hsz : l.length = s.size := by rw [hls, Ys]
 refine Zk Tryz.func147 rfl rfl <| Zc <| Za <| JLA rfl <| JLA rfl <| Zb <| Zc <| Za <| JLM rfl <| JLq (pp bR 0) (Pu.nilCheck rfl) <| JLq (pp bR 0) (ZE rfl rfl) <| JLq (pp bR 1) (Z9 rfl rfl) <| JLr (Ze ty3 rfl (At.bx 0 rfl) rfl ?_)
 refine JLA rfl <| JLA rfl <| Zb <| Zc <| Zc <| Za <| JLM rfl <| Zb <| Zq <| ZS (fun k ρ M => ∃ (j b : Nat) (n u : Int), ρ 0 = pp bR 0 ∧ ρ 1 = iv least ∧ ρ 2 = iv most ∧ ρ 6 = iv 0 ∧ ρ 7 = .bool false ∧ ρ 8 = iv ((a : Int)) ∧ ρ 9 = iv n ∧ ρ 17 = iv ((j : Int)) ∧ Sub [(BX bR [.string s, iv ((b : Int)), iv 0, iv c] 131)] M ∧ j ≤ 6 ∧ Xa l most a (6 - j) j n u b = num0 l most a ∧ b ≤ l.length ∧ ((j = 0 ∧ u = 1) ∨ (j = 1 ∧ u = 128) ∨ (j = 2 ∧ u = 16384) ∨ (j = 3 ∧ u = 2097152) ∨ (j = 4 ∧ u = 268435456) ∨ (j = 5 ∧ u = 34359738368) ∨ (j = 6 ∧ u = 4398046511104)) ∧ 0 ≤ n ∧ n < u ∧ k = 6 - j) _ ⟨0, a, 0, 1, rfl, rfl, rfl, rfl, rfl, rfl, rfl, rfl, (Sk Sub.nil), (by omega), rfl, ha, (.inl ⟨rfl, rfl⟩), (Int.le_refl _), (by decide), rfl⟩ ?_
 rintro _ ρ1 _ ⟨j, b, n, u, e2, e3, e4, e5, e6, e7, e8, e9, hm10, hj, hinv, hb, hku, hn0, hnu, rfl⟩
 obtain ⟨ρ11, rfl⟩ := Zo (uc e2 (uc e3 (uc e4 (uc e5 (uc e6 (uc e7 (uc e8 (uc e9 un))))))))
 clear e2 e3 e4 e5 e6 e7 e8 e9
 refine ZY hm10 <| Zc <| Za <| JLn (Pu.lss rfl rfl) <| Zb <| Zc <| Zg rfl (fun h12 => ?_) (fun h12 => ?_)
 ·replace h12 := dt h12
  have h12n : j < 6 := by omega
  obtain ⟨f, hf⟩ : ∃ f0, 6 - j = f0 + 1 := ⟨5 - j, by omega⟩
  rw [hf] at hinv
  refine Zm <| Zc <| Zq <| Zc <| Za <| JLM rfl <| JLA rfl <| Zb <| Zc <| Zc <| Zy mixed #[0, 1, 3, 7, 15, 0, 32, 96, 224, 480, 992, 2047] 11 [some 20, some 21, some 22, some 23, some 24, some 25, some 26, some 27, some 28, some 29, some 30] [] [] rfl (by kernel_rfl) rfl (by kernel_rfl) <| DM (fun _ => rfl) <| Dq (pp bR 0) (fun _ => Pu.nilCheck rfl) ?_
  refine Dq (pp bR 0) (fun _ => ZE rfl rfl) <| Dq (pp bR 1) (fun _ => Z9 rfl rfl) <| Dl1 ty3 (At.bx 0 rfl) rfl <| DM (fun _ => rfl) <| Dq (pp bR 0) (fun _ => Pu.nilCheck rfl) <| Dq (pp bR 0) (fun _ => ZE rfl rfl) <| Dq (pp bR 0) (fun _ => fa129_0 rfl rfl) <| Dl1 ty9 (At.bx 0 rfl) rfl <| Dn (fun _ => Pu.lenS Tryz.runUnderlying9 rfl) <| ZG (M' := [(BX bR [.string s, iv ((b : Int)), iv 0, iv c] 131)]) rfl ?_
  show JL _ _ _ [_] _ _ _
  refine JLn (Pu.eql rfl rfl) <| Zb <| Zg rfl (fun h13 => ?_) (fun h13 => ?_)
  ·replace h13 := dt h13
   refine Zc <| Zy mixed #[0, 1, 3, 0, 8, 24, 56, 120, 255, 511, 1023] 8 [some 32, some 33, some 34, some 35, some 36, some 37, some 38, some 39] [] [] rfl (by kernel_rfl) rfl (by kernel_rfl) <| DM (fun _ => rfl) <| Dq (pp bR 0) (fun _ => Pu.nilCheck rfl) <| Dq (pp bR 0) (fun _ => ZE rfl rfl) <| DM (fun _ => rfl) <| Dq (pp bR 0) (fun _ => Pu.nilCheck rfl) <| Dq (pp bR 0) (fun _ => ZE rfl rfl) <| Dq (pp bR 1) (fun _ => Z9 rfl rfl) <| Dl1 ty3 (At.bx 0 rfl) rfl <| ZG (M' := [(BX bR [.string s, iv ((b : Int)), iv 0, iv c] 131)]) rfl ?_
   show JL _ _ _ [_, _, _] _ _ _
   refine Zs 0 rfl Tryz.call119 rfl rfl (fun hin => YX s _ _ _ _ _ _ _) rfl ?_
   rintro _ _ ⟨rfl, rfl⟩
   refine JLA rfl <| JLA rfl <| Zb <| Zj <| ⟨.tuple ⟨[iv 0, .bool false]⟩, [(BX bR [.string s, iv ((b : Int)), iv 4, iv c] 131)], Ret.two rfl (RV.tmp rfl) (RV.tmp rfl), (Sk Sub.nil), ?_⟩
   first | (rw [numD_end (by omega)] at hinv; have hx := ZN (least := least) hinv.symm) | (rw [numD_zero hbl (by omega) (by omega)] at hinv; have hx := ZN (least := least) hinv.symm) | (rw [numD_great hbl (by omega) (fun q => by have z := hpick; simp [q.1] at z; omega) (by omega)] at hinv; have hx := ZN (least := least) hinv.symm) | (rw [numD_done hbl (by omega) (fun q => by have z := hpick; simp [q.1] at z; omega) (by omega)] at hinv; have hx := YL (least := least) hinv.symm (by omega)) | (rw [show 6 - j = 0 from by omega, Xa] at hinv; have hx := ZN (least := least) hinv.symm)
   first | (have hx := ZN (least := least) hinv.symm; exact ⟨_, _, _, _, rfl, rfl, by rw [hx]; exact ⟨rfl, rfl, rfl, rfl⟩⟩) | (have hx := YL (least := least) hinv.symm (by omega); exact ⟨_, _, _, _, rfl, rfl, by rw [hx]; exact ⟨rfl, rfl, rfl, rfl⟩⟩)
  replace h13 := df h13
  refine Zm <| Zc ?_
  have hbl : b < l.length := by omega
  have hx8 : 0 ≤ l[b] ∧ l[b] ≤ 255 := by subst hls; exact sB_8 s _ (List.getElem_mem hbl)
  have hmu := mul_in (x := l[b]) (u := u) (by omega)
  have hku6 : (j = 0 ∧ u = 1) ∨ (j = 1 ∧ u = 128) ∨ (j = 2 ∧ u = 16384) ∨ (j = 3 ∧ u = 2097152) ∨ (j = 4 ∧ u = 268435456) ∨ (j = 5 ∧ u = 34359738368) := by omega
  refine Zy mixed #[0, 1, 3, 7, 15, 0, 32, 96, 224, 480, 1023, 2047] 10 [some 41, some 42, some 43, some 44, some 45, some 46, some 47, some 48, some 49, some 50] [] [] rfl (by kernel_rfl) rfl (by kernel_rfl) <| DM (fun _ => rfl) <| Dq (pp bR 0) (fun _ => Pu.nilCheck rfl) <| Dq (pp bR 0) (fun _ => ZE rfl rfl) <| Dq (pp bR 0) (fun _ => fa129_0 rfl rfl) <| Dl1 ty9 (At.bx 0 rfl) rfl <| DM (fun _ => rfl) <| Dq (pp bR 0) (fun _ => Pu.nilCheck rfl) <| Dq (pp bR 0) (fun _ => ZE rfl rfl) <| Dq (pp bR 1) (fun _ => Z9 rfl rfl) <| Dl1 ty3 (At.bx 0 rfl) rfl <| ZG (M' := [(BX bR [.string s, iv ((b : Int)), iv 0, iv c] 131)]) rfl ?_
  show JL _ _ _ [_, _] _ _ _
  refine JLq (.int .u8 (l[b])) (Pu.idxB b Tryz.runUnderlying9 rfl rfl rfl hls hbl) <| JLA rfl <| Zb <| Zc <| Za <| JLM rfl <| JLq (pp bR 0) (Pu.nilCheck rfl) <| JLq (pp bR 0) (ZE rfl rfl) <| JLq (pp bR 1) (Z9 rfl rfl) <| JLr (Ze ty3 rfl (At.bx 0 rfl) rfl <| JLn (Pu.inc rfl rfl (by omega)) <| JLq (pp bR 0) (Pu.nilCheck rfl) <| JLq (pp bR 0) (ZE rfl rfl) ?_)
  refine JLq (pp bR 1) (Z9 rfl rfl) <| JLr (Zd 0 (vs := [iv (((b + 1 : Nat) : Int))]) (l := [.string s, iv (((b + 1 : Nat) : Int)), iv 0, iv c]) ty3 rfl rfl rfl rfl rfl (Zf rfl Zn) rfl <| Zb <| Zc <| Za <| JLM rfl <| JLM rfl <| JLq (.int .u8 (l[b] % 128)) (Pu.bits rfl rfl (and127 hx8)) <| JLq (iv (l[b] % 128)) (Pu.conv Tryz.runUnderlying5 Tryz.runUnderlying3 rfl (w64 (by omega))) <| JLM rfl <| JLq (iv (7 * (j : Int))) (Pu.arithM rfl rfl (w64 (by omega))) <| JLq (iv (l[b] % 128 * u)) (Pu.bshl rfl rfl (by omega) (shl7 hku6 (by omega) (by omega))) <| JLq (iv (n + l[b] % 128 * u)) (Pu.bor rfl rfl (or7 hku6 hn0 hnu (by omega) (by omega))) ?_)
  refine JLA rfl <| Zb <| Zc <| Zc <| Za <| JLM rfl <| JLn (Pu.gtr rfl rfl) <| Zb <| Zg rfl (fun h14 => ?_) (fun h14 => ?_)
  ·replace h14 := dt h14
   refine ZB _ rfl <| Za <| JLn (Pu.inc rfl rfl (by omega)) <| JLM rfl <| Zb <| ⟨_, ?_, (j + 1), (b + 1), (n + l[b] % 128 * u), (u * 128), rfl, rfl, rfl, rfl, rfl, rfl, rfl, rfl, (Sk Sub.nil), ?_, ?_, ?_, ?_, ?_, ?_, rfl⟩
   ·omega
   ·omega
   ·rw [numD_more hbl (by omega)] at hinv; rw [show 6 - (j + 1) = f from by omega]; exact hinv
   ·omega
   ·rcases hku with h | h | h | h | h | h | h <;> omega
   ·omega
   rcases hku with h | h | h | h | h | h | h <;> omega
  replace h14 := df h14
  refine Zm <| Zc <| Zq <| Zc <| Za <| JLM rfl <| JLn (Pu.eql rfl rfl) <| JLM rfl <| ZA 2 [75, 76] [(76, cond (decide (l[b] = 0)) (.bool (decide (0 < (j : Int)))) undef)] ?_ fun f16 => ?_
  ·cases h15 : (decide (l[b] = 0)) with
   | true =>
    replace h15 := dt h15
    refine JLM rfl <| JLn (Pu.gtr rfl rfl) ?_
    exact Zb ⟨⟨rfl, trivial⟩, rfl⟩
   | false =>
    exact ZL rfl ⟨rfl, trivial⟩
  refine JLn (Pu.pickAnd rfl rfl rfl) <| JLA rfl <| Zb <| Zg rfl (fun h17 => ?_) (fun h17 => ?_)
  ·obtain ⟨h17a, h17b⟩ := Xd h17
   replace h17a := dt h17a
   replace h17b := dt h17b
   refine Zc <| Za <| JLM rfl <| JLq (pp bR 0) (Pu.nilCheck rfl) <| JLq (pp bR 0) (ZE rfl rfl) <| JLM rfl <| Zs 0 rfl Tryz.call119 rfl rfl (fun hin => YX s _ _ _ _ _ _ _) rfl ?_
   rintro _ _ ⟨rfl, rfl⟩
   refine JLA rfl <| JLA rfl <| Zb <| Zj <| ⟨.tuple ⟨[iv 0, .bool false]⟩, [(BX bR [.string s, iv ((a : Int)), iv 4, iv c] 131)], Ret.two rfl (RV.tmp rfl) (RV.tmp rfl), (Sk Sub.nil), ?_⟩
   first | (rw [numD_end (by omega)] at hinv; have hx := ZN (least := least) hinv.symm) | (rw [numD_zero hbl (by omega) (by omega)] at hinv; have hx := ZN (least := least) hinv.symm) | (rw [numD_great hbl (by omega) (fun q => by have z := hpick; simp [q.1] at z; omega) (by omega)] at hinv; have hx := ZN (least := least) hinv.symm) | (rw [numD_done hbl (by omega) (fun q => by have z := hpick; simp [q.1] at z; omega) (by omega)] at hinv; have hx := YL (least := least) hinv.symm (by omega)) | (rw [show 6 - j = 0 from by omega, Xa] at hinv; have hx := ZN (least := least) hinv.symm)
   first | (have hx := ZN (least := least) hinv.symm; exact ⟨_, _, _, _, rfl, rfl, by rw [hx]; exact ⟨rfl, rfl, rfl, rfl⟩⟩) | (have hx := YL (least := least) hinv.symm (by omega); exact ⟨_, _, _, _, rfl, rfl, by rw [hx]; exact ⟨rfl, rfl, rfl, rfl⟩⟩)
  refine Zc <| Za <| JLM rfl <| JLM rfl <| JLn (Pu.gtr rfl rfl) <| JLA rfl <| Zb <| Zg rfl (fun h18 => ?_) (fun h18 => ?_)
  ·replace h18 := dt h18
   refine Zc <| Za <| JLM rfl <| JLq (pp bR 0) (Pu.nilCheck rfl) <| JLq (pp bR 0) (ZE rfl rfl) <| JLM rfl <| Zs 0 rfl Tryz.call119 rfl rfl (fun hin => YX s _ _ _ _ _ _ _) rfl ?_
   rintro _ _ ⟨rfl, rfl⟩
   refine JLA rfl <| JLA rfl <| Zb <| Zj <| ⟨.tuple ⟨[iv 0, .bool false]⟩, [(BX bR [.string s, iv ((a : Int)), iv 3, iv c] 131)], Ret.two rfl (RV.tmp rfl) (RV.tmp rfl), (Sk Sub.nil), ?_⟩
   first | (rw [numD_end (by omega)] at hinv; have hx := ZN (least := least) hinv.symm) | (rw [numD_zero hbl (by omega) (by omega)] at hinv; have hx := ZN (least := least) hinv.symm) | (rw [numD_great hbl (by omega) (fun q => by have z := h17; simp [q.1] at z; omega) (by omega)] at hinv; have hx := ZN (least := least) hinv.symm) | (rw [numD_done hbl (by omega) (fun q => by have z := h17; simp [q.1] at z; omega) (by omega)] at hinv; have hx := YL (least := least) hinv.symm (by omega)) | (rw [show 6 - j = 0 from by omega, Xa] at hinv; have hx := ZN (least := least) hinv.symm)
   first | (have hx := ZN (least := least) hinv.symm; exact ⟨_, _, _, _, rfl, rfl, by rw [hx]; exact ⟨rfl, rfl, rfl, rfl⟩⟩) | (have hx := YL (least := least) hinv.symm (by omega); exact ⟨_, _, _, _, rfl, rfl, by rw [hx]; exact ⟨rfl, rfl, rfl, rfl⟩⟩)
  replace h18 := df h18
  refine Zc <| Za <| JLM rfl <| JLM rfl <| JLn (Pu.lss rfl rfl) <| JLA rfl <| Zb <| Zg rfl (fun h19 => ?_) (fun h19 => ?_)
  ·replace h19 := dt h19
   refine Zc <| Za <| JLM rfl <| JLq (pp bR 0) (Pu.nilCheck rfl) <| JLq (pp bR 0) (ZE rfl rfl) <| JLM rfl <| Zs 0 rfl Tryz.call119 rfl rfl (fun hin => YX s _ _ _ _ _ _ _) rfl ?_
   rintro _ _ ⟨rfl, rfl⟩
   refine JLA rfl <| JLA rfl <| Zb <| Zj <| ⟨.tuple ⟨[iv 0, .bool false]⟩, [(BX bR [.string s, iv ((a : Int)), iv 4, iv c] 131)], Ret.two rfl (RV.tmp rfl) (RV.tmp rfl), (Sk Sub.nil), ?_⟩
   first | (rw [numD_end (by omega)] at hinv; have hx := ZN (least := least) hinv.symm) | (rw [numD_zero hbl (by omega) (by omega)] at hinv; have hx := ZN (least := least) hinv.symm) | (rw [numD_great hbl (by omega) (fun q => by have z := h17; simp [q.1] at z; omega) (by omega)] at hinv; have hx := ZN (least := least) hinv.symm) | (rw [numD_done hbl (by omega) (fun q => by have z := h17; simp [q.1] at z; omega) (by omega)] at hinv; have hx := YL (least := least) hinv.symm (by omega)) | (rw [show 6 - j = 0 from by omega, Xa] at hinv; have hx := ZN (least := least) hinv.symm)
   first | (have hx := ZN (least := least) hinv.symm; exact ⟨_, _, _, _, rfl, rfl, by rw [hx]; exact ⟨rfl, rfl, rfl, rfl⟩⟩) | (have hx := YL (least := least) hinv.symm (by omega); exact ⟨_, _, _, _, rfl, rfl, by rw [hx]; exact ⟨rfl, rfl, rfl, rfl⟩⟩)
  replace h19 := df h19
  refine Zm <| Zc <| Za <| JLM rfl <| JLA rfl <| JLA rfl <| Zb <| Zj <| ⟨.tuple ⟨[iv (n + l[b] % 128 * u), .bool true]⟩, [(BX bR [.string s, iv (((b + 1 : Nat) : Int)), iv 0, iv c] 131)], Ret.two rfl (RV.tmp rfl) (RV.tmp rfl), (Sk Sub.nil), ?_⟩
  rw [numD_done hbl (by omega) (fun q => by have z := h17; simp [q.1] at z; omega) (by omega)] at hinv
  exact ⟨_, _, _, _, rfl, rfl, by rw [least_ok hinv.symm (by omega)]; exact ⟨rfl, rfl, rfl, rfl⟩⟩
 replace h12 := df h12
 have h12n : 6 ≤ j := by omega
 refine ZB _ rfl <| Zc <| Za <| JLM rfl <| JLq (pp bR 0) (Pu.nilCheck rfl) <| JLq (pp bR 0) (ZE rfl rfl) <| JLM rfl <| Zs 0 rfl Tryz.call119 rfl rfl (fun hin => YX s _ _ _ _ _ _ _) rfl ?_
 rintro _ _ ⟨rfl, rfl⟩
 refine JLA rfl <| JLA rfl <| Zb <| Zj <| ⟨.tuple ⟨[iv 0, .bool false]⟩, [(BX bR [.string s, iv ((a : Int)), iv 3, iv c] 131)], Ret.two rfl (RV.tmp rfl) (RV.tmp rfl), (Sk Sub.nil), ?_⟩
 first | (rw [numD_end (by omega)] at hinv; have hx := ZN (least := least) hinv.symm) | (rw [numD_zero hbl (by omega) (by omega)] at hinv; have hx := ZN (least := least) hinv.symm) | (rw [numD_great hbl (by omega) (fun q => by have z := h17; simp [q.1] at z; omega) (by omega)] at hinv; have hx := ZN (least := least) hinv.symm) | (rw [numD_done hbl (by omega) (fun q => by have z := h17; simp [q.1] at z; omega) (by omega)] at hinv; have hx := YL (least := least) hinv.symm (by omega)) | (rw [show 6 - j = 0 from by omega, Xa] at hinv; have hx := ZN (least := least) hinv.symm)
 first | (have hx := ZN (least := least) hinv.symm; exact ⟨_, _, _, _, rfl, rfl, by rw [hx]; exact ⟨rfl, rfl, rfl, rfl⟩⟩) | (have hx := YL (least := least) hinv.symm (by omega); exact ⟨_, _, _, _, rfl, rfl, by rw [hx]; exact ⟨rfl, rfl, rfl, rfl⟩⟩)
end Go.Proofs.YtjhenmdcnbaobaaGreat.Hs
/-! Walks, printed by a program of this session's own (gen.py). -/
namespace Go.Proofs.YtjhenmdcnbaobaaGreat.Hs
open Go Go.Proofs
set_option maxRecDepth 100000
set_option linter.unusedVariables false
set_option linter.unusedSimpArgs false
attribute [local irreducible] JL J CT wlo DT
theorem part1_ct (s : ByteArray) (l : List Int) (hls : l = sB s) (H : Heap) (bR bX a : Nat) (ha : a ≤ l.length) (hl : l.length ≤ 1000000) (k n c lv : Int) (t : ByteArray) (ks : Value) (hks1 : ks.oneCell' = true) : CT Tryz.prog 146 ⟨[pp bR 0, pp bX 0, iv lv]⟩ [(BX bR [.string s, iv ((a : Int)), iv 0, iv c] 131), (BX bX [iv k, iv n, .string t, ks] 40)] H (fun r N => ∃ x ok a' e', r = .bool ok ∧ N = [(BX bR [.string s, iv (a'), iv (e'), iv c] 131), (BX bX [iv k, iv x, .string t, ks] 40)] ∧ wQ (num0 l 1099511627776 a) x ok a' e') := by
 refine Zk Tryz.func146 rfl rfl <| Zc <| Za <| JLA rfl <| Zb <| Zc <| Za <| JLM rfl <| Zs 0 rfl Tryz.call147 rfl rfl (fun hin => numW_ct s l hls _ _ a (by omega) (by omega) _ _ _) rfl ?_
 rintro _ _ ⟨x1, k1, a1, e1, rfl, rfl, hq1⟩
 refine JLM rfl <| JLn (Pu.extract rfl rfl) <| JLn (Pu.extract rfl rfl) <| JLA rfl <| JLA rfl <| Zb <| Zc <| Za <| JLM rfl <| JLM rfl <| JLq (pp bX 0) (Pu.nilCheck rfl) <| JLq (pp bX 1) (fa40_1 rfl rfl) <| JLr (Zd 1 (vs := [iv x1]) (l := [iv k, iv x1, .string t, ks]) ty3 rfl rfl rfl rfl rfl (Zf rfl Zn) rfl ?_)
 refine Zb <| Zc <| Za <| JLM rfl <| JLA rfl <| Zb <| Zj <| ⟨.bool k1, [(BX bR [.string s, iv a1, iv e1, iv c] 131), (BX bX [iv k, iv x1, .string t, ks] 40)], Ret.one rfl (RV.tmp rfl), (Sk (Sk Sub.nil)), ?_⟩
 exact ⟨_, _, _, _, rfl, rfl, by rw [← least_0 ha]; exact hq1⟩
end Go.Proofs.YtjhenmdcnbaobaaGreat.Hs
/-! Walks, printed by a program of this session's own (gen.py). -/
namespace Go.Proofs.YtjhenmdcnbaobaaGreat.Hs
open Go Go.Proofs
set_option maxRecDepth 100000
set_option linter.unusedVariables false
set_option linter.unusedSimpArgs false
attribute [local irreducible] JL J CT wlo DT
theorem part2_ct (s : ByteArray) (l : List Int) (hls : l = sB s) (H : Heap) (bR bX a : Nat) (ha : a ≤ l.length) (hl : l.length ≤ 1000000) (k n c lv : Int) (t : ByteArray) (ks : Value) (hks1 : ks.oneCell' = true) : CT Tryz.prog 148 ⟨[pp bR 0, pp bX 0, iv lv]⟩ [(BX bR [.string s, iv ((a : Int)), iv 0, iv c] 131), (BX bX [iv k, iv n, .string t, ks] 40)] H (fun r N => ∃ t2 ok a' e', r = .bool ok ∧ N = [(BX bR [.string s, iv (a'), iv (e'), iv c] 131), (BX bX [iv k, iv n, .string t2, ks] 40)] ∧ tQ (textW l a) t2 ok a' e') := by
 have hsz : l.length = s.size := by rw [hls, Ys]
 refine Zk Tryz.func148 rfl rfl <| Zc <| Za <| JLA rfl <| Zb <| Zc <| Za <| JLM rfl <| Zs 0 rfl Tryz.call147 rfl rfl (fun hin => numW_ct s l hls _ _ a (by omega) (by omega) _ _ _) rfl ?_
 rintro _ _ ⟨x1, k1, a1, e1, rfl, rfl, hq1⟩
 refine JLM rfl <| JLn (Pu.extract rfl rfl) <| JLn (Pu.extract rfl rfl) <| JLA rfl <| JLA rfl <| Zb <| Zc <| Zq <| Zc <| Za <| JLM rfl <| JLn (Pu.not rfl) <| JLA rfl ?_
 refine Zb <| Zg rfl (fun h2 => ?_) (fun h2 => ?_)
 ·replace h2 := nt h2
  refine Zc <| Za <| JLA rfl <| Zb <| Zj <| ⟨.bool false, [(BX bR [.string s, iv a1, iv e1, iv c] 131), (BX bX [iv k, iv n, .string t, ks] 40)], Ret.one rfl (RV.tmp rfl), (Sk (Sk Sub.nil)), ?_⟩
  obtain ⟨c1, i1, hd1, hd2, hd3⟩ := wQ_no hq1 (by assumption)
  subst hd2 hd3
  rw [least_1 ha] at hd1
  exact ⟨_, _, _, _, rfl, rfl, by rw [textW_err hd1]; exact ⟨rfl, rfl, rfl⟩⟩
 replace h2 := nf h2
 refine Zc ?_
 obtain ⟨b1, hd1, hba, hbe⟩ := wQ_ok hq1 (by assumption)
 subst hba hbe
 rw [least_1 ha] at hd1
 have hb1 := some_ok ha hd1
 obtain ⟨m1, rfl⟩ := Int.eq_ofNat_of_zero_le (show 0 ≤ x1 by omega)
 refine Zy mixed #[0, 1, 3, 7, 15, 31, 0, 64, 192, 448, 960, 2047, 0, 8191, 16383] 13 [some 18, some 19, some 20, some 21, some 22, some 23, some 24, some 25, some 26, some 27, some 28, some 29, some 30] [] [] rfl (by kernel_rfl) rfl (by kernel_rfl) <| DM (fun _ => rfl) <| Dq (pp bR 0) (fun _ => Pu.nilCheck rfl) <| Dq (pp bR 0) (fun _ => ZE rfl rfl) <| Dq (pp bR 0) (fun _ => fa129_0 rfl rfl) <| Dl1 ty9 (At.bx 0 rfl) rfl <| Dn (fun _ => Pu.lenS Tryz.runUnderlying9 rfl) <| DM (fun _ => rfl) <| Dq (pp bR 0) (fun _ => Pu.nilCheck rfl) <| Dq (pp bR 0) (fun _ => ZE rfl rfl) <| Dq (pp bR 1) (fun _ => Z9 rfl rfl) <| Dl1 ty3 (At.bx 0 rfl) rfl ?_
 refine Dn (fun _ => Pu.sub64 rfl rfl (by first | omega | (constructor <;> omega))) <| DM (fun _ => rfl) <| ZG (M' := [(BX bR [.string s, iv ((b1 : Int)), iv 0, iv c] 131), (BX bX [iv k, iv n, .string t, ks] 40)]) rfl ?_
 show JL _ _ _ [_, _] _ _ _
 refine JLn (Pu.lss rfl rfl) <| JLA rfl <| Zb <| Zg rfl (fun h3 => ?_) (fun h3 => ?_)
 ·replace h3 := dt h3
  refine Zc <| Zy mixed #[0, 1, 3, 0, 8, 24, 56, 120, 248, 511, 1023] 9 [some 32, some 33, some 34, some 35, some 36, some 37, some 38, some 39, some 40] [] [] rfl (by kernel_rfl) rfl (by kernel_rfl) <| DM (fun _ => rfl) <| Dq (pp bR 0) (fun _ => Pu.nilCheck rfl) <| Dq (pp bR 0) (fun _ => ZE rfl rfl) <| DM (fun _ => rfl) <| Dq (pp bR 0) (fun _ => Pu.nilCheck rfl) <| Dq (pp bR 0) (fun _ => ZE rfl rfl) <| Dq (pp bR 0) (fun _ => fa129_0 rfl rfl) <| Dl1 ty9 (At.bx 0 rfl) rfl <| Dn (fun _ => Pu.lenS Tryz.runUnderlying9 rfl) <| ZG (M' := [(BX bR [.string s, iv ((b1 : Int)), iv 0, iv c] 131), (BX bX [iv k, iv n, .string t, ks] 40)]) rfl ?_
  show JL _ _ _ [_, _] _ _ _
  refine Zs 0 rfl Tryz.call119 rfl rfl (fun hin => YX s _ _ _ _ _ _ _) rfl ?_
  rintro _ _ ⟨rfl, rfl⟩
  refine JLA rfl <| Zb <| Zj <| ⟨.bool false, [(BX bR [.string s, iv ((s.size : Int)), iv 4, iv c] 131), (BX bX [iv k, iv n, .string t, ks] 40)], Ret.one rfl (RV.tmp rfl), (Sk (Sk Sub.nil)), ?_⟩
  exact ⟨_, _, _, _, rfl, rfl, by rw [textW_few hd1 (by omega)]; exact ⟨rfl, by omega, rfl⟩⟩
 replace h3 := df h3
 refine Zm <| Zc <| Zy mixed #[0, 0, 2, 6, 14, 30, 0, 64, 192, 448, 960, 0, 2048, 6144, 14336, 30720, 0, 129024, 262142, 524287, 1048575, 2097151] 19 [some 42, some 43, some 44, some 45, some 46, some 47, some 48, some 49, some 50, some 51, some 52, some 53, some 54, some 55, some 56, some 57, some 58, some 59, some 60] [] [] rfl (by kernel_rfl) rfl (by kernel_rfl) <| DM (fun _ => rfl) <| DM (fun _ => rfl) <| Dq (pp bR 0) (fun _ => Pu.nilCheck rfl) <| Dq (pp bR 0) (fun _ => ZE rfl rfl) <| Dq (pp bR 0) (fun _ => fa129_0 rfl rfl) <| Dl1 ty9 (At.bx 0 rfl) rfl <| DM (fun _ => rfl) <| Dq (pp bR 0) (fun _ => Pu.nilCheck rfl) <| Dq (pp bR 0) (fun _ => ZE rfl rfl) <| Dq (pp bR 1) (fun _ => Z9 rfl rfl) ?_
 refine Dl1 ty3 (At.bx 0 rfl) rfl <| DM (fun _ => rfl) <| Dq (pp bR 0) (fun _ => Pu.nilCheck rfl) <| Dq (pp bR 0) (fun _ => ZE rfl rfl) <| Dq (pp bR 1) (fun _ => Z9 rfl rfl) <| Dl1 ty3 (At.bx 0 rfl) rfl <| DM (fun _ => rfl) ?_
 refine Dn (fun _ => Pu.add64 rfl rfl (by first | omega | (constructor <;> omega))) ?_
 refine Dq (.string (s.extract b1 (b1 + m1))) (fun _ => Pu.cutS b1 (b1 + m1) Tryz.runUnderlying9 rfl rfl rfl rfl (by omega) (by omega)) <| ZG (M' := [(BX bR [.string s, iv ((b1 : Int)), iv 0, iv c] 131), (BX bX [iv k, iv n, .string t, ks] 40)]) rfl ?_
 show JL _ _ _ [_, _, _] _ _ _
 refine JLq (pp bX 0) (Pu.nilCheck rfl) <| JLq (pp bX 2) (fa40_2 rfl rfl) <| JLr (Zd 1 (vs := [.string (s.extract b1 (b1 + m1))]) (l := [iv k, iv n, .string (s.extract b1 (b1 + m1)), ks]) ty9 rfl rfl rfl rfl rfl (Zf rfl Zn) rfl <| Zb <| Zc <| Za <| JLM rfl <| JLq (pp bR 0) (Pu.nilCheck rfl) <| JLq (pp bR 0) (ZE rfl rfl) <| JLq (pp bR 1) (Z9 rfl rfl) <| JLr (Ze ty3 rfl (At.bx 0 rfl) rfl <| JLM rfl <| JLn (Pu.add64 rfl rfl (by first | omega | (constructor <;> omega))) ?_))
 refine JLq (pp bR 0) (Pu.nilCheck rfl) <| JLq (pp bR 0) (ZE rfl rfl) <| JLq (pp bR 1) (Z9 rfl rfl) <| JLr (Zd 0 (vs := [iv ((b1 : Int) + ((m1 : Int)))]) (l := [.string s, iv ((b1 : Int) + ((m1 : Int))), iv 0, iv c]) ty3 rfl rfl rfl rfl rfl (Zf rfl Zn) rfl <| Zb <| Zc <| Za <| JLA rfl <| Zb <| Zj <| ⟨.bool true, [(BX bR [.string s, iv ((b1 : Int) + ((m1 : Int))), iv 0, iv c] 131), (BX bX [iv k, iv n, .string (s.extract b1 (b1 + m1)), ks] 40)], Ret.one rfl (RV.tmp rfl), (Sk (Sk Sub.nil)), ?_⟩)
 exact ⟨_, _, _, _, rfl, rfl, by rw [textW_ok hd1 (by omega)]; exact ⟨by subst hls; rw [Int.toNat_natCast]; exact (str_cut s b1 m1).symm, rfl, by rw [Int.toNat_natCast]; omega, rfl⟩⟩
end Go.Proofs.YtjhenmdcnbaobaaGreat.Hs
/-! Walks, printed by a program of this session's own (gen.py). -/
namespace Go.Proofs.YtjhenmdcnbaobaaGreat.Hs
open Go Go.Proofs
set_option maxRecDepth 100000
set_option linter.unusedVariables false
set_option linter.unusedSimpArgs false
attribute [local irreducible] JL J CT wlo DT
theorem far_ct (H : Heap) (bG : Nat) (n d : Int) (w : Bool) (hn : 0 ≤ n) (hn1 : n ≤ 1000000000) : CT Tryz.prog 69 ⟨[pp bG 0, iv d]⟩ [(BX bG [iv n, .bool w] 79)] H (fun r N => r = .bool (w || decide (600 < n + 1) || decide (62 < d)) ∧ N = [(BX bG [iv (n + 1), .bool (w || decide (600 < n + 1) || decide (62 < d))] 79)]) := by
 refine Zk Tryz.func69 rfl rfl <| Zc <| Za <| JLA rfl <| Zb <| Zc <| Za <| JLM rfl <| JLq (pp bG 0) (Pu.nilCheck rfl) <| JLq (pp bG 0) (fa79_0 rfl rfl) <| JLq (pp bG 0) (fa77_0 rfl rfl) <| JLr (Ze ty3 rfl (At.bx 0 rfl) rfl <| JLn (Pu.add64 rfl rfl (by first | omega | (constructor <;> omega))) ?_)
 refine JLq (pp bG 0) (Pu.nilCheck rfl) <| JLq (pp bG 0) (fa79_0 rfl rfl) <| JLq (pp bG 0) (fa77_0 rfl rfl) <| JLr (Zd 0 (vs := [iv (n + 1)]) (l := [iv (n + 1), .bool w]) ty3 rfl rfl rfl rfl rfl (Zf rfl Zn) rfl <| Zb <| Zc <| Za <| JLM rfl <| JLM rfl <| JLq (pp bG 0) (Pu.nilCheck rfl) <| JLq (pp bG 1) (Xo rfl rfl) <| JLr (Ze ty4 rfl (At.bx 0 rfl) rfl <| JLM rfl ?_))
 cases h1 : w with
 | true =>
  iterate 6 refine YJ rfl ?_
  refine JLq (.bool true) (Pu.pickT rfl rfl) <| JLM rfl ?_
  iterate 2 refine YJ rfl ?_
  refine JLq (.bool true) (Pu.pickT rfl rfl) <| JLq (pp bG 0) (Pu.nilCheck rfl) <| JLq (pp bG 1) (Xo rfl rfl) <| JLr (Zd 0 (vs := [.bool true]) (l := [iv (n + 1), .bool true]) ty4 rfl rfl rfl rfl rfl (Zf rfl Zn) rfl <| Zb <| Zc <| Za <| JLM rfl <| JLq (pp bG 0) (Pu.nilCheck rfl) <| JLq (pp bG 1) (Xo rfl rfl) <| JLr (Ze ty4 rfl (At.bx 0 rfl) rfl <| JLA rfl <| Zb ?_))
  refine Zj <| ⟨.bool true, [(BX bG [iv (n + 1), .bool true] 79)], Ret.one rfl (RV.tmp rfl), (Sk Sub.nil), ?_⟩
  exact ⟨rfl, rfl⟩
 | false =>
  refine JLM rfl <| JLq (pp bG 0) (Pu.nilCheck rfl) <| JLq (pp bG 0) (fa79_0 rfl rfl) <| JLq (pp bG 0) (fa77_0 rfl rfl) <| JLr (Ze ty3 rfl (At.bx 0 rfl) rfl <| JLn (Pu.gtr rfl rfl) <| JLq (.bool (decide (600 < n + 1))) (Pu.pickF rfl rfl) <| JLM rfl ?_)
  cases h2 : (decide (600 < n + 1)) with
  | true =>
   replace h2 := dt h2
   iterate 2 refine YJ rfl ?_
   refine JLq (.bool true) (Pu.pickT rfl rfl) <| JLq (pp bG 0) (Pu.nilCheck rfl) <| JLq (pp bG 1) (Xo rfl rfl) <| JLr (Zd 0 (vs := [.bool true]) (l := [iv (n + 1), .bool true]) ty4 rfl rfl rfl rfl rfl (Zf rfl Zn) rfl <| Zb <| Zc <| Za <| JLM rfl <| JLq (pp bG 0) (Pu.nilCheck rfl) <| JLq (pp bG 1) (Xo rfl rfl) <| JLr (Ze ty4 rfl (At.bx 0 rfl) rfl <| JLA rfl <| Zb ?_))
   refine Zj <| ⟨.bool true, [(BX bG [iv (n + 1), .bool true] 79)], Ret.one rfl (RV.tmp rfl), (Sk Sub.nil), ?_⟩
   exact ⟨rfl, rfl⟩
  | false =>
   replace h2 := df h2
   refine JLM rfl <| JLn (Pu.gtr rfl rfl) <| JLq (.bool (decide (62 < d))) (Pu.pickF rfl rfl) <| JLq (pp bG 0) (Pu.nilCheck rfl) <| JLq (pp bG 1) (Xo rfl rfl) <| JLr (Zd 0 (vs := [.bool (decide (62 < d))]) (l := [iv (n + 1), .bool (decide (62 < d))]) ty4 rfl rfl rfl rfl rfl (Zf rfl Zn) rfl <| Zb <| Zc <| Za <| JLM rfl <| JLq (pp bG 0) (Pu.nilCheck rfl) <| JLq (pp bG 1) (Xo rfl rfl) <| JLr (Ze ty4 rfl (At.bx 0 rfl) rfl ?_))
   refine JLA rfl <| Zb <| Zj <| ⟨.bool (decide (62 < d)), [(BX bG [iv (n + 1), .bool (decide (62 < d))] 79)], Ret.one rfl (RV.tmp rfl), (Sk Sub.nil), ?_⟩
   exact ⟨rfl, rfl⟩
end Go.Proofs.YtjhenmdcnbaobaaGreat.Hs
/-! Walks, printed by a program of this session's own (gen.py). -/
namespace Go.Proofs.YtjhenmdcnbaobaaGreat.Hs
open Go Go.Proofs
set_option maxRecDepth 100000
set_option linter.unusedVariables false
set_option linter.unusedSimpArgs false
attribute [local irreducible] JL J CT wlo DT
theorem wholeT_ct (s : ByteArray) (H : Heap) (bR a : Nat) (e c : Int) (cs : List Value) (hc4 : cs.length = 4) (hck : okc cs) : CT Tryz.prog 64 ⟨[pp bR 0, .agg ⟨cs⟩, .bool true]⟩ [(BX bR [.string s, iv ((a : Int)), iv e, iv c] 131)] H (fun r N => ∃ a' e' c', r = (if a < s.size then .tuple ⟨[.agg ⟨[iv 0, iv 0, .string ⟨#[]⟩, nS]⟩, iv (a : Int), iv 4]⟩ else .tuple ⟨[.agg ⟨cs⟩, iv 0, iv 0]⟩) ∧ N = [(BX bR [.string s, iv (a'), iv (e'), iv (c')] 131)]) := by
 refine Zk Tryz.func64 rfl rfl <| Zc <| Za <| JLr (Zr (l := cs) rfl rfl fun b1 => JLr (Zi (l := [iv 0, iv 0, .string (⟨#[]⟩), nS]) Tryz.zeroValue40 rfl fun b2 => JLA rfl <| JLA rfl <| Zb <| Zc <| Zc <| Zy mixed #[0, 1, 3, 7, 15, 31, 63, 3, 131, 387, 899, 1923, 3971, 8191, 16383] 13 [some 9, some 10, some 11, some 12, some 13, some 14, some 15, some 16, some 17, some 18, some 19, some 20, some 21] [] [] rfl (by kernel_rfl) rfl (by kernel_rfl) <| DM (fun _ => rfl) <| DM (fun _ => rfl) ?_))
 refine DM (fun _ => rfl) <| Dq (pp bR 0) (fun _ => Pu.nilCheck rfl) <| Dq (pp bR 0) (fun _ => ZE rfl rfl) <| Dq (pp bR 1) (fun _ => Z9 rfl rfl) <| Dl1 ty3 (At.bx 2 rfl) rfl <| DM (fun _ => rfl) <| Dq (pp bR 0) (fun _ => Pu.nilCheck rfl) <| Dq (pp bR 0) (fun _ => ZE rfl rfl) <| Dq (pp bR 0) (fun _ => fa129_0 rfl rfl) <| Dl1 ty9 (At.bx 2 rfl) rfl <| Dn (fun _ => Pu.lenS Tryz.runUnderlying9 rfl) <| ZG (M' := [(BX b2 [iv 0, iv 0, .string (⟨#[]⟩), nS] 40), (BX b1 cs 40), (BX bR [.string s, iv ((a : Int)), iv e, iv c] 131)]) rfl ?_
 show JL _ _ _ [_, _] _ _ _
 refine JLn (Pu.lss rfl rfl) <| JLq (.bool (decide ((a : Int) < (s.size : Int)))) (Pu.pickT rfl rfl) <| Zb <| Zg rfl (fun h3 => ?_) (fun h3 => ?_)
 ·replace h3 := dt h3
  have h3n : a < s.size := by omega
  refine Zy mixed #[0, 1, 3, 0, 8, 24, 56, 120, 255, 511] 8 [some 24, some 25, some 26, some 27, some 28, some 29, some 30, some 31] [] [] rfl (by kernel_rfl) rfl (by kernel_rfl) <| DM (fun _ => rfl) <| Dq (pp bR 0) (fun _ => Pu.nilCheck rfl) <| Dq (pp bR 0) (fun _ => ZE rfl rfl) <| DM (fun _ => rfl) <| Dq (pp bR 0) (fun _ => Pu.nilCheck rfl) <| Dq (pp bR 0) (fun _ => ZE rfl rfl) <| Dq (pp bR 1) (fun _ => Z9 rfl rfl) <| Dl1 ty3 (At.bx 2 rfl) rfl <| ZG (M' := [(BX b2 [iv 0, iv 0, .string (⟨#[]⟩), nS] 40), (BX b1 cs 40), (BX bR [.string s, iv ((a : Int)), iv e, iv c] 131)]) rfl ?_
  show JL _ _ _ [_, _] _ _ _
  refine Zs 2 rfl Tryz.call119 rfl rfl (fun hin => YX s _ _ _ _ _ _ _) rfl ?_
  rintro _ _ ⟨rfl, rfl⟩
  refine JLA rfl <| Zb <| Zc <| Zc <| Za <| JLM rfl <| JLq (.bool true) (show Pu _ _ _ (.bool (!false)) from Pu.not rfl) <| Zb <| Zg (b := true) rfl (fun _ => ?_) (fun h => absurd h (by simp))
  refine Zc <| Zy mixed #[0, 0, 2, 6, 14, 30, 0, 64, 192, 448, 960, 1, 2111, 8191] 13 [some 35, some 36, some 37, some 38, some 39, some 40, some 41, some 42, some 43, some 44, some 45, none, some 7] [(11, 14)] [(11, fun _ _ vw qw => vw = undef ∧ qw = [(BX b2 [iv 0, iv 0, .string (⟨#[]⟩), nS] 40)])] rfl (by kernel_rfl) rfl (by kernel_rfl) <| Dq (.agg ⟨[iv 0, iv 0, .string (⟨#[]⟩), nS]⟩) (fun _ => Pu.build (pv := []) (l := [iv 0, iv 0, .string (⟨#[]⟩), nS]) rfl bld40_) <| DM (fun _ => rfl) <| Dq (pp bR 0) (fun _ => Pu.nilCheck rfl) <| Dq (pp bR 0) (fun _ => ZE rfl rfl) <| Dq (pp bR 1) (fun _ => Z9 rfl rfl) <| Dl1 ty3 (At.bx 0 rfl) rfl <| DM (fun _ => rfl) <| Dq (pp bR 0) (fun _ => Pu.nilCheck rfl) <| Dq (pp bR 0) (fun _ => ZE rfl rfl) <| Dq (pp bR 2) (fun _ => fa129_2 rfl rfl) <| Dl1 ty33 (At.bx 0 rfl) rfl ?_
  refine Dr rfl (fun _ => Zd 1 (vs := [iv 0, iv 0, .string (⟨#[]⟩), nS]) (l := [iv 0, iv 0, .string (⟨#[]⟩), nS]) ZO rfl rfl rfl rfl rfl (Zf rfl (Zf rfl (Zf rfl (Zf rfl Zn)))) rfl ⟨[_], keptE (i := 1) rfl rfl, rfl, rfl⟩) ?_; rintro _ _ ⟨rfl, rfl⟩
  refine Dq (iv ((a : Int))) (fun _ => Pu.assign rfl) <| ZG (M' := [(BX b2 [iv 0, iv 0, .string (⟨#[]⟩), nS] 40), (BX bR [.string s, iv ((a : Int)), iv 4, iv c] 131), (BX b1 cs 40)]) rfl ?_
  show JL _ _ _ [_] _ _ _
  refine JLA rfl <| Zb <| Zj <| ⟨.tuple ⟨[.agg ⟨[iv 0, iv 0, .string (⟨#[]⟩), nS]⟩, iv ((a : Int)), iv 4]⟩, [(BX bR [.string s, iv ((a : Int)), iv 4, iv c] 131)], Ret.three rfl (RV.cell ZO rfl (At.bx 0 rfl) rfl) (RV.tmp rfl) (RV.tmp rfl), (Sd (Sk Sub.nil)), ?_⟩
  exact ⟨_, _, _, by rw [if_pos (by omega)], rfl⟩
 replace h3 := df h3
 have h3n : s.size ≤ a := by omega
 refine Zm <| Zc <| Zc <| Za <| JLM rfl <| JLq (.bool false) (show Pu _ _ _ (.bool (!true)) from Pu.not rfl) <| Zb <| Zg (b := false) rfl (fun h => absurd h (by simp)) (fun _ => Zm <| Zc <| Za <| JLr (Zl ZO rfl (At.bx 1 rfl) (Zu hc4) <| JLr (Zd 0 (vs := cs) (l := cs) ZO rfl rfl rfl rfl hc4 hck (ZD (n := 4) rfl hc4) ?_)))
 refine JLA rfl <| JLA rfl <| Zb <| Zj <| ⟨.tuple ⟨[.agg ⟨cs⟩, iv 0, iv 0]⟩, [(BX bR [.string s, iv ((a : Int)), iv e, iv c] 131)], Ret.three rfl (RV.cell ZO rfl (At.bx 0 rfl) (Zu hc4)) (RV.tmp rfl) (RV.tmp rfl), (Sd (Sd (Sk Sub.nil))), ?_⟩
 exact ⟨_, _, _, by rw [if_neg (by omega)], rfl⟩
theorem wholeF_ct (s : ByteArray) (H : Heap) (bR : Nat) (a e c : Int) (cs : List Value) (hc4 : cs.length = 4) (hck : okc cs) : CT Tryz.prog 64 ⟨[pp bR 0, .agg ⟨cs⟩, .bool false]⟩ [(BX bR [.string s, iv a, iv e, iv c] 131)] H (fun r N => ∃ a' e' c', r = .tuple ⟨[.agg ⟨[iv 0, iv 0, .string ⟨#[]⟩, nS]⟩, iv a, iv e]⟩ ∧ N = [(BX bR [.string s, iv (a'), iv (e'), iv (c')] 131)]) := by
 refine Zk Tryz.func64 rfl rfl <| Zc <| Za <| JLr (Zr (l := cs) rfl rfl fun b1 => JLr (Zi (l := [iv 0, iv 0, .string (⟨#[]⟩), nS]) Tryz.zeroValue40 rfl fun b2 => JLA rfl <| JLA rfl <| Zb <| Zc <| Zc <| Zy mixed #[0, 1, 3, 7, 15, 31, 63, 3, 131, 387, 899, 1923, 3971, 8191, 16383] 13 [some 9, some 10, some 11, some 12, some 13, some 14, some 15, some 16, some 17, some 18, some 19, some 20, some 21] [] [] rfl (by kernel_rfl) rfl (by kernel_rfl) <| DM (fun _ => rfl) <| DM (fun _ => rfl) ?_))
 refine Xr rfl (fun _ => rfl) <| Xr rfl (fun _ => rfl) <| Xr rfl (fun _ => rfl) <| Xr rfl (fun _ => rfl) <| Xr rfl (fun _ => rfl) <| Xr rfl (fun _ => rfl) <| Xr rfl (fun _ => rfl) <| Xr rfl (fun _ => rfl) <| Xr rfl (fun _ => rfl) <| Xr rfl (fun _ => rfl) <| Xr rfl (fun _ => rfl) <| ZG (M' := [(BX b2 [iv 0, iv 0, .string (⟨#[]⟩), nS] 40), (BX b1 cs 40), (BX bR [.string s, iv a, iv e, iv c] 131)]) rfl ?_
 show JL _ _ _ [_, _] _ _ _
 refine YJ rfl <| JLq (.bool false) (Pu.pickF rfl rfl) <| Zb <| Zg (b := false) rfl (fun h => absurd h (by simp)) (fun _ => Zm <| Zc <| Zc <| Za <| JLM rfl <| JLq (.bool true) (show Pu _ _ _ (.bool (!false)) from Pu.not rfl) <| Zb <| Zg (b := true) rfl (fun _ => ?_) (fun h => absurd h (by simp)))
 refine Zc <| Zy mixed #[0, 0, 2, 6, 14, 30, 0, 64, 192, 448, 960, 1, 2111, 8191] 13 [some 35, some 36, some 37, some 38, some 39, some 40, some 41, some 42, some 43, some 44, some 45, none, some 7] [(11, 13)] [(11, fun _ _ vw qw => vw = undef ∧ qw = [(BX b2 [iv 0, iv 0, .string (⟨#[]⟩), nS] 40)])] rfl (by kernel_rfl) rfl (by kernel_rfl) <| Dq (.agg ⟨[iv 0, iv 0, .string (⟨#[]⟩), nS]⟩) (fun _ => Pu.build (pv := []) (l := [iv 0, iv 0, .string (⟨#[]⟩), nS]) rfl bld40_) <| DM (fun _ => rfl) <| Dq (pp bR 0) (fun _ => Pu.nilCheck rfl) <| Dq (pp bR 0) (fun _ => ZE rfl rfl) <| Dq (pp bR 1) (fun _ => Z9 rfl rfl) <| Dl1 ty3 (At.bx 1 rfl) rfl <| DM (fun _ => rfl) <| Dq (pp bR 0) (fun _ => Pu.nilCheck rfl) <| Dq (pp bR 0) (fun _ => ZE rfl rfl) <| Dq (pp bR 2) (fun _ => fa129_2 rfl rfl) <| Dl1 ty33 (At.bx 1 rfl) rfl ?_
 refine Dr rfl (fun _ => Zd 0 (vs := [iv 0, iv 0, .string (⟨#[]⟩), nS]) (l := [iv 0, iv 0, .string (⟨#[]⟩), nS]) ZO rfl rfl rfl rfl rfl (Zf rfl (Zf rfl (Zf rfl (Zf rfl Zn)))) rfl ⟨[_], keptE (i := 0) rfl rfl, rfl, rfl⟩) ?_; rintro _ _ ⟨rfl, rfl⟩
 refine Dq (iv a) (fun _ => Pu.assign rfl) <| ZG (M' := [(BX b2 [iv 0, iv 0, .string (⟨#[]⟩), nS] 40), (BX b1 cs 40), (BX bR [.string s, iv a, iv e, iv c] 131)]) rfl ?_
 show JL _ _ _ [_] _ _ _
 refine JLA rfl <| Zb <| Zj <| ⟨.tuple ⟨[.agg ⟨[iv 0, iv 0, .string (⟨#[]⟩), nS]⟩, iv a, iv e]⟩, [(BX bR [.string s, iv a, iv e, iv c] 131)], Ret.three rfl (RV.cell ZO rfl (At.bx 0 rfl) rfl) (RV.tmp rfl) (RV.tmp rfl), (Sd (Sd (Sk Sub.nil))), ?_⟩
 exact ⟨_, _, _, rfl, rfl⟩
end Go.Proofs.YtjhenmdcnbaobaaGreat.Hs
/-! What was read as a whole. -/
namespace Go.Proofs.YtjhenmdcnbaobaaGreat.Hs
open Go Go.Proofs
set_option maxRecDepth 100000
attribute [local irreducible] JL J CT wlo
theorem bstr_sB {l : List Int} (h : ∀ x ∈ l, 0 ≤ x ∧ x ≤ 255) : l = sB (Xj l) := by
  unfold sB Xj
  rw [List.map_map]
  apply List.ext_getElem
  · rw [List.length_map]
  · intro i h1 h2
    rw [List.getElem_map]
    have := h _ (List.getElem_mem h1)
    simp only [Function.comp]
    rw [UInt8.toNat_ofNat']
    omega
theorem iw_nat {l : List Int} {f a c : Nat} {x : It} {ok : Bool} {a' e c' : Int} (hq : iwQ (ZM l f a c) x ok a' e c') : ∃ b : Nat, a' = (b : Int) := by
  cases hd : ZM l f a c with
  | err k i => rw [hd] at hq; exact ⟨i, hq.2.1⟩
  | ok y b => obtain ⟨y, k⟩ := y; rw [hd] at hq; exact ⟨b, hq.2.2.1⟩
theorem whole_ct (s : ByteArray) (l : List Int) (hls : l = sB s) (H : Heap) (bR : Nat) (a e c : Int) (x : It) (cs : List Value) (k : Zh) (ok : Bool) (hO : OIt x cs k) (hl : ¬ (65536 : Int) < (l.length : Int)) (hq : iwQ (ZM l 250 0 0) x ok a e c) :
    CT Tryz.prog 64 ⟨[.pointer (some ⟨bR, 0, none⟩), .agg ⟨cs⟩, .bool ok]⟩ [[(bR, .cells ⟨[.string s, .int .i64 a, .int .i64 e, .int .i64 c]⟩ 131 (0, 0))]] H
      (fun r N => ∃ cs' k', r = .tuple ⟨[.agg ⟨cs'⟩, .int .i64 (ZI l).2.1, .int .i64 (ZI l).2.2]⟩ ∧ N = [k'] ∧ cs'.length = 4 ∧ okc cs' ∧ ((cs' = cs ∧ (ZI l).1 = x) ∨ (cs' = pkI 0 0 ⟨#[]⟩ (.slice none 0 0) ∧ (ZI l).1 = zI))) := by
  have h2 := decW hl hq
  have hsz : l.length = s.size := by rw [hls, Ys]
  obtain ⟨b, rfl⟩ := iw_nat hq
  cases ok with
  | true =>
    refine CT.mono (wholeT_ct s H bR b e c cs hO.len hO.ok) ?_
    rintro r N ⟨a', e', c', rfl, rfl⟩
    have h3 := h2.1 rfl
    by_cases hb : b < s.size
    · rw [if_pos (by omega)] at h3
      exact ⟨_, _, by rw [h3, if_pos hb], rfl, rfl, pkI_ok rfl, .inr ⟨rfl, by rw [h3]⟩⟩
    · rw [if_neg (by omega)] at h3
      exact ⟨_, _, by rw [h3, if_neg hb], rfl, hO.len, hO.ok, .inl ⟨rfl, by rw [h3]⟩⟩
  | false =>
    refine CT.mono (wholeF_ct s H bR b e c cs hO.len hO.ok) ?_
    rintro r N ⟨a', e', c', rfl, rfl⟩
    have h3 := h2.2 rfl
    exact ⟨_, _, by rw [h3], rfl, rfl, pkI_ok rfl, .inr ⟨rfl, by rw [h3]⟩⟩
end Go.Proofs.YtjhenmdcnbaobaaGreat.Hs
/-! Walks, printed by a program of this session's own (gen.py). -/
namespace Go.Proofs.YtjhenmdcnbaobaaGreat.Hs
open Go Go.Proofs
set_option maxRecDepth 100000
set_option linter.unusedVariables false
set_option linter.unusedSimpArgs false
attribute [local irreducible] JL J CT wlo DT
theorem ptsW_ct (H : Heap) : CT Tryz.prog 121 ⟨[]⟩ [] H (fun r N => r = .agg ⟨[.int .u8 0, .func (.func 146) ⟨[]⟩ ⟨[]⟩, .int .u8 64, .func (.func 148) ⟨[]⟩ ⟨[]⟩, .int .u8 128, .func (.func 149) ⟨[]⟩ ⟨[]⟩]⟩ ∧ N = []) := by
 refine Zk Tryz.func121 rfl rfl <| Zc <| Za <| JLr (Zi (l := [.int .u8 0, .nilFunc, .int .u8 0, .nilFunc, .int .u8 0, .nilFunc]) Tryz.zeroValue190 rfl fun b1 => Zb <| Zc <| Za <| JLq (.agg ⟨[.int .u8 0, .func (.func 146) ⟨[]⟩ ⟨[]⟩]⟩) (Pu.build (pv := [(0, .int .u8 0), (1, .func (.func 146) ⟨[]⟩ ⟨[]⟩)]) (l := [.int .u8 0, .func (.func 146) ⟨[]⟩ ⟨[]⟩]) rfl (bld189_0_1 _ _ _ _)) <| JLq (.agg ⟨[.int .u8 64, .func (.func 148) ⟨[]⟩ ⟨[]⟩]⟩) (Pu.build (pv := [(0, .int .u8 64), (1, .func (.func 148) ⟨[]⟩ ⟨[]⟩)]) (l := [.int .u8 64, .func (.func 148) ⟨[]⟩ ⟨[]⟩]) rfl (bld189_0_1 _ _ _ _)) <| JLq (.agg ⟨[.int .u8 128, .func (.func 149) ⟨[]⟩ ⟨[]⟩]⟩) (Pu.build (pv := [(0, .int .u8 128), (1, .func (.func 149) ⟨[]⟩ ⟨[]⟩)]) (l := [.int .u8 128, .func (.func 149) ⟨[]⟩ ⟨[]⟩]) rfl (bld189_0_1 _ _ _ _)) <| JLq (.agg ⟨[.int .u8 0, .func (.func 146) ⟨[]⟩ ⟨[]⟩, .int .u8 64, .func (.func 148) ⟨[]⟩ ⟨[]⟩, .int .u8 128, .func (.func 149) ⟨[]⟩ ⟨[]⟩]⟩) (Pu.build (pv := [(0, .agg ⟨[.int .u8 0, .func (.func 146) ⟨[]⟩ ⟨[]⟩]⟩), (1, .agg ⟨[.int .u8 64, .func (.func 148) ⟨[]⟩ ⟨[]⟩]⟩), (2, .agg ⟨[.int .u8 128, .func (.func 149) ⟨[]⟩ ⟨[]⟩]⟩)]) (l := [.int .u8 0, .func (.func 146) ⟨[]⟩ ⟨[]⟩, .int .u8 64, .func (.func 148) ⟨[]⟩ ⟨[]⟩, .int .u8 128, .func (.func 149) ⟨[]⟩ ⟨[]⟩]) rfl (bldPts _ _ _)) <| JLr (Zd 0 (vs := [.int .u8 0, .func (.func 146) ⟨[]⟩ ⟨[]⟩, .int .u8 64, .func (.func 148) ⟨[]⟩ ⟨[]⟩, .int .u8 128, .func (.func 149) ⟨[]⟩ ⟨[]⟩]) (l := [.int .u8 0, .func (.func 146) ⟨[]⟩ ⟨[]⟩, .int .u8 64, .func (.func 148) ⟨[]⟩ ⟨[]⟩, .int .u8 128, .func (.func 149) ⟨[]⟩ ⟨[]⟩]) ty190 rfl rfl rfl rfl rfl (Zf rfl (Zf rfl (Zf rfl (Zf rfl (Zf rfl (Zf rfl Zn)))))) rfl <| Zb ?_))
 refine Zj <| ⟨.agg ⟨[.int .u8 0, .func (.func 146) ⟨[]⟩ ⟨[]⟩, .int .u8 64, .func (.func 148) ⟨[]⟩ ⟨[]⟩, .int .u8 128, .func (.func 149) ⟨[]⟩ ⟨[]⟩]⟩, [], Ret.one rfl (RV.cell ty190 rfl (At.bx 0 rfl) rfl), Sub.nil, ?_⟩
 exact ⟨rfl, rfl⟩
end Go.Proofs.YtjhenmdcnbaobaaGreat.Hs
/-! Walks, printed by a program of this session's own (gen.py). -/
namespace Go.Proofs.YtjhenmdcnbaobaaGreat.Hs
open Go Go.Proofs
set_option maxRecDepth 100000
set_option linter.unusedVariables false
set_option linter.unusedSimpArgs false
attribute [local irreducible] JL J CT wlo DT
theorem stay_ct (n b : Int) (H : Heap) (hb : inI (n + b)) : CT Tryz.prog 49 ⟨[iv n, iv b]⟩ [] H (fun v N => ∃ cs k, v = .agg ⟨cs⟩ ∧ N = [k] ∧ OT (.mk 1 (n + b) zS [] []) cs k) := by
 have hb1 : -9223372036854775808 ≤ n + b := hb.1
 have hb2 : n + b ≤ 9223372036854775807 := hb.2
 refine Zk Tryz.func49 rfl rfl <| Zc <| Za <| JLr (Zi (l := pkT 0 0 zS nS nS) Tryz.zeroValue28 rfl fun b1 => Zb <| Zc <| Za <| JLM rfl <| JLM rfl <| JLn (Pu.add64 rfl rfl (by first | omega | (constructor <;> omega))) <| JLq (.agg ⟨pkT 1 (n + b) zS nS nS⟩) (Pu.build (pv := [(0, iv 1), (1, iv (n + b))]) (l := pkT 1 (n + b) zS nS nS) rfl (bld28_0_1 _ _)) <| JLr (Zd 0 (vs := pkT 1 (n + b) zS nS nS) (l := pkT 1 (n + b) zS nS nS) Zt rfl rfl rfl rfl rfl (ZC rfl rfl) (Z4 ..) <| Zb ?_))
 refine Zj <| ⟨.agg ⟨pkT 1 (n + b) zS nS nS⟩, [[]], Ret.one rfl (RV.cell Zt rfl (At.bx 0 rfl) (Z0 ..)), (Sub.emp Sub.nil), ?_⟩
 exact ⟨_, _, rfl, rfl, OT_leaf (by unfold inI; omega) hb⟩
theorem same_ct (s : Sm) (H : Heap) : CT Tryz.prog 50 ⟨[.agg ⟨sC s⟩]⟩ [] H (fun v N => v = .agg ⟨sC s⟩ ∧ N = []) := by
 refine Zk Tryz.func50 rfl rfl <| Zc <| Za <| JLr (Zr (l := sC s) rfl rfl fun b1 => JLr (Zi (l := sC zS) Tryz.zeroValue24 rfl fun b2 => Zb <| Zc <| Za <| JLr (Zl Y4 rfl (At.bx 1 rfl) (Zu rfl) <| JLr (Zd 0 (vs := sC s) (l := sC s) Y4 rfl rfl rfl rfl rfl (sC_ok _) (ZD rfl rfl) <| Zb <| Zj <| ⟨.agg ⟨sC s⟩, [], Ret.one rfl (RV.cell Y4 rfl (At.bx 0 rfl) (Zu rfl)), Sub.nil, ?_⟩))))
 exact ⟨rfl, rfl⟩
theorem mapPattern_ct : ∀ (gr : Nat) (frs crs : List Value) (hcallr : ∀ args w, (callFunc gr args).run Tryz.prog w = .ok (.enter gr args) w) (rf : Sm → Sm) (fv : Value) (hfv : fv.oneCell' = true) (p : Pt) (cs : List Value) (H : Heap), RP H cs p → (∀ s h, Hle H h → CT Tryz.prog gr ⟨frs ++ [.agg ⟨sC s⟩] ++ crs⟩ [] h (fun v N => v = .agg ⟨sC (rf s)⟩ ∧ N = [])) → sizeP p ≤ 1000000 → CT Tryz.prog 82 ⟨[.agg ⟨[fv, .func (.func gr) ⟨frs⟩ ⟨crs⟩]⟩, .agg ⟨cs⟩]⟩ [] H (fun v N => ∃ cs k, v = .agg ⟨cs⟩ ∧ N = [k] ∧ OP (mapP rf p) cs k) := by
 intro gr frs crs hcallr rf fv hfv p
 induction p using Pt.ind with
 | h kind num ref kids ih =>
 intro cs H hp hgr hz
 rw [sizeP] at hz
 have hlk := len_sizePs kids
 obtain ⟨ks, rfl, hk, hn, hks⟩ := RP_mk.1 hp
 refine Zk Tryz.func82 rfl rfl <| Zc <| Za <| JLr (Zr (l := [fv, .func (.func gr) ⟨frs⟩ ⟨crs⟩]) rfl rfl fun b1 => JLr (Zr (l := pkP kind num ref ks) rfl rfl fun b2 => JLr (Zi (l := pkP 0 0 zS nS) Tryz.zeroValue85 rfl fun b3 => Zb <| Zc <| Zy mixed #[0, 1, 0, 4, 0, 16, 0, 64, 240, 511, 0, 2047] 11 [some 8, some 9, some 10, some 11, some 12, some 13, some 14, some 15, some 16, some 17, some 5] [] [(8, fun _ _ vw qw => vw = .agg ⟨sC (rf ref)⟩ ∧ qw = []), (10, newP 85 (pkP 0 0 zS nS))] rfl (by kernel_rfl) rfl (by kernel_rfl) <| Dq (pp b2 0) (fun _ => YZ rfl rfl) <| Dl1 ty3 (At.bx 1 rfl) (pkP_0 ..) <| Dq (pp b2 1) (fun _ => fa85_1 rfl rfl) <| Dl1 ty3 (At.bx 1 rfl) (pkP_1 ..) ?_)))
 refine Dq (pp b1 1) (fun _ => fa109_1 rfl rfl) <| Dl1 ty107 (At.bx 2 rfl) rfl <| Dq (pp b2 2) (fun _ => fa85_2 rfl rfl) <| Dl Y4 (At.bx 1 rfl) (pkP_2 ..) <| Dc rfl hcallr (fun _ => rfl) (fun hin => hgr _ _ (Hle.hu _ _)) ?_
 rintro _ _ ⟨rfl, rfl⟩
 refine Dq (.agg ⟨pkP kind num (rf ref) nS⟩) (fun _ => Pu.build (pv := [(0, iv kind), (1, iv num), (2, .agg ⟨sC (rf ref)⟩)]) (l := pkP kind num (rf ref) nS) rfl (bld85_0_1_2 _ _ _)) <| Da Tryz.zeroValue85 rfl fun b5 => ZG (M' := [(BX b5 (pkP 0 0 zS nS) 85), (BX b3 (pkP 0 0 zS nS) 85), (BX b2 (pkP kind num ref ks) 85), (BX b1 [fv, .func (.func gr) ⟨frs⟩ ⟨crs⟩] 109)]) rfl ?_
 show JL _ _ _ [_] _ _ _
 refine JLr (Zd 0 (vs := pkP kind num (rf ref) nS) (l := pkP kind num (rf ref) nS) Z1 rfl rfl rfl rfl rfl (Xl rfl) (pkP_s ..) <| Zb <| Zc <| Zc <| Za <| JLq (pp b2 34) (YY rfl rfl) <| JLr (Ze ty83 rfl (At.bx 2 rfl) (Xm ..) ?_))
 obtain ⟨a6, cap6, hv6⟩ := hks.sl
 have hle6 := hks.le
 refine JLn (Pu.lenSl Tryz.runUnderlying83 hv6) <| JLM rfl <| Zb <| Zq <| ZS (fun k ρ M => ∃ (j : Nat) (v : Value) (es : List (List Value)) (k1 k2 : Zh), ρ 2 = pp b1 0 ∧ ρ 4 = pp b3 0 ∧ ρ 5 = pp b5 0 ∧ ρ 19 = ks ∧ ρ 20 = iv ((kids.length : Int)) ∧ ρ 21 = iv ((j : Int)) ∧ Sub [(BX b5 (pkP kind num (rf ref) v) 85), k1, k2, (BX b3 (pkP 0 0 zS nS) 85), (BX b1 [fv, .func (.func gr) ⟨frs⟩ ⟨crs⟩] 109)] M ∧ j ≤ kids.length ∧ Own 85 35 v es k1 ∧ OPs (mapPs rf (kids.take j)) es k2 ∧ k = kids.length - j) _ ⟨0, _, [], [], [], rfl, rfl, rfl, rfl, rfl, rfl, (Sk (Sub.emp (Sub.emp (Sk (Sd (Sk Sub.nil)))))), Nat.zero_le _, Own.nil, OPs.nil, rfl⟩ ?_
 rintro _ ρ7 _ ⟨j, v, es, k1, k2, e8, e9, e10, e11, e12, e13, hm14, hj, ho, hop, rfl⟩
 obtain ⟨ρ15, rfl⟩ := Zo (uc e8 (uc e9 (uc e10 (uc e11 (uc e12 (uc e13 un))))))
 clear e8 e9 e10 e11 e12 e13
 refine ZY hm14 ?_
 have hlen := hks.le
 refine Zc <| Za <| JLn (Pu.lss rfl rfl) <| Zb <| Zc <| Zg rfl (fun h16 => ?_) (fun h16 => ?_)
 ·replace h16 := dt h16
  have h16n : j < kids.length := by omega
  have hel := OPs_len hop
  rw [mapPs_len, List.length_take] at hel
  have hs1 := sizePs_mem _ (List.getElem_mem h16n)
  refine Zm <| Zc <| Zq <| Zc <| Za ?_
  obtain ⟨b17, o17, cap17, row17, T17, fr17, cs17, hv17, hb17, hs17, hE17⟩ := hks.get j (by first | assumption | omega | decide | simp)
  refine JLq (pp b17 (o17 + j * 35)) (Pu.idx j Tryz.runUnderlying83 Z1 hv17 rfl rfl (by first | assumption | omega | decide | simp)) <| JLr (Zl Z1 rfl (At.im hb17) hs17 <| JLr (Zi (l := pkP 0 0 zS nS) Tryz.zeroValue85 rfl fun b18 => JLr (Zd 0 (vs := cs17) (l := cs17) Z1 rfl rfl rfl rfl (ZJ hE17) (RP_ok hE17) (ZD (n := 35) rfl (ZJ hE17)) <| Zb <| Zy mixed #[0, 1, 0, 0, 12, 28, 63, 127, 255] 6 [some 25, some 26, some 27, some 28, some 29, some 30] [] [(4, fun _ _ vw qw => ∃ cs k, vw = .agg ⟨cs⟩ ∧ qw = [k] ∧ OP (mapP rf (kids[j])) cs k), (5, fun r _ vw qw => ∃ b k, vw = .slice (some ⟨b, 0, none⟩) 1 1 ∧ qw = [k] ∧ Own 85 35 (.slice (some ⟨b, 0, none⟩) 1 1) [(cel (r 4))] k ∧ k = (BX b (List.flatten [(cel (r 4))]) 85))] rfl (by kernel_rfl) rfl (by kernel_rfl) <| Dq (pp b5 34) (fun _ => YY rfl rfl) <| Dl1 ty83 (At.bx 1 rfl) (Xm ..) <| Dl ty109 (At.bx 5 rfl) rfl <| Dl Z1 (At.bx 0 rfl) (Zu (ZJ hE17)) ?_)))
  refine Dc rfl Tryz.call82 (fun _ => rfl) (fun hin => ih _ (List.getElem_mem h16n) _ _ (RP.mono (Hle.hu _ _) hE17) (fun s h hh => hgr s h (Hle.trans (Hle.hu _ _) hh)) (by omega)) ?_
  rintro _ _ ⟨cs21, k21, rfl, rfl, hO21⟩
  refine Dr rfl (fun _ => Zp (vs := [.agg ⟨cs21⟩]) [cs21] Tryz.runUnderlying83 el85 rfl rfl (by intro e he; simp only [List.mem_cons, List.not_mem_nil, or_false] at he; subst he; exact hO21.len) rfl (by decide) fun b k h1 h2 => ⟨[k], by rw [ZX rfl]; exact Sub.refl, b, k, rfl, rfl, h1, h2⟩) (fun _ _ ⟨b22, k22, e1, e2, ho22, hk22⟩ => ?_); subst e1 e2
  refine ZG (M' := [k22, k21, (BX b18 cs17 85), (BX b5 (pkP kind num (rf ref) v) 85), k1, k2, (BX b3 (pkP 0 0 zS nS) 85), (BX b1 [fv, .func (.func gr) ⟨frs⟩ ⟨crs⟩] 109)]) rfl ?_
  show JL _ _ _ [_, _, _] _ _ _
  have hlens23 : ∀ e ∈ ([cs21] : List (List Value)), List.length e = 35 := by
   intro e he; simp only [List.mem_cons, List.not_mem_nil, or_false] at he
   rcases he with rfl
   ·exact hO21.len
  have hoks23 : ∀ e ∈ ([cs21] : List (List Value)), okc e := by
   intro e he; simp only [List.mem_cons, List.not_mem_nil, or_false] at he
   rcases he with rfl
   ·exact hO21.ok
  refine JLr (Zz (i := 4) (n := 1) (es' := [cs21]) Tryz.runUnderlying83 Tryz.runUnderlying83 (Or.inl rfl) el85 rfl rfl rfl ho (fun F w m => Src.row (((At.k 0 rfl (by rw [hk22]; exact List.mem_cons_self))).heap m) (Zu (Zx hlens23))) rfl hlens23 hoks23 (by decide) (by omega) fun v23 k23 ho23 => JLq (pp b5 34) (YY rfl rfl) <| JLr (Zd 3 (vs := [v23]) (l := pkP kind num (rf ref) v23) ty83 rfl rfl rfl (ZK ho23.one) rfl (Zf ho23.one Zn) (pkP_s34 ..) <| Zb <| Za <| JLn (Pu.inc rfl rfl (by omega)) <| JLM rfl <| Zb <| ⟨_, ?_, (j + 1), v23, (es ++ [cs21]), k23, (k2 ++ k21), rfl, rfl, rfl, rfl, rfl, rfl, (Sd (Sub.cons 2 rfl (Sub.cons 2 rfl (Sub.join (Sub.cons 2 rfl (Sk (Sd (Sk (Sk Sub.nil))))))))), ?_, ?_, ?_, rfl⟩))
  ·omega
  ·omega
  ·assumption
  rw [mapPs_take rf kids j h16n]; exact OPs.snoc hO21 hop
 replace h16 := df h16
 have h16n : kids.length ≤ j := by omega
 refine ZB _ rfl <| Zc <| Za <| JLr (Zl Z1 rfl (At.bx 0 rfl) (pkP_a ..) <| JLr (Zd 3 (vs := pkP kind num (rf ref) v) (l := pkP kind num (rf ref) v) Z1 rfl rfl rfl rfl rfl (Xl ho.one) (pkP_s ..) <| Zb <| Zj <| ⟨.agg ⟨pkP kind num (rf ref) v⟩, [k1 ++ k2], Ret.one rfl (RV.cell Z1 rfl (At.bx 3 rfl) (pkP_a ..)), (Sub.join (Sd (Sk (Sk Sub.nil)))), ?_⟩))
 rw [List.take_of_length_le h16n] at hop
 exact ⟨_, _, rfl, rfl, by rw [mapP]; exact OP_mk.2 ⟨v, es, k1, k2, rfl, hk, hn, ho, hop, rfl, by rw [mapPs_len]; exact hks.le⟩⟩
end Go.Proofs.YtjhenmdcnbaobaaGreat.Hs
/-! Walks, printed by a program of this session's own (gen.py). -/
namespace Go.Proofs.YtjhenmdcnbaobaaGreat.Hs
open Go Go.Proofs
set_option maxRecDepth 100000
set_option linter.unusedVariables false
set_option linter.unusedSimpArgs false
attribute [local irreducible] JL J CT wlo DT
set_option maxHeartbeats 1000000 in
theorem mapTerm_ct : ∀ (gr : Nat) (frs crs : List Value) (hcallr : ∀ args w, (callFunc gr args).run Tryz.prog w = .ok (.enter gr args) w) (rf : Sm → Sm) (gv : Nat) (fvs cvs : List Value) (hcallv : ∀ args w, (callFunc gv args).run Tryz.prog w = .ok (.enter gv args) w) (σ : Type) (Sc : σ → Zh) (Inv : σ → Prop) (vf : Int → Int → σ → Tm × σ) (hI : ∀ n b s, Inv s → Inv (vf n b s).2) (t : Tm) (b : Int) (s : σ) (cs : List Value) (H : Heap), RT H cs t → sizeT t ≤ 1000000 → vOK t → 0 ≤ b → b + 2 * sizeT t ≤ 2000000 → Inv s → (∀ s h, Hle H h → CT Tryz.prog gr ⟨frs ++ [.agg ⟨sC s⟩] ++ crs⟩ [] h (fun v N => v = .agg ⟨sC (rf s)⟩ ∧ N = [])) → (∀ (n b : Int) (s : σ) (h : Heap), Hle H h → Inv s → 0 ≤ n → n ≤ 2000000 → 0 ≤ b → b ≤ 2000000 → CT Tryz.prog gv ⟨fvs ++ [iv n, iv b] ++ cvs⟩ [Sc s] h (fun v N => ∃ cs k, v = .agg ⟨cs⟩ ∧ N = [k, Sc (vf n b s).2] ∧ OT (vf n b s).1 cs k)) → CT Tryz.prog 51 ⟨[.agg ⟨[.func (.func gv) ⟨fvs⟩ ⟨cvs⟩, .func (.func gr) ⟨frs⟩ ⟨crs⟩]⟩, .agg ⟨cs⟩, iv b]⟩ [Sc s] H (fun v N => ∃ cs k, v = .agg ⟨cs⟩ ∧ N = [k, Sc (Y2 rf vf b t s).2] ∧ OT (Y2 rf vf b t s).1 cs k) := by
 intro gr frs crs hcallr rf gv fvs cvs hcallv σ Sc Inv vf hI t
 induction t using Tm.ind with
 | h kind num ref kids cases ih ih' =>
 intro b s cs H ht hz hv hb0 hb hs hgr hgv
 rw [sizeT] at hz hb
 rw [vOK] at hv
 have hv1 : ¬ kind = 1 ∨ (0 ≤ num ∧ num ≤ 2000000) := by by_cases h : kind = 1; exact .inr (hv.1 h); exact .inl h
 have hlk := len_sizeTs kids
 have hlc := len_sizeCs cases
 obtain ⟨ks, cv, rfl, hk, hn, hks, hcv⟩ := RT_mk.1 ht
 have hn1 : -9223372036854775808 ≤ num := hn.1
 have hn2 : num ≤ 9223372036854775807 := hn.2
 refine Zk Tryz.func51 rfl rfl <| Zc <| Za <| JLr (Zr (l := [.func (.func gv) ⟨fvs⟩ ⟨cvs⟩, .func (.func gr) ⟨frs⟩ ⟨crs⟩]) rfl rfl fun b1 => JLr (Zr (l := pkT kind num ref ks cv) rfl rfl fun b2 => JLr (Zi (l := pkT 0 0 zS nS nS) Tryz.zeroValue28 rfl fun b3 => Zb <| Zc <| Zc <| Za <| JLq (pp b2 0) (ZV rfl rfl) <| JLr (Ze ty3 rfl (At.bx 1 rfl) (Yb ..) <| JLn (Pu.eql rfl rfl) ?_))))
 refine JLM rfl <| ZA 4 [16, 17, 18, 19] [(19, cond (decide (kind = 1)) (.bool (decide (b ≤ num))) undef)] ?_ fun f5 => ?_
 ·cases h4 : (decide (kind = 1)) with
  | true =>
   replace h4 := dt h4
   refine JLq (pp b2 1) (Yu rfl rfl) <| JLr (Ze ty3 rfl (At.bx 1 rfl) (Y9 ..) <| JLM rfl <| JLn (Pu.geq rfl rfl) ?_)
   exact Zb ⟨⟨rfl, trivial⟩, rfl⟩
  | false =>
   exact ZL rfl ⟨rfl, trivial⟩
 refine JLn (Pu.pickAnd rfl rfl rfl) <| Zb <| Zg rfl (fun h6 => ?_) (fun h6 => ?_)
 ·obtain ⟨h6a, h6b⟩ := Xd h6
  replace h6a := dt h6a
  replace h6b := dt h6b
  refine Zc <| Za <| JLq (pp b1 0) (fa109_0 rfl rfl) <| JLr (Ze ty106 rfl (At.bx 2 rfl) rfl <| JLq (pp b2 1) (Yu rfl rfl) <| JLr (Ze ty3 rfl (At.bx 1 rfl) (Y9 ..) <| JLM rfl <| JLn (Pu.sub64 rfl rfl (by first | omega | (constructor <;> omega))) <| JLM rfl <| Zs 3 rfl hcallv rfl rfl (fun hin => hgv _ _ _ _ (Hle.hu _ _) hs (by omega) (by omega) (by omega) (by omega)) rfl ?_))
  rintro _ _ ⟨cs7, k7, rfl, rfl, hO7⟩
  refine JLr (Zd 2 (vs := cs7) (l := cs7) Zt rfl rfl rfl rfl hO7.len hO7.ok (ZD (n := 36) rfl hO7.len) <| Zb <| Zj <| ⟨.agg ⟨cs7⟩, [k7, Sc ((vf (num - b) b s).2)], Ret.one rfl (RV.cell Zt rfl (At.bx 2 rfl) (Zu hO7.len)), (Sk (Sk Sub.nil)), ?_⟩)
  have hx : kind = 1 ∧ b ≤ num := ⟨h6a, h6b⟩
  exact ⟨_, _, rfl, by rw [Y2, if_pos hx], by rw [Y2, if_pos hx]; exact hO7⟩
 refine Zm <| Zc <| Zy mixed #[0, 1, 0, 4, 0, 16, 0, 64, 240, 511, 0, 2047] 11 [some 29, some 30, some 31, some 32, some 33, some 34, some 35, some 36, some 37, some 38, some 7] [] [(8, fun _ _ vw qw => vw = .agg ⟨sC (rf ref)⟩ ∧ qw = []), (10, newP 28 (pkT 0 0 zS nS nS))] rfl (by kernel_rfl) rfl (by kernel_rfl) <| Dq (pp b2 0) (fun _ => ZV rfl rfl) <| Dl1 ty3 (At.bx 1 rfl) (Yb ..) <| Dq (pp b2 1) (fun _ => Yu rfl rfl) <| Dl1 ty3 (At.bx 1 rfl) (Y9 ..) <| Dq (pp b1 1) (fun _ => fa109_1 rfl rfl) <| Dl1 ty107 (At.bx 2 rfl) rfl <| Dq (pp b2 2) (fun _ => fa28_2 rfl rfl) <| Dl Y4 (At.bx 1 rfl) (pkT_2 ..) <| Dc rfl hcallr (fun _ => rfl) (fun hin => hgr _ _ (Hle.hu _ _)) ?_
 rintro _ _ ⟨rfl, rfl⟩
 refine Dq (.agg ⟨pkT kind num (rf ref) nS nS⟩) (fun _ => Pu.build (pv := [(0, iv kind), (1, iv num), (2, .agg ⟨sC (rf ref)⟩)]) (l := pkT kind num (rf ref) nS nS) rfl (bld28_0_1_2 _ _ _)) <| Da Tryz.zeroValue28 rfl fun b9 => ZG (M' := [(BX b9 (pkT 0 0 zS nS nS) 28), (BX b3 (pkT 0 0 zS nS nS) 28), (BX b2 (pkT kind num ref ks cv) 28), (BX b1 [.func (.func gv) ⟨fvs⟩ ⟨cvs⟩, .func (.func gr) ⟨frs⟩ ⟨crs⟩] 109), Sc s]) rfl ?_
 show JL _ _ _ [_] _ _ _
 refine JLr (Zd 0 (vs := pkT kind num (rf ref) nS nS) (l := pkT kind num (rf ref) nS nS) Zt rfl rfl rfl rfl rfl (ZC rfl rfl) (Z4 ..) <| Zb <| Zc <| Za <| JLq (pp b2 34) (Yn rfl rfl) <| JLr (Ze ty25 rfl (At.bx 2 rfl) (Ym ..) ?_))
 obtain ⟨a10, cap10, hv10⟩ := hks.sl
 have hle10 := hks.le
 refine JLn (Pu.lenSl Tryz.runUnderlying25 hv10) <| JLr (Runs_makeO (kids.length) Tryz.runUnderlying25 el28 rfl rfl rfl rfl (by omega) (by omega) fun v11 k11 ho11 => JLq (pp b9 34) (Yn rfl rfl) <| JLr (Zd 1 (vs := [v11]) (l := pkT kind num (rf ref) v11 nS) ty25 rfl rfl rfl (ZK ho11.one) rfl (Zf ho11.one Zn) (pkT_s34 ..) <| Zb <| Zc <| Za <| JLq (pp b9 34) (Yn rfl rfl) <| JLr (Ze ty25 rfl (At.bx 1 rfl) (Ym ..) <| JLq (pp b2 34) (Yn rfl rfl) <| JLr (Ze ty25 rfl (At.bx 3 rfl) (Ym ..) ?_))))
 obtain ⟨es12, he12, hH12, hl12, hok12, hsr12⟩ := kids_src (P := Tryz.prog) hks
 refine JLr (Runs_copy (i := 0) (n := kids.length) (m := kids.length) (es' := es12) Tryz.runUnderlying25 el28 rfl rfl rfl ho11 (fun F w m => hsr12 w _ m) he12 (by simp) hl12 hok12 rfl fun kc12 hc12 => Zb <| Zc <| Zc <| Za <| JLq (pp b9 34) (Yn rfl rfl) <| JLr (Ze ty25 rfl (At.bx 1 rfl) (Ym ..) ?_))
 obtain ⟨a13, cap13, hv13⟩ := hc12.sl
 rw [he12] at hv13
 refine JLn (Pu.lenSl Tryz.runUnderlying25 hv13) <| JLM rfl <| Zb <| Zq ?_
 have hneg : ¬ (kind = 1 ∧ b ≤ num) := by intro hh; simp [hh.1, hh.2] at h6
 refine ZS (fun k ρ M => ∃ (j : Nat) (es : List (List Value)) (k1 k2 : Zh) (s1 : σ), ρ 2 = iv b ∧ ρ 3 = pp b1 0 ∧ ρ 4 = pp b2 0 ∧ ρ 6 = pp b3 0 ∧ ρ 7 = pp b9 0 ∧ ρ 50 = v11 ∧ ρ 51 = iv ((kids.length : Int)) ∧ ρ 52 = iv ((j : Int)) ∧ Sub [(BX b9 (pkT kind num (rf ref) v11 nS) 28), k1, k2, Sc s1, (BX b3 (pkT 0 0 zS nS nS) 28), (BX b2 (pkT kind num ref ks cv) 28), (BX b1 [.func (.func gv) ⟨fvs⟩ ⟨cvs⟩, .func (.func gr) ⟨frs⟩ ⟨crs⟩] 109)] M ∧ j ≤ kids.length ∧ Own 28 36 v11 es k1 ∧ Half H kids (YW rf vf b kind 0 (kids.take j) s).1 j es k2 ∧ Inv s1 ∧ (YW rf vf b kind 0 (kids.take j) s).2 = s1 ∧ k = kids.length - j) _ ⟨0, es12, kc12, [], s, rfl, rfl, rfl, rfl, rfl, rfl, rfl, rfl, (Sub.cons 1 rfl (Sk (Sub.emp (Sub.cons 3 rfl (Sk (Sk (Sk Sub.nil))))))), Nat.zero_le _, hc12, hH12, hs, rfl, rfl⟩ ?_
 rintro _ ρ14 _ ⟨j, es, k1, k2, s1, e15, e16, e17, e18, e19, e20, e21, e22, hm23, hj, ho, hH, hs1, hsq, rfl⟩
 obtain ⟨ρ24, rfl⟩ := Zo (uc e15 (uc e16 (uc e17 (uc e18 (uc e19 (uc e20 (uc e21 (uc e22 un))))))))
 clear e15 e16 e17 e18 e19 e20 e21 e22
 refine ZY hm23 <| Zc <| Za <| JLn (Pu.lss rfl rfl) <| Zb <| Zc <| Zg rfl (fun h25 => ?_) (fun h25 => ?_)
 ·replace h25 := dt h25
  have h25n : j < kids.length := by omega
  have hz1 := sizeTs_mem _ (List.getElem_mem h25n)
  have hm1 := more_le kind j
  refine Zm <| Zc <| Zq <| Zc <| Za <| JLM rfl ?_
  obtain ⟨b26, cap26, row26, e26, hv26, hm26, hs26, hE26⟩ := hH.at ho h25n
  refine JLq (pp b26 (0 + j * 36)) (Pu.idx j Tryz.runUnderlying25 Zt hv26 rfl rfl (by rw [hH.1]; exact h25n)) <| JLr (Zl Zt rfl (At.k 1 rfl hm26) hs26 <| JLr (Zi (l := pkT 0 0 zS nS nS) Tryz.zeroValue28 rfl fun b27 => JLA rfl <| JLr (Zd 0 (vs := e26) (l := e26) Zt rfl rfl rfl rfl (Zv hE26) (RT_ok hE26) (ZD (n := 36) rfl (Zv hE26)) <| Zb <| Zy mixed #[0, 1, 0, 0, 0, 0, 0, 64, 0, 448, 992, 2040, 4095, 8191] 12 [some 57, some 58, some 59, some 60, some 61, some 62, some 63, some 64, some 65, some 66, some 67, some 68] [(11, 16)] [(9, fun _ _ vw qw => vw = iv (more kind ((j : Int))) ∧ qw = []), (11, fun _ _ vw qw => ∃ cs k, vw = .agg ⟨cs⟩ ∧ qw = [k, Sc ((Y2 rf vf (b + (more kind ((j : Int)))) (kids[j]) s1).2)] ∧ OT ((Y2 rf vf (b + (more kind ((j : Int)))) (kids[j]) s1).1) cs k)] rfl (by kernel_rfl) rfl (by kernel_rfl) <| Dq (pp b9 34) (fun _ => Yn rfl rfl) <| Dl1 ty25 (At.bx 1 rfl) (Ym ..) <| DM (fun _ => rfl) <| Dl ty109 (At.bx 7 rfl) rfl <| Dl Zt (At.bx 0 rfl) (Zu (Zv hE26)) <| DM (fun _ => rfl) ?_)))
  refine Dq (pp b2 0) (fun _ => ZV rfl rfl) <| Dl1 ty3 (At.bx 6 rfl) (Yb ..) <| DM (fun _ => rfl) <| Dc rfl Tryz.call81 (fun _ => rfl) (fun hin => more_ct _ _ _) ?_
  rintro _ _ ⟨rfl, rfl⟩
  refine Dn (fun _ => Pu.add64 rfl rfl (by first | omega | (constructor <;> omega))) ?_
  refine Xf 4 rfl rfl (fun _ => rfl) Tryz.call51 (fun _ => rfl) rfl (fun hin => ih _ (List.getElem_mem h25n) _ _ _ _ (RT.mono (Hle.hu _ _) hE26) (by omega) (vOKs_mem hv.2.1 _ (List.getElem_mem h25n)) (by omega) (by omega) hs1 (fun s h hh => hgr s h (Hle.trans (Hle.hu _ _) hh)) (fun n b s h hh => hgv n b s h (Hle.trans (Hle.hu _ _) hh))) (fun _ => rfl) ?_
  rintro _ _ ⟨cs29, k29, rfl, rfl, hO29⟩
  refine ZG (M' := [k29, Sc ((Y2 rf vf (b + (more kind ((j : Int)))) (kids[j]) s1).2), (BX b27 e26 28), (BX b9 (pkT kind num (rf ref) v11 nS) 28), k1, k2, (BX b3 (pkT 0 0 zS nS nS) 28), (BX b2 (pkT kind num ref ks cv) 28), (BX b1 [.func (.func gv) ⟨fvs⟩ ⟨cvs⟩, .func (.func gr) ⟨frs⟩ ⟨crs⟩] 109)]) rfl ?_
  show JL _ _ _ [_, _] _ _ _
  obtain ⟨b30, cap30, row30, e30, hv30, hm30, hs30, hE30⟩ := hH.at ho h25n
  refine JLq (pp b30 (0 + j * 36)) (Pu.idx j Tryz.runUnderlying25 Zt hv30 rfl rfl (by rw [hH.1]; exact h25n)) <| JLr (Runs_storeOwn (i := 4) (j := j) (b := b30) Zt rfl ho ⟨_, _, hv30⟩ rfl (by rw [hH.1]; exact h25n) rfl rfl hO29.len hO29.ok fun k31 ho31 => Zb <| Za <| JLn (Pu.inc rfl rfl (by omega)) <| JLM rfl <| Zb <| ⟨_, ?_, (j + 1), (es.set j cs29), k31, (k2 ++ k29), ((Y2 rf vf (b + (more kind ((j : Int)))) (kids[j]) s1).2), rfl, rfl, rfl, rfl, rfl, rfl, rfl, rfl, (Sub.cons 3 rfl (Sub.cons 3 rfl (Sub.join (Sub.cons 3 rfl (Sk (Sk (Sd (Sk (Sk (Sk Sub.nil)))))))))), ?_, ?_, ?_, ?_, ?_, rfl⟩)
  ·omega
  ·omega
  ·exact ho31
  ·rw [mapTs_take0 rf vf b kind kids j s h25n, hsq]; exact hH.step h25n hO29
  ·exact mapT_inv hI _ _ _ hs1
  rw [mapTs_take0 rf vf b kind kids j s h25n, hsq]
 replace h25 := df h25
 have h25n : kids.length ≤ j := by omega
 refine ZB _ rfl <| Zc <| Zc <| Za <| JLq (pp b2 35) (YI rfl rfl) <| JLr (Ze ty26 rfl (At.bx 5 rfl) (Yz ..) ?_)
 obtain ⟨a32, cap32, hv32⟩ := hcv.sl
 have hle32 := hcv.le
 refine JLn (Pu.lenSl Tryz.runUnderlying26 hv32) <| JLM rfl <| Zb <| Zq ?_
 have hjk := h25n
 rw [List.take_of_length_le hjk] at hsq hH
 refine ZS (fun k ρ M => ∃ (j : Nat) (w : Value) (es2 : List (List Value)) (k3 k4 : Zh) (s2 : σ), ρ 2 = iv b ∧ ρ 3 = pp b1 0 ∧ ρ 6 = pp b3 0 ∧ ρ 7 = pp b9 0 ∧ ρ 72 = cv ∧ ρ 73 = iv ((cases.length : Int)) ∧ ρ 74 = iv ((j : Int)) ∧ Sub [(BX b9 (pkT kind num (rf ref) v11 w) 28), k3, k4, Sc s2, k1, k2, (BX b3 (pkT 0 0 zS nS nS) 28), (BX b2 (pkT kind num ref ks cv) 28), (BX b1 [.func (.func gv) ⟨fvs⟩ ⟨cvs⟩, .func (.func gr) ⟨frs⟩ ⟨crs⟩] 109)] M ∧ j ≤ cases.length ∧ Own 87 71 w es2 k3 ∧ OCs (mapCs rf vf b (cases.take j) s1).1 es2 k4 ∧ Inv s2 ∧ (mapCs rf vf b (cases.take j) s1).2 = s2 ∧ k = cases.length - j) _ ⟨0, nS, [], [], [], s1, rfl, rfl, rfl, rfl, rfl, rfl, rfl, (Sk (Sub.emp (Sub.emp (Sub.cons 2 rfl (Sk (Sk (Sk (Sk (Sk Sub.nil))))))))), Nat.zero_le _, Own.nil, OCs.nil, hs1, rfl, rfl⟩ ?_
 rintro _ ρ33 _ ⟨j, w, es2, k3, k4, s2, e34, e35, e36, e37, e38, e39, e40, hm41, hj, how, hopw, hs2, hsq2, rfl⟩
 obtain ⟨ρ42, rfl⟩ := Zo (uc e34 (uc e35 (uc e36 (uc e37 (uc e38 (uc e39 (uc e40 un)))))))
 clear e34 e35 e36 e37 e38 e39 e40
 refine ZY hm41 <| Zc <| Za <| JLn (Pu.lss rfl rfl) <| Zb <| Zc <| Zg rfl (fun h43 => ?_) (fun h43 => ?_)
 ·replace h43 := dt h43
  have h43n : j < cases.length := by omega
  have helw := OCs_len hopw
  rw [mapCs_len, List.length_take] at helw
  have hz1 := sizeCs_mem _ (List.getElem_mem h43n)
  have hm1 := binds_le (cases[j]).1
  refine Zm <| Zc <| Zq <| Zc <| Za ?_
  obtain ⟨b44, o44, cap44, row44, T44, fr44, cs44, hv44, hb44, hs44, hE44⟩ := hcv.get j (by first | assumption | omega | decide | simp)
  obtain ⟨ca44, cb44, rfl, hA44, hB44⟩ := hE44
  refine JLq (pp b44 (o44 + j * 71)) (Pu.idx j Tryz.runUnderlying26 ty87 hv44 rfl rfl (by first | assumption | omega | decide | simp)) <| JLr (Zl ty87 rfl (At.im hb44) hs44 <| JLr (Zi (l := (pkP 0 0 zS nS) ++ (pkT 0 0 zS nS nS)) Tryz.zeroValue87 rfl fun b45 => JLr (Zd 0 (vs := ca44 ++ cb44) (l := ca44 ++ cb44) ty87 rfl rfl rfl rfl (Z6 (ZJ hA44) (Zv hB44)) (Yf (RP_ok hA44) (RT_ok hB44)) (ZD (n := 71) rfl (Z6 (ZJ hA44) (Zv hB44))) <| Zb <| Zy mixed #[0, 1, 0, 0, 8, 28, 0, 0, 128, 0, 0, 1024, 3132, 7740, 16380, 32764, 65532, 131071, 262143, 524287] 17 [some 78, some 79, some 80, some 81, some 82, some 83, some 84, some 85, some 86, some 87, some 88, some 89, some 90, some 91, some 92, some 93, some 94] [(14, 21)] [(5, fun _ _ vw qw => ∃ cs k, vw = .agg ⟨cs⟩ ∧ qw = [k] ∧ OP (mapP rf (cases[j].1)) cs k), (12, fun _ _ vw qw => vw = iv ((binds (cases[j].1) : Int)) ∧ qw = []), (14, fun _ _ vw qw => ∃ cs k, vw = .agg ⟨cs⟩ ∧ qw = [k, Sc ((Y2 rf vf (b + ((binds (cases[j].1) : Int))) (cases[j].2) s2).2)] ∧ OT ((Y2 rf vf (b + ((binds (cases[j].1) : Int))) (cases[j].2) s2).1) cs k), (16, fun r _ vw qw => ∃ b k, vw = .slice (some ⟨b, 0, none⟩) 1 1 ∧ qw = [k] ∧ Own 87 71 (.slice (some ⟨b, 0, none⟩) 1 1) [((cel (r 5))) ++ ((cel (r 14)))] k ∧ k = (BX b (List.flatten [((cel (r 5))) ++ ((cel (r 14)))]) 87))] rfl (by kernel_rfl) rfl (by kernel_rfl) <| Dq (pp b9 35) (fun _ => YI rfl rfl) <| Dl1 ty26 (At.bx 1 rfl) (Yz ..) <| Dl ty109 (At.bx 9 rfl) rfl <| Dq (pp b45 0) (fun _ => fa87_0 rfl rfl) <| Dl Z1 (At.bx 0 rfl) (sub_l (ZJ hA44)) ?_)))
  refine Dc rfl Tryz.call82 (fun _ => rfl) (fun hin => mapPattern_ct gr frs crs hcallr rf _ rfl _ _ _ (RP.mono (Hle.hu _ _) hA44) (fun s h hh => hgr s h (Hle.trans (Hle.hu _ _) hh)) (by omega)) ?_
  rintro _ _ ⟨cs49, k49, rfl, rfl, hO49⟩
  refine Dl ty109 (At.bx 9 rfl) rfl <| Dq (pp b45 35) (fun _ => fa87_1 rfl rfl) <| Dl Zt (At.bx 0 rfl) (sub_r (ZJ hA44) (Zv hB44)) <| DM (fun _ => rfl) <| Dq (pp b45 0) (fun _ => fa87_0 rfl rfl) <| Dl Z1 (At.bx 0 rfl) (sub_l (ZJ hA44)) ?_
  refine Dc rfl Tryz.call83 (fun _ => rfl) (fun hin => binds_ct _ _ _ (RP.mono (Hle.hu _ _) hA44) (by omega)) ?_
  rintro _ _ ⟨rfl, rfl⟩
  refine Dn (fun _ => Pu.add64 rfl rfl (by first | omega | (constructor <;> omega))) ?_
  refine Xf 5 rfl rfl (fun _ => rfl) Tryz.call51 (fun _ => rfl) rfl (fun hin => ih' _ (List.getElem_mem h43n) _ _ _ _ (RT.mono (Hle.hu _ _) hB44) (by omega) (vOKc_mem hv.2.2 _ (List.getElem_mem h43n)) (by omega) (by omega) hs2 (fun s h hh => hgr s h (Hle.trans (Hle.hu _ _) hh)) (fun n b s h hh => hgv n b s h (Hle.trans (Hle.hu _ _) hh))) (fun _ => rfl) ?_
  rintro _ _ ⟨cs50, k50, rfl, rfl, hO50⟩
  refine Dq (.agg ⟨cs49 ++ cs50⟩) (fun _ => Pu.build (pv := [(0, .agg ⟨cs49⟩), (1, .agg ⟨cs50⟩)]) (l := cs49 ++ cs50) rfl (bld87_0_1 hO49.len hO50.len)) <| Dr rfl (fun _ => Zp (vs := [.agg ⟨cs49 ++ cs50⟩]) [cs49 ++ cs50] Tryz.runUnderlying26 el87 rfl rfl (by intro e he; simp only [List.mem_cons, List.not_mem_nil, or_false] at he; subst he; exact (Z6 hO49.len hO50.len)) rfl (by decide) fun b k h1 h2 => ⟨[k], by rw [ZX rfl]; exact Sub.refl, b, k, rfl, rfl, h1, h2⟩) (fun _ _ ⟨b51, k51, e1, e2, ho51, hk51⟩ => ?_); subst e1 e2
  refine ZG (M' := [k51, k50, Sc ((Y2 rf vf (b + ((binds (cases[j].1) : Int))) (cases[j].2) s2).2), k49, (BX b45 (ca44 ++ cb44) 87), (BX b9 (pkT kind num (rf ref) v11 w) 28), k3, k4, k1, k2, (BX b3 (pkT 0 0 zS nS nS) 28), (BX b2 (pkT kind num ref ks cv) 28), (BX b1 [.func (.func gv) ⟨fvs⟩ ⟨cvs⟩, .func (.func gr) ⟨frs⟩ ⟨crs⟩] 109)]) rfl ?_
  show JL _ _ _ [_, _, _] _ _ _
  have hlens52 : ∀ e ∈ ([cs49 ++ cs50] : List (List Value)), List.length e = 71 := by
   intro e he; simp only [List.mem_cons, List.not_mem_nil, or_false] at he
   rcases he with rfl
   ·exact (Z6 hO49.len hO50.len)
  have hoks52 : ∀ e ∈ ([cs49 ++ cs50] : List (List Value)), okc e := by
   intro e he; simp only [List.mem_cons, List.not_mem_nil, or_false] at he
   rcases he with rfl
   ·exact (Yf hO49.ok hO50.ok)
  refine JLr (Zz (i := 6) (n := 1) (es' := [cs49 ++ cs50]) Tryz.runUnderlying26 Tryz.runUnderlying26 (Or.inl rfl) el87 rfl rfl rfl how (fun F w m => Src.row (((At.k 0 rfl (by rw [hk51]; exact List.mem_cons_self))).heap m) (Zu (Zx hlens52))) rfl hlens52 hoks52 (by decide) (by omega) fun v52 k52 ho52 => JLq (pp b9 35) (YI rfl rfl) <| JLr (Zd 5 (vs := [v52]) (l := pkT kind num (rf ref) v11 v52) ty26 rfl rfl rfl (ZK ho52.one) rfl (Zf ho52.one Zn) (pkT_s35 ..) <| Zb <| Za <| JLn (Pu.inc rfl rfl (by omega)) <| JLM rfl <| Zb <| ⟨_, ?_, (j + 1), v52, (es2 ++ [cs49 ++ cs50]), k52, (k4 ++ (k49 ++ k50)), ((Y2 rf vf (b + ((binds (cases[j].1) : Int))) (cases[j].2) s2).2), rfl, rfl, rfl, rfl, rfl, rfl, rfl, (Sd (Sub.cons 4 rfl (Sub.cons 4 rfl (Sub.join3 (Sub.cons 4 rfl (Sub.cons 2 rfl (Sk (Sk (Sd (Sk (Sk (Sk (Sk (Sk Sub.nil)))))))))))))), ?_, ?_, ?_, ?_, ?_, rfl⟩))
  ·omega
  ·omega
  ·exact ho52
  ·rw [mapCs_take rf vf b cases j s1 h43n, hsq2]; exact OCs.snoc hO49 hO50 hopw
  ·exact mapT_inv hI _ _ _ hs2
  rw [mapCs_take rf vf b cases j s1 h43n, hsq2]
 replace h43 := df h43
 have h43n : cases.length ≤ j := by omega
 refine ZB _ rfl <| Zc <| Za <| JLr (Zl Zt rfl (At.bx 0 rfl) (Z0 ..) <| JLr (Zd 6 (vs := pkT kind num (rf ref) v11 w) (l := pkT kind num (rf ref) v11 w) Zt rfl rfl rfl rfl rfl (ZC ho.one how.one) (Z4 ..) <| Zb <| Zj <| ⟨.agg ⟨pkT kind num (rf ref) v11 w⟩, [k1 ++ (k2 ++ (k3 ++ k4)), Sc s2], Ret.one rfl (RV.cell Zt rfl (At.bx 6 rfl) (Z0 ..)), (Sub.join4 (Sd (Sub.cons 3 rfl (Sub.cons 3 rfl (Sk (Sk (Sk Sub.nil))))))), ?_⟩))
 rw [List.take_of_length_le h43n] at hopw hsq2
 exact ⟨_, _, rfl, by rw [Y2, if_neg hneg, hsq, hsq2], by rw [Y2, if_neg hneg, hsq]; exact OT_mk.2 ⟨_, w, es, es2, k1, k2, k3, k4, rfl, hk, hn, ho, hH.done hjk, how, hopw, rfl, by rw [mapTs_len]; exact hks.le, by rw [mapCs_len]; exact hcv.le⟩⟩
end Go.Proofs.YtjhenmdcnbaobaaGreat.Hs
/-! Walks, printed by a program of this session's own (gen.py). -/
namespace Go.Proofs.YtjhenmdcnbaobaaGreat.Hs
open Go Go.Proofs
set_option maxRecDepth 100000
set_option linter.unusedVariables false
set_option linter.unusedSimpArgs false
attribute [local irreducible] JL J CT wlo DT
theorem idxI_ct (g : Nat) (fs cv : List Value) (hcall : ∀ args w, (callFunc g args).run Tryz.prog w = .ok (.enter g args) w) (pr : Int → Bool) (l : List Int) (v : Value) (H : Heap) (hl : rdS RI 1 H v l) (hg : ∀ x ∈ l, ∀ h, Hle H h → CT Tryz.prog g ⟨fs ++ [iv x] ++ cv⟩ [] h (fun v N => v = .bool (pr x) ∧ N = [])) : CT Tryz.prog 56 ⟨[v, .func (.func g) ⟨fs⟩ ⟨cv⟩]⟩ [] H (fun v N => v = iv (fstI pr l 0) ∧ N = []) := by
 refine Zk Tryz.func56 rfl rfl <| Zc <| Za <| JLA rfl <| Zb <| Zc <| Zc <| Za <| JLm v ?_
 obtain ⟨a1, cap1, hv1⟩ := hl.sl
 have hle1 := hl.le
 refine JLn (Pu.lenSl Tryz.runUnderlying49 hv1) <| JLM rfl <| Zb <| Zq <| ZS (fun k ρ M => ∃ (j : Nat), ρ 0 = v ∧ ρ 1 = .func (.func g) ⟨fs⟩ ⟨cv⟩ ∧ ρ 4 = iv 0 ∧ ρ 7 = iv ((l.length : Int)) ∧ ρ 8 = iv ((j : Int)) ∧ Sub [] M ∧ j ≤ l.length ∧ fstI pr (l.drop j) j = fstI pr l 0 ∧ k = l.length - j) _ ⟨0, rfl, rfl, rfl, rfl, rfl, Sub.nil, Nat.zero_le _, rfl, rfl⟩ ?_
 rintro _ ρ2 _ ⟨j, e3, e4, e5, e6, e7, hm8, hj, hinv, rfl⟩
 obtain ⟨ρ9, rfl⟩ := Zo (uc e3 (uc e4 (uc e5 (uc e6 (uc e7 un)))))
 clear e3 e4 e5 e6 e7
 refine ZY hm8 <| Zc <| Za <| JLn (Pu.lss rfl rfl) <| Zb <| Zc <| Zg rfl (fun h10 => ?_) (fun h10 => ?_)
 ·replace h10 := dt h10
  have h10n : j < l.length := by omega
  have hlenl := hl.le
  refine Zm <| Zc <| Zq <| Zc <| Za <| JLM rfl <| JLA rfl <| Zb <| Zc <| Za <| JLM rfl <| JLm v <| JLM rfl ?_
  obtain ⟨b11, o11, cap11, row11, T11, fr11, cs11, hv11, hb11, hs11, hE11⟩ := hl.get j (by first | assumption | omega | decide | simp)
  refine JLq (pp b11 (o11 + j * 1)) (Pu.idx j Tryz.runUnderlying49 ty3 hv11 rfl rfl (by first | assumption | omega | decide | simp)) <| JLr (Ze ty3 rfl (At.im hb11) (YF ((show cs11 = [Value.int .i64 (l[j])] from hE11) ▸ hs11)) <| Jc hcall rfl (fun hin => hg _ (List.getElem_mem h10n) _ (Hle.hu _ _)) rfl ?_)
  rintro _ _ ⟨rfl, rfl⟩
  refine Zb <| Zg rfl (fun h12 => ?_) (fun h12 => ?_)
  ·refine Zc <| Za <| JLM rfl <| JLA rfl <| Zb <| Zj <| ⟨iv ((j : Int)), [], Ret.one rfl (RV.tmp rfl), Sub.nil, ?_⟩
   exact ⟨by rw [← hinv, YE h10n, fstI, if_pos h12], rfl⟩
  refine Zm <| Za <| JLn (Pu.inc rfl rfl (by omega)) <| JLM rfl <| Zb <| ⟨_, ?_, (j + 1), rfl, rfl, rfl, rfl, rfl, Sub.nil, ?_, ?_, rfl⟩
  ·omega
  ·omega
  rw [YE h10n, fstI, if_neg (by simp [h12])] at hinv; exact hinv
 replace h10 := df h10
 have h10n : l.length ≤ j := by omega
 refine ZB _ rfl <| Zc <| Za <| JLA rfl <| Zb <| Zj <| ⟨iv (-1), [], Ret.one rfl (RV.tmp rfl), Sub.nil, ?_⟩
 exact ⟨by rw [← hinv, dropn h10n]; rfl, rfl⟩
theorem containsI_ct (g : Nat) (fs cv : List Value) (hcall : ∀ args w, (callFunc g args).run Tryz.prog w = .ok (.enter g args) w) (pr : Int → Bool) (l : List Int) (v : Value) (H : Heap) (hl : rdS RI 1 H v l) (hg : ∀ x ∈ l, ∀ h, Hle H h → CT Tryz.prog g ⟨fs ++ [iv x] ++ cv⟩ [] h (fun v N => v = .bool (pr x) ∧ N = [])) : CT Tryz.prog 23 ⟨[v, .func (.func g) ⟨fs⟩ ⟨cv⟩]⟩ [] H (fun v N => v = .bool (l.any pr) ∧ N = []) := by
 refine Zk Tryz.func23 rfl rfl <| Zc <| Za <| JLA rfl <| Zb <| Zc <| Za <| JLm v <| JLM rfl <| Jc Tryz.call56 rfl (fun hin => idxI_ct g fs cv hcall pr _ _ _ (RIs.mono (Hle.hu _ _) hl) (fun x hx h hh => hg x hx h (Hle.trans (Hle.hu _ _) hh))) rfl ?_
 rintro _ _ ⟨rfl, rfl⟩
 refine JLn (Pu.geq rfl rfl) <| JLA rfl <| Zb <| Zj <| ⟨.bool (decide (0 ≤ fstI pr l 0)), [], Ret.one rfl (RV.tmp rfl), Sub.nil, ?_⟩
 exact ⟨by rw [← fstI_any pr l 0], rfl⟩
theorem every1_ct (g : Nat) (fs cv : List Value) (hcall : ∀ args w, (callFunc g args).run Tryz.prog w = .ok (.enter g args) w) (pr : Int → Bool) (x : Int) (H : Heap) (bP : Nat) (hP : H bP = some (.cells ⟨[.func (.func g) ⟨fs⟩ ⟨cv⟩]⟩ 62 (0, 0))) (hg : ∀ h, Hle H h → CT Tryz.prog g ⟨fs ++ [iv x] ++ cv⟩ [] h (fun v N => v = .bool (pr x) ∧ N = [])) : CT Tryz.prog 122 ⟨[iv x, pp bP 0]⟩ [] H (fun v N => v = .bool (!pr x) ∧ N = []) := by
 refine Zk Tryz.func122 rfl rfl <| Zc <| Za <| JLA rfl <| Zb <| Zc <| Za <| JLr (Ze ty62 rfl (At.im hP) rfl <| JLM rfl <| Jc hcall rfl (fun hin => hg _ (Hle.hu _ _)) rfl ?_)
 rintro _ _ ⟨rfl, rfl⟩
 refine JLn (Pu.not rfl) <| JLA rfl <| Zb <| Zj <| ⟨.bool (!(pr x)), [], Ret.one rfl (RV.tmp rfl), Sub.nil, ?_⟩
 exact ⟨rfl, rfl⟩
theorem every_ct (g : Nat) (fs cv : List Value) (hcall : ∀ args w, (callFunc g args).run Tryz.prog w = .ok (.enter g args) w) (pr : Int → Bool) (l : List Int) (v : Value) (H : Heap) (hl : rdS RI 1 H v l) (hg : ∀ x ∈ l, ∀ h, Hle H h → CT Tryz.prog g ⟨fs ++ [iv x] ++ cv⟩ [] h (fun v N => v = .bool (pr x) ∧ N = [])) : CT Tryz.prog 74 ⟨[v, .func (.func g) ⟨fs⟩ ⟨cv⟩]⟩ [] H (fun v N => v = .bool (l.all pr) ∧ N = []) := by
 refine Zk Tryz.func74 rfl rfl <| Zc <| Za <| JLr (Zr (l := [.func (.func g) ⟨fs⟩ ⟨cv⟩]) rfl rfl fun b1 => JLA rfl <| Zb <| Zc <| Za <| JLm v <| JLq (.func (.func 122) ⟨[]⟩ ⟨[pp b1 0]⟩) (Pu.makeFunc rfl rfl) <| Jc Tryz.call23 rfl (fun hin => containsI_ct 122 [] [pp b1 0] Tryz.call122 (fun x => !pr x) _ _ _ (RIs.mono (Hle.hu _ _) hl) (fun x hx h hh => every1_ct g fs cv hcall pr x h b1 (hh _ _ (hin 0 _ rfl _ _ List.mem_cons_self)) (fun h2 hh2 => hg x hx h2 (Hle.trans (Hle.trans (Hle.hu _ _) hh) hh2)))) rfl ?_)
 rintro _ _ ⟨rfl, rfl⟩
 refine JLn (Pu.not rfl) <| JLA rfl <| Zb <| Zj <| ⟨.bool (!(l.any (fun x => !pr x))), [], Ret.one rfl (RV.tmp rfl), Sub.nil, ?_⟩
 exact ⟨by simp [List.not_any_eq_all_not], rfl⟩
theorem shiftO_ct (n dy fr : Int) (H : Heap) (bF bD : Nat) (hF : H bF = some (.cells ⟨[iv fr]⟩ 3 (0, 0))) (hD : H bD = some (.cells ⟨[iv dy]⟩ 3 (0, 0))) (hn0 : 0 ≤ n) (hn1 : n ≤ 60) (hd0 : -60 ≤ dy) (hd1 : dy ≤ 60) : CT Tryz.prog 75 ⟨[iv n, pp bF 0, pp bD 0]⟩ [] H (fun v N => v = .bool (mvOk dy fr n) ∧ N = []) := by
 refine Zk Tryz.func75 rfl rfl <| Zc <| Za <| JLA rfl <| Zb <| Zc <| Za <| JLM rfl <| JLr (Ze ty3 rfl (At.im hF) rfl <| JLn (Pu.lss rfl rfl) <| JLM rfl ?_)
 cases h1 : (decide (n < fr)) with
 | true =>
  replace h1 := dt h1
  iterate 6 refine YJ rfl ?_
  refine JLq (.bool true) (Pu.pickT rfl rfl) <| JLA rfl <| Zb <| Zj <| ⟨.bool true, [], Ret.one rfl (RV.tmp rfl), Sub.nil, ?_⟩
  exact ⟨by simp only [mvOk]; simp_all <;> omega, rfl⟩
 | false =>
  replace h1 := df h1
  refine JLM rfl <| JLr (Ze ty3 rfl (At.im hD) rfl <| JLn (Pu.add64 rfl rfl (by first | omega | (constructor <;> omega))) <| JLr (Ze ty3 rfl (At.im hF) rfl <| Jc Tryz.call45 rfl (fun hin => YG _ _ _ _) rfl ?_))
  rintro _ _ ⟨rfl, rfl⟩
  refine JLn (Pu.not rfl) <| JLq (.bool (!(decide (n + dy < fr ∨ 59 < n + dy)))) (Pu.pickF rfl rfl) <| JLA rfl <| Zb <| Zj <| ⟨.bool (!(decide (n + dy < fr ∨ 59 < n + dy))), [], Ret.one rfl (RV.tmp rfl), Sub.nil, ?_⟩
  exact ⟨by simp only [mvOk]; simp_all <;> omega, rfl⟩
theorem freeV_ct (n b : Int) (s : List Int) (r : Nat) (H : Heap) (bM : Nat) (hM : H bM = some (.cells ⟨[.map (some r)]⟩ 56 (0, 0))) (hn0 : 0 ≤ n) (hn1 : n ≤ 2000000) (hb0 : 0 ≤ b) (hb1 : b ≤ 2000000) : CT Tryz.prog 79 ⟨[iv n, iv b, pp bM 0]⟩ [metC r s] H (fun v N => ∃ cs k, v = .agg ⟨cs⟩ ∧ N = [k, metC r (metV n b s).2] ∧ OT (metV n b s).1 cs k) := by
 refine Zk Tryz.func79 rfl rfl <| Zc <| Za <| JLr (Zi (l := pkT 0 0 zS nS nS) Tryz.zeroValue28 rfl fun b1 => Zb <| Zc <| Za <| JLr (Ze ty56 rfl (At.im hM) rfl <| JLM rfl <| JLr (Runs_mapUpdate (i := 1) Tryz.underlying56 Tryz.underlying3 rfl rfl rfl rfl <| Zb <| Zc <| Za ?_)))
 refine JLM rfl <| JLM rfl <| Jc Tryz.call49 rfl (fun hin => stay_ct _ _ _ (by unfold inI; omega)) rfl ?_
 rintro _ _ ⟨cs2, k2, rfl, rfl, hO2⟩
 refine JLr (Zd 1 (vs := cs2) (l := cs2) Zt rfl rfl rfl rfl hO2.len hO2.ok (ZD (n := 36) rfl hO2.len) <| Zb <| Zj <| ⟨.agg ⟨cs2⟩, [k2, metC r (addK s n)], Ret.one rfl (RV.cell Zt rfl (At.bx 1 rfl) (Zu hO2.len)), (Sk (Sd (Sk Sub.nil))), ?_⟩)
 exact ⟨_, _, rfl, rfl, hO2⟩
theorem freeP_ct (t : Tm) (cs : List Value) (H : Heap) (ht : RT H cs t) (hz : sizeT t ≤ 900000) (hv : vOK t) : CT Tryz.prog 44 ⟨[.agg ⟨cs⟩]⟩ [] H (fun v N => ∃ u k, v = u ∧ N = [k] ∧ Own 3 1 u (ints (freeP t)) k) := by
 refine Zk Tryz.func44 rfl rfl <| Zc <| Za <| JLr (Zr (l := cs) rfl rfl fun b1 => JLA rfl <| Zb <| Zc <| Za <| JLr (Runs_makeMap fun r2 => JLr (Zi (l := [.map none]) Tryz.zeroValue56 rfl fun b3 => JLr (Zd 0 (vs := [.map (some r2)]) (l := [.map (some r2)]) ty56 rfl rfl rfl rfl rfl (Zf rfl Zn) rfl <| Zb <| Zc ?_))))
 refine Za <| JLq (.func (.func 79) ⟨[]⟩ ⟨[pp b3 0]⟩) (Pu.makeFunc rfl rfl) <| JLq (.agg ⟨[.func (.func 79) ⟨[]⟩ ⟨[pp b3 0]⟩, .func (.func 50) ⟨[]⟩ ⟨[]⟩]⟩) (Pu.build (pv := [(0, .func (.func 79) ⟨[]⟩ ⟨[pp b3 0]⟩), (1, .func (.func 50) ⟨[]⟩ ⟨[]⟩)]) (l := [.func (.func 79) ⟨[]⟩ ⟨[pp b3 0]⟩, .func (.func 50) ⟨[]⟩ ⟨[]⟩]) rfl (bld109_0_1 _ _ _ _ _ _)) <| JLr (Zl Zt rfl (At.bx 2 rfl) (Zu (Zv ht)) <| Zs 1 rfl Tryz.call51 rfl rfl (fun hin => mapTerm_ct 50 [] [] Tryz.call50 (fun s => s) 79 [] [pp b3 0] Tryz.call79 (List Int) (metC r2) (fun _ => True) metV (fun _ _ _ _ => trivial) _ _ _ _ _ (RT.mono (Hle.hu _ _) ht) (by omega) hv (by decide) (by omega) trivial (fun s h hh => same_ct s h) (fun n b s h hh _ h1 h2 h3 h4 => freeV_ct n b s r2 h b3 (hh _ _ (hin 0 _ rfl _ _ List.mem_cons_self)) h1 h2 h3 h4)) rfl ?_)
 rintro _ _ ⟨cs4, k4, rfl, rfl, hO4⟩
 refine Zb <| Zc <| Za <| JLA rfl <| Zb <| Zc <| Zc <| Za <| JLM rfl <| Zb <| Zq <| ZS (fun k ρ M => ∃ (j : Nat) (v : Value) (k1 : Zh), ρ 2 = nS ∧ ρ 3 = pp b3 0 ∧ ρ 4 = v ∧ ρ 11 = iv ((j : Int)) ∧ Sub [k1, metC r2 (metT t), (BX b3 [.map (some r2)] 56)] M ∧ j ≤ 60 ∧ Own 3 1 v (ints (upTo (metF (metT t)) j)) k1 ∧ k = 60 - j) _ ⟨0, nS, [], rfl, rfl, rfl, rfl, (Sub.emp (Sd (Sk (Sk Sub.nil)))), Nat.zero_le _, Own.nil, rfl⟩ ?_
 rintro _ ρ5 _ ⟨j, v, k1, e6, e7, e8, e9, hm10, hj, ho, rfl⟩
 obtain ⟨ρ11, rfl⟩ := Zo (uc e6 (uc e7 (uc e8 (uc e9 un))))
 clear e6 e7 e8 e9
 refine ZY hm10 <| Zc <| Za <| JLn (Pu.lss rfl rfl) <| Zb <| Zc <| Zg rfl (fun h12 => ?_) (fun h12 => ?_)
 ·replace h12 := dt h12
  have h12n : j < 60 := by omega
  have hul := upTo_len (metF (metT t)) j
  have hil := ints_len (upTo (metF (metT t)) j)
  have hge := metF_get (metT t) j h12n
  refine Zm <| Zc <| Zq <| Zc <| Za <| JLM rfl <| JLA rfl <| Zb <| Zc <| Za <| JLr (Ze ty56 rfl (At.bx 2 rfl) rfl <| JLM rfl <| JLr (Runs_lookup (i := 1) Tryz.underlying56 Tryz.underlying3 Tryz.zeroValue4 rfl rfl rfl ?_))
  refine Zb <| Zg rfl (fun h13 => ?_) (fun h13 => ?_)
  ·replace h13 := dt h13
   refine Za <| JLm v <| JLM rfl <| JLr (Zp (vs := [iv ((j : Int))]) [[iv ((j : Int))]] Tryz.runUnderlying49 el3 rfl rfl (by intro e he; simp only [List.mem_cons, List.not_mem_nil, or_false] at he; subst he; exact rfl) rfl (by decide) fun b14 k14 ho14 hk14 => ?_)
   have hlens15 : ∀ e ∈ ([[iv ((j : Int))]] : List (List Value)), List.length e = 1 := by
    intro e he; simp only [List.mem_cons, List.not_mem_nil, or_false] at he
    rcases he with rfl
    ·exact rfl
   have hoks15 : ∀ e ∈ ([[iv ((j : Int))]] : List (List Value)), okc e := by
    intro e he; simp only [List.mem_cons, List.not_mem_nil, or_false] at he
    rcases he with rfl
    ·exact (Zf rfl Zn)
   refine JLr (Zz (i := 1) (n := 1) (es' := [[iv ((j : Int))]]) Tryz.runUnderlying49 Tryz.runUnderlying49 (Or.inl rfl) el3 rfl rfl rfl ho (fun F w m => Src.row (((At.k 0 rfl (by rw [hk14]; exact List.mem_cons_self))).heap m) (Zu (Zx hlens15))) rfl hlens15 hoks15 (by decide) (by omega) fun v15 k15 ho15 => JLa v15 <| Zb <| Za <| JLn (Pu.inc rfl rfl (by omega)) <| JLM rfl <| Zb <| ⟨_, ?_, (j + 1), v15, k15, rfl, rfl, rfl, rfl, (Sd (Sk (Sk (Sk Sub.nil)))), ?_, ?_, rfl⟩)
   ·omega
   ·omega
   rw [upTo_succ, hge, if_pos (by simp [h13]), ints_snoc]; exact ho15
  replace h13 := df h13
  refine Zm <| Za <| JLn (Pu.inc rfl rfl (by omega)) <| JLM rfl <| Zb <| ⟨_, ?_, (j + 1), v, k1, rfl, rfl, rfl, rfl, (Sk (Sk (Sk Sub.nil))), ?_, ?_, rfl⟩
  ·omega
  ·omega
  rw [upTo_succ, hge, if_neg (by simp [h13])]; exact ho
 replace h12 := df h12
 have h12n : 60 ≤ j := by omega
 refine ZB _ rfl <| Zc <| Za <| JLm v <| JLa v <| Zb <| Zj <| ⟨v, [k1], Ret.one rfl (RV.tmp rfl), (Sk Sub.nil), ?_⟩
 obtain rfl : j = 60 := by omega
 exact ⟨v, k1, rfl, rfl, ho⟩
end Go.Proofs.YtjhenmdcnbaobaaGreat.Hs
/-! The mapper without a state. -/
namespace Go.Proofs.YtjhenmdcnbaobaaGreat.Hs
open Go Go.Proofs
set_option maxRecDepth 100000

theorem CT.nils {P : Program} {f : FuncId} {a : Array Value} {H : Heap} {t : Tm} (h : CT P f a [] H (fun v N => ∃ cs k, v = .agg ⟨cs⟩ ∧ N = [k] ∧ OT t cs k)) :
    CT P f a [[]] H (fun v N => ∃ cs k, v = .agg ⟨cs⟩ ∧ N = [k, []] ∧ OT t cs k) := fun F w m => by
  refine (h F w (by simpa using m)).mono ?_
  rintro e w' ⟨v, N, h1, h2, cs, k, h3, h4, h5⟩
  subst h4
  exact ⟨v, [k, []], h1, by simpa using h2, cs, k, h3, rfl, h5⟩
theorem CT.unnils {P : Program} {f : FuncId} {a : Array Value} {H : Heap} {t : Tm} (h : CT P f a [[]] H (fun v N => ∃ cs k, v = .agg ⟨cs⟩ ∧ N = [k, []] ∧ OT t cs k)) :
    CT P f a [] H (fun v N => ∃ cs k, v = .agg ⟨cs⟩ ∧ N = [k] ∧ OT t cs k) := fun F w m => by
  refine (h F w (by simpa using m)).mono ?_
  rintro e w' ⟨v, N, h1, h2, cs, k, h3, h4, h5⟩
  subst h4
  exact ⟨v, [k], h1, by simpa using h2, cs, k, h3, rfl, h5⟩

theorem mapTermP_ct (gr : Nat) (frs crs : List Value) (hcallr : ∀ args w, (callFunc gr args).run Tryz.prog w = .ok (.enter gr args) w) (rf : Sm → Sm) (gv : Nat) (fvs cvs : List Value) (hcallv : ∀ args w, (callFunc gv args).run Tryz.prog w = .ok (.enter gv args) w)
    (vf : Int → Int → Tm) (t : Tm) (b : Int) (cs : List Value) (H : Heap) (ht : RT H cs t) (hz : sizeT t ≤ 1000000) (hv : vOK t) (hb0 : 0 ≤ b) (hb : b + 2 * sizeT t ≤ 2000000)
    (hgr : ∀ s h, Hle H h → CT Tryz.prog gr ⟨frs ++ [.agg ⟨sC s⟩] ++ crs⟩ [] h (fun v N => v = .agg ⟨sC (rf s)⟩ ∧ N = []))
    (hgv : ∀ (n b : Int) (h : Heap), Hle H h → 0 ≤ n → n ≤ 2000000 → 0 ≤ b → b ≤ 2000000 → CT Tryz.prog gv ⟨fvs ++ [.int .i64 n, .int .i64 b] ++ cvs⟩ [] h (fun v N => ∃ cs k, v = .agg ⟨cs⟩ ∧ N = [k] ∧ OT (vf n b) cs k)) :
    CT Tryz.prog 51 ⟨[.agg ⟨[.func (.func gv) ⟨fvs⟩ ⟨cvs⟩, .func (.func gr) ⟨frs⟩ ⟨crs⟩]⟩, .agg ⟨cs⟩, .int .i64 b]⟩ [] H (fun v N => ∃ cs k, v = .agg ⟨cs⟩ ∧ N = [k] ∧ OT (mapQ rf vf b t) cs k) :=
  CT.unnils (mapTerm_ct gr frs crs hcallr rf gv fvs cvs hcallv Unit (fun _ => []) (fun _ => True) (fun n b s => (vf n b, s)) (fun _ _ _ _ => trivial) t b () cs H ht hz hv hb0 hb trivial hgr
    (fun n b _ h hh _ h1 h2 h3 h4 => CT.nils (hgv n b h hh h1 h2 h3 h4)))
end Go.Proofs.YtjhenmdcnbaobaaGreat.Hs
/-! Walks, printed by a program of this session's own (gen.py). -/
namespace Go.Proofs.YtjhenmdcnbaobaaGreat.Hs
open Go Go.Proofs
set_option maxRecDepth 100000
set_option linter.unusedVariables false
set_option linter.unusedSimpArgs false
attribute [local irreducible] JL J CT wlo DT
theorem shiftedV_ct (n b dy fr : Int) (H : Heap) (bF bD : Nat) (hF : H bF = some (.cells ⟨[iv fr]⟩ 3 (0, 0))) (hD : H bD = some (.cells ⟨[iv dy]⟩ 3 (0, 0))) (hn0 : 0 ≤ n) (hn1 : n ≤ 2000000) (hb0 : 0 ≤ b) (hb1 : b ≤ 2000000) (hd0 : -2000000 ≤ dy) (hd1 : dy ≤ 2000000) : CT Tryz.prog 80 ⟨[iv n, iv b, pp bF 0, pp bD 0]⟩ [] H (fun v N => ∃ cs k, v = .agg ⟨cs⟩ ∧ N = [k] ∧ OT (shv dy fr n b) cs k) := by
 refine Zk Tryz.func80 rfl rfl <| Zc <| Za <| JLr (Zi (l := pkT 0 0 zS nS nS) Tryz.zeroValue28 rfl fun b1 => Zb <| Zc <| Zc <| Za <| JLM rfl <| JLr (Ze ty3 rfl (At.im hF) rfl <| JLn (Pu.geq rfl rfl) <| Zb <| Zg rfl (fun h2 => ?_) (fun h2 => ?_)))
 ·replace h2 := dt h2
  refine Za <| JLM rfl <| JLr (Ze ty3 rfl (At.im hD) rfl <| JLn (Pu.add64 rfl rfl (by first | omega | (constructor <;> omega))) <| JLA rfl <| Zb <| Zc <| Za <| JLM rfl <| JLM rfl <| Jc Tryz.call49 rfl (fun hin => stay_ct _ _ _ (by unfold inI; omega)) rfl ?_)
  rintro _ _ ⟨cs3, k3, rfl, rfl, hO3⟩
  refine JLr (Zd 1 (vs := cs3) (l := cs3) Zt rfl rfl rfl rfl hO3.len hO3.ok (ZD (n := 36) rfl hO3.len) <| Zb <| Zj <| ⟨.agg ⟨cs3⟩, [k3], Ret.one rfl (RV.cell Zt rfl (At.bx 1 rfl) (Zu hO3.len)), (Sk Sub.nil), ?_⟩)
  have hx : shv dy fr n b = .mk 1 (n + dy + b) zS [] [] := by first | rfl | (simp only [shv]; (repeat' split) <;> first | rfl | (exfalso; omega))
  exact ⟨_, _, rfl, rfl, by rw [hx]; exact hO3⟩
 replace h2 := df h2
 refine Zm <| Zc <| Za <| JLM rfl <| JLM rfl <| Jc Tryz.call49 rfl (fun hin => stay_ct _ _ _ (by unfold inI; omega)) rfl ?_
 rintro _ _ ⟨cs4, k4, rfl, rfl, hO4⟩
 refine JLr (Zd 1 (vs := cs4) (l := cs4) Zt rfl rfl rfl rfl hO4.len hO4.ok (ZD (n := 36) rfl hO4.len) <| Zb <| Zj <| ⟨.agg ⟨cs4⟩, [k4], Ret.one rfl (RV.cell Zt rfl (At.bx 1 rfl) (Zu hO4.len)), (Sk Sub.nil), ?_⟩)
 have hx : shv dy fr n b = .mk 1 (n + b) zS [] [] := by first | rfl | (simp only [shv]; (repeat' split) <;> first | rfl | (exfalso; omega))
 exact ⟨_, _, rfl, rfl, by rw [hx]; exact hO4⟩
theorem shifted_ct (t : Tm) (dy fr : Int) (cs : List Value) (H : Heap) (ht : RT H cs t) (hz : sizeT t ≤ 900000) (hv : vOK t) (hd0 : -2000000 ≤ dy) (hd1 : dy ≤ 2000000) : CT Tryz.prog 48 ⟨[.agg ⟨cs⟩, iv dy, iv fr]⟩ [] H (fun v N => ∃ cs k, v = .agg ⟨cs⟩ ∧ N = [k] ∧ OT (shT dy fr t) cs k) := by
 refine Zk Tryz.func48 rfl rfl <| Zc <| Za <| JLr (Zr (l := cs) rfl rfl fun b1 => JLr (Zr (l := [iv dy]) rfl rfl fun b2 => JLr (Zr (l := [iv fr]) rfl rfl fun b3 => JLr (Zi (l := pkT 0 0 zS nS nS) Tryz.zeroValue28 rfl fun b4 => Zb <| Zc <| Za <| JLq (.func (.func 80) ⟨[]⟩ ⟨[pp b3 0, pp b2 0]⟩) (Pu.makeFunc rfl rfl) <| JLq (.agg ⟨[.func (.func 80) ⟨[]⟩ ⟨[pp b3 0, pp b2 0]⟩, .func (.func 50) ⟨[]⟩ ⟨[]⟩]⟩) (Pu.build (pv := [(0, .func (.func 80) ⟨[]⟩ ⟨[pp b3 0, pp b2 0]⟩), (1, .func (.func 50) ⟨[]⟩ ⟨[]⟩)]) (l := [.func (.func 80) ⟨[]⟩ ⟨[pp b3 0, pp b2 0]⟩, .func (.func 50) ⟨[]⟩ ⟨[]⟩]) rfl (bld109_0_1 _ _ _ _ _ _)) <| JLr (Zl Zt rfl (At.bx 3 rfl) (Zu (Zv ht)) ?_)))))
 refine Jc Tryz.call51 rfl (fun hin => mapTermP_ct 50 [] [] Tryz.call50 (fun s => s) 80 [] [pp b3 0, pp b2 0] Tryz.call80 (shv dy fr) _ _ _ _ (RT.mono (Hle.hu _ _) ht) (by omega) hv (by decide) (by omega) (fun s h hh => same_ct s h) (fun n b h hh h1 h2 h3 h4 => shiftedV_ct n b dy fr h b3 b2 (hh _ _ (hin 1 _ rfl _ _ List.mem_cons_self)) (hh _ _ (hin 2 _ rfl _ _ List.mem_cons_self)) h1 h2 h3 h4 hd0 hd1)) rfl ?_
 rintro _ _ ⟨cs5, k5, rfl, rfl, hO5⟩
 refine JLr (Zd 1 (vs := cs5) (l := cs5) Zt rfl rfl rfl rfl hO5.len hO5.ok (ZD (n := 36) rfl hO5.len) <| Zb <| Zj <| ⟨.agg ⟨cs5⟩, [k5], Ret.one rfl (RV.cell Zt rfl (At.bx 1 rfl) (Zu hO5.len)), (Sk Sub.nil), ?_⟩)
 have hx : shT dy fr t = mapQ (fun s => s) (shv dy fr) 0 t := by first | rfl | (simp only [shT]; (repeat' split) <;> first | rfl | (exfalso; omega))
 exact ⟨_, _, rfl, rfl, by rw [hx]; exact hO5⟩
theorem substV_ct (n b m : Int) (u : Tm) (us : List Value) (H : Heap) (bN bU : Nat) (hN : H bN = some (.cells ⟨[iv m]⟩ 3 (0, 0))) (hU : H bU = some (.cells ⟨us⟩ 28 (0, 0))) (hu1 : RT H us u) (hzu : sizeT u ≤ 900000) (hvu : vOK u) (hn0 : 0 ≤ n) (hn1 : n ≤ 2000000) (hb0 : 0 ≤ b) (hb1 : b ≤ 2000000) : CT Tryz.prog 47 ⟨[iv n, iv b, pp bN 0, pp bU 0]⟩ [] H (fun v N => ∃ cs k, v = .agg ⟨cs⟩ ∧ N = [k] ∧ OT (sbv m u n b) cs k) := by
 refine Zk Tryz.func47 rfl rfl <| Zc <| Za <| JLr (Zi (l := pkT 0 0 zS nS nS) Tryz.zeroValue28 rfl fun b1 => Zb <| Zc <| Zq <| Zc <| Za <| JLM rfl <| JLr (Ze ty3 rfl (At.im hN) rfl <| JLn (Pu.eql rfl rfl) <| JLA rfl ?_))
 refine Zb <| Zg rfl (fun h2 => ?_) (fun h2 => ?_)
 ·replace h2 := dt h2
  refine Zc <| Za <| JLr (Zl Zt rfl (At.im hU) (Zu (Zv hu1)) <| JLM rfl <| Jc Tryz.call48 rfl (fun hin => shifted_ct _ _ _ _ _ (RT.mono (Hle.hu _ _) hu1) hzu hvu (by omega) (by omega)) rfl ?_)
  rintro _ _ ⟨cs3, k3, rfl, rfl, hO3⟩
  refine JLr (Zd 1 (vs := cs3) (l := cs3) Zt rfl rfl rfl rfl hO3.len hO3.ok (ZD (n := 36) rfl hO3.len) <| Zb <| Zj <| ⟨.agg ⟨cs3⟩, [k3], Ret.one rfl (RV.cell Zt rfl (At.bx 1 rfl) (Zu hO3.len)), (Sk Sub.nil), ?_⟩)
  have hx : sbv m u n b = shT b 0 u := by first | rfl | (simp only [sbv]; (repeat' split) <;> first | rfl | (exfalso; omega))
  exact ⟨_, _, rfl, rfl, by rw [hx]; exact hO3⟩
 replace h2 := df h2
 refine Zc <| Za <| JLM rfl <| JLr (Ze ty3 rfl (At.im hN) rfl <| JLn (Pu.gtr rfl rfl) <| JLA rfl <| Zb <| Zg rfl (fun h4 => ?_) (fun h4 => ?_))
 ·replace h4 := dt h4
  refine Za <| JLM rfl <| JLn (Pu.sub64 rfl rfl (by first | omega | (constructor <;> omega))) <| JLA rfl <| Zb <| Zc <| Za <| JLM rfl <| JLM rfl <| Jc Tryz.call49 rfl (fun hin => stay_ct _ _ _ (by unfold inI; omega)) rfl ?_
  rintro _ _ ⟨cs5, k5, rfl, rfl, hO5⟩
  refine JLr (Zd 1 (vs := cs5) (l := cs5) Zt rfl rfl rfl rfl hO5.len hO5.ok (ZD (n := 36) rfl hO5.len) <| Zb <| Zj <| ⟨.agg ⟨cs5⟩, [k5], Ret.one rfl (RV.cell Zt rfl (At.bx 1 rfl) (Zu hO5.len)), (Sk Sub.nil), ?_⟩)
  have hx : sbv m u n b = .mk 1 (n - 1 + b) zS [] [] := by first | rfl | (simp only [sbv]; (repeat' split) <;> first | rfl | (exfalso; omega))
  exact ⟨_, _, rfl, rfl, by rw [hx]; exact hO5⟩
 replace h4 := df h4
 refine Zm <| Zc <| Za <| JLM rfl <| JLM rfl <| Jc Tryz.call49 rfl (fun hin => stay_ct _ _ _ (by unfold inI; omega)) rfl ?_
 rintro _ _ ⟨cs6, k6, rfl, rfl, hO6⟩
 refine JLr (Zd 1 (vs := cs6) (l := cs6) Zt rfl rfl rfl rfl hO6.len hO6.ok (ZD (n := 36) rfl hO6.len) <| Zb <| Zj <| ⟨.agg ⟨cs6⟩, [k6], Ret.one rfl (RV.cell Zt rfl (At.bx 1 rfl) (Zu hO6.len)), (Sk Sub.nil), ?_⟩)
 have hx : sbv m u n b = .mk 1 (n + b) zS [] [] := by first | rfl | (simp only [sbv]; (repeat' split) <;> first | rfl | (exfalso; omega))
 exact ⟨_, _, rfl, rfl, by rw [hx]; exact hO6⟩
theorem short_ct (t : Tm) (cs : List Value) (H : Heap) (ht : RT H cs t) : CT Tryz.prog 46 ⟨[.agg ⟨cs⟩]⟩ [] H (fun v N => v = .tuple ⟨[.agg ⟨if Xi t = true then pkT 0 0 zS nS nS else cs⟩, iv (if Xi t = true then 11 else 0)]⟩ ∧ N = []) := by
 refine Zk Tryz.func46 rfl rfl <| Zc <| Za <| JLr (Zr (l := cs) rfl rfl fun b1 => JLr (Zi (l := pkT 0 0 zS nS nS) Tryz.zeroValue28 rfl fun b2 => JLA rfl <| Zb <| Zc <| Zc <| Za <| JLq (.agg ⟨[iv 0]⟩) (Pu.build (pv := []) (l := [iv 0]) rfl bld77_) <| JLr (Zr (l := [iv 0]) rfl rfl fun b3 => JLr (Zl Zt rfl (At.bx 2 rfl) (Zu (Zv ht)) ?_))))
 refine Zs 0 rfl Tryz.call58 rfl rfl (fun hin => longT_ct _ _ _ _ _ _ (RT.mono (Hle.hu _ _) ht) (by omega) (by omega) (by omega) (by omega)) rfl ?_
 rintro _ _ ⟨rfl, rfl⟩
 refine Zb <| Zg rfl (fun h5 => ?_) (fun h5 => ?_)
 ·refine Zc <| Za <| JLq (.agg ⟨pkT 0 0 zS nS nS⟩) (Pu.build (pv := []) (l := pkT 0 0 zS nS nS) rfl (bld28_ )) <| JLr (Zd 1 (vs := pkT 0 0 zS nS nS) (l := pkT 0 0 zS nS nS) Zt rfl rfl rfl rfl rfl (ZC rfl rfl) (Z4 ..) <| JLA rfl <| Zb <| Zj <| ⟨.tuple ⟨[.agg ⟨pkT 0 0 zS nS nS⟩, iv 11]⟩, [], Ret.two rfl (RV.cell Zt rfl (At.bx 1 rfl) (Z0 ..)) (RV.tmp rfl), Sub.nil, ?_⟩)
  rw [long_eq] at h5
  exact ⟨by simp [h5], rfl⟩
 refine Zm <| Zc <| Za <| JLr (Zl Zt rfl (At.bx 2 rfl) (Zu (Zv ht)) <| JLr (Zd 1 (vs := cs) (l := cs) Zt rfl rfl rfl rfl (Zv ht) (RT_ok ht) (ZD (n := 36) rfl (Zv ht)) <| JLA rfl <| Zb <| Zj <| ⟨.tuple ⟨[.agg ⟨cs⟩, iv 0]⟩, [], Ret.two rfl (RV.cell Zt rfl (At.bx 1 rfl) (Zu (Zv ht))) (RV.tmp rfl), Sub.nil, ?_⟩))
 rw [long_eq] at h5
 exact ⟨by simp [h5], rfl⟩
end Go.Proofs.YtjhenmdcnbaobaaGreat.Hs
/-! Walks, printed by a program of this session's own (gen.py). -/
namespace Go.Proofs.YtjhenmdcnbaobaaGreat.Hs
open Go Go.Proofs
set_option maxRecDepth 100000
set_option linter.unusedVariables false
set_option linter.unusedSimpArgs false
attribute [local irreducible] JL J CT wlo DT
theorem shiftP_ct (t : Tm) (dy fr : Int) (cs : List Value) (H : Heap) (ht : RT H cs t) : CT Tryz.prog 40 ⟨[.agg ⟨cs⟩, iv dy, iv fr]⟩ [] H (fun v N => ∃ cs k, v = .tuple ⟨[.agg ⟨cs⟩, iv (shiftP t dy fr).2]⟩ ∧ N = [k] ∧ OT (shiftP t dy fr).1 cs k) := by
 refine Zk Tryz.func40 rfl rfl <| Zc <| Za <| JLr (Zr (l := cs) rfl rfl fun b1 => JLr (Zr (l := [iv dy]) rfl rfl fun b2 => JLr (Zr (l := [iv fr]) rfl rfl fun b3 => JLr (Zi (l := pkT 0 0 zS nS nS) Tryz.zeroValue28 rfl fun b4 => JLA rfl <| Zb <| Zc <| Zc <| Za <| JLr (Zl Zt rfl (At.bx 3 rfl) (Zu (Zv ht)) ?_)))))
 refine JLr (Zp (vs := [.agg ⟨cs⟩]) [cs] Tryz.runUnderlying25 el28 rfl rfl (by intro e he; simp only [List.mem_cons, List.not_mem_nil, or_false] at he; subst he; exact (Zv ht)) rfl (by decide) fun b5 k5 ho5 hk5 => Jc Tryz.call30 rfl (fun hin => right_ct _ _ _ (Own.rd1 ho5 (hin 0 _ rfl) (RT.mono (Hle.hu _ _) ht))) rfl ?_)
 rintro _ _ ⟨rfl, rfl⟩
 refine JLA rfl <| Zb <| Zc <| Za <| JLM rfl <| JLn (Pu.neq rfl rfl) <| Zb <| Zg rfl (fun h6 => ?_) (fun h6 => ?_)
 ·replace h6 := nt h6
  replace h6 := df h6
  refine Zc <| Za <| JLq (.agg ⟨pkT 0 0 zS nS nS⟩) (Pu.build (pv := []) (l := pkT 0 0 zS nS nS) rfl (bld28_ )) <| JLM rfl <| JLr (Zd 1 (vs := pkT 0 0 zS nS nS) (l := pkT 0 0 zS nS nS) Zt rfl rfl rfl rfl rfl (ZC rfl rfl) (Z4 ..) <| JLA rfl <| Zb <| Zj <| ⟨.tuple ⟨[.agg ⟨pkT 0 0 zS nS nS⟩, iv (ZP [t])]⟩, [[]], Ret.two rfl (RV.cell Zt rfl (At.bx 1 rfl) (Z0 ..)) (RV.tmp rfl), (Sub.emp Sub.nil), ?_⟩)
  have hx : shiftP t dy fr = (zT, ZP [t]) := by simp only [shiftP]; (repeat' split) <;> first | rfl | (exfalso; simp_all; done) | (exfalso; simp_all; omega)
  exact ⟨_, _, by rw [hx], rfl, by rw [hx]; exact OT_zero⟩
 replace h6 := nf h6
 replace h6 := dt h6
 refine Zm <| Zc <| Zc <| Za <| JLr (Ze ty3 rfl (At.bx 3 rfl) rfl <| Jc Tryz.call45 rfl (fun hin => YG _ _ _ _) rfl ?_)
 rintro _ _ ⟨rfl, rfl⟩
 refine JLM rfl <| ZA 2 [19, 20] [(20, cond (decide (dy < -60 ∨ 60 < dy)) undef (.bool (decide (fr < 0 ∨ 60 < fr))))] ?_ fun f8 => ?_
 ·cases h7 : (decide (dy < -60 ∨ 60 < dy)) with
  | false =>
   replace h7 := df h7
   refine JLr (Ze ty3 rfl (At.bx 2 rfl) rfl <| Jc Tryz.call45 rfl (fun hin => YG _ _ _ _) rfl ?_)
   rintro _ _ ⟨rfl, rfl⟩
   exact Zb ⟨⟨rfl, trivial⟩, rfl⟩
  | true =>
   exact ZL rfl ⟨rfl, trivial⟩
 refine JLn (Pu.pickOr rfl rfl rfl) <| Zb <| Zg rfl (fun h9 => ?_) (fun h9 => ?_)
 ·refine Zc <| Za <| JLq (.agg ⟨pkT 0 0 zS nS nS⟩) (Pu.build (pv := []) (l := pkT 0 0 zS nS nS) rfl (bld28_ )) <| JLr (Zd 1 (vs := pkT 0 0 zS nS nS) (l := pkT 0 0 zS nS nS) Zt rfl rfl rfl rfl rfl (ZC rfl rfl) (Z4 ..) <| JLA rfl <| Zb <| Zj <| ⟨.tuple ⟨[.agg ⟨pkT 0 0 zS nS nS⟩, iv 3]⟩, [[]], Ret.two rfl (RV.cell Zt rfl (At.bx 1 rfl) (Z0 ..)) (RV.tmp rfl), (Sub.emp Sub.nil), ?_⟩)
  have hx : shiftP t dy fr = (zT, 3) := by simp only [shiftP]; (repeat' split) <;> first | rfl | (exfalso; simp_all; done) | (exfalso; simp_all; omega)
  exact ⟨_, _, by rw [hx], rfl, by rw [hx]; exact OT_zero⟩
 obtain ⟨h9a, h9b⟩ := orF h9
 replace h9a := df h9a
 replace h9b := df h9b
 refine Zm <| Zc <| Zc <| Za <| JLr (Zl Zt rfl (At.bx 4 rfl) (Zu (Zv ht)) <| Jc Tryz.call44 rfl (fun hin => freeP_ct _ _ _ (RT.mono (Hle.hu _ _) ht) (by have := (Yo (rightT1 ‹ZP [t] = 0›)).1; omega) (Yo (rightT1 ‹ZP [t] = 0›)).2.1) rfl ?_)
 rintro u10 _ ⟨_, k10, hu10, rfl, ho10⟩; subst hu10
 refine JLq (.func (.func 75) ⟨[]⟩ ⟨[pp b3 0, pp b2 0]⟩) (Pu.makeFunc rfl rfl) <| Jc Tryz.call74 rfl (fun hin => every_ct 75 [] [pp b3 0, pp b2 0] Tryz.call75 (mvOk dy fr) _ _ _ (own_ints ho10 (by have := freeP_len t; omega) (hin 0 _ rfl)) (fun x hx h hh => shiftO_ct x dy fr h b3 b2 (hh _ _ (hin 3 _ rfl _ _ List.mem_cons_self)) (hh _ _ (hin 4 _ rfl _ _ List.mem_cons_self)) (freeP_bound t x hx).1 (by have := (freeP_bound t x hx).2; omega) (by omega) (by omega))) rfl ?_
 rintro _ _ ⟨rfl, rfl⟩
 refine JLn (Pu.not rfl) <| Zb <| Zg rfl (fun h11 => ?_) (fun h11 => ?_)
 ·replace h11 := nt h11
  refine Zc <| Za <| JLq (.agg ⟨pkT 0 0 zS nS nS⟩) (Pu.build (pv := []) (l := pkT 0 0 zS nS nS) rfl (bld28_ )) <| JLr (Zd 2 (vs := pkT 0 0 zS nS nS) (l := pkT 0 0 zS nS nS) Zt rfl rfl rfl rfl rfl (ZC rfl rfl) (Z4 ..) <| JLA rfl <| Zb <| Zj <| ⟨.tuple ⟨[.agg ⟨pkT 0 0 zS nS nS⟩, iv 1]⟩, [[]], Ret.two rfl (RV.cell Zt rfl (At.bx 2 rfl) (Z0 ..)) (RV.tmp rfl), (Sub.emp Sub.nil), ?_⟩)
  have hx : shiftP t dy fr = (zT, 1) := by simp only [shiftP]; (repeat' split) <;> first | rfl | (exfalso; simp_all; done) | (exfalso; simp_all; omega)
  exact ⟨_, _, by rw [hx], rfl, by rw [hx]; exact OT_zero⟩
 replace h11 := nf h11
 refine Zm <| Zc <| Za <| JLr (Zl Zt rfl (At.bx 5 rfl) (Zu (Zv ht)) <| JLr (Ze ty3 rfl (At.bx 4 rfl) rfl <| JLr (Ze ty3 rfl (At.bx 3 rfl) rfl <| Jc Tryz.call48 rfl (fun hin => shifted_ct _ _ _ _ _ (RT.mono (Hle.hu _ _) ht) (by have := (Yo (rightT1 ‹ZP [t] = 0›)).1; omega) (Yo (rightT1 ‹ZP [t] = 0›)).2.1 (by omega) (by omega)) rfl ?_)))
 rintro _ _ ⟨cs12, k12, rfl, rfl, hO12⟩
 refine JLr (Zd 3 (vs := cs12) (l := cs12) Zt rfl rfl rfl rfl hO12.len hO12.ok (ZD (n := 36) rfl hO12.len) <| JLA rfl <| Zb <| Zj <| ⟨.tuple ⟨[.agg ⟨cs12⟩, iv 0]⟩, [k12], Ret.two rfl (RV.cell Zt rfl (At.bx 3 rfl) (Zu hO12.len)) (RV.tmp rfl), (Sk Sub.nil), ?_⟩)
 have hx : shiftP t dy fr = (shT dy fr t, 0) := by simp only [shiftP]; (repeat' split) <;> first | rfl | (exfalso; simp_all; done) | (exfalso; simp_all; omega)
 exact ⟨_, _, by rw [hx], rfl, by rw [hx]; exact hO12⟩
theorem freeE_ct (t : Tm) (cs : List Value) (H : Heap) (ht : RT H cs t) : CT Tryz.prog 14 ⟨[.agg ⟨cs⟩]⟩ [] H (fun v N => ∃ u e k, v = .tuple ⟨[u, iv e]⟩ ∧ N = [k] ∧ Own 3 1 u (ints (freeE t).1) k ∧ e = (freeE t).2) := by
 refine Zk Tryz.func14 rfl rfl <| Zc <| Za <| JLr (Zr (l := cs) rfl rfl fun b1 => JLA rfl <| JLA rfl <| Zb <| Zc <| Zc <| Za <| JLr (Zl Zt rfl (At.bx 0 rfl) (Zu (Zv ht)) <| JLr (Zp (vs := [.agg ⟨cs⟩]) [cs] Tryz.runUnderlying25 el28 rfl rfl (by intro e he; simp only [List.mem_cons, List.not_mem_nil, or_false] at he; subst he; exact (Zv ht)) rfl (by decide) fun b2 k2 ho2 hk2 => Jc Tryz.call30 rfl (fun hin => right_ct _ _ _ (Own.rd1 ho2 (hin 0 _ rfl) (RT.mono (Hle.hu _ _) ht))) rfl ?_)))
 rintro _ _ ⟨rfl, rfl⟩
 refine JLA rfl <| Zb <| Zc <| Za <| JLM rfl <| JLn (Pu.neq rfl rfl) <| Zb <| Zg rfl (fun h3 => ?_) (fun h3 => ?_)
 ·replace h3 := nt h3
  replace h3 := df h3
  refine Zc <| Za <| JLM rfl <| JLA rfl <| JLA rfl <| Zb <| Zj <| ⟨.tuple ⟨[nS, iv (ZP [t])]⟩, [[]], Ret.two rfl (RV.tmp rfl) (RV.tmp rfl), (Sub.emp Sub.nil), ?_⟩
  have hx : freeE t = ([], ZP [t]) := by rw [freeE, if_neg (by assumption)]
  exact ⟨_, _, _, rfl, rfl, by rw [hx]; exact Own.nil, by rw [hx]⟩
 replace h3 := nf h3
 replace h3 := dt h3
 refine Zm <| Zc <| Za <| JLr (Zl Zt rfl (At.bx 1 rfl) (Zu (Zv ht)) <| Jc Tryz.call44 rfl (fun hin => freeP_ct _ _ _ (RT.mono (Hle.hu _ _) ht) (by have := (Yo (rightT1 ‹ZP [t] = 0›)).1; omega) (Yo (rightT1 ‹ZP [t] = 0›)).2.1) rfl ?_)
 rintro u4 _ ⟨_, k4, hu4, rfl, ho4⟩; subst hu4
 refine JLa u4 <| JLA rfl <| Zb <| Zj <| ⟨.tuple ⟨[u4, iv 0]⟩, [k4], Ret.two rfl (RV.tmp rfl) (RV.tmp rfl), (Sk Sub.nil), ?_⟩
 have hx : freeE t = (freeP t, 0) := by rw [freeE, if_pos (by assumption)]
 exact ⟨_, _, _, rfl, rfl, by rw [hx]; exact ho4, by rw [hx]⟩
theorem substP_ct (t : Tm) (m : Int) (u : Tm) (cs us : List Value) (H : Heap) (ht : RT H cs t) (hu1 : RT H us u) : CT Tryz.prog 15 ⟨[.agg ⟨cs⟩, iv m, .agg ⟨us⟩]⟩ [] H (fun v N => ∃ cs k, v = .tuple ⟨[.agg ⟨cs⟩, iv (substP t m u).2]⟩ ∧ N = [k] ∧ OT (substP t m u).1 cs k) := by
 refine Zk Tryz.func15 rfl rfl <| Zc <| Za <| JLr (Zr (l := cs) rfl rfl fun b1 => JLr (Zr (l := [iv m]) rfl rfl fun b2 => JLr (Zr (l := us) rfl rfl fun b3 => JLr (Zi (l := pkT 0 0 zS nS nS) Tryz.zeroValue28 rfl fun b4 => JLA rfl <| Zb <| Zc <| Zc <| Za <| JLr (Zl Zt rfl (At.bx 3 rfl) (Zu (Zv ht)) ?_)))))
 refine JLr (Zl Zt rfl (At.bx 1 rfl) (Zu (Zv hu1)) <| JLr (Zp (vs := [.agg ⟨cs⟩, .agg ⟨us⟩]) [cs, us] Tryz.runUnderlying25 el28 rfl rfl (by intro e he; simp only [List.mem_cons, List.not_mem_nil, or_false] at he; rcases he with rfl | rfl <;> first | exact (Zv ht) | exact (Zv hu1)) rfl (by decide) fun b5 k5 ho5 hk5 => Jc Tryz.call30 rfl (fun hin => right_ct _ _ _ (Own.rd2 ho5 (hin 0 _ rfl) (RT.mono (Hle.hu _ _) ht) (RT.mono (Hle.hu _ _) hu1))) rfl ?_))
 rintro _ _ ⟨rfl, rfl⟩
 refine JLA rfl <| Zb <| Zc <| Za <| JLM rfl <| JLn (Pu.neq rfl rfl) <| Zb <| Zg rfl (fun h6 => ?_) (fun h6 => ?_)
 ·replace h6 := nt h6
  replace h6 := df h6
  refine Zc <| Za <| JLq (.agg ⟨pkT 0 0 zS nS nS⟩) (Pu.build (pv := []) (l := pkT 0 0 zS nS nS) rfl (bld28_ )) <| JLM rfl <| JLr (Zd 1 (vs := pkT 0 0 zS nS nS) (l := pkT 0 0 zS nS nS) Zt rfl rfl rfl rfl rfl (ZC rfl rfl) (Z4 ..) <| JLA rfl <| Zb <| Zj <| ⟨.tuple ⟨[.agg ⟨pkT 0 0 zS nS nS⟩, iv (ZP [t, u])]⟩, [[]], Ret.two rfl (RV.cell Zt rfl (At.bx 1 rfl) (Z0 ..)) (RV.tmp rfl), (Sub.emp Sub.nil), ?_⟩)
  have hx : substP t m u = (zT, ZP [t, u]) := by simp only [substP]; (repeat' split) <;> first | rfl | (exfalso; simp_all; done) | (exfalso; simp_all; omega)
  exact ⟨_, _, by rw [hx], rfl, by rw [hx]; exact OT_zero⟩
 replace h6 := nf h6
 replace h6 := dt h6
 refine Zm <| Zc <| Zc <| Za <| JLr (Ze ty3 rfl (At.bx 3 rfl) rfl <| Jc Tryz.call45 rfl (fun hin => YG _ _ _ _) rfl ?_)
 rintro _ _ ⟨rfl, rfl⟩
 refine Zb <| Zg rfl (fun h7 => ?_) (fun h7 => ?_)
 ·replace h7 := dt h7
  refine Zc <| Za <| JLq (.agg ⟨pkT 0 0 zS nS nS⟩) (Pu.build (pv := []) (l := pkT 0 0 zS nS nS) rfl (bld28_ )) <| JLr (Zd 1 (vs := pkT 0 0 zS nS nS) (l := pkT 0 0 zS nS nS) Zt rfl rfl rfl rfl rfl (ZC rfl rfl) (Z4 ..) <| JLA rfl <| Zb <| Zj <| ⟨.tuple ⟨[.agg ⟨pkT 0 0 zS nS nS⟩, iv 3]⟩, [[]], Ret.two rfl (RV.cell Zt rfl (At.bx 1 rfl) (Z0 ..)) (RV.tmp rfl), (Sub.emp Sub.nil), ?_⟩)
  have hx : substP t m u = (zT, 3) := by simp only [substP]; (repeat' split) <;> first | rfl | (exfalso; simp_all; done) | (exfalso; simp_all; omega)
  exact ⟨_, _, by rw [hx], rfl, by rw [hx]; exact OT_zero⟩
 replace h7 := df h7
 refine Zm <| Zc <| Za <| JLq (.func (.func 47) ⟨[]⟩ ⟨[pp b2 0, pp b3 0]⟩) (Pu.makeFunc rfl rfl) <| JLq (.agg ⟨[.func (.func 47) ⟨[]⟩ ⟨[pp b2 0, pp b3 0]⟩, .func (.func 50) ⟨[]⟩ ⟨[]⟩]⟩) (Pu.build (pv := [(0, .func (.func 47) ⟨[]⟩ ⟨[pp b2 0, pp b3 0]⟩), (1, .func (.func 50) ⟨[]⟩ ⟨[]⟩)]) (l := [.func (.func 47) ⟨[]⟩ ⟨[pp b2 0, pp b3 0]⟩, .func (.func 50) ⟨[]⟩ ⟨[]⟩]) rfl (bld109_0_1 _ _ _ _ _ _)) <| JLr (Zl Zt rfl (At.bx 4 rfl) (Zu (Zv ht)) <| Jc Tryz.call51 rfl (fun hin => mapTermP_ct 50 [] [] Tryz.call50 (fun s => s) 47 [] [pp b2 0, pp b3 0] Tryz.call47 (sbv m u) _ _ _ _ (RT.mono (Hle.hu _ _) ht) (by have := (Yo (rightT2 ‹ZP [t, u] = 0›).1).1; omega) (Yo (rightT2 ‹ZP [t, u] = 0›).1).2.1 (by decide) (by have := (Yo (rightT2 ‹ZP [t, u] = 0›).1).1; omega) (fun s h hh => same_ct s h) (fun n b h hh h1 h2 h3 h4 => substV_ct n b m u _ h b2 b3 (hh _ _ (hin 3 _ rfl _ _ List.mem_cons_self)) (hh _ _ (hin 2 _ rfl _ _ List.mem_cons_self)) (RT.mono (Hle.trans (Hle.hu _ _) hh) hu1) (by have := (Yo (rightT2 ‹ZP [t, u] = 0›).2).1; omega) (Yo (rightT2 ‹ZP [t, u] = 0›).2).2.1 h1 h2 h3 h4)) rfl ?_)
 rintro _ _ ⟨cs8, k8, rfl, rfl, hO8⟩
 refine Jc Tryz.call46 rfl (fun hin => short_ct _ _ _ (hO8.rd (hin 0 _ rfl))) rfl ?_
 rintro _ _ ⟨rfl, rfl⟩
 refine JLn (Pu.extract rfl rfl) <| JLn (Pu.extract rfl rfl) <| JLr (Zd 2 (vs := (if Xi (mapQ (fun s => s) (sbv m u) 0 t) = true then pkT 0 0 zS nS nS else cs8)) (l := (if Xi (mapQ (fun s => s) (sbv m u) 0 t) = true then pkT 0 0 zS nS nS else cs8)) Zt rfl rfl rfl rfl (len_ite (n := 36) rfl hO8.len) (okc_ite (ZC rfl rfl) hO8.ok) (ZD (n := 36) rfl (len_ite (n := 36) rfl hO8.len)) <| JLA rfl <| Zb <| Zj ?_)
 by_cases hL : Xi (mapQ (fun s => s) (sbv m u) 0 t) = true
 ·refine ⟨.tuple ⟨[.agg ⟨(if Xi (mapQ (fun s => s) (sbv m u) 0 t) = true then pkT 0 0 zS nS nS else cs8)⟩, iv ((if Xi (mapQ (fun s => s) (sbv m u) 0 t) = true then 11 else 0))]⟩, [[]], Ret.two rfl (RV.cell Zt rfl (At.bx 2 rfl) (Zu (len_ite (n := 36) rfl hO8.len))) (RV.tmp rfl), (Sub.emp Sub.nil), ?_⟩
  have hx : substP t m u = (zT, 11) := by rw [substP, if_pos (by assumption), if_neg (by omega), if_pos (show Xi (sbT m u t) = true from hL)]
  exact ⟨_, _, by rw [if_pos hL, if_pos hL, hx], rfl, by rw [hx]; exact OT_zero⟩
 refine ⟨.tuple ⟨[.agg ⟨(if Xi (mapQ (fun s => s) (sbv m u) 0 t) = true then pkT 0 0 zS nS nS else cs8)⟩, iv ((if Xi (mapQ (fun s => s) (sbv m u) 0 t) = true then 11 else 0))]⟩, [k8], Ret.two rfl (RV.cell Zt rfl (At.bx 2 rfl) (Zu (len_ite (n := 36) rfl hO8.len))) (RV.tmp rfl), (Sk Sub.nil), ?_⟩
 have hx : substP t m u = (mapQ (fun s => s) (sbv m u) 0 t, 0) := by rw [substP, if_pos (by assumption), if_neg (by omega), if_neg (show ¬ Xi (sbT m u t) = true from hL)]; rfl
 exact ⟨_, _, by rw [if_neg hL, if_neg hL, hx], rfl, by rw [hx]; exact hO8⟩
end Go.Proofs.YtjhenmdcnbaobaaGreat.Hs
