import Derived.Test.YtmophpgiaiemhaaGreatNamedh
import Derived.Laws.RangeString
/-! Strings: rows of them, ranges over them, names of one letter. -/
namespace Go.Proofs.YtmophpgiaiemhaaGreat.Hs
open Go
/-- the name of one letter -/
def ltr (i : Nat) : ByteArray := ⟨#[UInt8.ofNat (97 + i)]⟩
def ZP (l : List ByteArray) : List (List Value) := l.map fun n => [.string n]
theorem ZW (l : List ByteArray) : (ZP l).length = l.length := by simp [ZP]
theorem strs_snoc (l : List ByteArray) (n : ByteArray) : ZP (l ++ [n]) = ZP l ++ [[.string n]] := by simp [ZP]
theorem strs_app (l m : List ByteArray) : ZP (l ++ m) = ZP l ++ ZP m := by simp [ZP]
theorem strs_get (l : List ByteArray) (j : Nat) (h : j < l.length) : (ZP l)[j]'(by rw [ZW]; exact h) = [.string l[j]] := by simp [ZP]
theorem strs_len1 (l : List ByteArray) : ∀ e ∈ ZP l, e.length = 1 := by
  intro e he; obtain ⟨n, _, rfl⟩ := List.mem_map.1 he; rfl
theorem strs_ok (l : List ByteArray) : ∀ e ∈ ZP l, okc e := by
  intro e he; obtain ⟨n, _, rfl⟩ := List.mem_map.1 he; exact Zm rfl Zv
def RS (_ : Heap) (cs : List Value) (n : ByteArray) : Prop := cs = [.string n]
theorem RSs.mono {h h' : Heap} (hh : Hle h h') {v : Value} {l : List ByteArray} (q : Hs.rdS RS 1 h v l) : Hs.rdS RS 1 h' v l := rdS.mono q hh fun _ _ _ e => e
theorem Yj {T : TypeId} {v : Value} {l : List ByteArray} {k : Zk} {h : Heap} (o : Own T 1 v (ZP l) k) (hn : l.length ≤ 9223372036854775807) (hk : Has k h) : Hs.rdS RS 1 h v l :=
  o.rdS (ZW l).symm hn hk fun i _ h2 => strs_get l i h2
theorem rdS.none {α : Type} {E : Heap → List Value → α → Prop} {sz : Nat} {h : Heap} {a : Option Addr} {cap : Nat} : Hs.rdS E sz h (.slice a 0 cap) [] := ⟨a, cap, rfl, by simp, .inl rfl⟩
/-- What a row of strings gives to append. -/
theorem strs_src {P : Program} {H : Heap} {v : Value} {l : List ByteArray} (h : Hs.rdS RS 1 H v l) : ∀ w L, Mem w L H → Src P 1 w v l.length (ZP l).flatten := by
  obtain ⟨es, e1, e2, e3, e4⟩ := rdS.src (P := P) h
  have : es = ZP l := by
    apply List.ext_getElem
    · rw [e1, ZW]
    · intro i h1 h2
      have := e2 i h1 (by omega)
      rw [strs_get l i (by omega)]; exact this
  subst this
  intro w L m
  exact e4 w L H (Hle.refl _) m
theorem own_src {P : Program} {H : Heap} {T : TypeId} {v : Value} {l : List ByteArray} {k : Zk} {M : List Zk} {i : Nat} (o : Own T 1 v (ZP l) k) (hi : M[i]? = some k) : ∀ F w, Mem w (M.flatten ++ F) H → Src P 1 w v l.length (ZP l).flatten := by
  intro F w m
  rcases o.2 with ⟨e, e2, e3⟩ | ⟨b, cap, sp, e, e2, e3, e4⟩
  · have : l = [] := by have := ZW l; rw [e2] at this; exact List.eq_nil_of_length_eq_zero this.symm
    subst this
    rw [e]; exact Src.nil
  · subst e
    have hb : w.heap[b]? = some (.cells ⟨(ZP l).flatten ++ sp⟩ T (0, 0)) := (At.k (M := M) (H := H) i hi (by rw [e2]; simp)).heap m
    have := Src.row (P := P) (cap := cap) (n := l.length) hb (by have := sub_flat (sp := sp) o.1; rwa [ZW] at this)
    rw [ZW]; exact this

/-- the place of a string in a row -/
def YL (x : ByteArray) : List ByteArray → Nat → Int
  | [], _ => -1
  | y :: l, i => if x = y then (i : Int) else YL x l (i + 1)
theorem fstS_mem (x : ByteArray) (l : List ByteArray) : ∀ i, decide (0 ≤ YL x l i) = l.any (fun y => decide (x = y)) := by
  induction l with
  | nil => intro i; simp [YL]
  | cons y l ih =>
    intro i
    rw [YL]
    by_cases h : x = y
    · rw [if_pos h, List.any_cons, decide_eq_true h]; simp
    · rw [if_neg h, ih, List.any_cons, decide_eq_false h]; rfl
/-- the place of a bool in a row -/
def fstB (x : Bool) : List Bool → Nat → Int
  | [], _ => -1
  | y :: l, i => if x = y then (i : Int) else fstB x l (i + 1)

def itC (r : Nat) (s : ByteArray) (p : Nat) : Zk := [(r, .stringIter s p)]
section
variable {c : Cx} {H : Heap} {ρ : Nat → Value} {M : List Zk} {K : Value → List Zk → Prop} {d : Option Nat} {ot : TypeId} {pos : String} {af : Array Edge} {g : Option (Nat × Bool)} {x y z : Operand}
theorem Runs_rangeS {T : TypeId} {s : ByteArray} (hT : c.P.underlying T = some .string) (hx : ev c.n ρ x = .string s) (h : ∀ r, K (.pointer (some ⟨r, 0, none⟩)) (itC r s 0 :: M)) : Runs c H ⟨d, .range T x, ot, pos, af, g⟩ ρ M K := fun F w m => by
  refine ⟨.pointer (some ⟨w.heap.size, 0, none⟩), { w with heap := w.heap.push (.stringIter s 0) }, [(w.heap.size, .stringIter s 0)] :: M, .inl ?_, m.push (w' := { w with heap := w.heap.push (.stringIter s 0) }) rfl, h _⟩
  simp [execOp, Instr.range, hx, run_underlying hT, Result.andThen]
theorem Runs_nextA {i r p : Nat} {s : ByteArray} (hx : ev c.n ρ x = .pointer (some ⟨r, 0, none⟩)) (hi : M[i]? = some (itC r s p)) (hp : p < s.size) (ha : (s[p]'hp).toNat < 128)
    (h : K (.tuple ⟨[.bool true, .int .i64 p, .int .i32 ((s[p]'hp).toNat : Int)]⟩) (M.set i (itC r s (p + 1)))) : Runs c H ⟨d, .next x true, ot, pos, af, g⟩ ρ M K := fun F w m => by
  have hb : w.heap[r]? = some (.stringIter s p) := (m.perm ((Yk hi).append_right F)).own r _ (List.mem_cons_self ..)
  refine ⟨_, _, _, .inl ?_, m.put (o' := .stringIter s (p + 1)) hi, h⟩
  have hg : (getObj r).run c.P w = .ok (.stringIter s p) w := by simp [getObj, Sem.run, hb]
  have hs : (setObj r (.stringIter s (p + 1))).run c.P w = .ok () { w with heap := w.heap.setIfInBounds r (.stringIter s (p + 1)) } := by simp [setObj, Sem.run, hb]
  simp only [execOp, Instr.next, hx, Sem.run_bind, hg, Result.andThen, hp, if_true, decode_ascii s p hp ha, hs]
  simp [goInt]
theorem Runs_nextE {i r p : Nat} {s : ByteArray} (hx : ev c.n ρ x = .pointer (some ⟨r, 0, none⟩)) (hi : M[i]? = some (itC r s p)) (hp : ¬ p < s.size)
    (h : K (.tuple ⟨[.bool false]⟩) M) : Runs c H ⟨d, .next x true, ot, pos, af, g⟩ ρ M K := fun F w m => by
  have hb : w.heap[r]? = some (.stringIter s p) := (m.perm ((Yk hi).append_right F)).own r _ (List.mem_cons_self ..)
  refine ⟨_, _, _, .inl ?_, m, h⟩
  have hg : (getObj r).run c.P w = .ok (.stringIter s p) w := by simp [getObj, Sem.run, hb]
  simp [execOp, Instr.next, hx, hg, Result.andThen, hp]
end
theorem w32 {a : Int} (h : -2147483648 ≤ a ∧ a ≤ 2147483647) : IntKind.i32.wrap a = a := by
  exact IntWalk.i32_in a h
section
variable {P : Program} {e : Operand → Value} {T T' : TypeId} {x : Operand} {k : IntKind} {a : Int} {d : Option Nat} {ot : TypeId} {pos : String} {af : Array Edge} {g : Option (Nat × Bool)}
theorem Pu.convS {s : ByteArray} {t : TypeDesc} (hs : ∀ w, (underlying T).run P w = .ok t w) (hT : ∀ w, (underlying T').run P w = .ok .string w) (hx : e x = .int k a) (hv : Utf8.encode a = s) : Pu P e ⟨d, .convert T T' x, ot, pos, af, g⟩ (.string s) := fun w => by
  subst hv
  simp [execOp, convert, hs, hT, hx, Result.andThen, Conv.intToString]
end
theorem ltr_size (i : Nat) : (ltr i).size = 1 := rfl
theorem ltr_get (i : Nat) (h : i < 26) : ((ltr i)[0]'(by rw [ltr_size]; decide)).toNat = 97 + i := by
  show (UInt8.ofNat (97 + i)).toNat = 97 + i
  simp; omega
theorem ltr_enc : ∀ i : Nat, i < 26 → Utf8.encode ((97 + i : Nat) : Int) = ltr i := by decide
theorem ltr_enc' (i : Nat) (h : i < 26) : Utf8.encode (97 + (i : Int)) = ltr i := by have := ltr_enc i h; simpa using this
section
variable {c : Cx} {H : Heap} {ρ : Nat → Value} {M : List Zk} {K : Value → List Zk → Prop} {d : Option Nat} {ot : TypeId} {pos : String} {af : Array Edge} {g : Option (Nat × Bool)} {x : Operand}
theorem Runs_nextL {i r k : Nat} (hx : ev c.n ρ x = .pointer (some ⟨r, 0, none⟩)) (hi : M[i]? = some (itC r (ltr k) 0)) (hk : k < 26)
    (h : K (.tuple ⟨[.bool true, .int .i64 0, .int .i32 (97 + (k : Int))]⟩) (M.set i (itC r (ltr k) 1))) : Runs c H ⟨d, .next x true, ot, pos, af, g⟩ ρ M K := by
  have hg := ltr_get k hk
  refine Runs_nextA hx hi (by rw [ltr_size]; decide) (by omega) ?_
  rw [hg]
  simpa using h
end
def markL (i : Nat) (l : List Bool) : List Bool := if i < l.length then l.set i true else l
/-- What is known of a term with names: the names on the way down, one Kid after the other. -/
def NC : List (List ByteArray) → List Value → Zk → Prop
  | [], cs, _ => cs.length = 37 ∧ okc cs
  | x :: xs, cs, c => ∃ k n r ns ks cv e k1 k2 k3, cs = pkT k n r ns ks ++ [cv] ∧ cv.oneCell' = true ∧ Own 9 1 ns (ZP x) k1 ∧ Own 32 37 ks [e] k2 ∧ NC xs e k3 ∧ c = k1 ++ (k2 ++ k3)
theorem NC.len : ∀ {xs : List (List ByteArray)} {cs : List Value} {c : Zk}, NC xs cs c → cs.length = 37
  | [], _, _, h => h.1
  | _ :: _, _, _, ⟨_, _, _, _, _, _, _, _, _, _, h, _⟩ => by rw [h]; rfl
theorem NC.ok : ∀ {xs : List (List ByteArray)} {cs : List Value} {c : Zk}, NC xs cs c → okc cs
  | [], _, _, h => h.2
  | _ :: _, _, _, ⟨_, _, _, _, _, _, _, _, _, _, h, h1, h2, h3, _⟩ => by rw [h]; exact Z3 (ZI h2.one h3.one) (Zm h1 Zv)
theorem spl_l {a b a' vs : List Value} {off : Nat} (h : spl a off vs = some a') : spl (a ++ b) off vs = some (a' ++ b) := by
  obtain ⟨h1, h2⟩ := spl_some h
  rw [spl_mk (by rw [List.length_append]; omega), h2, List.take_append_of_le_length (by omega), List.drop_append_of_le_length (by omega)]
  simp
theorem markL_len (i : Nat) (l : List Bool) : (markL i l).length = l.length := by unfold markL; split <;> simp
theorem int_r {P : Program} {f : FuncId} {a : Array Value} {M : List Zk} {H : Heap} {x r : Int} (h : CT P f a M H (fun v N => v = .int .i64 x ∧ N = [])) (hr : x = r) : CT P f a M H (fun v N => v = .int .i64 r ∧ N = []) := hr ▸ h
noncomputable def eqL {α : Type} (l m : List α) : Bool := @decide (l = m) (Classical.propDecidable _)
theorem eqL_true {α : Type} {l m : List α} (h : l = m) : eqL l m = true := by unfold eqL; simp [h]
theorem eqL_false {α : Type} {l m : List α} (h : ¬ l = m) : eqL l m = false := by unfold eqL; simp [h]
end Go.Proofs.YtmophpgiaiemhaaGreat.Hs
/-! The examples of the chapter, in Xe Lean. -/
namespace Go.Proofs.YtmophpgiaiemhaaGreat.Hs
open Go Go.Proofs
def eVa (n : Int) : Tm := .mk 1 n zS [] []
def eNu (n : Int) : Tm := .mk 2 n zS [] []
def eLa (t : Tm) : Tm := .mk 3 0 zS [t] []
def eAp (t u : Tm) : Tm := .mk 4 0 zS [t, u] []
def eLam : Tm := eLa (eAp (eVa 0) (eVa 1))
theorem free_lam : freeE eLam = ([0], 0) := by kernel_rfl
theorem five_lam : Y0 eLam 0 (eNu 5) = (eLa (eAp (eVa 0) (eNu 5)), 0) := by kernel_rfl
theorem three_lam : Y0 eLam 0 (eVa 3) = (eLa (eAp (eVa 0) (eVa 4)), 0) := by kernel_rfl
theorem up_lam : shiftP eLam 2 0 = (eLa (eAp (eVa 0) (eVa 3)), 0) := by kernel_rfl
theorem down_va : shiftP (eVa 0) (-1) 0 = (zT, 1) := by kernel_rfl
def eLL : Tm := eLa (eLa (eVa 1))
theorem right_ll : ZE [eLL] = 0 := by kernel_rfl
theorem free_ll : freeE eLL = ([], 0) := by kernel_rfl
theorem check_h2 : ZT 0 0 (.mk 12 0 zS [eNu 1, eVa 0] []) = 0 := by kernel_rfl
theorem check_h1 : ZT 0 0 (.mk 12 0 zS [eNu 1] []) = 2 := by kernel_rfl
/-- the cells of the first of two results -/
def Zz : Value → List Value
  | .tuple ⟨[.agg ⟨cs⟩, _]⟩ => cs
  | _ => []
theorem ble_at {P : Program} {f : FuncId} {a : Array Value} {M : List Zk} {H : Heap} {x : Tm × Int} {d : Tm} {e : Int} (h : CT P f a M H (fun v N => ∃ cs k, v = .tuple ⟨[.agg ⟨cs⟩, .int .i64 x.2]⟩ ∧ N = [k] ∧ OT x.1 cs k)) (hx : x = (d, e)) :
    CT P f a M H (fun v N => ∃ cs k, v = .tuple ⟨[.agg ⟨cs⟩, .int .i64 e]⟩ ∧ N = [k] ∧ OT d cs k) := by subst hx; exact h
theorem bool_r {P : Program} {f : FuncId} {a : Array Value} {M : List Zk} {H : Heap} {x r : Bool} (h : CT P f a M H (fun v N => v = .bool x ∧ N = [])) (hr : x = r) : CT P f a M H (fun v N => v = .bool r ∧ N = []) := hr ▸ h
section
variable {c : Cx} {H : Heap} {ρ : Nat → Value} {M : List Zk} {K : Value → List Zk → Prop} {d : Option Nat} {ot : TypeId} {pos : String} {af : Array Edge} {g : Option (Nat × Bool)} {x y : Operand}
/-- the first nothing of a slice -/
theorem Runs_slice0 {T el : TypeId} {sz n cap : Nat} {a : Option Addr} {k : IntKind} (hT : ∀ w, (underlying T).run c.P w = .ok (.slice el) w) (hsz : ∀ w, (sizeOf el).run c.P w = .ok sz w) (hx : ev c.n ρ x = .slice a n cap) (hy : ev c.n ρ y = .int k 0)
    (h : ∀ a' cap', K (.slice a' 0 cap') M) : Runs c H ⟨d, .slice T x none (some y) none, ot, pos, af, g⟩ ρ M K := fun F w m => by
  refine ⟨_, w, M, .inl ?_, m, h (if cap = 0 then a else a.map (·.add (0 * sz))) (cap - 0)⟩
  simp [execOp, Instr.sliceAt, Instr.slice, Instr.sliceBounds, Instr.sliceBound, asIntOf, hx, hy, hT, hsz, Result.andThen]
end
end Go.Proofs.YtmophpgiaiemhaaGreat.Hs
/-! Layer 4, the Xe law, third part: sizes. No program here. -/
namespace Go.Proofs.YtmophpgiaiemhaaGreat.Hs
open Go
end Go.Proofs.YtmophpgiaiemhaaGreat.Hs
/-! Layer 4, the Xe law of moving: maps composed; what is right stays right. No program here. -/
namespace Go.Proofs.YtmophpgiaiemhaaGreat.Hs
open Go
mutual
def mq (f : Int → Int → Tm) : Int → Tm → Tm
  | b, .mk k n r kids cases => if k = 1 ∧ b ≤ n then f (n - b) b else .mk k n r (mqs f b k 0 kids) (mqc f b cases)
def mqs (f : Int → Int → Tm) : Int → Int → Nat → List Tm → List Tm
  | _, _, _, [] => []
  | b, k, i, t :: l => mq f (b + more k i) t :: mqs f b k (i + 1) l
def mqc (f : Int → Int → Tm) : Int → List (Pt × Tm) → List (Pt × Tm)
  | _, [] => []
  | b, (p, t) :: l => (p, mq f (b + (binds p : Int)) t) :: mqc f b l
end
theorem mqs_len (f : Int → Int → Tm) (b k : Int) (l : List Tm) : ∀ i, (mqs f b k i l).length = l.length := by
  induction l with
  | nil => intro i; simp [mqs]
  | cons x l ih => intro i; simp [mqs, ih]
theorem mqc_len (f : Int → Int → Tm) (b : Int) (l : List (Pt × Tm)) : (mqc f b l).length = l.length := by
  induction l with
  | nil => simp [mqc]
  | cons x l ih => obtain ⟨p, x⟩ := x; simp [mqc, ih]
theorem mapT_mq (f : Int → Int → Tm) (t : Tm) : ∀ b, Ye (σ := Unit) (fun s => s) (fun n b s => (f n b, s)) b t () = (mq f b t, ()) := by
  induction t using Tm.ind with
  | h k n r kids cases ih ih' =>
    intro b
    have hK : ∀ (l : List Tm), (∀ t ∈ l, ∀ b, Ye (σ := Unit) (fun s => s) (fun n b s => (f n b, s)) b t () = (mq f b t, ())) → ∀ i, Yi (σ := Unit) (fun s => s) (fun n b s => (f n b, s)) b k i l () = (mqs f b k i l, ()) := by
      intro l
      induction l with
      | nil => intro _ i; simp [Yi, mqs]
      | cons t l ihl => intro hl i; rw [Yi, mqs, hl t (by simp)]; simp only; rw [ihl (fun x hx => hl x (by simp [hx]))]
    have hC : ∀ (l : List (Pt × Tm)), (∀ t ∈ l, ∀ b, Ye (σ := Unit) (fun s => s) (fun n b s => (f n b, s)) b t.2 () = (mq f b t.2, ())) → Ym (σ := Unit) (fun s => s) (fun n b s => (f n b, s)) b l () = (mqc f b l, ()) := by
      intro l
      induction l with
      | nil => intro _; simp [Ym, mqc]
      | cons t l ihl => obtain ⟨p, t⟩ := t; intro hl; rw [Ym, mqc, hl (p, t) (by simp), mapP_id]; simp only; rw [ihl (fun x hx => hl x (by simp [hx]))]
    rw [Ye, mq]
    split
    · rfl
    · rw [hK kids ih]; simp only; rw [hC cases ih']
theorem mapQ_mq (f : Int → Int → Tm) (b : Int) (t : Tm) : mapQ (fun s => s) f b t = mq f b t := by
  unfold mapQ; rw [mapT_mq f t b]
theorem shT_mq (dy fr : Int) (t : Tm) : shT dy fr t = mq (shv dy fr) 0 t := mapQ_mq _ _ _
theorem sbT_mq (n : Int) (u t : Tm) : sbT n u t = mq (sbv n u) 0 t := mapQ_mq _ _ _
/-! what is right stays right -/
theorem nHead_mono {d d' m m' b b' k n : Int} {r : Sm} {l lc : Nat} (h : YD d m b k n r l lc = 0) (hv : k = 1 → n < b' ∨ n - b' < d') (hm : m ≤ m') : YD d' m' b' k n r l lc = 0 := by
  unfold YD at h ⊢
  by_cases h1 : k < 1 ∨ 12 < k
  · rw [if_pos h1] at h; cases h
  rw [if_neg h1] at h ⊢
  by_cases h2 : ((YB k = false ∧ ¬ n = 0) ∨ (YA k = false ∧ ¬ r = zS)) ∨ (¬ k = 9 ∧ 0 < (lc : Int))
  · rw [if_pos h2] at h; cases h
  rw [if_neg h2] at h ⊢
  by_cases h3 : ((l : Int) < loK k ∨ hiK k < (l : Int)) ∨ 8 < (lc : Int)
  · rw [if_pos h3] at h; cases h
  rw [if_neg h3] at h ⊢
  by_cases h4 : ((k = 2 ∧ (n < 0 ∨ 1073741824 < n)) ∨ (k = 10 ∧ (n < 1 ∨ 5 < n))) ∨ ((k = 8 ∨ k = 11) ∧ (n < 0 ∨ 7 < n))
  · rw [if_pos h4] at h; cases h
  rw [if_neg h4] at h ⊢
  by_cases h5 : (k = 1 ∧ (n < 0 ∨ (b ≤ n ∧ d ≤ n - b))) ∨ (k = 7 ∧ (n < 0 ∨ m ≤ n))
  · rw [if_pos h5] at h; cases h
  rw [if_neg (by
    rintro (⟨e, h6⟩ | ⟨e, h6⟩)
    · have := hv e; omega
    · omega)]
theorem pErrRC_mqc (f : Int → Int → Tm) (b : Int) (l : List (Pt × Tm)) : YN (mqc f b l) = YN l := by
  induction l with
  | nil => rw [mqc]
  | cons x l ih => obtain ⟨p, x⟩ := x; rw [mqc, YN, YN, ih]
theorem nErr_iff {d m b k n : Int} {r : Sm} {kids : List Tm} {cases : List (Pt × Tm)} : ZR d m b (.mk k n r kids cases) = 0 ↔ YD d m b k n r kids.length cases.length = 0 ∧ YN cases = 0 ∧ Z7 d m b k 0 kids = 0 ∧ Ys d m b cases = 0 := by
  rw [ZR]
  constructor
  · intro h
    split at h
    · split at h
      · split at h
        · exact ⟨by assumption, by assumption, by assumption, h⟩
        · rename_i h0; exact absurd h h0
      · rename_i h0; exact absurd h h0
    · rename_i h0; exact absurd h h0
  · rintro ⟨h1, h2, h3, h4⟩
    rw [if_pos h1, if_pos h2, if_pos h3, h4]
theorem nErrK_cons {d m b k : Int} {i : Nat} {t : Tm} {l : List Tm} : Z7 d m b k i (t :: l) = 0 ↔ ZR d m (b + more k i) t = 0 ∧ Z7 d m b k (i + 1) l = 0 := by
  rw [Z7]
  constructor
  · intro h
    split at h
    · exact ⟨by assumption, h⟩
    · rename_i h0; exact absurd h h0
  · rintro ⟨h1, h2⟩; rw [if_pos h1, h2]
theorem nErrC_cons {d m b : Int} {p : Pt} {t : Tm} {l : List (Pt × Tm)} : Ys d m b ((p, t) :: l) = 0 ↔ ZR d m (b + (binds p : Int)) t = 0 ∧ Ys d m b l = 0 := by
  rw [Ys]
  constructor
  · intro h
    split at h
    · exact ⟨by assumption, h⟩
    · rename_i h0; exact absurd h h0
  · rintro ⟨h1, h2⟩; rw [if_pos h1, h2]
theorem mq_err {f : Int → Int → Tm} {d d' m m' b0 : Int} (hb0 : 0 ≤ b0) (hm : m ≤ m') (H : ∀ n c, 0 ≤ n → n < d → 0 ≤ c → ZR d' m' (b0 + c) (f n c) = 0) (t : Tm) : ∀ c, 0 ≤ c → ZR d m c t = 0 → ZR d' m' (b0 + c) (mq f c t) = 0 := by
  induction t using Tm.ind with
  | h k n r kids cases ih ih' =>
    intro c hc h
    obtain ⟨h1, h2, h3, h4⟩ := nErr_iff.1 h
    have hK : ∀ (l : List Tm), (∀ t ∈ l, ∀ c, 0 ≤ c → ZR d m c t = 0 → ZR d' m' (b0 + c) (mq f c t) = 0) → ∀ i, Z7 d m c k i l = 0 → Z7 d' m' (b0 + c) k i (mqs f c k i l) = 0 := by
      intro l
      induction l with
      | nil => intro _ i _; simp [mqs, Z7]
      | cons t l ihl =>
        intro hl i hh
        obtain ⟨a1, a2⟩ := nErrK_cons.1 hh
        have hm := YR k i
        have := hl t (by simp) _ (by omega) a1
        rw [mqs]
        exact nErrK_cons.2 ⟨by rwa [show b0 + c + more k i = b0 + (c + more k i) from by omega], ihl (fun x hx => hl x (by simp [hx])) _ a2⟩
    have hC : ∀ (l : List (Pt × Tm)), (∀ t ∈ l, ∀ c, 0 ≤ c → ZR d m c t.2 = 0 → ZR d' m' (b0 + c) (mq f c t.2) = 0) → Ys d m c l = 0 → Ys d' m' (b0 + c) (mqc f c l) = 0 := by
      intro l
      induction l with
      | nil => intro _ _; simp [mqc, Ys]
      | cons t l ihl =>
        obtain ⟨p, t⟩ := t
        intro hl hh
        obtain ⟨a1, a2⟩ := nErrC_cons.1 hh
        have := hl (p, t) (by simp) _ (by omega) a1
        rw [mqc]
        exact nErrC_cons.2 ⟨by rwa [show b0 + c + (binds p : Int) = b0 + (c + (binds p : Int)) from by omega], ihl (fun x hx => hl x (by simp [hx])) a2⟩
    rw [mq]
    by_cases hk : k = 1 ∧ c ≤ n
    · rw [if_pos hk]
      obtain ⟨e, hle⟩ := hk
      subst e
      have := (Y9 h1).2.2.2
      exact H _ _ (by omega) (by omega) hc
    · rw [if_neg hk]
      refine nErr_iff.2 ⟨?_, by rw [pErrRC_mqc]; exact h2, hK kids ih 0 h3, hC cases ih' h4⟩
      rw [mqs_len, mqc_len]
      exact nHead_mono h1 (fun e => .inl (by omega)) hm
theorem nErr_var {d m b n : Int} (h0 : 0 ≤ n) (h1 : n - b < d) : ZR d m b (.mk 1 n zS [] []) = 0 := by
  refine nErr_iff.2 ⟨?_, rfl, rfl, rfl⟩
  unfold YD YB YA loK hiK
  simp
  omega
theorem nErr_mono {d d' m m' : Int} (hd : d ≤ d') (hm : m ≤ m') (t : Tm) : ∀ b, ZR d m b t = 0 → ZR d' m' b t = 0 := by
  induction t using Tm.ind with
  | h k n r kids cases ih ih' =>
    intro b h
    obtain ⟨h1, h2, h3, h4⟩ := nErr_iff.1 h
    have hK : ∀ (l : List Tm), (∀ t ∈ l, ∀ b, ZR d m b t = 0 → ZR d' m' b t = 0) → ∀ i, Z7 d m b k i l = 0 → Z7 d' m' b k i l = 0 := by
      intro l
      induction l with
      | nil => intro _ i _; simp [Z7]
      | cons t l ihl =>
        intro hl i hh
        obtain ⟨a1, a2⟩ := nErrK_cons.1 hh
        exact nErrK_cons.2 ⟨hl t (by simp) _ a1, ihl (fun x hx => hl x (by simp [hx])) _ a2⟩
    have hC : ∀ (l : List (Pt × Tm)), (∀ t ∈ l, ∀ b, ZR d m b t.2 = 0 → ZR d' m' b t.2 = 0) → Ys d m b l = 0 → Ys d' m' b l = 0 := by
      intro l
      induction l with
      | nil => intro _ _; simp [Ys]
      | cons t l ihl =>
        obtain ⟨p, t⟩ := t
        intro hl hh
        obtain ⟨a1, a2⟩ := nErrC_cons.1 hh
        exact nErrC_cons.2 ⟨hl (p, t) (by simp) _ a1, ihl (fun x hx => hl x (by simp [hx])) a2⟩
    exact nErr_iff.2 ⟨nHead_mono h1 (fun e => by subst e; have := (Y9 h1).2.2.2; omega) hm, h2, hK kids ih 0 h3, hC cases ih' h4⟩
theorem sb_err {d m k : Int} (hk : 0 ≤ k) (hkd : k < d) {t u : Tm} (h : ZR d m 0 t = 0) (hu : ZR (d - 1) m 0 u = 0) : ZR (d - 1) m 0 (sbT k u t) = 0 := by
  rw [sbT_mq]
  have := mq_err (f := sbv k u) (d := d) (d' := d - 1) (m := m) (m' := m) (b0 := 0) (Int.le_refl 0) (Int.le_refl m) (fun n c h1 h2 h3 => by
    unfold sbv
    by_cases e : n = k
    · rw [if_pos e, shT_mq, Int.zero_add]
      have := mq_err (f := shv c 0) (d := d - 1) (d' := d - 1) (m := m) (m' := m) (b0 := c) h3 (Int.le_refl m) (fun x y q1 q2 q3 => by
        unfold shv
        rw [if_pos q1]
        exact nErr_var (by omega) (by omega)) u 0 (Int.le_refl 0) hu
      rwa [Int.add_zero] at this
    · rw [if_neg e]
      exact nErr_var (by split <;> omega) (by split <;> omega)) t 0 (Int.le_refl 0) h
  rwa [Int.add_zero] at this
theorem checkR_iff {d m : Int} {t : Tm} : Z2 d m t = 0 ↔ Yz t = false ∧ ZR d m 0 t = 0 := by
  unfold Z2
  cases Yz t <;> simp
theorem YV {d d' m m' : Int} (hd : d ≤ d') (hm : m ≤ m') {t : Tm} (h : Z2 d m t = 0) : Z2 d' m' t = 0 := by
  rw [checkR_iff] at h ⊢
  exact ⟨h.1, nErr_mono hd hm t 0 h.2⟩
theorem sb_check {d m k : Int} (hk : 0 ≤ k) (hkd : k < d) {t u : Tm} (h : Z2 d m t = 0) (hu : Z2 (d - 1) m u = 0) (hl : Yz (sbT k u t) = false) : Z2 (d - 1) m (sbT k u t) = 0 := by
  rw [checkR_iff] at h hu ⊢
  exact ⟨hl, sb_err hk hkd h.2 hu.2⟩

/-! what is free -/
mutual
def YM (Q : Int → Prop) : Int → Tm → Prop
  | b, .mk k n _ kids cases => (k = 1 ∧ b ≤ n → Q (n - b)) ∧ YH Q b k 0 kids ∧ YZ Q b cases
def YH (Q : Int → Prop) : Int → Int → Nat → List Tm → Prop
  | _, _, _, [] => True
  | b, k, i, t :: l => YM Q (b + more k i) t ∧ YH Q b k (i + 1) l
def YZ (Q : Int → Prop) : Int → List (Pt × Tm) → Prop
  | _, [] => True
  | b, (p, t) :: l => YM Q (b + (binds p : Int)) t ∧ YZ Q b l
end
theorem met_all {Q : Int → Prop} (t : Tm) : ∀ b s, YM Q b t → (∀ x ∈ s, Q x) → ∀ x ∈ (Ye (fun s => s) metV b t s).2, Q x := by
  induction t using Tm.ind with
  | h k n r kids cases ih ih' =>
    intro b s h hs
    rw [YM] at h
    have hK : ∀ (l : List Tm), (∀ t ∈ l, ∀ b s, YM Q b t → (∀ x ∈ s, Q x) → ∀ x ∈ (Ye (fun s => s) metV b t s).2, Q x) → ∀ i s, YH Q b k i l → (∀ x ∈ s, Q x) → ∀ x ∈ (Yi (fun s => s) metV b k i l s).2, Q x := by
      intro l
      induction l with
      | nil => intro _ i s _ hs; rw [Yi]; exact hs
      | cons t l ihl => intro hl i s hh hs; rw [YH] at hh; rw [Yi]; exact ihl (fun x hx => hl x (by simp [hx])) _ _ hh.2 (hl t (by simp) _ _ hh.1 hs)
    have hC : ∀ (l : List (Pt × Tm)), (∀ t ∈ l, ∀ b s, YM Q b t.2 → (∀ x ∈ s, Q x) → ∀ x ∈ (Ye (fun s => s) metV b t.2 s).2, Q x) → ∀ s, YZ Q b l → (∀ x ∈ s, Q x) → ∀ x ∈ (Ym (fun s => s) metV b l s).2, Q x := by
      intro l
      induction l with
      | nil => intro _ s _ hs; rw [Ym]; exact hs
      | cons t l ihl => obtain ⟨p, t⟩ := t; intro hl s hh hs; rw [YZ] at hh; rw [Ym]; exact ihl (fun x hx => hl x (by simp [hx])) _ hh.2 (hl (p, t) (by simp) _ _ hh.1 hs)
    rw [Ye]
    split
    · rename_i hk
      simp only [metV, addK]
      split
      · exact hs
      · intro x hx
        simp only [List.mem_append, List.mem_cons, List.not_mem_nil, or_false] at hx
        first
          | (rcases hx with hx | rfl; exact hs x hx; exact h.1 hk)
          | (rcases hx with rfl | hx; exact h.1 hk; exact hs x hx)
    · exact hC cases ih' _ h.2.2 (hK kids ih 0 s h.2.1 hs)
theorem freeP_all {Q : Int → Prop} {t : Tm} (h : YM Q 0 t) : ∀ x ∈ Xj t, Q x := by
  intro x hx
  unfold Xj upTo at hx
  obtain ⟨i, hi, rfl⟩ := List.mem_map.1 hx
  obtain ⟨h1, h2⟩ := List.mem_filter.1 hi
  rw [metF_get _ _ (by simpa using h1)] at h2
  exact met_all t 0 [] h (by simp) _ (of_decide_eq_true h2)
theorem err_all {d m : Int} (t : Tm) : ∀ b, 0 ≤ b → ZR d m b t = 0 → YM (fun x => 0 ≤ x ∧ x < d) b t := by
  induction t using Tm.ind with
  | h k n r kids cases ih ih' =>
    intro b hb h
    obtain ⟨h1, h2, h3, h4⟩ := nErr_iff.1 h
    have hK : ∀ (l : List Tm), (∀ t ∈ l, ∀ b, 0 ≤ b → ZR d m b t = 0 → YM (fun x => 0 ≤ x ∧ x < d) b t) → ∀ i, Z7 d m b k i l = 0 → YH (fun x => 0 ≤ x ∧ x < d) b k i l := by
      intro l
      induction l with
      | nil => intro _ i _; rw [YH]; trivial
      | cons t l ihl =>
        intro hl i hh
        obtain ⟨a1, a2⟩ := nErrK_cons.1 hh
        have := YR k i
        rw [YH]; exact ⟨hl t (by simp) _ (by omega) a1, ihl (fun x hx => hl x (by simp [hx])) _ a2⟩
    have hC : ∀ (l : List (Pt × Tm)), (∀ t ∈ l, ∀ b, 0 ≤ b → ZR d m b t.2 = 0 → YM (fun x => 0 ≤ x ∧ x < d) b t.2) → Ys d m b l = 0 → YZ (fun x => 0 ≤ x ∧ x < d) b l := by
      intro l
      induction l with
      | nil => intro _ _; rw [YZ]; trivial
      | cons t l ihl =>
        obtain ⟨p, t⟩ := t
        intro hl hh
        obtain ⟨a1, a2⟩ := nErrC_cons.1 hh
        rw [YZ]; exact ⟨hl (p, t) (by simp) _ (by omega) a1, ihl (fun x hx => hl x (by simp [hx])) a2⟩
    rw [YM]
    refine ⟨fun hk => ?_, hK kids ih 0 h3, hC cases ih' h4⟩
    obtain ⟨e, hle⟩ := hk
    subst e
    have := (Y9 h1).2.2.2
    omega
end Go.Proofs.YtmophpgiaiemhaaGreat.Hs
/-! Terms that are drawn, in Xe Lean: nodes that are right where their parts are. No program here. -/
namespace Go.Proofs.YtmophpgiaiemhaaGreat.Hs
open Go
theorem nHead_in {d m b c k n : Int} {r : Sm} {l lc : Nat} (hc : 0 ≤ c) (h : YD (d + c) m b k n r l lc = 0) : YD d m (b + c) k n r l lc = 0 := by
  refine nHead_mono h (fun e => ?_) (Int.le_refl m)
  subst e
  have := (Y9 h).2.2.2
  omega
theorem nErr_in {d m c : Int} (hc : 0 ≤ c) (t : Tm) : ∀ b, ZR (d + c) m b t = 0 → ZR d m (b + c) t = 0 := by
  induction t using Tm.ind with
  | h k n r kids cases ih ih' =>
    intro b h
    obtain ⟨h1, h2, h3, h4⟩ := nErr_iff.1 h
    have hK : ∀ (l : List Tm), (∀ t ∈ l, ∀ b, ZR (d + c) m b t = 0 → ZR d m (b + c) t = 0) → ∀ i, Z7 (d + c) m b k i l = 0 → Z7 d m (b + c) k i l = 0 := by
      intro l
      induction l with
      | nil => intro _ i _; simp [Z7]
      | cons t l ihl =>
        intro hl i hh
        obtain ⟨a1, a2⟩ := nErrK_cons.1 hh
        have := hl t (by simp) _ a1
        exact nErrK_cons.2 ⟨by rwa [show b + c + more k i = b + more k i + c from by omega], ihl (fun x hx => hl x (by simp [hx])) _ a2⟩
    have hC : ∀ (l : List (Pt × Tm)), (∀ t ∈ l, ∀ b, ZR (d + c) m b t.2 = 0 → ZR d m (b + c) t.2 = 0) → Ys (d + c) m b l = 0 → Ys d m (b + c) l = 0 := by
      intro l
      induction l with
      | nil => intro _ _; simp [Ys]
      | cons t l ihl =>
        obtain ⟨p, t⟩ := t
        intro hl hh
        obtain ⟨a1, a2⟩ := nErrC_cons.1 hh
        have := hl (p, t) (by simp) _ a1
        exact nErrC_cons.2 ⟨by rwa [show b + c + (binds p : Int) = b + (binds p : Int) + c from by omega], ihl (fun x hx => hl x (by simp [hx])) a2⟩
    exact nErr_iff.2 ⟨nHead_in hc h1, h2, hK kids ih 0 h3, hC cases ih' h4⟩
theorem nErr_in0 {d m c : Int} (hc : 0 ≤ c) {t : Tm} (h : ZR (d + c) m 0 t = 0) : ZR d m (0 + c) t = 0 := nErr_in hc t 0 h
theorem nErrK_snoc {d m b k : Int} {t : Tm} {l : List Tm} : ∀ {i : Nat}, Z7 d m b k i l = 0 → ZR d m (b + more k ((i + l.length : Nat) : Int)) t = 0 → Z7 d m b k i (l ++ [t]) = 0 := by
  induction l with
  | nil => intro i _ h; exact nErrK_cons.2 ⟨by simpa using h, by simp [Z7]⟩
  | cons x l ih =>
    intro i h h'
    obtain ⟨a1, a2⟩ := nErrK_cons.1 h
    simp only [List.cons_append]
    exact nErrK_cons.2 ⟨a1, ih a2 (by rwa [show i + 1 + l.length = i + (x :: l).length from by simp; omega])⟩
theorem nErrC_snoc {d m b : Int} {p : Pt} {t : Tm} {l : List (Pt × Tm)} : Ys d m b l = 0 → ZR d m (b + (binds p : Int)) t = 0 → Ys d m b (l ++ [(p, t)]) = 0 := by
  induction l with
  | nil => intro _ h; exact nErrC_cons.2 ⟨h, by simp [Ys]⟩
  | cons x l ih =>
    obtain ⟨q, x⟩ := x
    intro h h'
    obtain ⟨a1, a2⟩ := nErrC_cons.1 h
    simp only [List.cons_append]
    exact nErrC_cons.2 ⟨a1, ih a2 h'⟩
theorem pErrRC_snoc {p : Pt} {t : Tm} {l : List (Pt × Tm)} (h : YN l = 0) (hp : Y3 p = 0) : YN (l ++ [(p, t)]) = 0 := by
  induction l with
  | nil => simp [YN, hp]
  | cons x l ih =>
    rw [YN] at h
    split at h
    · rename_i h0; simp only [List.cons_append]; rw [YN, if_pos h0]; exact ih h
    · rename_i h0; exact absurd h h0
theorem pErrRL_snoc {p : Pt} {l : List Pt} (h : Xh l = 0) (hp : Y3 p = 0) : Xh (l ++ [p]) = 0 := by
  induction l with
  | nil => simp [Xh, hp]
  | cons x l ih =>
    rw [Xh] at h
    split at h
    · rename_i h0; simp only [List.cons_append]; rw [Xh, if_pos h0]; exact ih h
    · rename_i h0; exact absurd h h0
theorem pErrR_any : Y3 (.mk 1 0 zS []) = 0 := by rfl
theorem pErrR_num {n : Int} (h0 : 0 ≤ n) (h1 : n ≤ 1000) : Y3 (.mk 2 n zS []) = 0 := by
  have : pHead 2 n zS 0 = 0 := by unfold pHead; simp; omega
  rw [Y3]; simp only [List.length_nil]; rw [if_pos this]; rfl
theorem pErrR_con {n : Int} {r : Sm} {l : List Pt} (h0 : 0 ≤ n) (h1 : n ≤ 7) (hl : l.length ≤ 4) (h : Xh l = 0) : Y3 (.mk 3 n r l) = 0 := by
  have : pHead 3 n r l.length = 0 := by unfold pHead; simp; omega
  rw [Y3, if_pos this, h]
section
variable {d m : Int} {t u : Tm} {r : Sm} {n : Int}
theorem nErr_self (h0 : 0 ≤ n) (h1 : n < m) : ZR d m 0 (.mk 7 n zS [] []) = 0 := nErr_iff.2 ⟨by unfold YD YB YA loK hiK; simp; omega, rfl, rfl, rfl⟩
theorem nErr_def : ZR d m 0 (.mk 6 0 r [] []) = 0 := nErr_iff.2 ⟨by unfold YD YB YA loK hiK; simp, rfl, rfl, rfl⟩
theorem nErr_nat (h0 : 0 ≤ n) (h1 : n ≤ 1000) : ZR d m 0 (.mk 2 n zS [] []) = 0 := nErr_iff.2 ⟨by unfold YD YB YA loK hiK; simp; omega, rfl, rfl, rfl⟩
theorem nErr_lam (h : ZR (d + 1) m 0 t = 0) : ZR d m 0 (.mk 3 0 zS [t] []) = 0 :=
  nErr_iff.2 ⟨by unfold YD YB YA loK hiK; simp, rfl, nErrK_cons.2 ⟨nErr_in0 (by decide) h, by simp [Z7]⟩, rfl⟩
theorem nErr_app (h : ZR d m 0 t = 0) (h' : ZR d m 0 u = 0) : ZR d m 0 (.mk 4 0 zS [t, u] []) = 0 :=
  nErr_iff.2 ⟨by unfold YD YB YA loK hiK; simp, rfl, nErrK_cons.2 ⟨h, nErrK_cons.2 ⟨h', by simp [Z7]⟩⟩, rfl⟩
theorem nErr_let (h : ZR d m 0 t = 0) (h' : ZR (d + 1) m 0 u = 0) : ZR d m 0 (.mk 5 0 zS [t, u] []) = 0 :=
  nErr_iff.2 ⟨by unfold YD YB YA loK hiK; simp, rfl, nErrK_cons.2 ⟨h, nErrK_cons.2 ⟨nErr_in0 (by decide) h', by simp [Z7]⟩⟩, rfl⟩
theorem nErr_prim (h0 : 1 ≤ n) (h1 : n ≤ 5) (h : ZR d m 0 t = 0) (h' : ZR d m 0 u = 0) : ZR d m 0 (.mk 10 n zS [t, u] []) = 0 :=
  nErr_iff.2 ⟨by unfold YD YB YA loK hiK; simp; omega, rfl, nErrK_cons.2 ⟨h, nErrK_cons.2 ⟨h', by simp [Z7]⟩⟩, rfl⟩
theorem nErr_ask (h0 : 0 ≤ n) (h1 : n ≤ 7) (h : ZR d m 0 t = 0) : ZR d m 0 (.mk 11 n r [t] []) = 0 :=
  nErr_iff.2 ⟨by unfold YD YB YA loK hiK; simp; omega, rfl, nErrK_cons.2 ⟨h, by simp [Z7]⟩, rfl⟩
theorem nErrK_han (h : ZR d m 0 t = 0) (h' : ZR (d + 1) m 0 u = 0) : Z7 d m 0 12 0 [t, u] = 0 :=
  nErrK_cons.2 ⟨h, nErrK_cons.2 ⟨nErr_in0 (by decide) h', by simp [Z7]⟩⟩
theorem nErrK_han_snoc {l : List Tm} (hl : 2 ≤ l.length) (h : Z7 d m 0 12 0 l = 0) (h' : ZR (d + 2) m 0 t = 0) : Z7 d m 0 12 0 (l ++ [t]) = 0 := by
  refine nErrK_snoc h ?_
  have : more 12 ((0 + l.length : Nat) : Int) = 2 := by unfold more; simp; omega
  rw [this]; exact nErr_in0 (by decide) h'
theorem nErr_han {l : List Tm} (h0 : 2 ≤ l.length) (h1 : l.length ≤ 10) (h : Z7 d m 0 12 0 l = 0) : ZR d m 0 (.mk 12 0 r l []) = 0 :=
  nErr_iff.2 ⟨by unfold YD YB YA loK hiK; simp; omega, rfl, h, rfl⟩
theorem nErr_mat {l : List (Pt × Tm)} (h1 : l.length ≤ 8) (h : ZR d m 0 t = 0) (hp : YN l = 0) (hc : Ys d m 0 l = 0) : ZR d m 0 (.mk 9 0 zS [t] l) = 0 :=
  nErr_iff.2 ⟨by unfold YD YB YA loK hiK; simp; omega, hp, nErrK_cons.2 ⟨h, by simp [Z7]⟩, hc⟩
theorem nErrC_mat {l : List (Pt × Tm)} {p : Pt} (h : Ys d m 0 l = 0) (h' : ZR (d + (binds p : Int)) m 0 t = 0) : Ys d m 0 (l ++ [(p, t)]) = 0 := nErrC_snoc h (nErr_in0 (by omega) h')
theorem nErrK_con {l : List Tm} (h : Z7 d m 0 8 0 l = 0) (h' : ZR d m 0 t = 0) : Z7 d m 0 8 0 (l ++ [t]) = 0 := nErrK_snoc h (by simpa [more] using h')
theorem nErr_con {l : List Tm} (h0 : 0 ≤ n) (h1 : n ≤ 7) (hl : l.length ≤ 4) (h : Z7 d m 0 8 0 l = 0) : ZR d m 0 (.mk 8 n r l []) = 0 :=
  nErr_iff.2 ⟨by unfold YD YB YA loK hiK; simp; omega, rfl, h, rfl⟩
end
theorem OTs1 {t : Tm} {a : List Value} {k : Zk} (h : OT t a k) : OTs [t] [a] k := by
  rw [OTs]; exact ⟨a, [], k, [], rfl, h, OTs.nil, by simp⟩
theorem OTs2 {t u : Tm} {a b : List Value} {k k' : Zk} (h : OT t a k) (h' : OT u b k') : OTs [t, u] [a, b] (k ++ k') := by
  rw [OTs]; exact ⟨a, [b], k, k', rfl, h, OTs1 h', rfl⟩
theorem OT_row {k n : Int} {r : Sm} {v : Value} {es : List (List Value)} {kids : List Tm} {k1 k2 : Zk} (hk : inI k) (hn : inI n) (ho : Own 27 36 v es k1) (hs : OTs kids es k2) (hl : kids.length ≤ 1000) :
    OT (.mk k n r kids []) (pkT k n r v (.slice none 0 0)) (k1 ++ k2) :=
  OT_mk.2 ⟨_, _, es, [], k1, k2, [], [], rfl, hk, hn, ho, hs, Own.nil, OCs.nil, by simp, by omega, by simp⟩
theorem pErrRL_mem {l : List Pt} (h : Xh l = 0) : ∀ p ∈ l, Y3 p = 0 := by
  induction l with
  | nil => intro p hp; cases hp
  | cons q l ih =>
    rw [Xh] at h
    split at h
    · rename_i h0
      intro p hp
      rcases List.mem_cons.1 hp with rfl | hp
      · exact h0
      · exact ih h p hp
    · rename_i h0; exact absurd h h0
theorem pErrR_open {k n : Int} {r : Sm} {kids : List Pt} (h : Y3 (.mk k n r kids) = 0) : Xh kids = 0 ∧ (k = 1 ∨ k = 3 ∨ (k = 2 ∧ kids = [])) := by
  rw [Y3] at h
  split at h
  · rename_i h0
    refine ⟨h, ?_⟩
    unfold pHead at h0
    by_cases h1 : k < 1 ∨ 3 < k
    · rw [if_pos h1] at h0; cases h0
    rw [if_neg h1] at h0
    split at h0
    · cases h0
    split at h0
    · cases h0
    rename_i h3
    by_cases e : k = 2
    · right; right
      refine ⟨e, List.eq_nil_of_length_eq_zero ?_⟩
      omega
    · omega
  · rename_i h0; exact absurd h h0
theorem drawn_ok {d m : Int} {t : Tm} (h : ZR d m 0 t = 0) (h11 : ¬ ZT d m t = 11) : ZT d m t = 0 := by
  rw [check_eq] at h11 ⊢
  rw [checkR_iff]
  refine ⟨?_, h⟩
  unfold Z2 at h11
  cases hl : Yz t with
  | false => rfl
  | true => rw [hl] at h11; exact absurd rfl h11
theorem drawn_nu {d m : Int} : ZT d m (eNu 1) = 0 := by
  rw [check_eq, checkR_iff]
  exact ⟨by kernel_rfl, nErr_nat (by decide) (by decide)⟩
def pz : Nat → Nat
  | 0 => 1
  | d + 1 => 1 + 2 * pz d
def dz : Nat → Nat
  | 0 => 2
  | d + 1 => 4 + 2 * dz d
theorem pz_pos {d : Nat} (h : 0 < d) : pz d = 1 + 2 * pz (d - 1) := by
  obtain ⟨e, rfl⟩ : ∃ e, d = e + 1 := ⟨d - 1, by omega⟩
  rfl
theorem dz_pos {d : Nat} (h : 0 < d) : dz d = 4 + 2 * dz (d - 1) := by
  obtain ⟨e, rfl⟩ : ∃ e, d = e + 1 := ⟨d - 1, by omega⟩
  rfl
theorem pz_ge (d : Nat) : 1 ≤ pz d := by cases d <;> simp [pz]
theorem dz_ge (d : Nat) : 2 ≤ dz d := by cases d <;> simp [dz]; omega
theorem dz_le {d : Nat} (h : d ≤ 2) : dz d ≤ 20 := by
  rcases d with _ | _ | _ | d
  · decide
  · decide
  · decide
  · omega
theorem sizeTs_snoc (l : List Tm) (t : Tm) : sizeTs (l ++ [t]) = sizeTs l + sizeT t := by
  induction l with
  | nil => simp [sizeTs]
  | cons x l ih => simp only [List.cons_append, sizeTs, ih]; omega
theorem sizeCs_snoc (l : List (Pt × Tm)) (p : Pt) (t : Tm) : sizeCs (l ++ [(p, t)]) = sizeCs l + sizeP p + sizeT t := by
  induction l with
  | nil => simp [sizeCs]
  | cons x l ih => obtain ⟨q, x⟩ := x; simp only [List.cons_append, sizeCs, ih]; omega
theorem sizePs_snoc (l : List Pt) (p : Pt) : Yb (l ++ [p]) = Yb l + sizeP p := by
  induction l with
  | nil => simp [Yb]
  | cons x l ih => simp only [List.cons_append, Yb, ih]; omega
end Go.Proofs.YtmophpgiaiemhaaGreat.Hs
/-! Layer 4, the Xe law of moving: what Shift and Subst answer about terms that are right. No program here. -/
namespace Go.Proofs.YtmophpgiaiemhaaGreat.Hs
open Go Go.Proofs
theorem right1 {d m : Int} {t : Tm} (h : Z2 d m t = 0) (hd : d ≤ 60) (hm : m ≤ 8) : ZE [t] = 0 := by
  rw [rightT_one]; exact YV hd hm h
theorem right2 {d m d' m' : Int} {t u : Tm} (h : Z2 d m t = 0) (hd : d ≤ 60) (hm : m ≤ 8) (h' : Z2 d' m' u = 0) (hd' : d' ≤ 60) (hm' : m' ≤ 8) : ZE [t, u] = 0 := by
  rw [rightT_two, if_pos (YV hd hm h)]; exact YV hd' hm' h'
section
variable {d m : Int} {t u : Tm} {n k y : Int}
theorem substP_ok (ht : Z2 60 8 t = 0) (hu : Z2 60 8 u = 0) (hn : 0 ≤ n ∧ n ≤ 59) (hl : Yz (sbT n u t) = false) : Y0 t n u = (sbT n u t, 0) := by
  rw [Y0, if_pos (right2 ht (Int.le_refl _) (Int.le_refl _) hu (Int.le_refl _) (Int.le_refl _)), if_neg (by omega), hl]; rfl
theorem substP_long (ht : Z2 60 8 t = 0) (hu : Z2 60 8 u = 0) (hn : 0 ≤ n ∧ n ≤ 59) (hl : Yz (sbT n u t) = true) : Y0 t n u = (zT, 11) := by
  rw [Y0, if_pos (right2 ht (Int.le_refl _) (Int.le_refl _) hu (Int.le_refl _) (Int.le_refl _)), if_neg (by omega), hl]; rfl
end
/-! two terms put, in either order -/
section
variable {t u v : Tm} (ht : Z2 4 2 t = 0) (hu : Z2 2 2 u = 0) (hv : Z2 2 2 v = 0)
include ht hu
end
end Go.Proofs.YtmophpgiaiemhaaGreat.Hs
/-! Terms with names, as data: read, and owned. -/
namespace Go.Proofs.YtmophpgiaiemhaaGreat.Hs
open Go

/-- A slice of strings, with its room. -/
def strR (H : Heap) (v : Value) (l : List ByteArray) : Prop := ∃ a cap, v = .slice a l.length cap ∧ l.length ≤ cap ∧ Hs.rdS RS 1 H v l
theorem strR.rd {H : Heap} {v : Value} {l : List ByteArray} (h : strR H v l) : Hs.rdS RS 1 H v l := by obtain ⟨_, _, _, _, h⟩ := h; exact h
theorem strR.mono {H H' : Heap} {v : Value} {l : List ByteArray} (hh : Hle H H') (h : strR H v l) : strR H' v l := by obtain ⟨a, cap, e, h1, h⟩ := h; exact ⟨a, cap, e, h1, RSs.mono hh h⟩
theorem strR.one {H : Heap} {v : Value} {l : List ByteArray} (h : strR H v l) : v.oneCell' = true := h.rd.one
theorem strR.own {T : TypeId} {v : Value} {l : List ByteArray} {k : Zk} {h : Heap} (o : Own T 1 v (ZP l) k) (hn : l.length ≤ 9223372036854775807) (hk : Has k h) : strR h v l := by
  have hr := Yj o hn hk
  rcases id o.2 with ⟨rfl, h1, _⟩ | ⟨b, cap, sp, rfl, rfl, h3, h4⟩
  · have : l = [] := by cases l; rfl; simp [ZP] at h1
    subst this; exact ⟨none, 0, rfl, by simp, hr⟩
  · refine ⟨_, cap, by rw [ZW], ?_, hr⟩
    rw [ZW] at h4; exact h4
theorem strR.nil {h : Heap} : strR h (.slice none 0 0) [] := ⟨none, 0, rfl, by simp, rdS.nil⟩
theorem strR.take {h : Heap} {a : Option Addr} {N cap : Nat} {l : List ByteArray} (r : strR h (.slice a N cap) l) (n : Nat) (hn : n ≤ l.length) : strR h (.slice (if cap = 0 then a else a.map (·.add (0 * 1))) n cap) (l.take n) := by
  have ea : (if cap = 0 then a else a.map (·.add (0 * 1))) = a := by
    cases a with
    | none => simp
    | some a => simp [Addr.add]
  rw [ea]
  have hln : (l.take n).length = n := by rw [List.length_take]; omega
  obtain ⟨a', c', e, h1, a2, c2, e2, h2, h0⟩ := r
  cases e; cases e2
  refine ⟨a, cap, by rw [hln], by rw [hln]; omega, a, cap, by rw [hln], by rw [hln]; omega, ?_⟩
  rcases h0 with h0 | ⟨b, o, row, T, fr, e1, e2, e3⟩
  · left; omega
  · right
    refine ⟨b, o, row, T, fr, e1, e2, rows.mk fun i hi => ?_⟩
    rw [List.length_take] at hi
    obtain ⟨cs, h2, h3⟩ := e3.get i (by omega)
    exact ⟨cs, h2, by rw [List.getElem_take]; exact h3⟩
theorem strR.drop {h : Heap} {a : Option Addr} {N cap : Nat} {l : List ByteArray} (r : strR h (.slice a N cap) l) (n : Nat) (hn : n ≤ l.length) : strR h (.slice (if cap = n then a else a.map (·.add (n * 1))) (N - n) (cap - n)) (l.drop n) := by
  obtain ⟨a', c', e, h1, a2, c2, e2, h2, h0⟩ := r
  cases e; cases e2
  refine ⟨_, _, by rw [List.length_drop], by rw [List.length_drop]; omega, _, _, by rw [List.length_drop], by rw [List.length_drop]; omega, ?_⟩
  by_cases hz : (l.drop n).length = 0
  · exact .inl hz
  rw [List.length_drop] at hz
  rcases h0 with h0 | ⟨b, o, row, T, fr, e1, e2, e3⟩
  · omega
  · right
    have hc : ¬ cap = n := by omega
    refine ⟨b, o + n * 1, row, T, fr, by rw [if_neg hc, e1]; simp [Addr.add], e2, rows.mk fun i hi => ?_⟩
    rw [List.length_drop] at hi
    obtain ⟨cs, h2, h3⟩ := e3.get (n + i) (by omega)
    exact ⟨cs, by rw [← h2]; congr 1; omega, by rw [List.getElem_drop]; exact h3⟩
section
variable {c : Cx} {H : Heap} {ρ : Nat → Value} {M : List Zk} {K : Value → List Zk → Prop} {d : Option Nat} {ot : TypeId} {pos : String} {af : Array Edge} {g : Option (Nat × Bool)} {x y : Operand}
/-- the first ones of a slice of strings; and those behind them -/
theorem Runs_takeS {T el : TypeId} {k : IntKind} {v : Value} {l : List ByteArray} {H0 : Heap} {n : Nat} {i : Int} (hp : strR H0 v l) (hi : i = (n : Int)) (hn : n ≤ l.length) (hT : ∀ w, (underlying T).run c.P w = .ok (.slice el) w) (hsz : ∀ w, (sizeOf el).run c.P w = .ok 1 w) (hx : ev c.n ρ x = v) (hy : ev c.n ρ y = .int k i)
    (h : ∀ u, (∀ h, strR h v l → strR h u (l.take n)) → K u M) : Runs c H ⟨d, .slice T x none (some y) none, ot, pos, af, g⟩ ρ M K := fun F w m => by
  subst hi
  obtain ⟨a, cap, rfl, h1, h2⟩ := hp
  refine ⟨_, w, M, .inl ?_, m, h (.slice (if cap = 0 then a else a.map (·.add (0 * 1))) n cap) (fun h' q => q.take n hn)⟩
  have h3 : n ≤ cap := by omega
  simp [execOp, Instr.sliceAt, Instr.slice, Instr.sliceBounds, Instr.sliceBound, asIntOf, hx, hy, hT, hsz, Result.andThen, h3]
theorem Runs_dropS {T el : TypeId} {k : IntKind} {v : Value} {l : List ByteArray} {H0 : Heap} {n : Nat} {i : Int} (hp : strR H0 v l) (hi : i = (n : Int)) (hn : n ≤ l.length) (hT : ∀ w, (underlying T).run c.P w = .ok (.slice el) w) (hsz : ∀ w, (sizeOf el).run c.P w = .ok 1 w) (hx : ev c.n ρ x = v) (hy : ev c.n ρ y = .int k i)
    (h : ∀ u, (∀ h, strR h v l → strR h u (l.drop n)) → K u M) : Runs c H ⟨d, .slice T x (some y) none none, ot, pos, af, g⟩ ρ M K := fun F w m => by
  subst hi
  obtain ⟨a, cap, rfl, h1, h2⟩ := hp
  refine ⟨_, w, M, .inl ?_, m, h (.slice (if cap = n then a else a.map (·.add (n * 1))) (l.length - n) (cap - n)) (fun h' q => q.drop n hn)⟩
  simp [execOp, Instr.sliceAt, Instr.slice, Instr.sliceBounds, Instr.sliceBound, asIntOf, hx, hy, hT, hsz, Result.andThen, hn]
end
inductive Nm where
  | mk (kind num : Int) (ref : Sm) (names : List ByteArray) (kids : List Nm) (cases : List (Pt × List ByteArray × Nm))
namespace Nm
def kind : Nm → Int | .mk k _ _ _ _ _ => k
def num : Nm → Int | .mk _ n _ _ _ _ => n
def ref : Nm → Sm | .mk _ _ r _ _ _ => r
def names : Nm → List ByteArray | .mk _ _ _ l _ _ => l
def kids : Nm → List Nm | .mk _ _ _ _ l _ => l
def cases : Nm → List (Pt × List ByteArray × Nm) | .mk _ _ _ _ _ l => l
end Nm

theorem Nm.ind {P : Nm → Prop} (h : ∀ k n r ns kids cases, (∀ x ∈ kids, P x) → (∀ c ∈ cases, P c.2.2) → P (.mk k n r ns kids cases)) : ∀ t, P t := by
  have key : ∀ n (t : Nm), SizeOf.sizeOf t ≤ n → P t := by
    intro n
    induction n with
    | zero => intro t ht; cases t; simp at ht
    | succ n ih =>
      intro t ht
      cases t with
      | mk k m r ns kids cases =>
        refine h k m r ns kids cases (fun x hx => ih x ?_) (fun c hc => ih c.2.2 ?_)
        · have := List.sizeOf_lt_of_mem hx
          simp at ht
          omega
        · have := List.sizeOf_lt_of_mem hc
          have h2 : SizeOf.sizeOf c = 1 + SizeOf.sizeOf c.1 + (1 + SizeOf.sizeOf c.2.1 + SizeOf.sizeOf c.2.2) := by obtain ⟨a, b, c⟩ := c; rfl
          simp at ht
          omega
  exact fun t => key _ t (Nat.le_refl _)

/-- The cells of a term with names, and of a case. -/
def pkN (k n : Int) (r : Sm) (ns ks cs : Value) : List Value := pkT k n r ns ks ++ [cs]

mutual
def rdN (h : Heap) : Nm → List Value → Prop
  | .mk k n r ns kids cases, cs => ∃ nv ks cv, cs = pkN k n r nv ks cv ∧ inI k ∧ inI n ∧ strR h nv ns ∧ rdSl h kids.length ks (rdNs h kids) ∧ rdSl h cases.length cv (rdNCs h cases)
def rdNs (h : Heap) : List Nm → List Value → Nat → Prop
  | [], _, _ => True
  | p :: ps, row, o => (∃ cs, sub row o 37 = some cs ∧ rdN h p cs) ∧ rdNs h ps row (o + 37)
def rdNCs (h : Heap) : List (Pt × List ByteArray × Nm) → List Value → Nat → Prop
  | [], _, _ => True
  | (p, m, t) :: ps, row, o => (∃ cs, sub row o 73 = some cs ∧ ∃ a v b, cs = a ++ ([v] ++ b) ∧ RP h a p ∧ Hs.rdS RS 1 h v m ∧ rdN h t b) ∧ rdNCs h ps row (o + 73)
end

def RN (h : Heap) (cs : List Value) (t : Nm) : Prop := rdN h t cs
def RNC (h : Heap) (cs : List Value) (c : Pt × List ByteArray × Nm) : Prop := ∃ a v b, cs = a ++ ([v] ++ b) ∧ RP h a c.1 ∧ Hs.rdS RS 1 h v c.2.1 ∧ RN h b c.2.2

theorem rdNs_eq (h : Heap) (l : List Nm) : ∀ row o, rdNs h l row o = rows (RN h) 37 row o l := by
  induction l with
  | nil => intro row o; simp only [rdNs, rows]
  | cons p ps ih => intro row o; simp only [rdNs, rows, ih, RN]
theorem rdNCs_eq (h : Heap) (l : List (Pt × List ByteArray × Nm)) : ∀ row o, rdNCs h l row o = rows (RNC h) 73 row o l := by
  induction l with
  | nil => intro row o; simp only [rdNCs, rows]
  | cons p ps ih => intro row o; obtain ⟨a, m, b⟩ := p; simp only [rdNCs, rows, ih, RNC, RN]

theorem RN_mk {h : Heap} {cs : List Value} {k n : Int} {r : Sm} {ns : List ByteArray} {kids : List Nm} {cases : List (Pt × List ByteArray × Nm)} :
    RN h cs (.mk k n r ns kids cases) ↔ ∃ nv ks cv, cs = pkN k n r nv ks cv ∧ inI k ∧ inI n ∧ strR h nv ns ∧ Hs.rdS RN 37 h ks kids ∧ Hs.rdS RNC 73 h cv cases := by
  have e1 : rdNs h kids = fun row o => rows (RN h) 37 row o kids := by funext row o; exact rdNs_eq h kids row o
  have e2 : rdNCs h cases = fun row o => rows (RNC h) 73 row o cases := by funext row o; exact rdNCs_eq h cases row o
  rw [show RN h cs (.mk k n r ns kids cases) = rdN h (.mk k n r ns kids cases) cs from rfl]
  simp only [rdN]
  rw [e1, e2]
  rfl

theorem YQ {h : Heap} {cs : List Value} {t : Nm} (r : RN h cs t) : cs.length = 37 := by cases t; obtain ⟨nv, ks, cv, rfl, _⟩ := RN_mk.1 r; rfl
theorem RNC_len {h : Heap} {cs : List Value} {t : Pt × List ByteArray × Nm} (r : RNC h cs t) : cs.length = 73 := by obtain ⟨a, v, b, rfl, h1, _, h2⟩ := r; rw [List.length_append, List.length_append, ZJ h1, YQ h2]; rfl
theorem RN.mono {h h' : Heap} (hh : Hle h h') : ∀ {t cs}, RN h cs t → RN h' cs t := by
  intro t
  induction t using Nm.ind with
  | h k n r ns kids cases ih ih' =>
    intro cs q
    obtain ⟨nv, ks, cv, e, h1, h2, h0, h3, h4⟩ := RN_mk.1 q
    exact RN_mk.2 ⟨nv, ks, cv, e, h1, h2, h0.mono hh, h3.mono hh fun x hx cs q => ih x hx q, h4.mono hh fun x hx cs ⟨a, v, b, e, q1, q0, q2⟩ => ⟨a, v, b, e, q1.mono hh, RSs.mono hh q0, ih' x hx q2⟩⟩
theorem RNC.mono {h h' : Heap} (hh : Hle h h') {c cs} (q : RNC h cs c) : RNC h' cs c := by obtain ⟨a, v, b, e, q1, q0, q2⟩ := q; exact ⟨a, v, b, e, q1.mono hh, RSs.mono hh q0, q2.mono hh⟩
theorem RNs.mono {h h' : Heap} (hh : Hle h h') {v l} (q : Hs.rdS RN 37 h v l) : Hs.rdS RN 37 h' v l := rdS.mono q hh fun _ _ _ => RN.mono hh
theorem RNCs.mono {h h' : Heap} (hh : Hle h h') {v l} (q : Hs.rdS RNC 73 h v l) : Hs.rdS RNC 73 h' v l := rdS.mono q hh fun _ _ _ => RNC.mono hh
theorem RN_open {h : Heap} {cs : List Value} {t : Nm} (q : RN h cs t) : ∃ nv ks cv, cs = pkN t.kind t.num t.ref nv ks cv ∧ inI t.kind ∧ inI t.num ∧ strR h nv t.names ∧ Hs.rdS RN 37 h ks t.kids ∧ Hs.rdS RNC 73 h cv t.cases := by cases t; exact RN_mk.1 q

section
variable (k n : Int) (r : Sm) (ns ks cs : Value)
theorem pkN_0 : (pkN k n r ns ks cs)[0]? = some (.int .i64 k) := rfl
theorem pkN_1 : (pkN k n r ns ks cs)[1]? = some (.int .i64 n) := rfl
theorem pkN_2 : sub (pkN k n r ns ks cs) 2 32 = some (sC r) := rfl
theorem pkN_34 : (pkN k n r ns ks cs)[34]? = some ns := rfl
theorem pkN_35 : (pkN k n r ns ks cs)[35]? = some ks := rfl
theorem pkN_36 : (pkN k n r ns ks cs)[36]? = some cs := rfl
theorem pkN_a : sub (pkN k n r ns ks cs) 0 37 = some (pkN k n r ns ks cs) := rfl
theorem pkN_s1 (k' : Int) : spl (pkN k n r ns ks cs) 1 [.int .i64 k'] = some (pkN k k' r ns ks cs) := rfl
theorem pkN_s34 (v : Value) : spl (pkN k n r ns ks cs) 34 [v] = some (pkN k n r v ks cs) := rfl
theorem pkN_s35 (v : Value) : spl (pkN k n r ns ks cs) 35 [v] = some (pkN k n r ns v cs) := rfl
theorem pkN_s36 (v : Value) : spl (pkN k n r ns ks cs) 36 [v] = some (pkN k n r ns ks v) := rfl
theorem pkN_s (k' n' : Int) (r' : Sm) (ns' ks' cs' : Value) : spl (pkN k n r ns ks cs) 0 (pkN k' n' r' ns' ks' cs') = some (pkN k' n' r' ns' ks' cs') := rfl
theorem pkN_ok {k n : Int} {r : Sm} {ns ks cs : Value} (h0 : ns.oneCell' = true) (h : ks.oneCell' = true) (h' : cs.oneCell' = true) : okc (pkN k n r ns ks cs) := by
  exact Z3 (ZI h0 h) (Zm h' Zv)
end
theorem RN_ok {h : Heap} {cs : List Value} {t : Nm} (r : RN h cs t) : okc cs := by cases t; obtain ⟨nv, ks, cv, rfl, _, _, h0, h3, h4⟩ := RN_mk.1 r; exact pkN_ok h0.one h3.one h4.one
mutual
def ON : Nm → List Value → Zk → Prop
  | .mk k n r ns kids cases, cs, c => ∃ nv ks cv es es' k0 k1 k2 k3 k4, cs = pkN k n r nv ks cv ∧ inI k ∧ inI n ∧ Own 9 1 nv (ZP ns) k0 ∧ Own 32 37 ks es k1 ∧ ONs kids es k2 ∧ Own 85 73 cv es' k3 ∧ ONCs cases es' k4 ∧ c = k0 ++ (k1 ++ (k2 ++ (k3 ++ k4))) ∧
      ns.length ≤ 9223372036854775807 ∧ kids.length ≤ 9223372036854775807 ∧ cases.length ≤ 9223372036854775807
def ONs : List Nm → List (List Value) → Zk → Prop
  | [], es, c => es = [] ∧ c = []
  | p :: ps, es, c => ∃ e es' k k', es = e :: es' ∧ ON p e k ∧ ONs ps es' k' ∧ c = k ++ k'
def ONCs : List (Pt × List ByteArray × Nm) → List (List Value) → Zk → Prop
  | [], es, c => es = [] ∧ c = []
  | (p, m, t) :: ps, es, c => ∃ a v b es' ka km kb k', es = (a ++ ([v] ++ b)) :: es' ∧ OP p a ka ∧ Own 9 1 v (ZP m) km ∧ m.length ≤ 9223372036854775807 ∧ ON t b kb ∧ ONCs ps es' k' ∧ c = ka ++ (km ++ (kb ++ k'))
end
theorem ON_mk {k n : Int} {r : Sm} {ns : List ByteArray} {kids : List Nm} {cases : List (Pt × List ByteArray × Nm)} {cs : List Value} {c : Zk} : ON (.mk k n r ns kids cases) cs c ↔ ∃ nv ks cv es es' k0 k1 k2 k3 k4, cs = pkN k n r nv ks cv ∧ inI k ∧ inI n ∧ Own 9 1 nv (ZP ns) k0 ∧ Own 32 37 ks es k1 ∧ ONs kids es k2 ∧ Own 85 73 cv es' k3 ∧ ONCs cases es' k4 ∧ c = k0 ++ (k1 ++ (k2 ++ (k3 ++ k4))) ∧
      ns.length ≤ 9223372036854775807 ∧ kids.length ≤ 9223372036854775807 ∧ cases.length ≤ 9223372036854775807 := by
  rw [ON]
theorem ONs_len {l : List Nm} : ∀ {es c}, ONs l es c → es.length = l.length := by
  induction l with
  | nil => rintro es c h; rw [ONs] at h; rw [h.1]; rfl
  | cons p l ih => intro es c h; rw [ONs] at h; obtain ⟨e, es', k, k', rfl, _, h, _⟩ := h; simp [ih h]
theorem ONCs_len {l : List (Pt × List ByteArray × Nm)} : ∀ {es c}, ONCs l es c → es.length = l.length := by
  induction l with
  | nil => rintro es c h; rw [ONCs] at h; rw [h.1]; rfl
  | cons p l ih => intro es c h; obtain ⟨p, m, t⟩ := p; rw [ONCs] at h; obtain ⟨a, v, b, es', ka, km, kb, k', rfl, _, _, _, _, h, _⟩ := h; simp [ih h]
theorem ONs.nil : ONs [] [] [] := by rw [ONs]; exact ⟨rfl, rfl⟩
theorem ONCs.nil : ONCs [] [] [] := by rw [ONCs]; exact ⟨rfl, rfl⟩
theorem ONs.snoc {l : List Nm} {p : Nm} {e : List Value} {k : Zk} (h' : ON p e k) : ∀ {es c}, ONs l es c → ONs (l ++ [p]) (es ++ [e]) (c ++ k) := by
  induction l with
  | nil => intro es c h; rw [ONs] at h; rw [h.1, h.2]; simp only [List.nil_append]; rw [ONs]; exact ⟨e, [], k, [], rfl, h', ONs.nil, by simp⟩
  | cons q l ih =>
    intro es c h
    rw [ONs] at h
    obtain ⟨f, es', k1, k2, rfl, h1, h2, rfl⟩ := h
    simp only [List.cons_append]
    rw [ONs]
    exact ⟨f, _, k1, _, rfl, h1, ih h2, by rw [List.append_assoc]⟩
theorem ONCs.snoc {l : List (Pt × List ByteArray × Nm)} {p : Pt} {m : List ByteArray} {t : Nm} {a b : List Value} {v : Value} {ka km kb : Zk} (hp : OP p a ka) (hm : Own 9 1 v (ZP m) km) (hl : m.length ≤ 9223372036854775807) (ht : ON t b kb) : ∀ {es c}, ONCs l es c → ONCs (l ++ [(p, m, t)]) (es ++ [a ++ ([v] ++ b)]) (c ++ (ka ++ (km ++ kb))) := by
  induction l with
  | nil => intro es c h; rw [ONCs] at h; rw [h.1, h.2]; simp only [List.nil_append]; rw [ONCs]; exact ⟨a, v, b, [], ka, km, kb, [], rfl, hp, hm, hl, ht, ONCs.nil, by simp⟩
  | cons q l ih =>
    intro es c h
    obtain ⟨q, n, u⟩ := q
    rw [ONCs] at h
    obtain ⟨a', v', b', es', k1, k0, k2, k3, rfl, h1, h0, h00, h2, h3, rfl⟩ := h
    simp only [List.cons_append]
    rw [ONCs]
    exact ⟨a', v', b', _, k1, k0, k2, _, rfl, h1, h0, h00, h2, ih h3, by simp only [List.append_assoc]⟩
theorem ON.len {t : Nm} {cs : List Value} {c : Zk} (h : ON t cs c) : cs.length = 37 := by cases t; obtain ⟨_, _, _, _, _, _, _, _, _, _, rfl, _⟩ := ON_mk.1 h; rfl
theorem ON.ok {t : Nm} {cs : List Value} {c : Zk} (h : ON t cs c) : okc cs := by cases t; obtain ⟨_, _, _, _, _, _, _, _, _, _, rfl, _, _, h0, h, _, h', _⟩ := ON_mk.1 h; exact pkN_ok h0.one h.one h'.one
theorem ONs_rows {h : Heap} {l : List Nm} (ih : ∀ p ∈ l, ∀ cs c, ON p cs c → Has c h → RN h cs p) : ∀ {es c}, ONs l es c → Has c h → ∀ i (h1 : i < es.length) (h2 : i < l.length), RN h es[i] l[i] := by
  induction l with
  | nil => intro es c _ _ i _ h2; exact absurd h2 (by simp)
  | cons p l ih' =>
    intro es c ho hh i h1 h2
    rw [ONs] at ho
    obtain ⟨e, es', k, k', rfl, hp, hs, rfl⟩ := ho
    cases i with
    | zero => exact ih p (by simp) e k hp hh.left
    | succ i => exact ih' (fun q hq => ih q (by simp [hq])) hs hh.right i (by simpa using h1) (by simpa using h2)
theorem ONCs_rows {h : Heap} {l : List (Pt × List ByteArray × Nm)} (ih : ∀ p ∈ l, ∀ cs c, ON p.2.2 cs c → Has c h → RN h cs p.2.2) : ∀ {es c}, ONCs l es c → Has c h → ∀ i (h1 : i < es.length) (h2 : i < l.length), RNC h es[i] l[i] := by
  induction l with
  | nil => intro es c _ _ i _ h2; exact absurd h2 (by simp)
  | cons p l ih' =>
    intro es c ho hh i h1 h2
    obtain ⟨p, m, t⟩ := p
    rw [ONCs] at ho
    obtain ⟨a, v, b, es', ka, km, kb, k', rfl, hp, hm, hl, ht, hs, rfl⟩ := ho
    cases i with
    | zero => exact ⟨a, v, b, rfl, hp.rd hh.left, Yj hm hl hh.right.left, ih (p, m, t) (by simp) b kb ht hh.right.right.left⟩
    | succ i => exact ih' (fun q hq => ih q (by simp [hq])) hs hh.right.right.right i (by simpa using h1) (by simpa using h2)
theorem ON.rd {h : Heap} {t : Nm} : ∀ {cs c}, ON t cs c → Has c h → RN h cs t := by
  induction t using Nm.ind with
  | h k n r ns kids cases ih ih' =>
    intro cs c ho hh
    obtain ⟨nv, ks, cv, es, es', k0, k1, k2, k3, k4, rfl, hk, hn, ho0, ho1, ho2, ho3, ho4, rfl, hl0, hl, hl'⟩ := ON_mk.1 ho
    exact RN_mk.2 ⟨nv, ks, cv, rfl, hk, hn, strR.own ho0 hl0 hh.left, ho1.rdS (ONs_len ho2).symm hl hh.right.left (ONs_rows (fun p hp cs c => ih p hp) ho2 hh.right.right.left),
      ho3.rdS (ONCs_len ho4).symm hl' hh.right.right.right.left (ONCs_rows (fun p hp cs c => ih' p hp) ho4 hh.right.right.right.right)⟩
theorem ON_leaf {k n : Int} {r : Sm} (hk : inI k) (hn : inI n) : ON (.mk k n r [] [] []) (pkN k n r (.slice none 0 0) (.slice none 0 0) (.slice none 0 0)) [] :=
  ON_mk.2 ⟨_, _, _, [], [], [], [], [], [], [], rfl, hk, hn, Own.nil, Own.nil, ONs.nil, Own.nil, ONCs.nil, rfl, by simp, by simp, by simp⟩
def zN : Nm := .mk 0 0 zS [] [] []
theorem ON_zero : ON zN (pkN 0 0 zS (.slice none 0 0) (.slice none 0 0) (.slice none 0 0)) [] := ON_leaf (by unfold inI; omega) (by unfold inI; omega)
end Go.Proofs.YtmophpgiaiemhaaGreat.Hs
/-! Names: numbers of names, names of numbers, names that are free. -/
namespace Go.Proofs.YtmophpgiaiemhaaGreat.Hs
open Go Go.Proofs
set_option maxRecDepth 100000
theorem decode_high (s : ByteArray) (p : Nat) (h : p < s.size) (ha : ¬ (s[p]'h).toNat < 128) : 128 ≤ (Utf8.decode s p).1 ∧ (Utf8.decode s p).1 ≤ 1114111 ∧ 1 ≤ (Utf8.decode s p).2 := by
  have e : s.get! (p + 0) = s[p]'h := by
    show s.get! p = _
    simp [ByteArray.get!, getElem!_pos, h]
    rfl
  have hb : (s[p]'h).toNat < 256 := (s[p]'h).toNat_lt
  have hv : ∀ c : Nat, Utf8.valid c = true → c ≤ 1114111 := by
    intro c q
    simp only [Utf8.valid, Bool.or_eq_true, Bool.and_eq_true, decide_eq_true_eq] at q
    omega
  simp only [Utf8.decode, e, if_neg ha, Utf8.runeError]
  split
  · split
    · rename_i q; exact ⟨by simpa using q, by omega, by simp⟩
    · simp
  · split
    · split
      · rename_i q; simp only [Bool.and_eq_true, decide_eq_true_eq] at q; exact ⟨by omega, hv _ q.2, by simp⟩
      · simp
    · split
      · split
        · rename_i q; simp only [Bool.and_eq_true, decide_eq_true_eq] at q; exact ⟨by omega, hv _ q.2, by simp⟩
        · simp
      · simp
theorem bytes_drop (s : ByteArray) (p : Nat) (h : p < s.size) : s.data.toList.drop p = (s[p]'h) :: s.data.toList.drop (p + 1) := by
  rw [List.drop_eq_getElem_cons (by simpa using h)]; rfl
section
variable {c : Cx} {H : Heap} {ρ : Nat → Value} {M : List Zk} {K : Value → List Zk → Prop} {d : Option Nat} {ot : TypeId} {pos : String} {af : Array Edge} {g : Option (Nat × Bool)} {x y z : Operand}
theorem Runs_nextH {i r p : Nat} {s : ByteArray} (hx : ev c.n ρ x = .pointer (some ⟨r, 0, none⟩)) (hi : M[i]? = some (itC r s p)) (hp : p < s.size) (ha : ¬ (s[p]'hp).toNat < 128)
    (h : ∀ q k : Nat, 128 ≤ q → q ≤ 1114111 → 0 < k → K (.tuple ⟨[.bool true, .int .i64 p, .int .i32 (q : Int)]⟩) (M.set i (itC r s (p + k)))) : Runs c H ⟨d, .next x true, ot, pos, af, g⟩ ρ M K := fun F w m => by
  obtain ⟨h1, h2, h3⟩ := decode_high s p hp ha
  have hb : w.heap[r]? = some (.stringIter s p) := (m.perm ((Yk hi).append_right F)).own r _ (List.mem_cons_self ..)
  refine ⟨_, _, _, .inl ?_, m.put (o' := .stringIter s (p + (Utf8.decode s p).2)) hi, h (Utf8.decode s p).1 (Utf8.decode s p).2 h1 h2 (by omega)⟩
  have hg : (getObj r).run c.P w = .ok (.stringIter s p) w := by simp [getObj, Sem.run, hb]
  have hs : (setObj r (.stringIter s (p + (Utf8.decode s p).2))).run c.P w = .ok () { w with heap := w.heap.setIfInBounds r (.stringIter s (p + (Utf8.decode s p).2)) } := by simp [setObj, Sem.run, hb]
  simp only [execOp, Instr.next, hx, Sem.run_bind, hg, Result.andThen, hp, if_true, hs]
  simp [goInt]
end
/-- the number of a name, read on -/
def numL : Int → List UInt8 → Int
  | o, [] => o
  | o, c :: l => if c.toNat < 97 ∨ 122 < c.toNat ∨ 1073741824 < o then -1 else numL ((o + 1) * 26 + ((c.toNat : Int) - 97)) l
def numS (s : ByteArray) : Int := numL (-1) s.data.toList
/-- the name of a number -/
def nmL (n : Nat) : List UInt8 := if h : n < 26 then [UInt8.ofNat (97 + n)] else nmL (n / 26 - 1) ++ [UInt8.ofNat (97 + n % 26)]
termination_by n
decreasing_by omega
def YU (n : Nat) : ByteArray := ⟨⟨nmL n⟩⟩
theorem nameS_lt {n : Nat} (h : n < 26) : YU n = ltr n := by
  rw [YU, nmL, dif_pos h]; rfl
theorem nameS_ge {n : Nat} (h : ¬ n < 26) : YU n = YU (n / 26 - 1) ++ ltr (n % 26) := by
  apply ByteArray.ext
  rw [ByteArray.data_append]
  apply Array.ext'
  rw [Array.toList_append, YU, nmL, dif_neg h]
  rfl
theorem nmL_len (n : Nat) : (nmL n).length ≤ n + 1 := by
  induction n using Nat.strongRecOn with
  | _ n ih =>
    rw [nmL]
    split
    · simp
    · have := ih (n / 26 - 1) (by omega)
      rw [List.length_append, List.length_singleton]
      omega
theorem nameS_size (n : Nat) : (YU n).size ≤ n + 1 := nmL_len n
theorem numL_app (l : List UInt8) (c : UInt8) : ∀ o : Int, numL o l ≠ -1 ∨ l = [] → numL o (l ++ [c]) = numL (numL o l) [c] := by
  induction l with
  | nil => intro o _; rfl
  | cons d l ih =>
    intro o h
    rcases h with h | h
    · rw [List.cons_append, numL]
      rw [numL] at h
      rw [show numL o (d :: l) = if d.toNat < 97 ∨ 122 < d.toNat ∨ 1073741824 < o then -1 else numL ((o + 1) * 26 + ((d.toNat : Int) - 97)) l from rfl]
      split
      · rename_i q; rw [if_pos q] at h; exact absurd rfl h
      · rename_i q
        rw [if_neg q] at h
        exact ih _ (.inl h)
    · cases h
theorem letter (i : Nat) (h : i < 26) : (UInt8.ofNat (97 + i)).toNat = 97 + i := by simp; omega
theorem num_name (n : Nat) (hn : n ≤ 1073741824) : numS (YU n) = n := by
  show numL (-1) (nmL n) = n
  induction n using Nat.strongRecOn with
  | _ n ih =>
    rw [nmL]
    split
    · rename_i h
      rw [numL, letter n h, if_neg (by omega)]
      show (-1 + 1) * 26 + (((97 + n : Nat) : Int) - 97) = n
      omega
    · rename_i h
      have e := ih (n / 26 - 1) (by omega) (by omega)
      rw [numL_app _ _ _ (.inl (by omega)), e, numL, letter (n % 26) (by omega), if_neg (by omega)]
      show ((((n / 26 - 1 : Nat) : Int)) + 1) * 26 + (((97 + n % 26 : Nat) : Int) - 97) = n
      omega
theorem name_inj {n m : Nat} (hn : n ≤ 1073741824) (hm : m ≤ 1073741824) (h : YU n = YU m) : n = m := by
  have h1 := num_name n hn
  have h2 := num_name m hm
  rw [h] at h1
  omega
end Go.Proofs.YtmophpgiaiemhaaGreat.Hs
/-! Names that are chosen; the term with names of a term. -/
namespace Go.Proofs.YtmophpgiaiemhaaGreat.Hs
open Go Go.Proofs
set_option maxRecDepth 100000
theorem bytes_getD (s : ByteArray) (p : Nat) (h : p < s.size) : s.data.toList.getD p 0 = s[p]'h := by
  have : p < s.data.toList.length := by simpa using h
  rw [List.getD_eq_getElem?_getD, List.getElem?_eq_getElem this]; rfl
theorem drop_getD {s : ByteArray} {p : Nat} (h : p < s.size) : s.data.toList.drop p = s.data.toList.getD p 0 :: s.data.toList.drop (p + 1) := by
  rw [bytes_getD s p h]; exact bytes_drop s p h
theorem drop_end {s : ByteArray} {p : Nat} (h : ¬ p < s.size) : s.data.toList.drop p = [] := List.drop_eq_nil_of_le (show s.data.toList.length ≤ p by
  have : s.data.toList.length = s.size := rfl
  omega)
section
variable {c : Cx} {H : Heap} {ρ : Nat → Value} {M : List Zk} {K : Value → List Zk → Prop} {d : Option Nat} {ot : TypeId} {pos : String} {af : Array Edge} {g : Option (Nat × Bool)} {x y z : Operand}
theorem Runs_nextG {i r p : Nat} {s : ByteArray} (hx : ev c.n ρ x = .pointer (some ⟨r, 0, none⟩)) (hi : M[i]? = some (itC r s p)) (hp : p < s.size) (ha : (s.data.toList.getD p 0).toNat < 128)
    (h : K (.tuple ⟨[.bool true, .int .i64 p, .int .i32 ((s.data.toList.getD p 0).toNat : Int)]⟩) (M.set i (itC r s (p + 1)))) : Runs c H ⟨d, .next x true, ot, pos, af, g⟩ ρ M K := by
  rw [bytes_getD s p hp] at ha h
  exact Runs_nextA hx hi hp ha h
theorem Runs_nextG2 {i r p : Nat} {s : ByteArray} (hx : ev c.n ρ x = .pointer (some ⟨r, 0, none⟩)) (hi : M[i]? = some (itC r s p)) (hp : p < s.size) (ha : ¬ (s.data.toList.getD p 0).toNat < 128)
    (h : ∀ q k : Nat, 128 ≤ q → q ≤ 1114111 → 0 < k → K (.tuple ⟨[.bool true, .int .i64 p, .int .i32 (q : Int)]⟩) (M.set i (itC r s (p + k)))) : Runs c H ⟨d, .next x true, ot, pos, af, g⟩ ρ M K := by
  rw [bytes_getD s p hp] at ha
  exact Runs_nextH hx hi hp ha h
end
theorem bls_rep (n : Nat) : (List.replicate n [Value.bool false]).flatten = bls (List.replicate n false) := by
  induction n with
  | zero => rfl
  | succ n ih => rw [List.replicate_succ, List.flatten_cons, ih, List.replicate_succ]; rfl
def mkS (x : ByteArray) (l : List Bool) : List Bool := if 0 ≤ numS x ∧ numS x < (l.length : Int) then l.set (numS x).toNat true else l
theorem mkS_len (x : ByteArray) (l : List Bool) : (mkS x l).length = l.length := by unfold mkS; split <;> simp
def mkA : List ByteArray → List Bool → List Bool
  | [], l => l
  | x :: s, l => mkA s (mkS x l)
theorem mkA_len (s : List ByteArray) : ∀ l, (mkA s l).length = l.length := by
  induction s with
  | nil => intro l; rfl
  | cons x s ih => intro l; rw [mkA, ih, mkS_len]
/-- the first place that is not marked -/
def ffN : List Bool → Nat
  | [] => 0
  | true :: l => ffN l + 1
  | false :: _ => 0
def cntT : List Bool → Nat
  | [] => 0
  | b :: l => (if b then 1 else 0) + cntT l
theorem cntT_rep (n : Nat) : cntT (List.replicate n false) = 0 := by
  induction n with
  | zero => rfl
  | succ n ih => rw [List.replicate_succ, cntT, ih]; rfl
theorem cntT_set (l : List Bool) : ∀ i, cntT (l.set i true) ≤ cntT l + 1 := by
  induction l with
  | nil => intro i; simp [cntT]
  | cons b l ih =>
    intro i
    cases i with
    | zero => simp only [List.set_cons_zero, cntT]; cases b <;> simp <;> omega
    | succ i => simp only [List.set_cons_succ, cntT]; have := ih i; omega
theorem cntT_mk (x : ByteArray) (l : List Bool) : cntT (mkS x l) ≤ cntT l + 1 := by
  unfold mkS; split
  · exact cntT_set _ _
  · omega
theorem cntT_mkA (s : List ByteArray) : ∀ l, cntT (mkA s l) ≤ cntT l + s.length := by
  induction s with
  | nil => intro l; simp [mkA]
  | cons x s ih => intro l; rw [mkA]; have h1 := ih (mkS x l); have h2 := cntT_mk x l; simp only [List.length_cons]; omega
theorem ff_lt (l : List Bool) (h : cntT l < l.length) : ffN l < l.length := by
  induction l with
  | nil => simp [cntT] at h
  | cons b l ih =>
    cases b with
    | false => simp [ffN]
    | true => simp only [cntT, if_true, List.length_cons] at h; have := ih (by omega); simp only [ffN, List.length_cons]; omega
theorem ff_fst (l : List Bool) : cntT l < l.length → ∀ i, fstB false l i = ((ffN l + i : Nat) : Int) := by
  induction l with
  | nil => intro h; simp [cntT] at h
  | cons b l ih =>
    intro h i
    cases b with
    | false => simp [fstB, ffN]
    | true =>
      simp only [cntT, if_true, List.length_cons] at h
      rw [fstB, if_neg (by decide), ih (by omega), ffN]
      congr 1; omega
theorem ff_false (l : List Bool) (h : cntT l < l.length) : l[ffN l]? = some false := by
  induction l with
  | nil => simp [cntT] at h
  | cons b l ih =>
    cases b with
    | false => rfl
    | true => simp only [cntT, if_true, List.length_cons] at h; rw [ffN, List.getElem?_cons_succ]; exact ih (by omega)
def pickN : List Bool → Nat → List ByteArray
  | _, 0 => []
  | l, m + 1 => YU (ffN l) :: pickN (l.set (ffN l) true) m
/-- so many names that are not in a list, as one looks for them -/
def ZK (s : List ByteArray) (m : Nat) : List ByteArray := pickN (mkA s (List.replicate (s.length + m) false)) m
theorem pick_len (m : Nat) : ∀ l, (pickN l m).length = m := by
  induction m with
  | zero => intro l; rfl
  | succ m ih => intro l; rw [pickN, List.length_cons, ih]
theorem ZV (s : List ByteArray) (m : Nat) : (ZK s m).length = m := pick_len _ _
theorem pick_succ (l : List Bool) {m j : Nat} (h : j < m) : pickN l (m - j) = YU (ffN l) :: pickN (l.set (ffN l) true) (m - (j + 1)) := by
  obtain ⟨q, hq⟩ : ∃ q, m - j = q + 1 := ⟨m - j - 1, by omega⟩
  rw [hq, pickN, show m - (j + 1) = q from by omega]
def ZF (s m : List ByteArray) : List ByteArray := m.reverse ++ s
theorem Yh (s m : List ByteArray) : (ZF s m).length = s.length + m.length := by rw [ZF, List.length_append, List.length_reverse, Nat.add_comm]

def ltr0 : ByteArray := ltr 0
def Yv (k : Int) (s : List ByteArray) : Nat → List Tm → List ByteArray
  | _, [] => []
  | i, _ :: l => ZK s (more k i).toNat ++ Yv k s (i + 1) l
/-- the name of a variable -/
def vN (k n : Int) (s : List ByteArray) : List ByteArray := if k = 1 then [s.getD n.toNat ltr0] else []
theorem vN_pos {k n : Int} {s : List ByteArray} (h : k = 1) (hn : n.toNat < s.length) : vN k n s = [s[n.toNat]] := by
  rw [vN, if_pos h, List.getD_eq_getElem?_getD, List.getElem?_eq_getElem hn]; rfl
theorem vN_neg {k n : Int} {s : List ByteArray} (h : ¬ k = 1) : vN k n s = [] := by rw [vN, if_neg h]
theorem vN_len (k n : Int) (s : List ByteArray) : (vN k n s).length ≤ 1 := by unfold vN; split <;> simp
mutual
def nmT : Tm → List ByteArray → Nm
  | .mk k n r kids cases, s => .mk k (if k = 1 then 0 else n) r (vN k n s ++ Yv k s 0 kids) (Y4 k s 0 kids) (YX s cases)
def Y4 (k : Int) (s : List ByteArray) : Nat → List Tm → List Nm
  | _, [] => []
  | i, t :: l => nmT t (ZF s (ZK s (more k i).toNat)) :: Y4 k s (i + 1) l
def YX (s : List ByteArray) : List (Pt × Tm) → List (Pt × List ByteArray × Nm)
  | [] => []
  | (p, t) :: l => (p, ZK s (binds p), nmT t (ZF s (ZK s (binds p)))) :: YX s l
end
theorem nmNs_take (k : Int) (s : List ByteArray) (l : List Tm) : ∀ (i j : Nat), j < l.length → Yv k s i (l.take (j + 1)) = Yv k s i (l.take j) ++ ZK s (more k ((i + j : Nat) : Int)).toNat := by
  induction l with
  | nil => intro i j h; simp at h
  | cons t l ih =>
    intro i j h
    cases j with
    | zero => simp [Yv]
    | succ j =>
      simp only [List.take_succ_cons, Yv]
      rw [ih (i + 1) j (by simpa using h), List.append_assoc, show i + 1 + j = i + (j + 1) from by omega]
theorem nmKs_len (k : Int) (s : List ByteArray) (l : List Tm) : ∀ i, (Y4 k s i l).length = l.length := by
  induction l with
  | nil => intro i; simp [Y4]
  | cons t l ih => intro i; simp [Y4, ih]
theorem nmCs_len (s : List ByteArray) (l : List (Pt × Tm)) : (YX s l).length = l.length := by
  induction l with
  | nil => simp [YX]
  | cons c l ih => obtain ⟨p, t⟩ := c; simp [YX, ih]
theorem nmKs_take (k : Int) (s : List ByteArray) (l : List Tm) : ∀ (i j : Nat) (h : j < l.length), Y4 k s i (l.take (j + 1)) = Y4 k s i (l.take j) ++ [nmT l[j] (ZF s (ZK s (more k ((i + j : Nat) : Int)).toNat))] := by
  induction l with
  | nil => intro i j h; simp at h
  | cons t l ih =>
    intro i j h
    cases j with
    | zero => simp [Y4]
    | succ j =>
      simp only [List.take_succ_cons, Y4, List.getElem_cons_succ]
      rw [ih (i + 1) j (by simpa using h), show i + 1 + j = i + (j + 1) from by omega]
      rfl
theorem nmKs_take0 (k : Int) (s : List ByteArray) (l : List Tm) (j : Nat) (h : j < l.length) : Y4 k s 0 (l.take (j + 1)) = Y4 k s 0 (l.take j) ++ [nmT l[j] (ZF s (ZK s (more k (j : Int)).toNat))] := by
  have := nmKs_take k s l 0 j h; rwa [Nat.zero_add] at this
theorem nmNs_take0 (k : Int) (s : List ByteArray) (l : List Tm) (j : Nat) (h : j < l.length) : Yv k s 0 (l.take (j + 1)) = Yv k s 0 (l.take j) ++ ZK s (more k (j : Int)).toNat := by
  have := nmNs_take k s l 0 j h; rwa [Nat.zero_add] at this
theorem nmCs_take (s : List ByteArray) (l : List (Pt × Tm)) : ∀ (j : Nat) (h : j < l.length), YX s (l.take (j + 1)) = YX s (l.take j) ++ [(l[j].1, ZK s (binds l[j].1), nmT l[j].2 (ZF s (ZK s (binds l[j].1))))] := by
  induction l with
  | nil => intro j h; simp at h
  | cons c l ih =>
    intro j h
    obtain ⟨p, t⟩ := c
    cases j with
    | zero => simp [YX]
    | succ j =>
      simp only [List.take_succ_cons, YX, List.getElem_cons_succ]
      rw [ih j (by simpa using h)]
      rfl
/-! all variables are among so many -/
mutual
def scT : Nat → Tm → Prop
  | n, .mk k m _ kids cases => (k = 1 → 0 ≤ m ∧ m < (n : Int)) ∧ scKs n k 0 kids ∧ scCs n cases
def scKs (n : Nat) (k : Int) : Nat → List Tm → Prop
  | _, [] => True
  | i, t :: l => scT (n + (more k i).toNat) t ∧ scKs n k (i + 1) l
def scCs (n : Nat) : List (Pt × Tm) → Prop
  | [] => True
  | (p, t) :: l => scT (n + binds p) t ∧ scCs n l
end
theorem scKs_get (n : Nat) (k : Int) (l : List Tm) : ∀ (i j : Nat) (h : j < l.length), scKs n k i l → scT (n + (more k ((i + j : Nat) : Int)).toNat) l[j] := by
  induction l with
  | nil => intro i j h; simp at h
  | cons t l ih =>
    intro i j h q
    rw [scKs] at q
    cases j with
    | zero => exact q.1
    | succ j => have := ih (i + 1) j (by simpa using h) q.2; rw [show i + 1 + j = i + (j + 1) from by omega] at this; exact this
theorem scKs_get0 {n : Nat} {k : Int} {l : List Tm} {j : Nat} (h : j < l.length) (q : scKs n k 0 l) : scT (n + (more k (j : Int)).toNat) l[j] := by
  have := scKs_get n k l 0 j h q; rwa [Nat.zero_add] at this
theorem scCs_get {n : Nat} {l : List (Pt × Tm)} : ∀ {j : Nat} (h : j < l.length), scCs n l → scT (n + binds l[j].1) l[j].2 := by
  induction l with
  | nil => intro j h; simp at h
  | cons c l ih =>
    intro j h q
    obtain ⟨p, t⟩ := c
    rw [scCs] at q
    cases j with
    | zero => exact q.1
    | succ j => exact ih (by simpa using h) q.2
end Go.Proofs.YtmophpgiaiemhaaGreat.Hs
/-! Terms with names: how many nodes; Name and Nameless. -/
namespace Go.Proofs.YtmophpgiaiemhaaGreat.Hs
open Go Go.Proofs
set_option maxRecDepth 100000
theorem RNC_mk {h : Heap} {c : Pt × List ByteArray × Nm} {a b : List Value} {v : Value} (h1 : RP h a c.1) (h2 : Hs.rdS RS 1 h v c.2.1) (h3 : RN h b c.2.2) : RNC h (a ++ ([v] ++ b)) c := ⟨a, v, b, rfl, h1, h2, h3⟩
theorem sub_app_r {a b c : List Value} {n i m : Nat} (hn : a.length = n) (h : sub b i m = some c) : sub (a ++ b) (n + i) m = some c := by
  obtain ⟨h1, h2⟩ := sub_some h
  rw [sub_mk (by rw [List.length_append]; omega), h2, ← hn, List.drop_length_add_append]
theorem nodup_take {l : List ByteArray} {j : Nat} (h : j < l.length) (hn : (l.take j).Nodup) (hd : ((l.take j).any (fun y => decide (l[j] = y))) = false) : (l.take (j + 1)).Nodup := by
  rw [List.take_succ_eq_append_getElem h, List.nodup_append]
  refine ⟨hn, by simp, fun a ha b hb => ?_⟩
  rw [List.mem_singleton] at hb
  subst hb
  intro e
  subst e
  rw [List.any_eq_false] at hd
  exact hd _ ha (by simp)
theorem dup_mem {l : List ByteArray} {j : Nat} (h : j < l.length) (hd : ((l.take j).any (fun y => decide (l[j] = y))) = true) : ¬ l.Nodup := by
  obtain ⟨y, h1, h2⟩ := List.any_eq_true.1 hd
  have e : l[j] = y := of_decide_eq_true h2
  subst e
  obtain ⟨i, hi, e⟩ := List.getElem_of_mem h1
  rw [List.length_take] at hi
  rw [List.getElem_take] at e
  intro hn
  have := (List.getElem_inj (h₀ := by omega) (h₁ := h) hn).1 e
  omega
def fstA {α : Type} (p : α → Bool) : List α → Nat → Int
  | [], _ => -1
  | x :: l, i => if p x = true then (i : Int) else fstA p l (i + 1)
theorem fstA_any {α : Type} (p : α → Bool) (l : List α) : ∀ i, decide (0 ≤ fstA p l i) = l.any p := by
  induction l with
  | nil => intro i; simp [fstA]
  | cons x l ih =>
    intro i
    rw [fstA, List.any_cons]
    by_cases h : p x = true
    · rw [if_pos h, h]; simp
    · rw [if_neg h, ih, Bool.eq_false_iff.2 h]; rfl
/-! without names -/
mutual
def skN : Nm → Tm
  | .mk k n r _ kids cases => .mk k n r (skNs kids) (skNCs cases)
def skNs : List Nm → List Tm
  | [] => []
  | x :: l => skN x :: skNs l
def skNCs : List (Pt × List ByteArray × Nm) → List (Pt × Tm)
  | [] => []
  | (p, _, x) :: l => (p, skN x) :: skNCs l
end
def cnN (st : Int → Int → Bool) (d : Int) (x : Nm) (n : Int) : Bool × Int := cnT st d (skN x) n
def cnNC (st : Int → Int → Bool) (d : Int) (c : Pt × List ByteArray × Nm) (n : Int) : Bool × Int := cnC st d (c.1, skN c.2.2) n
theorem anyS_skNs (st : Int → Int → Bool) (d : Int) (l : List Nm) : ∀ n, ZS (cnT st d) (skNs l) n = ZS (cnN st d) l n := by
  induction l with
  | nil => intro n; rw [skNs, ZS, ZS]
  | cons x l ih => intro n; rw [skNs, ZS, ZS, ih]; rfl
theorem anyS_skNCs (st : Int → Int → Bool) (d : Int) (l : List (Pt × List ByteArray × Nm)) : ∀ n, ZS (cnC st d) (skNCs l) n = ZS (cnNC st d) l n := by
  induction l with
  | nil => intro n; rw [skNCs, ZS, ZS]
  | cons c l ih => intro n; obtain ⟨p, m, x⟩ := c; rw [skNCs, ZS, ZS, ih]; rfl
theorem cnN_keep {st : Int → Int → Bool} {B : Int} (hst : ∀ n d, st n d = false → n ≤ B) (t : Nm) (d n : Int) (h0 : 0 ≤ n) (h : (cnN st d t n).1 = false) : 0 ≤ (cnN st d t n).2 ∧ (cnN st d t n).2 ≤ B := cnT_keep hst _ d n h0 h
theorem cnNC_keep {st : Int → Int → Bool} {B : Int} (hst : ∀ n d, st n d = false → n ≤ B) (c : Pt × List ByteArray × Nm) (d n : Int) (h0 : 0 ≤ n) (h : (cnNC st d c n).1 = false) : 0 ≤ (cnNC st d c n).2 ∧ (cnNC st d c n).2 ≤ B := cnC_keep hst _ d n h0 h
theorem anyN_keep {st : Int → Int → Bool} {B : Int} (hst : ∀ n d, st n d = false → n ≤ B) (l : List Nm) (d n : Int) (h0 : 0 ≤ n) (hB : n ≤ B) (h : (ZS (cnN st d) l n).1 = false) : 0 ≤ (ZS (cnN st d) l n).2 ∧ (ZS (cnN st d) l n).2 ≤ B :=
  idxS_inv (Inv := fun n => 0 ≤ n ∧ n ≤ B) (fun x _ s hs hf => cnN_keep hst x d s hs.1 hf) n ⟨h0, hB⟩ h
theorem cnN_eq (st : Int → Int → Bool) (d : Int) (k m : Int) (r : Sm) (ns : List ByteArray) (kids : List Nm) (cases : List (Pt × List ByteArray × Nm)) (n : Int) :
    cnN st d (.mk k m r ns kids cases) n = if st (n + 1) d = true then (true, n + 1) else if (ZS (cnN st (d + 1)) kids (n + 1)).1 = true then (true, (ZS (cnN st (d + 1)) kids (n + 1)).2) else ZS (cnNC st (d + 1)) cases (ZS (cnN st (d + 1)) kids (n + 1)).2 := by
  rw [cnN, skN, cnT, cnTs_any, cnCs_any, anyS_skNs, anyS_skNCs]
/-! how many names a node has -/
def Yx (k : Int) (c : Nat) : Int := if k = 1 ∨ k = 3 ∨ k = 5 then 1 else if k = 12 ∧ 1 < c then 2 * (c : Int) - 3 else 0
def fitC (c : Pt × List ByteArray × Nm) : Bool := decide (c.2.1.length = binds c.1)
theorem fstS_bound (x : ByteArray) (l : List ByteArray) : ∀ i : Nat, YL x l i = -1 ∨ (i : Int) ≤ YL x l i ∧ YL x l i < (i : Int) + l.length := by
  induction l with
  | nil => intro i; exact .inl rfl
  | cons y l ih =>
    intro i
    rw [YL]
    split
    · right; simp only [List.length_cons]; omega
    · have := ih (i + 1); simp only [List.length_cons]; omega
/-- the names of a Kid, and those that are left -/
def inN (k : Int) (i : Nat) (s ns : List ByteArray) : List ByteArray := if 0 < more k i ∧ (more k i).toNat ≤ ns.length then ZF s (ns.take (more k i).toNat) else s
def lfN (k : Int) (i : Nat) (ns : List ByteArray) : List ByteArray := if 0 < more k i ∧ (more k i).toNat ≤ ns.length then ns.drop (more k i).toNat else ns
mutual
def nlT : Nm → List ByteArray → Tm × Int
  | .mk k n r ns kids cases, s =>
    if ¬ (ns.length : Int) = Yx k kids.length ∨ ¬ cases.all fitC = true then (zT, 2)
    else if k = 1 ∧ ¬ n = 0 then (zT, 7)
    else if k = 1 ∧ YL (ns.getD 0 ltr0) s 0 < 0 then (zT, 1)
    else if ¬ (nlKs k s ns 0 kids).2 = 0 then (zT, (nlKs k s ns 0 kids).2)
    else if ¬ (nlCs s cases).2 = 0 then (zT, (nlCs s cases).2)
    else (.mk k (if k = 1 then YL (ns.getD 0 ltr0) s 0 else n) r (nlKs k s ns 0 kids).1 (nlCs s cases).1, 0)
def nlKs (k : Int) (s : List ByteArray) : List ByteArray → Nat → List Nm → List Tm × Int
  | _, _, [] => ([], 0)
  | ns, i, x :: l =>
    if ¬ (nlT x (inN k i s ns)).2 = 0 then ([], (nlT x (inN k i s ns)).2)
    else ((nlT x (inN k i s ns)).1 :: (nlKs k s (lfN k i ns) (i + 1) l).1, (nlKs k s (lfN k i ns) (i + 1) l).2)
def nlCs (s : List ByteArray) : List (Pt × List ByteArray × Nm) → List (Pt × Tm) × Int
  | [] => ([], 0)
  | (p, m, x) :: l =>
    if ¬ (nlT x (ZF s m)).2 = 0 then ([], (nlT x (ZF s m)).2)
    else ((p, (nlT x (ZF s m)).1) :: (nlCs s l).1, (nlCs s l).2)
end
theorem nlKs_cons {k : Int} {s ns : List ByteArray} {i : Nat} {l : List Nm} {j : Nat} (h : j < l.length) : nlKs k s ns i (l.drop j) =
    if ¬ (nlT l[j] (inN k i s ns)).2 = 0 then ([], (nlT l[j] (inN k i s ns)).2)
    else ((nlT l[j] (inN k i s ns)).1 :: (nlKs k s (lfN k i ns) (i + 1) (l.drop (j + 1))).1, (nlKs k s (lfN k i ns) (i + 1) (l.drop (j + 1))).2) := by
  rw [Yt h, nlKs]
theorem nlCs_cons {s : List ByteArray} {l : List (Pt × List ByteArray × Nm)} {j : Nat} (h : j < l.length) : nlCs s (l.drop j) =
    if ¬ (nlT l[j].2.2 (ZF s l[j].2.1)).2 = 0 then ([], (nlT l[j].2.2 (ZF s l[j].2.1)).2)
    else ((l[j].1, (nlT l[j].2.2 (ZF s l[j].2.1)).1) :: (nlCs s (l.drop (j + 1))).1, (nlCs s (l.drop (j + 1))).2) := by
  rw [Yt h]
  generalize l[j] = c
  obtain ⟨p, m, x⟩ := c
  rw [nlCs]
section
variable {k n : Int} {r : Sm} {ns s : List ByteArray} {kids : List Nm} {cases : List (Pt × List ByteArray × Nm)}
theorem nl_e2a (h : ¬ (ns.length : Int) = Yx k kids.length) : nlT (.mk k n r ns kids cases) s = (zT, 2) := by rw [nlT, if_pos (.inl h)]
theorem nl_e2b (h : cases.all fitC = false) : nlT (.mk k n r ns kids cases) s = (zT, 2) := by rw [nlT, if_pos (.inr (by rw [h]; decide))]
theorem nl_q (h1 : (ns.length : Int) = Yx k kids.length) (h2 : cases.all fitC = true) : ¬ (¬ (ns.length : Int) = Yx k kids.length ∨ ¬ cases.all fitC = true) := by
  rintro (q | q)
  · exact q h1
  · exact q h2
theorem nl_e7 (h1 : (ns.length : Int) = Yx k kids.length) (h2 : cases.all fitC = true) (h : k = 1 ∧ ¬ n = 0) : nlT (.mk k n r ns kids cases) s = (zT, 7) := by
  rw [nlT, if_neg (nl_q h1 h2), if_pos h]
theorem nl_e1 (h1 : (ns.length : Int) = Yx k kids.length) (h2 : cases.all fitC = true) (h3 : ¬ (k = 1 ∧ ¬ n = 0)) (h : k = 1 ∧ YL (ns.getD 0 ltr0) s 0 < 0) : nlT (.mk k n r ns kids cases) s = (zT, 1) := by
  rw [nlT, if_neg (nl_q h1 h2), if_neg h3, if_pos h]
theorem nl_eK (h1 : (ns.length : Int) = Yx k kids.length) (h2 : cases.all fitC = true) (h3 : ¬ (k = 1 ∧ ¬ n = 0)) (h4 : ¬ (k = 1 ∧ YL (ns.getD 0 ltr0) s 0 < 0)) (h : ¬ (nlKs k s ns 0 kids).2 = 0) : nlT (.mk k n r ns kids cases) s = (zT, (nlKs k s ns 0 kids).2) := by
  rw [nlT, if_neg (nl_q h1 h2), if_neg h3, if_neg h4, if_pos h]
theorem nl_eC (h1 : (ns.length : Int) = Yx k kids.length) (h2 : cases.all fitC = true) (h3 : ¬ (k = 1 ∧ ¬ n = 0)) (h4 : ¬ (k = 1 ∧ YL (ns.getD 0 ltr0) s 0 < 0)) (h5 : (nlKs k s ns 0 kids).2 = 0) (h : ¬ (nlCs s cases).2 = 0) : nlT (.mk k n r ns kids cases) s = (zT, (nlCs s cases).2) := by
  rw [nlT, if_neg (nl_q h1 h2), if_neg h3, if_neg h4, if_neg (fun q => q h5), if_pos h]
theorem nl_ok (h1 : (ns.length : Int) = Yx k kids.length) (h2 : cases.all fitC = true) (h3 : ¬ (k = 1 ∧ ¬ n = 0)) (h4 : ¬ (k = 1 ∧ YL (ns.getD 0 ltr0) s 0 < 0)) (h5 : (nlKs k s ns 0 kids).2 = 0) (h6 : (nlCs s cases).2 = 0) : nlT (.mk k n r ns kids cases) s = (.mk k (if k = 1 then YL (ns.getD 0 ltr0) s 0 else n) r (nlKs k s ns 0 kids).1 (nlCs s cases).1, 0) := by
  rw [nlT, if_neg (nl_q h1 h2), if_neg h3, if_neg h4, if_neg (fun q => q h5), if_neg (fun q => q h6)]
theorem getD0 {l : List ByteArray} (h : 0 < l.length) : l.getD 0 ltr0 = l[0] := by
  rw [List.getD_eq_getElem?_getD, List.getElem?_eq_getElem h]; rfl
theorem many_one (c : Nat) : Yx 1 c = 1 := by simp [Yx]
theorem fit_mem {l : List (Pt × List ByteArray × Nm)} (h : l.all fitC = true) {c : Pt × List ByteArray × Nm} (hc : c ∈ l) : c.2.1.length = binds c.1 := of_decide_eq_true ((List.all_eq_true.1 h) c hc)
theorem in_pos {i : Nat} (h1 : 0 < more k i) (h2 : (more k i).toNat ≤ ns.length) : inN k i s ns = ZF s (ns.take (more k i).toNat) ∧ lfN k i ns = ns.drop (more k i).toNat := by
  rw [inN, lfN, if_pos ⟨h1, h2⟩, if_pos ⟨h1, h2⟩]; exact ⟨rfl, rfl⟩
theorem in_neg {i : Nat} (h : ¬ (0 < more k i ∧ (more k i).toNat ≤ ns.length)) : inN k i s ns = s ∧ lfN k i ns = ns := by
  rw [inN, lfN, if_neg h, if_neg h]; exact ⟨rfl, rfl⟩
/-- the sizes of Kids and cases -/
theorem sk_len (l : List Nm) : (skNs l).length = l.length := by
  induction l with
  | nil => rfl
  | cons x l ih => simp [skNs, ih]
theorem skC_len (l : List (Pt × List ByteArray × Nm)) : (skNCs l).length = l.length := by
  induction l with
  | nil => rfl
  | cons x l ih => obtain ⟨p, m, x⟩ := x; simp [skNCs, ih]
theorem sk_mem (l : List Nm) : ∀ x ∈ l, sizeT (skN x) ≤ sizeTs (skNs l) := by
  induction l with
  | nil => intro x hx; cases hx
  | cons y l ih =>
    intro x hx
    rw [skNs, sizeTs]
    rcases List.mem_cons.1 hx with rfl | hx
    · omega
    · have := ih x hx; omega
theorem skC_mem (l : List (Pt × List ByteArray × Nm)) : ∀ c ∈ l, sizeP c.1 + sizeT (skN c.2.2) ≤ sizeCs (skNCs l) := by
  induction l with
  | nil => intro x hx; cases hx
  | cons y l ih =>
    intro x hx
    obtain ⟨p, m, y⟩ := y
    rw [skNCs, sizeCs]
    rcases List.mem_cons.1 hx with rfl | hx
    · simp only; omega
    · have := ih x hx; omega
end
/-- Name and Nameless, of the program -/
def emS : ByteArray := ⟨#[]⟩
def nameE (t : Tm) (s : List ByteArray) : Nm × Int :=
  if ¬ ZE [t] = 0 then (zN, ZE [t]) else if s.any (fun y => decide (emS = y)) = true then (zN, 4) else if ¬ s.Nodup then (zN, 5)
  else if (Xj t).all (fun n => decide (n < (s.length : Int))) = true then (nmT t s, 0) else (zN, 1)
def Z9 (n : Nm) (s : List ByteArray) : Tm × Int :=
  if 60 < s.length ∨ (cnN stL 1 n 0).1 = true then (zT, 11)
  else if ¬ (nlT n s).2 = 0 then (zT, (nlT n s).2)
  else if ZE [(nlT n s).1] = 0 then ((nlT n s).1, 0) else (zT, ZE [(nlT n s).1])
end Go.Proofs.YtmophpgiaiemhaaGreat.Hs
/-! What is free in a term is among so many names. -/
namespace Go.Proofs.YtmophpgiaiemhaaGreat.Hs
open Go Go.Proofs
set_option maxRecDepth 100000
theorem allV_mono {Q Q' : Int → Prop} (hQ : ∀ x, Q x → Q' x) (t : Tm) : ∀ b, YM Q b t → YM Q' b t := by
  induction t using Tm.ind with
  | h k n r kids cases ih ih' =>
    intro b h
    rw [YM] at h ⊢
    refine ⟨fun q => hQ _ (h.1 q), ?_, ?_⟩
    · have : ∀ (l : List Tm), (∀ x ∈ l, ∀ b, YM Q b x → YM Q' b x) → ∀ i, YH Q b k i l → YH Q' b k i l := by
        intro l
        induction l with
        | nil => intro _ i _; rw [YH]; trivial
        | cons t l ihl => intro hl i q; rw [YH] at q ⊢; exact ⟨hl t (by simp) _ q.1, ihl (fun x hx => hl x (by simp [hx])) _ q.2⟩
      exact this kids ih 0 h.2.1
    · have : ∀ (l : List (Pt × Tm)), (∀ x ∈ l, ∀ b, YM Q b x.2 → YM Q' b x.2) → YZ Q b l → YZ Q' b l := by
        intro l
        induction l with
        | nil => intro _ _; rw [YZ]; trivial
        | cons t l ihl => obtain ⟨p, t⟩ := t; intro hl q; rw [YZ] at q ⊢; exact ⟨hl (p, t) (by simp) _ q.1, ihl (fun x hx => hl x (by simp [hx])) q.2⟩
      exact this cases ih' h.2.2
theorem met_mono (t : Tm) : ∀ b s, ∀ x ∈ s, x ∈ (Ye (fun s => s) metV b t s).2 := by
  induction t using Tm.ind with
  | h k n r kids cases ih ih' =>
    intro b s x hx
    have hK : ∀ (l : List Tm), (∀ t ∈ l, ∀ b s, ∀ x ∈ s, x ∈ (Ye (fun s => s) metV b t s).2) → ∀ i s, ∀ x ∈ s, x ∈ (Yi (fun s => s) metV b k i l s).2 := by
      intro l
      induction l with
      | nil => intro _ i s x hx; rw [Yi]; exact hx
      | cons t l ihl => intro hl i s x hx; rw [Yi]; exact ihl (fun x hx => hl x (by simp [hx])) _ _ _ (hl t (by simp) _ _ _ hx)
    have hC : ∀ (l : List (Pt × Tm)), (∀ t ∈ l, ∀ b s, ∀ x ∈ s, x ∈ (Ye (fun s => s) metV b t.2 s).2) → ∀ s, ∀ x ∈ s, x ∈ (Ym (fun s => s) metV b l s).2 := by
      intro l
      induction l with
      | nil => intro _ s x hx; rw [Ym]; exact hx
      | cons t l ihl => obtain ⟨p, t⟩ := t; intro hl s x hx; rw [Ym]; exact ihl (fun x hx => hl x (by simp [hx])) _ _ (hl (p, t) (by simp) _ _ _ hx)
    rw [Ye]
    split
    · simp only [metV, addK]
      split
      · exact hx
      · simp [hx]
    · exact hC cases ih' _ _ (hK kids ih 0 s x hx)
theorem met_in (t : Tm) : tidy t → ∀ b s, YM (fun x => x ∈ (Ye (fun s => s) metV b t s).2) b t := by
  induction t using Tm.ind with
  | h k n r kids cases ih ih' =>
    intro ht b s
    rw [tidy] at ht
    obtain ⟨h1, h2, h3⟩ := ht
    have hK : ∀ (l : List Tm), tidys l → (∀ t ∈ l, tidy t → ∀ b s, YM (fun x => x ∈ (Ye (fun s => s) metV b t s).2) b t) → ∀ i s, YH (fun x => x ∈ (Yi (fun s => s) metV b k i l s).2) b k i l := by
      intro l
      induction l with
      | nil => intro _ _ i s; rw [YH]; trivial
      | cons t l ihl =>
        intro ht hl i s
        rw [tidys] at ht
        rw [YH]
        have hm : ∀ (l : List Tm) i s, ∀ x ∈ s, x ∈ (Yi (fun s => s) metV b k i l s).2 := by
          intro l
          induction l with
          | nil => intro i s x hx; rw [Yi]; exact hx
          | cons t l ihl => intro i s x hx; rw [Yi]; exact ihl _ _ _ (met_mono t _ _ _ hx)
        refine ⟨?_, ?_⟩
        · refine allV_mono (fun x hx => ?_) t _ (hl t (by simp) ht.1 (b + more k i) s)
          rw [Yi]; exact hm _ _ _ _ hx
        · have := ihl ht.2 (fun x hx => hl x (by simp [hx])) (i + 1) (Ye (fun s => s) metV (b + more k i) t s).2
          rw [Yi]; exact this
    have hC : ∀ (l : List (Pt × Tm)), tidyc l → (∀ t ∈ l, tidy t.2 → ∀ b s, YM (fun x => x ∈ (Ye (fun s => s) metV b t.2 s).2) b t.2) → ∀ s, YZ (fun x => x ∈ (Ym (fun s => s) metV b l s).2) b l := by
      intro l
      induction l with
      | nil => intro _ _ s; rw [YZ]; trivial
      | cons t l ihl =>
        obtain ⟨p, t⟩ := t
        intro ht hl s
        rw [tidyc] at ht
        rw [YZ]
        have hm : ∀ (l : List (Pt × Tm)) s, ∀ x ∈ s, x ∈ (Ym (fun s => s) metV b l s).2 := by
          intro l
          induction l with
          | nil => intro s x hx; rw [Ym]; exact hx
          | cons t l ihl => obtain ⟨p, t⟩ := t; intro s x hx; rw [Ym]; exact ihl _ _ (met_mono t _ _ _ hx)
        refine ⟨?_, ?_⟩
        · refine allV_mono (fun x hx => ?_) t _ (hl (p, t) (by simp) ht.1 (b + (binds p : Int)) s)
          rw [Ym]; exact hm _ _ _ hx
        · have := ihl ht.2 (fun x hx => hl x (by simp [hx])) (Ye (fun s => s) metV (b + (binds p : Int)) t s).2
          rw [Ym]; exact this
    have hCm : ∀ (l : List (Pt × Tm)) s, ∀ x ∈ s, x ∈ (Ym (fun s => s) metV b l s).2 := by
      intro l
      induction l with
      | nil => intro s x hx; rw [Ym]; exact hx
      | cons t l ihl => obtain ⟨p, t⟩ := t; intro s x hx; rw [Ym]; exact ihl _ _ (met_mono t _ _ _ hx)
    rw [YM, Ye]
    by_cases hk : k = 1 ∧ b ≤ n
    · rw [if_pos hk]
      obtain ⟨rfl, rfl, rfl⟩ := h1 hk.1
      refine ⟨fun _ => ?_, by rw [YH]; trivial, by rw [YZ]; trivial⟩
      simp only [metV, addK]
      split
      · assumption
      · simp
    · rw [if_neg hk]
      refine ⟨fun q => absurd q hk, ?_, hC cases h3 ih' _⟩
      have : ∀ (l : List Tm) i {Q Q' : Int → Prop}, (∀ x, Q x → Q' x) → YH Q b k i l → YH Q' b k i l := by
        intro l
        induction l with
        | nil => intro i Q Q' _ _; rw [YH]; trivial
        | cons t l ihl => intro i Q Q' hq q; rw [YH] at q ⊢; exact ⟨allV_mono hq _ _ q.1, ihl _ hq q.2⟩
      exact this kids 0 (fun x hx => hCm _ _ _ hx) (hK kids h2 ih 0 s)
theorem free_allV {t : Tm} {p : Int → Bool} (ht : tidy t) (hb : YM (fun x => 0 ≤ x ∧ x < 60) 0 t) (h : (Xj t).all p = true) : YM (fun x => p x = true) 0 t := by
  have h1 := met_in t ht 0 []
  have : ∀ (t : Tm) b {Q Q' : Int → Prop}, YM Q b t → YM Q' b t → YM (fun x => Q x ∧ Q' x) b t := by
    intro t
    induction t using Tm.ind with
    | h k n r kids cases ih ih' =>
      intro b Q Q' h1 h2
      rw [YM] at h1 h2 ⊢
      refine ⟨fun q => ⟨h1.1 q, h2.1 q⟩, ?_, ?_⟩
      · have : ∀ (l : List Tm), (∀ x ∈ l, ∀ b {Q Q' : Int → Prop}, YM Q b x → YM Q' b x → YM (fun x => Q x ∧ Q' x) b x) → ∀ i, YH Q b k i l → YH Q' b k i l → YH (fun x => Q x ∧ Q' x) b k i l := by
          intro l
          induction l with
          | nil => intro _ i _ _; rw [YH]; trivial
          | cons t l ihl => intro hl i q1 q2; rw [YH] at q1 q2 ⊢; exact ⟨hl t (by simp) _ q1.1 q2.1, ihl (fun x hx => hl x (by simp [hx])) _ q1.2 q2.2⟩
        exact this kids ih 0 h1.2.1 h2.2.1
      · have : ∀ (l : List (Pt × Tm)), (∀ x ∈ l, ∀ b {Q Q' : Int → Prop}, YM Q b x.2 → YM Q' b x.2 → YM (fun x => Q x ∧ Q' x) b x.2) → YZ Q b l → YZ Q' b l → YZ (fun x => Q x ∧ Q' x) b l := by
          intro l
          induction l with
          | nil => intro _ _ _; rw [YZ]; trivial
          | cons t l ihl => obtain ⟨p, t⟩ := t; intro hl q1 q2; rw [YZ] at q1 q2 ⊢; exact ⟨hl (p, t) (by simp) _ q1.1 q2.1, ihl (fun x hx => hl x (by simp [hx])) q1.2 q2.2⟩
        exact this cases ih' h1.2.2 h2.2.2
  refine allV_mono (fun x hx => ?_) t 0 (this t 0 h1 hb)
  obtain ⟨h1, h2, h3⟩ := hx
  refine (List.all_eq_true.1 h) x ?_
  unfold Xj upTo
  refine List.mem_map.2 ⟨x.toNat, List.mem_filter.2 ⟨List.mem_range.2 (by omega), ?_⟩, by omega⟩
  rw [metF_get _ _ (by omega), decide_eq_true_iff, Int.toNat_of_nonneg h2]
  exact h1
theorem sc_of (s : Nat) (t : Tm) : vOK t → ∀ b : Nat, YM (fun x => x < (s : Int)) (b : Int) t → scT (s + b) t := by
  induction t using Tm.ind with
  | h k n r kids cases ih ih' =>
    intro hv b h
    rw [vOK] at hv
    rw [YM] at h
    rw [scT]
    refine ⟨fun hk => ?_, ?_, ?_⟩
    · have := hv.1 hk
      refine ⟨this.1, ?_⟩
      by_cases hb : (b : Int) ≤ n
      · have := h.1 ⟨hk, hb⟩; omega
      · omega
    · have : ∀ (l : List Tm), vOKs l → (∀ x ∈ l, vOK x → ∀ b : Nat, YM (fun x => x < (s : Int)) (b : Int) x → scT (s + b) x) → ∀ i, YH (fun x => x < (s : Int)) (b : Int) k i l → scKs (s + b) k i l := by
        intro l
        induction l with
        | nil => intro _ _ i _; rw [scKs]; trivial
        | cons t l ihl =>
          intro hv hl i q
          rw [vOKs] at hv
          rw [YH] at q
          rw [scKs]
          refine ⟨?_, ihl hv.2 (fun x hx => hl x (by simp [hx])) _ q.2⟩
          have hm := YR k i
          have := hl t (by simp) hv.1 (b + (more k i).toNat) (by rw [show ((b + (more k i).toNat : Nat) : Int) = (b : Int) + more k i from by omega]; exact q.1)
          rwa [Nat.add_assoc]
      exact this kids hv.2.1 ih 0 h.2.1
    · have : ∀ (l : List (Pt × Tm)), vOKc l → (∀ x ∈ l, vOK x.2 → ∀ b : Nat, YM (fun x => x < (s : Int)) (b : Int) x.2 → scT (s + b) x.2) → YZ (fun x => x < (s : Int)) (b : Int) l → scCs (s + b) l := by
        intro l
        induction l with
        | nil => intro _ _ _; rw [scCs]; trivial
        | cons t l ihl =>
          obtain ⟨p, t⟩ := t
          intro hv hl q
          rw [vOKc] at hv
          rw [YZ] at q
          rw [scCs]
          refine ⟨?_, ihl hv.2 (fun x hx => hl x (by simp [hx])) q.2⟩
          have := hl (p, t) (by simp) hv.1 (b + binds p) (by rw [show ((b + binds p : Nat) : Int) = (b : Int) + (binds p : Int) from by omega]; exact q.1)
          rwa [Nat.add_assoc]
      exact this cases hv.2.2 ih' h.2.2
theorem right_err {t : Tm} (h : ZE [t] = 0) : ZR 60 8 0 t = 0 := by
  rw [rightT_one] at h
  unfold Z2 at h
  split at h
  · omega
  · exact h
/-- all that is free has a name: so have all variables -/
theorem free_sc {t : Tm} {n : Nat} (hr : ZE [t] = 0) (h : (Xj t).all (fun x => decide (x < (n : Int))) = true) : scT n t := by
  have hc := Yl (Xd hr)
  have h1 := free_allV hc.2.2.1 (err_all t 0 (by omega) (right_err hr)) h
  have h2 := allV_mono (Q' := fun x => x < (n : Int)) (fun x hx => of_decide_eq_true hx) t 0 h1
  exact sc_of n t hc.2.1 0 h2
end Go.Proofs.YtmophpgiaiemhaaGreat.Hs
/-! A term with names leads back to the term, whatever its bound names are. -/
namespace Go.Proofs.YtmophpgiaiemhaaGreat.Hs
open Go Go.Proofs
set_option maxRecDepth 100000
/-! what is chosen is new, and no two are the same -/
theorem mkS_keep {x : ByteArray} {l : List Bool} {i : Nat} (h : l[i]? = some true) : (mkS x l)[i]? = some true := by
  unfold mkS
  split
  · rw [List.getElem?_set]
    split
    · split
      · rfl
      · rename_i h1 h2; rw [← h1, List.getElem?_eq_none (by omega)] at h; cases h
    · exact h
  · exact h
theorem mkA_keep (s : List ByteArray) : ∀ {l : List Bool} {i : Nat}, l[i]? = some true → (mkA s l)[i]? = some true := by
  induction s with
  | nil => intro l i h; exact h
  | cons x s ih => intro l i h; rw [mkA]; exact ih (mkS_keep h)
theorem mkA_mem (s : List ByteArray) : ∀ {l : List Bool} {x : ByteArray} {i : Nat}, x ∈ s → numS x = (i : Int) → i < l.length → (mkA s l)[i]? = some true := by
  induction s with
  | nil => intro l x i h; cases h
  | cons y s ih =>
    intro l x i h hn hi
    rw [mkA]
    rcases List.mem_cons.1 h with rfl | h
    · refine mkA_keep s ?_
      unfold mkS
      rw [if_pos (by omega), hn, Int.toNat_natCast, List.getElem?_set_self hi]
    · exact ih h hn (by rw [mkS_len]; exact hi)
theorem pick_facts (m : Nat) : ∀ l : List Bool, cntT l + m ≤ l.length → l.length ≤ 1000000 → (∀ x ∈ pickN l m, ∃ i, i < l.length ∧ x = YU i ∧ l[i]? = some false) ∧ (pickN l m).Nodup := by
  induction m with
  | zero => intro l _ _; exact ⟨fun x hx => (by cases hx), List.nodup_nil⟩
  | succ m ih =>
    intro l h hl
    have h1 := ff_lt l (by omega)
    have h2 := ff_false l (by omega)
    have h3 := cntT_set l (ffN l)
    have h4 := ih (l.set (ffN l) true) (by rw [List.length_set]; omega) (by rw [List.length_set]; omega)
    have h5 : ∀ x ∈ pickN (l.set (ffN l) true) m, ∃ i, i < l.length ∧ x = YU i ∧ l[i]? = some false ∧ i ≠ ffN l := by
      intro x hx
      obtain ⟨i, q1, q2, q3⟩ := h4.1 x hx
      rw [List.length_set] at q1
      have hne : i ≠ ffN l := by intro e; subst e; rw [List.getElem?_set_self h1] at q3; cases q3
      rw [List.getElem?_set_ne (fun e => hne e.symm)] at q3
      exact ⟨i, q1, q2, q3, hne⟩
    rw [pickN]
    refine ⟨fun x hx => ?_, ?_⟩
    · rcases List.mem_cons.1 hx with rfl | hx
      · exact ⟨_, h1, rfl, h2⟩
      · obtain ⟨i, q1, q2, q3, _⟩ := h5 x hx; exact ⟨i, q1, q2, q3⟩
    · rw [List.nodup_cons]
      refine ⟨fun hx => ?_, h4.2⟩
      obtain ⟨i, q1, q2, _, q3⟩ := h5 _ hx
      exact q3 (name_inj (by omega) (by omega) q2).symm
theorem chosen_facts {s : List ByteArray} {m : Nat} (h : s.length + m ≤ 1000000) : (∀ x ∈ ZK s m, x ∉ s) ∧ (ZK s m).Nodup := by
  have hl : (mkA s (List.replicate (s.length + m) false)).length = s.length + m := by rw [mkA_len, List.length_replicate]
  have hc := cntT_mkA s (List.replicate (s.length + m) false)
  rw [cntT_rep] at hc
  obtain ⟨h1, h2⟩ := pick_facts m (mkA s (List.replicate (s.length + m) false)) (by omega) (by omega)
  refine ⟨fun x hx hs => ?_, h2⟩
  obtain ⟨i, q1, q2, q3⟩ := h1 x hx
  rw [hl] at q1
  have := mkA_mem s (l := List.replicate (s.length + m) false) hs (by rw [q2]; exact num_name i (by omega)) (by rw [List.length_replicate]; exact q1)
  rw [q3] at this
  cases this
/-! other names -/
mutual
def reN (X : ByteArray → ByteArray) : Nm → List ByteArray → Nm
  | .mk k n r ns kids cases, b =>
    if k = 1 then .mk k n r (if ns.length = 1 ∧ b.any (fun y => decide (ns.getD 0 ltr0 = y)) = true then ns.map X else ns) [] []
    else .mk k n r (ns.map X) (reNs X (b ++ ns) kids) (reCs X b cases)
def reNs (X : ByteArray → ByteArray) (b : List ByteArray) : List Nm → List Nm
  | [] => []
  | x :: l => reN X x b :: reNs X b l
def reCs (X : ByteArray → ByteArray) (b : List ByteArray) : List (Pt × List ByteArray × Nm) → List (Pt × List ByteArray × Nm)
  | [] => []
  | (p, m, x) :: l => (p, m.map X, reN X x (b ++ m)) :: reCs X b l
end
theorem reNs_len (X : ByteArray → ByteArray) (b : List ByteArray) (l : List Nm) : (reNs X b l).length = l.length := by
  induction l with
  | nil => rw [reNs]
  | cons x l ih => rw [reNs, List.length_cons, ih, List.length_cons]
theorem reCs_len (X : ByteArray → ByteArray) (b : List ByteArray) (l : List (Pt × List ByteArray × Nm)) : (reCs X b l).length = l.length := by
  induction l with
  | nil => rw [reCs]
  | cons c l ih => obtain ⟨p, m, x⟩ := c; rw [reCs, List.length_cons, ih, List.length_cons]
theorem nHead_ar {d m b k n : Int} {r : Sm} {l lc : Nat} (h : YD d m b k n r l lc = 0) : loK k ≤ (l : Int) ∧ (l : Int) ≤ hiK k := by
  unfold YD at h
  by_cases h1 : k < 1 ∨ 12 < k
  · rw [if_pos h1] at h; cases h
  rw [if_neg h1] at h
  split at h
  · cases h
  split at h
  · cases h
  · rename_i q; omega
theorem many_12 (s : List ByteArray) (l : List Tm) : ∀ i, 2 ≤ i → (Yv 12 s i l).length = 2 * l.length := by
  induction l with
  | nil => intro i _; rfl
  | cons t l ih =>
    intro i hi
    rw [Yv, List.length_append, ZV, ih (i + 1) (by omega), List.length_cons]
    have : more 12 (i : Int) = 2 := by unfold more; rw [if_neg (by omega), if_pos (by omega)]
    rw [this]
    show 2 + 2 * l.length = 2 * (l.length + 1)
    omega
theorem many_0 {k : Int} (hk : ¬ (k = 3 ∨ k = 5 ∨ k = 12)) (s : List ByteArray) (l : List Tm) : ∀ i, (Yv k s i l).length = 0 := by
  induction l with
  | nil => intro i; rfl
  | cons t l ih =>
    intro i
    rw [Yv, List.length_append, ZV, ih]
    have : more k (i : Int) = 0 := by unfold more; rw [if_neg (by omega), if_neg (by omega)]
    rw [this]; rfl
theorem many_len {d m b k n : Int} {r : Sm} {kids : List Tm} {lc : Nat} (h : YD d m b k n r kids.length lc = 0) (hk : ¬ k = 1) (s : List ByteArray) : ((Yv k s 0 kids).length : Int) = Yx k kids.length := by
  have ha := nHead_ar h
  by_cases h3 : k = 3
  · subst h3
    have e : kids.length = 1 := by unfold loK hiK at ha; simp at ha; omega
    obtain ⟨x, rfl⟩ := List.length_eq_one_iff.1 e
    simp [Yv, ZV, Yx, more]
  by_cases h5 : k = 5
  · subst h5
    have e : kids.length = 2 := by unfold loK hiK at ha; simp at ha; omega
    match kids, e with
    | [x, y], _ => simp [Yv, ZV, Yx, more]
  by_cases h12 : k = 12
  · subst h12
    have e : 2 ≤ kids.length := by unfold loK at ha; simp at ha; omega
    match kids, e with
    | x :: y :: l, _ =>
      have e0 : more 12 ((0 : Nat) : Int) = 0 := by decide
      have e1 : more 12 ((0 + 1 : Nat) : Int) = 1 := by decide
      rw [Yv, Yv, List.length_append, List.length_append, ZV, ZV, many_12 s l (0 + 1 + 1) (by omega), e0, e1]
      simp only [Yx, List.length_cons]
      rw [if_neg (by omega), if_pos (by refine ⟨?_, ?_⟩ <;> first | trivial | omega)]
      have : (0 : Int).toNat = 0 := rfl
      have : (1 : Int).toNat = 1 := rfl
      omega
  · have := many_0 (k := k) (by omega) s kids 0
    rw [this]
    unfold Yx
    rw [if_neg (by omega), if_neg (by omega)]
    rfl
theorem fst_nodup (l : List ByteArray) : ∀ (i n : Nat) (h : n < l.length), l.Nodup → YL l[n] l i = ((i + n : Nat) : Int) := by
  induction l with
  | nil => intro i n h; simp at h
  | cons x l ih =>
    intro i n h hn
    rw [List.nodup_cons] at hn
    cases n with
    | zero => rw [YL, if_pos (show (x :: l)[0] = x from rfl)]; rfl
    | succ n =>
      rw [YL, if_neg, List.getElem_cons_succ, ih (i + 1) n (by simpa using h) hn.2]
      · congr 1; omega
      · intro e
        exact hn.1 (e ▸ List.getElem_mem (by simpa using h))
section
variable {X : ByteArray → ByteArray} {F : List ByteArray} (hX : ∀ a b, X a = X b → a = b) (hF : ∀ f ∈ F, ∀ y, y ∉ F → f ≠ X y)
include hX hF
theorem re_nodup {bnd : List ByteArray} (h : (bnd ++ F).Nodup) : (bnd.map X ++ F).Nodup := by
  rw [List.nodup_append] at h ⊢
  refine ⟨?_, h.2.1, fun a ha b hb => ?_⟩
  · have : ∀ l : List ByteArray, l.Nodup → (l.map X).Nodup := by
      intro l
      induction l with
      | nil => intro _; exact List.nodup_nil
      | cons x l ih =>
        intro hn
        rw [List.nodup_cons] at hn
        rw [List.map_cons, List.nodup_cons]
        refine ⟨fun hm => ?_, ih hn.2⟩
        obtain ⟨y, hy, e⟩ := List.mem_map.1 hm
        exact hn.1 (hX _ _ e ▸ hy)
    exact this bnd h.1
  · obtain ⟨y, hy, rfl⟩ := List.mem_map.1 ha
    intro e
    exact hF b hb y (fun hyF => h.2.2 y hy y hyF rfl) e.symm
theorem nl_re {d m : Int} (hd : 0 ≤ d) (t : Tm) : ∀ (b : Int) (bnd B : List ByteArray), 0 ≤ b → ZR d m b t = 0 → (bnd ++ F).Nodup → (∀ x ∈ bnd, x ∈ B) → (∀ f ∈ F, f ∉ B) → ((bnd ++ F).length : Int) = d + b → (bnd ++ F).length + 2 * sizeT t ≤ 1000000 →
    nlT (reN X (nmT t (bnd ++ F)) B) (bnd.map X ++ F) = (t, 0) := by
  induction t using Tm.ind with
  | h k n r kids cases ih ih' =>
    intro b bnd B hb he hnd hB hFB hl hz
    obtain ⟨h1, _, h3, h4⟩ := nErr_iff.1 he
    rw [sizeT] at hz
    by_cases hk : k = 1
    · subst hk
      obtain ⟨hr, hkl, hcl, hn0, hn1⟩ := Y9 h1
      obtain rfl := List.eq_nil_of_length_eq_zero hkl
      obtain rfl := List.eq_nil_of_length_eq_zero hcl
      have hnl : n.toNat < (bnd ++ F).length := by omega
      have hnl' : n.toNat < (bnd.map X ++ F).length := by simpa using hnl
      have hv : vN 1 n (bnd ++ F) = [(bnd ++ F)[n.toNat]] := vN_pos rfl hnl
      have hnm : nmT (.mk 1 n r [] []) (bnd ++ F) = .mk 1 0 r [(bnd ++ F)[n.toNat]] [] [] := by rw [nmT, Yv, Y4, YX, List.append_nil, hv]; simp
      have hre : reN X (.mk 1 0 r [(bnd ++ F)[n.toNat]] [] []) B = .mk 1 0 r [(bnd.map X ++ F)[n.toNat]] [] [] := by
        rw [reN, if_pos rfl]
        congr 1
        by_cases hlt : n.toNat < bnd.length
        · have e1 : (bnd ++ F)[n.toNat] = bnd[n.toNat] := List.getElem_append_left hlt
          have e2 : (bnd.map X ++ F)[n.toNat] = X bnd[n.toNat] := by rw [List.getElem_append_left (by simpa using hlt), List.getElem_map]
          rw [e1, e2, if_pos]
          · rfl
          · refine ⟨rfl, List.any_eq_true.2 ⟨bnd[n.toNat], hB _ (List.getElem_mem hlt), ?_⟩⟩
            exact decide_eq_true rfl
        · have hge : bnd.length ≤ n.toNat := by omega
          have e1 : (bnd ++ F)[n.toNat] = F[n.toNat - bnd.length]'(by rw [List.length_append] at hnl; omega) := List.getElem_append_right hge
          have e2 : (bnd.map X ++ F)[n.toNat] = F[n.toNat - bnd.length]'(by rw [List.length_append] at hnl; omega) := by rw [List.getElem_append_right (by simpa using hge)]; simp
          rw [e1, e2, if_neg]
          rintro ⟨_, q⟩
          obtain ⟨y, hy, q⟩ := List.any_eq_true.1 q
          have q : F[n.toNat - bnd.length]'(by rw [List.length_append] at hnl; omega) = y := of_decide_eq_true q
          exact hFB _ (List.getElem_mem _) (q ▸ hy)
      rw [hnm, hre]
      have hfs := fst_nodup (bnd.map X ++ F) 0 n.toNat hnl' (re_nodup hX hF hnd)
      have hg : [(bnd.map X ++ F)[n.toNat]].getD 0 ltr0 = (bnd.map X ++ F)[n.toNat] := rfl
      have := nl_ok (k := 1) (n := 0) (r := r) (ns := [(bnd.map X ++ F)[n.toNat]]) (s := bnd.map X ++ F) (kids := []) (cases := []) (by rw [many_one]; rfl) rfl (by omega) (by rw [hg, hfs]; omega) (by rw [nlKs]) (by rw [nlCs])
      rw [this, nlKs, nlCs, if_pos rfl, hg, hfs]
      congr 2
      omega
    · -- a node that is no variable
      have hS : ∀ (q : Nat), (bnd ++ F).length + q ≤ 1000000 → ∀ (t : Tm) (B' : List ByteArray), (∀ (b : Int) (bnd B : List ByteArray), 0 ≤ b → ZR d m b t = 0 → (bnd ++ F).Nodup → (∀ x ∈ bnd, x ∈ B) → (∀ f ∈ F, f ∉ B) → ((bnd ++ F).length : Int) = d + b → (bnd ++ F).length + 2 * sizeT t ≤ 1000000 → nlT (reN X (nmT t (bnd ++ F)) B) (bnd.map X ++ F) = (t, 0)) →
          (∀ x ∈ bnd, x ∈ B') → (∀ x ∈ ZK (bnd ++ F) q, x ∈ B') → (∀ f ∈ F, f ∉ B') → ZR d m (b + (q : Int)) t = 0 → (bnd ++ F).length + q + 2 * sizeT t ≤ 1000000 →
          nlT (reN X (nmT t (ZF (bnd ++ F) (ZK (bnd ++ F) q))) B') (ZF (bnd.map X ++ F) ((ZK (bnd ++ F) q).map X)) = (t, 0) := by
        intro q hq t B' iht hb1 hb2 hb3 het hzt
        obtain ⟨c1, c2⟩ := chosen_facts hq
        have hcl := ZV (bnd ++ F) q
        have e1 : ZF (bnd ++ F) (ZK (bnd ++ F) q) = ((ZK (bnd ++ F) q).reverse ++ bnd) ++ F := by rw [ZF, List.append_assoc]
        have e2 : ZF (bnd.map X ++ F) ((ZK (bnd ++ F) q).map X) = ((ZK (bnd ++ F) q).reverse ++ bnd).map X ++ F := by rw [ZF, List.map_append, List.map_reverse, List.append_assoc]
        have hlen : (((ZK (bnd ++ F) q).reverse ++ bnd) ++ F).length = (bnd ++ F).length + q := by
          simp only [List.length_append, List.length_reverse, hcl]; omega
        rw [e1, e2]
        refine iht (b + (q : Int)) _ B' (by omega) het ?_ ?_ hb3 (by rw [hlen]; omega) (by rw [hlen]; omega)
        · rw [List.append_assoc, List.nodup_append]
          refine ⟨?_, hnd, fun a ha c hc e => ?_⟩
          · exact List.pairwise_reverse.2 (c2.imp fun h => h.symm)
          · subst e; exact c1 a (List.mem_reverse.1 ha) hc
        · intro x hx
          rcases List.mem_append.1 hx with hx | hx
          · exact hb2 x (List.mem_reverse.1 hx)
          · exact hb1 x hx
      have hml := many_len h1 hk (bnd ++ F)
      rw [nmT, vN_neg hk, List.nil_append, if_neg hk, reN, if_neg hk]
      -- the Kids
      have hbd : ∀ (i : Nat) (l : List Tm), (∀ x ∈ l, sizeT x ≤ sizeTs kids) → (∀ x ∈ Yv k (bnd ++ F) i l, x ∉ (bnd ++ F)) := by
        intro i l
        induction l generalizing i with
        | nil => intro _ x hx; rw [Yv] at hx; cases hx
        | cons t l ihl =>
          intro hs x hx
          rw [Yv] at hx
          rcases List.mem_append.1 hx with hx | hx
          · have := YR k i
            have := Y7 t
            have := hs t (by simp)
            exact (chosen_facts (by omega)).1 x hx
          · exact ihl (i + 1) (fun y hy => hs y (by simp [hy])) x hx
      have hmem := sizeTs_mem (l := kids)
      have hall := hbd 0 kids hmem
      have hB1 : ∀ x ∈ bnd, x ∈ B ++ Yv k (bnd ++ F) 0 kids := fun x hx => List.mem_append.2 (.inl (hB x hx))
      have hB3 : ∀ f ∈ F, f ∉ B ++ Yv k (bnd ++ F) 0 kids := by
        intro f hf hm
        rcases List.mem_append.1 hm with hm | hm
        · exact hFB f hf hm
        · exact hall f hm (List.mem_append.2 (.inr hf))
      have hK : ∀ (l : List Tm) (i : Nat) (B' : List ByteArray), (∀ x ∈ bnd, x ∈ B') → (∀ x ∈ Yv k (bnd ++ F) i l, x ∈ B') → (∀ f ∈ F, f ∉ B') → (∀ x ∈ l, x ∈ kids) → Z7 d m b k i l = 0 →
          nlKs k (bnd.map X ++ F) ((Yv k (bnd ++ F) i l).map X) i (reNs X B' (Y4 k (bnd ++ F) i l)) = (l, 0) := by
        intro l
        induction l with
        | nil => intro i B' _ _ _ _ _; rw [Y4, reNs, nlKs]
        | cons t l ihl =>
          intro i B' hb1 hb2 hb3 hlk hek
          obtain ⟨he1, he2⟩ := nErrK_cons.1 hek
          have hm := YR k i
          have hzt := hmem t (hlk t (by simp))
          have hcl := ZV (bnd ++ F) (more k (i : Int)).toNat
          have ht := hS (more k (i : Int)).toNat (by omega) t B' (ih t (hlk t (by simp))) hb1 (fun x hx => hb2 x (by rw [Yv]; exact List.mem_append.2 (.inl hx))) hb3 (by rw [show b + (((more k (i : Int)).toNat : Nat) : Int) = b + more k (i : Int) from by omega]; exact he1) (by omega)
          have hin : inN k i (bnd.map X ++ F) ((Yv k (bnd ++ F) i (t :: l)).map X) = ZF (bnd.map X ++ F) ((ZK (bnd ++ F) (more k (i : Int)).toNat).map X) ∧ lfN k i ((Yv k (bnd ++ F) i (t :: l)).map X) = (Yv k (bnd ++ F) (i + 1) l).map X := by
            rw [Yv, List.map_append]
            have hcm : ((ZK (bnd ++ F) (more k (i : Int)).toNat).map X).length = (more k (i : Int)).toNat := by rw [List.length_map, hcl]
            by_cases h0 : 0 < more k (i : Int)
            · have := in_pos (k := k) (i := i) (s := bnd.map X ++ F) (ns := (ZK (bnd ++ F) (more k (i : Int)).toNat).map X ++ (Yv k (bnd ++ F) (i + 1) l).map X) h0 (by rw [List.length_append, hcm]; omega)
              rw [this.1, this.2, List.take_left' hcm, List.drop_left' hcm]
              exact ⟨rfl, rfl⟩
            · have h00 : (more k (i : Int)).toNat = 0 := by omega
              have := in_neg (k := k) (i := i) (s := bnd.map X ++ F) (ns := (ZK (bnd ++ F) (more k (i : Int)).toNat).map X ++ (Yv k (bnd ++ F) (i + 1) l).map X) (fun q => h0 q.1)
              rw [this.1, this.2, h00]
              exact ⟨rfl, rfl⟩
          rw [Y4, reNs, nlKs, hin.1, hin.2, ht, if_neg (by simp), ihl (i + 1) B' hb1 (fun x hx => hb2 x (by rw [Yv]; exact List.mem_append.2 (.inr hx))) hb3 (fun x hx => hlk x (by simp [hx])) he2]
      have hK0 := hK kids 0 (B ++ Yv k (bnd ++ F) 0 kids) hB1 (fun x hx => List.mem_append.2 (.inr hx)) hB3 (fun x hx => hx) h3
      have hC : ∀ (l : List (Pt × Tm)), (∀ x ∈ l, x ∈ cases) → Ys d m b l = 0 → nlCs (bnd.map X ++ F) (reCs X B (YX (bnd ++ F) l)) = (l, 0) := by
        intro l
        induction l with
        | nil => intro _ _; rw [YX, reCs, nlCs]
        | cons c l ihl =>
          intro hlk hek
          obtain ⟨p, t⟩ := c
          obtain ⟨he1, he2⟩ := nErrC_cons.1 hek
          have hzt := sizeCs_mem (l := cases) (p, t) (hlk (p, t) (by simp))
          have hbp := YE p
          simp only at hzt
          obtain ⟨c1, c2⟩ := chosen_facts (s := bnd ++ F) (m := binds p) (by omega)
          have ht := hS (binds p) (by omega) t (B ++ ZK (bnd ++ F) (binds p)) (ih' (p, t) (hlk (p, t) (by simp))) (fun x hx => List.mem_append.2 (.inl (hB x hx))) (fun x hx => List.mem_append.2 (.inr hx))
            (fun f hf hm => by
              rcases List.mem_append.1 hm with hm | hm
              · exact hFB f hf hm
              · exact c1 f hm (List.mem_append.2 (.inr hf))) he1 (by omega)
          rw [YX, reCs, nlCs, ht, if_neg (by simp), ihl (fun x hx => hlk x (by simp [hx])) he2]
      have hC0 := hC cases (fun x hx => hx) h4
      have hfit : (reCs X B (YX (bnd ++ F) cases)).all fitC = true := by
        have : ∀ l : List (Pt × Tm), (reCs X B (YX (bnd ++ F) l)).all fitC = true := by
          intro l
          induction l with
          | nil => rw [YX, reCs]; rfl
          | cons c l ihl =>
            obtain ⟨p, t⟩ := c
            rw [YX, reCs, List.all_cons, ihl, Bool.and_true]
            exact decide_eq_true (by simp only [List.length_map]; exact ZV _ _)
        exact this cases
      have := nl_ok (k := k) (n := n) (r := r) (ns := (Yv k (bnd ++ F) 0 kids).map X) (s := bnd.map X ++ F) (kids := reNs X (B ++ Yv k (bnd ++ F) 0 kids) (Y4 k (bnd ++ F) 0 kids)) (cases := reCs X B (YX (bnd ++ F) cases))
        (by rw [List.length_map, reNs_len, nmKs_len]; exact hml) hfit (fun q => hk q.1) (fun q => hk q.1) (by rw [hK0]) (by rw [hC0])
      rw [this, hK0, hC0, if_neg hk]
end
end Go.Proofs.YtmophpgiaiemhaaGreat.Hs
/-! Name and Nameless, one behind the other. -/
namespace Go.Proofs.YtmophpgiaiemhaaGreat.Hs
open Go Go.Proofs
set_option maxRecDepth 100000
theorem cn_re {X : ByteArray → ByteArray} {d m : Int} (t : Tm) : ∀ (b : Int), ZR d m b t = 0 → ∀ (s B : List ByteArray) (st : Int → Int → Bool) (e n : Int), cnN st e (reN X (nmT t s) B) n = cnT st e t n := by
  induction t using Tm.ind with
  | h k num r kids cases ih ih' =>
    intro b he s B st e n
    obtain ⟨h1, _, h3, h4⟩ := nErr_iff.1 he
    by_cases hk : k = 1
    · subst hk
      obtain ⟨_, hkl, hcl, _, _⟩ := Y9 h1
      obtain rfl := List.eq_nil_of_length_eq_zero hkl
      obtain rfl := List.eq_nil_of_length_eq_zero hcl
      rw [nmT, reN, if_pos rfl, cnN_eq, cnT, cnTs_any, cnCs_any, ZS, ZS, ZS, ZS]
    · rw [nmT, reN, if_neg hk, cnN_eq, cnT, cnTs_any, cnCs_any]
      have hK : ∀ (l : List Tm) (i : Nat) (B' : List ByteArray), (∀ x ∈ l, x ∈ kids) → Z7 d m b k i l = 0 → ∀ n, ZS (cnN st (e + 1)) (reNs X B' (Y4 k s i l)) n = ZS (cnT st (e + 1)) l n := by
        intro l
        induction l with
        | nil => intro i B' _ _ n; rw [Y4, reNs, ZS, ZS]
        | cons t l ihl =>
          intro i B' hl hek n
          obtain ⟨he1, he2⟩ := nErrK_cons.1 hek
          rw [Y4, reNs, ZS, ZS, ih t (hl t (by simp)) _ he1, ihl (i + 1) B' (fun x hx => hl x (by simp [hx])) he2]
      have hC : ∀ (l : List (Pt × Tm)), (∀ x ∈ l, x ∈ cases) → Ys d m b l = 0 → ∀ n, ZS (cnNC st (e + 1)) (reCs X B (YX s l)) n = ZS (cnC st (e + 1)) l n := by
        intro l
        induction l with
        | nil => intro _ _ n; rw [YX, reCs, ZS, ZS]
        | cons c l ihl =>
          intro hl hek n
          obtain ⟨p, t⟩ := c
          obtain ⟨he1, he2⟩ := nErrC_cons.1 hek
          have hc : ∀ (M : List ByteArray) (B' : List ByteArray) (s' : List ByteArray) n, cnNC st (e + 1) (p, M, reN X (nmT t s') B') n = cnC st (e + 1) (p, t) n := by
            intro M B' s' n
            have h := fun n => ih' (p, t) (hl (p, t) (by simp)) _ he1 s' B' st (e + 1) n
            simp only [cnN] at h
            simp only [cnNC, cnC, h]
          rw [YX, reCs, ZS, ZS, hc, ihl (fun x hx => hl x (by simp [hx])) he2]
      rw [hK kids 0 _ (fun x hx => hx) h3]
      split
      · rfl
      · split
        · rfl
        · rw [hC cases (fun x hx => hx) h4]
theorem re_id {d m : Int} (t : Tm) : ∀ (b : Int), ZR d m b t = 0 → ∀ (s B : List ByteArray), reN id (nmT t s) B = nmT t s := by
  induction t using Tm.ind with
  | h k num r kids cases ih ih' =>
    intro b he s B
    obtain ⟨h1, _, h3, h4⟩ := nErr_iff.1 he
    by_cases hk : k = 1
    · subst hk
      obtain ⟨_, hkl, hcl, _, _⟩ := Y9 h1
      obtain rfl := List.eq_nil_of_length_eq_zero hkl
      obtain rfl := List.eq_nil_of_length_eq_zero hcl
      rw [nmT, reN, if_pos rfl, List.map_id, Y4, YX]
      congr 1
      split <;> rfl
    · rw [nmT, reN, if_neg hk, List.map_id]
      have hK : ∀ (l : List Tm) (i : Nat) (B' : List ByteArray), (∀ x ∈ l, x ∈ kids) → Z7 d m b k i l = 0 → reNs id B' (Y4 k s i l) = Y4 k s i l := by
        intro l
        induction l with
        | nil => intro i B' _ _; rw [Y4, reNs]
        | cons t l ihl =>
          intro i B' hl hek
          obtain ⟨he1, he2⟩ := nErrK_cons.1 hek
          rw [Y4, reNs, ih t (hl t (by simp)) _ he1, ihl (i + 1) B' (fun x hx => hl x (by simp [hx])) he2]
      have hC : ∀ (l : List (Pt × Tm)), (∀ x ∈ l, x ∈ cases) → Ys d m b l = 0 → reCs id B (YX s l) = YX s l := by
        intro l
        induction l with
        | nil => intro _ _; rw [YX, reCs]
        | cons c l ihl =>
          intro hl hek
          obtain ⟨p, t⟩ := c
          obtain ⟨he1, he2⟩ := nErrC_cons.1 hek
          rw [YX, reCs, List.map_id, ih' (p, t) (hl (p, t) (by simp)) _ he1, ihl (fun x hx => hl x (by simp [hx])) he2]
      rw [hK kids 0 _ (fun x hx => hx) h3, hC cases (fun x hx => hx) h4]
theorem name_ok {d m : Int} {F : List ByteArray} {t : Tm} (h : Z2 d m t = 0) (hd : d ≤ 60) (hm : m ≤ 8) (hl : (F.length : Int) = d) (hn : F.Nodup) (he : F.any (fun y => decide (emS = y)) = false) : nameE t F = (nmT t F, 0) := by
  rw [nameE, if_neg (fun q => q (right1 h hd hm)), if_neg (by rw [he]; decide), if_neg (fun q => q hn), if_pos]
  refine List.all_eq_true.2 fun x hx => decide_eq_true ?_
  have := freeP_all (allV_mono (Q' := fun x => x < (F.length : Int)) (fun x hx => by omega) t 0 (err_all t 0 (by omega) (checkR_iff.1 h).2)) x hx
  exact this
theorem nameless_re {X : ByteArray → ByteArray} {d m : Int} {F : List ByteArray} {t : Tm} (hX : ∀ a b, X a = X b → a = b) (hF : ∀ f ∈ F, ∀ y, y ∉ F → f ≠ X y) (h : Z2 d m t = 0) (hd : d ≤ 60) (hm : m ≤ 8) (hl : (F.length : Int) = d) (hn : F.Nodup) :
    Z9 (reN X (nmT t F) []) F = (t, 0) := by
  obtain ⟨h1, h2⟩ := checkR_iff.1 h
  have hr := right1 h hd hm
  have hz := (Yl (Xd hr)).1
  have hx := nl_re hX hF (show 0 ≤ d by omega) t 0 [] [] (by omega) h2 hn (fun x hx => by cases hx) (fun f _ hf => by cases hf) (by simpa using hl) (by simp only [List.nil_append]; omega)
  simp only [List.map_nil, List.nil_append] at hx
  rw [Z9, if_neg, hx, if_neg (by simp), if_pos hr]
  rintro (q | q)
  · omega
  · rw [cn_re t 0 h2, long_eq, h1] at q; cases q
theorem nameless_ok {d m : Int} {F : List ByteArray} {t : Tm} (h : Z2 d m t = 0) (hd : d ≤ 60) (hm : m ≤ 8) (hl : (F.length : Int) = d) (hn : F.Nodup) : Z9 (nmT t F) F = (t, 0) := by
  have := nameless_re (X := id) (fun a b e => e) (fun f hf y hy e => hy (by have e' : f = y := e; rw [← e']; exact hf)) h hd hm hl hn
  rwa [re_id t 0 (checkR_iff.1 h).2] at this
/-! the names of the law -/
def F4 : List ByteArray := [⟨#[111, 110, 101]⟩, ⟨#[116, 119, 111]⟩, ⟨#[116, 104, 114, 101, 101]⟩, ⟨#[102, 111, 117, 114]⟩]
def YS (s : ByteArray) : ByteArray := s ++ ltr 23
theorem addX_inj (a b : ByteArray) (h : YS a = YS b) : a = b := by
  have h1 := congrArg ByteArray.data h
  rw [YS, YS, ByteArray.data_append, ByteArray.data_append] at h1
  apply ByteArray.ext
  apply Array.ext'
  have h2 := congrArg Array.toList h1
  rw [Array.toList_append, Array.toList_append] at h2
  exact List.append_cancel_right h2
theorem addX_last (y : ByteArray) : (YS y).data.toList.getLast? = some 120 := by
  rw [YS, ByteArray.data_append, Array.toList_append]
  show (y.data.toList ++ [UInt8.ofNat (97 + 23)]).getLast? = some 120
  rw [List.getLast?_append]; rfl
theorem F4_last : ∀ f ∈ F4, f.data.toList.getLast? ≠ some 120 := by decide
theorem F4_addX {F : List ByteArray} (hF : ∀ f ∈ F, f ∈ F4) : ∀ f ∈ F, ∀ y, y ∉ F → f ≠ YS y := fun f hf y _ e => F4_last f (hF f hf) (e ▸ addX_last y)
theorem F4_nodup : F4.Nodup := by decide
theorem F4_em : F4.any (fun y => decide (emS = y)) = false := by decide
theorem F3_nodup : (F4.take 3).Nodup := by decide
theorem F3_em : (F4.take 3).any (fun y => decide (emS = y)) = false := by decide
section
variable {t u : Tm} (h : Z2 4 2 t = 0)
include h
theorem tn_name : nameE t F4 = (nmT t F4, 0) := name_ok h (by decide) (by decide) rfl F4_nodup F4_em
theorem tn_back : Z9 (nmT t F4) F4 = (t, 0) := nameless_ok h (by decide) (by decide) rfl F4_nodup
theorem tn_re : Z9 (reN YS (nmT t F4) []) F4 = (t, 0) := nameless_re addX_inj (F4_addX fun f hf => hf) h (by decide) (by decide) rfl F4_nodup
theorem tn_put (hu : Z2 3 2 u = 0) (hl : Yz (sbT 0 u t) = false) : Z2 3 2 (sbT 0 u t) = 0 := sb_check (d := 4) (by decide) (by decide) h hu hl
end
theorem tn_name3 {t : Tm} (h : Z2 3 2 t = 0) : nameE t (F4.take 3) = (nmT t (F4.take 3), 0) := name_ok h (by decide) (by decide) rfl F3_nodup F3_em
theorem tn_back3 {t : Tm} (h : Z2 3 2 t = 0) : Z9 (nmT t (F4.take 3)) (F4.take 3) = (t, 0) := nameless_ok h (by decide) (by decide) rfl F3_nodup
/-! how much a term with names has -/
mutual
def nmN : Nm → Nat
  | .mk _ _ _ ns kids cases => 1 + ns.length + nmNks kids + nmNcs cases
def nmNks : List Nm → Nat
  | [] => 0
  | x :: l => nmN x + nmNks l
def nmNcs : List (Pt × List ByteArray × Nm) → Nat
  | [] => 0
  | (p, m, x) :: l => sizeP p + m.length + nmN x + nmNcs l
end
mutual
def nmZ : Nm → Prop
  | .mk _ _ _ ns kids cases => (∀ x ∈ ns, x.size ≤ 1000000000) ∧ nmZs kids ∧ nmZc cases
def nmZs : List Nm → Prop
  | [] => True
  | x :: l => nmZ x ∧ nmZs l
def nmZc : List (Pt × List ByteArray × Nm) → Prop
  | [] => True
  | (_, m, x) :: l => ((∀ x ∈ m, x.size ≤ 1000000000) ∧ nmZ x) ∧ nmZc l
end
theorem nmN_pos (n : Nm) : 0 < nmN n := by cases n; rw [nmN]; omega
theorem nmNs_mem (l : List Nm) : ∀ x ∈ l, nmN x ≤ nmNks l := by
  induction l with
  | nil => intro x hx; cases hx
  | cons y l ih =>
    intro x hx
    rw [nmNks]
    rcases List.mem_cons.1 hx with rfl | hx
    · omega
    · have := ih x hx; omega
theorem nmNCs_mem (l : List (Pt × List ByteArray × Nm)) : ∀ c ∈ l, sizeP c.1 + c.2.1.length + nmN c.2.2 ≤ nmNcs l := by
  induction l with
  | nil => intro x hx; cases hx
  | cons y l ih =>
    obtain ⟨p, m, y⟩ := y
    intro x hx
    rw [nmNcs]
    rcases List.mem_cons.1 hx with rfl | hx
    · simp only; omega
    · have := ih x hx; omega
theorem nmNs_len2 (l : List Nm) : l.length ≤ nmNks l := by
  induction l with
  | nil => simp
  | cons y l ih => rw [nmNks, List.length_cons]; have := nmN_pos y; omega
theorem nmNCs_len2 (l : List (Pt × List ByteArray × Nm)) : l.length ≤ nmNcs l := by
  induction l with
  | nil => simp
  | cons y l ih => obtain ⟨p, m, y⟩ := y; rw [nmNcs, List.length_cons]; have := nmN_pos y; omega
theorem nmZs_mem (l : List Nm) (h : nmZs l) : ∀ x ∈ l, nmZ x := by
  induction l with
  | nil => intro x hx; cases hx
  | cons y l ih =>
    rw [nmZs] at h
    intro x hx
    rcases List.mem_cons.1 hx with rfl | hx
    · exact h.1
    · exact ih h.2 x hx
theorem nmZc_mem (l : List (Pt × List ByteArray × Nm)) (h : nmZc l) : ∀ c ∈ l, (∀ x ∈ c.2.1, x.size ≤ 1000000000) ∧ nmZ c.2.2 := by
  induction l with
  | nil => intro x hx; cases hx
  | cons y l ih =>
    obtain ⟨p, m, y⟩ := y
    rw [nmZc] at h
    intro x hx
    rcases List.mem_cons.1 hx with rfl | hx
    · exact h.1
    · exact ih h.2 x hx
theorem reNs_take (X : ByteArray → ByteArray) (b : List ByteArray) (l : List Nm) : ∀ (j : Nat) (h : j < l.length), reNs X b (l.take (j + 1)) = reNs X b (l.take j) ++ [reN X l[j] b] := by
  induction l with
  | nil => intro j h; simp at h
  | cons x l ih =>
    intro j h
    cases j with
    | zero => simp [reNs]
    | succ j => simp only [List.take_succ_cons, reNs, List.getElem_cons_succ]; rw [ih j (by simpa using h)]; rfl
theorem reCs_take (X : ByteArray → ByteArray) (b : List ByteArray) (l : List (Pt × List ByteArray × Nm)) : ∀ (j : Nat) (h : j < l.length), reCs X b (l.take (j + 1)) = reCs X b (l.take j) ++ [(l[j].1, l[j].2.1.map X, reN X l[j].2.2 (b ++ l[j].2.1))] := by
  induction l with
  | nil => intro j h; simp at h
  | cons x l ih =>
    obtain ⟨p, m, x⟩ := x
    intro j h
    cases j with
    | zero => simp [reCs]
    | succ j => simp only [List.take_succ_cons, reCs, List.getElem_cons_succ]; rw [ih j (by simpa using h)]; rfl
/-- what is owned is read somewhere -/
theorem strR.any {T : TypeId} {v : Value} {l : List ByteArray} {k : Zk} (H : Heap) (o : Own T 1 v (ZP l) k) (hn : l.length ≤ 9223372036854775807) : ∃ h, strR h v l := by
  rcases id o.2 with ⟨rfl, h1, _⟩ | ⟨b, cap, sp, rfl, rfl, h3, h4⟩
  · have : l = [] := by cases l; rfl; simp [ZP] at h1
    subst this; exact ⟨H, strR.nil⟩
  · exact ⟨⟨fun i => if i = b then some (Obj.cells ⟨(ZP l).flatten ++ sp⟩ T (0, 0)) else none, H.os, H.out⟩, strR.own o hn (fun i o' hi => by
      rw [List.mem_singleton] at hi
      cases hi
      simp)⟩
end Go.Proofs.YtmophpgiaiemhaaGreat.Hs
/-! What the law asks of names: how long they are. -/
namespace Go.Proofs.YtmophpgiaiemhaaGreat.Hs
open Go Go.Proofs
set_option maxRecDepth 100000
theorem chosen_size {s : List ByteArray} {m : Nat} (h : s.length + m ≤ 1000000) : ∀ x ∈ ZK s m, x.size ≤ 1000000000 := by
  have hl : (mkA s (List.replicate (s.length + m) false)).length = s.length + m := by rw [mkA_len, List.length_replicate]
  have hc := cntT_mkA s (List.replicate (s.length + m) false)
  rw [cntT_rep] at hc
  intro x hx
  obtain ⟨i, q1, rfl, _⟩ := (pick_facts m (mkA s (List.replicate (s.length + m) false)) (by omega) (by omega)).1 x hx
  have := nameS_size i
  omega
theorem ltr0_size : ltr0.size = 1 := rfl
theorem nmZ_nm (t : Tm) : ∀ (s : List ByteArray), (∀ x ∈ s, x.size ≤ 1000000000) → s.length + 2 * sizeT t ≤ 1000000 → nmZ (nmT t s) := by
  induction t using Tm.ind with
  | h k n r kids cases ih ih' =>
    intro s hs hz
    rw [sizeT] at hz
    rw [nmT, nmZ]
    have hfr : ∀ (q : Nat), s.length + q ≤ 1000000 → ∀ x ∈ ZF s (ZK s q), x.size ≤ 1000000000 := by
      intro q hq x hx
      rcases List.mem_append.1 hx with hx | hx
      · exact chosen_size hq x (List.mem_reverse.1 hx)
      · exact hs x hx
    have hsm := sizeTs_mem (l := kids)
    refine ⟨?_, ?_, ?_⟩
    · intro x hx
      rcases List.mem_append.1 hx with hx | hx
      · unfold vN at hx
        split at hx
        · rw [List.mem_singleton] at hx
          subst hx
          rw [List.getD_eq_getElem?_getD]
          cases h : s[n.toNat]? with
          | none => show ltr0.size ≤ _; rw [ltr0_size]; omega
          | some y => exact hs y (List.mem_of_getElem? h)
        · cases hx
      · have : ∀ (l : List Tm) (i : Nat), (∀ x ∈ l, x ∈ kids) → ∀ x ∈ Yv k s i l, x.size ≤ 1000000000 := by
          intro l
          induction l with
          | nil => intro i _ x hx; rw [Yv] at hx; cases hx
          | cons t l ihl =>
            intro i hl x hx
            rw [Yv] at hx
            rcases List.mem_append.1 hx with hx | hx
            · have := YR k i
              have := Y7 t
              have := hsm t (hl t (by simp))
              exact chosen_size (by omega) x hx
            · exact ihl (i + 1) (fun y hy => hl y (by simp [hy])) x hx
        exact this kids 0 (fun x hx => hx) x hx
    · have : ∀ (l : List Tm) (i : Nat), (∀ x ∈ l, x ∈ kids) → nmZs (Y4 k s i l) := by
        intro l
        induction l with
        | nil => intro i _; rw [Y4, nmZs]; trivial
        | cons t l ihl =>
          intro i hl
          rw [Y4, nmZs]
          have h1 := YR k i
          have h2 := hsm t (hl t (by simp))
          have h3 := Y7 t
          exact ⟨ih t (hl t (by simp)) _ (hfr _ (by omega)) (by rw [Yh, ZV]; omega), ihl (i + 1) (fun y hy => hl y (by simp [hy]))⟩
      exact this kids 0 (fun x hx => hx)
    · have : ∀ (l : List (Pt × Tm)), (∀ x ∈ l, x ∈ cases) → nmZc (YX s l) := by
        intro l
        induction l with
        | nil => intro _; rw [YX, nmZc]; trivial
        | cons c l ihl =>
          obtain ⟨p, t⟩ := c
          intro hl
          rw [YX, nmZc]
          have h1 := YE p
          have h2 := sizeCs_mem (l := cases) (p, t) (hl (p, t) (by simp))
          simp only at h2
          exact ⟨⟨chosen_size (by omega), ih' (p, t) (hl (p, t) (by simp)) _ (hfr _ (by omega)) (by rw [Yh, ZV]; show s.length + binds p + 2 * sizeT t ≤ 1000000; omega)⟩, ihl (fun y hy => hl y (by simp [hy]))⟩
      exact this cases (fun x hx => hx)
theorem nmN_nm (t : Tm) : ∀ (s : List ByteArray), nmN (nmT t s) + 2 ≤ 4 * sizeT t := by
  induction t using Tm.ind with
  | h k n r kids cases ih ih' =>
    intro s
    rw [nmT, nmN, sizeT, List.length_append]
    have h0 := vN_len k n s
    have h1 : ∀ (l : List Tm) (i : Nat), (∀ x ∈ l, x ∈ kids) → (Yv k s i l).length + nmNks (Y4 k s i l) ≤ 4 * sizeTs l := by
      intro l
      induction l with
      | nil => intro i _; simp [Yv, Y4, nmNks]
      | cons t l ihl =>
        intro i hl
        rw [Yv, Y4, nmNks, sizeTs, List.length_append, ZV]
        have h1 := YR k i
        have h2 := ih t (hl t (by simp)) (ZF s (ZK s (more k (i : Int)).toNat))
        have h3 := ihl (i + 1) (fun y hy => hl y (by simp [hy]))
        omega
    have h2 : ∀ (l : List (Pt × Tm)), (∀ x ∈ l, x ∈ cases) → nmNcs (YX s l) ≤ 4 * sizeCs l := by
      intro l
      induction l with
      | nil => intro _; simp [YX, nmNcs]
      | cons c l ihl =>
        obtain ⟨p, t⟩ := c
        intro hl
        rw [YX, nmNcs, sizeCs, ZV]
        have h1 := YE p
        have h2 := ih' (p, t) (hl (p, t) (by simp)) (ZF s (ZK s (binds p)))
        have h3 := ihl (fun y hy => hl y (by simp [hy]))
        simp only at h2
        omega
    have := h1 kids 0 (fun x hx => hx)
    have := h2 cases (fun x hx => hx)
    omega
theorem F4_size : ∀ x ∈ F4, x.size ≤ 1000000000 := by decide
theorem chk_size {d m : Int} {t : Tm} (h : Z2 d m t = 0) (hd : d ≤ 60) (hm : m ≤ 8) : sizeT t ≤ 300 := (Yl (Xd (right1 h hd hm))).1
theorem tn_z {t : Tm} (h : Z2 4 2 t = 0) : nmZ (nmT t F4) := nmZ_nm t F4 F4_size (by have := chk_size h (by decide) (by decide); have : F4.length = 4 := rfl; omega)
theorem tn_n {t : Tm} (h : Z2 4 2 t = 0) : ([] : List ByteArray).length + nmN (nmT t F4) ≤ 1000000 := by
  have h1 := nmN_nm t F4
  have h2 := chk_size h (by decide) (by decide)
  simp only [List.length_nil]; omega
theorem nle_at {P : Program} {f : FuncId} {a : Array Value} {M : List Zk} {H : Heap} {x : Nm × Int} {d : Nm} {e : Int} (h : CT P f a M H (fun v N => ∃ cs k, v = .tuple ⟨[.agg ⟨cs⟩, .int .i64 x.2]⟩ ∧ N = [k] ∧ ON x.1 cs k)) (hx : x = (d, e)) :
    CT P f a M H (fun v N => ∃ cs k, v = .tuple ⟨[.agg ⟨cs⟩, .int .i64 e]⟩ ∧ N = [k] ∧ ON d cs k) := by subst hx; exact h
end Go.Proofs.YtmophpgiaiemhaaGreat.Hs
/-! Copies of slices of numbers. -/
namespace Go.Proofs.YtmophpgiaiemhaaGreat.Hs
open Go Go.Proofs
set_option maxRecDepth 100000
/-- A slice of bytes, as cells read. -/
def RB (_ : Heap) (cs : List Value) (n : Int) : Prop := cs = [.int .u8 n]
theorem RBs.mono {h h' : Heap} (hh : Hle h h') {v : Value} {l : List Int} (q : Hs.rdS RB 1 h v l) : Hs.rdS RB 1 h' v l := rdS.mono q hh fun _ _ _ e => e
def byts (l : List Int) : List (List Value) := l.map fun n => [.int .u8 n]
theorem byts_len (l : List Int) : (byts l).length = l.length := by simp [byts]
theorem byts_len1 (l : List Int) : ∀ e ∈ byts l, e.length = 1 := by
  intro e he; obtain ⟨x, _, rfl⟩ := List.mem_map.1 he; rfl
theorem byts_ok (l : List Int) : ∀ e ∈ byts l, okc e := by
  intro e he v hv; obtain ⟨x, _, rfl⟩ := List.mem_map.1 he; simp only [List.mem_singleton] at hv; subst hv; rfl
theorem num_src {P : Program} {H : Heap} {v : Value} {l : List Int} {E : Heap → List Value → Int → Prop} {f : Int → Value} (hE : ∀ h cs x, E h cs x → cs = [f x]) (h : Hs.rdS E 1 H v l) : ∀ w L, Mem w L H → Src P 1 w v l.length (l.map fun n => [f n]).flatten := by
  obtain ⟨es, e1, e2, e3, e4⟩ := rdS.src (P := P) h
  have : es = l.map fun n => [f n] := by
    apply List.ext_getElem
    · rw [e1, List.length_map]
    · intro i h1 h2
      have := hE _ _ _ (e2 i h1 (by omega))
      rw [this, List.getElem_map]
  subst this
  intro w L m
  exact e4 w L H (Hle.refl _) m
theorem byts_src {P : Program} {H : Heap} {v : Value} {l : List Int} (h : Hs.rdS RB 1 H v l) : ∀ w L, Mem w L H → Src P 1 w v l.length (byts l).flatten := num_src (fun _ _ _ e => e) h
theorem own_byts {T : TypeId} {v : Value} {l : List Int} {k : Zk} {h : Heap} (o : Own T 1 v (byts l) k) (hn : l.length ≤ 9223372036854775807) (hk : Has k h) : Hs.rdS RB 1 h v l :=
  o.rdS (byts_len l).symm hn hk fun i h1 h2 => by simp [byts, RB]
/-- What is none is empty. -/
theorem rd_none {E : Heap → List Value → Int → Prop} {sz : Nat} {h : Heap} {v : Value} {l : List Int} {a : Option Addr} {n cap : Nat} (r : Hs.rdS E sz h v l) (hv : v = .slice a n cap) (ha : a.isNone = true) : l = [] := by
  obtain ⟨a', c', e, _, h0 | ⟨b, o, row, T, fr, e1, _⟩⟩ := r
  · exact List.eq_nil_of_length_eq_zero h0
  · rw [hv] at e; cases e; subst e1; cases ha
section
variable {P : Program} {e : Operand → Value} {d : Option Nat} {ot : TypeId} {pos : String} {af : Array Edge} {g : Option (Nat × Bool)} {T T' : TypeId} {x y z : Operand}
theorem run_equalIn_nil {el : TypeId} {a : Option Addr} {n c n' c' : Nat} (m : Nat) (w : World) (hT : ∀ w, (underlying T).run P w = .ok (.slice el) w) : (Op.equalIn (m + 1) T (.slice a n c) (.slice none n' c')).run P w = .ok a.isNone w := by
  cases a <;> simp [Op.equalIn, hT]
theorem Pu.eqlNil {el : TypeId} {a : Option Addr} {n c n' c' : Nat} (hT : ∀ w, (underlying T).run P w = .ok (.slice el) w) (hx : e x = .slice a n c) (hy : e y = .slice none n' c') : Pu P e ⟨d, .binOp .eql T x y T', ot, pos, af, g⟩ (.bool a.isNone) := fun w => by
  have := run_equalIn_nil (P := P) (a := a) (n := n) (c := c) (n' := n') (c' := c') 9999 w hT
  simp only [execOp, hx, hy, eqGuard, binOp, Op.equal, Op.maxDepth]
  simp [this]
end
end Go.Proofs.YtmophpgiaiemhaaGreat.Hs
/-! Walks, printed by a program of this session's own (gen.py). -/
namespace Go.Proofs.YtmophpgiaiemhaaGreat.Hs
open Go Go.Proofs
set_option maxRecDepth 100000
set_option linter.unusedVariables false
set_option linter.unusedSimpArgs false
attribute [local irreducible] JL J CT wlo
theorem more_ct (k j : Int) (H : Heap) : CT Tryz.prog 111 ⟨[.int .i64 k, .int .i64 j]⟩ [] H (fun v N => v = .int .i64 (more k j) ∧ N = []) := by
 refine Zo Tryz.func111 rfl rfl <| Zd <| Zb <| JLa (.int .i64 0) <| Za <| Zd <| Zs <| Zd <| Zd <| Zb <| JLm (.int .i64 k) <| JLq (.bool (decide (k = 3))) (Pu.eql rfl rfl) <| JLa (.bool (decide (k = 3))) ?_
 refine Za <| Zi (b := decide (k = 3)) rfl (fun h1 => ?_) (fun h1 => ?_)
 ·replace h1 := dt h1
  refine Zp <| Zi (b := decide (k = 3)) rfl (fun _ => ?_) (fun h2 => absurd h1 (df h2))
  refine Zd <| Zb <| JLa (.int .i64 1) <| Za <| Zl <| ⟨.int .i64 1, [], Ret.one rfl (RV.tmp rfl), Sub.nil, ?_⟩
  exact ⟨by first | (simp_all [more]; done) | (congr 1; unfold more; simp_all; try omega), rfl⟩
 replace h1 := df h1
 refine Yo (fun ρ M => ρ 0 = .int .i64 k ∧ ρ 1 = .int .i64 j ∧ ρ 4 = .int .i64 0 ∧ ρ 5 = .bool ((decide (k = 5)) && (decide (j = 1))) ∧ M = []) ?_ ?_
 ·refine Zb <| JLm (.int .i64 k) <| JLq (.bool (decide (k = 5))) (Pu.eql rfl rfl) <| JLm (.bool (decide (k = 5))) ?_
  cases h3 : (decide (k = 5)) with
  | true =>
   replace h3 := dt h3
   refine JLm (.int .i64 j) <| JLq (.bool (decide (j = 1))) (Pu.eql rfl rfl) <| JLq (.bool (decide (j = 1))) (Pu.pickT rfl rfl) <| JLa (.bool (decide (j = 1))) <| Za ?_
   first | exact ⟨rfl, rfl, rfl, rfl, rfl⟩ | (exfalso; omega)
  | false =>
   replace h3 := df h3
   iterate 2 refine Zy rfl ?_
   refine JLq (.bool false) (Pu.pickF rfl rfl) <| JLa (.bool false) <| Za ?_
   first | exact ⟨rfl, rfl, rfl, rfl, rfl⟩ | (exfalso; omega)
 rintro ρ4 _ ⟨e5, e6, e7, e8, rfl⟩
 obtain ⟨ρ9, rfl⟩ := Zc (uc e5 (uc e6 (uc e7 (uc e8 un))))
 clear e5 e6 e7 e8
 refine Zi (b := (decide (k = 5)) && (decide (j = 1))) rfl (fun h10 => ?_) (fun h10 => ?_)
 ·obtain ⟨h10a, h10b⟩ := andT h10
  replace h10a := dt h10a
  replace h10b := dt h10b
  refine Zp <| Zi (b := (decide (k = 5)) && (decide (j = 1))) rfl (fun h11 => ?_) (fun h11 => ?_)
  ·obtain ⟨h11a, h11b⟩ := andT h11
   replace h11a := dt h11a
   replace h11b := dt h11b
   refine Zd <| Zb <| JLa (.int .i64 1) <| Za <| Zl <| ⟨.int .i64 1, [], Ret.one rfl (RV.tmp rfl), Sub.nil, ?_⟩
   exact ⟨by first | (simp_all [more]; done) | (congr 1; unfold more; simp_all; try omega), rfl⟩
  refine Yo (fun ρ M => ρ 4 = .int .i64 0 ∧ ρ 20 = .bool ((decide (k = 12)) && (decide (1 < j))) ∧ M = []) ?_ ?_
  ·refine Zb <| JLm (.int .i64 k) <| JLq (.bool (decide (k = 12))) (Pu.eql rfl rfl) <| JLm (.bool (decide (k = 12))) ?_
   cases h12 : (decide (k = 12)) with
   | true =>
    replace h12 := dt h12
    refine JLm (.int .i64 j) <| JLq (.bool (decide (1 < j))) (Pu.gtr rfl rfl) <| JLq (.bool (decide (1 < j))) (Pu.pickT rfl rfl) <| JLa (.bool (decide (1 < j))) <| Za ?_
    first | exact ⟨rfl, rfl, rfl⟩ | (exfalso; omega)
   | false =>
    replace h12 := df h12
    iterate 2 refine Zy rfl ?_
    refine JLq (.bool false) (Pu.pickF rfl rfl) <| JLa (.bool false) <| Za ?_
    first | exact ⟨rfl, rfl, rfl⟩ | (exfalso; omega)
  rintro ρ13 _ ⟨e14, e15, rfl⟩
  obtain ⟨ρ16, rfl⟩ := Zc (uc e14 (uc e15 un))
  clear e14 e15
  refine Zi (b := (decide (k = 12)) && (decide (1 < j))) rfl (fun h17 => ?_) (fun h17 => ?_)
  ·obtain ⟨h17a, h17b⟩ := andT h17
   replace h17a := dt h17a
   replace h17b := dt h17b
   refine Zd <| Zb <| JLa (.int .i64 2) <| Za <| Zl <| ⟨.int .i64 2, [], Ret.one rfl (RV.tmp rfl), Sub.nil, ?_⟩
   exact ⟨by first | (simp_all [more]; done) | (congr 1; unfold more; simp_all; try omega), rfl⟩
  refine Zp <| Zd <| Zb <| JLa (.int .i64 0) <| Za <| Zl <| ⟨.int .i64 0, [], Ret.one rfl (RV.tmp rfl), Sub.nil, ?_⟩
  exact ⟨by first | (simp_all [more]; done) | (congr 1; unfold more; simp_all; try omega), rfl⟩
 refine J_weak (N := fun ρ M => ρ 0 = .int .i64 k ∧ ρ 1 = .int .i64 j ∧ ρ 4 = .int .i64 0 ∧ ρ 5 = .bool ((decide (k = 12)) && (decide (j = 1))) ∧ M = []) ?_ ?_
 ·refine Zb <| JLm (.int .i64 k) <| JLq (.bool (decide (k = 12))) (Pu.eql rfl rfl) <| JLm (.bool (decide (k = 12))) ?_
  cases h18 : (decide (k = 12)) with
  | true =>
   replace h18 := dt h18
   refine JLm (.int .i64 j) <| JLq (.bool (decide (j = 1))) (Pu.eql rfl rfl) <| JLq (.bool (decide (j = 1))) (Pu.pickT rfl rfl) <| JLa (.bool (decide (j = 1))) <| Za ?_
   first | exact ⟨rfl, rfl, rfl, rfl, rfl⟩ | (exfalso; omega)
  | false =>
   replace h18 := df h18
   iterate 2 refine Zy rfl ?_
   refine JLq (.bool false) (Pu.pickF rfl rfl) <| JLa (.bool false) <| Za ?_
   first | exact ⟨rfl, rfl, rfl, rfl, rfl⟩ | (exfalso; omega)
 rintro ρ19 _ ⟨e20, e21, e22, e23, rfl⟩
 obtain ⟨ρ24, rfl⟩ := Zc (uc e20 (uc e21 (uc e22 (uc e23 un))))
 clear e20 e21 e22 e23
 refine Zi (b := (decide (k = 12)) && (decide (j = 1))) rfl (fun h25 => ?_) (fun h25 => ?_)
 ·obtain ⟨h25a, h25b⟩ := andT h25
  replace h25a := dt h25a
  replace h25b := dt h25b
  refine Zd <| Zb <| JLa (.int .i64 1) <| Za <| Zl <| ⟨.int .i64 1, [], Ret.one rfl (RV.tmp rfl), Sub.nil, ?_⟩
  exact ⟨by first | (simp_all [more]; done) | (congr 1; unfold more; simp_all; try omega), rfl⟩
 refine Yo (fun ρ M => ρ 4 = .int .i64 0 ∧ ρ 20 = .bool ((decide (k = 12)) && (decide (1 < j))) ∧ M = []) ?_ ?_
 ·refine Zb <| JLm (.int .i64 k) <| JLq (.bool (decide (k = 12))) (Pu.eql rfl rfl) <| JLm (.bool (decide (k = 12))) ?_
  cases h26 : (decide (k = 12)) with
  | true =>
   replace h26 := dt h26
   refine JLm (.int .i64 j) <| JLq (.bool (decide (1 < j))) (Pu.gtr rfl rfl) <| JLq (.bool (decide (1 < j))) (Pu.pickT rfl rfl) <| JLa (.bool (decide (1 < j))) <| Za ?_
   first | exact ⟨rfl, rfl, rfl⟩ | (exfalso; omega)
  | false =>
   replace h26 := df h26
   iterate 2 refine Zy rfl ?_
   refine JLq (.bool false) (Pu.pickF rfl rfl) <| JLa (.bool false) <| Za ?_
   first | exact ⟨rfl, rfl, rfl⟩ | (exfalso; omega)
 rintro ρ27 _ ⟨e28, e29, rfl⟩
 obtain ⟨ρ30, rfl⟩ := Zc (uc e28 (uc e29 un))
 clear e28 e29
 refine Zi (b := (decide (k = 12)) && (decide (1 < j))) rfl (fun h31 => ?_) (fun h31 => ?_)
 ·obtain ⟨h31a, h31b⟩ := andT h31
  replace h31a := dt h31a
  replace h31b := dt h31b
  refine Zd <| Zb <| JLa (.int .i64 2) <| Za <| Zl <| ⟨.int .i64 2, [], Ret.one rfl (RV.tmp rfl), Sub.nil, ?_⟩
  exact ⟨by first | (simp_all [more]; done) | (congr 1; unfold more; simp_all; try omega), rfl⟩
 refine Zp <| Zd <| Zb <| JLa (.int .i64 0) <| Za <| Zl <| ⟨.int .i64 0, [], Ret.one rfl (RV.tmp rfl), Sub.nil, ?_⟩
 exact ⟨by first | (simp_all [more]; done) | (congr 1; unfold more; simp_all; try omega), rfl⟩
theorem Yc (n lo hi : Int) (H : Heap) : CT Tryz.prog 79 ⟨[.int .i64 n, .int .i64 lo, .int .i64 hi]⟩ [] H (fun v N => v = .bool (decide (n < lo ∨ hi < n)) ∧ N = []) := by
 refine Zo Tryz.func79 rfl rfl <| Zd <| Zb <| JLa (.bool false) <| Za <| Yo (fun ρ M => ρ 6 = .bool ((decide (n < lo)) || (decide (hi < n))) ∧ M = []) ?_ ?_
 ·refine Zb <| JLm (.int .i64 n) <| JLm (.int .i64 lo) <| JLq (.bool (decide (n < lo))) (Pu.lss rfl rfl) <| JLm (.bool (decide (n < lo))) ?_
  cases h1 : (decide (n < lo)) with
  | true =>
   replace h1 := dt h1
   iterate 3 refine Zy rfl ?_
   refine JLq (.bool true) (Pu.pickT rfl rfl) <| JLa (.bool true) <| Za ?_
   first | exact ⟨rfl, rfl⟩ | (exfalso; omega)
  | false =>
   replace h1 := df h1
   refine JLm (.int .i64 n) <| JLm (.int .i64 hi) <| JLq (.bool (decide (hi < n))) (Pu.gtr rfl rfl) <| JLq (.bool (decide (hi < n))) (Pu.pickF rfl rfl) <| JLa (.bool (decide (hi < n))) <| Za ?_
   first | exact ⟨rfl, rfl⟩ | (exfalso; omega)
 rintro ρ2 _ ⟨e3, rfl⟩
 obtain ⟨ρ4, rfl⟩ := Zc (uc e3 un)
 clear e3
 refine Zl <| ⟨.bool ((decide (n < lo)) || (decide (hi < n))), [], Ret.one rfl (RV.tmp rfl), Sub.nil, ?_⟩
 exact ⟨by simp, rfl⟩
theorem binds_ct : ∀ (p : Pt) (cs : List Value) (H : Heap), RP H cs p → binds p ≤ 1000000 → CT Tryz.prog 112 ⟨[.agg ⟨cs⟩]⟩ [] H (fun v N => v = .int .i64 (binds p : Int) ∧ N = []) := by
 intro p
 induction p using Pt.ind with
 | h kind num ref kids ih =>
 intro cs H hp hb
 obtain ⟨ks, rfl, hk, hn, hks⟩ := RP_mk.1 hp
 rw [binds] at hb ⊢
 refine Zo Tryz.func112 rfl rfl <| Zd <| Zb <| JLr (Zt (l := pkP kind num ref ks) rfl rfl fun b1 => JLa (.int .i64 0) <| Za <| Zd <| Zd <| Zb <| JLq (.pointer (some ⟨b1, 0, none⟩)) (Y6 rfl rfl) <| JLr (Zf ty3 rfl (At.bx 0 rfl) (pkP_0 ..) <| JLq (.bool (decide (kind = 1))) (Pu.eql rfl rfl) <| Za ?_))
 refine Zi (b := decide (kind = 1)) rfl (fun h2 => ?_) (fun h2 => ?_)
 ·replace h2 := dt h2
  refine Zd <| Zb <| JLa (.int .i64 1) <| Za <| Zl <| ⟨.int .i64 1, [], Ret.one rfl (RV.tmp rfl), Sub.nil, ?_⟩
  exact ⟨by rw [if_pos (by assumption)]; rfl, rfl⟩
 replace h2 := df h2
 refine Zp <| Zd <| Zb <| JLa (.int .i64 0) <| Za <| Zd <| Zd <| Zb <| JLq (.pointer (some ⟨b1, 34, none⟩)) (YO rfl rfl) <| JLr (Zf ty73 rfl (At.bx 0 rfl) (Xf ..) ?_)
 obtain ⟨a3, cap3, hv3⟩ := hks.sl
 have hle3 := hks.le
 refine JLq (.int .i64 ((kids.length : Int))) (Pu.lenSl Tryz.runUnderlying73 hv3) <| JLm (.int .i64 0) <| Za <| Zs <| ZU (fun k ρ M => ∃ (j : Nat), ρ 2 = .int .i64 0 ∧ ρ 3 = .int .i64 ((Yf (kids.take j) : Int)) ∧ ρ 10 = ks ∧ ρ 11 = .int .i64 ((kids.length : Int)) ∧ ρ 12 = .int .i64 ((j : Int)) ∧ Sub [[(b1, .cells ⟨pkP kind num ref ks⟩ 75 (0, 0))]] M ∧ j ≤ kids.length ∧ k = kids.length - j) _ ⟨0, rfl, rfl, rfl, rfl, rfl, (Sk Sub.nil), Nat.zero_le _, rfl⟩ ?_
 rintro _ ρ4 _ ⟨j, e5, e6, e7, e8, e9, hm10, hj, rfl⟩
 obtain ⟨ρ11, rfl⟩ := Zc (uc e5 (uc e6 (uc e7 (uc e8 (uc e9 un)))))
 clear e5 e6 e7 e8 e9
 refine Z1 hm10 ?_
 have hlen := hks.le
 refine Zd <| Zb <| JLq (.bool (decide ((j : Int) < (kids.length : Int)))) (Pu.lss rfl rfl) <| Za <| Zd <| Zi (b := decide ((j : Int) < (kids.length : Int))) rfl (fun h12 => ?_) (fun h12 => ?_)
 ·replace h12 := dt h12
  have h12n : j < kids.length := by omega
  have hm1 := binds_mem kids _ (List.getElem_mem h12n)
  have hm2 := bindsL_take kids _ h12n
  have hm3 := bindsL_take_le kids (j + 1)
  rw [if_neg (by assumption)] at hb
  refine Zp <| Zd <| Zs <| Zd <| Zb ?_
  obtain ⟨b13, o13, cap13, row13, T13, fr13, cs13, hv13, hb13, hs13, hE13⟩ := hks.get j (by first | assumption | omega | decide | simp)
  refine JLq (.pointer (some ⟨b13, o13 + j * 35, none⟩)) (Pu.idx j Tryz.runUnderlying73 Z5 hv13 rfl rfl (by first | assumption | omega | decide | simp)) <| JLr (Zh Z5 rfl (At.im hb13) hs13 <| JLr (Zj (l := pkP 0 0 zS (.slice none 0 0)) Tryz.zeroValue75 rfl fun b14 => JLr (Ze 0 (vs := cs13) (l := cs13) Z5 rfl rfl rfl rfl (ZJ hE13) (RP_ok hE13) (ZL (n := 35) rfl (ZJ hE13)) <| Za <| Zb <| JLm (.int .i64 ((Yf (kids.take j) : Int))) <| JLr (Zh Z5 rfl (At.bx 0 rfl) (Zx (ZJ hE13)) <| Zg rfl Tryz.call112 rfl (fun hin => ih _ (List.getElem_mem h12n) _ _ (RP.mono (Hle.hu _ _) hE13) (by omega)) rfl ?_))))
  rintro _ _ ⟨rfl, rfl⟩
  refine JLq (.int .i64 ((Yf (kids.take j) : Int) + ((binds (kids[j]) : Int)))) (Pu.add64 rfl rfl (by first | omega | (constructor <;> omega))) <| JLa (.int .i64 ((Yf (kids.take j) : Int) + ((binds (kids[j]) : Int)))) <| Za <| Zb <| JLq (.int .i64 (((j + 1 : Nat) : Int))) (Pu.inc rfl rfl (by omega)) <| JLm (.int .i64 (((j + 1 : Nat) : Int))) <| Za <| ⟨_, ?_, (j + 1), rfl, (ieq rfl (by omega)), rfl, rfl, rfl, (Sd (Sk Sub.nil)), ?_, rfl⟩
  ·omega
  omega
 replace h12 := df h12
 have h12n : kids.length ≤ j := by omega
 refine ZM _ rfl <| Zd <| Zb <| JLm (.int .i64 ((Yf (kids.take j) : Int))) <| JLa (.int .i64 ((Yf (kids.take j) : Int))) <| Za <| Zl <| ⟨.int .i64 ((Yf (kids.take j) : Int)), [], Ret.one rfl (RV.tmp rfl), Sub.nil, ?_⟩
 exact ⟨by rw [if_neg (by assumption), List.take_of_length_le h12n], rfl⟩
end Go.Proofs.YtmophpgiaiemhaaGreat.Hs
/-! Walks, printed by a program of this session's own (gen.py). -/
namespace Go.Proofs.YtmophpgiaiemhaaGreat.Hs
open Go Go.Proofs
set_option maxRecDepth 100000
set_option linter.unusedVariables false
set_option linter.unusedSimpArgs false
attribute [local irreducible] JL J CT wlo
theorem stay_ct (n b : Int) (H : Heap) (hb : inI (n + b)) : CT Tryz.prog 83 ⟨[.int .i64 n, .int .i64 b]⟩ [] H (fun v N => ∃ cs k, v = .agg ⟨cs⟩ ∧ N = [k] ∧ OT (.mk 1 (n + b) zS [] []) cs k) := by
 have hb1 : -9223372036854775808 ≤ n + b := hb.1
 have hb2 : n + b ≤ 9223372036854775807 := hb.2
 refine Zo Tryz.func83 rfl rfl <| Zd <| Zb <| JLr (Zj (l := pkT 0 0 zS (.slice none 0 0) (.slice none 0 0)) Tryz.zeroValue27 rfl fun b1 => Za <| Zd <| Zb <| JLm (.int .i64 n) <| JLm (.int .i64 b) <| JLq (.int .i64 (n + b)) (Pu.add64 rfl rfl (by first | omega | (constructor <;> omega))) <| JLq (.agg ⟨pkT 1 (n + b) zS (.slice none 0 0) (.slice none 0 0)⟩) (Pu.build (pv := [(0, .int .i64 1), (1, .int .i64 (n + b))]) (l := pkT 1 (n + b) zS (.slice none 0 0) (.slice none 0 0)) rfl (bld27_0_1 _ _)) <| JLr (Ze 0 (vs := pkT 1 (n + b) zS (.slice none 0 0) (.slice none 0 0)) (l := pkT 1 (n + b) zS (.slice none 0 0) (.slice none 0 0)) Zu rfl rfl rfl rfl rfl (ZI rfl rfl) (Z0 ..) <| Za ?_))
 refine Zl <| ⟨.agg ⟨pkT 1 (n + b) zS (.slice none 0 0) (.slice none 0 0)⟩, [[]], Ret.one rfl (RV.cell Zu rfl (At.bx 0 rfl) (ZZ ..)), (Sub.emp Sub.nil), ?_⟩
 exact ⟨_, _, rfl, rfl, OT_leaf (by unfold inI; omega) hb⟩
theorem same_ct (s : Sm) (H : Heap) : CT Tryz.prog 84 ⟨[.agg ⟨sC s⟩]⟩ [] H (fun v N => v = .agg ⟨sC s⟩ ∧ N = []) := by
 refine Zo Tryz.func84 rfl rfl <| Zd <| Zb <| JLr (Zt (l := sC s) rfl rfl fun b1 => JLr (Zj (l := sC zS) Tryz.zeroValue23 rfl fun b2 => Za <| Zd <| Zb <| JLr (Zh Xb rfl (At.bx 1 rfl) (Zx rfl) <| JLr (Ze 0 (vs := sC s) (l := sC s) Xb rfl rfl rfl rfl rfl (sC_ok _) (ZL rfl rfl) <| Za <| Zl <| ⟨.agg ⟨sC s⟩, [], Ret.one rfl (RV.cell Xb rfl (At.bx 0 rfl) (Zx rfl)), Sub.nil, ?_⟩))))
 exact ⟨rfl, rfl⟩
theorem mapPattern_ct : ∀ (gr : Nat) (frs crs : List Value) (hcallr : ∀ args w, (callFunc gr args).run Tryz.prog w = .ok (.enter gr args) w) (rf : Sm → Sm) (fv : Value) (hfv : fv.oneCell' = true) (p : Pt) (cs : List Value) (H : Heap), RP H cs p → (∀ s h, Hle H h → CT Tryz.prog gr ⟨frs ++ [.agg ⟨sC s⟩] ++ crs⟩ [] h (fun v N => v = .agg ⟨sC (rf s)⟩ ∧ N = [])) → sizeP p ≤ 1000000 → CT Tryz.prog 113 ⟨[.agg ⟨[fv, .func (.func gr) ⟨frs⟩ ⟨crs⟩]⟩, .agg ⟨cs⟩]⟩ [] H (fun v N => ∃ cs k, v = .agg ⟨cs⟩ ∧ N = [k] ∧ OP (mapP rf p) cs k) := by
 intro gr frs crs hcallr rf fv hfv p
 induction p using Pt.ind with
 | h kind num ref kids ih =>
 intro cs H hp hgr hz
 rw [sizeP] at hz
 have hlk := len_sizePs kids
 obtain ⟨ks, rfl, hk, hn, hks⟩ := RP_mk.1 hp
 refine Zo Tryz.func113 rfl rfl <| Zd <| Zb <| JLr (Zt (l := [fv, .func (.func gr) ⟨frs⟩ ⟨crs⟩]) rfl rfl fun b1 => JLr (Zt (l := pkP kind num ref ks) rfl rfl fun b2 => JLr (Zj (l := pkP 0 0 zS (.slice none 0 0)) Tryz.zeroValue75 rfl fun b3 => Za <| Zd <| Ya mixed #[0, 1, 0, 4, 0, 16, 0, 64, 240, 511, 0, 2047] 11 11 3 rfl (by kernel_rfl) (fun i r4 N4 => match i with | 0 => (r4 0) = .pointer (some ⟨b2, 0, none⟩) | 1 => (r4 1) = .int .i64 kind | 2 => (r4 2) = .pointer (some ⟨b2, 1, none⟩) | 3 => (r4 3) = .int .i64 num | 4 => (r4 4) = .pointer (some ⟨b1, 1, none⟩) | 5 => (r4 5) = .func (.func gr) ⟨frs⟩ ⟨crs⟩ | 6 => (r4 6) = .pointer (some ⟨b2, 2, none⟩) | 7 => (r4 7) = .agg ⟨sC ref⟩ | 8 => (r4 8) = .agg ⟨sC (rf ref)⟩ | 9 => (r4 9) = .agg ⟨pkP kind num (rf ref) (.slice none 0 0)⟩ | 10 => (r4 10) = .pointer (some ⟨(ZA (r4 10)), 0, none⟩) ∧ (N4 10) = [((ZA (r4 10)), .cells ⟨pkP 0 0 zS (.slice none 0 0)⟩ 75 (0, 0))] | _ => True) ⟨?_, ?_, ?_, ?_, ?_, ?_, ?_, ?_, ?_, ?_, ?_, trivial⟩ ?_)))
 ·intro ρ r4 N4 B hB hBa hp hr hr0
  obtain ⟨ρ5, rfl⟩ := Zc (uc (show ρ 3 = .pointer (some ⟨b2, 0, none⟩) from hr0 3 (by kernel_rfl)) un)
  refine JLq (.pointer (some ⟨b2, 0, none⟩)) (Y6 rfl rfl) <| Za ?_
  exact ⟨.pointer (some ⟨b2, 0, none⟩), [], rfl, (Sub.emp Sub.refl), rfl⟩
 ·intro ρ r4 N4 B hB hBa hp hr hr0
  obtain ⟨ρ6, rfl⟩ := Zc (uc (show ρ 8 = .pointer (some ⟨b2, 0, none⟩) from (hr 0 _ _ (by decide) rfl rfl rfl).trans (hp 0 (by decide) rfl)) un)
  refine JLr (Zf ty3 rfl (At.bx 12 (Zn ((hB 1 (by decide)).trans rfl))) (pkP_0 ..) <| Za ?_)
  exact ⟨.int .i64 kind, [], rfl, (Sub.emp Sub.refl), rfl⟩
 ·intro ρ r4 N4 B hB hBa hp hr hr0
  obtain ⟨ρ7, rfl⟩ := Zc (uc (show ρ 3 = .pointer (some ⟨b2, 0, none⟩) from hr0 3 (by kernel_rfl)) un)
  refine JLq (.pointer (some ⟨b2, 1, none⟩)) (fa75_1 rfl rfl) <| Za ?_
  exact ⟨.pointer (some ⟨b2, 1, none⟩), [], rfl, (Sub.emp Sub.refl), rfl⟩
 ·intro ρ r4 N4 B hB hBa hp hr hr0
  obtain ⟨ρ8, rfl⟩ := Zc (uc (show ρ 10 = .pointer (some ⟨b2, 1, none⟩) from (hr 2 _ _ (by decide) rfl rfl rfl).trans (hp 2 (by decide) rfl)) un)
  refine JLr (Zf ty3 rfl (At.bx 12 (Zn ((hB 1 (by decide)).trans rfl))) (pkP_1 ..) <| Za ?_)
  exact ⟨.int .i64 num, [], rfl, (Sub.emp Sub.refl), rfl⟩
 ·intro ρ r4 N4 B hB hBa hp hr hr0
  obtain ⟨ρ9, rfl⟩ := Zc (uc (show ρ 2 = .pointer (some ⟨b1, 0, none⟩) from hr0 2 (by kernel_rfl)) un)
  refine JLq (.pointer (some ⟨b1, 1, none⟩)) (fa136_1 rfl rfl) <| Za ?_
  exact ⟨.pointer (some ⟨b1, 1, none⟩), [], rfl, (Sub.emp Sub.refl), rfl⟩
 ·intro ρ r4 N4 B hB hBa hp hr hr0
  obtain ⟨ρ10, rfl⟩ := Zc (uc (show ρ 12 = .pointer (some ⟨b1, 1, none⟩) from (hr 4 _ _ (by decide) rfl rfl rfl).trans (hp 4 (by decide) rfl)) un)
  refine JLr (Zf ty134 rfl (At.bx 13 (Zn ((hB 2 (by decide)).trans rfl))) rfl <| Za ?_)
  exact ⟨.func (.func gr) ⟨frs⟩ ⟨crs⟩, [], rfl, (Sub.emp Sub.refl), rfl⟩
 ·intro ρ r4 N4 B hB hBa hp hr hr0
  obtain ⟨ρ11, rfl⟩ := Zc (uc (show ρ 3 = .pointer (some ⟨b2, 0, none⟩) from hr0 3 (by kernel_rfl)) un)
  refine JLq (.pointer (some ⟨b2, 2, none⟩)) (fa75_2 rfl rfl) <| Za ?_
  exact ⟨.pointer (some ⟨b2, 2, none⟩), [], rfl, (Sub.emp Sub.refl), rfl⟩
 ·intro ρ r4 N4 B hB hBa hp hr hr0
  obtain ⟨ρ12, rfl⟩ := Zc (uc (show ρ 14 = .pointer (some ⟨b2, 2, none⟩) from (hr 6 _ _ (by decide) rfl rfl rfl).trans (hp 6 (by decide) rfl)) un)
  refine JLr (Zh Xb rfl (At.bx 12 (Zn ((hB 1 (by decide)).trans rfl))) (pkP_2 ..) <| Za ?_)
  exact ⟨.agg ⟨sC ref⟩, [], rfl, (Sub.emp Sub.refl), rfl⟩
 ·intro ρ r4 N4 B hB hBa hp hr hr0
  obtain ⟨ρ13, rfl⟩ := Zc (uc (show ρ 13 = .func (.func gr) ⟨frs⟩ ⟨crs⟩ from (hr 5 _ _ (by decide) rfl rfl rfl).trans (hp 5 (by decide) rfl)) (uc (show ρ 15 = .agg ⟨sC ref⟩ from (hr 7 _ _ (by decide) rfl rfl rfl).trans (hp 7 (by decide) rfl)) un))
  refine Zg rfl hcallr rfl (fun hin => hgr _ _ (Hle.hu _ _)) rfl ?_
  rintro _ _ ⟨rfl, rfl⟩
  refine Za ?_
  exact ⟨.agg ⟨sC (rf ref)⟩, [], rfl, (Sub.emp Sub.refl), rfl⟩
 ·intro ρ r4 N4 B hB hBa hp hr hr0
  obtain ⟨ρ14, rfl⟩ := Zc (uc (show ρ 9 = .int .i64 kind from (hr 1 _ _ (by decide) rfl rfl rfl).trans (hp 1 (by decide) rfl)) (uc (show ρ 11 = .int .i64 num from (hr 3 _ _ (by decide) rfl rfl rfl).trans (hp 3 (by decide) rfl)) (uc (show ρ 16 = .agg ⟨sC (rf ref)⟩ from (hr 8 _ _ (by decide) rfl rfl rfl).trans (hp 8 (by decide) rfl)) un)))
  refine JLq (.agg ⟨pkP kind num (rf ref) (.slice none 0 0)⟩) (Pu.build (pv := [(0, .int .i64 kind), (1, .int .i64 num), (2, .agg ⟨sC (rf ref)⟩)]) (l := pkP kind num (rf ref) (.slice none 0 0)) rfl (bld75_0_1_2 _ _ _)) <| Za ?_
  exact ⟨.agg ⟨pkP kind num (rf ref) (.slice none 0 0)⟩, [], rfl, (Sub.emp Sub.refl), rfl⟩
 ·intro ρ r4 N4 B hB hBa hp hr hr0
  refine JLr (Zj (l := pkP 0 0 zS (.slice none 0 0)) Tryz.zeroValue75 rfl fun b15 => Za ?_)
  exact ⟨.pointer (some ⟨b15, 0, none⟩), [(b15, .cells ⟨pkP 0 0 zS (.slice none 0 0)⟩ 75 (0, 0))], rfl, Sub.refl, ⟨rfl, rfl⟩⟩
 intro ρ r4 N4 hp hr hr0
 have p10 : (r4 10) = .pointer (some ⟨(ZA (r4 10)), 0, none⟩) ∧ (N4 10) = [((ZA (r4 10)), .cells ⟨pkP 0 0 zS (.slice none 0 0)⟩ 75 (0, 0))] := hp 10 (by decide)
 obtain ⟨ρ16, rfl⟩ := Zc (uc (show ρ 2 = .pointer (some ⟨b1, 0, none⟩) from hr0 2 (by kernel_rfl)) (uc (show ρ 3 = .pointer (some ⟨b2, 0, none⟩) from hr0 3 (by kernel_rfl)) (uc (show ρ 4 = .pointer (some ⟨b3, 0, none⟩) from hr0 4 (by kernel_rfl)) (uc (show ρ 5 = .pointer (some ⟨(ZA (r4 10)), 0, none⟩) from (hr 10 _ _ (by decide) rfl rfl).trans p10.1) (uc (show ρ 17 = .agg ⟨pkP kind num (rf ref) (.slice none 0 0)⟩ from (hr 9 _ _ (by decide) rfl rfl).trans (hp 9 (by decide))) un)))))
 have p4_10 := p10
 clear hp hr hr0 p10
 refine Zq (M' := [(N4 0), (N4 1), (N4 2), (N4 3), (N4 4), (N4 5), (N4 6), (N4 7), (N4 8), (N4 9), (N4 10), [(b3, .cells ⟨pkP 0 0 zS (.slice none 0 0)⟩ 75 (0, 0))], [(b2, .cells ⟨pkP kind num ref ks⟩ 75 (0, 0))], [(b1, .cells ⟨[fv, .func (.func gr) ⟨frs⟩ ⟨crs⟩]⟩ 136 (0, 0))]]) Sub.refl <| Zq (M' := [[((ZA (r4 10)), .cells ⟨pkP 0 0 zS (.slice none 0 0)⟩ 75 (0, 0))], [(b3, .cells ⟨pkP 0 0 zS (.slice none 0 0)⟩ 75 (0, 0))], [(b2, .cells ⟨pkP kind num ref ks⟩ 75 (0, 0))], [(b1, .cells ⟨[fv, .func (.func gr) ⟨frs⟩ ⟨crs⟩]⟩ 136 (0, 0))]]) (Sd (Sd (Sd (Sd (Sd (Sd (Sd (Sd (Sd (Sd (Se p4_10.2 (Sk (Sk (Sk Sub.nil)))))))))))))) ?_
 show JL _ _ _ [_] _ _ _
 refine JLr (Ze 0 (vs := pkP kind num (rf ref) (.slice none 0 0)) (l := pkP kind num (rf ref) (.slice none 0 0)) Z5 rfl rfl rfl rfl rfl (pkP_ok rfl) (pkP_s ..) <| Za <| Zd <| Zd <| Zb <| JLq (.pointer (some ⟨b2, 34, none⟩)) (YO rfl rfl) <| JLr (Zf ty73 rfl (At.bx 2 rfl) (Xf ..) ?_))
 obtain ⟨a17, cap17, hv17⟩ := hks.sl
 have hle17 := hks.le
 refine JLq (.int .i64 ((kids.length : Int))) (Pu.lenSl Tryz.runUnderlying73 hv17) <| JLm (.int .i64 0) <| Za <| Zs <| ZU (fun k ρ M => ∃ (j : Nat) (v : Value) (es : List (List Value)) (k1 k2 : Zk), ρ 2 = .pointer (some ⟨b1, 0, none⟩) ∧ ρ 4 = .pointer (some ⟨b3, 0, none⟩) ∧ ρ 5 = .pointer (some ⟨(ZA (r4 10)), 0, none⟩) ∧ ρ 19 = ks ∧ ρ 20 = .int .i64 ((kids.length : Int)) ∧ ρ 21 = .int .i64 ((j : Int)) ∧ Sub [[((ZA (r4 10)), .cells ⟨pkP kind num (rf ref) v⟩ 75 (0, 0))], k1, k2, [(b3, .cells ⟨pkP 0 0 zS (.slice none 0 0)⟩ 75 (0, 0))], [(b1, .cells ⟨[fv, .func (.func gr) ⟨frs⟩ ⟨crs⟩]⟩ 136 (0, 0))]] M ∧ j ≤ kids.length ∧ Own 75 35 v es k1 ∧ OPs (mapPs rf (kids.take j)) es k2 ∧ k = kids.length - j) _ ⟨0, _, [], [], [], rfl, rfl, rfl, rfl, rfl, rfl, (Sk (Sub.emp (Sub.emp (Sk (Sd (Sk Sub.nil)))))), Nat.zero_le _, Own.nil, OPs.nil, rfl⟩ ?_
 rintro _ ρ18 _ ⟨j, v, es, k1, k2, e19, e20, e21, e22, e23, e24, hm25, hj, ho, hop, rfl⟩
 obtain ⟨ρ26, rfl⟩ := Zc (uc e19 (uc e20 (uc e21 (uc e22 (uc e23 (uc e24 un))))))
 clear e19 e20 e21 e22 e23 e24
 refine Z1 hm25 ?_
 have hlen := hks.le
 refine Zd <| Zb <| JLq (.bool (decide ((j : Int) < (kids.length : Int)))) (Pu.lss rfl rfl) <| Za <| Zd <| Zi (b := decide ((j : Int) < (kids.length : Int))) rfl (fun h27 => ?_) (fun h27 => ?_)
 ·replace h27 := dt h27
  have h27n : j < kids.length := by omega
  have hel := OPs_len hop
  rw [mapPs_len, List.length_take] at hel
  have hs1 := sizePs_mem _ (List.getElem_mem h27n)
  refine Zp <| Zd <| Zs <| Zd <| Zb ?_
  obtain ⟨b28, o28, cap28, row28, T28, fr28, cs28, hv28, hb28, hs28, hE28⟩ := hks.get j (by first | assumption | omega | decide | simp)
  refine JLq (.pointer (some ⟨b28, o28 + j * 35, none⟩)) (Pu.idx j Tryz.runUnderlying73 Z5 hv28 rfl rfl (by first | assumption | omega | decide | simp)) <| JLr (Zh Z5 rfl (At.im hb28) hs28 <| JLr (Zj (l := pkP 0 0 zS (.slice none 0 0)) Tryz.zeroValue75 rfl fun b29 => JLr (Ze 0 (vs := cs28) (l := cs28) Z5 rfl rfl rfl rfl (ZJ hE28) (RP_ok hE28) (ZL (n := 35) rfl (ZJ hE28)) <| Za <| Ya mixed #[0, 1, 0, 0, 12, 28, 63, 127, 255] 6 6 6 rfl (by kernel_rfl) (fun i r30 N30 => match i with | 0 => (r30 0) = .pointer (some ⟨(ZA (r4 10)), 34, none⟩) | 1 => (r30 1) = v | 2 => (r30 2) = .agg ⟨[fv, .func (.func gr) ⟨frs⟩ ⟨crs⟩]⟩ | 3 => (r30 3) = .agg ⟨cs28⟩ | 4 => (r30 4) = .agg ⟨(cel (r30 4))⟩ ∧ OP (mapP rf (kids[j])) (cel (r30 4)) (N30 4) | 5 => (r30 5) = .slice (some ⟨(ZC (r30 5)), 0, none⟩) 1 1 ∧ (N30 5) = [(ZC (r30 5), .cells ⟨List.flatten [(cel (r30 4))]⟩ 75 (0, 0))] ∧ Own 75 35 (.slice (some ⟨(ZC (r30 5)), 0, none⟩) 1 1) [(cel (r30 4))] (N30 5) | _ => True) ⟨?_, ?_, ?_, ?_, ?_, ?_, trivial⟩ ?_)))
  ·intro ρ r30 N30 B hB hBa hp hr hr0
   obtain ⟨ρ31, rfl⟩ := Zc (uc (show ρ 5 = .pointer (some ⟨(ZA (r4 10)), 0, none⟩) from hr0 5 (by kernel_rfl)) un)
   refine JLq (.pointer (some ⟨(ZA (r4 10)), 34, none⟩)) (YO rfl rfl) <| Za ?_
   exact ⟨.pointer (some ⟨(ZA (r4 10)), 34, none⟩), [], rfl, (Sub.emp Sub.refl), rfl⟩
  ·intro ρ r30 N30 B hB hBa hp hr hr0
   obtain ⟨ρ32, rfl⟩ := Zc (uc (show ρ 25 = .pointer (some ⟨(ZA (r4 10)), 34, none⟩) from (hr 0 _ _ (by decide) rfl rfl rfl).trans (hp 0 (by decide) rfl)) un)
   refine JLr (Zf ty73 rfl (At.bx 7 (Zn ((hB 1 (by decide)).trans rfl))) (Xf ..) <| Za ?_)
   exact ⟨v, [], rfl, (Sub.emp Sub.refl), rfl⟩
  ·intro ρ r30 N30 B hB hBa hp hr hr0
   obtain ⟨ρ33, rfl⟩ := Zc (uc (show ρ 2 = .pointer (some ⟨b1, 0, none⟩) from hr0 2 (by kernel_rfl)) un)
   refine JLr (Zh ty136 rfl (At.bx 11 (Zn ((hB 5 (by decide)).trans rfl))) rfl <| Za ?_)
   exact ⟨.agg ⟨[fv, .func (.func gr) ⟨frs⟩ ⟨crs⟩]⟩, [], rfl, (Sub.emp Sub.refl), rfl⟩
  ·intro ρ r30 N30 B hB hBa hp hr hr0
   obtain ⟨ρ34, rfl⟩ := Zc (uc (show ρ 7 = .pointer (some ⟨b29, 0, none⟩) from hr0 7 (by kernel_rfl)) un)
   refine JLr (Zh Z5 rfl (At.bx 6 (Zn ((hB 0 (by decide)).trans rfl))) (Zx (ZJ hE28)) <| Za ?_)
   exact ⟨.agg ⟨cs28⟩, [], rfl, (Sub.emp Sub.refl), rfl⟩
  ·intro ρ r30 N30 B hB hBa hp hr hr0
   obtain ⟨ρ35, rfl⟩ := Zc (uc (show ρ 27 = .agg ⟨[fv, .func (.func gr) ⟨frs⟩ ⟨crs⟩]⟩ from (hr 2 _ _ (by decide) rfl rfl rfl).trans (hp 2 (by decide) rfl)) (uc (show ρ 28 = .agg ⟨cs28⟩ from (hr 3 _ _ (by decide) rfl rfl rfl).trans (hp 3 (by decide) rfl)) un))
   refine Zg rfl Tryz.call113 rfl (fun hin => ih _ (List.getElem_mem h27n) _ _ (RP.mono (Hle.hu _ _) hE28) (fun s h hh => hgr s h (Hle.trans (Hle.hu _ _) hh)) (by omega)) rfl ?_
   rintro _ _ ⟨cs36, k36, rfl, rfl, hO36⟩
   refine Za ?_
   exact ⟨.agg ⟨cs36⟩, k36, rfl, Sub.refl, ⟨rfl, hO36⟩⟩
  ·intro ρ r30 N30 B hB hBa hp hr hr0
   have p4 : (r30 4) = .agg ⟨(cel (r30 4))⟩ ∧ OP (mapP rf (kids[j])) (cel (r30 4)) (N30 4) := hp 4 (by decide) rfl
   obtain ⟨ρ37, rfl⟩ := Zc (uc (show ρ 29 = .agg ⟨(cel (r30 4))⟩ from (hr 4 _ _ (by decide) rfl rfl rfl).trans p4.1) un)
   refine JLr (Zr (vs := [.agg ⟨(cel (r30 4))⟩]) [(cel (r30 4))] Tryz.runUnderlying73 el75 rfl rfl (by intro e he; simp only [List.mem_cons, List.not_mem_nil, or_false] at he; subst he; exact p4.2.len) rfl (by decide) fun b38 k38 ho38 hk38 => Za ?_)
   exact ⟨.slice (some ⟨b38, 0, none⟩) 1 1, k38, rfl, Sub.refl, ⟨rfl, hk38, ho38⟩⟩
  intro ρ r30 N30 hp hr hr0
  have p4 : (r30 4) = .agg ⟨(cel (r30 4))⟩ ∧ OP (mapP rf (kids[j])) (cel (r30 4)) (N30 4) := hp 4 (by decide)
  have p5 : (r30 5) = .slice (some ⟨(ZC (r30 5)), 0, none⟩) 1 1 ∧ (N30 5) = [(ZC (r30 5), .cells ⟨List.flatten [(cel (r30 4))]⟩ 75 (0, 0))] ∧ Own 75 35 (.slice (some ⟨(ZC (r30 5)), 0, none⟩) 1 1) [(cel (r30 4))] (N30 5) := hp 5 (by decide)
  obtain ⟨ρ39, rfl⟩ := Zc (uc (show ρ 2 = .pointer (some ⟨b1, 0, none⟩) from hr0 2 (by kernel_rfl)) (uc (show ρ 4 = .pointer (some ⟨b3, 0, none⟩) from hr0 4 (by kernel_rfl)) (uc (show ρ 5 = .pointer (some ⟨(ZA (r4 10)), 0, none⟩) from hr0 5 (by kernel_rfl)) (uc (show ρ 19 = ks from hr0 19 (by kernel_rfl)) (uc (show ρ 20 = .int .i64 ((kids.length : Int)) from hr0 20 (by kernel_rfl)) (uc (show ρ 21 = .int .i64 ((j : Int)) from hr0 21 (by kernel_rfl)) (uc (show ρ 26 = v from (hr 1 _ _ (by decide) rfl rfl).trans (hp 1 (by decide))) (uc (show ρ 30 = .slice (some ⟨(ZC (r30 5)), 0, none⟩) 1 1 from (hr 5 _ _ (by decide) rfl rfl).trans p5.1) un))))))))
  have p30_4 := p4; have p30_5 := p5
  clear hp hr hr0 p4 p5
  refine Zq (M' := [(N30 0), (N30 1), (N30 2), (N30 3), (N30 4), (N30 5), [(b29, .cells ⟨cs28⟩ 75 (0, 0))], [((ZA (r4 10)), .cells ⟨pkP kind num (rf ref) v⟩ 75 (0, 0))], k1, k2, [(b3, .cells ⟨pkP 0 0 zS (.slice none 0 0)⟩ 75 (0, 0))], [(b1, .cells ⟨[fv, .func (.func gr) ⟨frs⟩ ⟨crs⟩]⟩ 136 (0, 0))]]) Sub.refl <| Zq (M' := [(N30 4), (N30 5), [(b29, .cells ⟨cs28⟩ 75 (0, 0))], [((ZA (r4 10)), .cells ⟨pkP kind num (rf ref) v⟩ 75 (0, 0))], k1, k2, [(b3, .cells ⟨pkP 0 0 zS (.slice none 0 0)⟩ 75 (0, 0))], [(b1, .cells ⟨[fv, .func (.func gr) ⟨frs⟩ ⟨crs⟩]⟩ 136 (0, 0))]]) (Sd (Sd (Sd (Sd (Sk (Sk (Sk (Sk (Sk (Sk (Sk (Sk Sub.nil)))))))))))) ?_
  show JL _ _ _ [_, _, _] _ _ _
  have hlens40 : ∀ e ∈ ([(cel (r30 4))] : List (List Value)), List.length e = 35 := by
   intro e he; simp only [List.mem_cons, List.not_mem_nil, or_false] at he
   rcases he with rfl
   ·exact p30_4.2.len
  have hoks40 : ∀ e ∈ ([(cel (r30 4))] : List (List Value)), okc e := by
   intro e he; simp only [List.mem_cons, List.not_mem_nil, or_false] at he
   rcases he with rfl
   ·exact p30_4.2.ok
  refine JLr (ZH (i := 4) (n := 1) (es' := [(cel (r30 4))]) Tryz.runUnderlying73 Tryz.runUnderlying73 (Or.inl rfl) el75 rfl rfl rfl ho (fun F w m => Src.row (((At.k 1 rfl (by rw [p30_5.2.1]; exact List.mem_cons_self))).heap m) (Zx (ZG hlens40))) rfl hlens40 hoks40 (by decide) (by omega) fun v40 k40 ho40 => JLq (.pointer (some ⟨(ZA (r4 10)), 34, none⟩)) (YO rfl rfl) <| JLr (Ze 3 (vs := [v40]) (l := pkP kind num (rf ref) v40) ty73 rfl rfl rfl (ZO ho40.one) rfl (Zm ho40.one Zv) (pkP_s34 ..) <| Za <| Zb <| JLq (.int .i64 (((j + 1 : Nat) : Int))) (Pu.inc rfl rfl (by omega)) <| JLm (.int .i64 (((j + 1 : Nat) : Int))) <| Za <| ⟨_, ?_, (j + 1), v40, (es ++ [(cel (r30 4))]), k40, (k2 ++ ((N30 4))), rfl, rfl, rfl, rfl, rfl, rfl, (Sub.cons 3 rfl (Sub.cons 3 rfl (Sub.join (Sub.cons 3 rfl (Sk (Sd (Sd (Sk (Sk Sub.nil))))))))), ?_, ?_, ?_, rfl⟩))
  ·omega
  ·omega
  ·assumption
  rw [mapPs_take rf kids j h27n]; exact OPs.snoc p30_4.2 hop
 replace h27 := df h27
 have h27n : kids.length ≤ j := by omega
 refine ZM _ rfl <| Zd <| Zb <| JLr (Zh Z5 rfl (At.bx 0 rfl) (pkP_a ..) <| JLr (Ze 3 (vs := pkP kind num (rf ref) v) (l := pkP kind num (rf ref) v) Z5 rfl rfl rfl rfl rfl (pkP_ok ho.one) (pkP_s ..) <| Za <| Zl <| ⟨.agg ⟨pkP kind num (rf ref) v⟩, [k1 ++ k2], Ret.one rfl (RV.cell Z5 rfl (At.bx 3 rfl) (pkP_a ..)), (Sub.join (Sd (Sk (Sk Sub.nil)))), ?_⟩))
 rw [List.take_of_length_le h27n] at hop
 exact ⟨_, _, rfl, rfl, by rw [mapP]; exact OP_mk.2 ⟨v, es, k1, k2, rfl, hk, hn, ho, hop, rfl, by rw [mapPs_len]; exact hks.le⟩⟩
end Go.Proofs.YtmophpgiaiemhaaGreat.Hs
/-! Walks, printed by a program of this session's own (gen.py). -/
namespace Go.Proofs.YtmophpgiaiemhaaGreat.Hs
open Go Go.Proofs
set_option maxRecDepth 100000
set_option linter.unusedVariables false
set_option linter.unusedSimpArgs false
attribute [local irreducible] JL J CT wlo
theorem ownPattern_ct : ∀ (p : Pt) (cs : List Value) (H : Heap), RP H cs p → sizeP p ≤ 1000000 → CT Tryz.prog 53 ⟨[.agg ⟨cs⟩]⟩ [] H (fun v N => ∃ cs k, v = .agg ⟨cs⟩ ∧ N = [k] ∧ OP p cs k) := by
 intro p
 induction p using Pt.ind with
 | h kind num ref kids ih =>
 intro cs H hp hz
 rw [sizeP] at hz
 have hlk := len_sizePs kids
 obtain ⟨ks, rfl, hk, hn, hks⟩ := RP_mk.1 hp
 refine Zo Tryz.func53 rfl rfl <| Zd <| Zb <| JLr (Zt (l := pkP kind num ref ks) rfl rfl fun b1 => JLr (Zj (l := pkP 0 0 zS (.slice none 0 0)) Tryz.zeroValue75 rfl fun b2 => Za <| Zd <| Zb <| JLq (.pointer (some ⟨b1, 34, none⟩)) (YO rfl rfl) <| JLr (Zf ty73 rfl (At.bx 1 rfl) (Xf ..) <| JLa ks <| Za <| Zd ?_)))
 refine Zb <| JLq (.pointer (some ⟨b1, 34, none⟩)) (YO rfl rfl) <| JLr (Ze 1 (vs := [.slice none 0 0]) (l := pkP kind num ref (.slice none 0 0)) ty73 rfl rfl rfl rfl rfl (Zm rfl Zv) (pkP_s34 ..) <| Za <| Zd <| Zd <| Zb <| JLm ks ?_)
 obtain ⟨a3, cap3, hv3⟩ := hks.sl
 have hle3 := hks.le
 refine JLq (.int .i64 ((kids.length : Int))) (Pu.lenSl Tryz.runUnderlying73 hv3) <| JLm (.int .i64 0) <| Za <| Zs <| ZU (fun k ρ M => ∃ (j : Nat) (v : Value) (es : List (List Value)) (k1 k2 : Zk), ρ 1 = .pointer (some ⟨b1, 0, none⟩) ∧ ρ 2 = .pointer (some ⟨b2, 0, none⟩) ∧ ρ 9 = ks ∧ ρ 10 = .int .i64 ((kids.length : Int)) ∧ ρ 11 = .int .i64 ((j : Int)) ∧ Sub [[(b1, .cells ⟨pkP kind num ref v⟩ 75 (0, 0))], k1, k2, [(b2, .cells ⟨pkP 0 0 zS (.slice none 0 0)⟩ 75 (0, 0))]] M ∧ j ≤ kids.length ∧ Own 75 35 v es k1 ∧ OPs ((kids.take j)) es k2 ∧ k = kids.length - j) _ ⟨0, (.slice none 0 0), [], [], [], rfl, rfl, rfl, rfl, rfl, (Sub.cons 1 rfl (Sub.emp (Sub.emp (Sk Sub.nil)))), Nat.zero_le _, Own.nil, OPs.nil, rfl⟩ ?_
 rintro _ ρ4 _ ⟨j, v, es, k1, k2, e5, e6, e7, e8, e9, hm10, hj, hov, hopv, rfl⟩
 obtain ⟨ρ11, rfl⟩ := Zc (uc e5 (uc e6 (uc e7 (uc e8 (uc e9 un)))))
 clear e5 e6 e7 e8 e9
 refine Z1 hm10 ?_
 have hlen := hks.le
 refine Zd <| Zb <| JLq (.bool (decide ((j : Int) < (kids.length : Int)))) (Pu.lss rfl rfl) <| Za <| Zd <| Zi (b := decide ((j : Int) < (kids.length : Int))) rfl (fun h12 => ?_) (fun h12 => ?_)
 ·replace h12 := dt h12
  have h12n : j < kids.length := by omega
  have helv := OPs_len hopv
  rw [List.length_take] at helv
  have hs1 := sizePs_mem _ (List.getElem_mem h12n)
  refine Zp <| Zd <| Zs <| Zd <| Zb ?_
  obtain ⟨b13, o13, cap13, row13, T13, fr13, cs13, hv13, hb13, hs13, hE13⟩ := hks.get j (by first | assumption | omega | decide | simp)
  refine JLq (.pointer (some ⟨b13, o13 + j * 35, none⟩)) (Pu.idx j Tryz.runUnderlying73 Z5 hv13 rfl rfl (by first | assumption | omega | decide | simp)) <| JLr (Zh Z5 rfl (At.im hb13) hs13 <| JLr (Zj (l := pkP 0 0 zS (.slice none 0 0)) Tryz.zeroValue75 rfl fun b14 => JLr (Ze 0 (vs := cs13) (l := cs13) Z5 rfl rfl rfl rfl (ZJ hE13) (RP_ok hE13) (ZL (n := 35) rfl (ZJ hE13)) <| Za <| Ya mixed #[0, 1, 0, 4, 12, 31, 63, 127] 5 5 5 rfl (by kernel_rfl) (fun i r15 N15 => match i with | 0 => (r15 0) = .pointer (some ⟨b1, 34, none⟩) | 1 => (r15 1) = v | 2 => (r15 2) = .agg ⟨cs13⟩ | 3 => (r15 3) = .agg ⟨(cel (r15 3))⟩ ∧ OP (kids[j]) (cel (r15 3)) (N15 3) | 4 => (r15 4) = .slice (some ⟨(ZC (r15 4)), 0, none⟩) 1 1 ∧ (N15 4) = [(ZC (r15 4), .cells ⟨List.flatten [(cel (r15 3))]⟩ 75 (0, 0))] ∧ Own 75 35 (.slice (some ⟨(ZC (r15 4)), 0, none⟩) 1 1) [(cel (r15 3))] (N15 4) | _ => True) ⟨?_, ?_, ?_, ?_, ?_, trivial⟩ ?_)))
  ·intro ρ r15 N15 B hB hBa hp hr hr0
   obtain ⟨ρ16, rfl⟩ := Zc (uc (show ρ 1 = .pointer (some ⟨b1, 0, none⟩) from hr0 1 (by kernel_rfl)) un)
   refine JLq (.pointer (some ⟨b1, 34, none⟩)) (YO rfl rfl) <| Za ?_
   exact ⟨.pointer (some ⟨b1, 34, none⟩), [], rfl, (Sub.emp Sub.refl), rfl⟩
  ·intro ρ r15 N15 B hB hBa hp hr hr0
   obtain ⟨ρ17, rfl⟩ := Zc (uc (show ρ 15 = .pointer (some ⟨b1, 34, none⟩) from (hr 0 _ _ (by decide) rfl rfl rfl).trans (hp 0 (by decide) rfl)) un)
   refine JLr (Zf ty73 rfl (At.bx 6 (Zn ((hB 1 (by decide)).trans rfl))) (Xf ..) <| Za ?_)
   exact ⟨v, [], rfl, (Sub.emp Sub.refl), rfl⟩
  ·intro ρ r15 N15 B hB hBa hp hr hr0
   obtain ⟨ρ18, rfl⟩ := Zc (uc (show ρ 5 = .pointer (some ⟨b14, 0, none⟩) from hr0 5 (by kernel_rfl)) un)
   refine JLr (Zh Z5 rfl (At.bx 5 (Zn ((hB 0 (by decide)).trans rfl))) (Zx (ZJ hE13)) <| Za ?_)
   exact ⟨.agg ⟨cs13⟩, [], rfl, (Sub.emp Sub.refl), rfl⟩
  ·intro ρ r15 N15 B hB hBa hp hr hr0
   obtain ⟨ρ19, rfl⟩ := Zc (uc (show ρ 17 = .agg ⟨cs13⟩ from (hr 2 _ _ (by decide) rfl rfl rfl).trans (hp 2 (by decide) rfl)) un)
   refine Zg rfl Tryz.call53 rfl (fun hin => ih _ (List.getElem_mem h12n) _ _ (RP.mono (Hle.hu _ _) hE13) (by omega)) rfl ?_
   rintro _ _ ⟨cs20, k20, rfl, rfl, hO20⟩
   refine Za ?_
   exact ⟨.agg ⟨cs20⟩, k20, rfl, Sub.refl, ⟨rfl, hO20⟩⟩
  ·intro ρ r15 N15 B hB hBa hp hr hr0
   have p3 : (r15 3) = .agg ⟨(cel (r15 3))⟩ ∧ OP (kids[j]) (cel (r15 3)) (N15 3) := hp 3 (by decide) rfl
   obtain ⟨ρ21, rfl⟩ := Zc (uc (show ρ 18 = .agg ⟨(cel (r15 3))⟩ from (hr 3 _ _ (by decide) rfl rfl rfl).trans p3.1) un)
   refine JLr (Zr (vs := [.agg ⟨(cel (r15 3))⟩]) [(cel (r15 3))] Tryz.runUnderlying73 el75 rfl rfl (by intro e he; simp only [List.mem_cons, List.not_mem_nil, or_false] at he; subst he; exact p3.2.len) rfl (by decide) fun b22 k22 ho22 hk22 => Za ?_)
   exact ⟨.slice (some ⟨b22, 0, none⟩) 1 1, k22, rfl, Sub.refl, ⟨rfl, hk22, ho22⟩⟩
  intro ρ r15 N15 hp hr hr0
  have p3 : (r15 3) = .agg ⟨(cel (r15 3))⟩ ∧ OP (kids[j]) (cel (r15 3)) (N15 3) := hp 3 (by decide)
  have p4 : (r15 4) = .slice (some ⟨(ZC (r15 4)), 0, none⟩) 1 1 ∧ (N15 4) = [(ZC (r15 4), .cells ⟨List.flatten [(cel (r15 3))]⟩ 75 (0, 0))] ∧ Own 75 35 (.slice (some ⟨(ZC (r15 4)), 0, none⟩) 1 1) [(cel (r15 3))] (N15 4) := hp 4 (by decide)
  obtain ⟨ρ23, rfl⟩ := Zc (uc (show ρ 1 = .pointer (some ⟨b1, 0, none⟩) from hr0 1 (by kernel_rfl)) (uc (show ρ 2 = .pointer (some ⟨b2, 0, none⟩) from hr0 2 (by kernel_rfl)) (uc (show ρ 9 = ks from hr0 9 (by kernel_rfl)) (uc (show ρ 10 = .int .i64 ((kids.length : Int)) from hr0 10 (by kernel_rfl)) (uc (show ρ 11 = .int .i64 ((j : Int)) from hr0 11 (by kernel_rfl)) (uc (show ρ 16 = v from (hr 1 _ _ (by decide) rfl rfl).trans (hp 1 (by decide))) (uc (show ρ 19 = .slice (some ⟨(ZC (r15 4)), 0, none⟩) 1 1 from (hr 4 _ _ (by decide) rfl rfl).trans p4.1) un)))))))
  have p15_3 := p3; have p15_4 := p4
  clear hp hr hr0 p3 p4
  refine Zq (M' := [(N15 0), (N15 1), (N15 2), (N15 3), (N15 4), [(b14, .cells ⟨cs13⟩ 75 (0, 0))], [(b1, .cells ⟨pkP kind num ref v⟩ 75 (0, 0))], k1, k2, [(b2, .cells ⟨pkP 0 0 zS (.slice none 0 0)⟩ 75 (0, 0))]]) Sub.refl <| Zq (M' := [(N15 3), (N15 4), [(b14, .cells ⟨cs13⟩ 75 (0, 0))], [(b1, .cells ⟨pkP kind num ref v⟩ 75 (0, 0))], k1, k2, [(b2, .cells ⟨pkP 0 0 zS (.slice none 0 0)⟩ 75 (0, 0))]]) (Sd (Sd (Sd (Sk (Sk (Sk (Sk (Sk (Sk (Sk Sub.nil)))))))))) ?_
  show JL _ _ _ [_, _, _] _ _ _
  have hlens24 : ∀ e ∈ ([(cel (r15 3))] : List (List Value)), List.length e = 35 := by
   intro e he; simp only [List.mem_cons, List.not_mem_nil, or_false] at he
   rcases he with rfl
   ·exact p15_3.2.len
  have hoks24 : ∀ e ∈ ([(cel (r15 3))] : List (List Value)), okc e := by
   intro e he; simp only [List.mem_cons, List.not_mem_nil, or_false] at he
   rcases he with rfl
   ·exact p15_3.2.ok
  refine JLr (ZH (i := 4) (n := 1) (es' := [(cel (r15 3))]) Tryz.runUnderlying73 Tryz.runUnderlying73 (Or.inl rfl) el75 rfl rfl rfl hov (fun F w m => Src.row (((At.k 1 rfl (by rw [p15_4.2.1]; exact List.mem_cons_self))).heap m) (Zx (ZG hlens24))) rfl hlens24 hoks24 (by decide) (by omega) fun v24 k24 ho24 => JLq (.pointer (some ⟨b1, 34, none⟩)) (YO rfl rfl) <| JLr (Ze 3 (vs := [v24]) (l := pkP kind num ref v24) ty73 rfl rfl rfl (ZO ho24.one) rfl (Zm ho24.one Zv) (pkP_s34 ..) <| Za <| Zb <| JLq (.int .i64 (((j + 1 : Nat) : Int))) (Pu.inc rfl rfl (by omega)) <| JLm (.int .i64 (((j + 1 : Nat) : Int))) <| Za <| ⟨_, ?_, (j + 1), v24, (es ++ [(cel (r15 3))]), k24, (k2 ++ ((N15 3))), rfl, rfl, rfl, rfl, rfl, (Sub.cons 3 rfl (Sub.cons 3 rfl (Sub.join (Sub.cons 3 rfl (Sk (Sd (Sd (Sk Sub.nil)))))))), ?_, ?_, ?_, rfl⟩))
  ·omega
  ·omega
  ·assumption
  rw [List.take_succ_eq_append_getElem h12n]; exact OPs.snoc p15_3.2 hopv
 replace h12 := df h12
 have h12n : kids.length ≤ j := by omega
 refine ZM _ rfl <| Zd <| Zb <| JLr (Zh Z5 rfl (At.bx 0 rfl) (pkP_a ..) <| JLr (Ze 3 (vs := pkP kind num ref v) (l := pkP kind num ref v) Z5 rfl rfl rfl rfl rfl (pkP_ok hov.one) (pkP_s ..) <| Za <| Zl <| ⟨.agg ⟨pkP kind num ref v⟩, [k1 ++ k2], Ret.one rfl (RV.cell Z5 rfl (At.bx 3 rfl) (pkP_a ..)), (Sub.join (Sd (Sk (Sk Sub.nil)))), ?_⟩))
 rw [List.take_of_length_le h12n] at hopv
 exact ⟨_, _, rfl, rfl, OP_mk.2 ⟨v, es, k1, k2, rfl, hk, hn, hov, hopv, rfl, hks.le⟩⟩
end Go.Proofs.YtmophpgiaiemhaaGreat.Hs
/-! Walks, printed by a program of this session's own (gen.py). -/
namespace Go.Proofs.YtmophpgiaiemhaaGreat.Hs
open Go Go.Proofs
set_option maxRecDepth 100000
set_option linter.unusedVariables false
set_option linter.unusedSimpArgs false
attribute [local irreducible] JL J CT wlo
set_option maxHeartbeats 1000000 in
theorem mapTerm_ct : ∀ (gr : Nat) (frs crs : List Value) (hcallr : ∀ args w, (callFunc gr args).run Tryz.prog w = .ok (.enter gr args) w) (rf : Sm → Sm) (gv : Nat) (fvs cvs : List Value) (hcallv : ∀ args w, (callFunc gv args).run Tryz.prog w = .ok (.enter gv args) w) (σ : Type) (Sc : σ → Zk) (Inv : σ → Prop) (vf : Int → Int → σ → Tm × σ) (hI : ∀ n b s, Inv s → Inv (vf n b s).2) (t : Tm) (b : Int) (s : σ) (cs : List Value) (H : Heap), RT H cs t → sizeT t ≤ 1000000 → vOK t → 0 ≤ b → b + 2 * sizeT t ≤ 2000000 → Inv s → (∀ s h, Hle H h → CT Tryz.prog gr ⟨frs ++ [.agg ⟨sC s⟩] ++ crs⟩ [] h (fun v N => v = .agg ⟨sC (rf s)⟩ ∧ N = [])) → (∀ (n b : Int) (s : σ) (h : Heap), Hle H h → Inv s → 0 ≤ n → n ≤ 2000000 → 0 ≤ b → b ≤ 2000000 → CT Tryz.prog gv ⟨fvs ++ [.int .i64 n, .int .i64 b] ++ cvs⟩ [Sc s] h (fun v N => ∃ cs k, v = .agg ⟨cs⟩ ∧ N = [k, Sc (vf n b s).2] ∧ OT (vf n b s).1 cs k)) → CT Tryz.prog 85 ⟨[.agg ⟨[.func (.func gv) ⟨fvs⟩ ⟨cvs⟩, .func (.func gr) ⟨frs⟩ ⟨crs⟩]⟩, .agg ⟨cs⟩, .int .i64 b]⟩ [Sc s] H (fun v N => ∃ cs k, v = .agg ⟨cs⟩ ∧ N = [k, Sc (Ye rf vf b t s).2] ∧ OT (Ye rf vf b t s).1 cs k) := by
 intro gr frs crs hcallr rf gv fvs cvs hcallv σ Sc Inv vf hI t
 induction t using Tm.ind with
 | h kind num ref kids cases ih ih' =>
 intro b s cs H ht hz hv hb0 hb hs hgr hgv
 rw [sizeT] at hz hb
 rw [vOK] at hv
 have hv1 : ¬ kind = 1 ∨ (0 ≤ num ∧ num ≤ 2000000) := by by_cases h : kind = 1; exact .inr (hv.1 h); exact .inl h
 have hlk := len_sizeTs kids
 have hlc := len_sizeCs cases
 obtain ⟨ks, cv, rfl, hk, hn, hks, hcv⟩ := RT_mk.1 ht
 have hn1 : -9223372036854775808 ≤ num := hn.1
 have hn2 : num ≤ 9223372036854775807 := hn.2
 refine Zo Tryz.func85 rfl rfl <| Zd <| Zb <| JLr (Zt (l := [.func (.func gv) ⟨fvs⟩ ⟨cvs⟩, .func (.func gr) ⟨frs⟩ ⟨crs⟩]) rfl rfl fun b1 => JLr (Zt (l := pkT kind num ref ks cv) rfl rfl fun b2 => JLr (Zj (l := pkT 0 0 zS (.slice none 0 0) (.slice none 0 0)) Tryz.zeroValue27 rfl fun b3 => Za <| Zd <| Yo (fun ρ M => ρ 2 = .int .i64 b ∧ ρ 3 = .pointer (some ⟨b1, 0, none⟩) ∧ ρ 4 = .pointer (some ⟨b2, 0, none⟩) ∧ ρ 6 = .pointer (some ⟨b3, 0, none⟩) ∧ ρ 20 = .bool ((decide (kind = 1)) && (decide (b ≤ num))) ∧ M = [[(b3, .cells ⟨pkT 0 0 zS (.slice none 0 0) (.slice none 0 0)⟩ 27 (0, 0))], [(b2, .cells ⟨pkT kind num ref ks cv⟩ 27 (0, 0))], [(b1, .cells ⟨[.func (.func gv) ⟨fvs⟩ ⟨cvs⟩, .func (.func gr) ⟨frs⟩ ⟨crs⟩]⟩ 136 (0, 0))], Sc s]) ?_ ?_)))
 ·refine Zb <| JLq (.pointer (some ⟨b2, 0, none⟩)) (ZY rfl rfl) <| JLr (Zf ty3 rfl (At.bx 1 rfl) (Yg ..) <| JLq (.bool (decide (kind = 1))) (Pu.eql rfl rfl) <| JLm (.bool (decide (kind = 1))) ?_)
  cases h4 : (decide (kind = 1)) with
  | true =>
   replace h4 := dt h4
   refine JLq (.pointer (some ⟨b2, 1, none⟩)) (Z4 rfl rfl) <| JLr (Zf ty3 rfl (At.bx 1 rfl) (Yn ..) <| JLm (.int .i64 b) <| JLq (.bool (decide (b ≤ num))) (Pu.geq rfl rfl) <| JLq (.bool (decide (b ≤ num))) (Pu.pickT rfl rfl) <| Za ?_)
   first | exact ⟨rfl, rfl, rfl, rfl, rfl, rfl⟩ | (exfalso; omega)
  | false =>
   replace h4 := df h4
   iterate 4 refine Zy rfl ?_
   refine JLq (.bool false) (Pu.pickF rfl rfl) <| Za ?_
   first | exact ⟨rfl, rfl, rfl, rfl, rfl, rfl⟩ | (exfalso; omega)
 rintro ρ5 _ ⟨e6, e7, e8, e9, e10, rfl⟩
 obtain ⟨ρ11, rfl⟩ := Zc (uc e6 (uc e7 (uc e8 (uc e9 (uc e10 un)))))
 clear e6 e7 e8 e9 e10
 refine Zi (b := (decide (kind = 1)) && (decide (b ≤ num))) rfl (fun h12 => ?_) (fun h12 => ?_)
 ·obtain ⟨h12a, h12b⟩ := andT h12
  replace h12a := dt h12a
  replace h12b := dt h12b
  refine Zd <| Zb <| JLq (.pointer (some ⟨b1, 0, none⟩)) (fa136_0 rfl rfl) <| JLr (Zf ty133 rfl (At.bx 2 rfl) rfl <| JLq (.pointer (some ⟨b2, 1, none⟩)) (Z4 rfl rfl) <| JLr (Zf ty3 rfl (At.bx 1 rfl) (Yn ..) <| JLm (.int .i64 b) <| JLq (.int .i64 (num - b)) (Pu.sub64 rfl rfl (by first | omega | (constructor <;> omega))) <| JLm (.int .i64 b) <| Zw 3 rfl hcallv rfl rfl (fun hin => hgv _ _ _ _ (Hle.hu _ _) hs (by omega) (by omega) (by omega) (by omega)) rfl ?_))
  rintro _ _ ⟨cs13, k13, rfl, rfl, hO13⟩
  refine JLr (Ze 2 (vs := cs13) (l := cs13) Zu rfl rfl rfl rfl hO13.len hO13.ok (ZL (n := 36) rfl hO13.len) <| Za <| Zl <| ⟨.agg ⟨cs13⟩, [k13, Sc ((vf (num - b) b s).2)], Ret.one rfl (RV.cell Zu rfl (At.bx 2 rfl) (Zx hO13.len)), (Sk (Sk Sub.nil)), ?_⟩)
  have hx : kind = 1 ∧ b ≤ num := ⟨h12a, h12b⟩
  exact ⟨_, _, rfl, by rw [Ye, if_pos hx], by rw [Ye, if_pos hx]; exact hO13⟩
 refine Zp <| Zd <| Ya mixed #[0, 1, 0, 4, 0, 16, 0, 64, 240, 511, 0, 2047] 11 11 4 rfl (by kernel_rfl) (fun i r14 N14 => match i with | 0 => (r14 0) = .pointer (some ⟨b2, 0, none⟩) | 1 => (r14 1) = .int .i64 kind | 2 => (r14 2) = .pointer (some ⟨b2, 1, none⟩) | 3 => (r14 3) = .int .i64 num | 4 => (r14 4) = .pointer (some ⟨b1, 1, none⟩) | 5 => (r14 5) = .func (.func gr) ⟨frs⟩ ⟨crs⟩ | 6 => (r14 6) = .pointer (some ⟨b2, 2, none⟩) | 7 => (r14 7) = .agg ⟨sC ref⟩ | 8 => (r14 8) = .agg ⟨sC (rf ref)⟩ | 9 => (r14 9) = .agg ⟨pkT kind num (rf ref) (.slice none 0 0) (.slice none 0 0)⟩ | 10 => (r14 10) = .pointer (some ⟨(ZA (r14 10)), 0, none⟩) ∧ (N14 10) = [((ZA (r14 10)), .cells ⟨pkT 0 0 zS (.slice none 0 0) (.slice none 0 0)⟩ 27 (0, 0))] | _ => True) ⟨?_, ?_, ?_, ?_, ?_, ?_, ?_, ?_, ?_, ?_, ?_, trivial⟩ ?_
 ·intro ρ r14 N14 B hB hBa hp hr hr0
  obtain ⟨ρ15, rfl⟩ := Zc (uc (show ρ 4 = .pointer (some ⟨b2, 0, none⟩) from hr0 4 (by kernel_rfl)) un)
  refine JLq (.pointer (some ⟨b2, 0, none⟩)) (ZY rfl rfl) <| Za ?_
  exact ⟨.pointer (some ⟨b2, 0, none⟩), [], rfl, (Sub.emp Sub.refl), rfl⟩
 ·intro ρ r14 N14 B hB hBa hp hr hr0
  obtain ⟨ρ16, rfl⟩ := Zc (uc (show ρ 29 = .pointer (some ⟨b2, 0, none⟩) from (hr 0 _ _ (by decide) rfl rfl rfl).trans (hp 0 (by decide) rfl)) un)
  refine JLr (Zf ty3 rfl (At.bx 12 (Zn ((hB 1 (by decide)).trans rfl))) (Yg ..) <| Za ?_)
  exact ⟨.int .i64 kind, [], rfl, (Sub.emp Sub.refl), rfl⟩
 ·intro ρ r14 N14 B hB hBa hp hr hr0
  obtain ⟨ρ17, rfl⟩ := Zc (uc (show ρ 4 = .pointer (some ⟨b2, 0, none⟩) from hr0 4 (by kernel_rfl)) un)
  refine JLq (.pointer (some ⟨b2, 1, none⟩)) (Z4 rfl rfl) <| Za ?_
  exact ⟨.pointer (some ⟨b2, 1, none⟩), [], rfl, (Sub.emp Sub.refl), rfl⟩
 ·intro ρ r14 N14 B hB hBa hp hr hr0
  obtain ⟨ρ18, rfl⟩ := Zc (uc (show ρ 31 = .pointer (some ⟨b2, 1, none⟩) from (hr 2 _ _ (by decide) rfl rfl rfl).trans (hp 2 (by decide) rfl)) un)
  refine JLr (Zf ty3 rfl (At.bx 12 (Zn ((hB 1 (by decide)).trans rfl))) (Yn ..) <| Za ?_)
  exact ⟨.int .i64 num, [], rfl, (Sub.emp Sub.refl), rfl⟩
 ·intro ρ r14 N14 B hB hBa hp hr hr0
  obtain ⟨ρ19, rfl⟩ := Zc (uc (show ρ 3 = .pointer (some ⟨b1, 0, none⟩) from hr0 3 (by kernel_rfl)) un)
  refine JLq (.pointer (some ⟨b1, 1, none⟩)) (fa136_1 rfl rfl) <| Za ?_
  exact ⟨.pointer (some ⟨b1, 1, none⟩), [], rfl, (Sub.emp Sub.refl), rfl⟩
 ·intro ρ r14 N14 B hB hBa hp hr hr0
  obtain ⟨ρ20, rfl⟩ := Zc (uc (show ρ 33 = .pointer (some ⟨b1, 1, none⟩) from (hr 4 _ _ (by decide) rfl rfl rfl).trans (hp 4 (by decide) rfl)) un)
  refine JLr (Zf ty134 rfl (At.bx 13 (Zn ((hB 2 (by decide)).trans rfl))) rfl <| Za ?_)
  exact ⟨.func (.func gr) ⟨frs⟩ ⟨crs⟩, [], rfl, (Sub.emp Sub.refl), rfl⟩
 ·intro ρ r14 N14 B hB hBa hp hr hr0
  obtain ⟨ρ21, rfl⟩ := Zc (uc (show ρ 4 = .pointer (some ⟨b2, 0, none⟩) from hr0 4 (by kernel_rfl)) un)
  refine JLq (.pointer (some ⟨b2, 2, none⟩)) (fa27_2 rfl rfl) <| Za ?_
  exact ⟨.pointer (some ⟨b2, 2, none⟩), [], rfl, (Sub.emp Sub.refl), rfl⟩
 ·intro ρ r14 N14 B hB hBa hp hr hr0
  obtain ⟨ρ22, rfl⟩ := Zc (uc (show ρ 35 = .pointer (some ⟨b2, 2, none⟩) from (hr 6 _ _ (by decide) rfl rfl rfl).trans (hp 6 (by decide) rfl)) un)
  refine JLr (Zh Xb rfl (At.bx 12 (Zn ((hB 1 (by decide)).trans rfl))) (pkT_2 ..) <| Za ?_)
  exact ⟨.agg ⟨sC ref⟩, [], rfl, (Sub.emp Sub.refl), rfl⟩
 ·intro ρ r14 N14 B hB hBa hp hr hr0
  obtain ⟨ρ23, rfl⟩ := Zc (uc (show ρ 34 = .func (.func gr) ⟨frs⟩ ⟨crs⟩ from (hr 5 _ _ (by decide) rfl rfl rfl).trans (hp 5 (by decide) rfl)) (uc (show ρ 36 = .agg ⟨sC ref⟩ from (hr 7 _ _ (by decide) rfl rfl rfl).trans (hp 7 (by decide) rfl)) un))
  refine Zg rfl hcallr rfl (fun hin => hgr _ _ (Hle.hu _ _)) rfl ?_
  rintro _ _ ⟨rfl, rfl⟩
  refine Za ?_
  exact ⟨.agg ⟨sC (rf ref)⟩, [], rfl, (Sub.emp Sub.refl), rfl⟩
 ·intro ρ r14 N14 B hB hBa hp hr hr0
  obtain ⟨ρ24, rfl⟩ := Zc (uc (show ρ 30 = .int .i64 kind from (hr 1 _ _ (by decide) rfl rfl rfl).trans (hp 1 (by decide) rfl)) (uc (show ρ 32 = .int .i64 num from (hr 3 _ _ (by decide) rfl rfl rfl).trans (hp 3 (by decide) rfl)) (uc (show ρ 37 = .agg ⟨sC (rf ref)⟩ from (hr 8 _ _ (by decide) rfl rfl rfl).trans (hp 8 (by decide) rfl)) un)))
  refine JLq (.agg ⟨pkT kind num (rf ref) (.slice none 0 0) (.slice none 0 0)⟩) (Pu.build (pv := [(0, .int .i64 kind), (1, .int .i64 num), (2, .agg ⟨sC (rf ref)⟩)]) (l := pkT kind num (rf ref) (.slice none 0 0) (.slice none 0 0)) rfl (bld27_0_1_2 _ _ _)) <| Za ?_
  exact ⟨.agg ⟨pkT kind num (rf ref) (.slice none 0 0) (.slice none 0 0)⟩, [], rfl, (Sub.emp Sub.refl), rfl⟩
 ·intro ρ r14 N14 B hB hBa hp hr hr0
  refine JLr (Zj (l := pkT 0 0 zS (.slice none 0 0) (.slice none 0 0)) Tryz.zeroValue27 rfl fun b25 => Za ?_)
  exact ⟨.pointer (some ⟨b25, 0, none⟩), [(b25, .cells ⟨pkT 0 0 zS (.slice none 0 0) (.slice none 0 0)⟩ 27 (0, 0))], rfl, Sub.refl, ⟨rfl, rfl⟩⟩
 intro ρ r14 N14 hp hr hr0
 have p10 : (r14 10) = .pointer (some ⟨(ZA (r14 10)), 0, none⟩) ∧ (N14 10) = [((ZA (r14 10)), .cells ⟨pkT 0 0 zS (.slice none 0 0) (.slice none 0 0)⟩ 27 (0, 0))] := hp 10 (by decide)
 obtain ⟨ρ26, rfl⟩ := Zc (uc (show ρ 2 = .int .i64 b from hr0 2 (by kernel_rfl)) (uc (show ρ 3 = .pointer (some ⟨b1, 0, none⟩) from hr0 3 (by kernel_rfl)) (uc (show ρ 4 = .pointer (some ⟨b2, 0, none⟩) from hr0 4 (by kernel_rfl)) (uc (show ρ 6 = .pointer (some ⟨b3, 0, none⟩) from hr0 6 (by kernel_rfl)) (uc (show ρ 7 = .pointer (some ⟨(ZA (r14 10)), 0, none⟩) from (hr 10 _ _ (by decide) rfl rfl).trans p10.1) (uc (show ρ 38 = .agg ⟨pkT kind num (rf ref) (.slice none 0 0) (.slice none 0 0)⟩ from (hr 9 _ _ (by decide) rfl rfl).trans (hp 9 (by decide))) un))))))
 have p14_10 := p10
 clear hp hr hr0 p10
 refine Zq (M' := [(N14 0), (N14 1), (N14 2), (N14 3), (N14 4), (N14 5), (N14 6), (N14 7), (N14 8), (N14 9), (N14 10), [(b3, .cells ⟨pkT 0 0 zS (.slice none 0 0) (.slice none 0 0)⟩ 27 (0, 0))], [(b2, .cells ⟨pkT kind num ref ks cv⟩ 27 (0, 0))], [(b1, .cells ⟨[.func (.func gv) ⟨fvs⟩ ⟨cvs⟩, .func (.func gr) ⟨frs⟩ ⟨crs⟩]⟩ 136 (0, 0))], Sc s]) Sub.refl <| Zq (M' := [[((ZA (r14 10)), .cells ⟨pkT 0 0 zS (.slice none 0 0) (.slice none 0 0)⟩ 27 (0, 0))], [(b3, .cells ⟨pkT 0 0 zS (.slice none 0 0) (.slice none 0 0)⟩ 27 (0, 0))], [(b2, .cells ⟨pkT kind num ref ks cv⟩ 27 (0, 0))], [(b1, .cells ⟨[.func (.func gv) ⟨fvs⟩ ⟨cvs⟩, .func (.func gr) ⟨frs⟩ ⟨crs⟩]⟩ 136 (0, 0))], Sc s]) (Sd (Sd (Sd (Sd (Sd (Sd (Sd (Sd (Sd (Sd (Se p14_10.2 (Sk (Sk (Sk (Sk Sub.nil))))))))))))))) ?_
 show JL _ _ _ [_] _ _ _
 refine JLr (Ze 0 (vs := pkT kind num (rf ref) (.slice none 0 0) (.slice none 0 0)) (l := pkT kind num (rf ref) (.slice none 0 0) (.slice none 0 0)) Zu rfl rfl rfl rfl rfl (ZI rfl rfl) (Z0 ..) <| Za <| Zd <| Zb <| JLq (.pointer (some ⟨b2, 34, none⟩)) (Yq rfl rfl) <| JLr (Zf ty24 rfl (At.bx 2 rfl) (Yu ..) ?_))
 obtain ⟨a27, cap27, hv27⟩ := hks.sl
 have hle27 := hks.le
 refine JLq (.int .i64 ((kids.length : Int))) (Pu.lenSl Tryz.runUnderlying24 hv27) <| JLr (Runs_makeO (kids.length) Tryz.runUnderlying24 el27 rfl rfl rfl rfl (by omega) (by omega) fun v28 k28 ho28 => JLq (.pointer (some ⟨(ZA (r14 10)), 34, none⟩)) (Yq rfl rfl) <| JLr (Ze 1 (vs := [v28]) (l := pkT kind num (rf ref) v28 (.slice none 0 0)) ty24 rfl rfl rfl (ZO ho28.one) rfl (Zm ho28.one Zv) (pkT_s34 ..) <| Za <| Zd <| Zb <| JLq (.pointer (some ⟨(ZA (r14 10)), 34, none⟩)) (Yq rfl rfl) <| JLr (Zf ty24 rfl (At.bx 1 rfl) (Yu ..) <| JLq (.pointer (some ⟨b2, 34, none⟩)) (Yq rfl rfl) <| JLr (Zf ty24 rfl (At.bx 3 rfl) (Yu ..) ?_))))
 obtain ⟨es29, he29, hH29, hl29, hok29, hsr29⟩ := kids_src (P := Tryz.prog) hks
 refine JLr (Runs_copy (i := 0) (n := kids.length) (m := kids.length) (es' := es29) Tryz.runUnderlying24 el27 rfl rfl rfl ho28 (fun F w m => hsr29 w _ m) he29 (by simp) hl29 hok29 rfl fun kc29 hc29 => Za <| Zd <| Zd <| Zb <| JLq (.pointer (some ⟨(ZA (r14 10)), 34, none⟩)) (Yq rfl rfl) <| JLr (Zf ty24 rfl (At.bx 1 rfl) (Yu ..) ?_))
 obtain ⟨a30, cap30, hv30⟩ := hc29.sl
 rw [he29] at hv30
 refine JLq (.int .i64 ((kids.length : Int))) (Pu.lenSl Tryz.runUnderlying24 hv30) <| JLm (.int .i64 0) <| Za <| Zs ?_
 have hneg : ¬ (kind = 1 ∧ b ≤ num) := by intro hh; simp [hh.1, hh.2] at h12
 refine ZU (fun k ρ M => ∃ (j : Nat) (es : List (List Value)) (k1 k2 : Zk) (s1 : σ), ρ 2 = .int .i64 b ∧ ρ 3 = .pointer (some ⟨b1, 0, none⟩) ∧ ρ 4 = .pointer (some ⟨b2, 0, none⟩) ∧ ρ 6 = .pointer (some ⟨b3, 0, none⟩) ∧ ρ 7 = .pointer (some ⟨(ZA (r14 10)), 0, none⟩) ∧ ρ 50 = v28 ∧ ρ 51 = .int .i64 ((kids.length : Int)) ∧ ρ 52 = .int .i64 ((j : Int)) ∧ Sub [[((ZA (r14 10)), .cells ⟨pkT kind num (rf ref) v28 (.slice none 0 0)⟩ 27 (0, 0))], k1, k2, Sc s1, [(b3, .cells ⟨pkT 0 0 zS (.slice none 0 0) (.slice none 0 0)⟩ 27 (0, 0))], [(b2, .cells ⟨pkT kind num ref ks cv⟩ 27 (0, 0))], [(b1, .cells ⟨[.func (.func gv) ⟨fvs⟩ ⟨cvs⟩, .func (.func gr) ⟨frs⟩ ⟨crs⟩]⟩ 136 (0, 0))]] M ∧ j ≤ kids.length ∧ Own 27 36 v28 es k1 ∧ Half H kids (Yi rf vf b kind 0 (kids.take j) s).1 j es k2 ∧ Inv s1 ∧ (Yi rf vf b kind 0 (kids.take j) s).2 = s1 ∧ k = kids.length - j) _ ⟨0, es29, kc29, [], s, rfl, rfl, rfl, rfl, rfl, rfl, rfl, rfl, (Sub.cons 1 rfl (Sk (Sub.emp (Sub.cons 3 rfl (Sk (Sk (Sk Sub.nil))))))), Nat.zero_le _, hc29, hH29, hs, rfl, rfl⟩ ?_
 rintro _ ρ31 _ ⟨j, es, k1, k2, s1, e32, e33, e34, e35, e36, e37, e38, e39, hm40, hj, ho, hH, hs1, hsq, rfl⟩
 obtain ⟨ρ41, rfl⟩ := Zc (uc e32 (uc e33 (uc e34 (uc e35 (uc e36 (uc e37 (uc e38 (uc e39 un))))))))
 clear e32 e33 e34 e35 e36 e37 e38 e39
 refine Z1 hm40 <| Zd <| Zb <| JLq (.bool (decide ((j : Int) < (kids.length : Int)))) (Pu.lss rfl rfl) <| Za <| Zd <| Zi (b := decide ((j : Int) < (kids.length : Int))) rfl (fun h42 => ?_) (fun h42 => ?_)
 ·replace h42 := dt h42
  have h42n : j < kids.length := by omega
  have hz1 := sizeTs_mem _ (List.getElem_mem h42n)
  have hm1 := YR kind j
  refine Zp <| Zd <| Zs <| Zd <| Zb <| JLm (.int .i64 ((j : Int))) ?_
  obtain ⟨b43, cap43, row43, e43, hv43, hm43, hs43, hE43⟩ := hH.at ho h42n
  refine JLq (.pointer (some ⟨b43, 0 + j * 36, none⟩)) (Pu.idx j Tryz.runUnderlying24 Zu hv43 rfl rfl (by rw [hH.1]; exact h42n)) <| JLr (Zh Zu rfl (At.k 1 rfl hm43) hs43 <| JLr (Zj (l := pkT 0 0 zS (.slice none 0 0) (.slice none 0 0)) Tryz.zeroValue27 rfl fun b44 => JLa (.int .i64 ((j : Int))) <| JLr (Ze 0 (vs := e43) (l := e43) Zu rfl rfl rfl rfl (ZD hE43) (RT_ok hE43) (ZL (n := 36) rfl (ZD hE43)) <| Za <| Ya mixed #[0, 1, 0, 0, 0, 0, 0, 64, 0, 448, 992, 2040, 4095, 8191] 12 11 4 rfl (by kernel_rfl) (fun i r45 N45 => match i with | 0 => (r45 0) = .pointer (some ⟨(ZA (r14 10)), 34, none⟩) | 1 => (r45 1) = v28 | 2 => (r45 2) = .int .i64 ((j : Int)) | 3 => (r45 3) = .agg ⟨[.func (.func gv) ⟨fvs⟩ ⟨cvs⟩, .func (.func gr) ⟨frs⟩ ⟨crs⟩]⟩ | 4 => (r45 4) = .agg ⟨e43⟩ | 5 => (r45 5) = .int .i64 b | 6 => (r45 6) = .pointer (some ⟨b2, 0, none⟩) | 7 => (r45 7) = .int .i64 kind | 8 => (r45 8) = .int .i64 ((j : Int)) | 9 => (r45 9) = .int .i64 (more kind ((j : Int))) | 10 => (r45 10) = .int .i64 (b + (more kind ((j : Int)))) | 11 => XT ((Ye rf vf (b + (more kind ((j : Int)))) (kids[j]) s1).1) (r45 11) (N45 11) (Sc ((Ye rf vf (b + (more kind ((j : Int)))) (kids[j]) s1).2)) | _ => True) ⟨?_, ?_, ?_, ?_, ?_, ?_, ?_, ?_, ?_, ?_, ?_, ?_, trivial⟩ ?_)))
  ·intro ρ r45 N45 B hB hBa hp hr hr0
   obtain ⟨ρ46, rfl⟩ := Zc (uc (show ρ 7 = .pointer (some ⟨(ZA (r14 10)), 0, none⟩) from hr0 7 (by kernel_rfl)) un)
   refine JLq (.pointer (some ⟨(ZA (r14 10)), 34, none⟩)) (Yq rfl rfl) <| Za ?_
   exact ⟨.pointer (some ⟨(ZA (r14 10)), 34, none⟩), [], rfl, (Sub.emp Sub.refl), rfl⟩
  ·intro ρ r45 N45 B hB hBa hp hr hr0
   obtain ⟨ρ47, rfl⟩ := Zc (uc (show ρ 57 = .pointer (some ⟨(ZA (r14 10)), 34, none⟩) from (hr 0 _ _ (by decide) rfl rfl rfl).trans (hp 0 (by decide) rfl)) un)
   refine JLr (Zf ty24 rfl (At.bx 13 (Zn ((hB 1 (by decide)).trans rfl))) (Yu ..) <| Za ?_)
   exact ⟨v28, [], rfl, (Sub.emp Sub.refl), rfl⟩
  ·intro ρ r45 N45 B hB hBa hp hr hr0
   obtain ⟨ρ48, rfl⟩ := Zc (uc (show ρ 8 = .int .i64 ((j : Int)) from hr0 8 (by kernel_rfl)) un)
   refine JLm (.int .i64 ((j : Int))) <| Za ?_
   exact ⟨.int .i64 ((j : Int)), [], rfl, (Sub.emp Sub.refl), rfl⟩
  ·intro ρ r45 N45 B hB hBa hp hr hr0
   obtain ⟨ρ49, rfl⟩ := Zc (uc (show ρ 3 = .pointer (some ⟨b1, 0, none⟩) from hr0 3 (by kernel_rfl)) un)
   refine JLr (Zh ty136 rfl (At.bx 19 (Zn ((hB 7 (by decide)).trans rfl))) rfl <| Za ?_)
   exact ⟨.agg ⟨[.func (.func gv) ⟨fvs⟩ ⟨cvs⟩, .func (.func gr) ⟨frs⟩ ⟨crs⟩]⟩, [], rfl, (Sub.emp Sub.refl), rfl⟩
  ·intro ρ r45 N45 B hB hBa hp hr hr0
   obtain ⟨ρ50, rfl⟩ := Zc (uc (show ρ 9 = .pointer (some ⟨b44, 0, none⟩) from hr0 9 (by kernel_rfl)) un)
   refine JLr (Zh Zu rfl (At.bx 12 (Zn ((hB 0 (by decide)).trans rfl))) (Zx (ZD hE43)) <| Za ?_)
   exact ⟨.agg ⟨e43⟩, [], rfl, (Sub.emp Sub.refl), rfl⟩
  ·intro ρ r45 N45 B hB hBa hp hr hr0
   obtain ⟨ρ51, rfl⟩ := Zc (uc (show ρ 2 = .int .i64 b from hr0 2 (by kernel_rfl)) un)
   refine JLm (.int .i64 b) <| Za ?_
   exact ⟨.int .i64 b, [], rfl, (Sub.emp Sub.refl), rfl⟩
  ·intro ρ r45 N45 B hB hBa hp hr hr0
   obtain ⟨ρ52, rfl⟩ := Zc (uc (show ρ 4 = .pointer (some ⟨b2, 0, none⟩) from hr0 4 (by kernel_rfl)) un)
   refine JLq (.pointer (some ⟨b2, 0, none⟩)) (ZY rfl rfl) <| Za ?_
   exact ⟨.pointer (some ⟨b2, 0, none⟩), [], rfl, (Sub.emp Sub.refl), rfl⟩
  ·intro ρ r45 N45 B hB hBa hp hr hr0
   obtain ⟨ρ53, rfl⟩ := Zc (uc (show ρ 63 = .pointer (some ⟨b2, 0, none⟩) from (hr 6 _ _ (by decide) rfl rfl rfl).trans (hp 6 (by decide) rfl)) un)
   refine JLr (Zf ty3 rfl (At.bx 18 (Zn ((hB 6 (by decide)).trans rfl))) (Yg ..) <| Za ?_)
   exact ⟨.int .i64 kind, [], rfl, (Sub.emp Sub.refl), rfl⟩
  ·intro ρ r45 N45 B hB hBa hp hr hr0
   obtain ⟨ρ54, rfl⟩ := Zc (uc (show ρ 8 = .int .i64 ((j : Int)) from hr0 8 (by kernel_rfl)) un)
   refine JLm (.int .i64 ((j : Int))) <| Za ?_
   exact ⟨.int .i64 ((j : Int)), [], rfl, (Sub.emp Sub.refl), rfl⟩
  ·intro ρ r45 N45 B hB hBa hp hr hr0
   obtain ⟨ρ55, rfl⟩ := Zc (uc (show ρ 64 = .int .i64 kind from (hr 7 _ _ (by decide) rfl rfl rfl).trans (hp 7 (by decide) rfl)) (uc (show ρ 65 = .int .i64 ((j : Int)) from (hr 8 _ _ (by decide) rfl rfl rfl).trans (hp 8 (by decide) rfl)) un))
   refine Zg rfl Tryz.call111 rfl (fun hin => more_ct _ _ _) rfl ?_
   rintro _ _ ⟨rfl, rfl⟩
   refine Za ?_
   exact ⟨.int .i64 (more kind ((j : Int))), [], rfl, (Sub.emp Sub.refl), rfl⟩
  ·intro ρ r45 N45 B hB hBa hp hr hr0
   obtain ⟨ρ56, rfl⟩ := Zc (uc (show ρ 62 = .int .i64 b from (hr 5 _ _ (by decide) rfl rfl rfl).trans (hp 5 (by decide) rfl)) (uc (show ρ 66 = .int .i64 (more kind ((j : Int))) from (hr 9 _ _ (by decide) rfl rfl rfl).trans (hp 9 (by decide) rfl)) un))
   refine JLq (.int .i64 (b + (more kind ((j : Int))))) (Pu.add64 rfl rfl (by first | omega | (constructor <;> omega))) <| Za ?_
   exact ⟨.int .i64 (b + (more kind ((j : Int)))), [], rfl, (Sub.emp Sub.refl), rfl⟩
  ·intro ρ r45 N45 B hB hBa hp hr hr0
   obtain ⟨ρ57, rfl⟩ := Zc (uc (show ρ 60 = .agg ⟨[.func (.func gv) ⟨fvs⟩ ⟨cvs⟩, .func (.func gr) ⟨frs⟩ ⟨crs⟩]⟩ from (hr 3 _ _ (by decide) rfl rfl rfl).trans (hp 3 (by decide) rfl)) (uc (show ρ 61 = .agg ⟨e43⟩ from (hr 4 _ _ (by decide) rfl rfl rfl).trans (hp 4 (by decide) rfl)) (uc (show ρ 67 = .int .i64 (b + (more kind ((j : Int)))) from (hr 10 _ _ (by decide) rfl rfl rfl).trans (hp 10 (by decide) rfl)) un)))
   obtain rfl := hBa rfl
   refine Zq (M' := [(N45 0), (N45 1), (N45 2), (N45 3), (N45 4), (N45 5), (N45 6), (N45 7), (N45 8), (N45 9), (N45 10), [], [(b44, .cells ⟨e43⟩ 27 (0, 0))], [((ZA (r14 10)), .cells ⟨pkT kind num (rf ref) v28 (.slice none 0 0)⟩ 27 (0, 0))], k1, k2, Sc s1, [(b3, .cells ⟨pkT 0 0 zS (.slice none 0 0) (.slice none 0 0)⟩ 27 (0, 0))], [(b2, .cells ⟨pkT kind num ref ks cv⟩ 27 (0, 0))], [(b1, .cells ⟨[.func (.func gv) ⟨fvs⟩ ⟨cvs⟩, .func (.func gr) ⟨frs⟩ ⟨crs⟩]⟩ 136 (0, 0))]]) Sub.refl <| Zw 16 rfl Tryz.call85 rfl rfl (fun hin => ih _ (List.getElem_mem h42n) _ _ _ _ (RT.mono (Hle.hu _ _) hE43) (by omega) (vOKs_mem hv.2.1 _ (List.getElem_mem h42n)) (by omega) (by omega) hs1 (fun s h hh => hgr s h (Hle.trans (Hle.hu _ _) hh)) (fun n b s h hh => hgv n b s h (Hle.trans (Hle.hu _ _) hh))) rfl ?_
   rintro _ _ ⟨cs58, k58, rfl, rfl, hO58⟩
   refine Za ?_
   exact ⟨.agg ⟨cs58⟩, k58 ++ (Sc ((Ye rf vf (b + (more kind ((j : Int)))) (kids[j]) s1).2)), rfl, (Sub_setX (p := 4) rfl), ⟨k58, rfl, rfl, hO58⟩⟩
  intro ρ r45 N45 hp hr hr0
  have p11 : XT ((Ye rf vf (b + (more kind ((j : Int)))) (kids[j]) s1).1) (r45 11) (N45 11) (Sc ((Ye rf vf (b + (more kind ((j : Int)))) (kids[j]) s1).2)) := hp 11 (by decide)
  obtain ⟨ρ59, rfl⟩ := Zc (uc (show ρ 2 = .int .i64 b from hr0 2 (by kernel_rfl)) (uc (show ρ 3 = .pointer (some ⟨b1, 0, none⟩) from hr0 3 (by kernel_rfl)) (uc (show ρ 4 = .pointer (some ⟨b2, 0, none⟩) from hr0 4 (by kernel_rfl)) (uc (show ρ 6 = .pointer (some ⟨b3, 0, none⟩) from hr0 6 (by kernel_rfl)) (uc (show ρ 7 = .pointer (some ⟨(ZA (r14 10)), 0, none⟩) from hr0 7 (by kernel_rfl)) (uc (show ρ 50 = v28 from hr0 50 (by kernel_rfl)) (uc (show ρ 51 = .int .i64 ((kids.length : Int)) from hr0 51 (by kernel_rfl)) (uc (show ρ 52 = .int .i64 ((j : Int)) from hr0 52 (by kernel_rfl)) (uc (show ρ 58 = v28 from (hr 1 _ _ (by decide) rfl rfl).trans (hp 1 (by decide))) (uc (show ρ 59 = .int .i64 ((j : Int)) from (hr 2 _ _ (by decide) rfl rfl).trans (hp 2 (by decide))) (uc (show ρ 68 = .agg ⟨(cel (r45 11))⟩ from (hr 11 _ _ (by decide) rfl rfl).trans p11.v) un)))))))))))
  have p45_11 := p11
  clear hp hr hr0 p11
  obtain ⟨kT45, hv45, hN45, hO45⟩ := id p45_11
  refine Zq (M' := [(N45 0), (N45 1), (N45 2), (N45 3), (N45 4), (N45 5), (N45 6), (N45 7), (N45 8), (N45 9), (N45 10), [], [(b44, .cells ⟨e43⟩ 27 (0, 0))], [((ZA (r14 10)), .cells ⟨pkT kind num (rf ref) v28 (.slice none 0 0)⟩ 27 (0, 0))], k1, k2, (N45 11), [(b3, .cells ⟨pkT 0 0 zS (.slice none 0 0) (.slice none 0 0)⟩ 27 (0, 0))], [(b2, .cells ⟨pkT kind num ref ks cv⟩ 27 (0, 0))], [(b1, .cells ⟨[.func (.func gv) ⟨fvs⟩ ⟨cvs⟩, .func (.func gr) ⟨frs⟩ ⟨crs⟩]⟩ 136 (0, 0))]]) Sub.refl <| Zq (M' := [(N45 11), [(b44, .cells ⟨e43⟩ 27 (0, 0))], [((ZA (r14 10)), .cells ⟨pkT kind num (rf ref) v28 (.slice none 0 0)⟩ 27 (0, 0))], k1, k2, [(b3, .cells ⟨pkT 0 0 zS (.slice none 0 0) (.slice none 0 0)⟩ 27 (0, 0))], [(b2, .cells ⟨pkT kind num ref ks cv⟩ 27 (0, 0))], [(b1, .cells ⟨[.func (.func gv) ⟨fvs⟩ ⟨cvs⟩, .func (.func gr) ⟨frs⟩ ⟨crs⟩]⟩ 136 (0, 0))]]) (Sd (Sd (Sd (Sd (Sd (Sd (Sd (Sd (Sd (Sd (Sd (Sd (Sub.cons 4 rfl (Sk (Sk (Sk (Sk (Sk (Sk (Sk Sub.nil)))))))))))))))))))) <| Zq (M' := [kT45, Sc ((Ye rf vf (b + (more kind ((j : Int)))) (kids[j]) s1).2), [(b44, .cells ⟨e43⟩ 27 (0, 0))], [((ZA (r14 10)), .cells ⟨pkT kind num (rf ref) v28 (.slice none 0 0)⟩ 27 (0, 0))], k1, k2, [(b3, .cells ⟨pkT 0 0 zS (.slice none 0 0) (.slice none 0 0)⟩ 27 (0, 0))], [(b2, .cells ⟨pkT kind num ref ks cv⟩ 27 (0, 0))], [(b1, .cells ⟨[.func (.func gv) ⟨fvs⟩ ⟨cvs⟩, .func (.func gr) ⟨frs⟩ ⟨crs⟩]⟩ 136 (0, 0))]]) (Sub.split (Sub.cons 0 (congrArg some hN45) Sub.refl)) ?_
  show JL _ _ _ [_, _] _ _ _
  obtain ⟨b60, cap60, row60, e60, hv60, hm60, hs60, hE60⟩ := hH.at ho h42n
  refine JLq (.pointer (some ⟨b60, 0 + j * 36, none⟩)) (Pu.idx j Tryz.runUnderlying24 Zu hv60 rfl rfl (by rw [hH.1]; exact h42n)) <| JLr (Runs_storeOwn (i := 4) (j := j) (b := b60) Zu rfl ho ⟨_, _, hv60⟩ rfl (by rw [hH.1]; exact h42n) rfl rfl p45_11.len p45_11.ok fun k61 ho61 => Za <| Zb <| JLq (.int .i64 (((j + 1 : Nat) : Int))) (Pu.inc rfl rfl (by omega)) <| JLm (.int .i64 (((j + 1 : Nat) : Int))) <| Za <| ⟨_, ?_, (j + 1), (es.set j ((cel (r45 11)))), k61, (k2 ++ kT45), ((Ye rf vf (b + (more kind ((j : Int)))) (kids[j]) s1).2), rfl, rfl, rfl, rfl, rfl, rfl, rfl, rfl, (Sub.cons 3 rfl (Sub.cons 3 rfl (Sub.join (Sub.cons 3 rfl (Sk (Sk (Sd (Sk (Sk (Sk Sub.nil)))))))))), ?_, ?_, ?_, ?_, ?_, rfl⟩)
  ·omega
  ·omega
  ·exact ho61
  ·rw [mapTs_take0 rf vf b kind kids j s h42n, hsq]; exact hH.step h42n hO45
  ·exact mapT_inv hI _ _ _ hs1
  rw [mapTs_take0 rf vf b kind kids j s h42n, hsq]
 replace h42 := df h42
 have h42n : kids.length ≤ j := by omega
 refine ZM _ rfl <| Zd <| Zd <| Zb <| JLq (.pointer (some ⟨b2, 35, none⟩)) (YP rfl rfl) <| JLr (Zf ty25 rfl (At.bx 5 rfl) (YI ..) ?_)
 obtain ⟨a62, cap62, hv62⟩ := hcv.sl
 have hle62 := hcv.le
 refine JLq (.int .i64 ((cases.length : Int))) (Pu.lenSl Tryz.runUnderlying25 hv62) <| JLm (.int .i64 0) <| Za <| Zs ?_
 have hjk := h42n
 rw [List.take_of_length_le hjk] at hsq hH
 refine ZU (fun k ρ M => ∃ (j : Nat) (w : Value) (es2 : List (List Value)) (k3 k4 : Zk) (s2 : σ), ρ 2 = .int .i64 b ∧ ρ 3 = .pointer (some ⟨b1, 0, none⟩) ∧ ρ 6 = .pointer (some ⟨b3, 0, none⟩) ∧ ρ 7 = .pointer (some ⟨(ZA (r14 10)), 0, none⟩) ∧ ρ 72 = cv ∧ ρ 73 = .int .i64 ((cases.length : Int)) ∧ ρ 74 = .int .i64 ((j : Int)) ∧ Sub [[((ZA (r14 10)), .cells ⟨pkT kind num (rf ref) v28 w⟩ 27 (0, 0))], k3, k4, Sc s2, k1, k2, [(b3, .cells ⟨pkT 0 0 zS (.slice none 0 0) (.slice none 0 0)⟩ 27 (0, 0))], [(b2, .cells ⟨pkT kind num ref ks cv⟩ 27 (0, 0))], [(b1, .cells ⟨[.func (.func gv) ⟨fvs⟩ ⟨cvs⟩, .func (.func gr) ⟨frs⟩ ⟨crs⟩]⟩ 136 (0, 0))]] M ∧ j ≤ cases.length ∧ Own 80 71 w es2 k3 ∧ OCs (Ym rf vf b (cases.take j) s1).1 es2 k4 ∧ Inv s2 ∧ (Ym rf vf b (cases.take j) s1).2 = s2 ∧ k = cases.length - j) _ ⟨0, (.slice none 0 0), [], [], [], s1, rfl, rfl, rfl, rfl, rfl, rfl, rfl, (Sk (Sub.emp (Sub.emp (Sub.cons 2 rfl (Sk (Sk (Sk (Sk (Sk Sub.nil))))))))), Nat.zero_le _, Own.nil, OCs.nil, hs1, rfl, rfl⟩ ?_
 rintro _ ρ63 _ ⟨j, w, es2, k3, k4, s2, e64, e65, e66, e67, e68, e69, e70, hm71, hj, how, hopw, hs2, hsq2, rfl⟩
 obtain ⟨ρ72, rfl⟩ := Zc (uc e64 (uc e65 (uc e66 (uc e67 (uc e68 (uc e69 (uc e70 un)))))))
 clear e64 e65 e66 e67 e68 e69 e70
 refine Z1 hm71 <| Zd <| Zb <| JLq (.bool (decide ((j : Int) < (cases.length : Int)))) (Pu.lss rfl rfl) <| Za <| Zd <| Zi (b := decide ((j : Int) < (cases.length : Int))) rfl (fun h73 => ?_) (fun h73 => ?_)
 ·replace h73 := dt h73
  have h73n : j < cases.length := by omega
  have helw := OCs_len hopw
  rw [mapCs_len, List.length_take] at helw
  have hz1 := sizeCs_mem _ (List.getElem_mem h73n)
  have hm1 := YE (cases[j]).1
  refine Zp <| Zd <| Zs <| Zd <| Zb ?_
  obtain ⟨b74, o74, cap74, row74, T74, fr74, cs74, hv74, hb74, hs74, hE74⟩ := hcv.get j (by first | assumption | omega | decide | simp)
  obtain ⟨ca74, cb74, rfl, hA74, hB74⟩ := hE74
  refine JLq (.pointer (some ⟨b74, o74 + j * 71, none⟩)) (Pu.idx j Tryz.runUnderlying25 ty80 hv74 rfl rfl (by first | assumption | omega | decide | simp)) <| JLr (Zh ty80 rfl (At.im hb74) hs74 <| JLr (Zj (l := (pkP 0 0 zS (.slice none 0 0)) ++ (pkT 0 0 zS (.slice none 0 0) (.slice none 0 0))) Tryz.zeroValue80 rfl fun b75 => JLr (Ze 0 (vs := ca74 ++ cb74) (l := ca74 ++ cb74) ty80 rfl rfl rfl rfl (ZN (ZJ hA74) (ZD hB74)) (Z3 (RP_ok hA74) (RT_ok hB74)) (ZL (n := 71) rfl (ZN (ZJ hA74) (ZD hB74))) <| Za <| Ya mixed #[0, 1, 0, 0, 8, 28, 0, 0, 128, 0, 0, 1024, 3132, 7740, 16380, 32764, 65532, 131071, 262143, 524287] 17 14 4 rfl (by kernel_rfl) (fun i r76 N76 => match i with | 0 => (r76 0) = .pointer (some ⟨(ZA (r14 10)), 35, none⟩) | 1 => (r76 1) = w | 2 => (r76 2) = .agg ⟨[.func (.func gv) ⟨fvs⟩ ⟨cvs⟩, .func (.func gr) ⟨frs⟩ ⟨crs⟩]⟩ | 3 => (r76 3) = .pointer (some ⟨b75, 0, none⟩) | 4 => (r76 4) = .agg ⟨ca74⟩ | 5 => (r76 5) = .agg ⟨(cel (r76 5))⟩ ∧ OP (mapP rf (cases[j].1)) (cel (r76 5)) (N76 5) | 6 => (r76 6) = .agg ⟨[.func (.func gv) ⟨fvs⟩ ⟨cvs⟩, .func (.func gr) ⟨frs⟩ ⟨crs⟩]⟩ | 7 => (r76 7) = .pointer (some ⟨b75, 35, none⟩) | 8 => (r76 8) = .agg ⟨cb74⟩ | 9 => (r76 9) = .int .i64 b | 10 => (r76 10) = .pointer (some ⟨b75, 0, none⟩) | 11 => (r76 11) = .agg ⟨ca74⟩ | 12 => (r76 12) = .int .i64 ((binds (cases[j].1) : Int)) | 13 => (r76 13) = .int .i64 (b + ((binds (cases[j].1) : Int))) | 14 => XT ((Ye rf vf (b + ((binds (cases[j].1) : Int))) (cases[j].2) s2).1) (r76 14) (N76 14) (Sc ((Ye rf vf (b + ((binds (cases[j].1) : Int))) (cases[j].2) s2).2)) | 15 => (r76 15) = .agg ⟨((cel (r76 5))) ++ ((cel (r76 14)))⟩ | 16 => (r76 16) = .slice (some ⟨(ZC (r76 16)), 0, none⟩) 1 1 ∧ (N76 16) = [(ZC (r76 16), .cells ⟨List.flatten [((cel (r76 5))) ++ ((cel (r76 14)))]⟩ 80 (0, 0))] ∧ Own 80 71 (.slice (some ⟨(ZC (r76 16)), 0, none⟩) 1 1) [((cel (r76 5))) ++ ((cel (r76 14)))] (N76 16) | _ => True) ⟨?_, ?_, ?_, ?_, ?_, ?_, ?_, ?_, ?_, ?_, ?_, ?_, ?_, ?_, ?_, ?_, ?_, trivial⟩ ?_)))
  ·intro ρ r76 N76 B hB hBa hp hr hr0
   obtain ⟨ρ77, rfl⟩ := Zc (uc (show ρ 7 = .pointer (some ⟨(ZA (r14 10)), 0, none⟩) from hr0 7 (by kernel_rfl)) un)
   refine JLq (.pointer (some ⟨(ZA (r14 10)), 35, none⟩)) (YP rfl rfl) <| Za ?_
   exact ⟨.pointer (some ⟨(ZA (r14 10)), 35, none⟩), [], rfl, (Sub.emp Sub.refl), rfl⟩
  ·intro ρ r76 N76 B hB hBa hp hr hr0
   obtain ⟨ρ78, rfl⟩ := Zc (uc (show ρ 78 = .pointer (some ⟨(ZA (r14 10)), 35, none⟩) from (hr 0 _ _ (by decide) rfl rfl rfl).trans (hp 0 (by decide) rfl)) un)
   refine JLr (Zf ty25 rfl (At.bx 18 (Zn ((hB 1 (by decide)).trans rfl))) (YI ..) <| Za ?_)
   exact ⟨w, [], rfl, (Sub.emp Sub.refl), rfl⟩
  ·intro ρ r76 N76 B hB hBa hp hr hr0
   obtain ⟨ρ79, rfl⟩ := Zc (uc (show ρ 3 = .pointer (some ⟨b1, 0, none⟩) from hr0 3 (by kernel_rfl)) un)
   refine JLr (Zh ty136 rfl (At.bx 26 (Zn ((hB 9 (by decide)).trans rfl))) rfl <| Za ?_)
   exact ⟨.agg ⟨[.func (.func gv) ⟨fvs⟩ ⟨cvs⟩, .func (.func gr) ⟨frs⟩ ⟨crs⟩]⟩, [], rfl, (Sub.emp Sub.refl), rfl⟩
  ·intro ρ r76 N76 B hB hBa hp hr hr0
   obtain ⟨ρ80, rfl⟩ := Zc (uc (show ρ 11 = .pointer (some ⟨b75, 0, none⟩) from hr0 11 (by kernel_rfl)) un)
   refine JLq (.pointer (some ⟨b75, 0, none⟩)) (fa80_0 rfl rfl) <| Za ?_
   exact ⟨.pointer (some ⟨b75, 0, none⟩), [], rfl, (Sub.emp Sub.refl), rfl⟩
  ·intro ρ r76 N76 B hB hBa hp hr hr0
   obtain ⟨ρ81, rfl⟩ := Zc (uc (show ρ 81 = .pointer (some ⟨b75, 0, none⟩) from (hr 3 _ _ (by decide) rfl rfl rfl).trans (hp 3 (by decide) rfl)) un)
   refine JLr (Zh Z5 rfl (At.bx 17 (Zn ((hB 0 (by decide)).trans rfl))) (sub_l (ZJ hA74)) <| Za ?_)
   exact ⟨.agg ⟨ca74⟩, [], rfl, (Sub.emp Sub.refl), rfl⟩
  ·intro ρ r76 N76 B hB hBa hp hr hr0
   obtain ⟨ρ82, rfl⟩ := Zc (uc (show ρ 80 = .agg ⟨[.func (.func gv) ⟨fvs⟩ ⟨cvs⟩, .func (.func gr) ⟨frs⟩ ⟨crs⟩]⟩ from (hr 2 _ _ (by decide) rfl rfl rfl).trans (hp 2 (by decide) rfl)) (uc (show ρ 82 = .agg ⟨ca74⟩ from (hr 4 _ _ (by decide) rfl rfl rfl).trans (hp 4 (by decide) rfl)) un))
   refine Zg rfl Tryz.call113 rfl (fun hin => mapPattern_ct gr frs crs hcallr rf _ rfl _ _ _ (RP.mono (Hle.hu _ _) hA74) (fun s h hh => hgr s h (Hle.trans (Hle.hu _ _) hh)) (by omega)) rfl ?_
   rintro _ _ ⟨cs83, k83, rfl, rfl, hO83⟩
   refine Za ?_
   exact ⟨.agg ⟨cs83⟩, k83, rfl, Sub.refl, ⟨rfl, hO83⟩⟩
  ·intro ρ r76 N76 B hB hBa hp hr hr0
   obtain ⟨ρ84, rfl⟩ := Zc (uc (show ρ 3 = .pointer (some ⟨b1, 0, none⟩) from hr0 3 (by kernel_rfl)) un)
   refine JLr (Zh ty136 rfl (At.bx 26 (Zn ((hB 9 (by decide)).trans rfl))) rfl <| Za ?_)
   exact ⟨.agg ⟨[.func (.func gv) ⟨fvs⟩ ⟨cvs⟩, .func (.func gr) ⟨frs⟩ ⟨crs⟩]⟩, [], rfl, (Sub.emp Sub.refl), rfl⟩
  ·intro ρ r76 N76 B hB hBa hp hr hr0
   obtain ⟨ρ85, rfl⟩ := Zc (uc (show ρ 11 = .pointer (some ⟨b75, 0, none⟩) from hr0 11 (by kernel_rfl)) un)
   refine JLq (.pointer (some ⟨b75, 35, none⟩)) (fa80_1 rfl rfl) <| Za ?_
   exact ⟨.pointer (some ⟨b75, 35, none⟩), [], rfl, (Sub.emp Sub.refl), rfl⟩
  ·intro ρ r76 N76 B hB hBa hp hr hr0
   obtain ⟨ρ86, rfl⟩ := Zc (uc (show ρ 85 = .pointer (some ⟨b75, 35, none⟩) from (hr 7 _ _ (by decide) rfl rfl rfl).trans (hp 7 (by decide) rfl)) un)
   refine JLr (Zh Zu rfl (At.bx 17 (Zn ((hB 0 (by decide)).trans rfl))) (sub_r (ZJ hA74) (ZD hB74)) <| Za ?_)
   exact ⟨.agg ⟨cb74⟩, [], rfl, (Sub.emp Sub.refl), rfl⟩
  ·intro ρ r76 N76 B hB hBa hp hr hr0
   obtain ⟨ρ87, rfl⟩ := Zc (uc (show ρ 2 = .int .i64 b from hr0 2 (by kernel_rfl)) un)
   refine JLm (.int .i64 b) <| Za ?_
   exact ⟨.int .i64 b, [], rfl, (Sub.emp Sub.refl), rfl⟩
  ·intro ρ r76 N76 B hB hBa hp hr hr0
   obtain ⟨ρ88, rfl⟩ := Zc (uc (show ρ 11 = .pointer (some ⟨b75, 0, none⟩) from hr0 11 (by kernel_rfl)) un)
   refine JLq (.pointer (some ⟨b75, 0, none⟩)) (fa80_0 rfl rfl) <| Za ?_
   exact ⟨.pointer (some ⟨b75, 0, none⟩), [], rfl, (Sub.emp Sub.refl), rfl⟩
  ·intro ρ r76 N76 B hB hBa hp hr hr0
   obtain ⟨ρ89, rfl⟩ := Zc (uc (show ρ 88 = .pointer (some ⟨b75, 0, none⟩) from (hr 10 _ _ (by decide) rfl rfl rfl).trans (hp 10 (by decide) rfl)) un)
   refine JLr (Zh Z5 rfl (At.bx 17 (Zn ((hB 0 (by decide)).trans rfl))) (sub_l (ZJ hA74)) <| Za ?_)
   exact ⟨.agg ⟨ca74⟩, [], rfl, (Sub.emp Sub.refl), rfl⟩
  ·intro ρ r76 N76 B hB hBa hp hr hr0
   obtain ⟨ρ90, rfl⟩ := Zc (uc (show ρ 89 = .agg ⟨ca74⟩ from (hr 11 _ _ (by decide) rfl rfl rfl).trans (hp 11 (by decide) rfl)) un)
   refine Zg rfl Tryz.call112 rfl (fun hin => binds_ct _ _ _ (RP.mono (Hle.hu _ _) hA74) (by omega)) rfl ?_
   rintro _ _ ⟨rfl, rfl⟩
   refine Za ?_
   exact ⟨.int .i64 ((binds (cases[j].1) : Int)), [], rfl, (Sub.emp Sub.refl), rfl⟩
  ·intro ρ r76 N76 B hB hBa hp hr hr0
   obtain ⟨ρ91, rfl⟩ := Zc (uc (show ρ 87 = .int .i64 b from (hr 9 _ _ (by decide) rfl rfl rfl).trans (hp 9 (by decide) rfl)) (uc (show ρ 90 = .int .i64 ((binds (cases[j].1) : Int)) from (hr 12 _ _ (by decide) rfl rfl rfl).trans (hp 12 (by decide) rfl)) un))
   refine JLq (.int .i64 (b + ((binds (cases[j].1) : Int)))) (Pu.add64 rfl rfl (by first | omega | (constructor <;> omega))) <| Za ?_
   exact ⟨.int .i64 (b + ((binds (cases[j].1) : Int))), [], rfl, (Sub.emp Sub.refl), rfl⟩
  ·intro ρ r76 N76 B hB hBa hp hr hr0
   obtain ⟨ρ92, rfl⟩ := Zc (uc (show ρ 84 = .agg ⟨[.func (.func gv) ⟨fvs⟩ ⟨cvs⟩, .func (.func gr) ⟨frs⟩ ⟨crs⟩]⟩ from (hr 6 _ _ (by decide) rfl rfl rfl).trans (hp 6 (by decide) rfl)) (uc (show ρ 86 = .agg ⟨cb74⟩ from (hr 8 _ _ (by decide) rfl rfl rfl).trans (hp 8 (by decide) rfl)) (uc (show ρ 91 = .int .i64 (b + ((binds (cases[j].1) : Int))) from (hr 13 _ _ (by decide) rfl rfl rfl).trans (hp 13 (by decide) rfl)) un)))
   obtain rfl := hBa rfl
   refine Zq (M' := [(N76 0), (N76 1), (N76 2), (N76 3), (N76 4), (N76 5), (N76 6), (N76 7), (N76 8), (N76 9), (N76 10), (N76 11), (N76 12), (N76 13), [], (N76 15), (N76 16), [(b75, .cells ⟨ca74 ++ cb74⟩ 80 (0, 0))], [((ZA (r14 10)), .cells ⟨pkT kind num (rf ref) v28 w⟩ 27 (0, 0))], k3, k4, Sc s2, k1, k2, [(b3, .cells ⟨pkT 0 0 zS (.slice none 0 0) (.slice none 0 0)⟩ 27 (0, 0))], [(b2, .cells ⟨pkT kind num ref ks cv⟩ 27 (0, 0))], [(b1, .cells ⟨[.func (.func gv) ⟨fvs⟩ ⟨cvs⟩, .func (.func gr) ⟨frs⟩ ⟨crs⟩]⟩ 136 (0, 0))]]) Sub.refl <| Zw 21 rfl Tryz.call85 rfl rfl (fun hin => ih' _ (List.getElem_mem h73n) _ _ _ _ (RT.mono (Hle.hu _ _) hB74) (by omega) (vOKc_mem hv.2.2 _ (List.getElem_mem h73n)) (by omega) (by omega) hs2 (fun s h hh => hgr s h (Hle.trans (Hle.hu _ _) hh)) (fun n b s h hh => hgv n b s h (Hle.trans (Hle.hu _ _) hh))) rfl ?_
   rintro _ _ ⟨cs93, k93, rfl, rfl, hO93⟩
   refine Za ?_
   exact ⟨.agg ⟨cs93⟩, k93 ++ (Sc ((Ye rf vf (b + ((binds (cases[j].1) : Int))) (cases[j].2) s2).2)), rfl, (Sub_setX (p := 4) rfl), ⟨k93, rfl, rfl, hO93⟩⟩
  ·intro ρ r76 N76 B hB hBa hp hr hr0
   have p5 : (r76 5) = .agg ⟨(cel (r76 5))⟩ ∧ OP (mapP rf (cases[j].1)) (cel (r76 5)) (N76 5) := hp 5 (by decide) rfl
   have p14 : XT ((Ye rf vf (b + ((binds (cases[j].1) : Int))) (cases[j].2) s2).1) (r76 14) (N76 14) (Sc ((Ye rf vf (b + ((binds (cases[j].1) : Int))) (cases[j].2) s2).2)) := hp 14 (by decide) rfl
   obtain ⟨ρ94, rfl⟩ := Zc (uc (show ρ 83 = .agg ⟨(cel (r76 5))⟩ from (hr 5 _ _ (by decide) rfl rfl rfl).trans p5.1) (uc (show ρ 92 = .agg ⟨(cel (r76 14))⟩ from (hr 14 _ _ (by decide) rfl rfl rfl).trans p14.v) un))
   refine JLq (.agg ⟨((cel (r76 5))) ++ ((cel (r76 14)))⟩) (Pu.build (pv := [(0, .agg ⟨(cel (r76 5))⟩), (1, .agg ⟨(cel (r76 14))⟩)]) (l := ((cel (r76 5))) ++ ((cel (r76 14)))) rfl (bld80_0_1 p5.2.len p14.len)) <| Za ?_
   exact ⟨.agg ⟨((cel (r76 5))) ++ ((cel (r76 14)))⟩, [], rfl, (Sub.emp Sub.refl), rfl⟩
  ·intro ρ r76 N76 B hB hBa hp hr hr0
   have p5 : (r76 5) = .agg ⟨(cel (r76 5))⟩ ∧ OP (mapP rf (cases[j].1)) (cel (r76 5)) (N76 5) := hp 5 (by decide) rfl
   have p14 : XT ((Ye rf vf (b + ((binds (cases[j].1) : Int))) (cases[j].2) s2).1) (r76 14) (N76 14) (Sc ((Ye rf vf (b + ((binds (cases[j].1) : Int))) (cases[j].2) s2).2)) := hp 14 (by decide) rfl
   obtain ⟨ρ95, rfl⟩ := Zc (uc (show ρ 93 = .agg ⟨((cel (r76 5))) ++ ((cel (r76 14)))⟩ from (hr 15 _ _ (by decide) rfl rfl rfl).trans (hp 15 (by decide) rfl)) un)
   refine JLr (Zr (vs := [.agg ⟨((cel (r76 5))) ++ ((cel (r76 14)))⟩]) [((cel (r76 5))) ++ ((cel (r76 14)))] Tryz.runUnderlying25 el80 rfl rfl (by intro e he; simp only [List.mem_cons, List.not_mem_nil, or_false] at he; subst he; exact (ZN p5.2.len p14.len)) rfl (by decide) fun b96 k96 ho96 hk96 => Za ?_)
   exact ⟨.slice (some ⟨b96, 0, none⟩) 1 1, k96, rfl, Sub.refl, ⟨rfl, hk96, ho96⟩⟩
  intro ρ r76 N76 hp hr hr0
  have p5 : (r76 5) = .agg ⟨(cel (r76 5))⟩ ∧ OP (mapP rf (cases[j].1)) (cel (r76 5)) (N76 5) := hp 5 (by decide)
  have p14 : XT ((Ye rf vf (b + ((binds (cases[j].1) : Int))) (cases[j].2) s2).1) (r76 14) (N76 14) (Sc ((Ye rf vf (b + ((binds (cases[j].1) : Int))) (cases[j].2) s2).2)) := hp 14 (by decide)
  have p16 : (r76 16) = .slice (some ⟨(ZC (r76 16)), 0, none⟩) 1 1 ∧ (N76 16) = [(ZC (r76 16), .cells ⟨List.flatten [((cel (r76 5))) ++ ((cel (r76 14)))]⟩ 80 (0, 0))] ∧ Own 80 71 (.slice (some ⟨(ZC (r76 16)), 0, none⟩) 1 1) [((cel (r76 5))) ++ ((cel (r76 14)))] (N76 16) := hp 16 (by decide)
  obtain ⟨ρ97, rfl⟩ := Zc (uc (show ρ 2 = .int .i64 b from hr0 2 (by kernel_rfl)) (uc (show ρ 3 = .pointer (some ⟨b1, 0, none⟩) from hr0 3 (by kernel_rfl)) (uc (show ρ 6 = .pointer (some ⟨b3, 0, none⟩) from hr0 6 (by kernel_rfl)) (uc (show ρ 7 = .pointer (some ⟨(ZA (r14 10)), 0, none⟩) from hr0 7 (by kernel_rfl)) (uc (show ρ 72 = cv from hr0 72 (by kernel_rfl)) (uc (show ρ 73 = .int .i64 ((cases.length : Int)) from hr0 73 (by kernel_rfl)) (uc (show ρ 74 = .int .i64 ((j : Int)) from hr0 74 (by kernel_rfl)) (uc (show ρ 79 = w from (hr 1 _ _ (by decide) rfl rfl).trans (hp 1 (by decide))) (uc (show ρ 94 = .slice (some ⟨(ZC (r76 16)), 0, none⟩) 1 1 from (hr 16 _ _ (by decide) rfl rfl).trans p16.1) un)))))))))
  have p76_5 := p5; have p76_14 := p14; have p76_16 := p16
  clear hp hr hr0 p5 p14 p16
  obtain ⟨kT76, hv76, hN76, hO76⟩ := id p76_14
  refine Zq (M' := [(N76 0), (N76 1), (N76 2), (N76 3), (N76 4), (N76 5), (N76 6), (N76 7), (N76 8), (N76 9), (N76 10), (N76 11), (N76 12), (N76 13), [], (N76 15), (N76 16), [(b75, .cells ⟨ca74 ++ cb74⟩ 80 (0, 0))], [((ZA (r14 10)), .cells ⟨pkT kind num (rf ref) v28 w⟩ 27 (0, 0))], k3, k4, (N76 14), k1, k2, [(b3, .cells ⟨pkT 0 0 zS (.slice none 0 0) (.slice none 0 0)⟩ 27 (0, 0))], [(b2, .cells ⟨pkT kind num ref ks cv⟩ 27 (0, 0))], [(b1, .cells ⟨[.func (.func gv) ⟨fvs⟩ ⟨cvs⟩, .func (.func gr) ⟨frs⟩ ⟨crs⟩]⟩ 136 (0, 0))]]) Sub.refl <| Zq (M' := [(N76 14), (N76 5), (N76 16), [(b75, .cells ⟨ca74 ++ cb74⟩ 80 (0, 0))], [((ZA (r14 10)), .cells ⟨pkT kind num (rf ref) v28 w⟩ 27 (0, 0))], k3, k4, k1, k2, [(b3, .cells ⟨pkT 0 0 zS (.slice none 0 0) (.slice none 0 0)⟩ 27 (0, 0))], [(b2, .cells ⟨pkT kind num ref ks cv⟩ 27 (0, 0))], [(b1, .cells ⟨[.func (.func gv) ⟨fvs⟩ ⟨cvs⟩, .func (.func gr) ⟨frs⟩ ⟨crs⟩]⟩ 136 (0, 0))]]) (Sd (Sd (Sd (Sd (Sd (Sub.cons 16 rfl (Sk (Sd (Sd (Sd (Sd (Sd (Sd (Sd (Sd (Sd (Sd (Sk (Sk (Sk (Sk (Sk (Sk (Sk (Sk (Sk (Sk Sub.nil))))))))))))))))))))))))))) <| Zq (M' := [kT76, Sc ((Ye rf vf (b + ((binds (cases[j].1) : Int))) (cases[j].2) s2).2), (N76 5), (N76 16), [(b75, .cells ⟨ca74 ++ cb74⟩ 80 (0, 0))], [((ZA (r14 10)), .cells ⟨pkT kind num (rf ref) v28 w⟩ 27 (0, 0))], k3, k4, k1, k2, [(b3, .cells ⟨pkT 0 0 zS (.slice none 0 0) (.slice none 0 0)⟩ 27 (0, 0))], [(b2, .cells ⟨pkT kind num ref ks cv⟩ 27 (0, 0))], [(b1, .cells ⟨[.func (.func gv) ⟨fvs⟩ ⟨cvs⟩, .func (.func gr) ⟨frs⟩ ⟨crs⟩]⟩ 136 (0, 0))]]) (Sub.split (Sub.cons 0 (congrArg some hN76) Sub.refl)) ?_
  show JL _ _ _ [_, _, _] _ _ _
  have hlens98 : ∀ e ∈ ([((cel (r76 5))) ++ ((cel (r76 14)))] : List (List Value)), List.length e = 71 := by
   intro e he; simp only [List.mem_cons, List.not_mem_nil, or_false] at he
   rcases he with rfl
   ·exact (ZN p76_5.2.len p76_14.len)
  have hoks98 : ∀ e ∈ ([((cel (r76 5))) ++ ((cel (r76 14)))] : List (List Value)), okc e := by
   intro e he; simp only [List.mem_cons, List.not_mem_nil, or_false] at he
   rcases he with rfl
   ·exact (Z3 p76_5.2.ok p76_14.ok)
  refine JLr (ZH (i := 6) (n := 1) (es' := [((cel (r76 5))) ++ ((cel (r76 14)))]) Tryz.runUnderlying25 Tryz.runUnderlying25 (Or.inl rfl) el80 rfl rfl rfl how (fun F w m => Src.row (((At.k 3 rfl (by rw [p76_16.2.1]; exact List.mem_cons_self))).heap m) (Zx (ZG hlens98))) rfl hlens98 hoks98 (by decide) (by omega) fun v98 k98 ho98 => JLq (.pointer (some ⟨(ZA (r14 10)), 35, none⟩)) (YP rfl rfl) <| JLr (Ze 5 (vs := [v98]) (l := pkT kind num (rf ref) v28 v98) ty25 rfl rfl rfl (ZO ho98.one) rfl (Zm ho98.one Zv) (pkT_s35 ..) <| Za <| Zb <| JLq (.int .i64 (((j + 1 : Nat) : Int))) (Pu.inc rfl rfl (by omega)) <| JLm (.int .i64 (((j + 1 : Nat) : Int))) <| Za <| ⟨_, ?_, (j + 1), v98, (es2 ++ [((cel (r76 5))) ++ ((cel (r76 14)))]), k98, (k4 ++ (((N76 5)) ++ kT76)), ((Ye rf vf (b + ((binds (cases[j].1) : Int))) (cases[j].2) s2).2), rfl, rfl, rfl, rfl, rfl, rfl, rfl, (Sub.cons 5 rfl (Sub.cons 5 rfl (Sub.join3 (Sub.cons 5 rfl (Sub.cons 2 rfl (Sk (Sk (Sd (Sd (Sk (Sk (Sk (Sk (Sk Sub.nil)))))))))))))), ?_, ?_, ?_, ?_, ?_, rfl⟩))
  ·omega
  ·omega
  ·exact ho98
  ·rw [mapCs_take rf vf b cases j s1 h73n, hsq2]; exact OCs.snoc p76_5.2 hO76 hopw
  ·exact mapT_inv hI _ _ _ hs2
  rw [mapCs_take rf vf b cases j s1 h73n, hsq2]
 replace h73 := df h73
 have h73n : cases.length ≤ j := by omega
 refine ZM _ rfl <| Zd <| Zb <| JLr (Zh Zu rfl (At.bx 0 rfl) (ZZ ..) <| JLr (Ze 6 (vs := pkT kind num (rf ref) v28 w) (l := pkT kind num (rf ref) v28 w) Zu rfl rfl rfl rfl rfl (ZI ho.one how.one) (Z0 ..) <| Za <| Zl <| ⟨.agg ⟨pkT kind num (rf ref) v28 w⟩, [k1 ++ (k2 ++ (k3 ++ k4)), Sc s2], Ret.one rfl (RV.cell Zu rfl (At.bx 6 rfl) (ZZ ..)), (Sub.join4 (Sd (Sub.cons 3 rfl (Sub.cons 3 rfl (Sk (Sk (Sk Sub.nil))))))), ?_⟩))
 rw [List.take_of_length_le h73n] at hopw hsq2
 exact ⟨_, _, rfl, by rw [Ye, if_neg hneg, hsq, hsq2], by rw [Ye, if_neg hneg, hsq]; exact OT_mk.2 ⟨_, w, es, es2, k1, k2, k3, k4, rfl, hk, hn, ho, hH.done hjk, how, hopw, rfl, by rw [mapTs_len]; exact hks.le, by rw [mapCs_len]; exact hcv.le⟩⟩
end Go.Proofs.YtmophpgiaiemhaaGreat.Hs
/-! Walks, printed by a program of this session's own (gen.py). -/
namespace Go.Proofs.YtmophpgiaiemhaaGreat.Hs
open Go Go.Proofs
set_option maxRecDepth 100000
set_option linter.unusedVariables false
set_option linter.unusedSimpArgs false
attribute [local irreducible] JL J CT wlo
theorem fields_ct (k : Int) (H : Heap) : CT Tryz.prog 159 ⟨[.int .i64 k]⟩ [] H (fun v N => v = .agg ⟨[.bool (fN k), .bool (fR k), .bool (fC k)]⟩ ∧ N = []) := by
 refine Zo Tryz.func159 rfl rfl <| Zd <| Zb <| JLr (Zj (l := [.bool false, .bool false, .bool false]) Tryz.zeroValue196 rfl fun b1 => Za <| Zd <| Zb <| JLr (Zj (l := [.bool false, .bool false, .bool false]) Tryz.zeroValue196 rfl fun b2 => Za <| Zd <| Zd <| Zb <| JLm (.int .i64 k) ?_))
 refine Za <| Zs <| Zd <| Zd <| Zb <| JLq (.bool (decide (k = 1))) (Pu.eql rfl rfl) <| JLa (.bool (decide (k = 1))) <| Za <| Zi (b := decide (k = 1)) rfl (fun h3 => ?_) (fun h3 => ?_)
 ·replace h3 := dt h3
  refine Zp <| Zi (b := decide (k = 1)) rfl (fun _ => ?_) (fun h4 => absurd h3 (df h4))
  refine Zb <| JLq (.pointer (some ⟨b2, 0, none⟩)) (Pu.idxA 0 Tryz.runUnderlying196 ty4 rfl rfl (by decide) (by decide)) <| JLr (Ze 0 (vs := [.bool true]) (l := [.bool true, .bool false, .bool false]) ty4 rfl rfl rfl rfl rfl (Zm rfl Zv) rfl <| Za <| Zd <| Zb <| JLr (Zh Yd rfl (At.bx 0 rfl) rfl <| JLr (Ze 1 (vs := [.bool true, .bool false, .bool false]) (l := [.bool true, .bool false, .bool false]) Yd rfl rfl rfl rfl rfl (Zm rfl (Zm rfl (Zm rfl Zv))) rfl <| Za <| Zl <| ⟨.agg ⟨[.bool true, .bool false, .bool false]⟩, [], Ret.one rfl (RV.cell Yd rfl (At.bx 1 rfl) rfl), Sub.nil, ?_⟩)))
  exact ⟨by simp_all [fN, fR, fC], rfl⟩
 replace h3 := df h3
 refine Zd <| Zb <| JLq (.bool (decide (k = 2))) (Pu.eql rfl rfl) <| JLa (.bool (decide (k = 2))) <| Za <| Zi (b := decide (k = 2)) rfl (fun h5 => ?_) (fun h5 => ?_)
 ·replace h5 := dt h5
  refine Zp <| Zi (b := decide (k = 2)) rfl (fun _ => ?_) (fun h6 => absurd h5 (df h6))
  refine Zb <| JLq (.pointer (some ⟨b2, 0, none⟩)) (Pu.idxA 0 Tryz.runUnderlying196 ty4 rfl rfl (by decide) (by decide)) <| JLr (Ze 0 (vs := [.bool true]) (l := [.bool true, .bool false, .bool false]) ty4 rfl rfl rfl rfl rfl (Zm rfl Zv) rfl <| Za <| Zd <| Zb <| JLr (Zh Yd rfl (At.bx 0 rfl) rfl <| JLr (Ze 1 (vs := [.bool true, .bool false, .bool false]) (l := [.bool true, .bool false, .bool false]) Yd rfl rfl rfl rfl rfl (Zm rfl (Zm rfl (Zm rfl Zv))) rfl <| Za <| Zl <| ⟨.agg ⟨[.bool true, .bool false, .bool false]⟩, [], Ret.one rfl (RV.cell Yd rfl (At.bx 1 rfl) rfl), Sub.nil, ?_⟩)))
  exact ⟨by simp_all [fN, fR, fC], rfl⟩
 replace h5 := df h5
 refine Zd <| Zb <| JLq (.bool (decide (k = 7))) (Pu.eql rfl rfl) <| JLa (.bool (decide (k = 7))) <| Za <| Zi (b := decide (k = 7)) rfl (fun h7 => ?_) (fun h7 => ?_)
 ·replace h7 := dt h7
  refine Zp <| Zi (b := decide (k = 7)) rfl (fun _ => ?_) (fun h8 => absurd h7 (df h8))
  refine Zb <| JLq (.pointer (some ⟨b2, 0, none⟩)) (Pu.idxA 0 Tryz.runUnderlying196 ty4 rfl rfl (by decide) (by decide)) <| JLr (Ze 0 (vs := [.bool true]) (l := [.bool true, .bool false, .bool false]) ty4 rfl rfl rfl rfl rfl (Zm rfl Zv) rfl <| Za <| Zd <| Zb <| JLr (Zh Yd rfl (At.bx 0 rfl) rfl <| JLr (Ze 1 (vs := [.bool true, .bool false, .bool false]) (l := [.bool true, .bool false, .bool false]) Yd rfl rfl rfl rfl rfl (Zm rfl (Zm rfl (Zm rfl Zv))) rfl <| Za <| Zl <| ⟨.agg ⟨[.bool true, .bool false, .bool false]⟩, [], Ret.one rfl (RV.cell Yd rfl (At.bx 1 rfl) rfl), Sub.nil, ?_⟩)))
  exact ⟨by simp_all [fN, fR, fC], rfl⟩
 replace h7 := df h7
 refine Zb <| JLq (.bool (decide (k = 10))) (Pu.eql rfl rfl) <| JLa (.bool (decide (k = 10))) <| Za <| Zi (b := decide (k = 10)) rfl (fun h9 => ?_) (fun h9 => ?_)
 ·replace h9 := dt h9
  refine Zb <| JLq (.pointer (some ⟨b2, 0, none⟩)) (Pu.idxA 0 Tryz.runUnderlying196 ty4 rfl rfl (by decide) (by decide)) <| JLr (Ze 0 (vs := [.bool true]) (l := [.bool true, .bool false, .bool false]) ty4 rfl rfl rfl rfl rfl (Zm rfl Zv) rfl <| Za <| Zd <| Zb <| JLr (Zh Yd rfl (At.bx 0 rfl) rfl <| JLr (Ze 1 (vs := [.bool true, .bool false, .bool false]) (l := [.bool true, .bool false, .bool false]) Yd rfl rfl rfl rfl rfl (Zm rfl (Zm rfl (Zm rfl Zv))) rfl <| Za <| Zl <| ⟨.agg ⟨[.bool true, .bool false, .bool false]⟩, [], Ret.one rfl (RV.cell Yd rfl (At.bx 1 rfl) rfl), Sub.nil, ?_⟩)))
  exact ⟨by simp_all [fN, fR, fC], rfl⟩
 replace h9 := df h9
 refine Zd <| Zd <| Zb <| JLq (.bool (decide (k = 8))) (Pu.eql rfl rfl) <| JLa (.bool (decide (k = 8))) <| Za <| Zi (b := decide (k = 8)) rfl (fun h10 => ?_) (fun h10 => ?_)
 ·replace h10 := dt h10
  refine Zp <| Zi (b := decide (k = 8)) rfl (fun _ => ?_) (fun h11 => absurd h10 (df h11))
  refine Zb <| JLq (.pointer (some ⟨b2, 0, none⟩)) (Pu.idxA 0 Tryz.runUnderlying196 ty4 rfl rfl (by decide) (by decide)) <| JLr (Ze 0 (vs := [.bool true]) (l := [.bool true, .bool false, .bool false]) ty4 rfl rfl rfl rfl rfl (Zm rfl Zv) rfl <| JLq (.pointer (some ⟨b2, 1, none⟩)) (Pu.idxA 1 Tryz.runUnderlying196 ty4 rfl rfl (by decide) (by decide)) <| JLr (Ze 0 (vs := [.bool true]) (l := [.bool true, .bool true, .bool false]) ty4 rfl rfl rfl rfl rfl (Zm rfl Zv) rfl <| Za <| Zd <| Zb <| JLr (Zh Yd rfl (At.bx 0 rfl) rfl <| JLr (Ze 1 (vs := [.bool true, .bool true, .bool false]) (l := [.bool true, .bool true, .bool false]) Yd rfl rfl rfl rfl rfl (Zm rfl (Zm rfl (Zm rfl Zv))) rfl <| Za <| Zl <| ⟨.agg ⟨[.bool true, .bool true, .bool false]⟩, [], Ret.one rfl (RV.cell Yd rfl (At.bx 1 rfl) rfl), Sub.nil, ?_⟩))))
  exact ⟨by simp_all [fN, fR, fC], rfl⟩
 replace h10 := df h10
 refine Zb <| JLq (.bool (decide (k = 11))) (Pu.eql rfl rfl) <| JLa (.bool (decide (k = 11))) <| Za <| Zi (b := decide (k = 11)) rfl (fun h12 => ?_) (fun h12 => ?_)
 ·replace h12 := dt h12
  refine Zb <| JLq (.pointer (some ⟨b2, 0, none⟩)) (Pu.idxA 0 Tryz.runUnderlying196 ty4 rfl rfl (by decide) (by decide)) <| JLr (Ze 0 (vs := [.bool true]) (l := [.bool true, .bool false, .bool false]) ty4 rfl rfl rfl rfl rfl (Zm rfl Zv) rfl <| JLq (.pointer (some ⟨b2, 1, none⟩)) (Pu.idxA 1 Tryz.runUnderlying196 ty4 rfl rfl (by decide) (by decide)) <| JLr (Ze 0 (vs := [.bool true]) (l := [.bool true, .bool true, .bool false]) ty4 rfl rfl rfl rfl rfl (Zm rfl Zv) rfl <| Za <| Zd <| Zb <| JLr (Zh Yd rfl (At.bx 0 rfl) rfl <| JLr (Ze 1 (vs := [.bool true, .bool true, .bool false]) (l := [.bool true, .bool true, .bool false]) Yd rfl rfl rfl rfl rfl (Zm rfl (Zm rfl (Zm rfl Zv))) rfl <| Za <| Zl <| ⟨.agg ⟨[.bool true, .bool true, .bool false]⟩, [], Ret.one rfl (RV.cell Yd rfl (At.bx 1 rfl) rfl), Sub.nil, ?_⟩))))
  exact ⟨by simp_all [fN, fR, fC], rfl⟩
 replace h12 := df h12
 refine Zd <| Zd <| Zb <| JLq (.bool (decide (k = 6))) (Pu.eql rfl rfl) <| JLa (.bool (decide (k = 6))) <| Za <| Zi (b := decide (k = 6)) rfl (fun h13 => ?_) (fun h13 => ?_)
 ·replace h13 := dt h13
  refine Zp <| Zi (b := decide (k = 6)) rfl (fun _ => ?_) (fun h14 => absurd h13 (df h14))
  refine Zb <| JLq (.pointer (some ⟨b2, 1, none⟩)) (Pu.idxA 1 Tryz.runUnderlying196 ty4 rfl rfl (by decide) (by decide)) <| JLr (Ze 0 (vs := [.bool true]) (l := [.bool false, .bool true, .bool false]) ty4 rfl rfl rfl rfl rfl (Zm rfl Zv) rfl <| Za <| Zd <| Zb <| JLr (Zh Yd rfl (At.bx 0 rfl) rfl <| JLr (Ze 1 (vs := [.bool false, .bool true, .bool false]) (l := [.bool false, .bool true, .bool false]) Yd rfl rfl rfl rfl rfl (Zm rfl (Zm rfl (Zm rfl Zv))) rfl <| Za <| Zl <| ⟨.agg ⟨[.bool false, .bool true, .bool false]⟩, [], Ret.one rfl (RV.cell Yd rfl (At.bx 1 rfl) rfl), Sub.nil, ?_⟩)))
  exact ⟨by simp_all [fN, fR, fC], rfl⟩
 replace h13 := df h13
 refine Zb <| JLq (.bool (decide (k = 12))) (Pu.eql rfl rfl) <| JLa (.bool (decide (k = 12))) <| Za <| Zi (b := decide (k = 12)) rfl (fun h15 => ?_) (fun h15 => ?_)
 ·replace h15 := dt h15
  refine Zb <| JLq (.pointer (some ⟨b2, 1, none⟩)) (Pu.idxA 1 Tryz.runUnderlying196 ty4 rfl rfl (by decide) (by decide)) <| JLr (Ze 0 (vs := [.bool true]) (l := [.bool false, .bool true, .bool false]) ty4 rfl rfl rfl rfl rfl (Zm rfl Zv) rfl <| Za <| Zd <| Zb <| JLr (Zh Yd rfl (At.bx 0 rfl) rfl <| JLr (Ze 1 (vs := [.bool false, .bool true, .bool false]) (l := [.bool false, .bool true, .bool false]) Yd rfl rfl rfl rfl rfl (Zm rfl (Zm rfl (Zm rfl Zv))) rfl <| Za <| Zl <| ⟨.agg ⟨[.bool false, .bool true, .bool false]⟩, [], Ret.one rfl (RV.cell Yd rfl (At.bx 1 rfl) rfl), Sub.nil, ?_⟩)))
  exact ⟨by simp_all [fN, fR, fC], rfl⟩
 replace h15 := df h15
 refine Zd <| Zb <| JLq (.bool (decide (k = 9))) (Pu.eql rfl rfl) <| JLa (.bool (decide (k = 9))) <| Za <| Zi (b := decide (k = 9)) rfl (fun h16 => ?_) (fun h16 => ?_)
 ·replace h16 := dt h16
  refine Zb <| JLq (.pointer (some ⟨b2, 2, none⟩)) (Pu.idxA 2 Tryz.runUnderlying196 ty4 rfl rfl (by decide) (by decide)) <| JLr (Ze 0 (vs := [.bool true]) (l := [.bool false, .bool false, .bool true]) ty4 rfl rfl rfl rfl rfl (Zm rfl Zv) rfl <| Za <| Zd <| Zb <| JLr (Zh Yd rfl (At.bx 0 rfl) rfl <| JLr (Ze 1 (vs := [.bool false, .bool false, .bool true]) (l := [.bool false, .bool false, .bool true]) Yd rfl rfl rfl rfl rfl (Zm rfl (Zm rfl (Zm rfl Zv))) rfl <| Za <| Zl <| ⟨.agg ⟨[.bool false, .bool false, .bool true]⟩, [], Ret.one rfl (RV.cell Yd rfl (At.bx 1 rfl) rfl), Sub.nil, ?_⟩)))
  exact ⟨by simp_all [fN, fR, fC], rfl⟩
 replace h16 := df h16
 refine Zp <| Zd <| Zb <| JLr (Zh Yd rfl (At.bx 0 rfl) rfl <| JLr (Ze 1 (vs := [.bool false, .bool false, .bool false]) (l := [.bool false, .bool false, .bool false]) Yd rfl rfl rfl rfl rfl (Zm rfl (Zm rfl (Zm rfl Zv))) rfl <| Za <| Zl <| ⟨.agg ⟨[.bool false, .bool false, .bool false]⟩, [], Ret.one rfl (RV.cell Yd rfl (At.bx 1 rfl) rfl), Sub.nil, ?_⟩))
 exact ⟨by simp_all [fN, fR, fC], rfl⟩
theorem patternFields_ct (k : Int) (H : Heap) : CT Tryz.prog 169 ⟨[.int .i64 k]⟩ [] H (fun v N => v = .agg ⟨[.bool (pfN k), .bool (pfR k), .bool false]⟩ ∧ N = []) := by
 refine Zo Tryz.func169 rfl rfl <| Zd <| Zb <| JLr (Zj (l := [.bool false, .bool false, .bool false]) Tryz.zeroValue196 rfl fun b1 => Za <| Zd <| Zd <| Zb <| JLm (.int .i64 k) <| Za <| Zs <| Zd <| Zb ?_)
 refine JLq (.bool (decide (k = 2))) (Pu.eql rfl rfl) <| JLa (.bool (decide (k = 2))) <| Za <| Zi (b := decide (k = 2)) rfl (fun h2 => ?_) (fun h2 => ?_)
 ·replace h2 := dt h2
  refine Zd <| Zb <| JLq (.agg ⟨[.bool true, .bool false, .bool false]⟩) (Pu.build (pv := [(0, .bool true), (1, .bool false), (2, .bool false)]) (l := [.bool true, .bool false, .bool false]) rfl (bld196_0_1_2 _ _ _)) <| JLr (Ze 0 (vs := [.bool true, .bool false, .bool false]) (l := [.bool true, .bool false, .bool false]) Yd rfl rfl rfl rfl rfl (Zm rfl (Zm rfl (Zm rfl Zv))) rfl <| Za <| Zl <| ⟨.agg ⟨[.bool true, .bool false, .bool false]⟩, [], Ret.one rfl (RV.cell Yd rfl (At.bx 0 rfl) rfl), Sub.nil, ?_⟩)
  exact ⟨by simp_all [pfN, pfR], rfl⟩
 replace h2 := df h2
 refine Zd <| Zb <| JLq (.bool (decide (k = 3))) (Pu.eql rfl rfl) <| JLa (.bool (decide (k = 3))) <| Za <| Zi (b := decide (k = 3)) rfl (fun h3 => ?_) (fun h3 => ?_)
 ·replace h3 := dt h3
  refine Zd <| Zb <| JLq (.agg ⟨[.bool true, .bool true, .bool false]⟩) (Pu.build (pv := [(0, .bool true), (1, .bool true), (2, .bool false)]) (l := [.bool true, .bool true, .bool false]) rfl (bld196_0_1_2 _ _ _)) <| JLr (Ze 0 (vs := [.bool true, .bool true, .bool false]) (l := [.bool true, .bool true, .bool false]) Yd rfl rfl rfl rfl rfl (Zm rfl (Zm rfl (Zm rfl Zv))) rfl <| Za <| Zl <| ⟨.agg ⟨[.bool true, .bool true, .bool false]⟩, [], Ret.one rfl (RV.cell Yd rfl (At.bx 0 rfl) rfl), Sub.nil, ?_⟩)
  exact ⟨by simp_all [pfN, pfR], rfl⟩
 replace h3 := df h3
 refine Zp <| Zd <| Zb <| JLq (.agg ⟨[.bool false, .bool false, .bool false]⟩) (Pu.build (pv := []) (l := [.bool false, .bool false, .bool false]) rfl bld196_) <| JLr (Ze 0 (vs := [.bool false, .bool false, .bool false]) (l := [.bool false, .bool false, .bool false]) Yd rfl rfl rfl rfl rfl (Zm rfl (Zm rfl (Zm rfl Zv))) rfl <| Za <| Zl <| ⟨.agg ⟨[.bool false, .bool false, .bool false]⟩, [], Ret.one rfl (RV.cell Yd rfl (At.bx 0 rfl) rfl), Sub.nil, ?_⟩)
 exact ⟨by simp_all [pfN, pfR], rfl⟩
theorem clash_ct (a b c : Bool) (n : Int) (r : Sm) (m : Int) (H : Heap) : CT Tryz.prog 158 ⟨[.agg ⟨[.bool a, .bool b, .bool c]⟩, .int .i64 n, .agg ⟨sC r⟩, .int .i64 m]⟩ [] H (fun v N => v = .bool (clashB a b c n r m) ∧ N = []) := by
 refine Zo Tryz.func158 rfl rfl <| Zd <| Zb <| JLr (Zt (l := [.bool a, .bool b, .bool c]) rfl rfl fun b1 => JLr (Zt (l := sC r) rfl rfl fun b2 => JLa (.bool false) <| Za <| Zd <| Zb <| JLm (.int .i64 n) <| JLq (.bool (!decide (n = 0))) (Pu.neq rfl rfl) <| JLr (Zh Xb rfl (At.bx 0 rfl) (Zx rfl) <| JLq (.agg ⟨sC zS⟩) (Pu.build (pv := []) (l := sC zS) rfl bld23_) ?_)))
 refine JLq (.bool (!decide (r = zS))) (neqS rfl rfl) <| JLm (.int .i64 m) <| JLq (.bool (decide (0 < m))) (Pu.gtr rfl rfl) <| JLq (.agg ⟨[.bool (!decide (n = 0)), .bool (!decide (r = zS)), .bool (decide (0 < m))]⟩) (Pu.build (pv := [(0, .bool (!decide (n = 0))), (1, .bool (!decide (r = zS))), (2, .bool (decide (0 < m)))]) (l := [.bool (!decide (n = 0)), .bool (!decide (r = zS)), .bool (decide (0 < m))]) rfl (bld196_0_1_2 _ _ _)) <| JLr (Zj (l := [.bool false, .bool false, .bool false]) Tryz.zeroValue196 rfl fun b3 => JLr (Ze 0 (vs := [.bool (!decide (n = 0)), .bool (!decide (r = zS)), .bool (decide (0 < m))]) (l := [.bool (!decide (n = 0)), .bool (!decide (r = zS)), .bool (decide (0 < m))]) Yd rfl rfl rfl rfl rfl (Zm rfl (Zm rfl (Zm rfl Zv))) rfl <| Za <| Zd <| Zb <| JLr (Zh Yd rfl (At.bx 0 rfl) rfl <| JLr (Zj (l := [.bool false, .bool false, .bool false]) Tryz.zeroValue196 rfl fun b4 => JLr (Ze 0 (vs := [.bool (!decide (n = 0)), .bool (!decide (r = zS)), .bool (decide (0 < m))]) (l := [.bool (!decide (n = 0)), .bool (!decide (r = zS)), .bool (decide (0 < m))]) Yd rfl rfl rfl rfl rfl (Zm rfl (Zm rfl (Zm rfl Zv))) rfl <| Za ?_)))))
 refine Zd <| Zd <| Zb <| JLm (.int .i64 0) <| Za <| Zs <| YF 4 <| Z8 <| Zd <| Zb <| JLq (.bool true) (show Pu _ _ _ (.bool (decide ((0 : Int) < 3))) from Pu.lss rfl rfl) <| Za <| Zd ?_
 refine Zi (b := true) rfl (fun _ => ?_) (fun h => absurd h (by simp))
 refine Zp <| Zd <| Zs <| Zd <| Zb <| JLm (.int .i64 0) <| JLa (.int .i64 0) <| Za <| J_weak (N := fun ρ M => ρ 4 = .pointer (some ⟨b1, 0, none⟩) ∧ ρ 8 = .bool false ∧ ρ 9 = .pointer (some ⟨b3, 0, none⟩) ∧ ρ 10 = .pointer (some ⟨b4, 0, none⟩) ∧ ρ 21 = .int .i64 0 ∧ M = [[(b4, .cells ⟨[.bool ((!decide (n = 0)) && a), .bool (!decide (r = zS)), .bool (decide (0 < m))]⟩ 196 (0, 0))], [(b3, .cells ⟨[.bool (!decide (n = 0)), .bool (!decide (r = zS)), .bool (decide (0 < m))]⟩ 196 (0, 0))], [(b2, .cells ⟨sC r⟩ 23 (0, 0))], [(b1, .cells ⟨[.bool a, .bool b, .bool c]⟩ 196 (0, 0))]]) ?_ ?_
 ·refine Zb <| JLm (.int .i64 0) <| JLm (.int .i64 0) <| JLq (.pointer (some ⟨b3, 0, none⟩)) (Pu.idxA 0 Tryz.runUnderlying196 ty4 rfl rfl (by decide) (by decide)) <| JLr (Zf ty4 rfl (At.bx 1 rfl) rfl <| JLm (.bool (!decide (n = 0))) ?_)
  cases h5 : (!decide (n = 0)) with
  | true =>
   replace h5 := nt h5
   replace h5 := df h5
   refine JLm (.int .i64 0) <| JLq (.pointer (some ⟨b1, 0, none⟩)) (Pu.idxA 0 Tryz.runUnderlying196 ty4 rfl rfl (by decide) (by decide)) <| JLr (Zf ty4 rfl (At.bx 3 rfl) rfl <| JLq (.bool a) (Pu.pickT rfl rfl) <| JLq (.pointer (some ⟨b4, 0, none⟩)) (Pu.idxA 0 Tryz.runUnderlying196 ty4 rfl rfl (by decide) (by decide)) <| JLr (Ze 0 (vs := [.bool a]) (l := [.bool a, .bool (!decide (r = zS)), .bool (decide (0 < m))]) ty4 rfl rfl rfl rfl rfl (Zm rfl Zv) rfl <| Za ?_))
   first | exact ⟨rfl, rfl, rfl, rfl, rfl, rfl⟩ | (exfalso; omega)
  | false =>
   replace h5 := nf h5
   replace h5 := dt h5
   iterate 3 refine Zy rfl ?_
   refine JLq (.bool false) (Pu.pickF rfl rfl) <| JLq (.pointer (some ⟨b4, 0, none⟩)) (Pu.idxA 0 Tryz.runUnderlying196 ty4 rfl rfl (by decide) (by decide)) <| JLr (Ze 0 (vs := [.bool false]) (l := [.bool false, .bool (!decide (r = zS)), .bool (decide (0 < m))]) ty4 rfl rfl rfl rfl rfl (Zm rfl Zv) rfl <| Za ?_)
   first | exact ⟨rfl, rfl, rfl, rfl, rfl, rfl⟩ | (exfalso; omega)
 rintro ρ6 _ ⟨e7, e8, e9, e10, e11, rfl⟩
 obtain ⟨ρ12, rfl⟩ := Zc (uc e7 (uc e8 (uc e9 (uc e10 (uc e11 un)))))
 clear e7 e8 e9 e10 e11
 refine Zb <| JLq (.int .i64 1) (Pu.arith rfl rfl rfl) <| JLm (.int .i64 1) <| Za <| Z8 <| Zd <| Zb <| JLq (.bool true) (show Pu _ _ _ (.bool (decide ((1 : Int) < 3))) from Pu.lss rfl rfl) <| Za <| Zd <| Zi (b := true) rfl (fun _ => ?_) (fun h => absurd h (by simp))
 refine Zp <| Zd <| Zs <| Zd <| Zb <| JLm (.int .i64 1) <| JLa (.int .i64 1) <| Za <| J_weak (N := fun ρ M => ρ 4 = .pointer (some ⟨b1, 0, none⟩) ∧ ρ 8 = .bool false ∧ ρ 9 = .pointer (some ⟨b3, 0, none⟩) ∧ ρ 10 = .pointer (some ⟨b4, 0, none⟩) ∧ ρ 21 = .int .i64 1 ∧ M = [[(b4, .cells ⟨[.bool ((!decide (n = 0)) && a), .bool ((!decide (r = zS)) && b), .bool (decide (0 < m))]⟩ 196 (0, 0))], [(b3, .cells ⟨[.bool (!decide (n = 0)), .bool (!decide (r = zS)), .bool (decide (0 < m))]⟩ 196 (0, 0))], [(b2, .cells ⟨sC r⟩ 23 (0, 0))], [(b1, .cells ⟨[.bool a, .bool b, .bool c]⟩ 196 (0, 0))]]) ?_ ?_
 ·refine Zb <| JLm (.int .i64 1) <| JLm (.int .i64 1) <| JLq (.pointer (some ⟨b3, 1, none⟩)) (Pu.idxA 1 Tryz.runUnderlying196 ty4 rfl rfl (by decide) (by decide)) <| JLr (Zf ty4 rfl (At.bx 1 rfl) rfl <| JLm (.bool (!decide (r = zS))) ?_)
  cases h13 : (!decide (r = zS)) with
  | true =>
   replace h13 := nt h13
   replace h13 := df h13
   refine JLm (.int .i64 1) <| JLq (.pointer (some ⟨b1, 1, none⟩)) (Pu.idxA 1 Tryz.runUnderlying196 ty4 rfl rfl (by decide) (by decide)) <| JLr (Zf ty4 rfl (At.bx 3 rfl) rfl <| JLq (.bool b) (Pu.pickT rfl rfl) <| JLq (.pointer (some ⟨b4, 1, none⟩)) (Pu.idxA 1 Tryz.runUnderlying196 ty4 rfl rfl (by decide) (by decide)) <| JLr (Ze 0 (vs := [.bool b]) (l := [.bool ((!decide (n = 0)) && a), .bool b, .bool (decide (0 < m))]) ty4 rfl rfl rfl rfl rfl (Zm rfl Zv) rfl <| Za ?_))
   first | exact ⟨rfl, rfl, rfl, rfl, rfl, rfl⟩ | (exfalso; omega)
  | false =>
   replace h13 := nf h13
   replace h13 := dt h13
   iterate 3 refine Zy rfl ?_
   refine JLq (.bool false) (Pu.pickF rfl rfl) <| JLq (.pointer (some ⟨b4, 1, none⟩)) (Pu.idxA 1 Tryz.runUnderlying196 ty4 rfl rfl (by decide) (by decide)) <| JLr (Ze 0 (vs := [.bool false]) (l := [.bool ((!decide (n = 0)) && a), .bool false, .bool (decide (0 < m))]) ty4 rfl rfl rfl rfl rfl (Zm rfl Zv) rfl <| Za ?_)
   first | exact ⟨rfl, rfl, rfl, rfl, rfl, rfl⟩ | (exfalso; omega)
 rintro ρ14 _ ⟨e15, e16, e17, e18, e19, rfl⟩
 obtain ⟨ρ20, rfl⟩ := Zc (uc e15 (uc e16 (uc e17 (uc e18 (uc e19 un)))))
 clear e15 e16 e17 e18 e19
 refine Zb <| JLq (.int .i64 2) (Pu.arith rfl rfl rfl) <| JLm (.int .i64 2) <| Za <| Z8 <| Zd <| Zb <| JLq (.bool true) (show Pu _ _ _ (.bool (decide ((2 : Int) < 3))) from Pu.lss rfl rfl) <| Za <| Zd <| Zi (b := true) rfl (fun _ => ?_) (fun h => absurd h (by simp))
 refine Zp <| Zd <| Zs <| Zd <| Zb <| JLm (.int .i64 2) <| JLa (.int .i64 2) <| Za <| J_weak (N := fun ρ M => ρ 4 = .pointer (some ⟨b1, 0, none⟩) ∧ ρ 8 = .bool false ∧ ρ 9 = .pointer (some ⟨b3, 0, none⟩) ∧ ρ 10 = .pointer (some ⟨b4, 0, none⟩) ∧ ρ 21 = .int .i64 2 ∧ M = [[(b4, .cells ⟨[.bool ((!decide (n = 0)) && a), .bool ((!decide (r = zS)) && b), .bool ((decide (0 < m)) && c)]⟩ 196 (0, 0))], [(b3, .cells ⟨[.bool (!decide (n = 0)), .bool (!decide (r = zS)), .bool (decide (0 < m))]⟩ 196 (0, 0))], [(b2, .cells ⟨sC r⟩ 23 (0, 0))], [(b1, .cells ⟨[.bool a, .bool b, .bool c]⟩ 196 (0, 0))]]) ?_ ?_
 ·refine Zb <| JLm (.int .i64 2) <| JLm (.int .i64 2) <| JLq (.pointer (some ⟨b3, 2, none⟩)) (Pu.idxA 2 Tryz.runUnderlying196 ty4 rfl rfl (by decide) (by decide)) <| JLr (Zf ty4 rfl (At.bx 1 rfl) rfl <| JLm (.bool (decide (0 < m))) ?_)
  cases h21 : (decide (0 < m)) with
  | true =>
   replace h21 := dt h21
   refine JLm (.int .i64 2) <| JLq (.pointer (some ⟨b1, 2, none⟩)) (Pu.idxA 2 Tryz.runUnderlying196 ty4 rfl rfl (by decide) (by decide)) <| JLr (Zf ty4 rfl (At.bx 3 rfl) rfl <| JLq (.bool c) (Pu.pickT rfl rfl) <| JLq (.pointer (some ⟨b4, 2, none⟩)) (Pu.idxA 2 Tryz.runUnderlying196 ty4 rfl rfl (by decide) (by decide)) <| JLr (Ze 0 (vs := [.bool c]) (l := [.bool ((!decide (n = 0)) && a), .bool ((!decide (r = zS)) && b), .bool c]) ty4 rfl rfl rfl rfl rfl (Zm rfl Zv) rfl <| Za ?_))
   first | exact ⟨rfl, rfl, rfl, rfl, rfl, rfl⟩ | (exfalso; omega)
  | false =>
   replace h21 := df h21
   iterate 3 refine Zy rfl ?_
   refine JLq (.bool false) (Pu.pickF rfl rfl) <| JLq (.pointer (some ⟨b4, 2, none⟩)) (Pu.idxA 2 Tryz.runUnderlying196 ty4 rfl rfl (by decide) (by decide)) <| JLr (Ze 0 (vs := [.bool false]) (l := [.bool ((!decide (n = 0)) && a), .bool ((!decide (r = zS)) && b), .bool false]) ty4 rfl rfl rfl rfl rfl (Zm rfl Zv) rfl <| Za ?_)
   first | exact ⟨rfl, rfl, rfl, rfl, rfl, rfl⟩ | (exfalso; omega)
 rintro ρ22 _ ⟨e23, e24, e25, e26, e27, rfl⟩
 obtain ⟨ρ28, rfl⟩ := Zc (uc e23 (uc e24 (uc e25 (uc e26 (uc e27 un)))))
 clear e23 e24 e25 e26 e27
 refine Zb <| JLq (.int .i64 3) (Pu.arith rfl rfl rfl) <| JLm (.int .i64 3) <| Za <| Z8 <| Zd <| Zb <| JLq (.bool false) (show Pu _ _ _ (.bool (decide ((3 : Int) < 3))) from Pu.lss rfl rfl) <| Za <| Zd <| Zi (b := false) rfl (fun h => absurd h (by simp)) (fun _ => ZM _ rfl <| Zd ?_)
 refine Zb <| JLr (Zh Yd rfl (At.bx 0 rfl) rfl <| JLr (Zh Yd rfl (At.bx 1 rfl) rfl <| JLq (.bool (!((((!decide (n = 0)) && a) == (!decide (n = 0))) && ((((!decide (r = zS)) && b) == (!decide (r = zS))) && (((decide (0 < m)) && c) == (decide (0 < m))))))) (neqB3 rfl rfl) <| JLa (.bool (!((((!decide (n = 0)) && a) == (!decide (n = 0))) && ((((!decide (r = zS)) && b) == (!decide (r = zS))) && (((decide (0 < m)) && c) == (decide (0 < m))))))) <| Za <| Zl <| ⟨.bool (!((((!decide (n = 0)) && a) == (!decide (n = 0))) && ((((!decide (r = zS)) && b) == (!decide (r = zS))) && (((decide (0 < m)) && c) == (decide (0 < m)))))), [], Ret.one rfl (RV.tmp rfl), Sub.nil, ?_⟩))
 exact ⟨by unfold clashB; congr 1; cases a <;> cases b <;> cases c <;> simp, rfl⟩
theorem kidsT_ct (k n : Int) (H : Heap) : CT Tryz.prog 160 ⟨[.int .i64 k, .int .i64 n]⟩ [] H (fun v N => v = .bool (kidsB k n) ∧ N = []) := by
 refine Zo Tryz.func160 rfl rfl <| Zd <| Zb <| JLa (.bool false) <| Za <| Zd <| Zd <| Zb <| JLm (.int .i64 k) <| Za <| Zs <| Zd <| Zd ?_
 refine Zb <| JLq (.bool (decide (k = 3))) (Pu.eql rfl rfl) <| JLa (.bool (decide (k = 3))) <| Za <| Zi (b := decide (k = 3)) rfl (fun h1 => ?_) (fun h1 => ?_)
 ·replace h1 := dt h1
  refine Zp <| Zi (b := decide (k = 3)) rfl (fun _ => ?_) (fun h2 => absurd h1 (df h2))
  refine Zd <| Zb <| JLm (.int .i64 n) <| JLq (.bool (decide (n = 1))) (Pu.eql rfl rfl) <| JLa (.bool (decide (n = 1))) <| Za <| Zl <| ⟨.bool (decide (n = 1)), [], Ret.one rfl (RV.tmp rfl), Sub.nil, ?_⟩
  exact ⟨by simp_all [kidsB], rfl⟩
 replace h1 := df h1
 refine Zd <| Zb <| JLq (.bool (decide (k = 9))) (Pu.eql rfl rfl) <| JLa (.bool (decide (k = 9))) <| Za <| Zi (b := decide (k = 9)) rfl (fun h3 => ?_) (fun h3 => ?_)
 ·replace h3 := dt h3
  refine Zp <| Zi (b := decide (k = 9)) rfl (fun _ => ?_) (fun h4 => absurd h3 (df h4))
  refine Zd <| Zb <| JLm (.int .i64 n) <| JLq (.bool (decide (n = 1))) (Pu.eql rfl rfl) <| JLa (.bool (decide (n = 1))) <| Za <| Zl <| ⟨.bool (decide (n = 1)), [], Ret.one rfl (RV.tmp rfl), Sub.nil, ?_⟩
  exact ⟨by simp_all [kidsB], rfl⟩
 replace h3 := df h3
 refine Zb <| JLq (.bool (decide (k = 11))) (Pu.eql rfl rfl) <| JLa (.bool (decide (k = 11))) <| Za <| Zi (b := decide (k = 11)) rfl (fun h5 => ?_) (fun h5 => ?_)
 ·replace h5 := dt h5
  refine Zd <| Zb <| JLm (.int .i64 n) <| JLq (.bool (decide (n = 1))) (Pu.eql rfl rfl) <| JLa (.bool (decide (n = 1))) <| Za <| Zl <| ⟨.bool (decide (n = 1)), [], Ret.one rfl (RV.tmp rfl), Sub.nil, ?_⟩
  exact ⟨by simp_all [kidsB], rfl⟩
 replace h5 := df h5
 refine Zd <| Zd <| Zb <| JLq (.bool (decide (k = 4))) (Pu.eql rfl rfl) <| JLa (.bool (decide (k = 4))) <| Za <| Zi (b := decide (k = 4)) rfl (fun h6 => ?_) (fun h6 => ?_)
 ·replace h6 := dt h6
  refine Zp <| Zi (b := decide (k = 4)) rfl (fun _ => ?_) (fun h7 => absurd h6 (df h7))
  refine Zd <| Zb <| JLm (.int .i64 n) <| JLq (.bool (decide (n = 2))) (Pu.eql rfl rfl) <| JLa (.bool (decide (n = 2))) <| Za <| Zl <| ⟨.bool (decide (n = 2)), [], Ret.one rfl (RV.tmp rfl), Sub.nil, ?_⟩
  exact ⟨by simp_all [kidsB], rfl⟩
 replace h6 := df h6
 refine Zd <| Zb <| JLq (.bool (decide (k = 5))) (Pu.eql rfl rfl) <| JLa (.bool (decide (k = 5))) <| Za <| Zi (b := decide (k = 5)) rfl (fun h8 => ?_) (fun h8 => ?_)
 ·replace h8 := dt h8
  refine Zp <| Zi (b := decide (k = 5)) rfl (fun _ => ?_) (fun h9 => absurd h8 (df h9))
  refine Zd <| Zb <| JLm (.int .i64 n) <| JLq (.bool (decide (n = 2))) (Pu.eql rfl rfl) <| JLa (.bool (decide (n = 2))) <| Za <| Zl <| ⟨.bool (decide (n = 2)), [], Ret.one rfl (RV.tmp rfl), Sub.nil, ?_⟩
  exact ⟨by simp_all [kidsB], rfl⟩
 replace h8 := df h8
 refine Zb <| JLq (.bool (decide (k = 10))) (Pu.eql rfl rfl) <| JLa (.bool (decide (k = 10))) <| Za <| Zi (b := decide (k = 10)) rfl (fun h10 => ?_) (fun h10 => ?_)
 ·replace h10 := dt h10
  refine Zd <| Zb <| JLm (.int .i64 n) <| JLq (.bool (decide (n = 2))) (Pu.eql rfl rfl) <| JLa (.bool (decide (n = 2))) <| Za <| Zl <| ⟨.bool (decide (n = 2)), [], Ret.one rfl (RV.tmp rfl), Sub.nil, ?_⟩
  exact ⟨by simp_all [kidsB], rfl⟩
 replace h10 := df h10
 refine Zd <| Zb <| JLq (.bool (decide (k = 8))) (Pu.eql rfl rfl) <| JLa (.bool (decide (k = 8))) <| Za <| Zi (b := decide (k = 8)) rfl (fun h11 => ?_) (fun h11 => ?_)
 ·replace h11 := dt h11
  refine Zd <| Zb <| JLm (.int .i64 n) <| JLq (.bool (decide (n ≤ 4))) (Pu.leq rfl rfl) <| JLa (.bool (decide (n ≤ 4))) <| Za <| Zl <| ⟨.bool (decide (n ≤ 4)), [], Ret.one rfl (RV.tmp rfl), Sub.nil, ?_⟩
  exact ⟨by simp_all [kidsB], rfl⟩
 replace h11 := df h11
 refine Zd <| Zb <| JLq (.bool (decide (k = 12))) (Pu.eql rfl rfl) <| JLa (.bool (decide (k = 12))) <| Za <| Zi (b := decide (k = 12)) rfl (fun h12 => ?_) (fun h12 => ?_)
 ·replace h12 := dt h12
  refine Zd <| Zb <| JLm (.int .i64 n) <| Zg rfl Tryz.call79 rfl (fun hin => Yc _ _ _ _) rfl ?_
  rintro _ _ ⟨rfl, rfl⟩
  refine JLq (.bool (!(decide (n < 2 ∨ 10 < n)))) (Pu.not rfl) <| JLa (.bool (!(decide (n < 2 ∨ 10 < n)))) <| Za <| Zl <| ⟨.bool (!(decide (n < 2 ∨ 10 < n))), [], Ret.one rfl (RV.tmp rfl), Sub.nil, ?_⟩
  exact ⟨by simp_all [kidsB], rfl⟩
 replace h12 := df h12
 refine Zp <| Zd <| Zb <| JLm (.int .i64 n) <| JLq (.bool (decide (n = 0))) (Pu.eql rfl rfl) <| JLa (.bool (decide (n = 0))) <| Za <| Zl <| ⟨.bool (decide (n = 0)), [], Ret.one rfl (RV.tmp rfl), Sub.nil, ?_⟩
 exact ⟨by simp_all [kidsB], rfl⟩
end Go.Proofs.YtmophpgiaiemhaaGreat.Hs
/-! Walks, printed by a program of this session's own (gen.py). -/
namespace Go.Proofs.YtmophpgiaiemhaaGreat.Hs
open Go Go.Proofs
set_option maxRecDepth 100000
set_option linter.unusedVariables false
set_option linter.unusedSimpArgs false
attribute [local irreducible] JL J CT wlo
theorem idxI_ct (g : Nat) (fs cv : List Value) (hcall : ∀ args w, (callFunc g args).run Tryz.prog w = .ok (.enter g args) w) (pr : Int → Bool) (l : List Int) (v : Value) (H : Heap) (hl : rdS RI 1 H v l) (hg : ∀ x ∈ l, ∀ h, Hle H h → CT Tryz.prog g ⟨fs ++ [.int .i64 x] ++ cv⟩ [] h (fun v N => v = .bool (pr x) ∧ N = [])) : CT Tryz.prog 139 ⟨[v, .func (.func g) ⟨fs⟩ ⟨cv⟩]⟩ [] H (fun v N => v = .int .i64 (fstI pr l 0) ∧ N = []) := by
 refine Zo Tryz.func139 rfl rfl <| Zd <| Zb <| JLa (.int .i64 0) <| Za <| Zd <| Zd <| Zb <| JLm v ?_
 obtain ⟨a1, cap1, hv1⟩ := hl.sl
 have hle1 := hl.le
 refine JLq (.int .i64 ((l.length : Int))) (Pu.lenSl Tryz.runUnderlying92 hv1) <| JLm (.int .i64 0) <| Za <| Zs <| ZU (fun k ρ M => ∃ (j : Nat), ρ 0 = v ∧ ρ 1 = .func (.func g) ⟨fs⟩ ⟨cv⟩ ∧ ρ 4 = .int .i64 0 ∧ ρ 7 = .int .i64 ((l.length : Int)) ∧ ρ 8 = .int .i64 ((j : Int)) ∧ Sub [] M ∧ j ≤ l.length ∧ fstI pr (l.drop j) j = fstI pr l 0 ∧ k = l.length - j) _ ⟨0, rfl, rfl, rfl, rfl, rfl, Sub.nil, Nat.zero_le _, rfl, rfl⟩ ?_
 rintro _ ρ2 _ ⟨j, e3, e4, e5, e6, e7, hm8, hj, hinv, rfl⟩
 obtain ⟨ρ9, rfl⟩ := Zc (uc e3 (uc e4 (uc e5 (uc e6 (uc e7 un)))))
 clear e3 e4 e5 e6 e7
 refine Z1 hm8 <| Zd <| Zb <| JLq (.bool (decide ((j : Int) < (l.length : Int)))) (Pu.lss rfl rfl) <| Za <| Zd <| Zi (b := decide ((j : Int) < (l.length : Int))) rfl (fun h10 => ?_) (fun h10 => ?_)
 ·replace h10 := dt h10
  have h10n : j < l.length := by omega
  have hlenl := hl.le
  refine Zp <| Zd <| Zs <| Zd <| Zb <| JLm (.int .i64 ((j : Int))) <| JLa (.int .i64 ((j : Int))) <| Za <| Zd <| Zb <| JLm (.func (.func g) ⟨fs⟩ ⟨cv⟩) <| JLm v <| JLm (.int .i64 ((j : Int))) ?_
  obtain ⟨b11, o11, cap11, row11, T11, fr11, cs11, hv11, hb11, hs11, hE11⟩ := hl.get j (by first | assumption | omega | decide | simp)
  refine JLq (.pointer (some ⟨b11, o11 + j * 1, none⟩)) (Pu.idx j Tryz.runUnderlying92 ty3 hv11 rfl rfl (by first | assumption | omega | decide | simp)) <| JLr (Zf ty3 rfl (At.im hb11) (Yp ((show cs11 = [Value.int .i64 (l[j])] from hE11) ▸ hs11)) <| Zg rfl hcall rfl (fun hin => hg _ (List.getElem_mem h10n) _ (Hle.hu _ _)) rfl ?_)
  rintro _ _ ⟨rfl, rfl⟩
  refine Za <| Zi (b := pr (l[j])) rfl (fun h12 => ?_) (fun h12 => ?_)
  ·refine Zd <| Zb <| JLm (.int .i64 ((j : Int))) <| JLa (.int .i64 ((j : Int))) <| Za <| Zl <| ⟨.int .i64 ((j : Int)), [], Ret.one rfl (RV.tmp rfl), Sub.nil, ?_⟩
   exact ⟨by rw [← hinv, Yt h10n, fstI, if_pos h12], rfl⟩
  refine Zp <| Zb <| JLq (.int .i64 (((j + 1 : Nat) : Int))) (Pu.inc rfl rfl (by omega)) <| JLm (.int .i64 (((j + 1 : Nat) : Int))) <| Za <| ⟨_, ?_, (j + 1), rfl, rfl, rfl, rfl, rfl, Sub.nil, ?_, ?_, rfl⟩
  ·omega
  ·omega
  rw [Yt h10n, fstI, if_neg (by simp [h12])] at hinv; exact hinv
 replace h10 := df h10
 have h10n : l.length ≤ j := by omega
 refine ZM _ rfl <| Zd <| Zb <| JLa (.int .i64 (-1)) <| Za <| Zl <| ⟨.int .i64 (-1), [], Ret.one rfl (RV.tmp rfl), Sub.nil, ?_⟩
 exact ⟨by rw [← hinv, Xl h10n]; rfl, rfl⟩
theorem containsI_ct (g : Nat) (fs cv : List Value) (hcall : ∀ args w, (callFunc g args).run Tryz.prog w = .ok (.enter g args) w) (pr : Int → Bool) (l : List Int) (v : Value) (H : Heap) (hl : rdS RI 1 H v l) (hg : ∀ x ∈ l, ∀ h, Hle H h → CT Tryz.prog g ⟨fs ++ [.int .i64 x] ++ cv⟩ [] h (fun v N => v = .bool (pr x) ∧ N = [])) : CT Tryz.prog 108 ⟨[v, .func (.func g) ⟨fs⟩ ⟨cv⟩]⟩ [] H (fun v N => v = .bool (l.any pr) ∧ N = []) := by
 refine Zo Tryz.func108 rfl rfl <| Zd <| Zb <| JLa (.bool false) <| Za <| Zd <| Zb <| JLm v <| JLm (.func (.func g) ⟨fs⟩ ⟨cv⟩) <| Zg rfl Tryz.call139 rfl (fun hin => idxI_ct g fs cv hcall pr _ _ _ (RIs.mono (Hle.hu _ _) hl) (fun x hx h hh => hg x hx h (Hle.trans (Hle.hu _ _) hh))) rfl ?_
 rintro _ _ ⟨rfl, rfl⟩
 refine JLq (.bool (decide (0 ≤ fstI pr l 0))) (Pu.geq rfl rfl) <| JLa (.bool (decide (0 ≤ fstI pr l 0))) <| Za <| Zl <| ⟨.bool (decide (0 ≤ fstI pr l 0)), [], Ret.one rfl (RV.tmp rfl), Sub.nil, ?_⟩
 exact ⟨by rw [← fstI_any pr l 0], rfl⟩
theorem every1_ct (g : Nat) (fs cv : List Value) (hcall : ∀ args w, (callFunc g args).run Tryz.prog w = .ok (.enter g args) w) (pr : Int → Bool) (x : Int) (H : Heap) (bP : Nat) (hP : H bP = some (.cells ⟨[.func (.func g) ⟨fs⟩ ⟨cv⟩]⟩ 109 (0, 0))) (hg : ∀ h, Hle H h → CT Tryz.prog g ⟨fs ++ [.int .i64 x] ++ cv⟩ [] h (fun v N => v = .bool (pr x) ∧ N = [])) : CT Tryz.prog 109 ⟨[.int .i64 x, .pointer (some ⟨bP, 0, none⟩)]⟩ [] H (fun v N => v = .bool (!pr x) ∧ N = []) := by
 refine Zo Tryz.func109 rfl rfl <| Zd <| Zb <| JLa (.bool false) <| Za <| Zd <| Zb <| JLr (Zf ty109 rfl (At.im hP) rfl <| JLm (.int .i64 x) <| Zg rfl hcall rfl (fun hin => hg _ (Hle.hu _ _)) rfl ?_)
 rintro _ _ ⟨rfl, rfl⟩
 refine JLq (.bool (!(pr x))) (Pu.not rfl) <| JLa (.bool (!(pr x))) <| Za <| Zl <| ⟨.bool (!(pr x)), [], Ret.one rfl (RV.tmp rfl), Sub.nil, ?_⟩
 exact ⟨rfl, rfl⟩
theorem every_ct (g : Nat) (fs cv : List Value) (hcall : ∀ args w, (callFunc g args).run Tryz.prog w = .ok (.enter g args) w) (pr : Int → Bool) (l : List Int) (v : Value) (H : Heap) (hl : rdS RI 1 H v l) (hg : ∀ x ∈ l, ∀ h, Hle H h → CT Tryz.prog g ⟨fs ++ [.int .i64 x] ++ cv⟩ [] h (fun v N => v = .bool (pr x) ∧ N = [])) : CT Tryz.prog 63 ⟨[v, .func (.func g) ⟨fs⟩ ⟨cv⟩]⟩ [] H (fun v N => v = .bool (l.all pr) ∧ N = []) := by
 refine Zo Tryz.func63 rfl rfl <| Zd <| Zb <| JLr (Zt (l := [.func (.func g) ⟨fs⟩ ⟨cv⟩]) rfl rfl fun b1 => JLa (.bool false) <| Za <| Zd <| Zb <| JLm v <| JLq (.func (.func 109) ⟨[]⟩ ⟨[.pointer (some ⟨b1, 0, none⟩)]⟩) (Pu.makeFunc rfl rfl) <| Zg rfl Tryz.call108 rfl (fun hin => containsI_ct 109 [] [.pointer (some ⟨b1, 0, none⟩)] Tryz.call109 (fun x => !pr x) _ _ _ (RIs.mono (Hle.hu _ _) hl) (fun x hx h hh => every1_ct g fs cv hcall pr x h b1 (hh _ _ (hin 0 _ rfl _ _ List.mem_cons_self)) (fun h2 hh2 => hg x hx h2 (Hle.trans (Hle.trans (Hle.hu _ _) hh) hh2)))) rfl ?_)
 rintro _ _ ⟨rfl, rfl⟩
 refine JLq (.bool (!(l.any (fun x => !pr x)))) (Pu.not rfl) <| JLa (.bool (!(l.any (fun x => !pr x)))) <| Za <| Zl <| ⟨.bool (!(l.any (fun x => !pr x))), [], Ret.one rfl (RV.tmp rfl), Sub.nil, ?_⟩
 exact ⟨by simp [List.not_any_eq_all_not], rfl⟩
theorem shiftO_ct (n dy fr : Int) (H : Heap) (bF bD : Nat) (hF : H bF = some (.cells ⟨[.int .i64 fr]⟩ 3 (0, 0))) (hD : H bD = some (.cells ⟨[.int .i64 dy]⟩ 3 (0, 0))) (hn0 : 0 ≤ n) (hn1 : n ≤ 60) (hd0 : -60 ≤ dy) (hd1 : dy ≤ 60) : CT Tryz.prog 95 ⟨[.int .i64 n, .pointer (some ⟨bF, 0, none⟩), .pointer (some ⟨bD, 0, none⟩)]⟩ [] H (fun v N => v = .bool (mvOk dy fr n) ∧ N = []) := by
 refine Zo Tryz.func95 rfl rfl <| Zd <| Zb <| JLa (.bool false) <| Za <| Zd <| Zb <| JLm (.int .i64 n) <| JLr (Zf ty3 rfl (At.im hF) rfl <| JLq (.bool (decide (n < fr))) (Pu.lss rfl rfl) <| JLm (.bool (decide (n < fr))) ?_)
 cases h1 : (decide (n < fr)) with
 | true =>
  replace h1 := dt h1
  iterate 6 refine Zy rfl ?_
  refine JLq (.bool true) (Pu.pickT rfl rfl) <| JLa (.bool true) <| Za <| Zl <| ⟨.bool true, [], Ret.one rfl (RV.tmp rfl), Sub.nil, ?_⟩
  exact ⟨by simp only [mvOk]; simp_all <;> omega, rfl⟩
 | false =>
  replace h1 := df h1
  refine JLm (.int .i64 n) <| JLr (Zf ty3 rfl (At.im hD) rfl <| JLq (.int .i64 (n + dy)) (Pu.add64 rfl rfl (by first | omega | (constructor <;> omega))) <| JLr (Zf ty3 rfl (At.im hF) rfl <| Zg rfl Tryz.call79 rfl (fun hin => Yc _ _ _ _) rfl ?_))
  rintro _ _ ⟨rfl, rfl⟩
  refine JLq (.bool (!(decide (n + dy < fr ∨ 59 < n + dy)))) (Pu.not rfl) <| JLq (.bool (!(decide (n + dy < fr ∨ 59 < n + dy)))) (Pu.pickF rfl rfl) <| JLa (.bool (!(decide (n + dy < fr ∨ 59 < n + dy)))) <| Za <| Zl <| ⟨.bool (!(decide (n + dy < fr ∨ 59 < n + dy))), [], Ret.one rfl (RV.tmp rfl), Sub.nil, ?_⟩
  exact ⟨by simp only [mvOk]; simp_all <;> omega, rfl⟩
theorem freeV_ct (n b : Int) (s : List Int) (r : Nat) (H : Heap) (bM : Nat) (hM : H bM = some (.cells ⟨[.map (some r)]⟩ 176 (0, 0))) (hn0 : 0 ≤ n) (hn1 : n ≤ 2000000) (hb0 : 0 ≤ b) (hb1 : b ≤ 2000000) : CT Tryz.prog 131 ⟨[.int .i64 n, .int .i64 b, .pointer (some ⟨bM, 0, none⟩)]⟩ [metC r s] H (fun v N => ∃ cs k, v = .agg ⟨cs⟩ ∧ N = [k, metC r (metV n b s).2] ∧ OT (metV n b s).1 cs k) := by
 refine Zo Tryz.func131 rfl rfl <| Zd <| Zb <| JLr (Zj (l := pkT 0 0 zS (.slice none 0 0) (.slice none 0 0)) Tryz.zeroValue27 rfl fun b1 => Za <| Zd <| Zb <| JLr (Zf ty176 rfl (At.im hM) rfl <| JLm (.int .i64 n) <| JLr (Runs_mapUpdate (i := 1) Tryz.underlying176 Tryz.underlying3 rfl rfl rfl rfl <| Za <| Zd <| Zb ?_)))
 refine JLm (.int .i64 n) <| JLm (.int .i64 b) <| Zg rfl Tryz.call83 rfl (fun hin => stay_ct _ _ _ (by unfold inI; omega)) rfl ?_
 rintro _ _ ⟨cs2, k2, rfl, rfl, hO2⟩
 refine JLr (Ze 1 (vs := cs2) (l := cs2) Zu rfl rfl rfl rfl hO2.len hO2.ok (ZL (n := 36) rfl hO2.len) <| Za <| Zl <| ⟨.agg ⟨cs2⟩, [k2, metC r (addK s n)], Ret.one rfl (RV.cell Zu rfl (At.bx 1 rfl) (Zx hO2.len)), (Sk (Sd (Sk Sub.nil))), ?_⟩)
 exact ⟨_, _, rfl, rfl, hO2⟩
theorem freeP_ct (t : Tm) (cs : List Value) (H : Heap) (ht : RT H cs t) (hz : sizeT t ≤ 900000) (hv : vOK t) : CT Tryz.prog 94 ⟨[.agg ⟨cs⟩]⟩ [] H (fun v N => ∃ u k, v = u ∧ N = [k] ∧ Own 3 1 u (ints (Xj t)) k) := by
 refine Zo Tryz.func94 rfl rfl <| Zd <| Zb <| JLr (Zt (l := cs) rfl rfl fun b1 => JLa (.slice none 0 0) <| Za <| Zd <| Zb <| JLr (Runs_makeMap fun r2 => JLr (Zj (l := [.map none]) Tryz.zeroValue176 rfl fun b3 => JLr (Ze 0 (vs := [.map (some r2)]) (l := [.map (some r2)]) ty176 rfl rfl rfl rfl rfl (Zm rfl Zv) rfl <| Za <| Zd ?_))))
 refine Zb <| JLq (.func (.func 131) ⟨[]⟩ ⟨[.pointer (some ⟨b3, 0, none⟩)]⟩) (Pu.makeFunc rfl rfl) <| JLq (.agg ⟨[.func (.func 131) ⟨[]⟩ ⟨[.pointer (some ⟨b3, 0, none⟩)]⟩, .func (.func 84) ⟨[]⟩ ⟨[]⟩]⟩) (Pu.build (pv := [(0, .func (.func 131) ⟨[]⟩ ⟨[.pointer (some ⟨b3, 0, none⟩)]⟩), (1, .func (.func 84) ⟨[]⟩ ⟨[]⟩)]) (l := [.func (.func 131) ⟨[]⟩ ⟨[.pointer (some ⟨b3, 0, none⟩)]⟩, .func (.func 84) ⟨[]⟩ ⟨[]⟩]) rfl (bld136_0_1 _ _ _ _ _ _)) <| JLr (Zh Zu rfl (At.bx 2 rfl) (Zx (ZD ht)) <| Zw 1 rfl Tryz.call85 rfl rfl (fun hin => mapTerm_ct 84 [] [] Tryz.call84 (fun s => s) 131 [] [.pointer (some ⟨b3, 0, none⟩)] Tryz.call131 (List Int) (metC r2) (fun _ => True) metV (fun _ _ _ _ => trivial) _ _ _ _ _ (RT.mono (Hle.hu _ _) ht) (by omega) hv (by decide) (by omega) trivial (fun s h hh => same_ct s h) (fun n b s h hh _ h1 h2 h3 h4 => freeV_ct n b s r2 h b3 (hh _ _ (hin 0 _ rfl _ _ List.mem_cons_self)) h1 h2 h3 h4)) rfl ?_)
 rintro _ _ ⟨cs4, k4, rfl, rfl, hO4⟩
 refine Za <| Zd <| Zb <| JLa (.slice none 0 0) <| Za <| Zd <| Zd <| Zb <| JLm (.int .i64 0) <| Za <| Zs <| ZU (fun k ρ M => ∃ (j : Nat) (v : Value) (k1 : Zk), ρ 2 = .slice none 0 0 ∧ ρ 3 = .pointer (some ⟨b3, 0, none⟩) ∧ ρ 4 = v ∧ ρ 11 = .int .i64 ((j : Int)) ∧ Sub [k1, metC r2 (metT t), [(b3, .cells ⟨[.map (some r2)]⟩ 176 (0, 0))]] M ∧ j ≤ 60 ∧ Own 3 1 v (ints (upTo (metF (metT t)) j)) k1 ∧ k = 60 - j) _ ⟨0, (.slice none 0 0), [], rfl, rfl, rfl, rfl, (Sub.emp (Sd (Sk (Sk Sub.nil)))), Nat.zero_le _, Own.nil, rfl⟩ ?_
 rintro _ ρ5 _ ⟨j, v, k1, e6, e7, e8, e9, hm10, hj, ho, rfl⟩
 obtain ⟨ρ11, rfl⟩ := Zc (uc e6 (uc e7 (uc e8 (uc e9 un))))
 clear e6 e7 e8 e9
 refine Z1 hm10 <| Zd <| Zb <| JLq (.bool (decide ((j : Int) < 60))) (Pu.lss rfl rfl) <| Za <| Zd <| Zi (b := decide ((j : Int) < 60)) rfl (fun h12 => ?_) (fun h12 => ?_)
 ·replace h12 := dt h12
  have h12n : j < 60 := by omega
  have hul := upTo_len (metF (metT t)) j
  have hil := ints_len (upTo (metF (metT t)) j)
  have hge := metF_get (metT t) j h12n
  refine Zp <| Zd <| Zs <| Zd <| Zb <| JLm (.int .i64 ((j : Int))) <| JLa (.int .i64 ((j : Int))) <| Za <| Zd <| Zb <| JLr (Zf ty176 rfl (At.bx 2 rfl) rfl <| JLm (.int .i64 ((j : Int))) <| JLr (Runs_lookup (i := 1) Tryz.underlying176 Tryz.underlying3 Tryz.zeroValue4 rfl rfl rfl ?_))
  refine Za <| Zi (b := decide ((j : Int) ∈ (metT t))) rfl (fun h13 => ?_) (fun h13 => ?_)
  ·replace h13 := dt h13
   refine Zb <| JLm v <| JLm (.int .i64 ((j : Int))) <| JLr (Zr (vs := [.int .i64 ((j : Int))]) [[.int .i64 ((j : Int))]] Tryz.runUnderlying92 el3 rfl rfl (by intro e he; simp only [List.mem_cons, List.not_mem_nil, or_false] at he; subst he; exact rfl) rfl (by decide) fun b14 k14 ho14 hk14 => ?_)
   have hlens15 : ∀ e ∈ ([[.int .i64 ((j : Int))]] : List (List Value)), List.length e = 1 := by
    intro e he; simp only [List.mem_cons, List.not_mem_nil, or_false] at he
    rcases he with rfl
    ·exact rfl
   have hoks15 : ∀ e ∈ ([[.int .i64 ((j : Int))]] : List (List Value)), okc e := by
    intro e he; simp only [List.mem_cons, List.not_mem_nil, or_false] at he
    rcases he with rfl
    ·exact (Zm rfl Zv)
   refine JLr (ZH (i := 1) (n := 1) (es' := [[.int .i64 ((j : Int))]]) Tryz.runUnderlying92 Tryz.runUnderlying92 (Or.inl rfl) el3 rfl rfl rfl ho (fun F w m => Src.row (((At.k 0 rfl (by rw [hk14]; exact List.mem_cons_self))).heap m) (Zx (ZG hlens15))) rfl hlens15 hoks15 (by decide) (by omega) fun v15 k15 ho15 => JLa v15 <| Za <| Zb <| JLq (.int .i64 (((j + 1 : Nat) : Int))) (Pu.inc rfl rfl (by omega)) <| JLm (.int .i64 (((j + 1 : Nat) : Int))) <| Za <| ⟨_, ?_, (j + 1), v15, k15, rfl, rfl, rfl, rfl, (Sd (Sk (Sk (Sk Sub.nil)))), ?_, ?_, rfl⟩)
   ·omega
   ·omega
   rw [upTo_succ, hge, if_pos (by simp [h13]), ints_snoc]; exact ho15
  replace h13 := df h13
  refine Zp <| Zb <| JLq (.int .i64 (((j + 1 : Nat) : Int))) (Pu.inc rfl rfl (by omega)) <| JLm (.int .i64 (((j + 1 : Nat) : Int))) <| Za <| ⟨_, ?_, (j + 1), v, k1, rfl, rfl, rfl, rfl, (Sk (Sk (Sk Sub.nil))), ?_, ?_, rfl⟩
  ·omega
  ·omega
  rw [upTo_succ, hge, if_neg (by simp [h13])]; exact ho
 replace h12 := df h12
 have h12n : 60 ≤ j := by omega
 refine ZM _ rfl <| Zd <| Zb <| JLm v <| JLa v <| Za <| Zl <| ⟨v, [k1], Ret.one rfl (RV.tmp rfl), (Sk Sub.nil), ?_⟩
 obtain rfl : j = 60 := by omega
 exact ⟨v, k1, rfl, rfl, ho⟩
end Go.Proofs.YtmophpgiaiemhaaGreat.Hs
/-! Walks, printed by a program of this session's own (gen.py). -/
namespace Go.Proofs.YtmophpgiaiemhaaGreat.Hs
open Go Go.Proofs
set_option maxRecDepth 100000
set_option linter.unusedVariables false
set_option linter.unusedSimpArgs false
attribute [local irreducible] JL J CT wlo
theorem patternError_ct (kind num : Int) (ref : Sm) (ks : Value) (kids : List Pt) (H : Heap) (hks : rdS RP 35 H ks kids) : CT Tryz.prog 161 ⟨[.agg ⟨pkP kind num ref ks⟩]⟩ [] H (fun v N => v = .int .i64 (pErr kind num ref kids.length) ∧ N = []) := by
 refine Zo Tryz.func161 rfl rfl <| Zd <| Zb <| JLr (Zt (l := pkP kind num ref ks) rfl rfl fun b1 => JLa (.int .i64 0) <| Za <| Zd <| Zb <| JLa (.int .i64 0) <| Za <| Zd <| Zd <| Zb ?_)
 refine JLq (.pointer (some ⟨b1, 0, none⟩)) (Y6 rfl rfl) <| JLr (Zf ty3 rfl (At.bx 0 rfl) (pkP_0 ..) <| JLq (.bool (decide (kind = 3))) (Pu.eql rfl rfl) <| Za <| Zi (b := decide (kind = 3)) rfl (fun h2 => ?_) (fun h2 => ?_))
 ·replace h2 := dt h2
  refine Zb <| JLa (.int .i64 4) <| Za <| Zd <| Zs <| Zd <| Zb <| JLq (.pointer (some ⟨b1, 0, none⟩)) (Y6 rfl rfl) <| JLr (Zf ty3 rfl (At.bx 0 rfl) (pkP_0 ..) <| Zg rfl Tryz.call79 rfl (fun hin => Yc _ _ _ _) rfl ?_)
  rintro _ _ ⟨rfl, rfl⟩
  refine JLa (.bool (decide (kind < 1 ∨ 3 < kind))) <| Za <| Zi (b := decide (kind < 1 ∨ 3 < kind)) rfl (fun h3 => ?_) (fun h3 => ?_)
  ·replace h3 := dt h3
   refine Zd <| Zb <| JLa (.int .i64 3) <| Za <| Zl <| ⟨.int .i64 3, [], Ret.one rfl (RV.tmp rfl), Sub.nil, ?_⟩
   exact ⟨by refine congrArg (Value.int .i64) ?_; simp only [pErr]; (repeat' split) <;> first | rfl | omega | (exfalso; simp_all; done) | (exfalso; simp_all; omega) | grind, rfl⟩
  replace h3 := df h3
  refine Zd <| Ya mixed #[0, 1, 3, 0, 8, 0, 32, 127, 255] 7 7 1 rfl (by kernel_rfl) (fun i r4 N4 => match i with | 0 => (r4 0) = .pointer (some ⟨b1, 0, none⟩) | 1 => (r4 1) = .int .i64 kind | 2 => (r4 2) = .agg ⟨[.bool (pfN kind), .bool (pfR kind), .bool false]⟩ | 3 => (r4 3) = .pointer (some ⟨b1, 1, none⟩) | 4 => (r4 4) = .int .i64 num | 5 => (r4 5) = .pointer (some ⟨b1, 2, none⟩) | 6 => (r4 6) = .agg ⟨sC ref⟩ | _ => True) ⟨?_, ?_, ?_, ?_, ?_, ?_, ?_, trivial⟩ ?_
  ·intro ρ r4 N4 B hB hBa hp hr hr0
   obtain ⟨ρ5, rfl⟩ := Zc (uc (show ρ 1 = .pointer (some ⟨b1, 0, none⟩) from hr0 1 (by kernel_rfl)) un)
   refine JLq (.pointer (some ⟨b1, 0, none⟩)) (Y6 rfl rfl) <| Za ?_
   exact ⟨.pointer (some ⟨b1, 0, none⟩), [], rfl, (Sub.emp Sub.refl), rfl⟩
  ·intro ρ r4 N4 B hB hBa hp hr hr0
   obtain ⟨ρ6, rfl⟩ := Zc (uc (show ρ 12 = .pointer (some ⟨b1, 0, none⟩) from (hr 0 _ _ (by decide) rfl rfl rfl).trans (hp 0 (by decide) rfl)) un)
   refine JLr (Zf ty3 rfl (At.bx 7 (Zn ((hB 0 (by decide)).trans rfl))) (pkP_0 ..) <| Za ?_)
   exact ⟨.int .i64 kind, [], rfl, (Sub.emp Sub.refl), rfl⟩
  ·intro ρ r4 N4 B hB hBa hp hr hr0
   obtain ⟨ρ7, rfl⟩ := Zc (uc (show ρ 13 = .int .i64 kind from (hr 1 _ _ (by decide) rfl rfl rfl).trans (hp 1 (by decide) rfl)) un)
   refine Zg rfl Tryz.call169 rfl (fun hin => patternFields_ct _ _) rfl ?_
   rintro _ _ ⟨rfl, rfl⟩
   refine Za ?_
   exact ⟨.agg ⟨[.bool (pfN kind), .bool (pfR kind), .bool false]⟩, [], rfl, (Sub.emp Sub.refl), rfl⟩
  ·intro ρ r4 N4 B hB hBa hp hr hr0
   obtain ⟨ρ8, rfl⟩ := Zc (uc (show ρ 1 = .pointer (some ⟨b1, 0, none⟩) from hr0 1 (by kernel_rfl)) un)
   refine JLq (.pointer (some ⟨b1, 1, none⟩)) (fa75_1 rfl rfl) <| Za ?_
   exact ⟨.pointer (some ⟨b1, 1, none⟩), [], rfl, (Sub.emp Sub.refl), rfl⟩
  ·intro ρ r4 N4 B hB hBa hp hr hr0
   obtain ⟨ρ9, rfl⟩ := Zc (uc (show ρ 15 = .pointer (some ⟨b1, 1, none⟩) from (hr 3 _ _ (by decide) rfl rfl rfl).trans (hp 3 (by decide) rfl)) un)
   refine JLr (Zf ty3 rfl (At.bx 7 (Zn ((hB 0 (by decide)).trans rfl))) (pkP_1 ..) <| Za ?_)
   exact ⟨.int .i64 num, [], rfl, (Sub.emp Sub.refl), rfl⟩
  ·intro ρ r4 N4 B hB hBa hp hr hr0
   obtain ⟨ρ10, rfl⟩ := Zc (uc (show ρ 1 = .pointer (some ⟨b1, 0, none⟩) from hr0 1 (by kernel_rfl)) un)
   refine JLq (.pointer (some ⟨b1, 2, none⟩)) (fa75_2 rfl rfl) <| Za ?_
   exact ⟨.pointer (some ⟨b1, 2, none⟩), [], rfl, (Sub.emp Sub.refl), rfl⟩
  ·intro ρ r4 N4 B hB hBa hp hr hr0
   obtain ⟨ρ11, rfl⟩ := Zc (uc (show ρ 17 = .pointer (some ⟨b1, 2, none⟩) from (hr 5 _ _ (by decide) rfl rfl rfl).trans (hp 5 (by decide) rfl)) un)
   refine JLr (Zh Xb rfl (At.bx 7 (Zn ((hB 0 (by decide)).trans rfl))) (pkP_2 ..) <| Za ?_)
   exact ⟨.agg ⟨sC ref⟩, [], rfl, (Sub.emp Sub.refl), rfl⟩
  intro ρ r4 N4 hp hr hr0
  obtain ⟨ρ12, rfl⟩ := Zc (uc (show ρ 1 = .pointer (some ⟨b1, 0, none⟩) from hr0 1 (by kernel_rfl)) (uc (show ρ 2 = .int .i64 0 from hr0 2 (by kernel_rfl)) (uc (show ρ 3 = .int .i64 4 from hr0 3 (by kernel_rfl)) (uc (show ρ 14 = .agg ⟨[.bool (pfN kind), .bool (pfR kind), .bool false]⟩ from (hr 2 _ _ (by decide) rfl rfl).trans (hp 2 (by decide))) (uc (show ρ 16 = .int .i64 num from (hr 4 _ _ (by decide) rfl rfl).trans (hp 4 (by decide))) (uc (show ρ 18 = .agg ⟨sC ref⟩ from (hr 6 _ _ (by decide) rfl rfl).trans (hp 6 (by decide))) un))))))
  clear hp hr hr0 
  refine Zq (M' := [(N4 0), (N4 1), (N4 2), (N4 3), (N4 4), (N4 5), (N4 6), [(b1, .cells ⟨pkP kind num ref ks⟩ 75 (0, 0))]]) Sub.refl <| Zq (M' := [[(b1, .cells ⟨pkP kind num ref ks⟩ 75 (0, 0))]]) (Sd (Sd (Sd (Sd (Sd (Sd (Sd (Sk Sub.nil)))))))) ?_
  show JL _ _ _ [_, _] _ _ _
  refine Zg rfl Tryz.call158 rfl (fun hin => clash_ct _ _ _ _ _ _ _) rfl ?_
  rintro _ _ ⟨rfl, rfl⟩
  refine JLa (.bool (clashB (pfN kind) (pfR kind) false num ref 0)) <| Za <| Zi (b := clashB (pfN kind) (pfR kind) false num ref 0) rfl (fun h13 => ?_) (fun h13 => ?_)
  ·refine Zd <| Zb <| JLa (.int .i64 7) <| Za <| Zl <| ⟨.int .i64 7, [], Ret.one rfl (RV.tmp rfl), Sub.nil, ?_⟩
   exact ⟨by refine congrArg (Value.int .i64) ?_; simp only [pErr]; (repeat' split) <;> first | rfl | omega | (exfalso; simp_all; done) | (exfalso; simp_all; omega) | grind, rfl⟩
  refine Zd <| Zb <| JLq (.pointer (some ⟨b1, 34, none⟩)) (YO rfl rfl) <| JLr (Zf ty73 rfl (At.bx 0 rfl) (Xf ..) ?_)
  obtain ⟨a14, cap14, hv14⟩ := hks.sl
  have hle14 := hks.le
  refine JLq (.int .i64 ((kids.length : Int))) (Pu.lenSl Tryz.runUnderlying73 hv14) <| JLm (.int .i64 4) <| JLq (.bool (decide (4 < (kids.length : Int)))) (Pu.gtr rfl rfl) <| JLa (.bool (decide (4 < (kids.length : Int)))) <| Za <| Zi (b := decide (4 < (kids.length : Int))) rfl (fun h15 => ?_) (fun h15 => ?_)
  ·replace h15 := dt h15
   refine Zd <| Zb <| JLa (.int .i64 2) <| Za <| Zl <| ⟨.int .i64 2, [], Ret.one rfl (RV.tmp rfl), Sub.nil, ?_⟩
   exact ⟨by refine congrArg (Value.int .i64) ?_; simp only [pErr]; (repeat' split) <;> first | rfl | omega | (exfalso; simp_all; done) | (exfalso; simp_all; omega) | grind, rfl⟩
  replace h15 := df h15
  refine Zd <| Yo (fun ρ M => ρ 1 = .pointer (some ⟨b1, 0, none⟩) ∧ ρ 2 = .int .i64 0 ∧ ρ 26 = .bool ((decide (kind = 2)) && (decide (num < 0 ∨ 1073741824 < num))) ∧ M = [[(b1, .cells ⟨pkP kind num ref ks⟩ 75 (0, 0))]]) ?_ ?_
  ·refine Zb <| JLq (.pointer (some ⟨b1, 0, none⟩)) (Y6 rfl rfl) <| JLr (Zf ty3 rfl (At.bx 0 rfl) (pkP_0 ..) <| JLq (.bool (decide (kind = 2))) (Pu.eql rfl rfl) <| JLm (.bool (decide (kind = 2))) ?_)
   cases h16 : (decide (kind = 2)) with
   | true =>
    replace h16 := dt h16
    refine JLq (.pointer (some ⟨b1, 1, none⟩)) (fa75_1 rfl rfl) <| JLr (Zf ty3 rfl (At.bx 0 rfl) (pkP_1 ..) <| Zg rfl Tryz.call79 rfl (fun hin => Yc _ _ _ _) rfl ?_)
    rintro _ _ ⟨rfl, rfl⟩
    refine JLq (.bool (decide (num < 0 ∨ 1073741824 < num))) (Pu.pickT rfl rfl) <| JLa (.bool (decide (num < 0 ∨ 1073741824 < num))) <| Za ?_
    first | exact ⟨rfl, rfl, rfl, rfl⟩ | (exfalso; omega)
   | false =>
    replace h16 := df h16
    iterate 3 refine Zy rfl ?_
    refine JLq (.bool false) (Pu.pickF rfl rfl) <| JLa (.bool false) <| Za ?_
    first | exact ⟨rfl, rfl, rfl, rfl⟩ | (exfalso; omega)
  rintro ρ17 _ ⟨e18, e19, e20, rfl⟩
  obtain ⟨ρ21, rfl⟩ := Zc (uc e18 (uc e19 (uc e20 un)))
  clear e18 e19 e20
  refine Zi (b := (decide (kind = 2)) && (decide (num < 0 ∨ 1073741824 < num))) rfl (fun h22 => ?_) (fun h22 => ?_)
  ·obtain ⟨h22a, h22b⟩ := andT h22
   replace h22a := dt h22a
   replace h22b := dt h22b
   refine Zp <| Zi (b := (decide (kind = 2)) && (decide (num < 0 ∨ 1073741824 < num))) rfl (fun h23 => ?_) (fun h23 => ?_)
   ·obtain ⟨h23a, h23b⟩ := andT h23
    replace h23a := dt h23a
    replace h23b := dt h23b
    refine Zd <| Zb <| JLa (.int .i64 3) <| Za <| Zl <| ⟨.int .i64 3, [], Ret.one rfl (RV.tmp rfl), Sub.nil, ?_⟩
    exact ⟨by refine congrArg (Value.int .i64) ?_; simp only [pErr]; (repeat' split) <;> first | rfl | omega | (exfalso; simp_all; done) | (exfalso; simp_all; omega) | grind, rfl⟩
   refine Zp <| Zd <| Zb <| JLa (.int .i64 0) <| Za <| Zl <| ⟨.int .i64 0, [], Ret.one rfl (RV.tmp rfl), Sub.nil, ?_⟩
   exact ⟨by refine congrArg (Value.int .i64) ?_; simp only [pErr]; (repeat' split) <;> first | rfl | omega | (exfalso; simp_all; done) | (exfalso; simp_all; omega) | grind, rfl⟩
  refine J_weak (N := fun ρ M => ρ 2 = .int .i64 0 ∧ ρ 26 = .bool ((decide (kind = 3)) && (decide (num < 0 ∨ 7 < num))) ∧ M = [[(b1, .cells ⟨pkP kind num ref ks⟩ 75 (0, 0))]]) ?_ ?_
  ·refine Zb <| JLq (.pointer (some ⟨b1, 0, none⟩)) (Y6 rfl rfl) <| JLr (Zf ty3 rfl (At.bx 0 rfl) (pkP_0 ..) <| JLq (.bool (decide (kind = 3))) (Pu.eql rfl rfl) <| JLm (.bool (decide (kind = 3))) ?_)
   cases h24 : (decide (kind = 3)) with
   | true =>
    replace h24 := dt h24
    refine JLq (.pointer (some ⟨b1, 1, none⟩)) (fa75_1 rfl rfl) <| JLr (Zf ty3 rfl (At.bx 0 rfl) (pkP_1 ..) <| Zg rfl Tryz.call79 rfl (fun hin => Yc _ _ _ _) rfl ?_)
    rintro _ _ ⟨rfl, rfl⟩
    refine JLq (.bool (decide (num < 0 ∨ 7 < num))) (Pu.pickT rfl rfl) <| JLa (.bool (decide (num < 0 ∨ 7 < num))) <| Za ?_
    first | exact ⟨rfl, rfl, rfl⟩ | (exfalso; omega)
   | false =>
    replace h24 := df h24
    iterate 3 refine Zy rfl ?_
    refine JLq (.bool false) (Pu.pickF rfl rfl) <| JLa (.bool false) <| Za ?_
    first | exact ⟨rfl, rfl, rfl⟩ | (exfalso; omega)
  rintro ρ25 _ ⟨e26, e27, rfl⟩
  obtain ⟨ρ28, rfl⟩ := Zc (uc e26 (uc e27 un))
  clear e26 e27
  refine Zi (b := (decide (kind = 3)) && (decide (num < 0 ∨ 7 < num))) rfl (fun h29 => ?_) (fun h29 => ?_)
  ·obtain ⟨h29a, h29b⟩ := andT h29
   replace h29a := dt h29a
   replace h29b := dt h29b
   refine Zd <| Zb <| JLa (.int .i64 3) <| Za <| Zl <| ⟨.int .i64 3, [], Ret.one rfl (RV.tmp rfl), Sub.nil, ?_⟩
   exact ⟨by refine congrArg (Value.int .i64) ?_; simp only [pErr]; (repeat' split) <;> first | rfl | omega | (exfalso; simp_all; done) | (exfalso; simp_all; omega) | grind, rfl⟩
  refine Zp <| Zd <| Zb <| JLa (.int .i64 0) <| Za <| Zl <| ⟨.int .i64 0, [], Ret.one rfl (RV.tmp rfl), Sub.nil, ?_⟩
  exact ⟨by refine congrArg (Value.int .i64) ?_; simp only [pErr]; (repeat' split) <;> first | rfl | omega | (exfalso; simp_all; done) | (exfalso; simp_all; omega) | grind, rfl⟩
 replace h2 := df h2
 refine Zp <| Zd <| Zs <| Zd <| Zb <| JLq (.pointer (some ⟨b1, 0, none⟩)) (Y6 rfl rfl) <| JLr (Zf ty3 rfl (At.bx 0 rfl) (pkP_0 ..) <| Zg rfl Tryz.call79 rfl (fun hin => Yc _ _ _ _) rfl ?_)
 rintro _ _ ⟨rfl, rfl⟩
 refine JLa (.bool (decide (kind < 1 ∨ 3 < kind))) <| Za <| Zi (b := decide (kind < 1 ∨ 3 < kind)) rfl (fun h30 => ?_) (fun h30 => ?_)
 ·replace h30 := dt h30
  refine Zd <| Zb <| JLa (.int .i64 3) <| Za <| Zl <| ⟨.int .i64 3, [], Ret.one rfl (RV.tmp rfl), Sub.nil, ?_⟩
  exact ⟨by refine congrArg (Value.int .i64) ?_; simp only [pErr]; (repeat' split) <;> first | rfl | omega | (exfalso; simp_all; done) | (exfalso; simp_all; omega) | grind, rfl⟩
 replace h30 := df h30
 refine Zd <| Ya mixed #[0, 1, 3, 0, 8, 0, 32, 127, 255] 7 7 1 rfl (by kernel_rfl) (fun i r31 N31 => match i with | 0 => (r31 0) = .pointer (some ⟨b1, 0, none⟩) | 1 => (r31 1) = .int .i64 kind | 2 => (r31 2) = .agg ⟨[.bool (pfN kind), .bool (pfR kind), .bool false]⟩ | 3 => (r31 3) = .pointer (some ⟨b1, 1, none⟩) | 4 => (r31 4) = .int .i64 num | 5 => (r31 5) = .pointer (some ⟨b1, 2, none⟩) | 6 => (r31 6) = .agg ⟨sC ref⟩ | _ => True) ⟨?_, ?_, ?_, ?_, ?_, ?_, ?_, trivial⟩ ?_
 ·intro ρ r31 N31 B hB hBa hp hr hr0
  obtain ⟨ρ32, rfl⟩ := Zc (uc (show ρ 1 = .pointer (some ⟨b1, 0, none⟩) from hr0 1 (by kernel_rfl)) un)
  refine JLq (.pointer (some ⟨b1, 0, none⟩)) (Y6 rfl rfl) <| Za ?_
  exact ⟨.pointer (some ⟨b1, 0, none⟩), [], rfl, (Sub.emp Sub.refl), rfl⟩
 ·intro ρ r31 N31 B hB hBa hp hr hr0
  obtain ⟨ρ33, rfl⟩ := Zc (uc (show ρ 12 = .pointer (some ⟨b1, 0, none⟩) from (hr 0 _ _ (by decide) rfl rfl rfl).trans (hp 0 (by decide) rfl)) un)
  refine JLr (Zf ty3 rfl (At.bx 7 (Zn ((hB 0 (by decide)).trans rfl))) (pkP_0 ..) <| Za ?_)
  exact ⟨.int .i64 kind, [], rfl, (Sub.emp Sub.refl), rfl⟩
 ·intro ρ r31 N31 B hB hBa hp hr hr0
  obtain ⟨ρ34, rfl⟩ := Zc (uc (show ρ 13 = .int .i64 kind from (hr 1 _ _ (by decide) rfl rfl rfl).trans (hp 1 (by decide) rfl)) un)
  refine Zg rfl Tryz.call169 rfl (fun hin => patternFields_ct _ _) rfl ?_
  rintro _ _ ⟨rfl, rfl⟩
  refine Za ?_
  exact ⟨.agg ⟨[.bool (pfN kind), .bool (pfR kind), .bool false]⟩, [], rfl, (Sub.emp Sub.refl), rfl⟩
 ·intro ρ r31 N31 B hB hBa hp hr hr0
  obtain ⟨ρ35, rfl⟩ := Zc (uc (show ρ 1 = .pointer (some ⟨b1, 0, none⟩) from hr0 1 (by kernel_rfl)) un)
  refine JLq (.pointer (some ⟨b1, 1, none⟩)) (fa75_1 rfl rfl) <| Za ?_
  exact ⟨.pointer (some ⟨b1, 1, none⟩), [], rfl, (Sub.emp Sub.refl), rfl⟩
 ·intro ρ r31 N31 B hB hBa hp hr hr0
  obtain ⟨ρ36, rfl⟩ := Zc (uc (show ρ 15 = .pointer (some ⟨b1, 1, none⟩) from (hr 3 _ _ (by decide) rfl rfl rfl).trans (hp 3 (by decide) rfl)) un)
  refine JLr (Zf ty3 rfl (At.bx 7 (Zn ((hB 0 (by decide)).trans rfl))) (pkP_1 ..) <| Za ?_)
  exact ⟨.int .i64 num, [], rfl, (Sub.emp Sub.refl), rfl⟩
 ·intro ρ r31 N31 B hB hBa hp hr hr0
  obtain ⟨ρ37, rfl⟩ := Zc (uc (show ρ 1 = .pointer (some ⟨b1, 0, none⟩) from hr0 1 (by kernel_rfl)) un)
  refine JLq (.pointer (some ⟨b1, 2, none⟩)) (fa75_2 rfl rfl) <| Za ?_
  exact ⟨.pointer (some ⟨b1, 2, none⟩), [], rfl, (Sub.emp Sub.refl), rfl⟩
 ·intro ρ r31 N31 B hB hBa hp hr hr0
  obtain ⟨ρ38, rfl⟩ := Zc (uc (show ρ 17 = .pointer (some ⟨b1, 2, none⟩) from (hr 5 _ _ (by decide) rfl rfl rfl).trans (hp 5 (by decide) rfl)) un)
  refine JLr (Zh Xb rfl (At.bx 7 (Zn ((hB 0 (by decide)).trans rfl))) (pkP_2 ..) <| Za ?_)
  exact ⟨.agg ⟨sC ref⟩, [], rfl, (Sub.emp Sub.refl), rfl⟩
 intro ρ r31 N31 hp hr hr0
 obtain ⟨ρ39, rfl⟩ := Zc (uc (show ρ 1 = .pointer (some ⟨b1, 0, none⟩) from hr0 1 (by kernel_rfl)) (uc (show ρ 2 = .int .i64 0 from hr0 2 (by kernel_rfl)) (uc (show ρ 3 = .int .i64 0 from hr0 3 (by kernel_rfl)) (uc (show ρ 14 = .agg ⟨[.bool (pfN kind), .bool (pfR kind), .bool false]⟩ from (hr 2 _ _ (by decide) rfl rfl).trans (hp 2 (by decide))) (uc (show ρ 16 = .int .i64 num from (hr 4 _ _ (by decide) rfl rfl).trans (hp 4 (by decide))) (uc (show ρ 18 = .agg ⟨sC ref⟩ from (hr 6 _ _ (by decide) rfl rfl).trans (hp 6 (by decide))) un))))))
 clear hp hr hr0 
 refine Zq (M' := [(N31 0), (N31 1), (N31 2), (N31 3), (N31 4), (N31 5), (N31 6), [(b1, .cells ⟨pkP kind num ref ks⟩ 75 (0, 0))]]) Sub.refl <| Zq (M' := [[(b1, .cells ⟨pkP kind num ref ks⟩ 75 (0, 0))]]) (Sd (Sd (Sd (Sd (Sd (Sd (Sd (Sk Sub.nil)))))))) ?_
 show JL _ _ _ [_, _] _ _ _
 refine Zg rfl Tryz.call158 rfl (fun hin => clash_ct _ _ _ _ _ _ _) rfl ?_
 rintro _ _ ⟨rfl, rfl⟩
 refine JLa (.bool (clashB (pfN kind) (pfR kind) false num ref 0)) <| Za <| Zi (b := clashB (pfN kind) (pfR kind) false num ref 0) rfl (fun h40 => ?_) (fun h40 => ?_)
 ·refine Zd <| Zb <| JLa (.int .i64 7) <| Za <| Zl <| ⟨.int .i64 7, [], Ret.one rfl (RV.tmp rfl), Sub.nil, ?_⟩
  exact ⟨by refine congrArg (Value.int .i64) ?_; simp only [pErr]; (repeat' split) <;> first | rfl | omega | (exfalso; simp_all; done) | (exfalso; simp_all; omega) | grind, rfl⟩
 refine Zd <| Zb <| JLq (.pointer (some ⟨b1, 34, none⟩)) (YO rfl rfl) <| JLr (Zf ty73 rfl (At.bx 0 rfl) (Xf ..) ?_)
 obtain ⟨a41, cap41, hv41⟩ := hks.sl
 have hle41 := hks.le
 refine JLq (.int .i64 ((kids.length : Int))) (Pu.lenSl Tryz.runUnderlying73 hv41) <| JLm (.int .i64 0) <| JLq (.bool (decide (0 < (kids.length : Int)))) (Pu.gtr rfl rfl) <| JLa (.bool (decide (0 < (kids.length : Int)))) <| Za <| Zi (b := decide (0 < (kids.length : Int))) rfl (fun h42 => ?_) (fun h42 => ?_)
 ·replace h42 := dt h42
  refine Zd <| Zb <| JLa (.int .i64 2) <| Za <| Zl <| ⟨.int .i64 2, [], Ret.one rfl (RV.tmp rfl), Sub.nil, ?_⟩
  exact ⟨by refine congrArg (Value.int .i64) ?_; simp only [pErr]; (repeat' split) <;> first | rfl | omega | (exfalso; simp_all; done) | (exfalso; simp_all; omega) | grind, rfl⟩
 replace h42 := df h42
 refine Zd <| Yo (fun ρ M => ρ 1 = .pointer (some ⟨b1, 0, none⟩) ∧ ρ 2 = .int .i64 0 ∧ ρ 26 = .bool ((decide (kind = 2)) && (decide (num < 0 ∨ 1073741824 < num))) ∧ M = [[(b1, .cells ⟨pkP kind num ref ks⟩ 75 (0, 0))]]) ?_ ?_
 ·refine Zb <| JLq (.pointer (some ⟨b1, 0, none⟩)) (Y6 rfl rfl) <| JLr (Zf ty3 rfl (At.bx 0 rfl) (pkP_0 ..) <| JLq (.bool (decide (kind = 2))) (Pu.eql rfl rfl) <| JLm (.bool (decide (kind = 2))) ?_)
  cases h43 : (decide (kind = 2)) with
  | true =>
   replace h43 := dt h43
   refine JLq (.pointer (some ⟨b1, 1, none⟩)) (fa75_1 rfl rfl) <| JLr (Zf ty3 rfl (At.bx 0 rfl) (pkP_1 ..) <| Zg rfl Tryz.call79 rfl (fun hin => Yc _ _ _ _) rfl ?_)
   rintro _ _ ⟨rfl, rfl⟩
   refine JLq (.bool (decide (num < 0 ∨ 1073741824 < num))) (Pu.pickT rfl rfl) <| JLa (.bool (decide (num < 0 ∨ 1073741824 < num))) <| Za ?_
   first | exact ⟨rfl, rfl, rfl, rfl⟩ | (exfalso; omega)
  | false =>
   replace h43 := df h43
   iterate 3 refine Zy rfl ?_
   refine JLq (.bool false) (Pu.pickF rfl rfl) <| JLa (.bool false) <| Za ?_
   first | exact ⟨rfl, rfl, rfl, rfl⟩ | (exfalso; omega)
 rintro ρ44 _ ⟨e45, e46, e47, rfl⟩
 obtain ⟨ρ48, rfl⟩ := Zc (uc e45 (uc e46 (uc e47 un)))
 clear e45 e46 e47
 refine Zi (b := (decide (kind = 2)) && (decide (num < 0 ∨ 1073741824 < num))) rfl (fun h49 => ?_) (fun h49 => ?_)
 ·obtain ⟨h49a, h49b⟩ := andT h49
  replace h49a := dt h49a
  replace h49b := dt h49b
  refine Zp <| Zi (b := (decide (kind = 2)) && (decide (num < 0 ∨ 1073741824 < num))) rfl (fun h50 => ?_) (fun h50 => ?_)
  ·obtain ⟨h50a, h50b⟩ := andT h50
   replace h50a := dt h50a
   replace h50b := dt h50b
   refine Zd <| Zb <| JLa (.int .i64 3) <| Za <| Zl <| ⟨.int .i64 3, [], Ret.one rfl (RV.tmp rfl), Sub.nil, ?_⟩
   exact ⟨by refine congrArg (Value.int .i64) ?_; simp only [pErr]; (repeat' split) <;> first | rfl | omega | (exfalso; simp_all; done) | (exfalso; simp_all; omega) | grind, rfl⟩
  refine Zp <| Zd <| Zb <| JLa (.int .i64 0) <| Za <| Zl <| ⟨.int .i64 0, [], Ret.one rfl (RV.tmp rfl), Sub.nil, ?_⟩
  exact ⟨by refine congrArg (Value.int .i64) ?_; simp only [pErr]; (repeat' split) <;> first | rfl | omega | (exfalso; simp_all; done) | (exfalso; simp_all; omega) | grind, rfl⟩
 refine J_weak (N := fun ρ M => ρ 2 = .int .i64 0 ∧ ρ 26 = .bool ((decide (kind = 3)) && (decide (num < 0 ∨ 7 < num))) ∧ M = [[(b1, .cells ⟨pkP kind num ref ks⟩ 75 (0, 0))]]) ?_ ?_
 ·refine Zb <| JLq (.pointer (some ⟨b1, 0, none⟩)) (Y6 rfl rfl) <| JLr (Zf ty3 rfl (At.bx 0 rfl) (pkP_0 ..) <| JLq (.bool (decide (kind = 3))) (Pu.eql rfl rfl) <| JLm (.bool (decide (kind = 3))) ?_)
  cases h51 : (decide (kind = 3)) with
  | true =>
   replace h51 := dt h51
   refine JLq (.pointer (some ⟨b1, 1, none⟩)) (fa75_1 rfl rfl) <| JLr (Zf ty3 rfl (At.bx 0 rfl) (pkP_1 ..) <| Zg rfl Tryz.call79 rfl (fun hin => Yc _ _ _ _) rfl ?_)
   rintro _ _ ⟨rfl, rfl⟩
   refine JLq (.bool (decide (num < 0 ∨ 7 < num))) (Pu.pickT rfl rfl) <| JLa (.bool (decide (num < 0 ∨ 7 < num))) <| Za ?_
   first | exact ⟨rfl, rfl, rfl⟩ | (exfalso; omega)
  | false =>
   replace h51 := df h51
   iterate 3 refine Zy rfl ?_
   refine JLq (.bool false) (Pu.pickF rfl rfl) <| JLa (.bool false) <| Za ?_
   first | exact ⟨rfl, rfl, rfl⟩ | (exfalso; omega)
 rintro ρ52 _ ⟨e53, e54, rfl⟩
 obtain ⟨ρ55, rfl⟩ := Zc (uc e53 (uc e54 un))
 clear e53 e54
 refine Zi (b := (decide (kind = 3)) && (decide (num < 0 ∨ 7 < num))) rfl (fun h56 => ?_) (fun h56 => ?_)
 ·obtain ⟨h56a, h56b⟩ := andT h56
  replace h56a := dt h56a
  replace h56b := dt h56b
  refine Zd <| Zb <| JLa (.int .i64 3) <| Za <| Zl <| ⟨.int .i64 3, [], Ret.one rfl (RV.tmp rfl), Sub.nil, ?_⟩
  exact ⟨by refine congrArg (Value.int .i64) ?_; simp only [pErr]; (repeat' split) <;> first | rfl | omega | (exfalso; simp_all; done) | (exfalso; simp_all; omega) | grind, rfl⟩
 refine Zp <| Zd <| Zb <| JLa (.int .i64 0) <| Za <| Zl <| ⟨.int .i64 0, [], Ret.one rfl (RV.tmp rfl), Sub.nil, ?_⟩
 exact ⟨by refine congrArg (Value.int .i64) ?_; simp only [pErr]; (repeat' split) <;> first | rfl | omega | (exfalso; simp_all; done) | (exfalso; simp_all; omega) | grind, rfl⟩
theorem patternsError_ct : ∀ (p : Pt) (cs : List Value) (H : Heap), RP H cs p → CT Tryz.prog 129 ⟨[.agg ⟨cs⟩]⟩ [] H (fun v N => v = .int .i64 (Xg p) ∧ N = []) := by
 intro p
 induction p using Pt.ind with
 | h kind num ref kids ih =>
 intro cs H hp
 obtain ⟨ks, rfl, hk, hn, hks⟩ := RP_mk.1 hp
 refine Zo Tryz.func129 rfl rfl <| Zd <| Zb <| JLr (Zt (l := pkP kind num ref ks) rfl rfl fun b1 => JLa (.int .i64 0) <| Za <| Zd <| Zb <| JLr (Zh Z5 rfl (At.bx 0 rfl) (pkP_a ..) <| Zg rfl Tryz.call161 rfl (fun hin => patternError_ct _ _ _ _ _ _ (RPs.mono (Hle.hu _ _) hks)) rfl ?_))
 rintro _ _ ⟨rfl, rfl⟩
 refine JLa (.int .i64 (pErr kind num ref kids.length)) <| Za <| Zd <| Zd <| Zb <| JLa (.int .i64 0) <| Za <| Zs <| ZU (fun k ρ M => ∃ (j : Nat) (e : Int), ρ 1 = .pointer (some ⟨b1, 0, none⟩) ∧ ρ 2 = .int .i64 0 ∧ ρ 3 = .int .i64 e ∧ ρ 4 = .int .i64 ((j : Int)) ∧ Sub [[(b1, .cells ⟨pkP kind num ref ks⟩ 75 (0, 0))]] M ∧ j ≤ kids.length ∧ (if e = 0 then pErrsL (kids.drop j) else e) = Xg (.mk kind num ref kids) ∧ k = kids.length - j) _ ⟨0, (pErr kind num ref kids.length), rfl, rfl, rfl, rfl, (Sk Sub.nil), Nat.zero_le _, (by rw [Xg]; rfl), rfl⟩ ?_
 rintro _ ρ2 _ ⟨j, e, e3, e4, e5, e6, hm7, hj, hinv, rfl⟩
 obtain ⟨ρ8, rfl⟩ := Zc (uc e3 (uc e4 (uc e5 (uc e6 un))))
 clear e3 e4 e5 e6
 refine Z1 hm7 ?_
 have hlen := hks.le
 refine Zd <| Yo (fun ρ M => ρ 1 = .pointer (some ⟨b1, 0, none⟩) ∧ ρ 2 = .int .i64 0 ∧ ρ 3 = .int .i64 e ∧ ρ 4 = .int .i64 ((j : Int)) ∧ ρ 15 = .bool ((decide ((j : Int) < (kids.length : Int))) && (decide (e = 0))) ∧ M = [[(b1, .cells ⟨pkP kind num ref ks⟩ 75 (0, 0))]]) ?_ ?_
 ·refine Zb <| JLm (.int .i64 ((j : Int))) <| JLq (.pointer (some ⟨b1, 34, none⟩)) (YO rfl rfl) <| JLr (Zf ty73 rfl (At.bx 0 rfl) (Xf ..) ?_)
  obtain ⟨a9, cap9, hv9⟩ := hks.sl
  have hle9 := hks.le
  refine JLq (.int .i64 ((kids.length : Int))) (Pu.lenSl Tryz.runUnderlying73 hv9) <| JLq (.bool (decide ((j : Int) < (kids.length : Int)))) (Pu.lss rfl rfl) <| JLm (.bool (decide ((j : Int) < (kids.length : Int)))) ?_
  cases h10 : (decide ((j : Int) < (kids.length : Int))) with
  | true =>
   replace h10 := dt h10
   have h10n : j < kids.length := by omega
   refine JLm (.int .i64 e) <| JLq (.bool (decide (e = 0))) (Pu.eql rfl rfl) <| JLq (.bool (decide (e = 0))) (Pu.pickT rfl rfl) <| Za ?_
   first | exact ⟨rfl, rfl, rfl, rfl, rfl, rfl⟩ | (exfalso; omega)
  | false =>
   replace h10 := df h10
   have h10n : kids.length ≤ j := by omega
   iterate 2 refine Zy rfl ?_
   refine JLq (.bool false) (Pu.pickF rfl rfl) <| Za ?_
   first | exact ⟨rfl, rfl, rfl, rfl, rfl, rfl⟩ | (exfalso; omega)
 rintro ρ11 _ ⟨e12, e13, e14, e15, e16, rfl⟩
 obtain ⟨ρ17, rfl⟩ := Zc (uc e12 (uc e13 (uc e14 (uc e15 (uc e16 un)))))
 clear e12 e13 e14 e15 e16
 refine Zi (b := (decide ((j : Int) < (kids.length : Int))) && (decide (e = 0))) rfl (fun h18 => ?_) (fun h18 => ?_)
 ·obtain ⟨h18a, h18b⟩ := andT h18
  replace h18a := dt h18a
  have h18an : j < kids.length := by omega
  replace h18b := dt h18b
  refine Zp <| Zd <| Zs <| Zb <| JLq (.pointer (some ⟨b1, 34, none⟩)) (YO rfl rfl) <| JLr (Zf ty73 rfl (At.bx 0 rfl) (Xf ..) <| JLm (.int .i64 ((j : Int))) ?_)
  obtain ⟨b19, o19, cap19, row19, T19, fr19, cs19, hv19, hb19, hs19, hE19⟩ := hks.get j (by first | assumption | omega | decide | simp)
  refine JLq (.pointer (some ⟨b19, o19 + j * 35, none⟩)) (Pu.idx j Tryz.runUnderlying73 Z5 hv19 rfl rfl (by first | assumption | omega | decide | simp)) <| JLr (Zh Z5 rfl (At.im hb19) hs19 <| Zg rfl Tryz.call129 rfl (fun hin => ih _ (List.getElem_mem h18an) _ _ (RP.mono (Hle.hu _ _) hE19)) rfl ?_)
  rintro _ _ ⟨rfl, rfl⟩
  refine JLa (.int .i64 (Xg (kids[j]))) <| Za <| Zb <| JLm (.int .i64 ((j : Int))) <| JLq (.int .i64 (((j + 1 : Nat) : Int))) (Pu.inc rfl rfl (by omega)) <| JLa (.int .i64 (((j + 1 : Nat) : Int))) <| Za <| ⟨_, ?_, (j + 1), (Xg (kids[j])), rfl, rfl, rfl, rfl, (Sk Sub.nil), ?_, ?_, rfl⟩
  ·omega
  ·omega
  rw [if_pos (by assumption), Yt h18an, pErrsL] at hinv; exact hinv
 refine ZM _ rfl <| Zd <| Zb <| JLm (.int .i64 e) <| JLa (.int .i64 e) <| Za <| Zl <| ⟨.int .i64 e, [], Ret.one rfl (RV.tmp rfl), Sub.nil, ?_⟩
 refine ⟨?_, rfl⟩
 rw [← hinv]; by_cases he : e = 0
 ·have hj2 : kids.length ≤ j := by
   apply Nat.le_of_not_lt; intro hlt; have : (j : Int) < (kids.length : Int) := by omega
   simp_all
  rw [if_pos he, Xl hj2, he]; rfl
 rw [if_neg he]
end Go.Proofs.YtmophpgiaiemhaaGreat.Hs
/-! Walks, printed by a program of this session's own (gen.py). -/
namespace Go.Proofs.YtmophpgiaiemhaaGreat.Hs
open Go Go.Proofs
set_option maxRecDepth 100000
set_option linter.unusedVariables false
set_option linter.unusedSimpArgs false
attribute [local irreducible] JL J CT wlo
end Go.Proofs.YtmophpgiaiemhaaGreat.Hs
