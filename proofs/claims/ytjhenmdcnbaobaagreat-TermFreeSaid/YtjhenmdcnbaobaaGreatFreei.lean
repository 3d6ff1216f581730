import Derived.Test.YtjhenmdcnbaobaaGreatFreeh
import Derived.Laws.RangeString
/-! Strings: rows of them, ranges over them, names of one letter. -/
namespace Go.Proofs.YtjhenmdcnbaobaaGreat.Hs
open Go
/-- the name of one letter -/
def ltr (i : Nat) : ByteArray := ⟨#[UInt8.ofNat (97 + i)]⟩
def Yr (l : List ByteArray) : List (List Value) := l.map fun n => [.string n]
theorem YG (l : List ByteArray) : (Yr l).length = l.length := by simp [Yr]
theorem strs_snoc (l : List ByteArray) (n : ByteArray) : Yr (l ++ [n]) = Yr l ++ [[.string n]] := by simp [Yr]
theorem strs_app (l m : List ByteArray) : Yr (l ++ m) = Yr l ++ Yr m := by simp [Yr]
theorem strs_get (l : List ByteArray) (j : Nat) (h : j < l.length) : (Yr l)[j]'(by rw [YG]; exact h) = [.string l[j]] := by simp [Yr]
theorem strs_len1 (l : List ByteArray) : ∀ e ∈ Yr l, e.length = 1 := by
  intro e he; obtain ⟨n, _, rfl⟩ := List.mem_map.1 he; rfl
theorem strs_ok (l : List ByteArray) : ∀ e ∈ Yr l, okc e := by
  intro e he; obtain ⟨n, _, rfl⟩ := List.mem_map.1 he; exact Zj rfl Zt
def RS (_ : Heap) (cs : List Value) (n : ByteArray) : Prop := cs = [.string n]
theorem RSs.mono {h h' : Heap} (hh : Hle h h') {v : Value} {l : List ByteArray} (q : Hs.rdS RS 1 h v l) : Hs.rdS RS 1 h' v l := rdS.mono q hh fun _ _ _ e => e
theorem YY {T : TypeId} {v : Value} {l : List ByteArray} {k : Zf} {h : Heap} (o : Own T 1 v (Yr l) k) (hn : l.length ≤ 9223372036854775807) (hk : Has k h) : Hs.rdS RS 1 h v l :=
  o.rdS (YG l).symm hn hk fun i _ h2 => strs_get l i h2
theorem rdS.none {α : Type} {E : Heap → List Value → α → Prop} {sz : Nat} {h : Heap} {a : Option Addr} {cap : Nat} : Hs.rdS E sz h (.slice a 0 cap) [] := ⟨a, cap, rfl, by simp, .inl rfl⟩
/-- What a row of strings gives to append. -/
theorem strs_src {P : Program} {H : Heap} {v : Value} {l : List ByteArray} (h : Hs.rdS RS 1 H v l) : ∀ w L, Mem w L H → Src P 1 w v l.length (Yr l).flatten := by
  obtain ⟨es, e1, e2, e3, e4⟩ := rdS.src (P := P) h
  have : es = Yr l := by
    apply List.ext_getElem
    · rw [e1, YG]
    · intro i h1 h2
      have := e2 i h1 (by omega)
      rw [strs_get l i (by omega)]; exact this
  subst this
  intro w L m
  exact e4 w L H (Hle.refl _) m
theorem own_src {P : Program} {H : Heap} {T : TypeId} {v : Value} {l : List ByteArray} {k : Zf} {M : List Zf} {i : Nat} (o : Own T 1 v (Yr l) k) (hi : M[i]? = some k) : ∀ F w, Mem w (M.flatten ++ F) H → Src P 1 w v l.length (Yr l).flatten := by
  intro F w m
  rcases o.2 with ⟨e, e2, e3⟩ | ⟨b, cap, sp, e, e2, e3, e4⟩
  · have : l = [] := by have := YG l; rw [e2] at this; exact List.eq_nil_of_length_eq_zero this.symm
    subst this
    rw [e]; exact Src.nil
  · subst e
    have hb : w.heap[b]? = some (.cells ⟨(Yr l).flatten ++ sp⟩ T (0, 0)) := (At.k (M := M) (H := H) i hi (by rw [e2]; simp)).heap m
    have := Src.row (P := P) (cap := cap) (n := l.length) hb (by have := sub_flat (sp := sp) o.1; rwa [YG] at this)
    rw [YG]; exact this

/-- the place of a string in a row -/
def fstS (x : ByteArray) : List ByteArray → Nat → Int
  | [], _ => -1
  | y :: l, i => if x = y then (i : Int) else fstS x l (i + 1)
theorem fstS_mem (x : ByteArray) (l : List ByteArray) : ∀ i, decide (0 ≤ fstS x l i) = l.any (fun y => decide (x = y)) := by
  induction l with
  | nil => intro i; simp [fstS]
  | cons y l ih =>
    intro i
    rw [fstS]
    by_cases h : x = y
    · rw [if_pos h, List.any_cons, decide_eq_true h]; simp
    · rw [if_neg h, ih, List.any_cons, decide_eq_false h]; rfl
/-- the place of a bool in a row -/
def fstB (x : Bool) : List Bool → Nat → Int
  | [], _ => -1
  | y :: l, i => if x = y then (i : Int) else fstB x l (i + 1)

def itC (r : Nat) (s : ByteArray) (p : Nat) : Zf := [(r, .stringIter s p)]
section
variable {c : Cx} {H : Heap} {ρ : Nat → Value} {M : List Zf} {K : Value → List Zf → Prop} {d : Option Nat} {ot : TypeId} {pos : String} {af : Array Edge} {g : Option (Nat × Bool)} {x y z : Operand}
theorem Runs_rangeS {T : TypeId} {s : ByteArray} (hT : c.P.underlying T = some .string) (hx : ev c.n ρ x = .string s) (h : ∀ r, K (.pointer (some ⟨r, 0, none⟩)) (itC r s 0 :: M)) : Runs c H ⟨d, .range T x, ot, pos, af, g⟩ ρ M K := fun F w m => by
  refine ⟨.pointer (some ⟨w.heap.size, 0, none⟩), { w with heap := w.heap.push (.stringIter s 0) }, [(w.heap.size, .stringIter s 0)] :: M, .inl ?_, m.push (w' := { w with heap := w.heap.push (.stringIter s 0) }) rfl, h _⟩
  simp [execOp, Instr.range, hx, run_underlying hT, Result.andThen]
theorem Runs_nextA {i r p : Nat} {s : ByteArray} (hx : ev c.n ρ x = .pointer (some ⟨r, 0, none⟩)) (hi : M[i]? = some (itC r s p)) (hp : p < s.size) (ha : (s[p]'hp).toNat < 128)
    (h : K (.tuple ⟨[.bool true, .int .i64 p, .int .i32 ((s[p]'hp).toNat : Int)]⟩) (M.set i (itC r s (p + 1)))) : Runs c H ⟨d, .next x true, ot, pos, af, g⟩ ρ M K := fun F w m => by
  have hb : w.heap[r]? = some (.stringIter s p) := (m.perm ((Z5 hi).append_right F)).own r _ (List.mem_cons_self ..)
  refine ⟨_, _, _, .inl ?_, m.put (o' := .stringIter s (p + 1)) hi, h⟩
  have hg : (getObj r).run c.P w = .ok (.stringIter s p) w := by simp [getObj, Sem.run, hb]
  have hs : (setObj r (.stringIter s (p + 1))).run c.P w = .ok () { w with heap := w.heap.setIfInBounds r (.stringIter s (p + 1)) } := by simp [setObj, Sem.run, hb]
  simp only [execOp, Instr.next, hx, Sem.run_bind, hg, Result.andThen, hp, if_true, decode_ascii s p hp ha, hs]
  simp [goInt]
theorem Runs_nextE {i r p : Nat} {s : ByteArray} (hx : ev c.n ρ x = .pointer (some ⟨r, 0, none⟩)) (hi : M[i]? = some (itC r s p)) (hp : ¬ p < s.size)
    (h : K (.tuple ⟨[.bool false]⟩) M) : Runs c H ⟨d, .next x true, ot, pos, af, g⟩ ρ M K := fun F w m => by
  have hb : w.heap[r]? = some (.stringIter s p) := (m.perm ((Z5 hi).append_right F)).own r _ (List.mem_cons_self ..)
  refine ⟨_, _, _, .inl ?_, m, h⟩
  have hg : (getObj r).run c.P w = .ok (.stringIter s p) w := by simp [getObj, Sem.run, hb]
  simp [execOp, Instr.next, hx, hg, Result.andThen, hp]
end
theorem w32 {a : Int} (h : -2147483648 ≤ a ∧ a ≤ 2147483647) : IntKind.i32.wrap a = a := by
  exact IntWalk.i32_in a h
section
variable {P : Program} {e : Operand → Value} {T T' : TypeId} {x : Operand} {k : IntKind} {a : Int} {d : Option Nat} {ot : TypeId} {pos : String} {af : Array Edge} {g : Option (Nat × Bool)}
theorem Pu.convS {s : ByteArray} {t : TypeDesc} (hs : ∀ w, (underlying T).run P w = .ok t w) (hT : ∀ w, (underlying T').run P w = .ok .string w) (hx : e x = .int k a) (hv : Utf8.encode a = s) : Pu P e ⟨d, .convert T T' x, ot, pos, af, g⟩ (.string s) := fun w => by
  subst hv
  simp [execOp, convert, hs, hT, hx, Result.andThen, Conv.intToString]
end
theorem ltr_size (i : Nat) : (ltr i).size = 1 := rfl
theorem ltr_get (i : Nat) (h : i < 26) : ((ltr i)[0]'(by rw [ltr_size]; decide)).toNat = 97 + i := by
  show (UInt8.ofNat (97 + i)).toNat = 97 + i
  simp; omega
theorem ltr_enc : ∀ i : Nat, i < 26 → Utf8.encode ((97 + i : Nat) : Int) = ltr i := by decide
theorem ltr_enc' (i : Nat) (h : i < 26) : Utf8.encode (97 + (i : Int)) = ltr i := by have := ltr_enc i h; simpa using this
section
variable {c : Cx} {H : Heap} {ρ : Nat → Value} {M : List Zf} {K : Value → List Zf → Prop} {d : Option Nat} {ot : TypeId} {pos : String} {af : Array Edge} {g : Option (Nat × Bool)} {x : Operand}
theorem Runs_nextL {i r k : Nat} (hx : ev c.n ρ x = .pointer (some ⟨r, 0, none⟩)) (hi : M[i]? = some (itC r (ltr k) 0)) (hk : k < 26)
    (h : K (.tuple ⟨[.bool true, .int .i64 0, .int .i32 (97 + (k : Int))]⟩) (M.set i (itC r (ltr k) 1))) : Runs c H ⟨d, .next x true, ot, pos, af, g⟩ ρ M K := by
  have hg := ltr_get k hk
  refine Runs_nextA hx hi (by rw [ltr_size]; decide) (by omega) ?_
  rw [hg]
  simpa using h
end
def markL (i : Nat) (l : List Bool) : List Bool := if i < l.length then l.set i true else l
/-- What is known of a term with names: the names on the way down, one Kid after the other. -/
def NC : List (List ByteArray) → List Value → Zf → Prop
  | [], cs, _ => cs.length = 37 ∧ okc cs
  | x :: xs, cs, c => ∃ k n r ns ks cv e k1 k2 k3, cs = pkT k n r ns ks ++ [cv] ∧ cv.oneCell' = true ∧ Own 9 1 ns (Yr x) k1 ∧ Own 97 37 ks [e] k2 ∧ NC xs e k3 ∧ c = k1 ++ (k2 ++ k3)
theorem NC.len : ∀ {xs : List (List ByteArray)} {cs : List Value} {c : Zf}, NC xs cs c → cs.length = 37
  | [], _, _, h => h.1
  | _ :: _, _, _, ⟨_, _, _, _, _, _, _, _, _, _, h, _⟩ => by rw [h]; rfl
theorem NC.ok : ∀ {xs : List (List ByteArray)} {cs : List Value} {c : Zf}, NC xs cs c → okc cs
  | [], _, _, h => h.2
  | _ :: _, _, _, ⟨_, _, _, _, _, _, _, _, _, _, h, h1, h2, h3, _⟩ => by rw [h]; exact Ya (ZA h2.one h3.one) (Zj h1 Zt)
theorem spl_l {a b a' vs : List Value} {off : Nat} (h : spl a off vs = some a') : spl (a ++ b) off vs = some (a' ++ b) := by
  obtain ⟨h1, h2⟩ := spl_some h
  rw [spl_mk (by rw [List.length_append]; omega), h2, List.take_append_of_le_length (by omega), List.drop_append_of_le_length (by omega)]
  simp
theorem markL_len (i : Nat) (l : List Bool) : (markL i l).length = l.length := by unfold markL; split <;> simp
theorem int_r {P : Program} {f : FuncId} {a : Array Value} {M : List Zf} {H : Heap} {x r : Int} (h : CT P f a M H (fun v N => v = .int .i64 x ∧ N = [])) (hr : x = r) : CT P f a M H (fun v N => v = .int .i64 r ∧ N = []) := hr ▸ h
noncomputable def eqL {α : Type} (l m : List α) : Bool := @decide (l = m) (Classical.propDecidable _)
theorem eqL_true {α : Type} {l m : List α} (h : l = m) : eqL l m = true := by unfold eqL; simp [h]
theorem eqL_false {α : Type} {l m : List α} (h : ¬ l = m) : eqL l m = false := by unfold eqL; simp [h]
end Go.Proofs.YtjhenmdcnbaobaaGreat.Hs
/-! The examples of the chapter, in YU Lean. -/
namespace Go.Proofs.YtjhenmdcnbaobaaGreat.Hs
open Go Go.Proofs
def eVa (n : Int) : Tm := .mk 1 n zS [] []
def eNu (n : Int) : Tm := .mk 2 n zS [] []
def eLa (t : Tm) : Tm := .mk 3 0 zS [t] []
def eAp (t u : Tm) : Tm := .mk 4 0 zS [t, u] []
def eLam : Tm := eLa (eAp (eVa 0) (eVa 1))
theorem free_lam : freeE eLam = ([0], 0) := by kernel_rfl
theorem five_lam : YM eLam 0 (eNu 5) = (eLa (eAp (eVa 0) (eNu 5)), 0) := by kernel_rfl
theorem three_lam : YM eLam 0 (eVa 3) = (eLa (eAp (eVa 0) (eVa 4)), 0) := by kernel_rfl
theorem up_lam : shiftP eLam 2 0 = (eLa (eAp (eVa 0) (eVa 3)), 0) := by kernel_rfl
theorem down_va : shiftP (eVa 0) (-1) 0 = (zT, 1) := by kernel_rfl
def eLL : Tm := eLa (eLa (eVa 1))
theorem right_ll : ZK [eLL] = 0 := by kernel_rfl
theorem free_ll : freeE eLL = ([], 0) := by kernel_rfl
theorem check_h2 : Yg 0 0 (.mk 12 0 zS [eNu 1, eVa 0] []) = 0 := by kernel_rfl
theorem check_h1 : Yg 0 0 (.mk 12 0 zS [eNu 1] []) = 2 := by kernel_rfl
/-- the cells of the first of two results -/
def tcel : Value → List Value
  | .tuple ⟨[.agg ⟨cs⟩, _]⟩ => cs
  | _ => []
theorem ble_at {P : Program} {f : FuncId} {a : Array Value} {M : List Zf} {H : Heap} {x : Tm × Int} {d : Tm} {e : Int} (h : CT P f a M H (fun v N => ∃ cs k, v = .tuple ⟨[.agg ⟨cs⟩, .int .i64 x.2]⟩ ∧ N = [k] ∧ OT x.1 cs k)) (hx : x = (d, e)) :
    CT P f a M H (fun v N => ∃ cs k, v = .tuple ⟨[.agg ⟨cs⟩, .int .i64 e]⟩ ∧ N = [k] ∧ OT d cs k) := by subst hx; exact h
theorem Y1 {P : Program} {f : FuncId} {a : Array Value} {M : List Zf} {H : Heap} {x r : Bool} (h : CT P f a M H (fun v N => v = .bool x ∧ N = [])) (hr : x = r) : CT P f a M H (fun v N => v = .bool r ∧ N = []) := hr ▸ h
section
variable {c : Cx} {H : Heap} {ρ : Nat → Value} {M : List Zf} {K : Value → List Zf → Prop} {d : Option Nat} {ot : TypeId} {pos : String} {af : Array Edge} {g : Option (Nat × Bool)} {x y : Operand}
/-- the first nothing of a slice -/
theorem Runs_slice0 {T el : TypeId} {sz n cap : Nat} {a : Option Addr} {k : IntKind} (hT : ∀ w, (underlying T).run c.P w = .ok (.slice el) w) (hsz : ∀ w, (sizeOf el).run c.P w = .ok sz w) (hx : ev c.n ρ x = .slice a n cap) (hy : ev c.n ρ y = .int k 0)
    (h : ∀ a' cap', K (.slice a' 0 cap') M) : Runs c H ⟨d, .slice T x none (some y) none, ot, pos, af, g⟩ ρ M K := fun F w m => by
  refine ⟨_, w, M, .inl ?_, m, h (if cap = 0 then a else a.map (·.add (0 * sz))) (cap - 0)⟩
  simp [execOp, Instr.sliceAt, Instr.slice, Instr.sliceBounds, Instr.sliceBound, asIntOf, hx, hy, hT, hsz, Result.andThen]
end
end Go.Proofs.YtjhenmdcnbaobaaGreat.Hs
/-! Layer 4, the YU law, third part: sizes. No program here. -/
namespace Go.Proofs.YtjhenmdcnbaobaaGreat.Hs
open Go
theorem checkR_ok {t : Tm} (h : ZW 60 8 t = 0) : sizeT t ≤ 300 ∧ vOK t ∧ tidy t := by
  have := Yk (by rw [check_eq]; exact h : Yg 60 8 t = 0)
  exact ⟨this.1, this.2.1, this.2.2.1⟩
end Go.Proofs.YtjhenmdcnbaobaaGreat.Hs
/-! Layer 4, the YU law of moving: maps composed; what is right stays right. No program here. -/
namespace Go.Proofs.YtjhenmdcnbaobaaGreat.Hs
open Go
mutual
def mq (f : Int → Int → Tm) : Int → Tm → Tm
  | b, .mk k n r kids cases => if k = 1 ∧ b ≤ n then f (n - b) b else .mk k n r (mqs f b k 0 kids) (mqc f b cases)
def mqs (f : Int → Int → Tm) : Int → Int → Nat → List Tm → List Tm
  | _, _, _, [] => []
  | b, k, i, t :: l => mq f (b + more k i) t :: mqs f b k (i + 1) l
def mqc (f : Int → Int → Tm) : Int → List (Pt × Tm) → List (Pt × Tm)
  | _, [] => []
  | b, (p, t) :: l => (p, mq f (b + (binds p : Int)) t) :: mqc f b l
end
theorem mqs_len (f : Int → Int → Tm) (b k : Int) (l : List Tm) : ∀ i, (mqs f b k i l).length = l.length := by
  induction l with
  | nil => intro i; simp [mqs]
  | cons x l ih => intro i; simp [mqs, ih]
theorem mqc_len (f : Int → Int → Tm) (b : Int) (l : List (Pt × Tm)) : (mqc f b l).length = l.length := by
  induction l with
  | nil => simp [mqc]
  | cons x l ih => obtain ⟨p, x⟩ := x; simp [mqc, ih]
theorem mapT_mq (f : Int → Int → Tm) (t : Tm) : ∀ b, Z2 (σ := Unit) (fun s => s) (fun n b s => (f n b, s)) b t () = (mq f b t, ()) := by
  induction t using Tm.ind with
  | h k n r kids cases ih ih' =>
    intro b
    have hK : ∀ (l : List Tm), (∀ t ∈ l, ∀ b, Z2 (σ := Unit) (fun s => s) (fun n b s => (f n b, s)) b t () = (mq f b t, ())) → ∀ i, ZT (σ := Unit) (fun s => s) (fun n b s => (f n b, s)) b k i l () = (mqs f b k i l, ()) := by
      intro l
      induction l with
      | nil => intro _ i; simp [ZT, mqs]
      | cons t l ihl => intro hl i; rw [ZT, mqs, hl t (by simp)]; simp only; rw [ihl (fun x hx => hl x (by simp [hx]))]
    have hC : ∀ (l : List (Pt × Tm)), (∀ t ∈ l, ∀ b, Z2 (σ := Unit) (fun s => s) (fun n b s => (f n b, s)) b t.2 () = (mq f b t.2, ())) → ZY (σ := Unit) (fun s => s) (fun n b s => (f n b, s)) b l () = (mqc f b l, ()) := by
      intro l
      induction l with
      | nil => intro _; simp [ZY, mqc]
      | cons t l ihl => obtain ⟨p, t⟩ := t; intro hl; rw [ZY, mqc, hl (p, t) (by simp), mapP_id]; simp only; rw [ihl (fun x hx => hl x (by simp [hx]))]
    rw [Z2, mq]
    split
    · rfl
    · rw [hK kids ih]; simp only; rw [hC cases ih']
theorem mapQ_mq (f : Int → Int → Tm) (b : Int) (t : Tm) : mapQ (fun s => s) f b t = mq f b t := by
  unfold mapQ; rw [mapT_mq f t b]
theorem shT_mq (dy fr : Int) (t : Tm) : shT dy fr t = mq (shv dy fr) 0 t := mapQ_mq _ _ _
theorem sbT_mq (n : Int) (u t : Tm) : sbT n u t = mq (sbv n u) 0 t := mapQ_mq _ _ _
/-! what is right stays right -/
theorem nHead_mono {d d' m m' b b' k n : Int} {r : Sm} {l lc : Nat} (h : YD d m b k n r l lc = 0) (hv : k = 1 → n < b' ∨ n - b' < d') (hm : m ≤ m') : YD d' m' b' k n r l lc = 0 := by
  unfold YD at h ⊢
  by_cases h1 : k < 1 ∨ 12 < k
  · rw [if_pos h1] at h; cases h
  rw [if_neg h1] at h ⊢
  by_cases h2 : ((Yo k = false ∧ ¬ n = 0) ∨ (Yn k = false ∧ ¬ r = zS)) ∨ (¬ k = 9 ∧ 0 < (lc : Int))
  · rw [if_pos h2] at h; cases h
  rw [if_neg h2] at h ⊢
  by_cases h3 : ((l : Int) < loK k ∨ hiK k < (l : Int)) ∨ 8 < (lc : Int)
  · rw [if_pos h3] at h; cases h
  rw [if_neg h3] at h ⊢
  by_cases h4 : ((k = 2 ∧ (n < 0 ∨ 1073741824 < n)) ∨ (k = 10 ∧ (n < 1 ∨ 5 < n))) ∨ ((k = 8 ∨ k = 11) ∧ (n < 0 ∨ 7 < n))
  · rw [if_pos h4] at h; cases h
  rw [if_neg h4] at h ⊢
  by_cases h5 : (k = 1 ∧ (n < 0 ∨ (b ≤ n ∧ d ≤ n - b))) ∨ (k = 7 ∧ (n < 0 ∨ m ≤ n))
  · rw [if_pos h5] at h; cases h
  rw [if_neg (by
    rintro (⟨e, h6⟩ | ⟨e, h6⟩)
    · have := hv e; omega
    · omega)]
theorem pErrRC_mqc (f : Int → Int → Tm) (b : Int) (l : List (Pt × Tm)) : Ys (mqc f b l) = Ys l := by
  induction l with
  | nil => rw [mqc]
  | cons x l ih => obtain ⟨p, x⟩ := x; rw [mqc, Ys, Ys, ih]
theorem nErr_iff {d m b k n : Int} {r : Sm} {kids : List Tm} {cases : List (Pt × Tm)} : ZC d m b (.mk k n r kids cases) = 0 ↔ YD d m b k n r kids.length cases.length = 0 ∧ Ys cases = 0 ∧ ZM d m b k 0 kids = 0 ∧ Yi d m b cases = 0 := by
  rw [ZC]
  constructor
  · intro h
    split at h
    · split at h
      · split at h
        · exact ⟨by assumption, by assumption, by assumption, h⟩
        · rename_i h0; exact absurd h h0
      · rename_i h0; exact absurd h h0
    · rename_i h0; exact absurd h h0
  · rintro ⟨h1, h2, h3, h4⟩
    rw [if_pos h1, if_pos h2, if_pos h3, h4]
theorem nErrK_cons {d m b k : Int} {i : Nat} {t : Tm} {l : List Tm} : ZM d m b k i (t :: l) = 0 ↔ ZC d m (b + more k i) t = 0 ∧ ZM d m b k (i + 1) l = 0 := by
  rw [ZM]
  constructor
  · intro h
    split at h
    · exact ⟨by assumption, h⟩
    · rename_i h0; exact absurd h h0
  · rintro ⟨h1, h2⟩; rw [if_pos h1, h2]
theorem nErrC_cons {d m b : Int} {p : Pt} {t : Tm} {l : List (Pt × Tm)} : Yi d m b ((p, t) :: l) = 0 ↔ ZC d m (b + (binds p : Int)) t = 0 ∧ Yi d m b l = 0 := by
  rw [Yi]
  constructor
  · intro h
    split at h
    · exact ⟨by assumption, h⟩
    · rename_i h0; exact absurd h h0
  · rintro ⟨h1, h2⟩; rw [if_pos h1, h2]
theorem mq_err {f : Int → Int → Tm} {d d' m m' b0 : Int} (hb0 : 0 ≤ b0) (hm : m ≤ m') (H : ∀ n c, 0 ≤ n → n < d → 0 ≤ c → ZC d' m' (b0 + c) (f n c) = 0) (t : Tm) : ∀ c, 0 ≤ c → ZC d m c t = 0 → ZC d' m' (b0 + c) (mq f c t) = 0 := by
  induction t using Tm.ind with
  | h k n r kids cases ih ih' =>
    intro c hc h
    obtain ⟨h1, h2, h3, h4⟩ := nErr_iff.1 h
    have hK : ∀ (l : List Tm), (∀ t ∈ l, ∀ c, 0 ≤ c → ZC d m c t = 0 → ZC d' m' (b0 + c) (mq f c t) = 0) → ∀ i, ZM d m c k i l = 0 → ZM d' m' (b0 + c) k i (mqs f c k i l) = 0 := by
      intro l
      induction l with
      | nil => intro _ i _; simp [mqs, ZM]
      | cons t l ihl =>
        intro hl i hh
        obtain ⟨a1, a2⟩ := nErrK_cons.1 hh
        have hm := more_le k i
        have := hl t (by simp) _ (by omega) a1
        rw [mqs]
        exact nErrK_cons.2 ⟨by rwa [show b0 + c + more k i = b0 + (c + more k i) from by omega], ihl (fun x hx => hl x (by simp [hx])) _ a2⟩
    have hC : ∀ (l : List (Pt × Tm)), (∀ t ∈ l, ∀ c, 0 ≤ c → ZC d m c t.2 = 0 → ZC d' m' (b0 + c) (mq f c t.2) = 0) → Yi d m c l = 0 → Yi d' m' (b0 + c) (mqc f c l) = 0 := by
      intro l
      induction l with
      | nil => intro _ _; simp [mqc, Yi]
      | cons t l ihl =>
        obtain ⟨p, t⟩ := t
        intro hl hh
        obtain ⟨a1, a2⟩ := nErrC_cons.1 hh
        have := hl (p, t) (by simp) _ (by omega) a1
        rw [mqc]
        exact nErrC_cons.2 ⟨by rwa [show b0 + c + (binds p : Int) = b0 + (c + (binds p : Int)) from by omega], ihl (fun x hx => hl x (by simp [hx])) a2⟩
    rw [mq]
    by_cases hk : k = 1 ∧ c ≤ n
    · rw [if_pos hk]
      obtain ⟨e, hle⟩ := hk
      subst e
      have := (nHead_var h1).2.2.2
      exact H _ _ (by omega) (by omega) hc
    · rw [if_neg hk]
      refine nErr_iff.2 ⟨?_, by rw [pErrRC_mqc]; exact h2, hK kids ih 0 h3, hC cases ih' h4⟩
      rw [mqs_len, mqc_len]
      exact nHead_mono h1 (fun e => .inl (by omega)) hm
theorem nErr_var {d m b n : Int} (h0 : 0 ≤ n) (h1 : n - b < d) : ZC d m b (.mk 1 n zS [] []) = 0 := by
  refine nErr_iff.2 ⟨?_, rfl, rfl, rfl⟩
  unfold YD Yo Yn loK hiK
  simp
  omega
theorem nErr_mono {d d' m m' : Int} (hd : d ≤ d') (hm : m ≤ m') (t : Tm) : ∀ b, ZC d m b t = 0 → ZC d' m' b t = 0 := by
  induction t using Tm.ind with
  | h k n r kids cases ih ih' =>
    intro b h
    obtain ⟨h1, h2, h3, h4⟩ := nErr_iff.1 h
    have hK : ∀ (l : List Tm), (∀ t ∈ l, ∀ b, ZC d m b t = 0 → ZC d' m' b t = 0) → ∀ i, ZM d m b k i l = 0 → ZM d' m' b k i l = 0 := by
      intro l
      induction l with
      | nil => intro _ i _; simp [ZM]
      | cons t l ihl =>
        intro hl i hh
        obtain ⟨a1, a2⟩ := nErrK_cons.1 hh
        exact nErrK_cons.2 ⟨hl t (by simp) _ a1, ihl (fun x hx => hl x (by simp [hx])) _ a2⟩
    have hC : ∀ (l : List (Pt × Tm)), (∀ t ∈ l, ∀ b, ZC d m b t.2 = 0 → ZC d' m' b t.2 = 0) → Yi d m b l = 0 → Yi d' m' b l = 0 := by
      intro l
      induction l with
      | nil => intro _ _; simp [Yi]
      | cons t l ihl =>
        obtain ⟨p, t⟩ := t
        intro hl hh
        obtain ⟨a1, a2⟩ := nErrC_cons.1 hh
        exact nErrC_cons.2 ⟨hl (p, t) (by simp) _ a1, ihl (fun x hx => hl x (by simp [hx])) a2⟩
    exact nErr_iff.2 ⟨nHead_mono h1 (fun e => by subst e; have := (nHead_var h1).2.2.2; omega) hm, h2, hK kids ih 0 h3, hC cases ih' h4⟩
theorem sb_err {d m k : Int} (hk : 0 ≤ k) (hkd : k < d) {t u : Tm} (h : ZC d m 0 t = 0) (hu : ZC (d - 1) m 0 u = 0) : ZC (d - 1) m 0 (sbT k u t) = 0 := by
  rw [sbT_mq]
  have := mq_err (f := sbv k u) (d := d) (d' := d - 1) (m := m) (m' := m) (b0 := 0) (Int.le_refl 0) (Int.le_refl m) (fun n c h1 h2 h3 => by
    unfold sbv
    by_cases e : n = k
    · rw [if_pos e, shT_mq, Int.zero_add]
      have := mq_err (f := shv c 0) (d := d - 1) (d' := d - 1) (m := m) (m' := m) (b0 := c) h3 (Int.le_refl m) (fun x y q1 q2 q3 => by
        unfold shv
        rw [if_pos q1]
        exact nErr_var (by omega) (by omega)) u 0 (Int.le_refl 0) hu
      rwa [Int.add_zero] at this
    · rw [if_neg e]
      exact nErr_var (by split <;> omega) (by split <;> omega)) t 0 (Int.le_refl 0) h
  rwa [Int.add_zero] at this
theorem checkR_iff {d m : Int} {t : Tm} : ZW d m t = 0 ↔ YE t = false ∧ ZC d m 0 t = 0 := by
  unfold ZW
  cases YE t <;> simp
theorem Yc {d d' m m' : Int} (hd : d ≤ d') (hm : m ≤ m') {t : Tm} (h : ZW d m t = 0) : ZW d' m' t = 0 := by
  rw [checkR_iff] at h ⊢
  exact ⟨h.1, nErr_mono hd hm t 0 h.2⟩
theorem sb_check {d m k : Int} (hk : 0 ≤ k) (hkd : k < d) {t u : Tm} (h : ZW d m t = 0) (hu : ZW (d - 1) m u = 0) (hl : YE (sbT k u t) = false) : ZW (d - 1) m (sbT k u t) = 0 := by
  rw [checkR_iff] at h hu ⊢
  exact ⟨hl, sb_err hk hkd h.2 hu.2⟩

/-! what is free -/
mutual
def Z8 (Q : Int → Prop) : Int → Tm → Prop
  | b, .mk k n _ kids cases => (k = 1 ∧ b ≤ n → Q (n - b)) ∧ Yd Q b k 0 kids ∧ Ym Q b cases
def Yd (Q : Int → Prop) : Int → Int → Nat → List Tm → Prop
  | _, _, _, [] => True
  | b, k, i, t :: l => Z8 Q (b + more k i) t ∧ Yd Q b k (i + 1) l
def Ym (Q : Int → Prop) : Int → List (Pt × Tm) → Prop
  | _, [] => True
  | b, (p, t) :: l => Z8 Q (b + (binds p : Int)) t ∧ Ym Q b l
end
theorem met_all {Q : Int → Prop} (t : Tm) : ∀ b s, Z8 Q b t → (∀ x ∈ s, Q x) → ∀ x ∈ (Z2 (fun s => s) YP b t s).2, Q x := by
  induction t using Tm.ind with
  | h k n r kids cases ih ih' =>
    intro b s h hs
    rw [Z8] at h
    have hK : ∀ (l : List Tm), (∀ t ∈ l, ∀ b s, Z8 Q b t → (∀ x ∈ s, Q x) → ∀ x ∈ (Z2 (fun s => s) YP b t s).2, Q x) → ∀ i s, Yd Q b k i l → (∀ x ∈ s, Q x) → ∀ x ∈ (ZT (fun s => s) YP b k i l s).2, Q x := by
      intro l
      induction l with
      | nil => intro _ i s _ hs; rw [ZT]; exact hs
      | cons t l ihl => intro hl i s hh hs; rw [Yd] at hh; rw [ZT]; exact ihl (fun x hx => hl x (by simp [hx])) _ _ hh.2 (hl t (by simp) _ _ hh.1 hs)
    have hC : ∀ (l : List (Pt × Tm)), (∀ t ∈ l, ∀ b s, Z8 Q b t.2 → (∀ x ∈ s, Q x) → ∀ x ∈ (Z2 (fun s => s) YP b t.2 s).2, Q x) → ∀ s, Ym Q b l → (∀ x ∈ s, Q x) → ∀ x ∈ (ZY (fun s => s) YP b l s).2, Q x := by
      intro l
      induction l with
      | nil => intro _ s _ hs; rw [ZY]; exact hs
      | cons t l ihl => obtain ⟨p, t⟩ := t; intro hl s hh hs; rw [Ym] at hh; rw [ZY]; exact ihl (fun x hx => hl x (by simp [hx])) _ hh.2 (hl (p, t) (by simp) _ _ hh.1 hs)
    rw [Z2]
    split
    · rename_i hk
      simp only [YP, addK]
      split
      · exact hs
      · intro x hx
        simp only [List.mem_append, List.mem_cons, List.not_mem_nil, or_false] at hx
        first
          | (rcases hx with hx | rfl; exact hs x hx; exact h.1 hk)
          | (rcases hx with rfl | hx; exact h.1 hk; exact hs x hx)
    · exact hC cases ih' _ h.2.2 (hK kids ih 0 s h.2.1 hs)
theorem freeP_all {Q : Int → Prop} {t : Tm} (h : Z8 Q 0 t) : ∀ x ∈ Zy t, Q x := by
  intro x hx
  unfold Zy upTo at hx
  obtain ⟨i, hi, rfl⟩ := List.mem_map.1 hx
  obtain ⟨h1, h2⟩ := List.mem_filter.1 hi
  rw [metF_get _ _ (by simpa using h1)] at h2
  exact met_all t 0 [] h (by simp) _ (of_decide_eq_true h2)
theorem err_all {d m : Int} (t : Tm) : ∀ b, 0 ≤ b → ZC d m b t = 0 → Z8 (fun x => 0 ≤ x ∧ x < d) b t := by
  induction t using Tm.ind with
  | h k n r kids cases ih ih' =>
    intro b hb h
    obtain ⟨h1, h2, h3, h4⟩ := nErr_iff.1 h
    have hK : ∀ (l : List Tm), (∀ t ∈ l, ∀ b, 0 ≤ b → ZC d m b t = 0 → Z8 (fun x => 0 ≤ x ∧ x < d) b t) → ∀ i, ZM d m b k i l = 0 → Yd (fun x => 0 ≤ x ∧ x < d) b k i l := by
      intro l
      induction l with
      | nil => intro _ i _; rw [Yd]; trivial
      | cons t l ihl =>
        intro hl i hh
        obtain ⟨a1, a2⟩ := nErrK_cons.1 hh
        have := more_le k i
        rw [Yd]; exact ⟨hl t (by simp) _ (by omega) a1, ihl (fun x hx => hl x (by simp [hx])) _ a2⟩
    have hC : ∀ (l : List (Pt × Tm)), (∀ t ∈ l, ∀ b, 0 ≤ b → ZC d m b t.2 = 0 → Z8 (fun x => 0 ≤ x ∧ x < d) b t.2) → Yi d m b l = 0 → Ym (fun x => 0 ≤ x ∧ x < d) b l := by
      intro l
      induction l with
      | nil => intro _ _; rw [Ym]; trivial
      | cons t l ihl =>
        obtain ⟨p, t⟩ := t
        intro hl hh
        obtain ⟨a1, a2⟩ := nErrC_cons.1 hh
        rw [Ym]; exact ⟨hl (p, t) (by simp) _ (by omega) a1, ihl (fun x hx => hl x (by simp [hx])) a2⟩
    rw [Z8]
    refine ⟨fun hk => ?_, hK kids ih 0 h3, hC cases ih' h4⟩
    obtain ⟨e, hle⟩ := hk
    subst e
    have := (nHead_var h1).2.2.2
    omega
end Go.Proofs.YtjhenmdcnbaobaaGreat.Hs
/-! What holds of all that is free. -/
namespace Go.Proofs.YtjhenmdcnbaobaaGreat.Hs
open Go Go.Proofs
set_option maxRecDepth 100000
theorem allV_mono {Q Q' : Int → Prop} (hQ : ∀ x, Q x → Q' x) (t : Tm) : ∀ b, Z8 Q b t → Z8 Q' b t := by
  induction t using Tm.ind with
  | h k n r kids cases ih ih' =>
    intro b h
    rw [Z8] at h ⊢
    refine ⟨fun q => hQ _ (h.1 q), ?_, ?_⟩
    · have : ∀ (l : List Tm), (∀ x ∈ l, ∀ b, Z8 Q b x → Z8 Q' b x) → ∀ i, Yd Q b k i l → Yd Q' b k i l := by
        intro l
        induction l with
        | nil => intro _ i _; rw [Yd]; trivial
        | cons t l ihl => intro hl i q; rw [Yd] at q ⊢; exact ⟨hl t (by simp) _ q.1, ihl (fun x hx => hl x (by simp [hx])) _ q.2⟩
      exact this kids ih 0 h.2.1
    · have : ∀ (l : List (Pt × Tm)), (∀ x ∈ l, ∀ b, Z8 Q b x.2 → Z8 Q' b x.2) → Ym Q b l → Ym Q' b l := by
        intro l
        induction l with
        | nil => intro _ _; rw [Ym]; trivial
        | cons t l ihl => obtain ⟨p, t⟩ := t; intro hl q; rw [Ym] at q ⊢; exact ⟨hl (p, t) (by simp) _ q.1, ihl (fun x hx => hl x (by simp [hx])) q.2⟩
      exact this cases ih' h.2.2
theorem met_mono (t : Tm) : ∀ b s, ∀ x ∈ s, x ∈ (Z2 (fun s => s) YP b t s).2 := by
  induction t using Tm.ind with
  | h k n r kids cases ih ih' =>
    intro b s x hx
    have hK : ∀ (l : List Tm), (∀ t ∈ l, ∀ b s, ∀ x ∈ s, x ∈ (Z2 (fun s => s) YP b t s).2) → ∀ i s, ∀ x ∈ s, x ∈ (ZT (fun s => s) YP b k i l s).2 := by
      intro l
      induction l with
      | nil => intro _ i s x hx; rw [ZT]; exact hx
      | cons t l ihl => intro hl i s x hx; rw [ZT]; exact ihl (fun x hx => hl x (by simp [hx])) _ _ _ (hl t (by simp) _ _ _ hx)
    have hC : ∀ (l : List (Pt × Tm)), (∀ t ∈ l, ∀ b s, ∀ x ∈ s, x ∈ (Z2 (fun s => s) YP b t.2 s).2) → ∀ s, ∀ x ∈ s, x ∈ (ZY (fun s => s) YP b l s).2 := by
      intro l
      induction l with
      | nil => intro _ s x hx; rw [ZY]; exact hx
      | cons t l ihl => obtain ⟨p, t⟩ := t; intro hl s x hx; rw [ZY]; exact ihl (fun x hx => hl x (by simp [hx])) _ _ (hl (p, t) (by simp) _ _ _ hx)
    rw [Z2]
    split
    · simp only [YP, addK]
      split
      · exact hx
      · simp [hx]
    · exact hC cases ih' _ _ (hK kids ih 0 s x hx)
theorem met_in (t : Tm) : tidy t → ∀ b s, Z8 (fun x => x ∈ (Z2 (fun s => s) YP b t s).2) b t := by
  induction t using Tm.ind with
  | h k n r kids cases ih ih' =>
    intro ht b s
    rw [tidy] at ht
    obtain ⟨h1, h2, h3⟩ := ht
    have hK : ∀ (l : List Tm), tidys l → (∀ t ∈ l, tidy t → ∀ b s, Z8 (fun x => x ∈ (Z2 (fun s => s) YP b t s).2) b t) → ∀ i s, Yd (fun x => x ∈ (ZT (fun s => s) YP b k i l s).2) b k i l := by
      intro l
      induction l with
      | nil => intro _ _ i s; rw [Yd]; trivial
      | cons t l ihl =>
        intro ht hl i s
        rw [tidys] at ht
        rw [Yd]
        have hm : ∀ (l : List Tm) i s, ∀ x ∈ s, x ∈ (ZT (fun s => s) YP b k i l s).2 := by
          intro l
          induction l with
          | nil => intro i s x hx; rw [ZT]; exact hx
          | cons t l ihl => intro i s x hx; rw [ZT]; exact ihl _ _ _ (met_mono t _ _ _ hx)
        refine ⟨?_, ?_⟩
        · refine allV_mono (fun x hx => ?_) t _ (hl t (by simp) ht.1 (b + more k i) s)
          rw [ZT]; exact hm _ _ _ _ hx
        · have := ihl ht.2 (fun x hx => hl x (by simp [hx])) (i + 1) (Z2 (fun s => s) YP (b + more k i) t s).2
          rw [ZT]; exact this
    have hC : ∀ (l : List (Pt × Tm)), tidyc l → (∀ t ∈ l, tidy t.2 → ∀ b s, Z8 (fun x => x ∈ (Z2 (fun s => s) YP b t.2 s).2) b t.2) → ∀ s, Ym (fun x => x ∈ (ZY (fun s => s) YP b l s).2) b l := by
      intro l
      induction l with
      | nil => intro _ _ s; rw [Ym]; trivial
      | cons t l ihl =>
        obtain ⟨p, t⟩ := t
        intro ht hl s
        rw [tidyc] at ht
        rw [Ym]
        have hm : ∀ (l : List (Pt × Tm)) s, ∀ x ∈ s, x ∈ (ZY (fun s => s) YP b l s).2 := by
          intro l
          induction l with
          | nil => intro s x hx; rw [ZY]; exact hx
          | cons t l ihl => obtain ⟨p, t⟩ := t; intro s x hx; rw [ZY]; exact ihl _ _ (met_mono t _ _ _ hx)
        refine ⟨?_, ?_⟩
        · refine allV_mono (fun x hx => ?_) t _ (hl (p, t) (by simp) ht.1 (b + (binds p : Int)) s)
          rw [ZY]; exact hm _ _ _ hx
        · have := ihl ht.2 (fun x hx => hl x (by simp [hx])) (Z2 (fun s => s) YP (b + (binds p : Int)) t s).2
          rw [ZY]; exact this
    have hCm : ∀ (l : List (Pt × Tm)) s, ∀ x ∈ s, x ∈ (ZY (fun s => s) YP b l s).2 := by
      intro l
      induction l with
      | nil => intro s x hx; rw [ZY]; exact hx
      | cons t l ihl => obtain ⟨p, t⟩ := t; intro s x hx; rw [ZY]; exact ihl _ _ (met_mono t _ _ _ hx)
    rw [Z8, Z2]
    by_cases hk : k = 1 ∧ b ≤ n
    · rw [if_pos hk]
      obtain ⟨rfl, rfl, rfl⟩ := h1 hk.1
      refine ⟨fun _ => ?_, by rw [Yd]; trivial, by rw [Ym]; trivial⟩
      simp only [YP, addK]
      split
      · assumption
      · simp
    · rw [if_neg hk]
      refine ⟨fun q => absurd q hk, ?_, hC cases h3 ih' _⟩
      have : ∀ (l : List Tm) i {Q Q' : Int → Prop}, (∀ x, Q x → Q' x) → Yd Q b k i l → Yd Q' b k i l := by
        intro l
        induction l with
        | nil => intro i Q Q' _ _; rw [Yd]; trivial
        | cons t l ihl => intro i Q Q' hq q; rw [Yd] at q ⊢; exact ⟨allV_mono hq _ _ q.1, ihl _ hq q.2⟩
      exact this kids 0 (fun x hx => hCm _ _ _ hx) (hK kids h2 ih 0 s)
theorem free_allV {t : Tm} {p : Int → Bool} (ht : tidy t) (hb : Z8 (fun x => 0 ≤ x ∧ x < 60) 0 t) (h : (Zy t).all p = true) : Z8 (fun x => p x = true) 0 t := by
  have h1 := met_in t ht 0 []
  have : ∀ (t : Tm) b {Q Q' : Int → Prop}, Z8 Q b t → Z8 Q' b t → Z8 (fun x => Q x ∧ Q' x) b t := by
    intro t
    induction t using Tm.ind with
    | h k n r kids cases ih ih' =>
      intro b Q Q' h1 h2
      rw [Z8] at h1 h2 ⊢
      refine ⟨fun q => ⟨h1.1 q, h2.1 q⟩, ?_, ?_⟩
      · have : ∀ (l : List Tm), (∀ x ∈ l, ∀ b {Q Q' : Int → Prop}, Z8 Q b x → Z8 Q' b x → Z8 (fun x => Q x ∧ Q' x) b x) → ∀ i, Yd Q b k i l → Yd Q' b k i l → Yd (fun x => Q x ∧ Q' x) b k i l := by
          intro l
          induction l with
          | nil => intro _ i _ _; rw [Yd]; trivial
          | cons t l ihl => intro hl i q1 q2; rw [Yd] at q1 q2 ⊢; exact ⟨hl t (by simp) _ q1.1 q2.1, ihl (fun x hx => hl x (by simp [hx])) _ q1.2 q2.2⟩
        exact this kids ih 0 h1.2.1 h2.2.1
      · have : ∀ (l : List (Pt × Tm)), (∀ x ∈ l, ∀ b {Q Q' : Int → Prop}, Z8 Q b x.2 → Z8 Q' b x.2 → Z8 (fun x => Q x ∧ Q' x) b x.2) → Ym Q b l → Ym Q' b l → Ym (fun x => Q x ∧ Q' x) b l := by
          intro l
          induction l with
          | nil => intro _ _ _; rw [Ym]; trivial
          | cons t l ihl => obtain ⟨p, t⟩ := t; intro hl q1 q2; rw [Ym] at q1 q2 ⊢; exact ⟨hl (p, t) (by simp) _ q1.1 q2.1, ihl (fun x hx => hl x (by simp [hx])) q1.2 q2.2⟩
        exact this cases ih' h1.2.2 h2.2.2
  refine allV_mono (fun x hx => ?_) t 0 (this t 0 h1 hb)
  obtain ⟨h1, h2, h3⟩ := hx
  refine (List.all_eq_true.1 h) x ?_
  unfold Zy upTo
  refine List.mem_map.2 ⟨x.toNat, List.mem_filter.2 ⟨List.mem_range.2 (by omega), ?_⟩, by omega⟩
  rw [metF_get _ _ (by omega), decide_eq_true_iff, Int.toNat_of_nonneg h2]
  exact h1
end Go.Proofs.YtjhenmdcnbaobaaGreat.Hs
/-! Terms that are drawn, in YU Lean: nodes that are right where their parts are. No program here. -/
namespace Go.Proofs.YtjhenmdcnbaobaaGreat.Hs
open Go
theorem nHead_in {d m b c k n : Int} {r : Sm} {l lc : Nat} (hc : 0 ≤ c) (h : YD (d + c) m b k n r l lc = 0) : YD d m (b + c) k n r l lc = 0 := by
  refine nHead_mono h (fun e => ?_) (Int.le_refl m)
  subst e
  have := (nHead_var h).2.2.2
  omega
theorem nErr_in {d m c : Int} (hc : 0 ≤ c) (t : Tm) : ∀ b, ZC (d + c) m b t = 0 → ZC d m (b + c) t = 0 := by
  induction t using Tm.ind with
  | h k n r kids cases ih ih' =>
    intro b h
    obtain ⟨h1, h2, h3, h4⟩ := nErr_iff.1 h
    have hK : ∀ (l : List Tm), (∀ t ∈ l, ∀ b, ZC (d + c) m b t = 0 → ZC d m (b + c) t = 0) → ∀ i, ZM (d + c) m b k i l = 0 → ZM d m (b + c) k i l = 0 := by
      intro l
      induction l with
      | nil => intro _ i _; simp [ZM]
      | cons t l ihl =>
        intro hl i hh
        obtain ⟨a1, a2⟩ := nErrK_cons.1 hh
        have := hl t (by simp) _ a1
        exact nErrK_cons.2 ⟨by rwa [show b + c + more k i = b + more k i + c from by omega], ihl (fun x hx => hl x (by simp [hx])) _ a2⟩
    have hC : ∀ (l : List (Pt × Tm)), (∀ t ∈ l, ∀ b, ZC (d + c) m b t.2 = 0 → ZC d m (b + c) t.2 = 0) → Yi (d + c) m b l = 0 → Yi d m (b + c) l = 0 := by
      intro l
      induction l with
      | nil => intro _ _; simp [Yi]
      | cons t l ihl =>
        obtain ⟨p, t⟩ := t
        intro hl hh
        obtain ⟨a1, a2⟩ := nErrC_cons.1 hh
        have := hl (p, t) (by simp) _ a1
        exact nErrC_cons.2 ⟨by rwa [show b + c + (binds p : Int) = b + (binds p : Int) + c from by omega], ihl (fun x hx => hl x (by simp [hx])) a2⟩
    exact nErr_iff.2 ⟨nHead_in hc h1, h2, hK kids ih 0 h3, hC cases ih' h4⟩
theorem nErr_in0 {d m c : Int} (hc : 0 ≤ c) {t : Tm} (h : ZC (d + c) m 0 t = 0) : ZC d m (0 + c) t = 0 := nErr_in hc t 0 h
theorem nErrK_snoc {d m b k : Int} {t : Tm} {l : List Tm} : ∀ {i : Nat}, ZM d m b k i l = 0 → ZC d m (b + more k ((i + l.length : Nat) : Int)) t = 0 → ZM d m b k i (l ++ [t]) = 0 := by
  induction l with
  | nil => intro i _ h; exact nErrK_cons.2 ⟨by simpa using h, by simp [ZM]⟩
  | cons x l ih =>
    intro i h h'
    obtain ⟨a1, a2⟩ := nErrK_cons.1 h
    simp only [List.cons_append]
    exact nErrK_cons.2 ⟨a1, ih a2 (by rwa [show i + 1 + l.length = i + (x :: l).length from by simp; omega])⟩
theorem nErrC_snoc {d m b : Int} {p : Pt} {t : Tm} {l : List (Pt × Tm)} : Yi d m b l = 0 → ZC d m (b + (binds p : Int)) t = 0 → Yi d m b (l ++ [(p, t)]) = 0 := by
  induction l with
  | nil => intro _ h; exact nErrC_cons.2 ⟨h, by simp [Yi]⟩
  | cons x l ih =>
    obtain ⟨q, x⟩ := x
    intro h h'
    obtain ⟨a1, a2⟩ := nErrC_cons.1 h
    simp only [List.cons_append]
    exact nErrC_cons.2 ⟨a1, ih a2 h'⟩
theorem pErrRC_snoc {p : Pt} {t : Tm} {l : List (Pt × Tm)} (h : Ys l = 0) (hp : YL p = 0) : Ys (l ++ [(p, t)]) = 0 := by
  induction l with
  | nil => simp [Ys, hp]
  | cons x l ih =>
    rw [Ys] at h
    split at h
    · rename_i h0; simp only [List.cons_append]; rw [Ys, if_pos h0]; exact ih h
    · rename_i h0; exact absurd h h0
theorem pErrRL_snoc {p : Pt} {l : List Pt} (h : YX l = 0) (hp : YL p = 0) : YX (l ++ [p]) = 0 := by
  induction l with
  | nil => simp [YX, hp]
  | cons x l ih =>
    rw [YX] at h
    split at h
    · rename_i h0; simp only [List.cons_append]; rw [YX, if_pos h0]; exact ih h
    · rename_i h0; exact absurd h h0
theorem pErrR_any : YL (.mk 1 0 zS []) = 0 := by rfl
theorem pErrR_num {n : Int} (h0 : 0 ≤ n) (h1 : n ≤ 1000) : YL (.mk 2 n zS []) = 0 := by
  have : pHead 2 n zS 0 = 0 := by unfold pHead; simp; omega
  rw [YL]; simp only [List.length_nil]; rw [if_pos this]; rfl
theorem pErrR_con {n : Int} {r : Sm} {l : List Pt} (h0 : 0 ≤ n) (h1 : n ≤ 7) (hl : l.length ≤ 4) (h : YX l = 0) : YL (.mk 3 n r l) = 0 := by
  have : pHead 3 n r l.length = 0 := by unfold pHead; simp; omega
  rw [YL, if_pos this, h]
section
variable {d m : Int} {t u : Tm} {r : Sm} {n : Int}
theorem nErr_self (h0 : 0 ≤ n) (h1 : n < m) : ZC d m 0 (.mk 7 n zS [] []) = 0 := nErr_iff.2 ⟨by unfold YD Yo Yn loK hiK; simp; omega, rfl, rfl, rfl⟩
theorem nErr_def : ZC d m 0 (.mk 6 0 r [] []) = 0 := nErr_iff.2 ⟨by unfold YD Yo Yn loK hiK; simp, rfl, rfl, rfl⟩
theorem nErr_nat (h0 : 0 ≤ n) (h1 : n ≤ 1000) : ZC d m 0 (.mk 2 n zS [] []) = 0 := nErr_iff.2 ⟨by unfold YD Yo Yn loK hiK; simp; omega, rfl, rfl, rfl⟩
theorem nErr_lam (h : ZC (d + 1) m 0 t = 0) : ZC d m 0 (.mk 3 0 zS [t] []) = 0 :=
  nErr_iff.2 ⟨by unfold YD Yo Yn loK hiK; simp, rfl, nErrK_cons.2 ⟨nErr_in0 (by decide) h, by simp [ZM]⟩, rfl⟩
theorem nErr_app (h : ZC d m 0 t = 0) (h' : ZC d m 0 u = 0) : ZC d m 0 (.mk 4 0 zS [t, u] []) = 0 :=
  nErr_iff.2 ⟨by unfold YD Yo Yn loK hiK; simp, rfl, nErrK_cons.2 ⟨h, nErrK_cons.2 ⟨h', by simp [ZM]⟩⟩, rfl⟩
theorem nErr_let (h : ZC d m 0 t = 0) (h' : ZC (d + 1) m 0 u = 0) : ZC d m 0 (.mk 5 0 zS [t, u] []) = 0 :=
  nErr_iff.2 ⟨by unfold YD Yo Yn loK hiK; simp, rfl, nErrK_cons.2 ⟨h, nErrK_cons.2 ⟨nErr_in0 (by decide) h', by simp [ZM]⟩⟩, rfl⟩
theorem nErr_prim (h0 : 1 ≤ n) (h1 : n ≤ 5) (h : ZC d m 0 t = 0) (h' : ZC d m 0 u = 0) : ZC d m 0 (.mk 10 n zS [t, u] []) = 0 :=
  nErr_iff.2 ⟨by unfold YD Yo Yn loK hiK; simp; omega, rfl, nErrK_cons.2 ⟨h, nErrK_cons.2 ⟨h', by simp [ZM]⟩⟩, rfl⟩
theorem nErr_ask (h0 : 0 ≤ n) (h1 : n ≤ 7) (h : ZC d m 0 t = 0) : ZC d m 0 (.mk 11 n r [t] []) = 0 :=
  nErr_iff.2 ⟨by unfold YD Yo Yn loK hiK; simp; omega, rfl, nErrK_cons.2 ⟨h, by simp [ZM]⟩, rfl⟩
theorem nErrK_han (h : ZC d m 0 t = 0) (h' : ZC (d + 1) m 0 u = 0) : ZM d m 0 12 0 [t, u] = 0 :=
  nErrK_cons.2 ⟨h, nErrK_cons.2 ⟨nErr_in0 (by decide) h', by simp [ZM]⟩⟩
theorem nErrK_han_snoc {l : List Tm} (hl : 2 ≤ l.length) (h : ZM d m 0 12 0 l = 0) (h' : ZC (d + 2) m 0 t = 0) : ZM d m 0 12 0 (l ++ [t]) = 0 := by
  refine nErrK_snoc h ?_
  have : more 12 ((0 + l.length : Nat) : Int) = 2 := by unfold more; simp; omega
  rw [this]; exact nErr_in0 (by decide) h'
theorem nErr_han {l : List Tm} (h0 : 2 ≤ l.length) (h1 : l.length ≤ 10) (h : ZM d m 0 12 0 l = 0) : ZC d m 0 (.mk 12 0 r l []) = 0 :=
  nErr_iff.2 ⟨by unfold YD Yo Yn loK hiK; simp; omega, rfl, h, rfl⟩
theorem nErr_mat {l : List (Pt × Tm)} (h1 : l.length ≤ 8) (h : ZC d m 0 t = 0) (hp : Ys l = 0) (hc : Yi d m 0 l = 0) : ZC d m 0 (.mk 9 0 zS [t] l) = 0 :=
  nErr_iff.2 ⟨by unfold YD Yo Yn loK hiK; simp; omega, hp, nErrK_cons.2 ⟨h, by simp [ZM]⟩, hc⟩
theorem nErrC_mat {l : List (Pt × Tm)} {p : Pt} (h : Yi d m 0 l = 0) (h' : ZC (d + (binds p : Int)) m 0 t = 0) : Yi d m 0 (l ++ [(p, t)]) = 0 := nErrC_snoc h (nErr_in0 (by omega) h')
theorem nErrK_con {l : List Tm} (h : ZM d m 0 8 0 l = 0) (h' : ZC d m 0 t = 0) : ZM d m 0 8 0 (l ++ [t]) = 0 := nErrK_snoc h (by simpa [more] using h')
theorem nErr_con {l : List Tm} (h0 : 0 ≤ n) (h1 : n ≤ 7) (hl : l.length ≤ 4) (h : ZM d m 0 8 0 l = 0) : ZC d m 0 (.mk 8 n r l []) = 0 :=
  nErr_iff.2 ⟨by unfold YD Yo Yn loK hiK; simp; omega, rfl, h, rfl⟩
end
theorem OTs1 {t : Tm} {a : List Value} {k : Zf} (h : OT t a k) : OTs [t] [a] k := by
  rw [OTs]; exact ⟨a, [], k, [], rfl, h, OTs.nil, by simp⟩
theorem OTs2 {t u : Tm} {a b : List Value} {k k' : Zf} (h : OT t a k) (h' : OT u b k') : OTs [t, u] [a, b] (k ++ k') := by
  rw [OTs]; exact ⟨a, [b], k, k', rfl, h, OTs1 h', rfl⟩
theorem OT_row {k n : Int} {r : Sm} {v : Value} {es : List (List Value)} {kids : List Tm} {k1 k2 : Zf} (hk : inI k) (hn : inI n) (ho : Own 28 36 v es k1) (hs : OTs kids es k2) (hl : kids.length ≤ 1000) :
    OT (.mk k n r kids []) (pkT k n r v (.slice none 0 0)) (k1 ++ k2) :=
  OT_mk.2 ⟨_, _, es, [], k1, k2, [], [], rfl, hk, hn, ho, hs, Own.nil, OCs.nil, by simp, by omega, by simp⟩
theorem pErrRL_mem {l : List Pt} (h : YX l = 0) : ∀ p ∈ l, YL p = 0 := by
  induction l with
  | nil => intro p hp; cases hp
  | cons q l ih =>
    rw [YX] at h
    split at h
    · rename_i h0
      intro p hp
      rcases List.mem_cons.1 hp with rfl | hp
      · exact h0
      · exact ih h p hp
    · rename_i h0; exact absurd h h0
theorem pErrR_open {k n : Int} {r : Sm} {kids : List Pt} (h : YL (.mk k n r kids) = 0) : YX kids = 0 ∧ (k = 1 ∨ k = 3 ∨ (k = 2 ∧ kids = [])) := by
  rw [YL] at h
  split at h
  · rename_i h0
    refine ⟨h, ?_⟩
    unfold pHead at h0
    by_cases h1 : k < 1 ∨ 3 < k
    · rw [if_pos h1] at h0; cases h0
    rw [if_neg h1] at h0
    split at h0
    · cases h0
    split at h0
    · cases h0
    rename_i h3
    by_cases e : k = 2
    · right; right
      refine ⟨e, List.eq_nil_of_length_eq_zero ?_⟩
      omega
    · omega
  · rename_i h0; exact absurd h h0
theorem drawn_ok {d m : Int} {t : Tm} (h : ZC d m 0 t = 0) (h11 : ¬ Yg d m t = 11) : Yg d m t = 0 := by
  rw [check_eq] at h11 ⊢
  rw [checkR_iff]
  refine ⟨?_, h⟩
  unfold ZW at h11
  cases hl : YE t with
  | false => rfl
  | true => rw [hl] at h11; exact absurd rfl h11
theorem drawn_nu {d m : Int} : Yg d m (eNu 1) = 0 := by
  rw [check_eq, checkR_iff]
  exact ⟨by kernel_rfl, nErr_nat (by decide) (by decide)⟩
def pz : Nat → Nat
  | 0 => 1
  | d + 1 => 1 + 2 * pz d
def dz : Nat → Nat
  | 0 => 2
  | d + 1 => 4 + 2 * dz d
theorem pz_pos {d : Nat} (h : 0 < d) : pz d = 1 + 2 * pz (d - 1) := by
  obtain ⟨e, rfl⟩ : ∃ e, d = e + 1 := ⟨d - 1, by omega⟩
  rfl
theorem dz_pos {d : Nat} (h : 0 < d) : dz d = 4 + 2 * dz (d - 1) := by
  obtain ⟨e, rfl⟩ : ∃ e, d = e + 1 := ⟨d - 1, by omega⟩
  rfl
theorem pz_ge (d : Nat) : 1 ≤ pz d := by cases d <;> simp [pz]
theorem dz_ge (d : Nat) : 2 ≤ dz d := by cases d <;> simp [dz]; omega
theorem dz_le {d : Nat} (h : d ≤ 2) : dz d ≤ 20 := by
  rcases d with _ | _ | _ | d
  · decide
  · decide
  · decide
  · omega
theorem sizeTs_snoc (l : List Tm) (t : Tm) : sizeTs (l ++ [t]) = sizeTs l + sizeT t := by
  induction l with
  | nil => simp [sizeTs]
  | cons x l ih => simp only [List.cons_append, sizeTs, ih]; omega
theorem sizeCs_snoc (l : List (Pt × Tm)) (p : Pt) (t : Tm) : sizeCs (l ++ [(p, t)]) = sizeCs l + sizeP p + sizeT t := by
  induction l with
  | nil => simp [sizeCs]
  | cons x l ih => obtain ⟨q, x⟩ := x; simp only [List.cons_append, sizeCs, ih]; omega
theorem sizePs_snoc (l : List Pt) (p : Pt) : ZR (l ++ [p]) = ZR l + sizeP p := by
  induction l with
  | nil => simp [ZR]
  | cons x l ih => simp only [List.cons_append, ZR, ih]; omega
end Go.Proofs.YtjhenmdcnbaobaaGreat.Hs
/-! Layer 4, the YU law of moving: what Shift and Subst answer about terms that are right. No program here. -/
namespace Go.Proofs.YtjhenmdcnbaobaaGreat.Hs
open Go Go.Proofs
theorem right2 {d m d' m' : Int} {t u : Tm} (h : ZW d m t = 0) (hd : d ≤ 60) (hm : m ≤ 8) (h' : ZW d' m' u = 0) (hd' : d' ≤ 60) (hm' : m' ≤ 8) : ZK [t, u] = 0 := by
  rw [rightT_two, if_pos (Yc hd hm h)]; exact Yc hd' hm' h'
section
variable {d m : Int} {t u : Tm} {n k y : Int}
theorem substP_ok (ht : ZW 60 8 t = 0) (hu : ZW 60 8 u = 0) (hn : 0 ≤ n ∧ n ≤ 59) (hl : YE (sbT n u t) = false) : YM t n u = (sbT n u t, 0) := by
  rw [YM, if_pos (right2 ht (Int.le_refl _) (Int.le_refl _) hu (Int.le_refl _) (Int.le_refl _)), if_neg (by omega), hl]; rfl
theorem substP_long (ht : ZW 60 8 t = 0) (hu : ZW 60 8 u = 0) (hn : 0 ≤ n ∧ n ≤ 59) (hl : YE (sbT n u t) = true) : YM t n u = (zT, 11) := by
  rw [YM, if_pos (right2 ht (Int.le_refl _) (Int.le_refl _) hu (Int.le_refl _) (Int.le_refl _)), if_neg (by omega), hl]; rfl
end
/-! two terms put, in either order -/
section
variable {t u v : Tm} (ht : ZW 4 2 t = 0) (hu : ZW 2 2 u = 0) (hv : ZW 2 2 v = 0)
include ht hu
end
end Go.Proofs.YtjhenmdcnbaobaaGreat.Hs
